/- Part of the proof of ImageWhole: the machine, shown to be the model's, and plain models. No conditions. -/
import Derived.Test.YtchbpckkmgcgkaaGreatBp
set_option linter.unusedSimpArgs false
set_option linter.unusedVariables false
section
namespace Go.K
open Go Go.aF
structure amE where
 cs:List Value
 cc:Nat
 own:Bool
 bV:Option (Nat×Nat)
structure Env where
 κ:Nat->Option Nat
 z:Nat->Option amE
 φ:Nat->Option Nat
 α:Nat->Option (Nat×Nat×Nat)
structure Env.le (E E' : Env):Prop where
 α:∀ b p,E.α b=some p->E'.α b=some p
 κ:∀ b x,E.κ b=some x->E'.κ b=some x
 z:∀ b r,E.z b=some r->E'.z b=some r
 φ:∀ b g,E.φ b=some g->E'.φ b=some g
theorem Env.le_refl (E:Env):E.le E:=⟨fun _ _ h=>h,fun _ _ h=>h,fun _ _ h=>h,fun _ _ h=>h⟩
theorem Env.le_trans {E F G:Env} (h:E.le F) (k:F.le G):E.le G:=⟨fun b p e=>k.α b p (h.α b p e),fun b x e=>k.κ b x (h.κ b x e),fun b x e=>k.z b x (h.z b x e),fun b x e=>k.φ b x (h.φ b x e)⟩
def ss (sz off:Nat) (cs es:List Value):Prop:=∀ (i:Nat) (x:Value),es[i]? = some x->x.cells.size=sz/\∀ (k:Nat) (y:Value),x.cells[k]? = some y->cs[off+i * sz+k]? = some y
def af1 (E:Env) (sz:Nat) (a:Option Addr) (n:Nat) (es:List Value):Prop:=
 (a=none/\n=0)\/∃ b off r,a=some ⟨b,off,none⟩/\E.z b=some r/\r.cc=sz/\ss sz off r.cs es
def Wn (E:Env) (sz:Nat) (a:Option Addr) (n cap:Nat):Mk->Prop
 | .any=>True
 | .exact=>cap=n/\∀ b off,a=some ⟨b,off,none⟩->∃ r,E.z b=some r/\r.own=true/\r.bV=none/\off+cap * sz=r.cs.length
 | .aZ f=>cap=n/\((n=0/\a=none)\/∃ b r g,a=some ⟨b,0,none⟩/\E.z b=some r/\r.own=true/\E.φ f=some g/\r.bV=some (g,0)/\r.cs.length=n * sz)
structure ko (P:Program) (T:TypeId) (n:Nat) (es:List KV) (acc:Nat->KV):Prop where
 len:n=es.length
 acc:∀ i,i < n->acc i=es.getD i .bG
 typed:gY (bu P T) es=true
def bp (P:Program) (T:TypeId):Nat:=(bu P T).ks.length
def amF (P:Program) (E:Env) (T:TypeId) (m:Mk) (n:Nat) (bC:List Value) (v:Value):Prop:=
 ∃ a cap,v = .slice a n cap/\n<=cap/\af1 E (bp P T) a n bC/\Wn E (bp P T) a n cap m
structure af2 (P:Program) (T Tc:TypeId) (k:Nat):Prop where
 is:∀ m c,(bu P Tc).ks[m]? = some c->(bu P T).ks[k+m]? = some c
def amG (P:Program) (E:Env) (T Tc:TypeId) (i k:Nat) (es:List KV) (bC:List Value) (v:Value):Prop:=
 i < es.length/\af2 P T Tc k/\∃ b off r,v = .pointer (some ⟨b,off+i * bp P T+k,none⟩)/\E.z b=some r/\ss (bp P T) off r.cs bC
def ad2 (P:Program) (E:Env) (T:TypeId) (b o n:Nat) (v:Value):Prop:=
 (n=0/\o=0/\v = .slice none 0 0)\/∃ x L N c,E.α b=some (x,L,N)/\v = .slice (some ⟨x,o * bp P T,none⟩) n c/\n<=c/\o+n<=N/\(o+c) * bp P T=L
def aj2 (P:Program) (E:Env) (T Tc:TypeId) (b i k:Nat) (v:Value):Prop:=
 ∃ x L N,E.α b=some (x,L,N)/\af2 P T Tc k/\i < N/\v = .pointer (some ⟨x,i * bp P T+k,none⟩)
mutual
def VK (P:Program) (E:Env):KV->Value->Prop
 | .int k n,v=>v = .int k n
 | .bool b,v=>v = .bool b
 | .str s,v=>v = .string s
 | .agg cs,v=>∃ l,v = .agg ⟨l⟩/\bo P E cs l
 | .lP cs,v=>∃ l,v = .tuple ⟨l⟩/\bo P E cs l
 | .ts T m n es acc,v=>ko P T n es acc/\∃ bC,bo P E es bC/\amF P E T m n bC v
 | .tp T Tc i k es acc,v=>ko P T es.length es acc/\∃ bC,bo P E es bC/\amG P E T Tc i k es bC v
 | .al T b o n,v=>ad2 P E T b o n v
 | .ap T Tc b i k,v=>aj2 P E T Tc b i k v
 | .ptr b off,v=>∃ x,E.κ b=some x/\v = .pointer (some ⟨x,off,none⟩)
 | .sl b off n c,v=>∃ x,E.κ b=some x/\v = .slice (some ⟨x,off,none⟩) n c
 | .JS,v=>v = .pointer none
 | .nS,v=>v = .slice none 0 0
 | .EY,v=>v = .map none
 | .map b,v=>∃ x,E.κ b=some x/\v = .map (some x)
 | .fn f first cap,v=>∃ l m,v = .func f ⟨l⟩ ⟨m⟩/\bo P E first l/\bo P E cap m
 | .Lg,v=>v = .nilFunc
 | .iface t x,v=>∃ y,v = .iface t y/\VK P E x y
 | .Lh,v=>v = .nilIface
 | .bG,_=>True
def bo (P:Program) (E:Env):List KV->List Value->Prop
 | [],l=>l = []
 | x::xs,l=>∃ y ys,l=y::ys/\VK P E x y/\bo P E xs ys
end
variable {P:Program} {E E' : Env}
theorem Wn.mono (h:E.le E') {sz:Nat} {a:Option Addr} {n cap:Nat} {m:Mk} (k:Wn E sz a n cap m):Wn E' sz a n cap m:=by
 cases m with
 | any=>trivial
 | exact=>exact ⟨k.1,fun b off e=>by obtain ⟨r,h1,h2⟩:=k.2 b off e; exact ⟨r,h.z _ _ h1,h2⟩⟩
 | aZ f=>
  refine ⟨k.1,k.2.imp id ?_⟩;rintro ⟨b,r,g,h1,h2,h3,h4,h5⟩;exact ⟨b,r,g,h1,h.z _ _ h2,h3,h.φ _ _ h4,h5⟩
theorem af1.mono (h:E.le E') {sz:Nat} {a:Option Addr} {n:Nat} {es:List Value} (k:af1 E sz a n es):af1 E' sz a n es:=by
 refine k.imp id ?_;rintro ⟨b,off,r,h1,h2,h3⟩;exact ⟨b,off,r,h1,h.z _ _ h2,h3⟩
theorem amF.mono (h:E.le E') {T:TypeId} {m:Mk} {n:Nat} {es:List Value} {v:Value} (k:amF P E T m n es v):amF P E' T m n es v:=by
 obtain ⟨a,cap,h1,h2,h3,h4⟩:=k;exact ⟨a,cap,h1,h2,h3.mono h,h4.mono h⟩
theorem amG.mono (h:E.le E') {T Tc:TypeId} {i k:Nat} {es:List KV} {bC:List Value} {v:Value} (q:amG P E T Tc i k es bC v):amG P E' T Tc i k es bC v:=by
 obtain ⟨h1,h2,b,off,r,h3,h4,h5⟩:=q;exact ⟨h1,h2,b,off,r,h3,h.z _ _ h4,h5⟩
theorem ad2.mono (h:E.le E') {T:TypeId} {b o n:Nat} {v:Value} (q:ad2 P E T b o n v):ad2 P E' T b o n v:=by
 refine q.imp id ?_;rintro ⟨x,L,N,c,h1,h2⟩;exact ⟨x,L,N,c,h.α _ _ h1,h2⟩
theorem aj2.mono (h:E.le E') {T Tc:TypeId} {b i k:Nat} {v:Value} (q:aj2 P E T Tc b i k v):aj2 P E' T Tc b i k v:=by
 obtain ⟨x,L,N,h1,h2⟩:=q;exact ⟨x,L,N,h.α _ _ h1,h2⟩
mutual
theorem VK.mono (h:E.le E'):∀ {v:KV} {v' : Value},VK P E v v'->VK P E' v v'
 | .int k n,v,q=>q
 | .bool b,v,q=>q
 | .str s,v,q=>q
 | .agg cs,v,q=>by
  simp only [VK] at q ⊢;obtain ⟨l,e,q⟩:=q;exact ⟨l,e,bo.mono h q⟩
 | .lP cs,v,q=>by
  simp only [VK] at q ⊢;obtain ⟨l,e,q⟩:=q;exact ⟨l,e,bo.mono h q⟩
 | .ts T m n es acc,v,q=>by
  simp only [VK] at q ⊢;obtain ⟨t,l,q,k⟩:=q;exact ⟨t,l,bo.mono h q,k.mono h⟩
 | .tp T Tc i k es acc,v,q=>by
  simp only [VK] at q ⊢;obtain ⟨t,l,q,k⟩:=q;exact ⟨t,l,bo.mono h q,k.mono h⟩
 | .al T b o n,v,q=>by
  simp only [VK] at q ⊢;exact q.mono h
 | .ap T Tc b i k,v,q=>by
  simp only [VK] at q ⊢;exact q.mono h
 | .ptr b off,v,q=>by
  simp only [VK] at q ⊢;obtain ⟨x,e,q⟩:=q;exact ⟨x,h.κ _ _ e,q⟩
 | .sl b off n c,v,q=>by
  simp only [VK] at q ⊢;obtain ⟨x,e,q⟩:=q;exact ⟨x,h.κ _ _ e,q⟩
 | .JS,v,q=>q
 | .nS,v,q=>q
 | .EY,v,q=>q
 | .map b,v,q=>by
  simp only [VK] at q ⊢;obtain ⟨x,e,q⟩:=q;exact ⟨x,h.κ _ _ e,q⟩
 | .fn f first cap,v,q=>by
  simp only [VK] at q ⊢;obtain ⟨l,m,e,q1,q2⟩:=q;exact ⟨l,m,e,bo.mono h q1,bo.mono h q2⟩
 | .Lg,v,q=>q
 | .iface t x,v,q=>by
  simp only [VK] at q ⊢;obtain ⟨y,e,q⟩:=q;exact ⟨y,e,VK.mono h q⟩
 | .Lh,v,q=>q
 | .bG,v,q=>q
theorem bo.mono (h:E.le E'):∀ {v:List KV} {v' : List Value},bo P E v v'->bo P E' v v'
 | [],_,q=>q
 | x::xs,_,q=>by
  simp only [bo] at q ⊢;obtain ⟨y,ys,e,q1,q2⟩:=q;exact ⟨y,ys,e,VK.mono h q1,bo.mono h q2⟩
end
theorem bo.nil:bo P E [] []:=by simp [bo]
theorem bo.cons {x:KV} {y:Value} {xs:List KV} {ys:List Value} (h:VK P E x y) (k:bo P E xs ys):bo P E (x::xs) (y::ys):=by
 simp only [bo]; exact ⟨y,ys,rfl,h,k⟩
theorem bo.cw {l:List Value} (h:bo P E [] l):l = []:=by simpa [bo] using h
theorem bo.cons_inv {x:KV} {xs:List KV} {l:List Value} (h:bo P E (x::xs) l):∃ y ys,l=y::ys/\VK P E x y/\bo P E xs ys:=by simpa [bo] using h
theorem bo.gu {x:KV} {l:List Value} (h:bo P E [x] l):∃ y,l = [y]/\VK P E x y:=by
 obtain ⟨y,ys,rfl,h1,h2⟩:=h.cons_inv;rw [h2.cw]; exact ⟨y,rfl,h1⟩
theorem bo.nT {x y:KV} {l:List Value} (h:bo P E [x,y] l):∃ x' y',l = [x',y']/\VK P E x x'/\VK P E y y':=by
 obtain ⟨a,ys,rfl,h1,h2⟩:=h.cons_inv;obtain ⟨b,rfl,h3⟩:=h2.gu;exact ⟨a,b,rfl,h1,h3⟩
theorem bo.YK {x y u:KV} {l:List Value} (h:bo P E [x,y,u] l):∃ x' y' u',l = [x',y',u']/\VK P E x x'/\VK P E y y'/\VK P E u u':=by
 obtain ⟨a,ys,rfl,h1,h2⟩:=h.cons_inv;obtain ⟨b,c,rfl,h3,h4⟩:=h2.nT;exact ⟨a,b,c,rfl,h1,h3,h4⟩
theorem bo.length:∀ {l:List KV} {l' : List Value},bo P E l l'->l'.length=l.length
 | [],l',h=>by rw [h.cw]; rfl
 | x::xs,l',h=>by
  obtain ⟨y,ys,rfl,_,k⟩:=h.cons_inv;simp [bo.length k]
theorem bo.get:∀ {l:List KV} {l' : List Value} {i:Nat} {v:KV},bo P E l l'->l[i]? = some v->∃ v',l'[i]? = some v'/\VK P E v v'
 | [],_,_,_,_,e=>by simp at e
 | x::xs,l',i,v,h,e=>by
  obtain ⟨y,ys,rfl,CS,k⟩:=h.cons_inv;cases i with
  | zero=>simp at e; subst e; exact ⟨y,rfl,CS⟩
  | succ i=>simp at e; simpa using bo.get k e
theorem bo.append:∀ {a:List KV} {a' : List Value} {b:List KV} {b' : List Value},bo P E a a'->bo P E b b'->bo P E (a++b) (a'++b')
 | [],a',b,b',h,k=>by rw [h.cw]; exact k
 | x::xs,a',b,b',h,k=>by
  obtain ⟨y,ys,rfl,CS,m⟩:=h.cons_inv;exact .cons CS (bo.append m k)
theorem bo.take:∀ (n:Nat) {l:List KV} {l' : List Value},bo P E l l'->bo P E (l.take n) (l'.take n)
 | 0,_,_,_=>by simp [bo.nil]
 | n+1,[],l',h=>by rw [h.cw]; simp [bo.nil]
 | n+1,x::xs,l',h=>by
  obtain ⟨y,ys,rfl,CS,k⟩:=h.cons_inv;simpa using bo.cons CS (bo.take n k)
theorem bo.drop:∀ (n:Nat) {l:List KV} {l' : List Value},bo P E l l'->bo P E (l.drop n) (l'.drop n)
 | 0,_,_,h=>by simpa using h
 | n+1,[],l',h=>by rw [h.cw]; simp [bo.nil]
 | n+1,x::xs,l',h=>by
  obtain ⟨y,ys,rfl,_,k⟩:=h.cons_inv;simpa using bo.drop n k
theorem Wo {α:Type} : ∀ {n:Nat} {l r:List α},zT n l=some r->r=l.take n/\n<=l.length
 | 0,l,r,h=>by simp [zT] at h; subst h; simp
 | n+1,[],r,h=>by simp [zT] at h
 | n+1,x::xs,r,h=>by
  simp only [zT,de] at h;obtain ⟨q,hq,rfl⟩:=h;obtain ⟨rfl,hn⟩:=Wo hq;exact ⟨by simp,by simpa using hn⟩
theorem Pu {α:Type} : ∀ (n:Nat) (l:List α),GH n l=l.drop n
 | 0,l=>rfl
 | n+1,[]=>rfl
 | n+1,x::xs=>by simp [GH,Pu n xs]
theorem Pv:∀ {n:Nat} {l:List Value},n<=l.length->takeN n l=some (l.take n)
 | 0,l,_=>rfl
 | n+1,[],h=>by simp at h
 | n+1,x::xs,h=>by rw [adQ,Pv (n:=n) (l:=xs) (by simpa using h)]; rfl
theorem bo.zT {n k:Nat} {l r:List KV} {l' : List Value} (h:bo P E l l') (e:zT n (GH k l)=some r):∃ r',takeN n (K5 k l')=some r'/\bo P E r r'/\r' = (l'.drop k).take n:=by
 obtain ⟨rfl,hn⟩:=Wo e;rw [Pu] at hn ⊢;have hl:=h.length;rw [wo];refine ⟨_,Pv ?_,(h.drop k).take n,rfl⟩;simp only [List.length_drop] at hn ⊢;omega
theorem bo.od:∀ {n:Nat} {l:List KV} {l' : List Value} {vs r:List KV} {cU:List Value},od n l vs=some r->bo P E l l'->bo P E vs cU->∃ r',jw n l' cU=some r'/\bo P E r r'
 | 0,l,l',[],r,cU,h,hl,hv=>by simp [K.od] at h; subst h; rw [hv.cw]; exact ⟨l',Dy l',hl⟩
 | 0,[],l',_::_,r,cU,h,hl,hv=>by simp [K.od] at h
 | 0,x::l,l',v::vs,r,cU,h,hl,hv=>by
  obtain ⟨y,ys,rfl,_,k⟩:=hl.cons_inv;obtain ⟨u,us,rfl,h1,h2⟩:=hv.cons_inv;simp only [K.od,de] at h;obtain ⟨q,hq,rfl⟩:=h;obtain ⟨r',e,hr⟩:=bo.od hq k h2;exact ⟨u::r',by simp [zL,e],.cons h1 hr⟩
 | n+1,[],l',[],r,cU,h,hl,hv=>by simp [K.od] at h; subst h; rw [hl.cw,hv.cw]; exact ⟨[],rfl,.nil⟩
 | n+1,[],l',_::_,r,cU,h,hl,hv=>by simp [K.od] at h
 | n+1,x::l,l',vs,r,cU,h,hl,hv=>by
  obtain ⟨y,ys,rfl,h1,k⟩:=hl.cons_inv;simp only [K.od,de] at h;obtain ⟨q,hq,rfl⟩:=h;obtain ⟨r',e,hr⟩:=bo.od hq k hv;exact ⟨y::r',by simp [vx,e],.cons h1 hr⟩
theorem bo.ZN:∀ {l:List KV} {l' : List Value},l'.length=l.length->(∀ (i:Nat) (v:KV) (v' : Value),l[i]? = some v->l'[i]? = some v'->VK P E v v')->bo P E l l'
 | [],l',h,_=>by cases l' <;> simp_all [bo.nil]
 | x::xs,l',h,k=>by
  cases l' with
  | nil=>simp at h
  | cons y ys=>exact .cons (k 0 x y rfl rfl) (bo.ZN (by simpa using h) fun i v v' e e'=>k (i+1) v v' (by simpa using e) (by simpa using e'))
theorem VK.dR {k:IntKind} {n:Int} {v:Value} (h:VK P E (.int k n) v):v = .int k n:=by simpa [VK] using h
theorem VK.hX {b:Bool} {v:Value} (h:VK P E (.bool b) v):v = .bool b:=by simpa [VK] using h
theorem VK.wC {s:ByteArray} {v:Value} (h:VK P E (.str s) v):v = .string s:=by simpa [VK] using h
theorem VK.pG {cs:List KV} {v:Value} (h:VK P E (.agg cs) v):∃ l,v = .agg ⟨l⟩/\bo P E cs l:=by simpa [VK] using h
theorem VK.Um {cs:List KV} {v:Value} (h:VK P E (.lP cs) v):∃ l,v = .tuple ⟨l⟩/\bo P E cs l:=by simpa [VK] using h
theorem VK.kc {b off:Nat} {v:Value} (h:VK P E (.ptr b off) v):∃ x,E.κ b=some x/\v = .pointer (some ⟨x,off,none⟩):=by simpa [VK] using h
theorem VK.Wp {b off n c:Nat} {v:Value} (h:VK P E (.sl b off n c) v):∃ x,E.κ b=some x/\v = .slice (some ⟨x,off,none⟩) n c:=by simpa [VK] using h
theorem VK.M9 {f:Fn} {a b:List KV} {v:Value} (h:VK P E (.fn f a b) v):∃ l m,v = .func f ⟨l⟩ ⟨m⟩/\bo P E a l/\bo P E b m:=by simpa [VK] using h
theorem VK.pL {T:TypeId} {m:Mk} {n:Nat} {es:List KV} {acc:Nat->KV} {v:Value} (h:VK P E (.ts T m n es acc) v):ko P T n es acc/\∃ bC,bo P E es bC/\amF P E T m n bC v:=by simpa [VK] using h
theorem VK.Rn {T Tc:TypeId} {i k:Nat} {es:List KV} {acc:Nat->KV} {v:Value} (h:VK P E (.tp T Tc i k es acc) v):ko P T es.length es acc/\∃ bC,bo P E es bC/\amG P E T Tc i k es bC v:=by simpa [VK] using h
theorem VK.Bh {T:TypeId} {b o n:Nat} {v:Value} (h:VK P E (.al T b o n) v):ad2 P E T b o n v:=by simpa [VK] using h
theorem VK.Na {T Tc:TypeId} {b i k:Nat} {v:Value} (h:VK P E (.ap T Tc b i k) v):aj2 P E T Tc b i k v:=by simpa [VK] using h
theorem VK.XD {T:TypeId} {b o n:Nat} {v:Value} (h:ad2 P E T b o n v):VK P E (.al T b o n) v:=by simpa [VK] using h
theorem VK.ass {T Tc:TypeId} {b i k:Nat} {v:Value} (h:aj2 P E T Tc b i k v):VK P E (.ap T Tc b i k) v:=by simpa [VK] using h
theorem ad2.slice {T:TypeId} {b o n:Nat} {v:Value} (h:ad2 P E T b o n v):∃ a c,v = .slice a n c:=by
 rcases h with ⟨rfl,_,rfl⟩ | ⟨x,L,N,c,_,rfl,_⟩
 ·exact ⟨_,_,rfl⟩
 ·exact ⟨_,_,rfl⟩
theorem VK.r5 {v:Value} (h:VK P E .nS v):v = .slice none 0 0:=by simpa [VK] using h
theorem VK.Wq {v:Value} (h:VK P E .JS v):v = .pointer none:=by simpa [VK] using h
theorem VK.mkInt {k:IntKind} {n:Int} : VK P E (.int k n) (.int k n):=by simp [VK]
theorem VK.xS {b:Bool} : VK P E (.bool b) (.bool b):=by simp [VK]
theorem VK.mkStr {s:ByteArray} : VK P E (.str s) (.string s):=by simp [VK]
theorem VK.tD {cs:List KV} {l:List Value} (h:bo P E cs l):VK P E (.agg cs) (.agg ⟨l⟩):=by simp only [VK]; exact ⟨l,rfl,h⟩
theorem VK.agQ {cs:List KV} {l:List Value} (h:bo P E cs l):VK P E (.lP cs) (.tuple ⟨l⟩):=by simp only [VK]; exact ⟨l,rfl,h⟩
theorem VK.Dz {b x off:Nat} (h:E.κ b=some x):VK P E (.ptr b off) (.pointer (some ⟨x,off,none⟩)):=by simp only [VK]; exact ⟨x,h,rfl⟩
theorem VK.ap1 {b x off n c:Nat} (h:E.κ b=some x):VK P E (.sl b off n c) (.slice (some ⟨x,off,none⟩) n c):=by simp only [VK]; exact ⟨x,h,rfl⟩
theorem VK.amH {f:Fn} {a b:List KV} {l m:List Value} (h:bo P E a l) (k:bo P E b m):VK P E (.fn f a b) (.func f ⟨l⟩ ⟨m⟩):=by simp only [VK]; exact ⟨l,m,rfl,h,k⟩
theorem VK.undef:VK P E vY undef:=VK.agQ .nil
theorem VK.wD {v:Value} : VK P E .bG v:=by simp [VK]
theorem VK.cells {v:KV} {v' : Value} (h:VK P E v v') (hu:Bc v=true):bo P E v.cells v'.cells.toList:=by
 cases v with
 | agg cs=>obtain ⟨l,rfl,q⟩:=h.pG; exact q
 | int k n=>have:=h.dR; subst this; exact .cons h .nil
 | bool b=>have:=h.hX; subst this; exact .cons h .nil
 | str b=>have:=h.wC; subst this; exact .cons h .nil
 | lP cs=>have q:=h; obtain ⟨l,rfl,_⟩:=h.Um; exact .cons q .nil
 | ts T m n es acc=>have q:=h; obtain ⟨_,_,_,a,cap,rfl,_⟩:=h.pL; exact .cons q .nil
 | tp T Tc i k es acc=>have q:=h; obtain ⟨_,_,_,_,_,b,off,r,rfl,_⟩:=h.Rn; exact .cons q .nil
 | al T b o n=>have q:=h; obtain ⟨a,c,rfl⟩:=h.Bh.slice; exact .cons q .nil
 | ap T Tc b i k=>have q:=h; obtain ⟨x,L,N,_,_,_,rfl⟩:=h.Na; exact .cons q .nil
 | ptr b off=>have q:=h; obtain ⟨x,_,rfl⟩:=h.kc; exact .cons q .nil
 | sl b off n c=>have q:=h; obtain ⟨x,_,rfl⟩:=h.Wp; exact .cons q .nil
 | JS=>have q:=h; simp only [VK] at h; subst h; exact .cons q .nil
 | nS=>have q:=h; simp only [VK] at h; subst h; exact .cons q .nil
 | EY=>have q:=h; simp only [VK] at h; subst h; exact .cons q .nil
 | map b=>have q:=h; simp only [VK] at h; obtain ⟨x,_,rfl⟩:=h; exact .cons q .nil
 | fn f a b=>have q:=h; obtain ⟨l,m,rfl,_⟩:=h.M9; exact .cons q .nil
 | Lg=>have q:=h; simp only [VK] at h; subst h; exact .cons q .nil
 | iface t x=>have q:=h; simp only [VK] at h; obtain ⟨y,rfl,_⟩:=h; exact .cons q .nil
 | Lh=>have q:=h; simp only [VK] at h; subst h; exact .cons q .nil
 | bG=>simp [Bc] at hu
theorem VK.scalar {v:KV} {v' : Value} (h:VK P E v v') (ho:one v=true):aF.scalar v' = true:=by
 cases v with
 | agg cs=>simp [one] at ho
 | lP cs=>simp [one] at ho
 | bG=>simp [one] at ho
 | int k n=>have:=h.dR; subst this; rfl
 | bool b=>have:=h.hX; subst this; rfl
 | str b=>have:=h.wC; subst this; rfl
 | ts T m n es acc=>obtain ⟨_,_,_,a,cap,rfl,_⟩:=h.pL; rfl
 | tp T Tc i k es acc=>obtain ⟨_,_,_,_,_,b,off,r,rfl,_⟩:=h.Rn; rfl
 | al T b o n=>obtain ⟨a,c,rfl⟩:=h.Bh.slice; rfl
 | ap T Tc b i k=>obtain ⟨x,L,N,_,_,_,rfl⟩:=h.Na; rfl
 | ptr b off=>obtain ⟨x,_,rfl⟩:=h.kc; rfl
 | sl b off n c=>obtain ⟨x,_,rfl⟩:=h.Wp; rfl
 | JS=>simp only [VK] at h; subst h; rfl
 | nS=>simp only [VK] at h; subst h; rfl
 | EY=>simp only [VK] at h; subst h; rfl
 | map b=>simp only [VK] at h; obtain ⟨x,_,rfl⟩:=h; rfl
 | fn f a b=>obtain ⟨l,m,rfl,_⟩:=h.M9; rfl
 | Lg=>simp only [VK] at h; subst h; rfl
 | iface t x=>simp only [VK] at h; obtain ⟨y,rfl,_⟩:=h; rfl
 | Lh=>simp only [VK] at h; subst h; rfl
theorem bo.scalar:∀ {l:List KV} {l' : List Value},bo P E l l'->jy l=true->∀ v∈l',aF.scalar v=true
 | [],l',h,_,v,hv=>by rw [h.cw] at hv; simp at hv
 | x::xs,l',h,ho,v,hv=>by
  obtain ⟨y,ys,rfl,h1,h2⟩:=h.cons_inv;simp only [jy,aD] at ho;rcases fp.1 hv with rfl | hv
  ·exact h1.scalar ho.1
  ·exact bo.scalar h2 ho.2 v hv
theorem CV {v:KV} (h:jy v.cells=true):Bc v=true:=by
 cases v <;> first | rfl | simp [KV.cells,jy,one] at h
mutual
theorem VK.iR:∀ (v:Value),VK P E (iR v) v
 | .bool b=>by simp [K.iR,VK]
 | .int k n=>by simp [K.iR,VK]
 | .string s=>by simp [K.iR,VK]
 | .pointer none=>by simp [K.iR,VK]
 | .pointer (some a)=>by simp [K.iR,VK]
 | .slice none 0 0=>by simp [K.iR,VK]
 | .slice none 0 (n+1)=>by simp [K.iR,VK]
 | .slice none (n+1) c=>by simp [K.iR,VK]
 | .slice (some a) n c=>by simp [K.iR,VK]
 | .map none=>by simp [K.iR,VK]
 | .map (some r)=>by simp [K.iR,VK]
 | .nilFunc=>by simp [K.iR,VK]
 | .nilIface=>by simp [K.iR,VK]
 | .agg cs=>by
  obtain ⟨l⟩:=cs;simp only [K.iR,ofA];exact .tD (bo.ofL l)
 | .tuple cs=>by
  obtain ⟨l⟩:=cs;simp only [K.iR,ofA];exact .agQ (bo.ofL l)
 | .float _ _=>by simp [K.iR,VK]
 | .complex _ _ _=>by simp [K.iR,VK]
 | .chan _=>by simp [K.iR,VK]
 | .func _ _ _=>by simp [K.iR,VK]
 | .iface _ _=>by simp [K.iR,VK]
theorem bo.ofL:∀ (l:List Value),bo P E (ofL l) l
 | []=>.nil
 | v::vs=>.cons (VK.iR v) (bo.ofL vs)
end
theorem GK {z:Value} (h:jy (iR z).cells=true):bo P E (iR z).cells z.cells.toList:=(VK.iR z).cells (CV h)
def Kn (E:Env) (A:aB):Prop:=∀ b c g tb sb tc sc,A.get b=some (.aZ tb sb)->A.get c=some (.aZ tc sc)->E.φ b=some g->E.φ c=some g->b=c
def AR (A:aB) (E:Env) (x:Nat):Prop:=∃ b v L N,A.get b=some (.arr v)/\E.α b=some (x,L,N)
def AF (A:aB) (E:Env) (B:St) (g:Nat):Prop:=∃ b v x L N cs e own k,A.get b=some (.arr v)/\E.α b=some (x,L,N)/\B.get x=some (.row cs e own (some (g,k)))
def AT (A:aB) (E:Env) (B:St) (y:Nat):Prop:=AR A E y\/∃ g,AF A E B g/\y∈B.members g
def agR (P:Program) (E:Env) (B:St) (b:Nat) (v:KV):Prop:=∃ T N es acc,v = .ts T .any N es acc/\ko P T N es acc/\1<=bp P T/\
 ((N=0/\E.α b=none)\/∃ x cs bV bC,E.α b=some (x,cs.length,N)/\B.get x=some (.row cs (bp P T) true bV)/\bo P E es bC/\ss (bp P T) 0 cs bC)
def Z9 (P:Program) (E:Env) (b:Nat) (v:KV):Prop:=∃ T N es acc,v = .ts T .any N es acc/\ko P T N es acc/\1<=bp P T/\
 ((N=0/\E.α b=none)\/∃ x r bC,E.α b=some (x,r.cs.length,N)/\E.z x=some r/\r.cc=bp P T/\bo P E es bC/\ss (bp P T) 0 r.cs bC)
theorem agR.mono (h:E.le E') {B B' : St} {b:Nat} {v:KV} (uZ:E'.α b=E.α b) (hB:∀ x L N,E.α b=some (x,L,N)->B'.get x=B.get x) (q:agR P E B b v):agR P E' B' b v:=by
 obtain ⟨T,N,es,acc,h1,h2,h3,h4⟩:=q;refine ⟨T,N,es,acc,h1,h2,h3,?_⟩;rcases h4 with ⟨h4,h5⟩ | ⟨x,cs,bV,bC,h4,h5,h6,h7⟩
 ·exact .inl ⟨h4,by rw [uZ]; exact h5⟩
 ·exact .inr ⟨x,cs,bV,bC,by rw [uZ]; exact h4,by rw [hB _ _ _ h4]; exact h5,h6.mono h,h7⟩
theorem Z9.mono (h:E.le E') {b:Nat} {v:KV} (uZ:E'.α b=E.α b) (q:Z9 P E b v):Z9 P E' b v:=by
 obtain ⟨T,N,es,acc,h1,h2,h3,h4⟩:=q;refine ⟨T,N,es,acc,h1,h2,h3,?_⟩;rcases h4 with ⟨h4,h5⟩ | ⟨x,r,bC,h4,h5,h6,h7,h8⟩
 ·exact .inl ⟨h4,by rw [uZ]; exact h5⟩
 ·exact .inr ⟨x,r,bC,by rw [uZ]; exact h4,h.z _ _ h5,h6,h7.mono h,h8⟩
structure Ro (P:Program) (E:Env) (A:aB) (B:St):Prop where
 arr:∀ b v,A.get b=some (.arr v)->agR P E B b v
 lR:∀ b v,A.get b=some (.lR v)->Z9 P E b v
 z:∀ x,AR A E x->E.z x=none/\∀ c,E.κ c≠some x
 inj:∀ b c v u x L N L' N',A.get b=some (.arr v)->A.get c=some (.arr u)->E.α b=some (x,L,N)->E.α c=some (x,L',N')->b=c
 zi:∀ b c v u x y L N L' N' cs e own g k cm e' tJ k',A.get b=some (.arr v)->A.get c=some (.arr u)->E.α b=some (x,L,N)->E.α c=some (y,L',N')->B.get x=some (.row cs e own (some (g,k)))->B.get y=some (.row cm e' tJ (some (g,k')))->b=c
 dis:∀ b x,E.κ b=some x->E.α b=none
 oC:∀ b p,E.α b=some p->b < A.next
 jd:∀ b x L N,E.α b=some (x,L,N)->x < B.next
 xB:∀ b v x L N cs e own g k,A.get b=some (.arr v)->E.α b=some (x,L,N)->B.get x=some (.row cs e own (some (g,k)))->g < B.next/\(∀ f,E.φ f≠some g)/\∀ y∈B.members g,y≠x->E.z y=none/\¬ AR A E y/\∀ c,E.κ c≠some y
 nk:∀ b v,A.get b=some (.arr v)->b < A.next/\E.κ b=none
structure gU (P:Program) (E:Env) (A:aB) (B:St):Prop where
 row:∀ b cs cc,A.get b=some (.row cs cc)->∃ x cm,E.κ b=some x/\B.get x=some (.row cm cc true none)/\bo P E cs cm
 aZ:∀ b top sz,A.get b=some (.aZ top sz)->(top=0/\E.φ b=none)\/∃ g,E.φ b=some g/\0 < top/\∀ x∈B.members g,∀ cs e own f k,B.get x=some (.row cs e own (some (f,k)))->k=0/\cs.length<=top * sz
 z:∀ b r,E.z b=some r->B.get b=some (.row r.cs r.cc r.own r.bV)
 apart:∀ b x,E.κ b=some x->E.z x=none
 inj:∀ b c x,E.κ b=some x->E.κ c=some x->b=c
 lT:Kn E A
 oC:∀ b x,E.κ b=some x->b < A.next
 qJ:∀ b g,E.φ b=some g->b < A.next
 live:∀ b o,A.get b=some o->b < A.next
 jd:∀ b x,E.κ b=some x->x < B.next
 rb:∀ b r,E.z b=some r->b < B.next
 mM:∀ b g,E.φ b=some g->g < B.next
 fresh:∀ g,B.next<=g->B.members g = []
 mem:∀ g x,x∈B.members g->x < B.next
 ar:Ro P E A B
structure Ev (P:Program) (base:Nat) (E:Env) (A:aB) (B:St) (ρ:a7) (w:World) (E' : Env) (A' : aB) (B' : St) (a8:a7) (w' : World):Prop where
 kV:gU P E' A' B'
 gX:pw base ρ B w a8 B' w'
 le:E.le E'
 next:A.next<=A'.next
 pF:∀ x,x < B.next->(∀ b,E.κ b≠some x)->¬ AT A E B x->B'.get x=B.get x
 new:∀ b x,E'.κ b=some x->E.κ b=some x\/B.next<=x
 yp:∀ b r,E'.z b=some r->E.z b=some r\/AR A E b\/B.next<=b
 yq:∀ b g,E'.φ b=some g->(∃ c,E.φ c=some g)\/B.next<=g
 uz:∀ g,g < B.next->(∀ b,E.φ b≠some g)->¬ AF A E B g->B'.members g=B.members g
 qt:∀ x,AR A' E' x->AR A E x\/B.next<=x
 qK:∀ g,AF A' E' B' g->AF A E B g\/B.next<=g
 zX:∀ g y,y∈B'.members g->y∈B.members g\/B.next<=y
 r6:∀ y,AT A' E' B' y->AT A E B y\/B.next<=y
 rows:∀ y,y < B.next->∀ cs e own bV,B'.get y=some (.row cs e own bV)->∃ pE,B.get y=some (.row pE e own bV)/\pE.length=cs.length
theorem Ev.refl {base:Nat} {A:aB} {B:St} {ρ:a7} {w:World} (h:gU P E A B) (s:zP ρ B base w):Ev P base E A B ρ w E A B ρ w:=
 ⟨h,.refl s,Env.le_refl _,aW _,fun _ _ _ _=>rfl,fun _ _ h=>.inl h,fun _ _ h=>.inl h,fun _ _ h=>.inl ⟨_,h⟩,fun _ _ _ _=>rfl,fun _ h=>.inl h,fun _ h=>.inl h,fun _ _ h=>.inl h,fun _ h=>.inl h,fun _ _ cs _ _ _ h=>⟨cs,h,rfl⟩⟩
theorem Ev.trans {base:Nat} {E1 E2 E3:Env} {A1 A2 A3:aB} {B1 B2 B3:St} {qg zY ρ3:a7} {w1 w2 w3:World} (h:Ev P base E1 A1 B1 qg w1 E2 A2 B2 zY w2) (k:Ev P base E2 A2 B2 zY w2 E3 A3 B3 ρ3 w3) :
  Ev P base E1 A1 B1 qg w1 E3 A3 B3 ρ3 w3 where
 kV:=k.kV
 gX:=h.gX.trans k.gX
 le:=Env.le_trans h.le k.le
 next:=uO h.next k.next
 pF x hx hn ha:=by
  refine (k.pF x (uQ hx h.gX.next) (fun b e=>?_) fun q=>?_).trans (h.pF x hx hn ha)
  ·rcases h.new b x e with e | e
   ·exact hn b e
   ·omega
  ·rcases h.r6 x q with e | e
   ·exact ha e
   ·omega
 new b x e:=by
  rcases k.new b x e with e | e
  ·rcases h.new b x e with e | e
   ·exact .inl e
   ·exact .inr e
  ·have:=h.gX.next; exact .inr (by omega)
 yp b r e:=by
  rcases k.yp b r e with e | e | e
  ·exact h.yp b r e
  ·exact .inr (h.qt b e)
  ·have:=h.gX.next; exact .inr (.inr (by omega))
 yq b g e:=by
  rcases k.yq b g e with ⟨c,e⟩ | e
  ·exact h.yq c g e
  ·have:=h.gX.next; exact .inr (by omega)
 uz g hg hn ha:=by
  refine (k.uz g (uQ hg h.gX.next) (fun b e=>?_) fun q=>?_).trans (h.uz g hg hn ha)
  ·rcases h.yq b g e with ⟨c,e⟩ | e
   ·exact hn c e
   ·omega
  ·rcases h.qK g q with e | e
   ·exact ha e
   ·omega
 qt x e:=by
  rcases k.qt x e with e | e
  ·exact h.qt x e
  ·have:=h.gX.next; exact .inr (by omega)
 qK g e:=by
  rcases k.qK g e with e | e
  ·exact h.qK g e
  ·have:=h.gX.next; exact .inr (by omega)
 zX g y e:=by
  rcases k.zX g y e with e | e
  ·exact h.zX g y e
  ·have:=h.gX.next; exact .inr (by omega)
 r6 y e:=by
  rcases k.r6 y e with e | e
  ·exact h.r6 y e
  ·have:=h.gX.next; exact .inr (by omega)
 rows y hy cs e own bV q:=by
  obtain ⟨c1,h1,h2⟩:=k.rows y (uQ hy h.gX.next) cs e own bV q;obtain ⟨c0,h3,h4⟩:=h.rows y hy c1 e own bV h1;exact ⟨c0,h3,h4.trans h2⟩
@[simp] theorem aB.cr (A:aB) (b:Nat) (o:lg) (x:Nat):(A.put b o).get x=if x=b then some o else A.get x:=by simp [aB.put,aB.get,Trie.sm]
@[simp] theorem aB.dQ (A:aB) (o:lg) (x:Nat):(A.new o).get x=if x=A.next then some o else A.get x:=by simp [aB.new,aB.get,Trie.sm]
@[simp] theorem aB.wq (A:aB) (b:Nat) (o:lg):(A.put b o).next=A.next:=rfl
@[simp] theorem aB.cD (A:aB) (o:lg):(A.new o).next=A.next+1:=rfl
theorem Kn.put {A:aB} (h:Kn E A) {b:Nat} {o:lg} (ho:(∀ t s,o≠.aZ t s)\/E.φ b=none):Kn E (A.put b o):=by
 intro x y g tx sx ty sy hx hy ex ey;have key:∀ {z t s},(A.put b o).get z=some (.aZ t s)->E.φ z=some g->A.get z=some (.aZ t s):=by
  intro z t s hz ez;rw [aB.cr] at hz;split at hz
  ·rename_i e
   simp at hz;rcases ho with ho | ho
   ·exact absurd hz (ho t s)
   ·rw [e,ho] at ez; simp at ez
  ·exact hz
 exact h x y g tx sx ty sy (key hx ex) (key hy ey) ex ey
theorem Kn.new {A:aB} (h:Kn E A) {o:lg} (ho:(∀ t s,o≠.aZ t s)\/E.φ A.next=none):Kn E (A.new o):=by
 intro x y g tx sx ty sy hx hy ex ey;have key:∀ {z t s},(A.new o).get z=some (.aZ t s)->E.φ z=some g->A.get z=some (.aZ t s):=by
  intro z t s hz ez;rw [aB.dQ] at hz;split at hz
  ·rename_i e
   simp at hz;rcases ho with ho | ho
   ·exact absurd hz (ho t s)
   ·rw [e,ho] at ez; simp at ez
  ·exact hz
 exact h x y g tx sx ty sy (key hx ex) (key hy ey) ex ey
structure KJ (P:Program) (E:Env) (A:aB) (B:St) (ρ:a7) (base:Nat) (w:World):Prop where
 k:gU P E A B
 s:zP ρ B base w
theorem Ev.kj {base:Nat} {E1 E2:Env} {A1 A2:aB} {B1 B2:St} {qg zY:a7} {w1 w2:World} (h:Ev P base E1 A1 B1 qg w1 E2 A2 B2 zY w2):KJ P E2 A2 B2 zY base w2:=⟨h.kV,h.gX.kV⟩
def VC (P:Program) (E:Env) (ρ:a7) (v:KV) (v' : Value):Prop:=∃ u,VK P E v u/\VR ρ u v'
theorem VC.mono {ρ a8:a7} {v:KV} {v' : Value} (h:VC P E ρ v v') (k:E.le E') (m:ρ.le a8):VC P E' a8 v v':=by
 obtain ⟨u,h1,h2⟩:=h;exact ⟨u,h1.mono k,h2.mono m⟩
theorem VC.bG {ρ:a7} {v' : Value} : VC P E ρ .bG v':=⟨.chan none,.wD,by simp [VR]⟩
theorem VC.undef {ρ:a7} : VC P E ρ vY undef:=⟨_,.undef,VR.undef⟩
end Go.K
end
section
namespace Go.K
open Go Go.aF
variable {P:Program} {E:Env}
def ba {α:Type} (r:KR α) (v:α):Prop:=
 match r with
 | .no=>False
 | .ok u=>u=v
 | .nI c u=>c=true/\u=v
 | .br c x y=>(c=true/\ba x v)\/(c=false/\ba y v)
theorem KR.Ef {α R:Type} {k:α->Option R} {x:R} : ∀ {r:KR α},r.run k=some x->∃ v,ba r v/\k v=some x:=by
 intro r h
 match r,h with
 | .no,h=>exact absurd h (by simp [KR.run])
 | .ok v,h=>exact ⟨v,rfl,h⟩
 | .nI c v,h=>
  cases c with
  | false=>exact absurd h (by simp [KR.run])
  | true=>exact ⟨v,⟨rfl,rfl⟩,h⟩
 | .br c x y,h=>
  cases c with
  | false=>obtain ⟨v,h1,h2⟩:=KR.Ef (r:=y) (k:=k) h; exact ⟨v,.inr ⟨rfl,h1⟩,h2⟩
  | true=>obtain ⟨v,h1,h2⟩:=KR.Ef (r:=x) (k:=k) h; exact ⟨v,.inl ⟨rfl,h1⟩,h2⟩
theorem ba.at {α:Type} {i:Int} {f:Nat->KR α} {v:α} : ∀ {m j:Nat},ba (apW i f m j) v->∃ k,j<=k/\k < j+m/\i=(k:Int)/\ba (f k) v
 | 0,j,h=>h.elim
 | m+1,j,h=>by
  rcases h with ⟨h1,h2⟩ | ⟨_,h2⟩
  ·exact ⟨j,aW j,by omega,rl h1,h2⟩
  ·obtain ⟨k,h3,h4,h5,h6⟩:=ba.at (m:=m) (j:=j+1) h2
   exact ⟨k,by omega,by omega,h5,h6⟩
theorem ba.of {α:Type} {o:Option α} {v:α} (h:ba (KR.of o) v):o=some v:=by
 cases o with
 | none=>exact h.elim
 | some u=>have h:u=v:=h; rw [h]
theorem ba.cond {α:Type} {c:Bool} {r:KR α} {v:α} (h:ba (cond c r .no) v):c=true/\ba r v:=by
 cases c with
 | false=>exact h.elim
 | true=>exact ⟨rfl,h⟩
theorem Rp {α:Type} {c:Bool} {r:Option α} {v:α} (h:cond c r none=some v):c=true/\r=some v:=by
 cases c with
 | false=>simp at h
 | true=>exact ⟨rfl,h⟩
def zZ (P:Program) (f:FP) (g:List Value->Option Value):Prop:=
 ∀ (E:Env) (vs:List KV) (us:List Value) (v:KV),bo P E vs us->ba (f vs) v->∃ u,g us=some u/\VK P E v u
theorem amI:zZ P ak2 QS:=by
 intro E vs us v h hg
 match vs,hg with
 | [x],hg=>
  obtain ⟨y,rfl,h1⟩:=h.gu;have hg:x=v:=hg;subst hg;exact ⟨y,rfl,h1⟩
theorem aqX:zZ P ak3 QS:=by
 intro E vs us v h hg
 match vs,hg with
 | [.bool b],hg=>
  obtain ⟨y,rfl,h1⟩:=h.gu;have hb:v = .bool b:=by
   rcases hg with ⟨rfl,h2⟩ | ⟨rfl,h2⟩
   ·exact (show KV.bool true=v from h2).symm
   ·exact (show KV.bool false=v from h2).symm
  subst hb;exact ⟨_,rfl,h1⟩
 | [x],hg=>
  have key:v=x:=by
   cases x <;> first | exact (show _=v from hg).symm | skip
   rcases hg with ⟨rfl,h2⟩ | ⟨rfl,h2⟩
   ·exact (show KV.bool true=v from h2).symm
   ·exact (show KV.bool false=v from h2).symm
  subst key;obtain ⟨y,rfl,h1⟩:=h.gu;exact ⟨_,rfl,h1⟩
theorem aqY {b:Bool} : zZ P (cond b ak3 ak2) QS:=by
 cases b with
 | true=>exact aqX
 | false=>exact amI
theorem ast:zZ P aoE akP:=by
 intro E vs us v h hg
 match vs,hg with
 | [.bool t,.bool a,.bool b],hg=>
  obtain ⟨x,y,z,rfl,h1,h2,h3⟩:=h.YK;have:=h1.hX; subst this;have:=h2.hX; subst this;have:=h3.hX; subst this;have hg:KV.bool (cond t a b)=v:=hg;subst hg;exact ⟨_,rfl,by cases t <;> exact .xS⟩
 | [.bool t,a,b],hg=>
  obtain ⟨x,y,z,rfl,h1,h2,h3⟩:=h.YK;have:=h1.hX; subst this;refine ⟨_,rfl,?_⟩;have hg:v=cond t a b\/∃ p q,a = .bool p/\b = .bool q/\v = .bool (cond t p q):=by
   unfold aoE at hg;split at hg
   ·rename_i t' a' b' e
    simp at e;obtain ⟨rfl,rfl,rfl⟩:=e;exact .inr ⟨_,_,rfl,rfl,hg.symm⟩
   ·rename_i t' a' b' _ e
    simp at e;obtain ⟨rfl,rfl,rfl⟩:=e;exact .inl hg.symm
   ·exact hg.elim
  rcases hg with rfl | ⟨p,q,rfl,rfl,rfl⟩
  ·cases t
   ·exact h3
   ·exact h2
  ·have:=h2.hX; subst this
   have:=h3.hX; subst this;cases t <;> exact .xS
theorem acn {v:KV} {u:Value} (h:VK P E v u) (hk:Bc v=true):aF.known u=true:=by
 cases v with
 | agg cs=>obtain ⟨l,rfl,q⟩:=h.pG; rfl
 | int k n=>have:=h.dR; subst this; rfl
 | bool b=>have:=h.hX; subst this; rfl
 | str b=>have:=h.wC; subst this; rfl
 | lP cs=>obtain ⟨l,rfl,_⟩:=h.Um; rfl
 | ts T m n es acc=>obtain ⟨_,_,_,a,cap,rfl,_⟩:=h.pL; rfl
 | tp T Tc i k es acc=>obtain ⟨_,_,_,_,_,b,off,r,rfl,_⟩:=h.Rn; rfl
 | al T b o n=>obtain ⟨a,c,rfl⟩:=h.Bh.slice; rfl
 | ap T Tc b i k=>obtain ⟨x,L,N,_,_,_,rfl⟩:=h.Na; rfl
 | ptr b off=>obtain ⟨x,_,rfl⟩:=h.kc; rfl
 | sl b off n c=>obtain ⟨x,_,rfl⟩:=h.Wp; rfl
 | JS=>simp only [VK] at h; subst h; rfl
 | nS=>simp only [VK] at h; subst h; rfl
 | EY=>simp only [VK] at h; subst h; rfl
 | map b=>simp only [VK] at h; obtain ⟨x,_,rfl⟩:=h; rfl
 | fn f a b=>obtain ⟨l,m,rfl,_⟩:=h.M9; rfl
 | Lg=>simp only [VK] at h; subst h; rfl
 | iface t x=>simp only [VK] at h; obtain ⟨y,rfl,_⟩:=h; rfl
 | Lh=>simp only [VK] at h; subst h; rfl
 | bG=>simp [Bc] at hk
theorem Un {v:KV} {u:Value} (h:VK P E v u) (hk:Bc v=true):u.cells.size=v.cells.length:=by
 have:=(h.cells hk).length;simpa using this
theorem agS {place:Nat->Option (Nat×Nat)} : ∀ {ps:List (Nat×KV)} {qs:List (Nat×Value)} {cs r:List KV} {cm:List Value},ps.map (·.1)=qs.map (·.1)->bo P E (ps.map (·.2)) (qs.map (·.2))->(∀ p∈ps,Bc p.2=true)->
  bo P E cs cm->acb place cs ps=some r->∃ r',EP place cm qs=some r'/\bo P E r r'
 | [],[],cs,r,cm,_,_,_,h,e=>by simp [acb] at e; subst e; exact ⟨cm,rfl,h⟩
 | [],_::_,_,_,_,e,_,_,_,_=>by simp at e
 | _::_,[],_,_,_,e,_,_,_,_=>by simp at e
 | (i,v)::ps,(j,u)::qs,cs,r,cm,e1,e2,hk,h,e=>by
  simp only [List.map_cons,List.cons.injEq] at e1;obtain ⟨rfl,e1⟩:=e1;obtain ⟨y,ys,e3,h1,h2⟩:=e2.cons_inv;simp only [List.map_cons,List.cons.injEq] at e3;obtain ⟨rfl,rfl⟩:=e3;have hkv:Bc v=true:=hk (i,v) (by simp);simp only [acb] at e;simp only [EP];split at e
  ·rename_i off size hp
   rw [hp];obtain ⟨hc,e⟩:=Rp e;obtain ⟨sH,e4,e5⟩:=dr.1 e;obtain ⟨r1,e6,h3⟩:=bo.od e4 h (h1.cells hkv);obtain ⟨r',e7,h4⟩:=agS e1 h2 (fun p hp=>hk p (by simp [hp])) h3 e5;refine ⟨r',?_,h4⟩;simp only;rw [Un h1 hkv,hc,ai,e6];exact e7
  ·simp at e
theorem agT:∀ (is:List Nat) {vs:List KV} {us:List Value},bo P E vs us->(EZ is vs).map (·.1)=(zipIdx is us).map (·.1)/\bo P E ((EZ is vs).map (·.2)) ((zipIdx is us).map (·.2))
 | [],_,_,_=>by simp [EZ,zipIdx,bo.nil]
 | i::is,[],us,h=>by rw [h.cw]; simp [EZ,zipIdx,bo.nil]
 | i::is,v::vs,us,h=>by
  obtain ⟨y,ys,rfl,h1,h2⟩:=h.cons_inv;obtain ⟨h3,h4⟩:=agT is h2;exact ⟨by simp [EZ,zipIdx,h3],by simpa [EZ,zipIdx] using bo.cons h1 h4⟩
theorem agU:∀ (is:List Nat) (vs:List KV),∀ p∈EZ is vs,p.2∈vs
 | [],_,p,h=>by simp [EZ] at h
 | i::is,[],p,h=>by simp [EZ] at h
 | i::is,v::vs,p,h=>by
  simp only [EZ,fp] at h;rcases h with rfl | h
  ·simp
  ·simp [agU is vs p h]
theorem Rq:∀ {vs:List KV} {us:List Value},bo P E vs us->vs.all Bc=true->us.all aF.known=true
 | [],us,h,_=>by rw [h.cw]; rfl
 | v::vs,us,h,k=>by
  obtain ⟨y,ys,rfl,h1,h2⟩:=h.cons_inv;simp only [List.all_cons,aD] at k ⊢;exact ⟨acn h1 k.1,Rq h2 k.2⟩
theorem aj3 {place:Nat->Option (Nat×Nat)} {z:Value} {is:List Nat} (hz:flat z=true) (h1:jy (iR z).cells=true):zZ P (Wj place (iR z).cells is) (GA place z is):=by
 intro E vs us v h hg;unfold Wj at hg;split at hg
 ·rename_i cs hf
  obtain ⟨hk,hg⟩:=hg.cond;have hg:KV.agg cs=v:=hg;subst hg;obtain ⟨h2,h3⟩:=agT is h;obtain ⟨r',e,hr⟩:=agS h2 h3 (fun p hp=>by have:=agU is vs p hp; exact iu.1 hk _ this) (GK (P:=P) (E:=E) h1) hf;refine ⟨.agg ⟨r'⟩,?_,.tD hr⟩;unfold GA;rw [hz,Rq h hk];simp [e,tD]
 ·exact hg.elim
theorem auj:zZ P agI QV:=by
 intro E vs us v h hg
 match vs,hg with
 | [.ptr b off],hg=>
  obtain ⟨y,rfl,h1⟩:=h.gu;have hg:KV.ptr b off=v:=hg;subst hg;have q:=h1;obtain ⟨x,e,rfl⟩:=h1.kc;exact ⟨_,rfl,q⟩
 | [.tp T Tc i k es acc],hg=>
  obtain ⟨y,rfl,h1⟩:=h.gu;have hg:KV.tp T Tc i k es acc=v:=hg;subst hg;have q:=h1;obtain ⟨_,_,_,_,_,b,off,r,rfl,_⟩:=h1.Rn;exact ⟨_,rfl,q⟩
 | [.ap T Tc b i k],hg=>
  obtain ⟨y,rfl,h1⟩:=h.gu;have hg:KV.ap T Tc b i k=v:=hg;subst hg;have q:=h1;obtain ⟨x,L,N,_,_,_,rfl⟩:=h1.Na;exact ⟨_,rfl,q⟩
 | [.fn (.func f) a b],hg=>
  obtain ⟨y,rfl,h1⟩:=h.gu;have hg:KV.fn (.func f) a b=v:=hg;subst hg;have q:=h1;obtain ⟨l,m,rfl,_⟩:=h1.M9;exact ⟨_,rfl,q⟩
theorem Uo {s ft:TypeId} {off:Nat} (h:afY P s off ft=true):∀ m c,(bu P ft).ks[m]? = some c->(bu P s).ks[off+m]? = some c:=by
 unfold afY at h;have key:∀ (a b:List CK),GI a b=true->a=b:=by
  intro a
  induction a with
  | nil=>intro b hb; cases b <;> simp_all [GI]
  | cons x xs ih=>
   intro b hb;cases b with
   | nil=>simp [GI] at hb
   | cons y ys=>
    simp only [GI,aD] at hb;rw [ih ys hb.2];congr 1;cases x <;> cases y <;> simp_all [asp]
 split at h
 ·rename_i l e
  obtain ⟨rfl,hl⟩:=Wo e;have:=key _ _ h;intro m c hm;rw [<- this,rj] at hm;split at hm
  ·rwa [Pu,rJ] at hm
  ·simp at hm
 ·simp at h
theorem aja {s ft:TypeId} {off:Nat} {B4:Bool} (agV:B4=afY P s off ft):zZ P (adZ s off ft B4) (TV off):=by
 intro E vs us v h hg
 match vs,hg with
 | [.ptr b o],hg=>
  obtain ⟨y,rfl,h1⟩:=h.gu;have hg:KV.ptr b (o+off)=v:=hg;subst hg;obtain ⟨x,e,rfl⟩:=h1.kc;exact ⟨_,rfl,.Dz e⟩
 | [.tp T Tc i k es acc],hg=>
  obtain ⟨y,rfl,h1⟩:=h.gu;obtain ⟨hc,hg⟩:=ba.cond hg;have hg:KV.tp T ft i (k+off) es acc=v:=hg;subst hg;simp only [aD] at hc;have:=bm hc.1;subst this;obtain ⟨ht,bC,h2,hi,hw,b,o,r,rfl,h4,h5⟩:=h1.Rn;refine ⟨_,rfl,?_⟩;simp only [VK];refine ⟨ht,bC,h2,hi,⟨fun m c hm=>?_⟩,b,o,r,by simp only [Value.pointer.injEq,dG,Addr.mk.injEq,and_true,true_and]; omega,h4,h5⟩;have hp:=Uo (agV ▸ hc.2) m c hm;have:=hw.is _ _ hp;rwa [show k+(off+m)=k+off+m by omega] at this
 | [.ap T Tc b i k],hg=>
  obtain ⟨y,rfl,h1⟩:=h.gu;obtain ⟨hc,hg⟩:=ba.cond hg;have hg:KV.ap T ft b i (k+off)=v:=hg;subst hg;simp only [aD] at hc;have:=bm hc.1;subst this;obtain ⟨x,L,N,h2,hw,hi,rfl⟩:=h1.Na;refine ⟨_,rfl,.ass ⟨x,L,N,h2,⟨fun m c hm=>?_⟩,hi,by simp only [Value.pointer.injEq,dG,Addr.mk.injEq,and_true,true_and]; omega⟩⟩;have hp:=Uo (agV ▸ hc.2) m c hm;have:=hw.is _ _ hp;rwa [show k+(off+m)=k+off+m by omega] at this
theorem amJ {t:TypeId} {cs:List KV} {cm:List Value} {off:Nat} {v:KV} (h:bo P E cs cm) (e:acf P t cs off=some v):∃ u,partOf P t cm off=some u/\VK P E v u:=by
 unfold acf at e;unfold partOf;split at e
 ·rename_i ha
  rw [ha];obtain ⟨n,hn,e⟩:=dr.1 e;obtain ⟨l,hl,rfl⟩:=de.1 e;obtain ⟨r,hr,hv,_⟩:=h.zT hl;exact ⟨.agg ⟨r⟩,by simp [hn,hr],.tD hv⟩
 ·rename_i ha
  rw [ha];rw [Pu] at e;have hd:=h.drop off;cases hc:cs.drop off with
  | nil=>rw [hc] at e; simp at e
  | cons x xs=>
   rw [hc] at e hd;simp at e;subst e;obtain ⟨y,ys,e2,h1,_⟩:=hd.cons_inv;exact ⟨y,by simp [wo,e2],h1⟩
 ·simp at e
theorem aqZ {fd:Field} : zZ P (apV P fd) (akQ P fd):=by
 intro E vs us v h hg
 match vs,hg with
 | [.agg cs],hg=>
  obtain ⟨y,rfl,h1⟩:=h.gu;obtain ⟨l,rfl,h2⟩:=h1.pG;exact amJ h2 hg.of
theorem Eg {i:Int} {n:Nat} (h:inR i n=true):∃ m,i = .ofNat m/\m < n/\i.toNat=m:=by
 simp only [inR,aD,lA] at h;obtain ⟨m,rfl⟩:=Int.eq_ofNat_of_zero_le h.1;exact ⟨m,rfl,by omega,rfl⟩
theorem sI {m n:Nat} (h:m < n):nK (.ofNat m) n=some m:=by
 have:Nat.blt m n=true:=by rw [bZ]; exact h
 simp [nK,this]
theorem ba.nI {α:Type} {c:Bool} {u v:α} (h:ba (.nI c u) v):c=true/\u=v:=h
theorem ad3 {t e:TypeId} {len n m:Nat} (hq:GI (bu P t).ks (eR (bu P e).ks len)=true) (hn:(bu P e).ks.length=n) (hm:m < len):∀ a c,(bu P e).ks[a]? = some c->(bu P t).ks[m * n+a]? = some c:=by
 intro a c ha;have key:∀ (l:List CK) (xT m a:Nat) (c:CK),m < xT->l[a]? = some c->(eR l xT)[m * l.length+a]? = some c:=by
  intro l xT
  induction xT with
  | zero=>intro m a c hm; omega
  | succ xT ih=>
   intro m a c hm hl;have bt:a < l.length:=(dD.1 hl).1;cases m with
   | zero=>simp only [eR,Nat.zero_mul,bh]; rw [ue bt]; exact hl
   | succ m=>
    simp only [eR];rw [vU (by rw [Nat.succ_mul]; omega),show (m+1) * l.length+a - l.length=m * l.length+a by rw [Nat.succ_mul]; omega];exact ih m a c (by omega) hl
 have awl:∀ (a b:List CK),GI a b=true->a=b:=by
  intro a
  induction a with
  | nil=>intro b hb; cases b <;> simp_all [GI]
  | cons x xs ih=>
   intro b hb;cases b with
   | nil=>simp [GI] at hb
   | cons y ys=>
    simp only [GI,aD] at hb;rw [ih ys hb.2];congr 1;cases x <;> cases y <;> simp_all [asp]
 have h6:=key (bu P e).ks len m a c hm ha;rw [<- awl _ _ hq,hn] at h6;exact h6
theorem ak8 {t e:TypeId} {len n:Nat} : zZ P (agJ P t len n e) (Ys len n):=by
 intro E vs us v h hg
 match vs,hg with
 | [.ptr b o,.int k i],hg=>
  have hg:ba (cond (Nat.ble len 8) (apW i (fun j=>.ok (.ptr b (o+j * n))) len 0) (.nI (inR i len) (.ptr b (o+i.toNat * n)))) v:=hg;obtain ⟨x,y,rfl,h1,h2⟩:=h.nT;obtain ⟨x,e,rfl⟩:=h1.kc;have:=h2.dR; subst this;have key:∃ m:Nat,i=(m:Int)/\m < len/\v = .ptr b (o+m * n):=by
   cases hb:Nat.ble len 8 with
   | true=>rw [hb,ai] at hg; obtain ⟨m,_,h3,h4,h5⟩:=ba.at hg; exact ⟨m,h4,by omega,(show KV.ptr b (o+m * n)=v from h5).symm⟩
   | false=>rw [hb,aw] at hg; obtain ⟨hc,rfl⟩:=ba.nI hg; obtain ⟨m,rfl,hm,YL⟩:=Eg hc; exact ⟨m,rfl,hm,by rw [YL]⟩
  obtain ⟨m,rfl,hm,rfl⟩:=key;refine ⟨_,?_,.Dz e⟩;show (nK (.ofNat m) len).bind _=_;rw [sI hm]; rfl
 | [.tp T Tc j k es acc,.int q i],hg=>
  obtain ⟨x,y,rfl,h1,h2⟩:=h.nT;obtain ⟨yo,hg⟩:=ba.cond hg;obtain ⟨hc,rfl⟩:=ba.nI hg;have:=h2.dR; subst this;obtain ⟨m,rfl,hm,YL⟩:=Eg hc;rw [YL];simp only [aD] at yo;have:=bm yo.1.1;subst this;have hn:(bu P e).ks.length=n:=bm yo.2;obtain ⟨ht,bC,h3,hi,hw,b,o,r,rfl,h4,h5⟩:=h1.Rn;refine ⟨_,by (show (nK (.ofNat m) len).bind _=_); rw [sI hm]; rfl,?_⟩;simp only [VK];refine ⟨ht,bC,h3,hi,⟨fun a c ha=>?_⟩,b,o,r,by simp only [Value.pointer.injEq,dG,Addr.mk.injEq,and_true,true_and]; omega,h4,h5⟩;have h6:=ad3 yo.1.2 hn hm a c ha;have:=hw.is _ _ h6;rwa [show k+(m * n+a)=k+m * n+a by omega] at this
 | [.ap T Tc b j k,.int q i],hg=>
  obtain ⟨x,y,rfl,h1,h2⟩:=h.nT;obtain ⟨yo,hg⟩:=ba.cond hg;obtain ⟨hc,rfl⟩:=ba.nI hg;have:=h2.dR; subst this;obtain ⟨m,rfl,hm,YL⟩:=Eg hc;rw [YL];simp only [aD] at yo;have:=bm yo.1.1;subst this;have hn:(bu P e).ks.length=n:=bm yo.2;obtain ⟨x,L,N,h3,hw,hi,rfl⟩:=h1.Na;refine ⟨_,by (show (nK (.ofNat m) len).bind _=_); rw [sI hm]; rfl,.ass ⟨x,L,N,h3,⟨fun a c ha=>?_⟩,hi,by simp only [Value.pointer.injEq,dG,Addr.mk.injEq,and_true,true_and]; omega⟩⟩;have h6:=ad3 yo.1.2 hn hm a c ha;have:=hw.is _ _ h6;rwa [show k+(m * n+a)=k+m * n+a by omega] at this
theorem amK {e n:Nat} {B4:Bool} (agV:B4=Nat.beq (bu P e).ks.length n):zZ P (ajX e n B4) (abY n):=by
 intro E vs us v h hg
 match vs,hg with
 | [.sl b o len cap,.int k i],hg=>
  obtain ⟨x,y,rfl,h1,h2⟩:=h.nT;obtain ⟨hc,rfl⟩:=ba.nI hg;obtain ⟨x,e,rfl⟩:=h1.Wp;have:=h2.dR; subst this;obtain ⟨m,rfl,hm,YL⟩:=Eg hc;rw [YL];exact ⟨_,by (show (nK (.ofNat m) len).bind _=_); rw [sI hm]; rfl,.Dz e⟩
 | [.ts T mk len es acc,.int q i],hg=>
  obtain ⟨x,y,rfl,h1,h2⟩:=h.nT;obtain ⟨yo,hg⟩:=ba.cond hg;obtain ⟨hc,rfl⟩:=ba.nI hg;have:=h2.dR; subst this;obtain ⟨m,rfl,hm,YL⟩:=Eg hc;rw [YL];simp only [aD] at yo;have:=bm yo.1;subst this;have hn:(bu P T).ks.length=n:=bm (agV ▸ yo.2);obtain ⟨ht,bC,h3,a,cap,rfl,h4,h5,h6⟩:=h1.pL;rcases h5 with ⟨_,h0⟩ | ⟨b,off,r,rfl,h7,h8,h9⟩
  ·omega
  ·refine ⟨_,by (show (nK (.ofNat m) len).bind _=_); rw [sI hm]; rfl,?_⟩
   have hl:=ht.len;simp only [VK];refine ⟨⟨rfl,fun i hi=>ht.acc i (by omega),ht.typed⟩,bC,h3,by omega,⟨fun a c ha=>by simpa using ha⟩,b,off,r,?_,h7,h9⟩;simp only [bp,hn,Value.pointer.injEq,dG,Addr.mk.injEq,and_true,true_and];omega
 | [.al T b o len,.int q i],hg=>
  obtain ⟨x,y,rfl,h1,h2⟩:=h.nT;obtain ⟨yo,hg⟩:=ba.cond hg;obtain ⟨hc,rfl⟩:=ba.nI hg;have:=h2.dR; subst this;obtain ⟨m,rfl,hm,YL⟩:=Eg hc;rw [YL];simp only [aD] at yo;have:=bm yo.1;subst this;have hn:(bu P T).ks.length=n:=bm (agV ▸ yo.2);rcases h1.Bh with ⟨h0,_⟩ | ⟨x,L,N,c,h3,rfl,h4,h5,h6⟩
  ·omega
  ·refine ⟨_,by (show (nK (.ofNat m) len).bind _=_); rw [sI hm]; rfl,.ass ⟨x,L,N,h3,⟨fun a c ha=>by simpa using ha⟩,by omega,?_⟩⟩
   simp only [bp,hn,Value.pointer.injEq,dG,Addr.mk.injEq,and_true,true_and];rw [Nat.add_mul]; omega
theorem ak9 {len n:Nat} {e:TypeId} : zZ P (YF P len n e) (Yt P len n e):=by
 intro E vs us v h hg
 match vs,hg with
 | [.agg cs,.int k i],hg=>
  obtain ⟨x,y,rfl,h1,h2⟩:=h.nT;obtain ⟨l,rfl,h3⟩:=h1.pG;have:=h2.dR; subst this;simp only [YF] at hg;have key:∃ m:Nat,i=(m:Int)/\m < len/\acf P e cs (m * n)=some v:=by
   cases hb:Nat.ble len 8 with
   | true=>rw [hb,ai] at hg; obtain ⟨m,_,h3,h4,h5⟩:=ba.at hg; exact ⟨m,h4,by omega,ba.of h5⟩
   | false=>
    rw [hb,aw] at hg;split at hg
    ·rename_i u hu
     obtain ⟨hc,rfl⟩:=ba.nI hg;obtain ⟨m,rfl,hm,YL⟩:=Eg hc;rw [YL] at hu;exact ⟨m,rfl,hm,hu⟩
    ·exact hg.elim
  obtain ⟨m,rfl,hm,hu⟩:=key;obtain ⟨w,h4,h5⟩:=amJ h3 hu;exact ⟨w,by (show (nK (.ofNat m) len).bind _=_); rw [sI hm]; exact h4,h5⟩
theorem ala:zZ P agK Yu:=by
 intro E vs us v h hg
 match vs,hg with
 | [.str s,.int k i],hg=>
  obtain ⟨x,y,rfl,h1,h2⟩:=h.nT;have:=h1.wC; subst this;have:=h2.dR; subst this;obtain ⟨hc,rfl⟩:=ba.nI hg;obtain ⟨m,rfl,hm,YL⟩:=Eg hc;rw [YL];have hl:m < s.data.toList.length:=by simpa using hm
  refine ⟨.int .u8 (s.data.toList.getD m 0).toNat,?_,.mkInt⟩;show (nK (.ofNat m) s.size).bind _=_;rw [sI hm];show (s.data.toList[m]?).map _=_;simp [List.getD,dF hl]
theorem agW {α:Type} : ∀ (n:Nat) (l:List α),ajY n l=l[n]?
 | n,[]=>by cases n <;> rfl
 | 0,x::_=>rfl
 | n+1,_::xs=>by simp [ajY,agW n xs]
theorem amL {i:Nat} : zZ P (ajZ i) (O3 i):=by
 intro E vs us v h hg
 match vs,hg with
 | [.lP ws],hg=>
  obtain ⟨y,rfl,h1⟩:=h.gu;obtain ⟨l,rfl,h2⟩:=h1.Um;have:=hg.of;rw [agW] at this;obtain ⟨u,h3,h4⟩:=h2.get this;exact ⟨u,by simpa [O3] using h3,h4⟩
theorem aq0:zZ P apX afR:=by
 intro E vs us v h hg
 match vs,hg with
 | [.ts T m n es acc],hg=>
  obtain ⟨y,rfl,h1⟩:=h.gu;obtain ⟨_,_,_,a,cap,rfl,_⟩:=h1.pL;have hg:KV.int .i64 n=v:=hg;subst hg;exact ⟨_,rfl,.mkInt⟩
 | [.sl b o n c],hg=>
  obtain ⟨y,rfl,h1⟩:=h.gu;obtain ⟨x,_,rfl⟩:=h1.Wp;have hg:KV.int .i64 n=v:=hg;subst hg;exact ⟨_,rfl,.mkInt⟩
 | [.al T b o n],hg=>
  obtain ⟨y,rfl,h1⟩:=h.gu;obtain ⟨a,c,rfl⟩:=h1.Bh.slice;have hg:KV.int .i64 n=v:=hg;subst hg;exact ⟨_,rfl,.mkInt⟩
 | [.nS],hg=>
  obtain ⟨y,rfl,h1⟩:=h.gu;have:=h1.r5; subst this;have hg:KV.int .i64 0=v:=hg;subst hg;exact ⟨_,rfl,.mkInt⟩
theorem aoI:zZ P amy ZI:=by
 intro E vs us v h hg
 match vs,hg with
 | [.str s],hg=>
  obtain ⟨y,rfl,h1⟩:=h.gu;have:=h1.wC; subst this;have hg:KV.int .i64 s.size=v:=hg;subst hg;exact ⟨_,rfl,.mkInt⟩
theorem aq1:zZ P apT agn:=by
 intro E vs us v h hg
 match vs,hg with
 | [.str s],hg=>
  obtain ⟨y,rfl,h1⟩:=h.gu;have:=h1.wC; subst this;have hg:KV.str s=v:=hg;subst hg;exact ⟨_,rfl,.mkStr⟩
theorem alb {f:Fn} {k:Nat} : zZ P (Ri f k) (K7 f k):=by
 intro E vs us v h hg;unfold Ri at hg;split at hg
 ·rename_i l hl
  have hg:KV.fn f l (GH k vs)=v:=hg;subst hg;have tG:zT k (GH 0 vs)=some l:=hl;obtain ⟨r,h1,h2,_⟩:=h.zT tG;have h1:takeN k us=some r:=h1;refine ⟨_,by simp [K7,h1]; rfl,.amH h2 ?_⟩;rw [Pu,wo];exact h.drop k
 ·exact hg.elim
theorem aq2 {src dst:TypeId} {k k' : IntKind} (h2:P.underlying dst=some (.int k)) (h3:P.underlying src=some (.int k')):zZ P (apS k) (O2 P src dst):=by
 intro E vs us v h hg
 match vs,hg with
 | [.int j n],hg=>
  obtain ⟨y,rfl,h1⟩:=h.gu;have:=h1.dR; subst this;have hg:KV.int k (k.wrap n)=v:=hg;subst hg;refine ⟨.int k (k.wrap n),?_,.mkInt⟩;simp only [O2,h2];simp [convert,underlying,program,Bind.bind,Sem.bind,dP,h2,h3,Conv.intToInt,Pure.pure]
end Go.K
end
section
namespace Go.K
open Go Go.aF
variable {P:Program} {E:Env}
theorem gv {α β:Type} : ∀ {s:Sem α} {f:α->Sem β} {a:α},dP P s=some a->dP P (s >>= f)=dP P (f a)
 | .pure x,f,a,h=>by simp [dP] at h; subst h; rfl
 | .program k,f,a,h=>by
  have:=gv (s:=k P) (f:=f) (a:=a) (by simpa [dP] using h);exact this
 | .mark m k,f,a,h=>by
  have:=gv (s:=k) (f:=f) (a:=a) (by simpa [dP] using h);exact this
 | .load ..,_,_,h | .store ..,_,_,h | .new ..,_,_,h | .shape ..,_,_,h | .freeze ..,_,_,h | .frozen ..,_,_,h | .getObj ..,_,_,h
 | .setObj ..,_,_,h | .choose ..,_,_,h | .sys ..,_,_,h | .halt ..,_,_,h=>by simp [dP] at h
theorem Lm {α β:Type} {init stop:β} {B:α->β->Sem (ForInStep β)} {g:α->Bool} : ∀ {l:List α},(∀ x∈l,dP P (B x init)=some (if g x=true then .yield init else .done stop))->
  dP P (forIn l init B)=some (if l.all g=true then init else stop)
 | [],_=>rfl
 | x::l,h=>by
  have hx:=h x (by simp);rw [List.forIn_cons,gv hx];cases hg:g x with
  | true=>
   simp only [if_true];rw [Lm fun y hy=>h y (by simp [hy])];simp [hg]
  | false=>simp [hg]; rfl
theorem Cb {t:TypeId} {d:TypeDesc} (h:P.underlying t=some d):dP P (underlying t)=some d:=by
 simp [underlying,program,Bind.bind,Sem.bind,dP,h,Pure.pure]
theorem aaa {t:TypeId} {i:TypeInfo} (h:P.info? t=some i):dP P (typeInfo t)=some i:=by
 simp [typeInfo,program,Bind.bind,Sem.bind,dP,h,Pure.pure]
theorem cG {α:Type} (a:α):dP P (pure a)=some a:=rfl
theorem SP {t:TypeId} {i:TypeInfo} (h:P.info? t=some i):dP P (sizeOf t)=some i.size:=by
 unfold sizeOf;rw [gv (aaa h)];rfl
theorem agX {n:Nat} {t:TypeId} {L:Bb} (h:lay P n t=some L):∃ d,P.underlying t=some d/\L.agg=afQ d/\(L.agg=false->L.ks.length=1):=by
 cases n with
 | zero=>simp [lay] at h
 | succ n=>
  simp only [lay] at h;split at h <;> rename_i hu
  ·simp at h; subst h; exact ⟨_,hu,rfl,fun _=>rfl⟩
  ·simp at h; subst h; exact ⟨_,hu,rfl,fun _=>rfl⟩
  ·simp at h; subst h; exact ⟨_,hu,rfl,fun _=>rfl⟩
  ·simp at h; subst h; exact ⟨_,hu,rfl,fun _=>rfl⟩
  ·obtain ⟨ks,_,rfl⟩:=de.1 h; exact ⟨_,hu,rfl,fun h=>by simp at h⟩
  ·obtain ⟨ks,_,rfl⟩:=de.1 h; exact ⟨_,hu,rfl,fun h=>by simp at h⟩
  ·rename_i d h1 h2 h3 h4 h5 h6
   simp at h; subst h;refine ⟨_,hu,?_,fun _=>rfl⟩;cases d <;> first | rfl | simp_all
  ·simp at h
def E9 (agg:Bool) (l:List Value):Value:=cond agg (.agg ⟨l⟩) (l.headD undef)
theorem XE {n:Nat} {t:TypeId} {L:Bb} {i:TypeInfo} {cs:Array Value} {off:Nat} (h:lay P n t=some L) (hi:P.info? t=some i) (hs:i.size=L.ks.length) (hl:off+L.ks.length<=cs.size) :
  dP P (part t cs off)=some (E9 L.agg ((cs.toList.drop off).take L.ks.length)):=by
 obtain ⟨d,hu,ha,h1⟩:=agX h;have awm:dP P (isAgg t)=some (afQ d):=by
  unfold isAgg;rw [gv (Cb hu)];cases d <;> rfl
 unfold part;rw [gv awm];cases hd:afQ d with
 | true=>
  rw [hd] at ha;simp only [if_true];rw [gv (SP hi)];simp only [cG,ha,E9,ai,hs];congr 2;apply Array.ext';simp
 | false=>
  rw [hd] at ha;have h1:=h1 ha;have bt:off < cs.size:=by omega
  simp only [xI,if_false];rw [Array.getElem?_eq_getElem bt];simp only [cG,ha,E9,aw,h1];congr 1;have:cs.toList.drop off=cs.toList[off]::cs.toList.drop (off+1):=List.drop_eq_getElem_cons (by simpa using bt);rw [this];simp
theorem aab:∀ {xs ys:List KV} {b:Bool},xz xs ys=some b->xs.length=ys.length
 | [],[],_,_=>rfl
 | [],_::_,_,h=>by simp [xz] at h
 | _::_,[],_,h=>by simp [xz] at h
 | x::xs,y::ys,b,h=>by
  simp only [xz] at h;split at h
  ·rename_i h2; simp [aab h2]
  ·simp at h
theorem Eh:∀ (n:Nat) {xs ys:List KV} {b:Bool},xz xs ys=some b->∃ b1 b2,xz (xs.take n) (ys.take n)=some b1/\xz (xs.drop n) (ys.drop n)=some b2/\b=(b1&&b2)
 | 0,xs,ys,b,h=>⟨true,b,by simp [xz],by simpa using h,by simp⟩
 | n+1,[],[],b,h=>by simp [xz] at h; subst h; exact ⟨true,true,by simp [xz],by simp [xz],rfl⟩
 | n+1,[],_::_,b,h=>by simp [xz] at h
 | n+1,_::_,[],b,h=>by simp [xz] at h
 | n+1,x::xs,y::ys,b,h=>by
  simp only [xz] at h;split at h
  ·rename_i a c h1 h2
   simp at h;obtain ⟨b1,b2,h3,h4,h5⟩:=Eh n h2;refine ⟨a&&b1,b2,by simp [xz,h1,h3],by simpa using h4,?_⟩;rw [<- h,h5,Bool.and_assoc]
  ·simp at h
def GL (xs ys:List KV) (off n:Nat):Bool:=(xz ((xs.drop off).take n) ((ys.drop off).take n)).getD false
theorem aj4 {xs ys:List KV} {b:Bool} (h:xz xs ys=some b) (off n:Nat):xz ((xs.drop off).take n) ((ys.drop off).take n)=some (GL xs ys off n):=by
 obtain ⟨_,_,_,h2,_⟩:=Eh off h;obtain ⟨b1,_,h3,_,_⟩:=Eh n h2;unfold GL;rw [h3]; rfl
theorem yr:∀ {a b:List CK} {xs:List KV},aO (a++b) xs=true->aO a (xs.take a.length)=true/\aO b (xs.drop a.length)=true
 | [],b,xs,h=>by simpa [aO] using h
 | c::a,b,[],h=>by simp [aO] at h
 | c::a,b,x::xs,h=>by
  simp only [List.cons_append,aO,aD] at h;obtain ⟨h1,h2⟩:=yr h.2;simp [aO,h.1,h1,h2]
theorem uH:∀ {a:List CK} {xs:List KV},aO a xs=true->xs.length=a.length
 | [],[],_=>rfl
 | [],_::_,h=>by simp [aO] at h
 | _::_,[],h=>by simp [aO] at h
 | c::a,x::xs,h=>by
  simp only [aO,aD] at h;simp [uH h.2]
theorem agY {lf:TypeId->Option Bb} {xs ys:List KV} {b:Bool} (he:xz xs ys=some b):∀ {fs:List Field} {off:Nat} {ks:List CK},Uf lf fs off=some ks->aO ks (xs.drop off)=true->aO ks (ys.drop off)=true->off+ks.length=xs.length->
  (∀ f∈fs,∃ L,lf f.type=some L/\f.offset+L.ks.length<=xs.length/\aO L.ks ((xs.drop f.offset).take L.ks.length)=true/\aO L.ks ((ys.drop f.offset).take L.ks.length)=true)/\
  xz (xs.drop off) (ys.drop off)=some (fs.all fun f=>GL xs ys f.offset (((lf f.type).map (·.ks.length)).getD 0))
 | [],off,ks,h,_,_,hl=>by
  simp [Uf] at h;subst h;have h1:xs.drop off = []:=by simp at hl; simp; omega
  have h2:ys.drop off = []:=by have:=aab he; simp at hl; simp; omega
  refine ⟨by simp,?_⟩;rw [h1,h2]; rfl
 | f::fs,off,ks,h,hk,Ca,hl=>by
  simp only [Uf] at h;obtain ⟨SN,h⟩:=Rp h;have SN:=bm SN;obtain ⟨L,h1,h⟩:=dr.1 h;obtain ⟨r,h2,rfl⟩:=de.1 h;obtain ⟨k1,k2⟩:=yr hk;obtain ⟨k1',k2'⟩:=yr Ca;rw [List.drop_drop] at k2 k2';simp only [n7] at hl;obtain ⟨h3,h4⟩:=agY he h2 k2 k2' (by omega);refine ⟨fun g hg=>?_,?_⟩
  ·rcases fp.1 hg with rfl | hg
   ·exact ⟨L,h1,by omega,by rw [SN]; exact k1,by rw [SN]; exact k1'⟩
   ·exact h3 g hg
  ·obtain ⟨_,_,_,h5,_⟩:=Eh off he
   obtain ⟨c1,c2,h6,h7,h8⟩:=Eh L.ks.length h5;rw [List.drop_drop,List.drop_drop] at h7;rw [h4] at h7;simp at h7;have h9:=aj4 he off L.ks.length;rw [h6] at h9;simp at h9;rw [h5,h8];simp only [List.all_cons,h1,Option.map_some,bq,SN,<- h9];rw [<- h7]
theorem Ja {α:Type} (l:List α):∀ n,(eR l n).length=n * l.length
 | 0=>by simp [eR]
 | n+1=>by rw [eR,n7,Ja l n,Nat.succ_mul]; omega
theorem agZ {xs ys:List KV} {l:List CK} : ∀ {len off:Nat} {b:Bool},xz (xs.drop off) (ys.drop off)=some b->aO (eR l len) (xs.drop off)=true->aO (eR l len) (ys.drop off)=true->
  (∀ i,i < len->aO l ((xs.drop (off+i * l.length)).take l.length)=true/\aO l ((ys.drop (off+i * l.length)).take l.length)=true)/\
  xz (xs.drop off) (ys.drop off)=some ((List.range' 0 len).all fun i=>GL xs ys (off+i * l.length) l.length)
 | 0,off,b,h,hk,Ca=>by
  have h1:xs.drop off = []:=by have:=uH hk; simp only [eR,List.length_nil] at this; exact qv.1 this
  have h2:ys.drop off = []:=by have:=uH Ca; simp only [eR,List.length_nil] at this; exact qv.1 this
  refine ⟨fun i hi=>by omega,?_⟩;rw [h1,h2]; rfl
 | len+1,off,b,h,hk,Ca=>by
  obtain ⟨c1,c2,h1,h2,h3⟩:=Eh l.length h;rw [List.drop_drop,List.drop_drop] at h2;obtain ⟨k1,k2⟩:=yr (a:=l) (b:=eR l len) hk;obtain ⟨k1',k2'⟩:=yr (a:=l) (b:=eR l len) Ca;rw [List.drop_drop] at k2 k2';obtain ⟨h5,h4⟩:=agZ (len:=len) (off:=off+l.length) h2 k2 k2';refine ⟨fun i hi=>?_,?_⟩
  ·cases i with
   | zero=>simpa using ⟨k1,k1'⟩
   | succ i=>
    have:=h5 i (by omega);rwa [show off+l.length+i * l.length=off+(i+1) * l.length by rw [Nat.succ_mul]; omega] at this
  rw [h2] at h4;simp at h4;have hw:GL xs ys off l.length=c1:=by unfold GL; rw [h1]; rfl
  rw [h,h3];rw [List.range'_succ];simp only [List.all_cons,Nat.zero_mul,zh,hw,bh];congr 2;rw [h4];have:List.range' 1 len=(List.range' 0 len).map (1 + ·):=by rw [List.map_add_range']
  rw [this,List.all_map];apply congrArg (fun f=>List.all (List.range' 0 len) f);funext i;simp only [Function.comp];congr 1;rw [Nat.add_mul]; omega
theorem amM:∀ (n d:Nat) (t:TypeId) (L:Bb) (cx cy:List KV) (xs ys:List Value) (b:Bool),JT P n t=true->lay P n t=some L->n<=d->bo P E cx xs->bo P E cy ys->aO L.ks cx=true->aO L.ks cy=true->
  xz cx cy=some b->dP P (Op.equalIn d t (E9 L.agg xs) (E9 L.agg ys))=some b
 | 0,_,_,_,_,_,_,_,_,h,_,_,_,_,_,_,_=>by simp [JT] at h
 | n+1,0,_,_,_,_,_,_,_,_,_,h,_,_,_,_,_=>by omega
 | n+1,d+1,t,L,cx,cy,xs,ys,b,h,hL,hd,hx,hy,hkx,hky,he=>by
  have hl:=uH hkx;have hly:=uH hky;have hlx' : xs.length=L.ks.length:=by rw [hx.length,hl]
  have hly' : ys.length=L.ks.length:=by rw [hy.length,hly]
  have ap2:∀ s,JT P n s=true->∃ i l,P.info? s=some i/\lay P n s=some l/\i.size=l.ks.length:=by
   intro s hs;cases n with
   | zero=>simp [JT] at hs
   | succ n=>
    simp only [JT,aD] at hs;have h1:=hs.1;split at h1
    ·rename_i i l e1 e2
     exact ⟨i,l,e1,e2,bm h1⟩
    ·simp at h1
  have SQ:∀ (s:TypeId) (l:Bb) (i:TypeInfo) (off:Nat),JT P n s=true->lay P n s=some l->P.info? s=some i->i.size=l.ks.length->off+l.ks.length<=cx.length->
    aO l.ks ((cx.drop off).take l.ks.length)=true->aO l.ks ((cy.drop off).take l.ks.length)=true->
    (do
     let u <- part s ⟨xs⟩ off
     let v <- part s ⟨ys⟩ off
     Op.equalIn d s u v:Sem Bool)=(do
     let u <- part s ⟨xs⟩ off
     let v <- part s ⟨ys⟩ off
     Op.equalIn d s u v)/\dP P (part s ⟨xs⟩ off)=some (E9 l.agg ((xs.drop off).take l.ks.length))/\dP P (part s ⟨ys⟩ off)=some (E9 l.agg ((ys.drop off).take l.ks.length))/\
    dP P (Op.equalIn d s (E9 l.agg ((xs.drop off).take l.ks.length)) (E9 l.agg ((ys.drop off).take l.ks.length)))=some (GL cx cy off l.ks.length):=by
   intro s l i off h1 h2 h3 h4 h5 h6 h7;refine ⟨rfl,?_,?_,?_⟩
   ·exact XE h2 h3 h4 (by simp; omega)
   ·exact XE h2 h3 h4 (by simp; omega)
   ·exact amM n d s l _ _ _ _ _ h1 h2 (by omega) ((hx.drop off).take _) ((hy.drop off).take _) h6 h7 (aj4 he off _)
  simp only [JT,aD] at h;have h2:=h.2;obtain ⟨dd,hu,ha,h1⟩:=agX hL;rw [hu] at h2;unfold Op.equalIn;rw [gv (Cb hu)];simp only [lay,hu] at hL;have aac:∀ c,L.ks = [c]->∃ x y u v,cx = [x]/\cy = [y]/\xs = [u]/\ys = [v]/\VK P E x u/\VK P E y v/\eqK x y=some b/\kindOk c x=true/\kindOk c y=true:=by
   intro c hc;rw [hc] at hl hly hkx hky
   match cx,cy,hl,hly with
   | [x],[y],_,_=>
    obtain ⟨u,rfl,h2⟩:=hx.gu;obtain ⟨v,rfl,h3⟩:=hy.gu;refine ⟨x,y,u,v,rfl,rfl,rfl,rfl,h2,h3,?_,by simpa [aO] using hkx,by simpa [aO] using hky⟩;simp only [xz] at he;split at he
    ·rename_i a c h4 h5
     simp at h5;subst h5;simpa [h4] using he
    ·simp at he
  cases dd with
  | int k=>
   simp at hL;subst hL;obtain ⟨x,y,u,v,rfl,rfl,rfl,rfl,h3,h4,h5,h6,h7⟩:=aac _ rfl;cases x <;> simp [kindOk] at h6;cases y <;> simp [kindOk] at h7;subst h6 h7;have:=h3.dR; subst this;have:=h4.dR; subst this;simp [eqK] at h5;subst h5;simp [E9,cG]
  | bool=>
   simp at hL;subst hL;obtain ⟨x,y,u,v,rfl,rfl,rfl,rfl,h3,h4,h5,h6,h7⟩:=aac _ rfl;cases x <;> simp [kindOk] at h6;cases y <;> simp [kindOk] at h7;have:=h3.hX; subst this;have:=h4.hX; subst this;simp [eqK] at h5;subst h5;simp [E9,cG]
  | string=>
   simp at hL;subst hL;obtain ⟨x,y,u,v,rfl,rfl,rfl,rfl,h3,h4,h5,h6,h7⟩:=aac _ rfl;cases x <;> simp [kindOk] at h6;cases y <;> simp [kindOk] at h7;have:=h3.wC; subst this;have:=h4.wC; subst this;simp [eqK] at h5;subst h5;simp [E9,cG]
  | struct fs=>
   simp only [de] at hL;obtain ⟨ks,wx,rfl⟩:=hL;simp only [aD,nD] at h2;obtain ⟨h3,h4⟩:=agY he wx (by simpa using hkx) (by simpa using hky) (by simpa using hl.symm);simp only [List.drop_zero] at h4;rw [he] at h4;simp only [dG] at h4;simp only [E9,ai];rw [gv (a:=P) (by simp [program,dP])];simp only [h2.1,xI,if_false];rw [<- Array.forIn_toList];rw [gv (Lm (g:=fun f=>GL cx cy f.offset (((lay P n f.type).map (·.ks.length)).getD 0)) (stop:=(some false,())) fun f hf=>?_)]
   ·rw [h4]
    cases (fs.toList.all fun f=>GL cx cy f.offset (((lay P n f.type).map (·.ks.length)).getD 0)) <;> rfl
   ·have h5:=iu.1 h2.2 f hf
    simp only [aD,nD,beq_eq_false_iff_ne] at h5;rw [aV h5.1];obtain ⟨l,h6,h7,h8,h9⟩:=h3 f hf;obtain ⟨i,l',e1,e2,e3⟩:=ap2 _ h5.2;rw [h6] at e2;simp at e2;subst e2;obtain ⟨_,w1,w2,w3⟩:=SQ _ l i f.offset h5.2 h6 e1 e3 h7 h8 h9;rw [gv w1,gv w2,gv w3];simp only [h6,Option.map_some,bq];cases GL cx cy f.offset l.ks.length <;> rfl
  | array len e=>
   simp only [de] at hL;obtain ⟨l,Ub,rfl⟩:=hL;obtain ⟨h3,h4⟩:=agZ (xs:=cx) (ys:=cy) (l:=l.ks) (len:=len) (off:=0) (by simpa using he) (by simpa using hkx) (by simpa using hky);simp only [List.drop_zero,bh] at h3 h4;rw [he] at h4;simp only [dG] at h4;obtain ⟨i,l',e1,e2,e3⟩:=ap2 _ h2;rw [Ub] at e2;simp at e2;subst e2;simp only [E9,ai];rw [gv (SP e1)];rw [Std.Legacy.Range.forIn_eq_forIn_range'];rw [show List.range' [:len].start [:len].size [:len].step=List.range' 0 len from by simp [Std.Legacy.Range.size]];rw [gv (Lm (g:=fun i=>GL cx cy (i * l.ks.length) l.ks.length) (stop:=(some false,())) fun j hj=>?_)]
   ·rw [h4]
    cases ((List.range' 0 len).all fun i=>GL cx cy (i * l.ks.length) l.ks.length) <;> rfl
   ·have eH:j < len:=by simpa using hj
    obtain ⟨k1,k2⟩:=h3 j eH;have hle:j * l.ks.length+l.ks.length<=cx.length:=by
     rw [hl];simp only [Ja];rw [<- Nat.succ_mul];exact Nat.mul_le_mul_right _ eH
    obtain ⟨_,w1,w2,w3⟩:=SQ _ l i (j * l.ks.length) h2 Ub e1 e3 hle k1 k2;rw [e3];rw [gv w1,gv w2,gv w3];cases GL cx cy (j * l.ks.length) l.ks.length <;> rfl
  | _=>simp at h2
theorem Uq:∀ {ks:List CK} {cs:List KV} {l:List Value},aO ks cs=true->bo P E cs l->(∀ t,CK.slice t ∉ ks)->zM l=true
 | [],[],l,_,h,_=>by rw [h.cw]; rfl
 | [],_::_,_,h,_,_=>by simp [aO] at h
 | _::_,[],_,h,_,_=>by simp [aO] at h
 | c::ks,v::cs,l,h,hv,hn=>by
  obtain ⟨y,ys,rfl,h1,h2⟩:=hv.cons_inv;simp only [aO,aD] at h;have:=Uq h.2 h2 (fun t ht=>hn t (by simp [ht]));simp only [zM,this,Bool.and_true];cases c with
  | int k=>cases v <;> simp [kindOk] at h; have:=h1.dR; subst this; rfl
  | bool=>cases v <;> simp [kindOk] at h; have:=h1.hX; subst this; rfl
  | str=>cases v <;> simp [kindOk] at h; have:=h1.wC; subst this; rfl
  | slice t=>exact absurd (by simp) (hn t)
  | other=>cases v <;> simp [kindOk] at h
theorem Ur:∀ (n:Nat) (t:TypeId) (L:Bb),JT P n t=true->lay P n t=some L->∀ u,CK.slice u ∉ L.ks
 | 0,_,_,h,_,_=>by simp [JT] at h
 | n+1,t,L,h,hL,u=>by
  simp only [JT,aD] at h;have h2:=h.2;obtain ⟨dd,hu,_,_⟩:=agX hL;rw [hu] at h2;simp only [lay,hu] at hL;cases dd with
  | int k=>simp at hL; subst hL; simp
  | bool=>simp at hL; subst hL; simp
  | string=>simp at hL; subst hL; simp
  | struct fs=>
   simp only [de] at hL;obtain ⟨ks,wx,rfl⟩:=hL;simp only [aD,iu] at h2;have key:∀ (l:List Field) (off:Nat) (ks:List CK),Uf (lay P n) l off=some ks->(∀ f∈l,JT P n f.type=true)->CK.slice u ∉ ks:=by
    intro l
    induction l with
    | nil=>intro off ks h _; simp [Uf] at h; subst h; simp
    | cons f l ih=>
     intro off ks h hf;simp only [Uf] at h;obtain ⟨_,h⟩:=Rp h;obtain ⟨L',h5,h⟩:=dr.1 h;obtain ⟨r,h6,rfl⟩:=de.1 h;rw [mI];rintro (h7 | h7)
     ·exact Ur n _ _ (hf f (by simp)) h5 u h7
     ·exact ih _ _ h6 (fun g hg=>hf g (by simp [hg])) h7
   exact key _ _ _ wx fun f hf=>(h2.2 f hf).2
  | array len e=>
   simp only [de] at hL;obtain ⟨l,Ub,rfl⟩:=hL;have:=Ur n e l h2 Ub u;have key:∀ m,CK.slice u ∉ eR l.ks m:=by
    intro m
    induction m with
    | zero=>simp [eR]
    | succ m ih=>simp only [eR,mI,not_or]; exact ⟨this,ih⟩
   exact key _
  | _=>simp at h2
theorem aoJ {t:TypeId} (h:JT P 12 t=true):lay P 12 t=some (bu P t):=by
 simp only [JT,aD] at h;have h1:=h.1;unfold bu;split at h1
 ·rename_i i l e1 e2; rw [e2]; rfl
 ·simp at h1
theorem amN {t:TypeId} {x y:KV} {b:Bool} {lit:Bool} {u v:Value} (hx:VK P E x u) (hy:VK P E y v) (h:asn P t x y=some b):uT P t lit u v=some b:=by
 unfold asn at h;split at h
 ·rename_i xs ys
  obtain ⟨hc,h⟩:=Rp h;simp only [aD,nD] at hc;obtain ⟨⟨⟨⟨ha,h1⟩,h2⟩,h3⟩,h4⟩:=hc;obtain ⟨l,rfl,hl⟩:=hx.pG;obtain ⟨m,rfl,hm⟩:=hy.pG;have hL:=aoJ h1;have hns:=Ur 12 t _ h1 hL;have hfx:flat (.agg ⟨l⟩)=true:=Uq h3 hl hns;have hfy:flat (.agg ⟨m⟩)=true:=Uq h4 hm hns;have hs:=amM 12 Op.maxDepth t (bu P t) xs ys l m b h1 hL (by unfold Op.maxDepth; omega) hl hm h3 h4 h;rw [ha] at hs;have hs:dP P (Op.equal t (.agg ⟨l⟩) (.agg ⟨m⟩))=some b:=hs;unfold uT;simp only [mL,Df,h2,rK,bD,ai];unfold eqV;split <;> simp_all
 ·rename_i a c
  split at h
  ·rename_i hu
   simp at h;subst h;have:=hx.hX; subst this;have:=hy.hX; subst this;have:dP P (Op.equal t (.bool a) (.bool c))=some (a==c):=by
    unfold Op.equal Op.maxDepth Op.equalIn;rw [gv (Cb hu)];rfl
   unfold uT;simp only [mL,Df,bD,ai];unfold eqV;split <;> simp_all [flat]
  ·simp at h
 ·split at h
  ·rename_i e hu
   simp at h;subst h;have:=hx.r5; subst this;have:=hy.r5; subst this;simp [uT,mL,Df,eqV,hu]
  ·simp at h
 ·rename_i T m n es acc
  split at h
  ·rename_i e hu
   cases hn:Nat.beq n 0 with
   | true=>rw [hn] at h; simp at h
   | false=>
    rw [hn] at h;simp at h;subst h;have:=hy.r5; subst this;obtain ⟨_,bC,_,a,cap,rfl,_,hb,_⟩:=hx.pL;rcases hb with ⟨_,h0⟩ | ⟨b,off,r,rfl,_⟩
    ·subst h0; simp at hn
    ·simp [uT,mL,Df,eqV,hu]
  ·simp at h
 ·rename_i T m n es acc
  split at h
  ·rename_i e hu
   cases hn:Nat.beq n 0 with
   | true=>rw [hn] at h; simp at h
   | false=>
    rw [hn] at h;simp at h;subst h;have:=hx.r5; subst this;obtain ⟨_,bC,_,a,cap,rfl,_,hb,_⟩:=hy.pL;rcases hb with ⟨_,h0⟩ | ⟨b,off,r,rfl,_⟩
    ·subst h0; simp at hn
    ·simp [uT,mL,Df,eqV,hu]
  ·simp at h
 ·split at h
  ·rename_i e hu
   simp at h;subst h;have:=hx.Wq; subst this;have:=hy.Wq; subst this;simp [uT,mL,Df,eqV,hu]
  ·simp at h
 ·split at h
  ·rename_i e hu
   simp at h;subst h;have:=hy.Wq; subst this;obtain ⟨x,_,rfl⟩:=hx.kc;simp [uT,mL,Df,eqV,hu]
  ·simp at h
 ·split at h
  ·rename_i e hu
   simp at h;subst h;have:=hx.Wq; subst this;obtain ⟨x,_,rfl⟩:=hy.kc;simp [uT,mL,Df,eqV,hu]
  ·simp at h
 ·simp at h
theorem auk {op:BinOp} {t:TypeId} {lit:Bool} : zZ P (aso P op t) (wk P op t lit):=by
 intro E vs us w h hg;unfold aso at hg;split at hg
 ·rename_i j a k b
  obtain ⟨x,y,rfl,h1,h2⟩:=h.nT;have:=h1.dR; subst this;have:=h2.dR; subst this;cases hs:amx op with
  | true=>
   rw [hs,ai] at hg;cases op <;> simp [amx] at hs
   ·obtain ⟨hc,rfl⟩:=ba.nI hg
    simp only [nD,decide_eq_false_iff_not] at hc;exact ⟨_,by simp [wk,binOp,Op.shift,hc,cG],.mkInt⟩
   ·obtain ⟨hc,rfl⟩:=ba.nI hg
    simp only [nD,decide_eq_false_iff_not] at hc;exact ⟨_,by simp [wk,binOp,Op.shift,hc,cG],.mkInt⟩
  | false=>
   rw [hs,aw] at hg;obtain ⟨hjk,hz⟩:=hg.cond;clear hg;simp only [lA] at hjk;subst hjk;cases op with
   | shl=>simp [amx] at hs
   | shr=>simp [amx] at hs
   | quo=>
    obtain ⟨hc,rfl⟩:=ba.nI hz;simp only [nD,decide_eq_false_iff_not] at hc;exact ⟨_,by simp [wk,binOp,Op.intDiv,hc,cG],.mkInt⟩
   | rem=>
    obtain ⟨hc,rfl⟩:=ba.nI hz;simp only [nD,decide_eq_false_iff_not] at hc;exact ⟨_,by simp [wk,binOp,Op.intDiv,hc,cG],.mkInt⟩
   | add=>have hz:KV.int _ _=w:=hz; subst hz; exact ⟨_,by simp [wk,binOp,Op.intArith,cG],.mkInt⟩
   | sub=>have hz:KV.int _ _=w:=hz; subst hz; exact ⟨_,by simp [wk,binOp,Op.intArith,cG],.mkInt⟩
   | mul=>have hz:KV.int _ _=w:=hz; subst hz; exact ⟨_,by simp [wk,binOp,Op.intArith,cG],.mkInt⟩
   | and=>have hz:KV.int _ _=w:=hz; subst hz; exact ⟨_,by simp [wk,binOp,Op.intBits,cG],.mkInt⟩
   | or=>have hz:KV.int _ _=w:=hz; subst hz; exact ⟨_,by simp [wk,binOp,Op.intBits,cG],.mkInt⟩
   | xor=>have hz:KV.int _ _=w:=hz; subst hz; exact ⟨_,by simp [wk,binOp,Op.intBits,cG],.mkInt⟩
   | andNot=>have hz:KV.int _ _=w:=hz; subst hz; exact ⟨_,by simp [wk,binOp,Op.intBits,cG],.mkInt⟩
   | eql=>have hz:KV.bool _=w:=hz; subst hz; exact ⟨_,by simp [wk,binOp,Op.intCmp,cG],.xS⟩
   | neq=>have hz:KV.bool _=w:=hz; subst hz; exact ⟨_,by simp [wk,binOp,Op.intCmp,cG],.xS⟩
   | lss=>have hz:KV.bool _=w:=hz; subst hz; exact ⟨_,by simp [wk,binOp,Op.intCmp,cG],.xS⟩
   | leq=>have hz:KV.bool _=w:=hz; subst hz; exact ⟨_,by simp [wk,binOp,Op.intCmp,cG],.xS⟩
   | gtr=>have hz:KV.bool _=w:=hz; subst hz; exact ⟨_,by simp [wk,binOp,Op.intCmp,cG],.xS⟩
   | geq=>have hz:KV.bool _=w:=hz; subst hz; exact ⟨_,by simp [wk,binOp,Op.intCmp,cG],.xS⟩
 ·rename_i a b
  obtain ⟨x,y,rfl,h1,h2⟩:=h.nT;have:=h1.wC; subst this;have:=h2.wC; subst this;split at hg
  ·have hg:KV.bool _=w:=hg; subst hg; exact ⟨_,by simp [wk,binOp,Op.stringOp,cG],.xS⟩
  ·have hg:KV.bool _=w:=hg; subst hg; exact ⟨_,by simp [wk,binOp,Op.stringOp,cG],.xS⟩
  ·have hg:KV.bool _=w:=hg; subst hg; exact ⟨_,by simp [wk,binOp,Op.stringOp,cG],.xS⟩
  ·obtain ⟨hc,rfl⟩:=ba.nI hg
   have hc:=gD hc;have hn : ¬ (((a.size+b.size:Nat):Int) > IntKind.i64.max):=by
    have:IntKind.i64.max=9223372036854775807:=by decide
    rw [this]; omega
   refine ⟨.string (a++b),?_,.mkStr⟩;simp only [wk,binOp,Op.stringOp];rw [ay hn];rfl
  ·exact hg.elim
 ·rename_i x y hn1 hn2
  obtain ⟨u,v,rfl,h1,h2⟩:=h.nT;split at hg
  ·rename_i b he
   have hg:KV.bool b=w:=hg;subst hg;have:=amN (lit:=lit) h1 h2 he;refine ⟨.bool b,?_,.xS⟩;unfold wk;split
   ·rename_i e; simp at e; obtain ⟨rfl,rfl⟩:=e; simp [uT,mL] at this
   ·rename_i e; simp at e; obtain ⟨rfl,rfl⟩:=e; simp [uT,mL] at this
   ·rename_i e; simp at e; obtain ⟨rfl,rfl⟩:=e; simp [this]
   ·rename_i e; exact absurd rfl (e _ _)
  ·rename_i b he
   have hg:KV.bool (!b)=w:=hg;subst hg;have:=amN (lit:=lit) h1 h2 he;refine ⟨.bool !b,?_,.xS⟩;unfold wk;split
   ·rename_i e; simp at e; obtain ⟨rfl,rfl⟩:=e; simp [uT,mL] at this
   ·rename_i e; simp at e; obtain ⟨rfl,rfl⟩:=e; simp [uT,mL] at this
   ·rename_i e; simp at e; obtain ⟨rfl,rfl⟩:=e; simp [this]
   ·rename_i e; exact absurd rfl (e _ _)
  ·exact hg.elim
 ·exact hg.elim
theorem avz {op:UnOp} : zZ P (kUn op) (fUn P op):=by
 intro E vs us w h hg;unfold kUn at hg;split at hg
 ·rename_i b
  obtain ⟨y,rfl,h1⟩:=h.gu;have:=h1.hX; subst this;split at hg
  ·have hg:KV.bool (!b)=w:=hg
   subst hg;exact ⟨_,by simp [fUn,Op.unary,cG],.xS⟩
  ·exact hg.elim
 ·rename_i k n
  obtain ⟨y,rfl,h1⟩:=h.gu;have:=h1.dR; subst this;split at hg
  ·have hg:KV.int _ _=w:=hg
   subst hg;exact ⟨.int k (k.wrap (0 - n)),by simp [fUn,Op.unary,Op.intArith,cG],.mkInt⟩
  ·have hg:KV.int _ _=w:=hg
   subst hg;exact ⟨_,by simp [fUn,Op.unary,Op.intBits,cG],.mkInt⟩
  ·exact hg.elim
 ·exact hg.elim
theorem ag0 {mx:Bool} : zZ P (Pl mx) (QW P fun vs=>cond mx (Builtin.max_ #[] 0 ⟨vs⟩) (Builtin.min_ #[] 0 ⟨vs⟩)):=by
 intro E vs us w h hg;unfold Pl at hg;split at hg
 ·rename_i j a k b
  obtain ⟨x,y,rfl,h1,h2⟩:=h.nT;have:=h1.dR; subst this;have:=h2.dR; subst this;obtain ⟨hjk,hz⟩:=hg.cond;clear hg;simp only [lA] at hjk;subst hjk;have hz:KV.int _ _=w:=hz;subst hz;refine ⟨_,?_,.mkInt⟩;cases mx
  ·simp [QW,zM,flat,Builtin.min_,Builtin.min2,cG]
   omega
  ·simp [QW,zM,flat,Builtin.max_,Builtin.max2,cG]
   omega
 ·rename_i j a k b l c
  obtain ⟨x,y,z,rfl,h1,h2,h3⟩:=h.YK;have:=h1.dR; subst this;have:=h2.dR; subst this;have:=h3.dR; subst this;obtain ⟨hjk,hz⟩:=hg.cond;clear hg;simp only [aD,lA] at hjk;obtain ⟨rfl,rfl⟩:=hjk;have hz:KV.int _ _=w:=hz;subst hz;refine ⟨_,?_,.mkInt⟩;cases mx
  ·show some (Value.int j (if c < (if b < a then b else a) then c else (if b < a then b else a)))=some (Value.int j (min (min a b) c))
   congr 2;split <;> split at * <;> omega
  ·show some (Value.int j (if c > (if b > a then b else a) then c else (if b > a then b else a)))=some (Value.int j (max (max a b) c))
   congr 2;split <;> split at * <;> omega
 ·exact hg.elim
end Go.K
end
section
namespace Go.K
open Go Go.aF
variable {P:Program} {E:Env}
theorem AR.of {E' : Env} {A A' : aB} {x:Nat} (uZ:∀ b,E'.α b=E.α b) (ha:∀ b v,A'.get b=some (.arr v)->A.get b=some (.arr v)) (h:AR A' E' x):AR A E x:=by
 obtain ⟨b,v,L,N,h1,h2⟩:=h;exact ⟨b,v,L,N,ha _ _ h1,by rw [<- uZ]; exact h2⟩
theorem AF.of {E' : Env} {A A' : aB} {B B' : St} {g:Nat} (uZ:∀ b,E'.α b=E.α b) (ha:∀ b v,A'.get b=some (.arr v)->A.get b=some (.arr v)) (hB:∀ x,AR A E x->B'.get x=B.get x) (h:AF A' E' B' g):AF A E B g:=by
 obtain ⟨b,v,x,L,N,cs,e,own,k,h1,h2,h3⟩:=h;have Ld:E.α b=some (x,L,N):=by rw [<- uZ]; exact h2
 exact ⟨b,v,x,L,N,cs,e,own,k,ha _ _ h1,Ld,by rw [<- hB x ⟨b,v,L,N,ha _ _ h1,Ld⟩]; exact h3⟩
theorem AT.of {E' : Env} {A A' : aB} {B B' : St} {y:Nat} (uZ:∀ b,E'.α b=E.α b) (ha:∀ b v,A'.get b=some (.arr v)->A.get b=some (.arr v)) (hB:∀ x,AR A E x->B'.get x=B.get x) (hm:∀ g,AF A E B g->B'.members g=B.members g) (h:AT A' E' B' y):AT A E B y:=by
 rcases h with h | ⟨g,h1,h2⟩
 ·exact .inl (h.of uZ ha)
 ·have:=h1.of uZ ha hB
  exact .inr ⟨g,this,by rw [<- hm g this]; exact h2⟩
theorem qL {B B' : St} (h:∀ x,x < B.next->B'.get x=B.get x):∀ y,y < B.next->∀ cs e own bV,B'.get y=some (.row cs e own bV)->∃ pE,B.get y=some (.row pE e own bV)/\pE.length=cs.length:=
 fun y hy cs _ _ _ q=>⟨cs,by rw [<- h y hy]; exact q,rfl⟩
theorem ag1 {B:St} {o:du} : ∀ x,x < B.next->(B.new o).get x=B.get x:=fun x hx=>by rw [St.dQ,ay (by omega)]
theorem Ro.pF {E' : Env} {A A' : aB} {B B' : St} (h:Ro P E A B) (hle:E.le E') (uZ:∀ b,E'.α b=E.α b) (ha:∀ b v,A'.get b=some (.arr v)->A.get b=some (.arr v)) (hf:∀ b v,A'.get b=some (.lR v)->A.get b=some (.lR v))
  (hn:A.next<=A'.next) (TD:B.next<=B'.next) (hB:∀ x,AR A E x->B'.get x=B.get x) (hz:∀ b r,E'.z b=some r->E.z b=some r\/B.next<=b) (MR:∀ b x,E'.κ b=some x->E.κ b=some x\/(A.next<=b/\B.next<=x))
  (Oe:∀ b g,E'.φ b=some g->(∃ c,E.φ c=some g)\/B.next<=g) (hm:∀ g,AF A E B g->B'.members g=B.members g) (mem:∀ g x,x∈B.members g->x < B.next):Ro P E' A' B' where
 arr b v hb:=(h.arr b v (ha _ _ hb)).mono hle (uZ b) fun x L N e=>hB x ⟨b,v,L,N,ha _ _ hb,e⟩
 lR b v hb:=(h.lR b v (hf _ _ hb)).mono hle (uZ b)
 z x hx:=by
  have hx':=AR.of uZ ha hx;obtain ⟨b,v,L,N,h1,h2⟩:=hx';have bt:=h.jd _ _ _ _ h2;obtain ⟨h3,h4⟩:=h.z x (AR.of uZ ha hx);refine ⟨?_,fun c e=>?_⟩
  ·cases hz' : E'.z x with
   | none=>rfl
   | some r=>
    rcases hz x r hz' with e | e
    ·rw [h3] at e; simp at e
    ·omega
  ·rcases MR c x e with e | ⟨_,e⟩
   ·exact h4 c e
   ·omega
 inj b c v u x L N L' N' h1 h2 h3 h4:=h.inj b c v u x L N L' N' (ha _ _ h1) (ha _ _ h2) (by rw [<- uZ]; exact h3) (by rw [<- uZ]; exact h4)
 zi b c v u x y L N L' N' cs e own g k cm e' tJ k' h1 h2 h3 h4 h5 h6:=by
  rw [uZ] at h3 h4;rw [hB x ⟨b,v,L,N,ha _ _ h1,h3⟩] at h5;rw [hB y ⟨c,u,L',N',ha _ _ h2,h4⟩] at h6;exact h.zi b c v u x y L N L' N' cs e own g k cm e' tJ k' (ha _ _ h1) (ha _ _ h2) h3 h4 h5 h6
 dis b x e:=by
  rw [uZ];rcases MR b x e with e | ⟨e,_⟩
  ·exact h.dis b x e
  ·cases hb:E.α b with
   | none=>rfl
   | some p=>have:=h.oC b p hb; omega
 nk b v hb:=by
  obtain ⟨h1,h2⟩:=h.nk b v (ha _ _ hb);refine ⟨uQ h1 hn,?_⟩;cases e:E'.κ b with
  | none=>rfl
  | some x=>
   rcases MR b x e with e | ⟨e,_⟩
   ·rw [h2] at e; simp at e
   ·omega
 oC b p e:=by rw [uZ] at e; have:=h.oC b p e; omega
 jd b x L N e:=by rw [uZ] at e; have:=h.jd b x L N e; omega
 xB b v x L N cs e own g k h1 h2 h3:=by
  rw [uZ] at h2;have hA:=ha _ _ h1;rw [hB x ⟨b,v,L,N,hA,h2⟩] at h3;obtain ⟨h4,h5,h6⟩:=h.xB b v x L N cs e own g k hA h2 h3;refine ⟨by omega,fun f e=>?_,fun y hy eY=>?_⟩
  ·rcases Oe f g e with ⟨c,e⟩ | e
   ·exact h5 c e
   ·omega
  ·rw [hm g ⟨b,v,x,L,N,cs,_,own,k,hA,h2,h3⟩] at hy
   have bt:=mem g y hy;obtain ⟨h7,h8,h9⟩:=h6 y hy eY;refine ⟨?_,fun q=>h8 (AR.of uZ ha q),fun c e=>?_⟩
   ·cases hz' : E'.z y with
    | none=>rfl
    | some r=>
     rcases hz y r hz' with e | e
     ·rw [h7] at e; simp at e
     ·omega
   ·rcases MR c y e with e | ⟨_,e⟩
    ·exact h9 c e
    ·omega
theorem gU.Nb {A:aB} {B:St} (h:gU P E A B) {x:Nat} (q:AR A E x):x < B.next:=by
 obtain ⟨b,v,L,N,_,h2⟩:=q;exact h.ar.jd _ _ _ _ h2
structure eX (P:Program) (E:Env) (A:aB) (B:St) (E' : Env) (A' : aB) (B' : St):Prop where
 kV:gU P E' A' B'
 le:E.le E'
 next:A.next<=A'.next
 pF:∀ x,x < B.next->(∀ b,E.κ b≠some x)->¬ AT A E B x->B'.get x=B.get x
 new:∀ b x,E'.κ b=some x->E.κ b=some x\/B.next<=x
 yp:∀ b r,E'.z b=some r->E.z b=some r\/AR A E b\/B.next<=b
 yq:∀ b g,E'.φ b=some g->E.φ b=some g\/B.next<=g
 uz:∀ g,g < B.next->(∀ b,E.φ b≠some g)->¬ AF A E B g->B'.members g=B.members g
 qt:∀ x,AR A' E' x->AR A E x\/B.next<=x
 qK:∀ g,AF A' E' B' g->AF A E B g\/B.next<=g
 zX:∀ g y,y∈B'.members g->y∈B.members g\/B.next<=y
 r6:∀ y,AT A' E' B' y->AT A E B y\/B.next<=y
 rows:∀ y,y < B.next->∀ cs e own bV,B'.get y=some (.row cs e own bV)->∃ pE,B.get y=some (.row pE e own bV)/\pE.length=cs.length
theorem eX.ev {base:Nat} {E' : Env} {A A' : aB} {B B' : St} {ρ a8:a7} {w w' : World} (h:eX P E A B E' A' B') (g:pw base ρ B w a8 B' w'):Ev P base E A B ρ w E' A' B' a8 w':=
 ⟨h.kV,g,h.le,h.next,h.pF,h.new,h.yp,fun b g e=>(h.yq b g e).imp (fun e=>⟨b,e⟩) id,h.uz,h.qt,h.qK,h.zX,h.r6,h.rows⟩
def Og (P:Program) (o:Oper):uY->Prop
 | .pure f xs=>∀ (E:Env) (ρ:a7) (ev:Operand->KV) (df:Operand->Value) (v:KV),(∀ x∈xs,VC P E ρ (ev x) (df x))->ba (f (xs.map ev)) v->∃ v',VC P E ρ v v'/\∀ w,(execOp df o).run P w = .ok (.value v') w
 | .read f xs=>∀ (E:Env) (A:aB) (B:St) (ρ:a7) (base:Nat) (w:World) (ev:Operand->KV) (df:Operand->Value) (v:KV),KJ P E A B ρ base w->(∀ x∈xs,VC P E ρ (ev x) (df x))->ba (f A (xs.map ev)) v->
   ∃ v',VC P E ρ v v'/\(execOp df o).run P w = .ok (.value v') w
 | .look f xs=>∀ (E:Env) (A:aB) (B:St) (ρ:a7) (base:Nat) (w:World) (ev:Operand->KV) (df:Operand->Value) (v:KV),KJ P E A B ρ base w->(∀ x∈xs,VC P E ρ (ev x) (df x))->ba (f (xs.map ev)) v->
   ∃ E' B' a8 v' nx w',(execOp df o).run P w = .ok nx w'/\aov v' nx/\VC P E' a8 v v'/\Ev P base E A B ρ w E' A B' a8 w'
 | .act f xs=>∀ (E:Env) (A A' : aB) (B:St) (ρ:a7) (base:Nat) (w:World) (ev:Operand->KV) (df:Operand->Value) (v:KV),KJ P E A B ρ base w->(∀ x∈xs,VC P E ρ (ev x) (df x))->ba (f A (xs.map ev)) (v,A')->
   ∃ E' B' a8 v' nx w',(execOp df o).run P w = .ok nx w'/\aov v' nx/\VC P E' a8 v v'/\Ev P base E A B ρ w E' A' B' a8 w'
 | _=>True
theorem cM {ρ:a7} {ev:Operand->KV} {df:Operand->Value} {xs:List Operand} (h:∀ x∈xs,VC P E ρ (ev x) (df x)) :
  ∃ em:Operand->Value,bo P E (xs.map ev) (xs.map em)/\BZ ρ em df xs:=by
 classical
 refine ⟨fun x=>if hx:VC P E ρ (ev x) (df x) then hx.choose else undef,?_,?_⟩
 ·induction xs with
  | nil=>exact .nil
  | cons x xs ih=>
   refine .cons ?_ (ih fun y hy=>h y (by simp [hy]));have hx:=h x (by simp);simp only [dif_pos hx];exact hx.choose_spec.1
 ·intro x hx
  have hx:=h x hx;simp only [dif_pos hx];exact hx.choose_spec.2
theorem lift_pure {o:Oper} {f:FP} {g:List Value->Option Value} {xs:List Operand} (hc:compile P o.op = .pure g xs) (hs:zZ P f g):Og P o (.pure f xs):=by
 intro E ρ ev df v hv hg;obtain ⟨em,h1,h2⟩:=cM hv;obtain ⟨u,h3,h4⟩:=hs E _ _ v h1 hg;have cq:=uW P o;rw [hc] at cq;obtain ⟨v',h5,h6⟩:=cq ρ em df u h2 h3;exact ⟨v',⟨u,h4,h5⟩,h6⟩
def amO (P:Program) (f:FR) (g:St->List Value->Option Value):Prop:=
 ∀ (E:Env) (A:aB) (B:St) (vs:List KV) (us:List Value) (v:KV),gU P E A B->bo P E vs us->ba (f A vs) v->∃ u,g B us=some u/\VK P E v u
theorem Rr {o:Oper} {f:FR} {g:St->List Value->Option Value} {xs:List Operand} (hc:compile P o.op = .read g xs) (hs:amO P f g):Og P o (.read f xs):=by
 intro E A B ρ base w ev df v hj hv hg;obtain ⟨em,h1,h2⟩:=cM hv;obtain ⟨u,h3,h4⟩:=hs E A B _ _ v hj.k h1 hg;have cq:=uW P o;rw [hc] at cq;obtain ⟨v',h5,h6⟩:=cq ρ B base w em df u hj.s.rel h2 h3;exact ⟨v',⟨u,h4,h5⟩,h6⟩
def ap3 (P:Program) (f:FA) (g:St->List Value->Option (Value×St)):Prop:=
 ∀ (E:Env) (A A' : aB) (B:St) (vs:List KV) (us:List Value) (v:KV),gU P E A B->bo P E vs us->ba (f A vs) (v,A')->∃ u B' E',g B us=some (u,B')/\VK P E' v u/\eX P E A B E' A' B'
theorem aco {o:Oper} {f:FA} {g:St->List Value->Option (Value×St)} {xs:List Operand} (hc:compile P o.op = .act g xs) (hs:ap3 P f g):Og P o (.act f xs):=by
 intro E A A' B ρ base w ev df v hj hv hg;obtain ⟨em,h1,h2⟩:=cM hv;obtain ⟨u,B',E',h3,h4,h5⟩:=hs E A A' B _ _ v hj.k h1 hg;have cq:=uW P o;rw [hc] at cq;obtain ⟨a8,v',nx,w',h6,h7,h8,h9⟩:=cq ρ B B' base w em df u hj.s h2 h3;exact ⟨E',B',a8,v',nx,w',h6,h7,⟨u,h4,h8⟩,h5.ev h9⟩
def auW (P:Program) (f:FP) (g:St->List Value->Option (Value×St)):Prop:=
 ∀ (E:Env) (A:aB) (B:St) (vs:List KV) (us:List Value) (v:KV),gU P E A B->bo P E vs us->ba (f vs) v->∃ u B' E',g B us=some (u,B')/\VK P E' v u/\eX P E A B E' A B'
theorem aoK {o:Oper} {f:FP} {g:St->List Value->Option (Value×St)} {xs:List Operand} (hc:compile P o.op = .act g xs) (hs:auW P f g):Og P o (.look f xs):=by
 intro E A B ρ base w ev df v hj hv hg;obtain ⟨em,h1,h2⟩:=cM hv;obtain ⟨u,B',E',h3,h4,h5⟩:=hs E A B _ _ v hj.k h1 hg;have cq:=uW P o;rw [hc] at cq;obtain ⟨a8,v',nx,w',h6,h7,h8,h9⟩:=cq ρ B B' base w em df u hj.s h2 h3;exact ⟨E',B',a8,v',nx,w',h6,h7,⟨u,h4,h8⟩,h5.ev h9⟩
theorem acp {o:Oper} {g:List Value->Option (du×(Nat->Value))} {xs:List Operand} (hc:compile P o.op = .make g xs) {ρ:a7} {B:St} {base:Nat} {w:World} {em df:Operand->Value} {obj:du} {mk:Nat->Value} (hs:zP ρ B base w)
  (h2:BZ ρ em df xs) (h3:g (xs.map em)=some (obj,mk)):∃ a8 v' w',(execOp df o).run P w = .ok (.value v') w'/\VR a8 (mk B.next) v'/\pw base ρ B w a8 (B.new obj) w':=by
 have cq:=uW P o;rw [hc] at cq;obtain ⟨c,mk',h4,h5,h6⟩:=cq ρ em df obj mk h2 h3;exact ⟨_,_,_,h5 w,h6 _ _ _ (a7.uF _ _ _),h4.gX hs⟩
def aj5 (P:Program) (f:FA) (g:List Value->Option (du×(Nat->Value))):Prop:=
 ∀ (E:Env) (A A' : aB) (B:St) (vs:List KV) (us:List Value) (v:KV),gU P E A B->bo P E vs us->ba (f A vs) (v,A')->∃ obj mk E',g us=some (obj,mk)/\VK P E' v (mk B.next)/\eX P E A B E' A' (B.new obj)
theorem Ln {o:Oper} {f:FA} {g:List Value->Option (du×(Nat->Value))} {xs:List Operand} (hc:compile P o.op = .make g xs) (hs:aj5 P f g):Og P o (.act f xs):=by
 intro E A A' B ρ base w ev df v hj hv hg;obtain ⟨em,h1,h2⟩:=cM hv;obtain ⟨obj,mk,E',h3,h4,h5⟩:=hs E A A' B _ _ v hj.k h1 hg;obtain ⟨a8,v',w',h6,h7,h8⟩:=acp hc hj.s h2 h3;exact ⟨E',B.new obj,a8,v',_,w',h6,rfl,⟨_,h4,h7⟩,h5.ev h8⟩
def asu (P:Program) (f:FP) (g:List Value->Option (du×(Nat->Value))):Prop:=
 ∀ (E:Env) (A:aB) (B:St) (vs:List KV) (us:List Value) (v:KV),gU P E A B->bo P E vs us->ba (f vs) v->∃ obj mk E',g us=some (obj,mk)/\VK P E' v (mk B.next)/\eX P E A B E' A (B.new obj)
theorem aj6 {o:Oper} {f:FP} {g:List Value->Option (du×(Nat->Value))} {xs:List Operand} (hc:compile P o.op = .make g xs) (hs:asu P f g):Og P o (.look f xs):=by
 intro E A B ρ base w ev df v hj hv hg;obtain ⟨em,h1,h2⟩:=cM hv;obtain ⟨obj,mk,E',h3,h4,h5⟩:=hs E A B _ _ v hj.k h1 hg;obtain ⟨a8,v',w',h6,h7,h8⟩:=acp hc hj.s h2 h3;exact ⟨E',B.new obj,a8,v',_,w',h6,rfl,⟨_,h4,h7⟩,h5.ev h8⟩
def Env.oO (E:Env) (b x:Nat):Env:={ E with κ:=fun c=>if c=b then some x else E.κ c }
def Env.iw (E:Env) (b:Nat) (r:amE):Env:={ E with z:=fun c=>if c=b then some r else E.z c }
def Env.wF (E:Env) (b g:Nat):Env:={ E with φ:=fun c=>if c=b then some g else E.φ c }
theorem eX.newRow {A:aB} {B:St} {cs:List KV} {cm:List Value} {cc:Nat} (h:gU P E A B) (hv:bo P E cs cm):eX P E A B (E.oO A.next B.next) (A.new (.row cs cc)) (B.new (.row cm cc true none)):=by
 have hle:E.le (E.oO A.next B.next):=⟨fun _ _ e=>e,fun b x e=>by
  have:=h.oC b x e;simp only [Env.oO]; rw [ay (by omega)]; exact e,fun _ _ e=>e,fun _ _ e=>e⟩
 have hA:∀ (b:Nat) (v:KV),(A.new (.row cs cc)).get b=some (.arr v)->A.get b=some (.arr v):=fun b v hb=>by
  rw [aB.dQ] at hb;split at hb
  ·simp at hb
  ·exact hb
 have hfz:∀ (b:Nat) (v:KV),(A.new (.row cs cc)).get b=some (.lR v)->A.get b=some (.lR v):=fun b v hb=>by
  rw [aB.dQ] at hb;split at hb
  ·simp at hb
  ·exact hb
 have DD:∀ x,AR A E x->(B.new (.row cm cc true none)).get x=B.get x:=fun x q=>by have:=h.Nb q; rw [St.dQ,ay (by omega)]
 refine ⟨⟨?_,?_,?_,?_,?_,?_,?_,?_,?_,?_,?_,?_,?_,?_,h.ar.pF hle (fun _=>rfl) hA hfz (by simp) (by simp) DD (fun _ _ e=>.inl e) (fun b x e=>?_) (fun b g e=>.inl ⟨b,e⟩) (fun _ _=>by simp) h.mem⟩,hle,by simp,?_,?_,fun _ _ e=>.inl e,fun _ _ e=>.inl e,fun _ _ _ _=>by simp,fun _ q=>.inl (q.of (fun _=>rfl) hA),fun _ q=>.inl (q.of (fun _=>rfl) hA DD),fun _ _ q=>.inl (by simpa using q),fun _ q=>.inl (q.of (fun _=>rfl) hA DD fun _ _=>by simp),qL ag1⟩
 ·intro b pE Ut hb
  rw [aB.dQ] at hb;split at hb
  ·rename_i e
   simp at hb;obtain ⟨rfl,rfl⟩:=hb;exact ⟨B.next,cm,by simp [Env.oO,e],by simp,hv.mono hle⟩
  ·obtain ⟨x,c,h1,h2,h3⟩:=h.row b pE Ut hb
   have:=h.jd b x h1;exact ⟨x,c,hle.κ _ _ h1,by rw [St.dQ,ay (by omega)]; exact h2,h3.mono hle⟩
 ·intro b top Lo hb
  rw [aB.dQ] at hb;split at hb
  ·simp at hb
  ·rcases h.aZ b top Lo hb with h1 | ⟨g,h1,hp0,h2⟩
   ·exact .inl h1
   ·refine .inr ⟨g,h1,hp0,fun x hx c e own f k hg=>?_⟩
    rw [St.dQ] at hg;split at hg
    ·simp at hg
    ·exact h2 x (by simpa using hx) c e own f k hg
 ·intro b r hb
  have:=h.rb b r hb;rw [St.dQ,ay (by omega)];exact h.z b r hb
 ·intro b x hb
  simp only [Env.oO] at hb ⊢;split at hb
  ·simp at hb
   subst hb;cases hz:E.z B.next with
   | none=>rfl
   | some r=>have:=h.rb _ r hz; omega
  ·exact h.apart b x hb
 ·intro b c x hb hc
  simp only [Env.oO] at hb hc;split at hb <;> split at hc
  ·omega
  ·simp at hb; subst hb; have:=h.jd c _ hc; omega
  ·simp at hc; subst hc; have:=h.jd b _ hb; omega
  ·exact h.inj b c x hb hc
 ·exact Kn.new (E:=E.oO A.next B.next) (fun x y g a b c d e f hx hy=>h.lT x y g a b c d e f hx hy) (.inl fun _ _=>by simp)
 ·intro b x hb
  simp only [Env.oO] at hb;rw [aB.cD];split at hb
  ·omega
  ·have:=h.oC b x hb; omega
 ·intro b g hb; have:=h.qJ b g hb; rw [aB.cD]; omega
 ·intro b o hb
  rw [aB.dQ] at hb;rw [aB.cD];split at hb
  ·omega
  ·have:=h.live b o hb; omega
 ·intro b x hb
  simp only [Env.oO] at hb;rw [St.cD];split at hb
  ·simp at hb; omega
  ·have:=h.jd b x hb; omega
 ·intro b r hb; have:=h.rb b r hb; rw [St.cD]; omega
 ·intro b g hb; have:=h.mM b g hb; rw [St.cD]; omega
 ·intro g hg; rw [St.cD] at hg; rw [St.oa]; exact h.fresh g (by omega)
 ·intro g x hx; rw [St.oa] at hx; rw [St.cD]; have:=h.mem g x hx; omega
 ·simp only [Env.oO] at e
  split at e
  ·simp at e; exact .inr (by omega)
  ·exact .inl e
 ·intro x hx _ _; rw [St.dQ,ay (by omega)]
 ·intro b x hb
  simp only [Env.oO] at hb;split at hb
  ·simp at hb; exact .inr (by omega)
  ·exact .inl hb
theorem eX.ap4 {A:aB} {B:St} {cm:List Value} {cc:Nat} (h:gU P E A B):eX P E A B (E.iw B.next ⟨cm,cc,true,none⟩) A (B.new (.row cm cc true none)):=by
 have hle:E.le (E.iw B.next ⟨cm,cc,true,none⟩):=⟨fun _ _ e=>e,fun _ _ e=>e,fun b r e=>by
  have:=h.rb b r e;simp only [Env.iw]; rw [ay (by omega)]; exact e,fun _ _ e=>e⟩
 have DD:∀ x,AR A E x->(B.new (.row cm cc true none)).get x=B.get x:=fun x q=>by have:=h.Nb q; rw [St.dQ,ay (by omega)]
 have MS:∀ b r,(E.iw B.next ⟨cm,cc,true,none⟩).z b=some r->E.z b=some r\/B.next<=b:=fun b r e=>by
  simp only [Env.iw] at e;split at e
  ·exact .inr (by omega)
  ·exact .inl e
 refine ⟨⟨?_,?_,?_,?_,?_,?_,?_,?_,?_,?_,?_,?_,?_,?_,h.ar.pF hle (fun _=>rfl) (fun _ _ e=>e) (fun _ _ e=>e) (aW _) (by simp) DD MS (fun _ _ e=>.inl e) (fun b g e=>.inl ⟨b,e⟩) (fun _ _=>by simp) h.mem⟩,hle,aW _,?_,?_,fun b r e=>(MS b r e).imp id .inr,fun _ _ e=>.inl e,fun _ _ _ _=>by simp,fun _ q=>.inl q,fun _ q=>.inl (q.of (fun _=>rfl) (fun _ _ e=>e) DD),fun _ _ q=>.inl (by simpa using q),fun _ q=>.inl (q.of (fun _=>rfl) (fun _ _ e=>e) DD fun _ _=>by simp),qL ag1⟩
 ·intro b pE Ut hb
  obtain ⟨x,c,h1,h2,h3⟩:=h.row b pE Ut hb;have:=h.jd b x h1;exact ⟨x,c,hle.κ _ _ h1,by rw [St.dQ,ay (by omega)]; exact h2,h3.mono hle⟩
 ·intro b top Lo hb
  rcases h.aZ b top Lo hb with h1 | ⟨g,h1,hp0,h2⟩
  ·exact .inl h1
  ·refine .inr ⟨g,h1,hp0,fun x hx c e own f k hg=>?_⟩
   rw [St.dQ] at hg;split at hg
   ·simp at hg
   ·exact h2 x (by simpa using hx) c e own f k hg
 ·intro b r hb
  simp only [Env.iw] at hb;split at hb
  ·rename_i e
   simp at hb;subst hb e;simp
  ·have:=h.rb b r hb
   rw [St.dQ,ay (by omega)];exact h.z b r hb
 ·intro b x hb
  have:=h.jd b x hb;simp only [Env.iw];rw [ay (by omega)];exact h.apart b x hb
 ·exact h.inj
 ·exact h.lT
 ·exact h.oC
 ·exact h.qJ
 ·exact h.live
 ·intro b x hb; have:=h.jd b x hb; rw [St.cD]; omega
 ·intro b r hb
  simp only [Env.iw] at hb;rw [St.cD];split at hb
  ·omega
  ·have:=h.rb b r hb; omega
 ·intro b g hb; have:=h.mM b g hb; rw [St.cD]; omega
 ·intro g hg; rw [St.cD] at hg; rw [St.oa]; exact h.fresh g (by omega)
 ·intro g x hx; rw [St.oa] at hx; rw [St.cD]; have:=h.mem g x hx; omega
 ·intro x hx _ _; rw [St.dQ,ay (by omega)]
 ·intro b x hb; exact .inl hb
theorem eX.aul {A:aB} {B:St} {b x cc:Nat} {cs:List KV} {cm:List Value} (h:gU P E A B) (hb:∃ pE e,A.get b=some (.row pE e)) (hx:E.κ b=some x) (hold:∃ pE,B.get x=some (.row pE cc true none)/\pE.length=cm.length) (hv:bo P E cs cm):eX P E A B E (A.put b (.row cs cc)) (B.put x (.row cm cc true none)):=by
 have hA:∀ (c:Nat) (v:KV),(A.put b (.row cs cc)).get c=some (.arr v)->A.get c=some (.arr v):=fun c v hb=>by
  rw [aB.cr] at hb;split at hb
  ·simp at hb
  ·exact hb
 have hfz:∀ (c:Nat) (v:KV),(A.put b (.row cs cc)).get c=some (.lR v)->A.get c=some (.lR v):=fun c v hb=>by
  rw [aB.cr] at hb;split at hb
  ·simp at hb
  ·exact hb
 have DD:∀ y,AR A E y->(B.put x (.row cm cc true none)).get y=B.get y:=fun y q=>by
  rw [St.cr,ay];intro e;subst e;exact (h.ar.z _ q).2 b hx
 refine ⟨⟨?_,?_,?_,h.apart,h.inj,h.lT.put (.inl fun _ _=>by simp),h.oC,h.qJ,?_,h.jd,h.rb,h.mM,?_,?_,h.ar.pF (Env.le_refl _) (fun _=>rfl) hA hfz (aW _) (aW _) DD (fun _ _ e=>.inl e) (fun _ _ e=>.inl e) (fun b g e=>.inl ⟨b,e⟩) (fun _ _=>by simp) h.mem⟩,Env.le_refl _,aW _,?_,fun _ _ e=>.inl e,fun _ _ e=>.inl e,fun _ _ e=>.inl e,fun _ _ _ _=>by simp,fun _ q=>.inl (q.of (fun _=>rfl) hA),fun _ q=>.inl (q.of (fun _=>rfl) hA DD),fun _ _ q=>.inl (by simpa using q),fun _ q=>.inl (q.of (fun _=>rfl) hA DD fun _ _=>by simp),fun y _ c e own bV q=>by
  rw [St.cr] at q;split at q
  ·rename_i e2
   simp at q;obtain ⟨rfl,rfl,rfl,rfl⟩:=q;obtain ⟨c0,h1,h2⟩:=hold;exact ⟨c0,by rw [e2]; exact h1,h2⟩
  ·exact ⟨c,q,rfl⟩⟩
 ·intro c pE Ut hc
  rw [aB.cr] at hc;split at hc
  ·rename_i e
   simp at hc;obtain ⟨rfl,rfl⟩:=hc;exact ⟨x,cm,by rw [e]; exact hx,by simp,hv⟩
  ·rename_i eY
   obtain ⟨y,d,h1,h2,h3⟩:=h.row c pE Ut hc;refine ⟨y,d,h1,?_,h3⟩;rw [St.cr,ay (fun e=>eY (h.inj c b x (by rw [<- e]; exact h1) hx))];exact h2
 ·intro c top Lo hc
  rw [aB.cr] at hc;split at hc
  ·simp at hc
  ·rcases h.aZ c top Lo hc with h1 | ⟨g,h1,hp0,h2⟩
   ·exact .inl h1
   ·refine .inr ⟨g,h1,hp0,fun y hy d e own f k hg=>?_⟩
    rw [St.cr] at hg;split at hg
    ·simp at hg
    ·exact h2 y (by simpa using hy) d e own f k hg
 ·intro c r hc
  rw [St.cr,ay]
  ·exact h.z c r hc
  ·intro e
   have:=h.apart b x hx;rw [<- e,hc] at this;simp at this
 ·intro c o hc
  rw [aB.cr] at hc;rw [aB.wq];split at hc
  ·rename_i e
   obtain ⟨pE,e0,hb⟩:=hb;rw [e]; exact h.live b _ hb
  ·exact h.live c o hc
 ·intro g hg; rw [St.xK]; exact h.fresh g hg
 ·intro g y hy; rw [St.xK] at hy; exact h.mem g y hy
 ·intro y hy hn _
  rw [St.cr,ay (fun e=>hn b (by rw [e]; exact hx))]
theorem aum {n:Nat} : aj5 P (Ir n) (amj n):=by
 intro E A A' B vs us v h hv hg;unfold Ir at hg;split at hg
 ·rename_i x
  obtain ⟨y,rfl,h1⟩:=hv.gu;obtain ⟨ho,hg⟩:=hg.cond;have hg:(KV.ptr A.next 0,A.new (.row x.cells n))=(v,A'):=hg;simp only [gF] at hg;obtain ⟨rfl,rfl⟩:=hg;have hc:=h1.cells (CV ho);have hsc:y.cells.toList.all scalar=true:=iu.2 (hc.scalar ho);exact ⟨Ki n y,K6,E.oO A.next B.next,by simp [amj,hsc],.Dz (by simp [Env.oO]),eX.newRow h hc⟩
 ·exact hg.elim
theorem aq3 {t:TypeId} {z:Value} (hz:wj P t=some z) (hf:flat z=true) (hsc:z.cells.toList.all scalar=true) (ho:jy (iR z).cells=true):aj5 P (adY (rz P t) (iR z).cells) (QT P t):=by
 intro E A A' B vs us v h hv hg;have hg:(KV.ptr A.next 0,A.new (.row (iR z).cells (rz P t)))=(v,A'):=hg;simp only [gF] at hg;obtain ⟨rfl,rfl⟩:=hg;exact ⟨Ki (rz P t) z,K6,E.oO A.next B.next,by simp only [QT,hz,gE,hf,hsc,bD,ai],.Dz (by simp [Env.oO]),eX.newRow h (GK ho)⟩
theorem Uu {cs:List KV} {l:List Value} (h:bo P E cs l):∀ n,bo P E (eR cs n) (ie l n)
 | 0=>.nil
 | n+1=>bo.append h (Uu h n)
theorem ajb {n b:Nat} {z:Value} (ho:jy (iR z).cells=true):aj5 P (Uj n b (iR z).cells) (Il n b z):=by
 intro E A A' B vs us v h hv hg;unfold Uj at hg;split at hg
 ·rename_i k l k' c
  obtain ⟨x,y,rfl,h1,h2⟩:=hv.nT;have:=h1.dR; subst this;have:=h2.dR; subst this;obtain ⟨hc,hg⟩:=ba.nI hg;simp only [gF] at hg;obtain ⟨rfl,rfl⟩:=hg;simp only [aD,lA] at hc;obtain ⟨⟨h3,h4⟩,h5⟩:=hc;obtain ⟨l',rfl⟩:=Int.eq_ofNat_of_zero_le h3;obtain ⟨c',rfl⟩:=Int.eq_ofNat_of_zero_le (Int.le_trans h3 h4);have h6:Nat.ble l' c' = true:=Nat.ble_eq_true_of_le (by omega);refine ⟨.row (ie z.cells.toList c') n true none,fun k=>.slice (some ⟨k,0,none⟩) l' c',E.oO A.next B.next,?_,.ap1 (by simp [Env.oO]),eX.newRow h (Uu (GK ho) c')⟩;have h5:Nat.ble (b * c') 281474976710656=true:=h5;show cond (Nat.ble l' c'&&Nat.ble (b * c') 281474976710656) _ _=_;rw [h6,h5];rfl
 ·exact hg.elim
theorem gU.rowAt {A:aB} {B:St} (h:gU P E A B) {b x:Nat} {cs:List KV} (hr:rowAt A b=some cs) (hx:E.κ b=some x):∃ cm cc,B.get x=some (.row cm cc true none)/\bo P E cs cm:=by
 unfold K.rowAt at hr;split at hr
 ·rename_i c e hg
  simp at hr;subst hr;obtain ⟨y,d,h1,h2,h3⟩:=h.row _ _ _ hg;rw [hx] at h1;simp at h1;subst h1;exact ⟨d,_,h2,h3⟩
 ·simp at hr
theorem Uv (e:KV):∀ (cs:List CK) (k:Nat),(leaves e cs k).length=cs.length
 | [],_=>rfl
 | c::cs,k=>by simp [leaves,Uv e cs]
theorem alc {c:CK} {v:KV} (h:kindOk c v=true):leaf c v=v:=by
 cases c with
 | int k=>cases v <;> simp [kindOk] at h; subst h; rfl
 | bool=>cases v <;> simp [kindOk] at h; rfl
 | str=>cases v <;> simp [kindOk] at h; rfl
 | slice t=>
  cases v <;> simp [kindOk] at h;rename_i T m n es acc;cases m <;> simp at h;subst h;rfl
 | other=>cases v <;> simp [kindOk] at h
theorem Fa:∀ {ks:List CK} {cs:List KV} {i:Nat} {c:CK},aO ks cs=true->ks[i]? = some c->∃ v,cs[i]? = some v/\kindOk c v=true
 | [],_,i,c,_,h=>by simp at h
 | _::_,[],_,_,h,_=>by simp [aO] at h
 | k::ks,v::cs,0,c,h,e=>by
  simp only [aO,aD] at h;simp at e;subst e;exact ⟨v,rfl,h.1⟩
 | k::ks,v::cs,i+1,c,h,e=>by
  simp only [aO,aD] at h;obtain ⟨u,h1,h2⟩:=Fa (i:=i) h.2 (by simpa using e);exact ⟨u,by simpa using h1,h2⟩
theorem lE:∀ {l:Bb} {es:List KV} {i:Nat} {e:KV},gY l es=true->es[i]? = some e->cI l e=true
 | l,[],i,e,_,h=>by simp at h
 | l,x::es,0,e,h,he=>by
  simp only [gY,aD] at h;simp at he;subst he;exact h.1
 | l,x::es,i+1,e,h,he=>by
  simp only [gY,aD] at h;exact lE h.2 (by simpa using he)
theorem jQ {l:Bb} {e:KV} (h:cI l e=true):aO l.ks e.cells=true/\Bc e=true:=by
 cases e <;> simp [cI] at h <;> first | exact ⟨h.2,rfl⟩ | skip
 obtain ⟨h1,h2⟩:=h;cases hk:l.ks with
 | nil=>rw [hk] at h2; simp [aO] at h2
 | cons c cs=>rw [hk] at h2; cases c <;> simp [aO,kindOk] at h2
theorem YM {e:KV} {ks:List CK} (hk:aO ks e.cells=true):∀ {cs:List CK} {k:Nat},(∀ m c,cs[m]? = some c->ks[k+m]? = some c)->leaves e cs k=(e.cells.drop k).take cs.length
 | [],k,_=>by simp [leaves]
 | c::cs,k,h=>by
  obtain ⟨v,h1,h2⟩:=Fa hk (by simpa using h 0 c rfl);have bt:k < e.cells.length:=(dD.1 h1).1;have ih:=YM hk (cs:=cs) (k:=k+1) (fun m d hm=>by have:=h (m+1) d (by simpa using hm); rwa [show k+(m+1)=k+1+m by omega] at this);simp only [leaves];have e1:e.cells.getD k .bG=v:=by simp [List.getD,h1]
  rw [e1,alc h2];rw [show Nat.succ k=k+1 from rfl,ih,List.drop_eq_getElem_cons bt];have e2:e.cells[k] = v:=by
   have:=dF bt;rw [this] at h1;simpa using h1
  simp [e2]
theorem gU.Ob {A:aB} {B:St} (h:gU P E A B) {b x L N' : Nat} {v:KV} (hr:Ob A b=some v) (hx:E.α b=some (x,L,N')) :
  ∃ T N es acc,v = .ts T .any N es acc/\ko P T N es acc/\1<=bp P T/\∃ cs e own bV bC,N' = N/\B.get x=some (.row cs e own bV)/\bo P E es bC/\ss (bp P T) 0 cs bC/\L=cs.length/\e=bp P T:=by
 unfold K.Ob at hr;split at hr
 ·rename_i u hg
  simp at hr; subst hr;obtain ⟨T,N,es,acc,h1,h2,h3,h4⟩:=h.ar.arr b _ hg;refine ⟨T,N,es,acc,h1,h2,h3,?_⟩;rcases h4 with ⟨_,h5⟩ | ⟨y,cs,bV,bC,h4,h5,h6,h7⟩
  ·rw [hx] at h5; simp at h5
  ·rw [hx] at h4
   simp only [dG,gF] at h4;obtain ⟨rfl,rfl,rfl⟩:=h4;exact ⟨cs,_,_,bV,bC,rfl,h5,h6,h7,rfl,rfl⟩
 ·rename_i u hg
  simp at hr; subst hr;obtain ⟨T,N,es,acc,h1,h2,h3,h4⟩:=h.ar.lR b _ hg;refine ⟨T,N,es,acc,h1,h2,h3,?_⟩;rcases h4 with ⟨_,h5⟩ | ⟨y,r,bC,h4,h5,h6,h7,h8⟩
  ·rw [hx] at h5; simp at h5
  ·rw [hx] at h4
   simp only [dG,gF] at h4;obtain ⟨rfl,rfl,rfl⟩:=h4;exact ⟨r.cs,_,_,_,bC,rfl,h.z _ _ h5,h7,h8,rfl,h6⟩
 ·simp at hr
theorem ag2 {t T Tc:TypeId} {k x base cc:Nat} {own:Bool} {bV:Option (Nat×Nat)} {e:KV} {u:Value} {cs:List Value} {B:St} (hz:B.get x=some (.row cs cc own bV)) (hc:afX P t Tc=true) (hw:af2 P T Tc k) (Iv:cI (bu P T) e=true)
  (h7:VK P E e u) (gI:u.cells.size=bp P T) (sE:∀ (m:Nat) (y:Value),u.cells[m]? = some y->cs[base+m]? = some y):∃ w,QU P t B [.pointer (some ⟨x,base+k,none⟩)] = some w/\VK P E (TE (bu P t).agg (leaves e (bu P t).ks k)) w:=by
 simp only [afX,aD,lA] at hc;obtain ⟨⟨⟨⟨hTc,hpl⟩,ha⟩,hn⟩,auX⟩:=hc;have:=bm hTc;subst this;obtain ⟨aun,auo⟩:=jQ Iv;have hlv:=YM aun (cs:=(bu P Tc).ks) (k:=k) hw.is;rw [hlv];have Q9:=h7.cells auo;have hlen:e.cells.length=bp P T:=by have:=Q9.length; simp at this; omega
 have sW:(bu P Tc).ks.length<=e.cells.length - k:=by
  have:=congrArg List.length hlv;rw [Uv] at this;simp at this;omega
 have lD:∀ m,m < (bu P Tc).ks.length->cs[base+k+m]? = u.cells.toList[k+m]?:=by
  intro m hm;have bt:k+m < u.cells.size:=by omega
  have:=sE (k+m) u.cells[k+m] (by simp [bt]);rw [show base+(k+m)=base+k+m by omega] at this;rw [this];simp [bt]
 have aoL:takeN (bu P Tc).ks.length (K5 (base+k) cs)=some ((u.cells.toList.drop k).take (bu P Tc).ks.length):=by
  have hle:(bu P Tc).ks.length<=(cs.drop (base+k)).length:=by
   cases Ub:(bu P Tc).ks.length with
   | zero=>omega
   | succ q=>
    have:=lD q (by omega);have bt:k+q < u.cells.toList.length:=by simp; omega
    rw [dF bt] at this;have:=(dD.1 this).1;simp;omega
  rw [wo,Pv hle];congr 1;apply List.ext_getElem?;intro m;rw [rj,rj];split
  ·rename_i hm
   rw [rJ,rJ];exact lD m hm
  ·rfl
 have Gr:bo P E (e.cells.drop k |>.take (bu P Tc).ks.length) ((u.cells.toList.drop k).take (bu P Tc).ks.length):=(Q9.drop k).take _;cases DA:(bu P Tc).agg with
 | true=>
  rw [DA] at ha;refine ⟨.agg ⟨(u.cells.toList.drop k).take (bu P Tc).ks.length⟩,?_,.tD Gr⟩;simp [QU,loadAt,ha,hn,St.B8,dC,Eb,hz,aoL]
 | false=>
  rw [DA] at ha;have hl1:(bu P Tc).ks.length=1:=by
   rw [DA] at auX;exact bm (by simpa using auX)
  rw [hl1] at aoL Gr;have bt:k < e.cells.length:=by omega
  rw [hl1];rw [List.drop_eq_getElem_cons bt] at Gr ⊢;simp only [List.take_succ_cons,List.take_zero] at Gr ⊢;obtain ⟨w,h8,h9⟩:=Gr.gu;refine ⟨w,?_,h9⟩;simp [QU,loadAt,ha,St.B8,dC,Eb,hz,aoL,h8]
theorem amP {t:TypeId} : amO P (ace P t) (QU P t):=by
 intro E A B vs us v h hv hg;unfold ace at hg;split at hg
 ·rename_i b off
  obtain ⟨y,rfl,h1⟩:=hv.gu;obtain ⟨x,hx,rfl⟩:=h1.kc;split at hg
  ·rename_i ag n ha hn
   split at hg
   ·rename_i l hl
    obtain ⟨cs,h2,h3⟩:=dr.1 hl;obtain ⟨cm,cc,h4,h5⟩:=h.rowAt h2 hx;obtain ⟨r,h6,h7,_⟩:=h5.zT h3;cases ag with
    | true=>
     have hg:KV.agg l=v:=hg;subst hg;refine ⟨.agg ⟨r⟩,?_,.tD h7⟩;simp [QU,loadAt,ha,hn,St.B8,dC,Eb,h4,h6]
    | false=>
     rw [aw] at hg;split at hg
     ·rename_i u
      have hg:u=v:=hg;subst hg;obtain ⟨w,rfl,h8⟩:=h7.gu;have hlen:n=1:=by
       obtain ⟨e,hle⟩:=Wo h3;have:=congrArg List.length e;rw [pz,Nat.min_eq_left hle] at this;simpa using this.symm
      subst hlen;exact ⟨w,by simp [QU,loadAt,ha,St.B8,dC,Eb,h4,h6],h8⟩
     ·exact hg.elim
   ·exact hg.elim
  ·exact hg.elim
 ·rename_i T Tc i k es acc
  obtain ⟨y,rfl,h1⟩:=hv.gu;obtain ⟨hc,hg⟩:=hg.cond;have hg:TE (bu P t).agg (leaves (acc i) (bu P t).ks k)=v:=hg;subst hg;obtain ⟨ht,bC,h2,hi,hw,b,off,r,rfl,h4,h5⟩:=h1.Rn;have awn:=ht.acc i hi;have hei:es[i]? = some (acc i):=by rw [awn]; simp [List.getD,hi]
  obtain ⟨u,h6,h7⟩:=h2.get hei;obtain ⟨gI,sE⟩:=h5 i u h6;exact ag2 (h.z b r h4) hc hw (lE ht.typed hei) h7 gI sE
 ·rename_i T Tc b i k
  obtain ⟨y,rfl,h1⟩:=hv.gu;split at hg
  ·rename_i T' m N es acc hA
   obtain ⟨hc,hg⟩:=hg.cond;have hg:TE (bu P t).agg (leaves (acc i) (bu P t).ks k)=v:=hg;subst hg;simp only [aD] at hc;have:=bm hc.1;subst this;obtain ⟨x,L,N',h2,hw,hi,rfl⟩:=h1.Na;obtain ⟨T2,N2,tH,hO,ZV,ht,h1s,cs,e,own,bV,bC,h3,h4,h5,h6,_⟩:=h.Ob hA h2;simp only [KV.ts.injEq] at ZV;obtain ⟨rfl,rfl,rfl,rfl,rfl⟩:=ZV;have bt:i < es.length:=by rw [<- ht.len,<- h3]; exact hi
   have hei:es[i]? = some (acc i):=by rw [ht.acc i (by rw [ht.len]; exact bt)]; simp [List.getD,bt]
   obtain ⟨u,h7,h8⟩:=h5.get hei;obtain ⟨gI,sE⟩:=h6 i u h7;rw [bh] at sE;exact ag2 h4 hc.2 hw (lE ht.typed hei) h8 gI sE
  ·exact hg.elim
 ·exact hg.elim
end Go.K
end
section
namespace Go.K
open Go Go.aF
variable {P:Program} {E:Env}
theorem VK.asv {T:TypeId} {m:Mk} {n:Nat} {es:List KV} {acc:Nat->KV} {u:Value} (h:VK P E (.ts T m n es acc) u):VK P E (.ts T .any n es acc) u:=by
 obtain ⟨ht,bC,h1,a,cap,rfl,h2,h3,_⟩:=h.pL;simp only [VK];exact ⟨ht,bC,h1,a,cap,rfl,h2,h3,trivial⟩
theorem VK.aoM {T:TypeId} {acc:Nat->KV} : VK P E (.ts T .any 0 [] acc) (.slice none 0 0):=by
 simp only [VK];exact ⟨⟨rfl,fun i h=>by omega,rfl⟩,[],.nil,none,0,rfl,aW _,.inl ⟨rfl,rfl⟩,trivial⟩
theorem VK.avA {b:Bool} {v:KV} {u:Value} (h:VK P E v u):VK P E (cond b v .bG) u:=by
 cases b with
 | false=>exact .wD
 | true=>exact h
theorem VK.qq {c:CK} {v:KV} {u:Value} (h:VK P E v u):VK P E (qq c v) u:=by
 unfold K.qq;split
 ·have:=h.r5; subst this; exact .aoM
 ·rename_i t t' m n es acc
  cases hb:Nat.beq t t' with
  | false=>exact .wD
  | true=>
   have:=bm hb;subst this;exact h.asv
 ·exact VK.avA h
theorem bo.E6:∀ {ks:List CK} {cs:List KV} {l:List Value},bo P E cs l->cs.length=ks.length->bo P E (E6 ks cs) l
 | [],[],l,h,_=>h
 | [],_::_,_,_,e=>by simp at e
 | _::_,[],_,_,e=>by simp at e
 | c::ks,v::cs,l,h,e=>by
  obtain ⟨y,ys,rfl,h1,h2⟩:=h.cons_inv;exact .cons h1.qq (bo.E6 h2 (by simpa using e))
theorem VK.ig {l:Bb} {v:KV} {u:Value} (h:VK P E v u):VK P E (ig l v) u:=by
 unfold K.ig;split
 ·rename_i cs
  obtain ⟨m,rfl,h1⟩:=h.pG;cases hb:(l.agg&&Nat.beq cs.length l.ks.length) with
  | false=>exact .wD
  | true=>
   simp only [aD] at hb;exact .tD (h1.E6 (bm hb.2))
 ·cases l.agg with
  | true=>exact .wD
  | false=>
   rw [aw];split
   ·exact h.qq
   ·exact .wD
theorem aad (d:Nat) (v:KV):eJ P (d+1) v=(match v with
 | .ts t _ n _ acc=>.ts t .any n ((List.range n).map fun i=>vA P (eJ P d) t (acc i)) (fun i=>vA P (eJ P d) t (acc i))
 | v=>v):=rfl
theorem ajc (d:Nat) {c:CK} {v:KV} (h:kindOk c v=true):kindOk c (eJ P d v)=true:=by
 cases d with
 | zero=>exact h
 | succ d=>
  rw [aad];split
  ·rename_i t m n es acc
   cases c <;> simp [kindOk] at h;cases m <;> simp at h;simp [kindOk,h]
  ·exact h
theorem Lq (d:Nat):∀ {ks:List CK} {cs:List KV},aO ks cs=true->aO ks (cs.map (eJ P d))=true
 | [],[],_=>rfl
 | [],_::_,h=>by simp [aO] at h
 | _::_,[],h=>by simp [aO] at h
 | c::ks,v::cs,h=>by
  simp only [aO,aD] at h;simp only [List.map_cons,aO,aD];exact ⟨ajc d h.1,Lq d h.2⟩
theorem u3:∀ {ks:List CK} {vs:List KV},aO ks vs=true->vs.length=ks.length
 | [],[],_=>rfl
 | [],_::_,h=>by simp [aO] at h
 | _::_,[],h=>by simp [aO] at h
 | k::ks,v::vs,h=>by
  simp only [aO,aD] at h;simp [u3 h.2]
theorem sY {l:Bb} : ∀ {es:List KV},(∀ (i:Nat) e,es[i]? = some e->cI l e=true)->gY l es=true
 | [],_=>rfl
 | e::es,h=>by
  simp only [gY,aD];exact ⟨h 0 e rfl,sY fun i x hx=>h (i+1) x (by simpa using hx)⟩
theorem Rs {l:Bb} {v:KV} (h:cI l v=true):leaves v l.ks 0=v.cells/\aO l.ks v.cells=true/\(v=TE l.agg v.cells):=by
 have hk:aO l.ks v.cells=true/\(v=TE l.agg v.cells):=by
  by_cases ha:∃ cs,v = .agg cs
  ·obtain ⟨cs,rfl⟩:=ha
   simp only [cI,aD] at h;refine ⟨h.2,?_⟩;rw [h.1]; rfl
  ·have h1:(!l.agg&&aO l.ks [v])=true:=by
    cases v <;> first | exact h | exact absurd ⟨_,rfl⟩ ha | simp [cI] at h
   have hc:v.cells = [v]:=by cases v <;> first | rfl | exact absurd ⟨_,rfl⟩ ha
   simp only [aD,nD] at h1;rw [hc,h1.1];exact ⟨h1.2,rfl⟩
 refine ⟨?_,hk.1,hk.2⟩;rw [YM (e:=v) (ks:=l.ks) hk.1 (fun m c e=>by rw [bh]; exact e)];show (v.cells.drop 0).take l.ks.length=v.cells;rw [List.drop_zero,<- u3 hk.1,List.take_length]
theorem ag3 {l:Bb} {cs:List KV} {v:KV} (h:cI l v=true) (hk:aO l.ks cs=true) (hlen:cs.length=v.cells.length):cI l (TE l.agg cs)=true:=by
 by_cases ha:∃ ds,v = .agg ds
 ·obtain ⟨ds,rfl⟩:=ha
  simp only [cI,aD] at h;rw [h.1];show (l.agg&&aO l.ks cs)=true;rw [h.1,hk]; rfl
 ·have h1:(!l.agg&&aO l.ks [v])=true:=by
   cases v <;> first | exact h | exact absurd ⟨_,rfl⟩ ha | simp [cI] at h
  have hc:v.cells = [v]:=by cases v <;> first | rfl | exact absurd ⟨_,rfl⟩ ha
  simp only [aD,nD] at h1;rw [hc] at hlen
  match cs,hlen with
  | [c],_=>
   rw [h1.1];show cI l c=true;have aac:one c=true:=by
    cases wx:l.ks with
    | nil=>rw [wx] at hk; simp [aO] at hk
    | cons a aw2=>rw [wx] at hk; simp only [aO,aD] at hk; cases a <;> cases c <;> first | rfl | simp [kindOk] at hk
   cases c <;> first | (simp [one] at aac; done) | (simp only [cI,h1.1,rK,MU]; exact hk)
mutual
theorem VK.eJ:∀ (d:Nat) {v:KV} {u:Value},VK P E v u->VK P E (K.eJ P d v) u
 | 0,_,_,h=>h
 | d+1,v,u,h=>by
  rw [aad];split
  ·rename_i t m n es acc
   obtain ⟨ht,bC,h1,a,cap,rfl,h2,h3,_⟩:=h.pL;simp only [VK];have Iv:∀ i,i < n->∃ e e',es[i]? = some e/\bC[i]? = some e'/\acc i=e/\cI (bu P t) e=true/\VK P E e e':=by
    intro i hi;have hl:i < es.length:=by rw [<- ht.len]; exact hi
    have e1:=dF hl;obtain ⟨e',e2,e3⟩:=h1.get e1;exact ⟨_,e',e1,e2,by rw [ht.acc i hi,iQ,e1]; rfl,lE ht.typed e1,e3⟩
   have hlen:bC.length=n:=by rw [h1.length,ht.len]
   refine ⟨⟨by simp,fun i hi=>?_,?_⟩,bC,?_,a,cap,rfl,h2,h3,trivial⟩
   ·rw [iQ,AZ,List.getElem?_range hi]; rfl
   ·refine sY fun i e he=>?_
    rw [AZ] at he;by_cases hi:i < n
    ·rw [List.getElem?_range hi] at he
     simp only [Option.map_some,dG] at he;obtain ⟨x,x',_,_,q3,q4,_⟩:=Iv i hi;rw [<- he,q3,vA];obtain ⟨r1,r2,_⟩:=Rs q4;rw [r1];exact ag3 q4 (Lq d r2) (by simp)
    ·rw [List.getElem?_eq_none (by simp; omega)] at he; simp at he
   ·refine bo.ZN (by simp [hlen]) fun i e e' he Iq=>?_
    rw [AZ] at he;by_cases hi:i < n
    ·rw [List.getElem?_range hi] at he
     simp only [Option.map_some,dG] at he;obtain ⟨x,x',_,q2,q3,q4,q5⟩:=Iv i hi;rw [Iq] at q2;simp only [dG] at q2;subst q2;rw [<- he,q3];exact VK.vA d q4 q5
    ·rw [List.getElem?_eq_none (by simp; omega)] at he; simp at he
  ·exact h
theorem VK.vA (d:Nat) {t:TypeId} {v:KV} {u:Value} (hk:cI (bu P t) v=true) (h:VK P E v u):VK P E (K.vA P (K.eJ P d) t v) u:=by
 obtain ⟨r1,r2,r3⟩:=Rs hk;rw [K.vA,r1];by_cases ha:∃ cs,v = .agg cs
 ·obtain ⟨cs,rfl⟩:=ha
  obtain ⟨l,rfl,h1⟩:=h.pG;have DA:(bu P t).agg=true:=by simp only [cI,aD] at hk; exact hk.1
  rw [DA];exact .tD (bo.amQ d h1)
 ·have hc:v.cells = [v]:=by cases v <;> first | rfl | exact absurd ⟨_,rfl⟩ ha
  have DA:(bu P t).agg=false:=by
   cases v <;> first | (simp only [cI,aD,nD] at hk; exact hk.1) | exact absurd ⟨_,rfl⟩ ha | simp [cI] at hk
  rw [DA,hc];exact VK.eJ d h
theorem bo.amQ (d:Nat):∀ {cs:List KV} {l:List Value},bo P E cs l->bo P E (cs.map (K.eJ P d)) l
 | [],l,h=>h
 | c::cs,l,h=>by
  obtain ⟨y,ys,rfl,h1,h2⟩:=h.cons_inv;exact .cons (VK.eJ d h1) (bo.amQ d h2)
end
theorem amR {c:CK} {v:KV} (h:kindOk c v=true):one v=true:=by
 cases c <;> cases v <;> simp [kindOk] at h <;> rfl
theorem Ko:∀ {ks:List CK} {cs:List KV},aO ks cs=true->jy cs=true
 | [],[],_=>rfl
 | [],_::_,h=>by simp [aO] at h
 | _::_,[],h=>by simp [aO] at h
 | c::ks,v::cs,h=>by
  simp only [aO,aD] at h;simp [jy,amR h.1,Ko h.2]
def bO:List Value->List Value
 | []=>[]
 | v::vs=>v.cells.toList++bO vs
theorem kW {n:Nat} : ∀ {es:List Value},(∀ v∈es,v.cells.size=n)->(bO es).length=es.length * n
 | [],_=>by simp [bO]
 | v::es,h=>by
  simp only [bO,n7,Kg];rw [kW fun u hu=>h u (by simp [hu])];have:=h v (by simp);simp only [Array.length_toList,this,Nat.succ_mul];omega
theorem qi {n:Nat} : ∀ {es:List Value},(∀ v∈es,v.cells.size=n)->ss n 0 (bO es) es
 | [],_,i,x,h=>by simp at h
 | v::es,hs,i,x,h=>by
  have hv:=hs v (by simp);cases i with
  | zero=>
   simp at h;subst h;refine ⟨hv,fun k y hy=>?_⟩;simp only [bO,Nat.zero_mul,bh];have bt:k < v.cells.size:=(EN.1 hy).1;rw [ue (by simpa using bt)];simpa using hy
  | succ i=>
   obtain ⟨h1,h2⟩:=qi (es:=es) (fun u hu=>hs u (by simp [hu])) i x (by simpa using h);refine ⟨h1,fun k y hy=>?_⟩;have:=h2 k y hy;simp only [bO];rw [vU (by simp [hv,Nat.succ_mul]; omega)];rw [<- this];congr 1;simp [hv,Nat.succ_mul];omega
theorem CW:∀ (a b:List Value),bO (a++b)=bO a++bO b
 | [],b=>rfl
 | v::a,b=>by simp [bO,CW a b]
theorem HU:∀ {es:List Value},(∀ v∈es,∀ c∈v.cells.toList,scalar c=true)->∀ c∈bO es,scalar c=true
 | [],_,c,h=>by simp [bO] at h
 | v::es,hs,c,h=>by
  simp only [bO,mI] at h;rcases h with h | h
  ·exact hs v (by simp) c h
  ·exact HU (fun u hu=>hs u (by simp [hu])) c h
theorem ad4 {n:Nat} : ∀ {es:List Value} {i:Nat} {v:Value},(∀ u∈es,u.cells.size=n)->v.cells.size=n->i < es.length->jw (i * n) (bO es) v.cells.toList=some (bO (es.set i v))
 | [],i,v,_,_,h=>by simp at h
 | u::es,0,v,hs,hv,_=>by
  simp only [Nat.zero_mul,bO,List.set_cons_zero];have key:∀ (a b r:List Value),a.length=b.length->jw 0 (a++r) b=some (b++r):=by
   intro a
   induction a with
   | nil=>intro b r h; cases b <;> simp_all [Dy]
   | cons x a ih=>
    intro b r h;cases b with
    | nil=>simp at h
    | cons y b=>rw [List.cons_append,zL,ih b r (by simpa using h)]; rfl
  exact key _ _ _ (by simp [hs u (by simp),hv])
 | u::es,i+1,v,hs,hv,h=>by
  have ih:=ad4 (es:=es) (i:=i) (fun w hw=>hs w (by simp [hw])) hv (by simpa using h);simp only [bO,List.set_cons_succ];have key:∀ (a r vs q:List Value) (m:Nat),jw m r vs=some q->jw (a.length+m) (a++r) vs=some (a++q):=by
   intro a
   induction a with
   | nil=>intro r vs q m h; simpa using h
   | cons x a ih=>
    intro r vs q m h;rw [Kg,show a.length+1+m=(a.length+m)+1 by omega,List.cons_append,vx,ih r vs q m h];rfl
  have:=key u.cells.toList _ _ _ _ ih;rw [show u.cells.toList.length+i * n=(i+1) * n by simp [hs u (by simp),Nat.succ_mul]; omega] at this;exact this
def DE (es:List Value):List (Nat×Value)->List Value
 | []=>es
 | (i,v)::rest=>DE (es.set i v) rest
theorem XF:∀ (ps:List (Nat×Value)) (es:List Value),(DE es ps).length=es.length
 | [],_=>rfl
 | p::ps,es=>by simp [DE,XF ps]
theorem ag4 {n:Nat} (hn:1<=n):∀ {ps:List (Nat×Value)} {es:List Value},(∀ u∈es,u.cells.size=n)->(∀ p∈ps,p.2.cells.size=n/\p.1 < es.length)->
  EP (Ec n) (bO es) ps=some (bO (DE es ps))/\∀ u∈DE es ps,u.cells.size=n
 | [],es,hs,_=>⟨rfl,hs⟩
 | (i,v)::ps,es,hs,hp=>by
  obtain ⟨h1,h2⟩:=hp (i,v) (by simp);have h3:=ad4 hs h1 h2;have agG:∀ u∈es.set i v,u.cells.size=n:=by
   intro u hu;rcases List.mem_or_eq_of_mem_set hu with h | h
   ·exact hs u h
   ·subst h; exact h1
  obtain ⟨h4,h5⟩:=ag4 hn (ps:=ps) agG (fun p hq=>by have:=hp p (by simp [hq]); simpa using this);refine ⟨?_,h5⟩;simp only [EP,Ec];have e1:Nat.beq v.cells.size n=true:=by rw [h1]; simp
  have e2:Nat.ble 1 n=true:=Nat.ble_eq_true_of_le hn;rw [e1,e2];simp only [bD,ai,h3,gE];exact h4
theorem YN {v:KV} {u:Value} (h:VK P E v u):∀ {es:List KV} {bC:List Value} (i:Nat),bo P E es bC->bo P E (setAt es i v) (bC.set i u)
 | [],bC,i,q=>by rw [q.cw]; cases i <;> exact .nil
 | x::es,bC,0,q=>by
  obtain ⟨y,ys,rfl,h1,h2⟩:=q.cons_inv;exact .cons h h2
 | x::es,bC,i+1,q=>by
  obtain ⟨y,ys,rfl,h1,h2⟩:=q.cons_inv;exact .cons h1 (YN h i h2)
theorem ag5 {l:Bb} : ∀ {is:List Nat} {vs:List KV} {us:List Value} {es:List KV} {bC:List Value},bo P E vs us->bo P E es bC->bo P E (Rg es ((EZ is vs).map fun p=>(p.1,ig l p.2))) (DE bC (zipIdx is us))
 | [],vs,us,es,bC,_,h=>by simpa [EZ,zipIdx,Rg,DE] using h
 | i::is,[],us,es,bC,hv,h=>by rw [hv.cw]; simpa [EZ,zipIdx,Rg,DE] using h
 | i::is,v::vs,us,es,bC,hv,h=>by
  obtain ⟨y,ys,rfl,h1,h2⟩:=hv.cons_inv;simp only [EZ,zipIdx,List.map_cons,Rg,DE];exact ag5 h2 (YN h1.ig i h)
theorem HV:∀ (es:List KV) (i:Nat) (v:KV),(setAt es i v).length=es.length
 | [],0,_=>rfl
 | [],_+1,_=>rfl
 | _::_,0,_=>rfl
 | e::es,i+1,v=>by simp [setAt,HV es i v]
theorem XG:∀ (ps:List (Nat×KV)) (es:List KV),(Rg es ps).length=es.length
 | [],_=>rfl
 | p::ps,es=>by simp [Rg,XG ps,HV]
theorem ap5 {n:Nat} : ∀ {is:List Nat} (us:List Value),KU n is=true->∀ p∈zipIdx is us,p.1 < n/\p.2∈us
 | [],us,_,p,h=>by simp [zipIdx] at h
 | i::is,[],_,p,h=>by simp [zipIdx] at h
 | i::is,u::us,h,p,hp=>by
  simp only [KU,aD,bZ] at h;simp only [zipIdx,fp] at hp;rcases hp with rfl | hp
  ·exact ⟨h.1,by simp⟩
  ·obtain ⟨h1,h2⟩:=ap5 us h.2 p hp
   exact ⟨h1,by simp [h2]⟩
theorem Kp (z:Value):∀ n,ie z.cells.toList n=bO (List.replicate n z)
 | 0=>rfl
 | n+1=>by simp [ie,List.replicate_succ,bO,Kp z n]
theorem aae {z:KV} {u:Value} (h:VK P E z u):∀ n,bo P E (eR [z] n) (List.replicate n u)
 | 0=>.nil
 | n+1=>by simpa [eR,List.replicate_succ] using bo.cons h (aae h n)
theorem sJ {l:Bb} : ∀ {es:List KV} {bC:List Value},gY l es=true->bo P E es bC->∀ u∈bC,u.cells.size=l.ks.length/\∀ c∈u.cells.toList,scalar c=true
 | [],bC,_,h,u,hu=>by rw [h.cw] at hu; simp at hu
 | e::es,bC,Iv,h,u,hu=>by
  obtain ⟨y,ys,rfl,h1,h2⟩:=h.cons_inv;simp only [gY,aD] at Iv;rcases fp.1 hu with rfl | hu
  ·obtain ⟨k1,k2⟩:=jQ Iv.1
   have hc:=h1.cells k2;refine ⟨?_,hc.scalar (Ko k1)⟩;have:=hc.length;have:=uH k1;simp at *;omega
  ·exact sJ Iv.2 h2 u hu
theorem aj7 {l:Bb} : ∀ {vs:List KV} {us:List Value},bo P E vs us->bo P E (vs.map (ig l)) us
 | [],_,h=>h
 | v::vs,us,h=>by
  obtain ⟨y,ys,rfl,h1,h2⟩:=h.cons_inv;exact .cons h1.ig (aj7 h2)
theorem ajd {e:TypeId} {n len:Nat} {z:Value} {is:List Nat} (hn:(bu P e).ks.length=n) (h1n:1<=n) (hz:z.cells.size=n) (hb:KU len is=true) :
  asu P (Ug (bu P e) e (ig (bu P e) (iR z)) len is) (A5 n z len is):=by
 intro E A B vs us v h hv hg;unfold Ug at hg;obtain ⟨hc,hg⟩:=ba.cond hg;simp only [aD] at hc;obtain ⟨⟨hk,hvs⟩,Iv⟩:=hc;have hg:KV.ts e .exact len _ _=v:=hg;subst hg;have GM:VK P E (ig (bu P e) (iR z)) z:=(VK.iR z).ig;have Gr:=ag5 (l:=bu P e) (is:=is) hv (aae GM len);have hlen:(Rg (eR [ig (bu P e) (iR z)] len) ((EZ is vs).map fun p=>(p.1,ig (bu P e) p.2))).length=len:=by
  rw [XG,Ja]; simp
 have aup:∀ p∈zipIdx is us,p.2.cells.size=n/\p.1 < (List.replicate len z).length:=by
  intro p hp;obtain ⟨h5,h6⟩:=ap5 us hb p hp;have hm:bo P E (vs.map (ig (bu P e))) us:=aj7 hv;exact ⟨by rw [<- hn]; exact (sJ hvs hm p.2 h6).1,by simpa using h5⟩
 obtain ⟨h3,h4⟩:=ag4 h1n (ps:=zipIdx is us) (es:=List.replicate len z) (fun u hu=>by rw [(List.mem_replicate.1 hu).2]; exact hz) aup;have Ba:=sJ Iv Gr;have qD:(bO (DE (List.replicate len z) (zipIdx is us))).all scalar=true:=iu.2 (HU fun u hu=>(Ba u hu).2);refine ⟨.row (bO (DE (List.replicate len z) (zipIdx is us))) n true none,fun b=>.slice (some ⟨b,0,none⟩) len len,E.iw B.next ⟨_,n,true,none⟩,?_,?_,eX.ap4 h⟩
 ·unfold A5
  rw [Kp,h3];simp only [gE];rw [qD,Rq hv hk];rfl
 ·have aoN:=Gr.mono (eX.ap4 (cm:=bO (DE (List.replicate len z) (zipIdx is us))) (cc:=n) h).le
  have qf:(DE (List.replicate len z) (zipIdx is us)).length=len:=by rw [XF]; simp
  simp only [VK];refine ⟨⟨hlen.symm,fun i _=>rfl,Iv⟩,_,aoN,some ⟨B.next,0,none⟩,len,rfl,aW _,.inr ⟨B.next,0,⟨bO (DE (List.replicate len z) (zipIdx is us)),n,true,none⟩,rfl,by simp [Env.iw],hn.symm,?_⟩,rfl,fun b off hb=>?_⟩
  ·have:=qi h4
   unfold bp;rw [hn];exact this
  ·simp at hb
   obtain ⟨rfl,rfl⟩:=hb;refine ⟨⟨bO (DE (List.replicate len z) (zipIdx is us)),n,true,none⟩,by simp [Env.iw],rfl,rfl,?_⟩;simp only [bp,hn];rw [kW h4,qf];omega
theorem ald {n len:Nat} {z:Value} {is:List Nat} (ho:jy (iR z).cells=true):aj5 P (YD n (iR z).cells len is) (A5 n z len is):=by
 intro E A A' B vs us v h hv hg;unfold YD at hg;split at hg
 ·rename_i cs hf
  obtain ⟨hk,hg⟩:=ba.cond hg;simp only [aD] at hk;have hg:(KV.sl A.next 0 len len,A.new (.row cs n))=(v,A'):=hg;simp only [gF] at hg;obtain ⟨rfl,rfl⟩:=hg;obtain ⟨h2,h3⟩:=agT is hv;obtain ⟨r',e,hr⟩:=agS h2 h3 (fun p hp=>by have:=agU is vs p hp; exact iu.1 hk.1 _ this) (Uu (GK (P:=P) (E:=E) ho) len) hf;refine ⟨.row r' n true none,fun b=>.slice (some ⟨b,0,none⟩) len len,E.oO A.next B.next,?_,.ap1 (by simp [Env.oO]),eX.newRow h hr⟩;unfold A5;rw [e];simp only [gE];rw [Rq hv hk.1,iu.2 (hr.scalar hk.2)];rfl
 ·exact hg.elim
theorem Pw {m cap:Nat} {lo hi:Bool} {r:List KV} {r' : List Value} {x y:Int} (h:Z4 m lo hi r=some (x,y)) (hr:bo P E r r') (h0:0<=x) (h1:x<=y) (h2:y<=(m:Int)) (hc:m<=cap) :
  xy m cap lo hi false r' = some (x.toNat,y.toNat,cap):=by
 obtain ⟨x',rfl⟩:=Int.eq_ofNat_of_zero_le h0;obtain ⟨y',rfl⟩:=Int.eq_ofNat_of_zero_le (Int.le_trans h0 h1);have hb:∀ (k:IntKind) (i n:Nat),i<=n->bnd n (.int k (i:Int))=some i:=by
  intro k i n h;show nK (.ofNat i) (Nat.succ n)=some i;exact sI (by omega)
 match r,h with
 | [],h=>
  rw [hr.cw];cases lo <;> cases hi <;> simp [Z4] at h;obtain ⟨h3,h4⟩:=h;simp [xy];omega
 | [.int k a],h=>
  obtain ⟨u,rfl,h3⟩:=hr.gu;have:=h3.dR; subst this;cases lo <;> cases hi <;> simp [Z4] at h
  ·obtain ⟨h4,rfl⟩:=h
   simp only [xy];rw [hb k y' cap (by omega)];simp;omega
  ·obtain ⟨rfl,h4⟩:=h
   simp only [xy];rw [hb k x' m (by omega)];simp;omega
 | [.int k a,.int k' c],h=>
  obtain ⟨u,v,rfl,h3,h4⟩:=hr.nT;have:=h3.dR; subst this;have:=h4.dR; subst this;cases lo <;> cases hi <;> simp [Z4] at h;obtain ⟨rfl,rfl⟩:=h;simp only [xy];rw [hb k' y' cap (by omega)];simp only [gE];rw [hb k x' y' (by omega)];simp
theorem XH {l:Bb} : ∀ {es:List KV} (n:Nat),gY l es=true->gY l (es.drop n)=true
 | es,0,h=>by simpa using h
 | [],n+1,_=>rfl
 | e::es,n+1,h=>by
  simp only [gY,aD] at h;simpa using XH n h.2
theorem XI {l:Bb} : ∀ {es:List KV} (n:Nat),gY l es=true->gY l (es.take n)=true
 | es,0,h=>rfl
 | [],n+1,_=>rfl
 | e::es,n+1,h=>by
  simp only [gY,aD] at h;simp [gY,h.1,XI n h.2]
theorem SR {l:Bb} : ∀ {es fs:List KV},gY l es=true->gY l fs=true->gY l (es++fs)=true
 | [],fs,_,h=>h
 | e::es,fs,h,k=>by
  simp only [gY,aD] at h;simp [gY,h.1,SR h.2 k]
theorem ss.part {sz off x k:Nat} {cs es:List Value} (h:ss sz off cs es):ss sz (off+x * sz) cs ((es.drop x).take k):=by
 intro i v hv;rw [rj] at hv;split at hv
 ·rw [rJ] at hv
  obtain ⟨h1,h2⟩:=h (x+i) v hv;refine ⟨h1,fun j y hj=>?_⟩;rw [<- h2 j y hj];congr 1;rw [Nat.add_mul];omega
 ·simp at hv
theorem acq {es:List KV} {i:Nat} (h:i < es.length):es[i]? = some (es.getD i .bG):=by simp [List.getD,h]
theorem amS {n:Nat} {lo hi:Bool} (_:1<=n):amO P (acg P n lo hi) (Ed n lo hi false):=by
 intro E A B vs us v h hv hg;unfold acg at hg;split at hg
 ·rename_i T mk m es acc r
  split at hg
  ·rename_i x y hb
   obtain ⟨gI,hg⟩:=hg.cond;have gI:=bm gI;obtain ⟨hc,rfl⟩:=ba.nI hg;simp only [aD,lA] at hc;obtain ⟨⟨h0,h1⟩,h2⟩:=hc;obtain ⟨u,r',rfl,h3,h4⟩:=hv.cons_inv;obtain ⟨ht,bC,h5,a,cap,rfl,h6,h7,_⟩:=h3.pL;have TD:=Pw hb h4 h0 h1 h2 h6;have hlen:=ht.len;have hle:((es.drop x.toNat).take (y.toNat - x.toNat)).length=y.toNat - x.toNat:=by simp; omega
   have hT:ko P T (y.toNat - x.toNat) ((es.drop x.toNat).take (y.toNat - x.toNat)) (fun i=>acc (x.toNat+i)):=by
    refine ⟨hle.symm,fun i hi=>?_,XI _ (XH _ ht.typed)⟩;rw [ht.acc _ (by omega)];simp only [List.getD];rw [rj,aV hi,rJ]
   rcases h7 with ⟨rfl,hm⟩ | ⟨b,off,rr,rfl,h8,h9,xU⟩
   ·refine ⟨.slice none (y.toNat - x.toNat) (cap - x.toNat),by simp [Ed,TD],?_⟩
    simp only [VK];exact ⟨hT,_,(h5.drop _).take _,none,_,rfl,by omega,.inl ⟨rfl,by omega⟩,trivial⟩
   ·have lD:=h.z b rr h8
    have ZW:rr.cc=n:=by rw [h9]; exact gI
    refine ⟨.slice (some ⟨b,off+x.toNat * n,none⟩) (y.toNat - x.toNat) (cap - x.toNat),?_,?_⟩
    ·simp [Ed,TD,dC,HN,lD,ZW]
    ·simp only [VK]
     refine ⟨hT,_,(h5.drop _).take _,_,_,rfl,by omega,.inr ⟨b,off+x.toNat * n,rr,rfl,h8,h9,?_⟩,trivial⟩;have:bp P T=n:=gI;rw [this] at xU ⊢;exact xU.part
  ·exact hg.elim
 ·rename_i b o len cap r
  split at hg
  ·rename_i cs cc lD
   split at hg
   ·rename_i x y hb
    obtain ⟨gI,hg⟩:=hg.cond;have gI:=bm gI;obtain ⟨hc,rfl⟩:=ba.nI hg;simp only [aD,lA] at hc;obtain ⟨⟨⟨h0,h1⟩,h2⟩,h6⟩:=hc;obtain ⟨u,r',rfl,h3,h4⟩:=hv.cons_inv;obtain ⟨z,hz,rfl⟩:=h3.Wp;have TD:=Pw hb h4 h0 h1 h2 h6;obtain ⟨z',cm,e1,e2,_⟩:=h.row b cs cc lD;rw [hz] at e1;simp at e1;subst e1;refine ⟨.slice (some ⟨z,o+x.toNat * n,none⟩) (y.toNat - x.toNat) (cap - x.toNat),?_,.ap1 hz⟩;simp [Ed,TD,dC,HN,e2,gI]
   ·exact hg.elim
  ·exact hg.elim
 ·rename_i T b o m r
  split at hg
  ·rename_i T' mk N es acc hA
   split at hg
   ·rename_i x y hb
    obtain ⟨gI,hg⟩:=hg.cond;obtain ⟨hc,rfl⟩:=ba.nI hg;simp only [aD] at gI;have hT:=bm gI.2;have auY:bp P T=n:=bm gI.1;subst hT;simp only [aD,lA] at hc;obtain ⟨⟨h0,h1⟩,h2⟩:=hc;obtain ⟨u,r',rfl,h3,h4⟩:=hv.cons_inv;rcases h3.Bh with ⟨rfl,rfl,rfl⟩ | ⟨z,L,N',c,e1,rfl,e2,e3,e4⟩
    ·have TD:=Pw hb h4 h0 h1 h2 (aW _)
     have hx0:x.toNat=0:=by omega
     have hy0:y.toNat=0:=by omega
     refine ⟨.slice none (y.toNat - x.toNat) (0 - x.toNat),by simp [Ed,TD],.XD (.inl ⟨by omega,by omega,by rw [hx0,hy0]⟩)⟩
    ·have TD:=Pw hb h4 h0 h1 h2 e2
     obtain ⟨T2,N2,tH,hO,ZV,_,_,cs,e,own,bV,bC,_,h5,_,_,_,h7⟩:=h.Ob hA e1;simp only [KV.ts.injEq] at ZV;obtain ⟨rfl,_⟩:=ZV;refine ⟨.slice (some ⟨z,o * bp P T+x.toNat * n,none⟩) (y.toNat - x.toNat) (c - x.toNat),?_,.XD (.inr ⟨z,L,N',c - x.toNat,e1,?_,by omega,by omega,?_⟩)⟩
     ·simp [Ed,TD,dC,HN,h5,h7,auY]
     ·simp only [Value.slice.injEq,dG,Addr.mk.injEq,and_true,true_and]
      rw [auY,Nat.add_mul]
     ·rw [<- e4]
      congr 1;omega
   ·exact hg.elim
  ·exact hg.elim
 ·exact hg.elim
theorem ale {len n:Nat} {lo hi:Bool} : amO P (YG len n lo hi) (QX len n lo hi false):=by
 intro E A B vs us v h hv hg;unfold YG at hg;split at hg
 ·rename_i b o r
  split at hg
  ·rename_i cs cc lD
   split at hg
   ·rename_i x y hb
    obtain ⟨gI,hg⟩:=hg.cond;simp only [aD] at gI;have zj:=bm gI.1;have hsz2:=gD gI.2;obtain ⟨hc,rfl⟩:=ba.nI hg;simp only [aD,lA] at hc;obtain ⟨⟨h0,h1⟩,h2⟩:=hc;obtain ⟨u,r',rfl,h3,h4⟩:=hv.cons_inv;obtain ⟨z,hz,rfl⟩:=h3.kc;have TD:=Pw hb h4 h0 h1 h2 (aW _);obtain ⟨z',cm,e1,e2,e3⟩:=h.row b cs cc lD;rw [hz] at e1;simp at e1;subst e1;have hlen:=e3.length;refine ⟨.slice (some ⟨z,o+x.toNat * n,none⟩) (y.toNat - x.toNat) (len - x.toNat),?_,.ap1 hz⟩;have vy:Nat.ble (o+len * n) cm.length=true:=Nat.ble_eq_true_of_le (by omega);simp [QX,TD,dC,HN,ZJ,e2,zj,vy]
    try omega
   ·exact hg.elim
  ·exact hg.elim
 ·exact hg.elim
theorem alf {lo hi:Bool} : zZ P (YH lo hi) (K8 lo hi):=by
 intro E vs us v hv hg;unfold YH at hg;split at hg
 ·rename_i s r
  split at hg
  ·rename_i x y hb
   obtain ⟨hc,rfl⟩:=ba.nI hg;simp only [aD,lA] at hc;obtain ⟨⟨h0,h1⟩,h2⟩:=hc;obtain ⟨u,r',rfl,h3,h4⟩:=hv.cons_inv;have:=h3.wC; subst this;have TD:=Pw hb h4 h0 h1 h2 (aW _);exact ⟨_,by simp [K8,TD],.mkStr⟩
  ·exact hg.elim
 ·exact hg.elim
theorem alg:amO P (fun _=>Rh) Lb:=by
 intro E A B vs us v h hv hg;have hg:ba (Rh vs) v:=hg;unfold Rh at hg;split at hg
 ·obtain ⟨u,rfl,h1⟩:=hv.gu
  have:=h1.r5; subst this;have hg:KV.str ⟨⟨[]⟩⟩=v:=hg;subst hg;exact ⟨_,rfl,.mkStr⟩
 ·rename_i T mk m es acc _
  obtain ⟨u,rfl,h1⟩:=hv.gu;obtain ⟨hc,rfl⟩:=ba.nI hg;obtain ⟨ht,bC,h5,a,cap,rfl,h6,h7,_⟩:=h1.pL;have hlen:=ht.len;rcases h7 with ⟨rfl,hm⟩ | ⟨b,off,rr,rfl,h8,h9,xU⟩
  ·have:es = []:=qv.1 (by omega)
   subst this;exact ⟨_,rfl,.mkStr⟩
  ·have lD:=h.z b rr h8
   have CX:∀ (i:Nat) (w:Value),bC[i]? = some w->∃ e,es[i]? = some e/\w = .int .u8 (byteOf e).toNat/\w.cells.size=1:=by
    intro i w hw;have hi:i < es.length:=by rw [<- h5.length]; exact (dD.1 hw).1
    obtain ⟨w',e1,e2⟩:=h5.get (acq hi);rw [hw] at e1;simp at e1;subst e1;have Gi:=iu.1 hc _ (jj (acq hi));refine ⟨_,acq hi,?_⟩
    revert e2 Gi
    generalize es.getD i .bG=e;intro e2 Gi;cases e <;> simp [apU] at Gi;rename_i k q;cases k <;> simp at Gi;have:=e2.dR; subst this;refine ⟨?_,rfl⟩;simp only [byteOf,Value.int.injEq,true_and];obtain ⟨p,rfl⟩:=Int.eq_ofNat_of_zero_le Gi.1;have hp:p < 256:=by omega
    simp [UInt8.toNat_ofNat',Nat.mod_eq_of_lt hp]
   have awo:bC=es.map fun e=>.int .u8 (byteOf e).toNat:=by
    apply List.ext_getElem?;intro i;cases hw:bC[i]? with
    | none=>
     have:es.length<=i:=by rw [<- h5.length]; exact afN.1 hw
     simp [this]
    | some w=>
     obtain ⟨e,e1,e2,_⟩:=CX i w hw;simp [e1,e2]
   have zj:∀ i w,bC[i]? = some w->bp P T=1:=fun i w hw=>by
    obtain ⟨_,_,_,MT⟩:=CX i w hw;rw [<- (xU i w hw).1]; exact MT
   have I8:B.B8 ⟨b,off,none⟩ m=some bC:=by
    simp only [St.B8,dC,Option.isNone_none,ai,Eb,lD,gE];have tG:bC.length=m:=by rw [h5.length]; exact hlen.symm
    have sE:∀ i,i < m->rr.cs[off+i]? = bC[i]?:=by
     intro i hi;have Yq:i < bC.length:=by omega
     have hw:bC[i]? = some bC[i]:=dF Yq;have h1':=zj i _ hw;obtain ⟨h12,h13⟩:=xU i _ hw;obtain ⟨e,e1,e2,_⟩:=CX i _ hw;have:=h13 0 bC[i] (by rw [e2]; rfl);rw [h1'] at this;rw [hw,<- this];congr 1;omega
    have hle:m<=(rr.cs.drop off).length:=by
     cases hm0:m with
     | zero=>omega
     | succ q=>
      have:=sE q (by omega);have hq:q < bC.length:=by omega
      rw [dF hq] at this;have:=(dD.1 this).1;simp;omega
    rw [wo,Pv hle];congr 1;apply List.ext_getElem?;intro i;rw [rj];split
    ·rename_i hi
     rw [rJ];exact sE i hi
    ·rename_i hi
     exact (afN.2 (by omega)).symm
   have ak0:∀ (l:List KV),MX (l.map fun e=>.int .u8 (byteOf e).toNat)=some (l.map byteOf):=by
    intro l
    induction l with
    | nil=>rfl
    | cons e l ih=>
     have hb:=(byteOf e).toNat_lt;show cond (Nat.blt (byteOf e).toNat 256) ((MX (l.map fun e=>.int .u8 (byteOf e).toNat)).map (UInt8.ofNat (byteOf e).toNat::·)) none=_;have:Nat.blt (byteOf e).toNat 256=true:=by rw [bZ]; omega
     rw [this,ai,ih];simp
   refine ⟨.string ⟨⟨es.map byteOf⟩⟩,?_,.mkStr⟩;simp only [Lb,I8,gE];rw [awo,ak0];rfl
 ·exact hg.elim
theorem ag6 {b lo hi:Nat} : ∀ {L:List Nat} {B:St},(∀ x∈L,vw (B.get x) lo hi=false)->B.kill b lo hi L=B
 | [],B,_=>rfl
 | x::L,B,h=>by
  simp only [St.kill];rw [h x (by simp),vX,aw];exact ag6 fun y hy=>h y (by simp [hy])
theorem eX.ap6 {A:aB} {B:St} (sz:Nat) (h:gU P E A B):eX P E A B E (A.new (.aZ 0 sz)) B:=by
 have hn:E.φ A.next=none:=by
  cases Oe:E.φ A.next with
  | none=>rfl
  | some g=>have:=h.qJ _ g Oe; omega
 have hA:∀ (b:Nat) (v:KV),(A.new (.aZ 0 sz)).get b=some (.arr v)->A.get b=some (.arr v):=fun b v hb=>by
  rw [aB.dQ] at hb;split at hb
  ·simp at hb
  ·exact hb
 have hfz:∀ (b:Nat) (v:KV),(A.new (.aZ 0 sz)).get b=some (.lR v)->A.get b=some (.lR v):=fun b v hb=>by
  rw [aB.dQ] at hb;split at hb
  ·simp at hb
  ·exact hb
 refine ⟨⟨?_,?_,h.z,h.apart,h.inj,h.lT.new (.inr hn),fun b x e=>?_,fun b g e=>?_,?_,h.jd,h.rb,h.mM,h.fresh,h.mem,h.ar.pF (Env.le_refl _) (fun _=>rfl) hA hfz (by simp) (aW _) (fun _ _=>rfl) (fun _ _ e=>.inl e) (fun _ _ e=>.inl e) (fun b g e=>.inl ⟨b,e⟩) (fun _ _=>rfl) h.mem⟩,Env.le_refl _,by simp,fun _ _ _ _=>rfl,fun _ _ e=>.inl e,fun _ _ e=>.inl e,fun _ _ e=>.inl e,fun _ _ _ _=>rfl,fun _ q=>.inl (q.of (fun _=>rfl) hA),fun _ q=>.inl (q.of (fun _=>rfl) hA fun _ _=>rfl),fun _ _ q=>.inl q,fun _ q=>.inl (q.of (fun _=>rfl) hA (fun _ _=>rfl) fun _ _=>rfl),qL fun _ _=>rfl⟩
 ·intro b cs cc hb
  rw [aB.dQ] at hb;split at hb
  ·simp at hb
  ·exact h.row b cs cc hb
 ·intro b top Lo hb
  rw [aB.dQ] at hb;split at hb
  ·rename_i e
   simp at hb;refine .inl ⟨hb.1.symm,?_⟩;cases Oe:E.φ b with
   | none=>rfl
   | some g=>have:=h.qJ b g Oe; omega
  ·exact h.aZ b top Lo hb
 ·have:=h.oC b x e; rw [aB.cD]; omega
 ·have:=h.qJ b g e; rw [aB.cD]; omega
 ·intro b o hb
  rw [aB.dQ] at hb;rw [aB.cD];split at hb
  ·omega
  ·have:=h.live b o hb; omega
theorem eX.grow {A:aB} {B:St} {f g top XJ sz:Nat} {c:List Value} (h:gU P E A B) (hA:A.get f=some (.aZ top sz)) (hf:(E.φ f=none/\g=B.next)\/E.φ f=some g) (hc:c.length=XJ * sz) (ht:top<=XJ) (Pe:0 < XJ) :
  eX P E A B ((E.iw B.next ⟨c,sz,true,some (g,0)⟩).wF f g) (A.put f (.aZ XJ sz)) (B.grow g 0 c sz):=by
 have qB:∀ x,(B.grow g 0 c sz).get x=if x=B.next then some (.row c sz true (some (g,0))) else B.get x:=fun x=>by simp [St.grow]
 have oK:∀ q,(B.grow g 0 c sz).members q=if q=g then B.next::B.members g else B.members q:=fun q=>by simp [St.grow,St.HQ]
 have kl:(B.grow g 0 c sz).next=B.next+1:=rfl;have hlef:=h.live f _ hA;have hle:E.le ((E.iw B.next ⟨c,sz,true,some (g,0)⟩).wF f g):=by
  refine ⟨fun _ _ e=>e,fun _ _ e=>e,fun b r e=>?_,fun b q e=>?_⟩
  ·have:=h.rb b r e
   simp only [Env.wF,Env.iw]; rw [ay (by omega)]; exact e
  ·simp only [Env.wF,Env.iw]
   split
   ·rename_i e2
    subst e2;rcases hf with ⟨h1,_⟩ | h1
    ·rw [h1] at e; simp at e
    ·rw [h1] at e; exact e
   ·exact e
 have hg:g<=B.next:=by
  rcases hf with ⟨_,h1⟩ | h1
  ·omega
  ·have:=h.mM f g h1; omega
 generalize hB' : B.grow g 0 c sz=B' at qB oK kl;have hAk:∀ (b:Nat) (v:KV),(A.put f (.aZ XJ sz)).get b=some (.arr v)->A.get b=some (.arr v):=fun b v hb=>by
  rw [aB.cr] at hb;split at hb
  ·simp at hb
  ·exact hb
 have hfz:∀ (b:Nat) (v:KV),(A.put f (.aZ XJ sz)).get b=some (.lR v)->A.get b=some (.lR v):=fun b v hb=>by
  rw [aB.cr] at hb;split at hb
  ·simp at hb
  ·exact hb
 have DD:∀ x,x < B.next->B'.get x=B.get x:=fun x hx=>by rw [qB,ay (by omega)]
 have MS:∀ b r,((E.iw B.next ⟨c,sz,true,some (g,0)⟩).wF f g).z b=some r->E.z b=some r\/B.next<=b:=fun b r e=>by
  simp only [Env.wF,Env.iw] at e;split at e
  ·exact .inr (by omega)
  ·exact .inl e
 have auZ:∀ b q,((E.iw B.next ⟨c,sz,true,some (g,0)⟩).wF f g).φ b=some q->E.φ b=some q\/B.next<=q:=fun b q e=>by
  simp only [Env.wF,Env.iw] at e;split at e
  ·rename_i e2
   simp at e;subst e e2;rcases hf with ⟨_,h1⟩ | h1
   ·exact .inr (by omega)
   ·exact .inl h1
  ·exact .inl e
 have hmk:∀ q,AF A E B q->B'.members q=B.members q:=fun q hq=>by
  rw [oK,ay];intro e2;subst e2;obtain ⟨b,v,x,L,N,cs,e,own,k,h1,h2,h3⟩:=hq;obtain ⟨h4,h5,_⟩:=h.ar.xB b v x L N cs e own q k h1 h2 h3;rcases hf with ⟨_,h1⟩ | h1
  ·omega
  ·exact h5 f h1
 have aoO:∀ q y,y∈B'.members q->y∈B.members q\/B.next<=y:=fun q y hy=>by
  rw [oK] at hy;split at hy
  ·rename_i e2
   subst e2;rcases fp.1 hy with hy | hy
   ·exact .inr (by omega)
   ·exact .inl hy
  ·exact .inl hy
 refine ⟨⟨?_,?_,?_,?_,?_,?_,?_,?_,?_,?_,?_,?_,?_,?_,h.ar.pF hle (fun _=>rfl) hAk hfz (aW _) (by omega) (fun x q=>DD x (h.Nb q)) MS (fun _ _ e=>.inl e) (fun b q e=>(auZ b q e).imp (fun e=>⟨b,e⟩) id) hmk h.mem⟩,hle,aW _,?_,fun b x e=>.inl e,fun b r e=>(MS b r e).imp id .inr,auZ,fun q hq hn _=>by
  rw [oK,ay];intro e2;subst e2;rcases hf with ⟨_,h1⟩ | h1
  ·omega
  ·exact hn f h1,fun _ q=>.inl (q.of (fun _=>rfl) hAk),fun _ q=>.inl (q.of (fun _=>rfl) hAk fun x q=>DD x (h.Nb q)),aoO,fun _ q=>.inl (q.of (fun _=>rfl) hAk (fun x q=>DD x (h.Nb q)) hmk),qL DD⟩
 ·intro b cs cc hb
  rw [aB.cr] at hb;split at hb
  ·simp at hb
  ·obtain ⟨x,c2,h1,h2,h3⟩:=h.row b cs cc hb
   have:=h.jd b x h1;exact ⟨x,c2,h1,by rw [qB,ay (by omega)]; exact h2,h3.mono hle⟩
 ·intro b t Lo hb
  rw [aB.cr] at hb;split at hb
  ·rename_i e
   simp at hb;obtain ⟨rfl,rfl⟩:=hb;subst e;refine .inr ⟨g,by simp [Env.wF],Pe,fun x hx cs e own q k hr=>?_⟩;rw [qB] at hr;rw [oK,aV rfl] at hx;split at hr
   ·simp at hr
    obtain ⟨rfl,rfl,_,_,rfl⟩:=hr;exact ⟨rfl,Nat.le_of_eq hc⟩
   ·rename_i eY
    rcases fp.1 hx with hx | hx
    ·exact absurd hx eY
    ·rcases hf with ⟨_,h1⟩ | h1
     ·rw [h1,h.fresh _ (aW _)] at hx; simp at hx
     ·rcases h.aZ b top sz hA with ⟨_,h2⟩ | ⟨g2,h2,_,h3⟩
      ·rw [h1] at h2; simp at h2
      ·rw [h1] at h2
       simp at h2;subst h2;obtain ⟨h4,h5⟩:=h3 x hx cs e own q k hr;exact ⟨h4,uO h5 (Nat.mul_le_mul_right _ ht)⟩
  ·rename_i Px
   rcases h.aZ b t Lo hb with ⟨h1,h2⟩ | ⟨g2,h2,hp2,h3⟩
   ·exact .inl ⟨h1,by simp only [Env.wF,Env.iw]; rw [ay Px]; exact h2⟩
   ·have eY:g2≠g:=by
     intro e;subst e;rcases hf with ⟨_,h1⟩ | h1
     ·have:=h.mM b g2 h2; omega
     ·exact Px (h.lT b f g2 _ _ _ _ hb hA h2 h1)
    refine .inr ⟨g2,by simp only [Env.wF,Env.iw]; rw [ay Px]; exact h2,hp2,fun x hx cs e own q k hr=>?_⟩;rw [oK,ay eY] at hx;have:=h.mem g2 x hx;rw [qB,ay (by omega)] at hr;exact h3 x hx cs e own q k hr
 ·intro b r hb
  simp only [Env.wF,Env.iw] at hb;rw [qB];split at hb
  ·rename_i e; simp at hb; subst hb; rw [aV e]
  ·rename_i e; rw [ay e]; exact h.z b r hb
 ·intro b x hb
  have hb:E.κ b=some x:=hb;have:=h.jd b x hb;simp only [Env.wF,Env.iw];rw [ay (by omega)];exact h.apart b x hb
 ·exact h.inj
 ·intro b d q tb sb td sd lb ld hb hd
  simp only [Env.wF,Env.iw] at hb hd;rw [aB.cr] at lb ld;have key:∀ d t s,d≠f->A.get d=some (.aZ t s)->E.φ d≠some g:=by
   intro d t s hd hl e;rcases hf with ⟨_,h1⟩ | h1
   ·have:=h.mM d g e; omega
   ·exact hd (h.lT d f g _ _ _ _ hl hA e h1)
  by_cases e1:b=f <;> by_cases e2:d=f
  ·omega
  ·rw [aV e1] at hb; rw [ay e2] at hd ld; simp at hb; subst hb; exact absurd hd (key d _ _ e2 ld)
  ·rw [aV e2] at hd; rw [ay e1] at hb lb; simp at hd; subst hd; exact absurd hb (key b _ _ e1 lb)
  ·rw [ay e1] at hb lb; rw [ay e2] at hd ld; exact h.lT b d q _ _ _ _ lb ld hb hd
 ·exact h.oC
 ·intro b q hb
  simp only [Env.wF,Env.iw] at hb;rw [aB.wq];split at hb
  ·omega
  ·exact h.qJ b q hb
 ·intro b o hb
  rw [aB.cr] at hb;rw [aB.wq];split at hb
  ·omega
  ·exact h.live b o hb
 ·intro b x hb; have:=h.jd b x hb; omega
 ·intro b r hb
  simp only [Env.wF,Env.iw] at hb;rw [kl];split at hb
  ·omega
  ·have:=h.rb b r hb; omega
 ·intro b q hb
  simp only [Env.wF,Env.iw] at hb;rw [kl];split at hb
  ·simp at hb; omega
  ·have:=h.mM b q hb; omega
 ·intro q hq
  rw [kl] at hq;rw [oK,ay (by omega)];exact h.fresh q (by omega)
 ·intro q x hx
  rw [kl];rw [oK] at hx;split at hx
  ·rcases fp.1 hx with hx | hx
   ·omega
   ·have:=h.mem g x hx; omega
  ·have:=h.mem q x hx; omega
 ·intro x hx _ _; rw [qB,ay (by omega)]
end Go.K
end
