/- Part of the proof of BinsTell: the machine, shown to be the model's, and plain models. No conditions. -/
import Derived.Test.YtchbpckkmgcgkaaGreatBp
set_option linter.unusedSimpArgs false
set_option linter.unusedVariables false
section
namespace Go.K
open Go Go.aB
structure aj4 where
 cs:List Value
 bV:Nat
 own:Bool
 cc:Option (Nat×Nat)
structure Env where
 κ:Nat->Option Nat
 z:Nat->Option aj4
 φ:Nat->Option Nat
 α:Nat->Option (Nat×Nat×Nat)
structure Env.le (E E' : Env):Prop where
 α:∀ b p,E.α b=some p->E'.α b=some p
 κ:∀ b x,E.κ b=some x->E'.κ b=some x
 z:∀ b r,E.z b=some r->E'.z b=some r
 φ:∀ b g,E.φ b=some g->E'.φ b=some g
theorem Env.le_refl (E:Env):E.le E:=⟨fun _ _ h=>h,fun _ _ h=>h,fun _ _ h=>h,fun _ _ h=>h⟩
theorem Env.le_trans {E F G:Env} (h:E.le F) (k:F.le G):E.le G:=⟨fun b p e=>k.α b p (h.α b p e),fun b x e=>k.κ b x (h.κ b x e),fun b x e=>k.z b x (h.z b x e),fun b x e=>k.φ b x (h.φ b x e)⟩
def qK (sz off:Nat) (cs es:List Value):Prop:=∀ (i:Nat) (x:Value),es[i]? = some x->x.cells.size=sz/\∀ (k:Nat) (y:Value),x.cells[k]? = some y->cs[off+i * sz+k]? = some y
def adR (E:Env) (sz:Nat) (a:Option Addr) (n:Nat) (es:List Value):Prop:=
 (a=none/\n=0)\/∃ b off r,a=some ⟨b,off,none⟩/\E.z b=some r/\r.bV=sz/\qK sz off r.cs es
def TK (E:Env) (sz:Nat) (a:Option Addr) (n cap:Nat):Mk->Prop
 | .any=>True
 | .exact=>cap=n/\∀ b off,a=some ⟨b,off,none⟩->∃ r,E.z b=some r/\r.own=true/\r.cc=none/\off+cap * sz=r.cs.length
 | .bc f=>cap=n/\((n=0/\a=none)\/∃ b r g,a=some ⟨b,0,none⟩/\E.z b=some r/\r.own=true/\E.φ f=some g/\r.cc=some (g,0)/\r.cs.length=n * sz)
structure ji (P:Program) (T:TypeId) (n:Nat) (es:List KV) (acc:Nat->KV):Prop where
 len:n=es.length
 acc:∀ i,i < n->acc i=es.getD i .bD
 typed:fY (bu P T) es=true
def bz (P:Program) (T:TypeId):Nat:=(bu P T).ks.length
def aj5 (P:Program) (E:Env) (T:TypeId) (m:Mk) (n:Nat) (bx:List Value) (v:Value):Prop:=
 ∃ a cap,v = .slice a n cap/\n<=cap/\adR E (bz P T) a n bx/\TK E (bz P T) a n cap m
structure adS (P:Program) (T Tc:TypeId) (k:Nat):Prop where
 is:∀ m c,(bu P Tc).ks[m]? = some c->(bu P T).ks[k+m]? = some c
def aj6 (P:Program) (E:Env) (T Tc:TypeId) (i k:Nat) (es:List KV) (bx:List Value) (v:Value):Prop:=
 i < es.length/\adS P T Tc k/\∃ b off r,v = .pointer (some ⟨b,off+i * bz P T+k,none⟩)/\E.z b=some r/\qK (bz P T) off r.cs bx
def abX (P:Program) (E:Env) (T:TypeId) (b o n:Nat) (v:Value):Prop:=
 (n=0/\o=0/\v = .slice none 0 0)\/∃ x L N c,E.α b=some (x,L,N)/\v = .slice (some ⟨x,o * bz P T,none⟩) n c/\n<=c/\o+n<=N/\(o+c) * bz P T=L
def ahx (P:Program) (E:Env) (T Tc:TypeId) (b i k:Nat) (v:Value):Prop:=
 ∃ x L N,E.α b=some (x,L,N)/\adS P T Tc k/\i < N/\v = .pointer (some ⟨x,i * bz P T+k,none⟩)
mutual
def VK (P:Program) (E:Env):KV->Value->Prop
 | .int k n,v=>v = .int k n
 | .bool b,v=>v = .bool b
 | .str s,v=>v = .string s
 | .agg cs,v=>∃ l,v = .agg ⟨l⟩/\bm P E cs l
 | .iv cs,v=>∃ l,v = .tuple ⟨l⟩/\bm P E cs l
 | .ts T m n es acc,v=>ji P T n es acc/\∃ bx,bm P E es bx/\aj5 P E T m n bx v
 | .tp T Tc i k es acc,v=>ji P T es.length es acc/\∃ bx,bm P E es bx/\aj6 P E T Tc i k es bx v
 | .al T b o n,v=>abX P E T b o n v
 | .ap T Tc b i k,v=>ahx P E T Tc b i k v
 | .ptr b off,v=>∃ x,E.κ b=some x/\v = .pointer (some ⟨x,off,none⟩)
 | .sl b off n c,v=>∃ x,E.κ b=some x/\v = .slice (some ⟨x,off,none⟩) n c
 | .Hw,v=>v = .pointer none
 | .mn,v=>v = .slice none 0 0
 | .C0,v=>v = .map none
 | .map b,v=>∃ x,E.κ b=some x/\v = .map (some x)
 | .fn f first cap,v=>∃ l m,v = .func f ⟨l⟩ ⟨m⟩/\bm P E first l/\bm P E cap m
 | .IW,v=>v = .nilFunc
 | .iface t x,v=>∃ y,v = .iface t y/\VK P E x y
 | .IX,v=>v = .nilIface
 | .bD,_=>True
def bm (P:Program) (E:Env):List KV->List Value->Prop
 | [],l=>l = []
 | x::xs,l=>∃ y ys,l=y::ys/\VK P E x y/\bm P E xs ys
end
variable {P:Program} {E E' : Env}
theorem TK.mono (h:E.le E') {sz:Nat} {a:Option Addr} {n cap:Nat} {m:Mk} (k:TK E sz a n cap m):TK E' sz a n cap m:=by
 cases m with
 | any=>trivial
 | exact=>exact ⟨k.1,fun b off e=>by obtain ⟨r,h1,h2⟩:=k.2 b off e; exact ⟨r,h.z _ _ h1,h2⟩⟩
 | bc f=>
  refine ⟨k.1,k.2.imp id ?_⟩;rintro ⟨b,r,g,h1,h2,h3,h4,h5⟩;exact ⟨b,r,g,h1,h.z _ _ h2,h3,h.φ _ _ h4,h5⟩
theorem adR.mono (h:E.le E') {sz:Nat} {a:Option Addr} {n:Nat} {es:List Value} (k:adR E sz a n es):adR E' sz a n es:=by
 refine k.imp id ?_;rintro ⟨b,off,r,h1,h2,h3⟩;exact ⟨b,off,r,h1,h.z _ _ h2,h3⟩
theorem aj5.mono (h:E.le E') {T:TypeId} {m:Mk} {n:Nat} {es:List Value} {v:Value} (k:aj5 P E T m n es v):aj5 P E' T m n es v:=by
 obtain ⟨a,cap,h1,h2,h3,h4⟩:=k;exact ⟨a,cap,h1,h2,h3.mono h,h4.mono h⟩
theorem aj6.mono (h:E.le E') {T Tc:TypeId} {i k:Nat} {es:List KV} {bx:List Value} {v:Value} (q:aj6 P E T Tc i k es bx v):aj6 P E' T Tc i k es bx v:=by
 obtain ⟨h1,h2,b,off,r,h3,h4,h5⟩:=q;exact ⟨h1,h2,b,off,r,h3,h.z _ _ h4,h5⟩
theorem abX.mono (h:E.le E') {T:TypeId} {b o n:Nat} {v:Value} (q:abX P E T b o n v):abX P E' T b o n v:=by
 refine q.imp id ?_;rintro ⟨x,L,N,c,h1,h2⟩;exact ⟨x,L,N,c,h.α _ _ h1,h2⟩
theorem ahx.mono (h:E.le E') {T Tc:TypeId} {b i k:Nat} {v:Value} (q:ahx P E T Tc b i k v):ahx P E' T Tc b i k v:=by
 obtain ⟨x,L,N,h1,h2⟩:=q;exact ⟨x,L,N,h.α _ _ h1,h2⟩
mutual
theorem VK.mono (h:E.le E'):∀ {v:KV} {v' : Value},VK P E v v'->VK P E' v v'
 | .int k n,v,q=>q
 | .bool b,v,q=>q
 | .str s,v,q=>q
 | .agg cs,v,q=>by
  simp only [VK] at q ⊢;obtain ⟨l,e,q⟩:=q;exact ⟨l,e,bm.mono h q⟩
 | .iv cs,v,q=>by
  simp only [VK] at q ⊢;obtain ⟨l,e,q⟩:=q;exact ⟨l,e,bm.mono h q⟩
 | .ts T m n es acc,v,q=>by
  simp only [VK] at q ⊢;obtain ⟨t,l,q,k⟩:=q;exact ⟨t,l,bm.mono h q,k.mono h⟩
 | .tp T Tc i k es acc,v,q=>by
  simp only [VK] at q ⊢;obtain ⟨t,l,q,k⟩:=q;exact ⟨t,l,bm.mono h q,k.mono h⟩
 | .al T b o n,v,q=>by
  simp only [VK] at q ⊢;exact q.mono h
 | .ap T Tc b i k,v,q=>by
  simp only [VK] at q ⊢;exact q.mono h
 | .ptr b off,v,q=>by
  simp only [VK] at q ⊢;obtain ⟨x,e,q⟩:=q;exact ⟨x,h.κ _ _ e,q⟩
 | .sl b off n c,v,q=>by
  simp only [VK] at q ⊢;obtain ⟨x,e,q⟩:=q;exact ⟨x,h.κ _ _ e,q⟩
 | .Hw,v,q=>q
 | .mn,v,q=>q
 | .C0,v,q=>q
 | .map b,v,q=>by
  simp only [VK] at q ⊢;obtain ⟨x,e,q⟩:=q;exact ⟨x,h.κ _ _ e,q⟩
 | .fn f first cap,v,q=>by
  simp only [VK] at q ⊢;obtain ⟨l,m,e,q1,q2⟩:=q;exact ⟨l,m,e,bm.mono h q1,bm.mono h q2⟩
 | .IW,v,q=>q
 | .iface t x,v,q=>by
  simp only [VK] at q ⊢;obtain ⟨y,e,q⟩:=q;exact ⟨y,e,VK.mono h q⟩
 | .IX,v,q=>q
 | .bD,v,q=>q
theorem bm.mono (h:E.le E'):∀ {v:List KV} {v' : List Value},bm P E v v'->bm P E' v v'
 | [],_,q=>q
 | x::xs,_,q=>by
  simp only [bm] at q ⊢;obtain ⟨y,ys,e,q1,q2⟩:=q;exact ⟨y,ys,e,VK.mono h q1,bm.mono h q2⟩
end
theorem bm.nil:bm P E [] []:=by simp [bm]
theorem bm.cons {x:KV} {y:Value} {xs:List KV} {ys:List Value} (h:VK P E x y) (k:bm P E xs ys):bm P E (x::xs) (y::ys):=by
 simp only [bm]; exact ⟨y,ys,rfl,h,k⟩
theorem bm.cl {l:List Value} (h:bm P E [] l):l = []:=by simpa [bm] using h
theorem bm.cons_inv {x:KV} {xs:List KV} {l:List Value} (h:bm P E (x::xs) l):∃ y ys,l=y::ys/\VK P E x y/\bm P E xs ys:=by simpa [bm] using h
theorem bm.fk {x:KV} {l:List Value} (h:bm P E [x] l):∃ y,l = [y]/\VK P E x y:=by
 obtain ⟨y,ys,rfl,h1,h2⟩:=h.cons_inv;rw [h2.cl]; exact ⟨y,rfl,h1⟩
theorem bm.mo {x y:KV} {l:List Value} (h:bm P E [x,y] l):∃ x' y',l = [x',y']/\VK P E x x'/\VK P E y y':=by
 obtain ⟨a,ys,rfl,h1,h2⟩:=h.cons_inv;obtain ⟨b,rfl,h3⟩:=h2.fk;exact ⟨a,b,rfl,h1,h3⟩
theorem bm.Wh {x y u:KV} {l:List Value} (h:bm P E [x,y,u] l):∃ x' y' u',l = [x',y',u']/\VK P E x x'/\VK P E y y'/\VK P E u u':=by
 obtain ⟨a,ys,rfl,h1,h2⟩:=h.cons_inv;obtain ⟨b,c,rfl,h3,h4⟩:=h2.mo;exact ⟨a,b,c,rfl,h1,h3,h4⟩
theorem bm.length:∀ {l:List KV} {l' : List Value},bm P E l l'->l'.length=l.length
 | [],l',h=>by rw [h.cl]; rfl
 | x::xs,l',h=>by
  obtain ⟨y,ys,rfl,_,k⟩:=h.cons_inv;simp [bm.length k]
theorem bm.get:∀ {l:List KV} {l' : List Value} {i:Nat} {v:KV},bm P E l l'->l[i]? = some v->∃ v',l'[i]? = some v'/\VK P E v v'
 | [],_,_,_,_,e=>by simp at e
 | x::xs,l',i,v,h,e=>by
  obtain ⟨y,ys,rfl,Bs,k⟩:=h.cons_inv;cases i with
  | zero=>simp at e; subst e; exact ⟨y,rfl,Bs⟩
  | succ i=>simp at e; simpa using bm.get k e
theorem bm.append:∀ {a:List KV} {a' : List Value} {b:List KV} {b' : List Value},bm P E a a'->bm P E b b'->bm P E (a++b) (a'++b')
 | [],a',b,b',h,k=>by rw [h.cl]; exact k
 | x::xs,a',b,b',h,k=>by
  obtain ⟨y,ys,rfl,Bs,m⟩:=h.cons_inv;exact .cons Bs (bm.append m k)
theorem bm.take:∀ (n:Nat) {l:List KV} {l' : List Value},bm P E l l'->bm P E (l.take n) (l'.take n)
 | 0,_,_,_=>by simp [bm.nil]
 | n+1,[],l',h=>by rw [h.cl]; simp [bm.nil]
 | n+1,x::xs,l',h=>by
  obtain ⟨y,ys,rfl,Bs,k⟩:=h.cons_inv;simpa using bm.cons Bs (bm.take n k)
theorem bm.drop:∀ (n:Nat) {l:List KV} {l' : List Value},bm P E l l'->bm P E (l.drop n) (l'.drop n)
 | 0,_,_,h=>by simpa using h
 | n+1,[],l',h=>by rw [h.cl]; simp [bm.nil]
 | n+1,x::xs,l',h=>by
  obtain ⟨y,ys,rfl,_,k⟩:=h.cons_inv;simpa using bm.drop n k
theorem TL {α:Type} : ∀ {n:Nat} {l r:List α},xV n l=some r->r=l.take n/\n<=l.length
 | 0,l,r,h=>by simp [xV] at h; subst h; simp
 | n+1,[],r,h=>by simp [xV] at h
 | n+1,x::xs,r,h=>by
  simp only [xV,cR] at h;obtain ⟨q,hq,rfl⟩:=h;obtain ⟨rfl,hn⟩:=TL hq;exact ⟨by simp,by simpa using hn⟩
theorem Nd {α:Type} : ∀ (n:Nat) (l:List α),Ep n l=l.drop n
 | 0,l=>rfl
 | n+1,[]=>rfl
 | n+1,x::xs=>by simp [Ep,Nd n xs]
theorem Nf:∀ {n:Nat} {l:List Value},n<=l.length->takeN n l=some (l.take n)
 | 0,l,_=>rfl
 | n+1,[],h=>by simp at h
 | n+1,x::xs,h=>by rw [abL,Nf (n:=n) (l:=xs) (by simpa using h)]; rfl
theorem bm.xV {n k:Nat} {l r:List KV} {l' : List Value} (h:bm P E l l') (e:xV n (Ep k l)=some r):∃ r',takeN n (ID k l')=some r'/\bm P E r r'/\r' = (l'.drop k).take n:=by
 obtain ⟨rfl,hn⟩:=TL e;rw [Nd] at hn ⊢;have hl:=h.length;rw [uo];refine ⟨_,Nf ?_,(h.drop k).take n,rfl⟩;simp only [List.length_drop] at hn ⊢;omega
theorem bm.mD:∀ {n:Nat} {l:List KV} {l' : List Value} {vs r:List KV} {cK:List Value},mD n l vs=some r->bm P E l l'->bm P E vs cK->∃ r',ig n l' cK=some r'/\bm P E r r'
 | 0,l,l',[],r,cK,h,hl,hv=>by simp [K.mD] at h; subst h; rw [hv.cl]; exact ⟨l',Br l',hl⟩
 | 0,[],l',_::_,r,cK,h,hl,hv=>by simp [K.mD] at h
 | 0,x::l,l',v::vs,r,cK,h,hl,hv=>by
  obtain ⟨y,ys,rfl,_,k⟩:=hl.cons_inv;obtain ⟨u,us,rfl,h1,h2⟩:=hv.cons_inv;simp only [K.mD,cR] at h;obtain ⟨q,hq,rfl⟩:=h;obtain ⟨r',e,hr⟩:=bm.mD hq k h2;exact ⟨u::r',by simp [xO,e],.cons h1 hr⟩
 | n+1,[],l',[],r,cK,h,hl,hv=>by simp [K.mD] at h; subst h; rw [hl.cl,hv.cl]; exact ⟨[],rfl,.nil⟩
 | n+1,[],l',_::_,r,cK,h,hl,hv=>by simp [K.mD] at h
 | n+1,x::l,l',vs,r,cK,h,hl,hv=>by
  obtain ⟨y,ys,rfl,h1,k⟩:=hl.cons_inv;simp only [K.mD,cR] at h;obtain ⟨q,hq,rfl⟩:=h;obtain ⟨r',e,hr⟩:=bm.mD hq k hv;exact ⟨y::r',by simp [tL,e],.cons h1 hr⟩
theorem bm.XN:∀ {l:List KV} {l' : List Value},l'.length=l.length->(∀ (i:Nat) (v:KV) (v' : Value),l[i]? = some v->l'[i]? = some v'->VK P E v v')->bm P E l l'
 | [],l',h,_=>by cases l' <;> simp_all [bm.nil]
 | x::xs,l',h,k=>by
  cases l' with
  | nil=>simp at h
  | cons y ys=>exact .cons (k 0 x y rfl rfl) (bm.XN (by simpa using h) fun i v v' e e'=>k (i+1) v v' (by simpa using e) (by simpa using e'))
theorem VK.dx {k:IntKind} {n:Int} {v:Value} (h:VK P E (.int k n) v):v = .int k n:=by simpa [VK] using h
theorem VK.gh {b:Bool} {v:Value} (h:VK P E (.bool b) v):v = .bool b:=by simpa [VK] using h
theorem VK.uB {s:ByteArray} {v:Value} (h:VK P E (.str s) v):v = .string s:=by simpa [VK] using h
theorem VK.nM {cs:List KV} {v:Value} (h:VK P E (.agg cs) v):∃ l,v = .agg ⟨l⟩/\bm P E cs l:=by simpa [VK] using h
theorem VK.Rz {cs:List KV} {v:Value} (h:VK P E (.iv cs) v):∃ l,v = .tuple ⟨l⟩/\bm P E cs l:=by simpa [VK] using h
theorem VK.jb {b off:Nat} {v:Value} (h:VK P E (.ptr b off) v):∃ x,E.κ b=some x/\v = .pointer (some ⟨x,off,none⟩):=by simpa [VK] using h
theorem VK.TM {b off n c:Nat} {v:Value} (h:VK P E (.sl b off n c) v):∃ x,E.κ b=some x/\v = .slice (some ⟨x,off,none⟩) n c:=by simpa [VK] using h
theorem VK.Ku {f:Fn} {a b:List KV} {v:Value} (h:VK P E (.fn f a b) v):∃ l m,v = .func f ⟨l⟩ ⟨m⟩/\bm P E a l/\bm P E b m:=by simpa [VK] using h
theorem VK.ny {T:TypeId} {m:Mk} {n:Nat} {es:List KV} {acc:Nat->KV} {v:Value} (h:VK P E (.ts T m n es acc) v):ji P T n es acc/\∃ bx,bm P E es bx/\aj5 P E T m n bx v:=by simpa [VK] using h
theorem VK.O2 {T Tc:TypeId} {i k:Nat} {es:List KV} {acc:Nat->KV} {v:Value} (h:VK P E (.tp T Tc i k es acc) v):ji P T es.length es acc/\∃ bx,bm P E es bx/\aj6 P E T Tc i k es bx v:=by simpa [VK] using h
theorem VK.yW {T:TypeId} {b o n:Nat} {v:Value} (h:VK P E (.al T b o n) v):abX P E T b o n v:=by simpa [VK] using h
theorem VK.Kv {T Tc:TypeId} {b i k:Nat} {v:Value} (h:VK P E (.ap T Tc b i k) v):ahx P E T Tc b i k v:=by simpa [VK] using h
theorem VK.U4 {T:TypeId} {b o n:Nat} {v:Value} (h:abX P E T b o n v):VK P E (.al T b o n) v:=by simpa [VK] using h
theorem VK.apx {T Tc:TypeId} {b i k:Nat} {v:Value} (h:ahx P E T Tc b i k v):VK P E (.ap T Tc b i k) v:=by simpa [VK] using h
theorem abX.slice {T:TypeId} {b o n:Nat} {v:Value} (h:abX P E T b o n v):∃ a c,v = .slice a n c:=by
 rcases h with ⟨rfl,_,rfl⟩ | ⟨x,L,N,c,_,rfl,_⟩
 ·exact ⟨_,_,rfl⟩
 ·exact ⟨_,_,rfl⟩
theorem VK.qu {v:Value} (h:VK P E .mn v):v = .slice none 0 0:=by simpa [VK] using h
theorem VK.TN {v:Value} (h:VK P E .Hw v):v = .pointer none:=by simpa [VK] using h
theorem VK.mkInt {k:IntKind} {n:Int} : VK P E (.int k n) (.int k n):=by simp [VK]
theorem VK.vI {b:Bool} : VK P E (.bool b) (.bool b):=by simp [VK]
theorem VK.mkStr {s:ByteArray} : VK P E (.str s) (.string s):=by simp [VK]
theorem VK.rQ {cs:List KV} {l:List Value} (h:bm P E cs l):VK P E (.agg cs) (.agg ⟨l⟩):=by simp only [VK]; exact ⟨l,rfl,h⟩
theorem VK.aeH {cs:List KV} {l:List Value} (h:bm P E cs l):VK P E (.iv cs) (.tuple ⟨l⟩):=by simp only [VK]; exact ⟨l,rfl,h⟩
theorem VK.Bt {b x off:Nat} (h:E.κ b=some x):VK P E (.ptr b off) (.pointer (some ⟨x,off,none⟩)):=by simp only [VK]; exact ⟨x,h,rfl⟩
theorem VK.anr {b x off n c:Nat} (h:E.κ b=some x):VK P E (.sl b off n c) (.slice (some ⟨x,off,none⟩) n c):=by simp only [VK]; exact ⟨x,h,rfl⟩
theorem VK.aj7 {f:Fn} {a b:List KV} {l m:List Value} (h:bm P E a l) (k:bm P E b m):VK P E (.fn f a b) (.func f ⟨l⟩ ⟨m⟩):=by simp only [VK]; exact ⟨l,m,rfl,h,k⟩
theorem VK.undef:VK P E uh undef:=VK.aeH .nil
theorem VK.uC {v:Value} : VK P E .bD v:=by simp [VK]
theorem VK.cells {v:KV} {v' : Value} (h:VK P E v v') (hu:yS v=true):bm P E v.cells v'.cells.toList:=by
 cases v with
 | agg cs=>obtain ⟨l,rfl,q⟩:=h.nM; exact q
 | int k n=>have:=h.dx; subst this; exact .cons h .nil
 | bool b=>have:=h.gh; subst this; exact .cons h .nil
 | str b=>have:=h.uB; subst this; exact .cons h .nil
 | iv cs=>have q:=h; obtain ⟨l,rfl,_⟩:=h.Rz; exact .cons q .nil
 | ts T m n es acc=>have q:=h; obtain ⟨_,_,_,a,cap,rfl,_⟩:=h.ny; exact .cons q .nil
 | tp T Tc i k es acc=>have q:=h; obtain ⟨_,_,_,_,_,b,off,r,rfl,_⟩:=h.O2; exact .cons q .nil
 | al T b o n=>have q:=h; obtain ⟨a,c,rfl⟩:=h.yW.slice; exact .cons q .nil
 | ap T Tc b i k=>have q:=h; obtain ⟨x,L,N,_,_,_,rfl⟩:=h.Kv; exact .cons q .nil
 | ptr b off=>have q:=h; obtain ⟨x,_,rfl⟩:=h.jb; exact .cons q .nil
 | sl b off n c=>have q:=h; obtain ⟨x,_,rfl⟩:=h.TM; exact .cons q .nil
 | Hw=>have q:=h; simp only [VK] at h; subst h; exact .cons q .nil
 | mn=>have q:=h; simp only [VK] at h; subst h; exact .cons q .nil
 | C0=>have q:=h; simp only [VK] at h; subst h; exact .cons q .nil
 | map b=>have q:=h; simp only [VK] at h; obtain ⟨x,_,rfl⟩:=h; exact .cons q .nil
 | fn f a b=>have q:=h; obtain ⟨l,m,rfl,_⟩:=h.Ku; exact .cons q .nil
 | IW=>have q:=h; simp only [VK] at h; subst h; exact .cons q .nil
 | iface t x=>have q:=h; simp only [VK] at h; obtain ⟨y,rfl,_⟩:=h; exact .cons q .nil
 | IX=>have q:=h; simp only [VK] at h; subst h; exact .cons q .nil
 | bD=>simp [yS] at hu
theorem VK.scalar {v:KV} {v' : Value} (h:VK P E v v') (ho:one v=true):aB.scalar v' = true:=by
 cases v with
 | agg cs=>simp [one] at ho
 | iv cs=>simp [one] at ho
 | bD=>simp [one] at ho
 | int k n=>have:=h.dx; subst this; rfl
 | bool b=>have:=h.gh; subst this; rfl
 | str b=>have:=h.uB; subst this; rfl
 | ts T m n es acc=>obtain ⟨_,_,_,a,cap,rfl,_⟩:=h.ny; rfl
 | tp T Tc i k es acc=>obtain ⟨_,_,_,_,_,b,off,r,rfl,_⟩:=h.O2; rfl
 | al T b o n=>obtain ⟨a,c,rfl⟩:=h.yW.slice; rfl
 | ap T Tc b i k=>obtain ⟨x,L,N,_,_,_,rfl⟩:=h.Kv; rfl
 | ptr b off=>obtain ⟨x,_,rfl⟩:=h.jb; rfl
 | sl b off n c=>obtain ⟨x,_,rfl⟩:=h.TM; rfl
 | Hw=>simp only [VK] at h; subst h; rfl
 | mn=>simp only [VK] at h; subst h; rfl
 | C0=>simp only [VK] at h; subst h; rfl
 | map b=>simp only [VK] at h; obtain ⟨x,_,rfl⟩:=h; rfl
 | fn f a b=>obtain ⟨l,m,rfl,_⟩:=h.Ku; rfl
 | IW=>simp only [VK] at h; subst h; rfl
 | iface t x=>simp only [VK] at h; obtain ⟨y,rfl,_⟩:=h; rfl
 | IX=>simp only [VK] at h; subst h; rfl
theorem bm.scalar:∀ {l:List KV} {l' : List Value},bm P E l l'->il l=true->∀ v∈l',aB.scalar v=true
 | [],l',h,_,v,hv=>by rw [h.cl] at hv; simp at hv
 | x::xs,l',h,ho,v,hv=>by
  obtain ⟨y,ys,rfl,h1,h2⟩:=h.cons_inv;simp only [il,aD] at ho;rcases eL.1 hv with rfl | hv
  ·exact h1.scalar ho.1
  ·exact bm.scalar h2 ho.2 v hv
theorem Al {v:KV} (h:il v.cells=true):yS v=true:=by
 cases v <;> first | rfl | simp [KV.cells,il,one] at h
mutual
theorem VK.gQ:∀ (v:Value),VK P E (gQ v) v
 | .bool b=>by simp [K.gQ,VK]
 | .int k n=>by simp [K.gQ,VK]
 | .string s=>by simp [K.gQ,VK]
 | .pointer none=>by simp [K.gQ,VK]
 | .pointer (some a)=>by simp [K.gQ,VK]
 | .slice none 0 0=>by simp [K.gQ,VK]
 | .slice none 0 (n+1)=>by simp [K.gQ,VK]
 | .slice none (n+1) c=>by simp [K.gQ,VK]
 | .slice (some a) n c=>by simp [K.gQ,VK]
 | .map none=>by simp [K.gQ,VK]
 | .map (some r)=>by simp [K.gQ,VK]
 | .nilFunc=>by simp [K.gQ,VK]
 | .nilIface=>by simp [K.gQ,VK]
 | .agg cs=>by
  obtain ⟨l⟩:=cs;simp only [K.gQ,ofA];exact .rQ (bm.ofL l)
 | .tuple cs=>by
  obtain ⟨l⟩:=cs;simp only [K.gQ,ofA];exact .aeH (bm.ofL l)
 | .float _ _=>by simp [K.gQ,VK]
 | .complex _ _ _=>by simp [K.gQ,VK]
 | .chan _=>by simp [K.gQ,VK]
 | .func _ _ _=>by simp [K.gQ,VK]
 | .iface _ _=>by simp [K.gQ,VK]
theorem bm.ofL:∀ (l:List Value),bm P E (ofL l) l
 | []=>.nil
 | v::vs=>.cons (VK.gQ v) (bm.ofL vs)
end
theorem Et {z:Value} (h:il (gQ z).cells=true):bm P E (gQ z).cells z.cells.toList:=(VK.gQ z).cells (Al h)
def HX (E:Env) (A:aC):Prop:=∀ b c g tb sb tc sc,A.get b=some (.bc tb sb)->A.get c=some (.bc tc sc)->E.φ b=some g->E.φ c=some g->b=c
def AR (A:aC) (E:Env) (x:Nat):Prop:=∃ b v L N,A.get b=some (.arr v)/\E.α b=some (x,L,N)
def AF (A:aC) (E:Env) (B:St) (g:Nat):Prop:=∃ b v x L N cs e own k,A.get b=some (.arr v)/\E.α b=some (x,L,N)/\B.get x=some (.row cs e own (some (g,k)))
def AT (A:aC) (E:Env) (B:St) (y:Nat):Prop:=AR A E y\/∃ g,AF A E B g/\y∈B.members g
def aeI (P:Program) (E:Env) (B:St) (b:Nat) (v:KV):Prop:=∃ T N es acc,v = .ts T .any N es acc/\ji P T N es acc/\1<=bz P T/\
 ((N=0/\E.α b=none)\/∃ x cs cc bx,E.α b=some (x,cs.length,N)/\B.get x=some (.row cs (bz P T) true cc)/\bm P E es bx/\qK (bz P T) 0 cs bx)
def Yi (P:Program) (E:Env) (b:Nat) (v:KV):Prop:=∃ T N es acc,v = .ts T .any N es acc/\ji P T N es acc/\1<=bz P T/\
 ((N=0/\E.α b=none)\/∃ x r bx,E.α b=some (x,r.cs.length,N)/\E.z x=some r/\r.bV=bz P T/\bm P E es bx/\qK (bz P T) 0 r.cs bx)
theorem aeI.mono (h:E.le E') {B B' : St} {b:Nat} {v:KV} (tj:E'.α b=E.α b) (hB:∀ x L N,E.α b=some (x,L,N)->B'.get x=B.get x) (q:aeI P E B b v):aeI P E' B' b v:=by
 obtain ⟨T,N,es,acc,h1,h2,h3,h4⟩:=q;refine ⟨T,N,es,acc,h1,h2,h3,?_⟩;rcases h4 with ⟨h4,h5⟩ | ⟨x,cs,cc,bx,h4,h5,h6,h7⟩
 ·exact .inl ⟨h4,by rw [tj]; exact h5⟩
 ·exact .inr ⟨x,cs,cc,bx,by rw [tj]; exact h4,by rw [hB _ _ _ h4]; exact h5,h6.mono h,h7⟩
theorem Yi.mono (h:E.le E') {b:Nat} {v:KV} (tj:E'.α b=E.α b) (q:Yi P E b v):Yi P E' b v:=by
 obtain ⟨T,N,es,acc,h1,h2,h3,h4⟩:=q;refine ⟨T,N,es,acc,h1,h2,h3,?_⟩;rcases h4 with ⟨h4,h5⟩ | ⟨x,r,bx,h4,h5,h6,h7,h8⟩
 ·exact .inl ⟨h4,by rw [tj]; exact h5⟩
 ·exact .inr ⟨x,r,bx,by rw [tj]; exact h4,h.z _ _ h5,h6,h7.mono h,h8⟩
structure O3 (P:Program) (E:Env) (A:aC) (B:St):Prop where
 arr:∀ b v,A.get b=some (.arr v)->aeI P E B b v
 jQ:∀ b v,A.get b=some (.jQ v)->Yi P E b v
 z:∀ x,AR A E x->E.z x=none/\∀ c,E.κ c≠some x
 inj:∀ b c v u x L N L' N',A.get b=some (.arr v)->A.get c=some (.arr u)->E.α b=some (x,L,N)->E.α c=some (x,L',N')->b=c
 xi:∀ b c v u x y L N L' N' cs e own g k cd e' rU k',A.get b=some (.arr v)->A.get c=some (.arr u)->E.α b=some (x,L,N)->E.α c=some (y,L',N')->B.get x=some (.row cs e own (some (g,k)))->B.get y=some (.row cd e' rU (some (g,k')))->b=c
 dis:∀ b x,E.κ b=some x->E.α b=none
 mA:∀ b p,E.α b=some p->b < A.next
 gX:∀ b x L N,E.α b=some (x,L,N)->x < B.next
 vr:∀ b v x L N cs e own g k,A.get b=some (.arr v)->E.α b=some (x,L,N)->B.get x=some (.row cs e own (some (g,k)))->g < B.next/\(∀ f,E.φ f≠some g)/\∀ y∈B.members g,y≠x->E.z y=none/\¬ AR A E y/\∀ c,E.κ c≠some y
 nk:∀ b v,A.get b=some (.arr v)->b < A.next/\E.κ b=none
structure fK (P:Program) (E:Env) (A:aC) (B:St):Prop where
 row:∀ b cs bV,A.get b=some (.row cs bV)->∃ x cd,E.κ b=some x/\B.get x=some (.row cd bV true none)/\bm P E cs cd
 bc:∀ b top sz,A.get b=some (.bc top sz)->(top=0/\E.φ b=none)\/∃ g,E.φ b=some g/\0 < top/\∀ x∈B.members g,∀ cs e own f k,B.get x=some (.row cs e own (some (f,k)))->k=0/\cs.length<=top * sz
 z:∀ b r,E.z b=some r->B.get b=some (.row r.cs r.bV r.own r.cc)
 apart:∀ b x,E.κ b=some x->E.z x=none
 inj:∀ b c x,E.κ b=some x->E.κ c=some x->b=c
 j6:HX E A
 mA:∀ b x,E.κ b=some x->b < A.next
 oI:∀ b g,E.φ b=some g->b < A.next
 live:∀ b o,A.get b=some o->b < A.next
 gX:∀ b x,E.κ b=some x->x < B.next
 oS:∀ b r,E.z b=some r->b < B.next
 kG:∀ b g,E.φ b=some g->g < B.next
 fresh:∀ g,B.next<=g->B.members g = []
 mem:∀ g x,x∈B.members g->x < B.next
 ar:O3 P E A B
structure Ev (P:Program) (base:Nat) (E:Env) (A:aC) (B:St) (ρ:aZ) (w:World) (E' : Env) (A' : aC) (B' : St) (a7:aZ) (w' : World):Prop where
 jK:fK P E' A' B'
 fX:nC base ρ B w a7 B' w'
 le:E.le E'
 next:A.next<=A'.next
 nD:∀ x,x < B.next->(∀ b,E.κ b≠some x)->¬ AT A E B x->B'.get x=B.get x
 new:∀ b x,E'.κ b=some x->E.κ b=some x\/B.next<=x
 wk:∀ b r,E'.z b=some r->E.z b=some r\/AR A E b\/B.next<=b
 wm:∀ b g,E'.φ b=some g->(∃ c,E.φ c=some g)\/B.next<=g
 sQ:∀ g,g < B.next->(∀ b,E.φ b≠some g)->¬ AF A E B g->B'.members g=B.members g
 oJ:∀ x,AR A' E' x->AR A E x\/B.next<=x
 oY:∀ g,AF A' E' B' g->AF A E B g\/B.next<=g
 xY:∀ g y,y∈B'.members g->y∈B.members g\/B.next<=y
 qv:∀ y,AT A' E' B' y->AT A E B y\/B.next<=y
 rows:∀ y,y < B.next->∀ cs e own cc,B'.get y=some (.row cs e own cc)->∃ nK,B.get y=some (.row nK e own cc)/\nK.length=cs.length
theorem Ev.refl {base:Nat} {A:aC} {B:St} {ρ:aZ} {w:World} (h:fK P E A B) (s:xS ρ B base w):Ev P base E A B ρ w E A B ρ w:=
 ⟨h,.refl s,Env.le_refl _,aQ _,fun _ _ _ _=>rfl,fun _ _ h=>.inl h,fun _ _ h=>.inl h,fun _ _ h=>.inl ⟨_,h⟩,fun _ _ _ _=>rfl,fun _ h=>.inl h,fun _ h=>.inl h,fun _ _ h=>.inl h,fun _ h=>.inl h,fun _ _ cs _ _ _ h=>⟨cs,h,rfl⟩⟩
theorem Ev.trans {base:Nat} {E1 E2 E3:Env} {A1 A2 A3:aC} {B1 B2 B3:St} {oq xZ ρ3:aZ} {w1 w2 w3:World} (h:Ev P base E1 A1 B1 oq w1 E2 A2 B2 xZ w2) (k:Ev P base E2 A2 B2 xZ w2 E3 A3 B3 ρ3 w3) :
  Ev P base E1 A1 B1 oq w1 E3 A3 B3 ρ3 w3 where
 jK:=k.jK
 fX:=h.fX.trans k.fX
 le:=Env.le_trans h.le k.le
 next:=oO h.next k.next
 nD x hx hn ha:=by
  refine (k.nD x (ta hx h.fX.next) (fun b e=>?_) fun q=>?_).trans (h.nD x hx hn ha)
  ·rcases h.new b x e with e | e
   ·exact hn b e
   ·omega
  ·rcases h.qv x q with e | e
   ·exact ha e
   ·omega
 new b x e:=by
  rcases k.new b x e with e | e
  ·rcases h.new b x e with e | e
   ·exact .inl e
   ·exact .inr e
  ·have:=h.fX.next; exact .inr (by omega)
 wk b r e:=by
  rcases k.wk b r e with e | e | e
  ·exact h.wk b r e
  ·exact .inr (h.oJ b e)
  ·have:=h.fX.next; exact .inr (.inr (by omega))
 wm b g e:=by
  rcases k.wm b g e with ⟨c,e⟩ | e
  ·exact h.wm c g e
  ·have:=h.fX.next; exact .inr (by omega)
 sQ g hg hn ha:=by
  refine (k.sQ g (ta hg h.fX.next) (fun b e=>?_) fun q=>?_).trans (h.sQ g hg hn ha)
  ·rcases h.wm b g e with ⟨c,e⟩ | e
   ·exact hn c e
   ·omega
  ·rcases h.oY g q with e | e
   ·exact ha e
   ·omega
 oJ x e:=by
  rcases k.oJ x e with e | e
  ·exact h.oJ x e
  ·have:=h.fX.next; exact .inr (by omega)
 oY g e:=by
  rcases k.oY g e with e | e
  ·exact h.oY g e
  ·have:=h.fX.next; exact .inr (by omega)
 xY g y e:=by
  rcases k.xY g y e with e | e
  ·exact h.xY g y e
  ·have:=h.fX.next; exact .inr (by omega)
 qv y e:=by
  rcases k.qv y e with e | e
  ·exact h.qv y e
  ·have:=h.fX.next; exact .inr (by omega)
 rows y hy cs e own cc q:=by
  obtain ⟨c1,h1,h2⟩:=k.rows y (ta hy h.fX.next) cs e own cc q;obtain ⟨c0,h3,h4⟩:=h.rows y hy c1 e own cc h1;exact ⟨c0,h3,h4.trans h2⟩
@[simp] theorem aC.cg (A:aC) (b:Nat) (o:jP) (x:Nat):(A.put b o).get x=if x=b then some o else A.get x:=by simp [aC.put,aC.get,Trie.qH]
@[simp] theorem aC.dw (A:aC) (o:jP) (x:Nat):(A.new o).get x=if x=A.next then some o else A.get x:=by simp [aC.new,aC.get,Trie.qH]
@[simp] theorem aC.uq (A:aC) (b:Nat) (o:jP):(A.put b o).next=A.next:=rfl
@[simp] theorem aC.ct (A:aC) (o:jP):(A.new o).next=A.next+1:=rfl
theorem HX.put {A:aC} (h:HX E A) {b:Nat} {o:jP} (ho:(∀ t s,o≠.bc t s)\/E.φ b=none):HX E (A.put b o):=by
 intro x y g tx sx ty sy hx hy ex ey;have key:∀ {z t s},(A.put b o).get z=some (.bc t s)->E.φ z=some g->A.get z=some (.bc t s):=by
  intro z t s hz ez;rw [aC.cg] at hz;split at hz
  ·rename_i e
   simp at hz;rcases ho with ho | ho
   ·exact absurd hz (ho t s)
   ·rw [e,ho] at ez; simp at ez
  ·exact hz
 exact h x y g tx sx ty sy (key hx ex) (key hy ey) ex ey
theorem HX.new {A:aC} (h:HX E A) {o:jP} (ho:(∀ t s,o≠.bc t s)\/E.φ A.next=none):HX E (A.new o):=by
 intro x y g tx sx ty sy hx hy ex ey;have key:∀ {z t s},(A.new o).get z=some (.bc t s)->E.φ z=some g->A.get z=some (.bc t s):=by
  intro z t s hz ez;rw [aC.dw] at hz;split at hz
  ·rename_i e
   simp at hz;rcases ho with ho | ho
   ·exact absurd hz (ho t s)
   ·rw [e,ho] at ez; simp at ez
  ·exact hz
 exact h x y g tx sx ty sy (key hx ex) (key hy ey) ex ey
structure KJ (P:Program) (E:Env) (A:aC) (B:St) (ρ:aZ) (base:Nat) (w:World):Prop where
 k:fK P E A B
 s:xS ρ B base w
theorem Ev.kj {base:Nat} {E1 E2:Env} {A1 A2:aC} {B1 B2:St} {oq xZ:aZ} {w1 w2:World} (h:Ev P base E1 A1 B1 oq w1 E2 A2 B2 xZ w2):KJ P E2 A2 B2 xZ base w2:=⟨h.jK,h.fX.jK⟩
def VC (P:Program) (E:Env) (ρ:aZ) (v:KV) (v' : Value):Prop:=∃ u,VK P E v u/\VR ρ u v'
theorem VC.mono {ρ a7:aZ} {v:KV} {v' : Value} (h:VC P E ρ v v') (k:E.le E') (m:ρ.le a7):VC P E' a7 v v':=by
 obtain ⟨u,h1,h2⟩:=h;exact ⟨u,h1.mono k,h2.mono m⟩
theorem VC.bD {ρ:aZ} {v' : Value} : VC P E ρ .bD v':=⟨.chan none,.uC,by simp [VR]⟩
theorem VC.undef {ρ:aZ} : VC P E ρ uh undef:=⟨_,.undef,VR.undef⟩
end Go.K
end
section
namespace Go.K
open Go Go.aB
variable {P:Program} {E:Env}
def a9 {α:Type} (r:KR α) (v:α):Prop:=
 match r with
 | .no=>False
 | .ok u=>u=v
 | .lB c u=>c=true/\u=v
 | .br c x y=>(c=true/\a9 x v)\/(c=false/\a9 y v)
theorem KR.Cl {α R:Type} {k:α->Option R} {x:R} : ∀ {r:KR α},r.run k=some x->∃ v,a9 r v/\k v=some x:=by
 intro r h
 match r,h with
 | .no,h=>exact absurd h (by simp [KR.run])
 | .ok v,h=>exact ⟨v,rfl,h⟩
 | .lB c v,h=>
  cases c with
  | false=>exact absurd h (by simp [KR.run])
  | true=>exact ⟨v,⟨rfl,rfl⟩,h⟩
 | .br c x y,h=>
  cases c with
  | false=>obtain ⟨v,h1,h2⟩:=KR.Cl (r:=y) (k:=k) h; exact ⟨v,.inr ⟨rfl,h1⟩,h2⟩
  | true=>obtain ⟨v,h1,h2⟩:=KR.Cl (r:=x) (k:=k) h; exact ⟨v,.inl ⟨rfl,h1⟩,h2⟩
theorem a9.at {α:Type} {i:Int} {f:Nat->KR α} {v:α} : ∀ {m j:Nat},a9 (anm i f m j) v->∃ k,j<=k/\k < j+m/\i=(k:Int)/\a9 (f k) v
 | 0,j,h=>h.elim
 | m+1,j,h=>by
  rcases h with ⟨h1,h2⟩ | ⟨_,h2⟩
  ·exact ⟨j,aQ j,by omega,pT h1,h2⟩
  ·obtain ⟨k,h3,h4,h5,h6⟩:=a9.at (m:=m) (j:=j+1) h2
   exact ⟨k,by omega,by omega,h5,h6⟩
theorem a9.of {α:Type} {o:Option α} {v:α} (h:a9 (KR.of o) v):o=some v:=by
 cases o with
 | none=>exact h.elim
 | some u=>have h:u=v:=h; rw [h]
theorem a9.cond {α:Type} {c:Bool} {r:KR α} {v:α} (h:a9 (cond c r .no) v):c=true/\a9 r v:=by
 cases c with
 | false=>exact h.elim
 | true=>exact ⟨rfl,h⟩
theorem O4 {α:Type} {c:Bool} {r:Option α} {v:α} (h:cond c r none=some v):c=true/\r=some v:=by
 cases c with
 | false=>simp at h
 | true=>exact ⟨rfl,h⟩
def x4 (P:Program) (f:FP) (g:List Value->Option Value):Prop:=
 ∀ (E:Env) (vs:List KV) (us:List Value) (v:KV),bm P E vs us->a9 (f vs) v->∃ u,g us=some u/\VK P E v u
theorem aj8:x4 P ait Oy:=by
 intro E vs us v h hg
 match vs,hg with
 | [x],hg=>
  obtain ⟨y,rfl,h1⟩:=h.fk;have hg:x=v:=hg;subst hg;exact ⟨y,rfl,h1⟩
theorem aoo:x4 P aiu Oy:=by
 intro E vs us v h hg
 match vs,hg with
 | [.bool b],hg=>
  obtain ⟨y,rfl,h1⟩:=h.fk;have hb:v = .bool b:=by
   rcases hg with ⟨rfl,h2⟩ | ⟨rfl,h2⟩
   ·exact (show KV.bool true=v from h2).symm
   ·exact (show KV.bool false=v from h2).symm
  subst hb;exact ⟨_,rfl,h1⟩
 | [x],hg=>
  have key:v=x:=by
   cases x <;> first | exact (show _=v from hg).symm | skip
   rcases hg with ⟨rfl,h2⟩ | ⟨rfl,h2⟩
   ·exact (show KV.bool true=v from h2).symm
   ·exact (show KV.bool false=v from h2).symm
  subst key;obtain ⟨y,rfl,h1⟩:=h.fk;exact ⟨_,rfl,h1⟩
theorem aop {b:Bool} : x4 P (cond b aiu ait) Oy:=by
 cases b with
 | true=>exact aoo
 | false=>exact aj8
theorem apy:x4 P amf aif:=by
 intro E vs us v h hg
 match vs,hg with
 | [.bool t,.bool a,.bool b],hg=>
  obtain ⟨x,y,z,rfl,h1,h2,h3⟩:=h.Wh;have:=h1.gh; subst this;have:=h2.gh; subst this;have:=h3.gh; subst this;have hg:KV.bool (cond t a b)=v:=hg;subst hg;exact ⟨_,rfl,by cases t <;> exact .vI⟩
 | [.bool t,a,b],hg=>
  obtain ⟨x,y,z,rfl,h1,h2,h3⟩:=h.Wh;have:=h1.gh; subst this;refine ⟨_,rfl,?_⟩;have hg:v=cond t a b\/∃ p q,a = .bool p/\b = .bool q/\v = .bool (cond t p q):=by
   unfold amf at hg;split at hg
   ·rename_i t' a' b' e
    simp at e;obtain ⟨rfl,rfl,rfl⟩:=e;exact .inr ⟨_,_,rfl,rfl,hg.symm⟩
   ·rename_i t' a' b' _ e
    simp at e;obtain ⟨rfl,rfl,rfl⟩:=e;exact .inl hg.symm
   ·exact hg.elim
  rcases hg with rfl | ⟨p,q,rfl,rfl,rfl⟩
  ·cases t
   ·exact h3
   ·exact h2
  ·have:=h2.gh; subst this
   have:=h3.gh; subst this;cases t <;> exact .vI
theorem aar {v:KV} {u:Value} (h:VK P E v u) (hk:yS v=true):aB.known u=true:=by
 cases v with
 | agg cs=>obtain ⟨l,rfl,q⟩:=h.nM; rfl
 | int k n=>have:=h.dx; subst this; rfl
 | bool b=>have:=h.gh; subst this; rfl
 | str b=>have:=h.uB; subst this; rfl
 | iv cs=>obtain ⟨l,rfl,_⟩:=h.Rz; rfl
 | ts T m n es acc=>obtain ⟨_,_,_,a,cap,rfl,_⟩:=h.ny; rfl
 | tp T Tc i k es acc=>obtain ⟨_,_,_,_,_,b,off,r,rfl,_⟩:=h.O2; rfl
 | al T b o n=>obtain ⟨a,c,rfl⟩:=h.yW.slice; rfl
 | ap T Tc b i k=>obtain ⟨x,L,N,_,_,_,rfl⟩:=h.Kv; rfl
 | ptr b off=>obtain ⟨x,_,rfl⟩:=h.jb; rfl
 | sl b off n c=>obtain ⟨x,_,rfl⟩:=h.TM; rfl
 | Hw=>simp only [VK] at h; subst h; rfl
 | mn=>simp only [VK] at h; subst h; rfl
 | C0=>simp only [VK] at h; subst h; rfl
 | map b=>simp only [VK] at h; obtain ⟨x,_,rfl⟩:=h; rfl
 | fn f a b=>obtain ⟨l,m,rfl,_⟩:=h.Ku; rfl
 | IW=>simp only [VK] at h; subst h; rfl
 | iface t x=>simp only [VK] at h; obtain ⟨y,rfl,_⟩:=h; rfl
 | IX=>simp only [VK] at h; subst h; rfl
 | bD=>simp [yS] at hk
theorem RA {v:KV} {u:Value} (h:VK P E v u) (hk:yS v=true):u.cells.size=v.cells.length:=by
 have:=(h.cells hk).length;simpa using this
theorem aeJ {place:Nat->Option (Nat×Nat)} : ∀ {ps:List (Nat×KV)} {qs:List (Nat×Value)} {cs r:List KV} {cd:List Value},ps.map (·.1)=qs.map (·.1)->bm P E (ps.map (·.2)) (qs.map (·.2))->(∀ p∈ps,yS p.2=true)->
  bm P E cs cd->aah place cs ps=some r->∃ r',CQ place cd qs=some r'/\bm P E r r'
 | [],[],cs,r,cd,_,_,_,h,e=>by simp [aah] at e; subst e; exact ⟨cd,rfl,h⟩
 | [],_::_,_,_,_,e,_,_,_,_=>by simp at e
 | _::_,[],_,_,_,e,_,_,_,_=>by simp at e
 | (i,v)::ps,(j,u)::qs,cs,r,cd,e1,e2,hk,h,e=>by
  simp only [List.map_cons,List.cons.injEq] at e1;obtain ⟨rfl,e1⟩:=e1;obtain ⟨y,ys,e3,h1,h2⟩:=e2.cons_inv;simp only [List.map_cons,List.cons.injEq] at e3;obtain ⟨rfl,rfl⟩:=e3;have hkv:yS v=true:=hk (i,v) (by simp);simp only [aah] at e;simp only [CQ];split at e
  ·rename_i off size hp
   rw [hp];obtain ⟨hc,e⟩:=O4 e;obtain ⟨qS,e4,e5⟩:=c9.1 e;obtain ⟨r1,e6,h3⟩:=bm.mD e4 h (h1.cells hkv);obtain ⟨r',e7,h4⟩:=aeJ e1 h2 (fun p hp=>hk p (by simp [hp])) h3 e5;refine ⟨r',?_,h4⟩;simp only;rw [RA h1 hkv,hc,aj,e6];exact e7
  ·simp at e
theorem aeK:∀ (is:List Nat) {vs:List KV} {us:List Value},bm P E vs us->(C1 is vs).map (·.1)=(zipIdx is us).map (·.1)/\bm P E ((C1 is vs).map (·.2)) ((zipIdx is us).map (·.2))
 | [],_,_,_=>by simp [C1,zipIdx,bm.nil]
 | i::is,[],us,h=>by rw [h.cl]; simp [C1,zipIdx,bm.nil]
 | i::is,v::vs,us,h=>by
  obtain ⟨y,ys,rfl,h1,h2⟩:=h.cons_inv;obtain ⟨h3,h4⟩:=aeK is h2;exact ⟨by simp [C1,zipIdx,h3],by simpa [C1,zipIdx] using bm.cons h1 h4⟩
theorem aeL:∀ (is:List Nat) (vs:List KV),∀ p∈C1 is vs,p.2∈vs
 | [],_,p,h=>by simp [C1] at h
 | i::is,[],p,h=>by simp [C1] at h
 | i::is,v::vs,p,h=>by
  simp only [C1,eL] at h;rcases h with rfl | h
  ·simp
  ·simp [aeL is vs p h]
theorem O5:∀ {vs:List KV} {us:List Value},bm P E vs us->vs.all yS=true->us.all aB.known=true
 | [],us,h,_=>by rw [h.cl]; rfl
 | v::vs,us,h,k=>by
  obtain ⟨y,ys,rfl,h1,h2⟩:=h.cons_inv;simp only [List.all_cons,aD] at k ⊢;exact ⟨aar h1 k.1,O5 h2 k.2⟩
theorem ahy {place:Nat->Option (Nat×Nat)} {z:Value} {is:List Nat} (hz:flat z=true) (h1:il (gQ z).cells=true):x4 P (TG place (gQ z).cells is) (Ej place z is):=by
 intro E vs us v h hg;unfold TG at hg;split at hg
 ·rename_i cs hf
  obtain ⟨hk,hg⟩:=hg.cond;have hg:KV.agg cs=v:=hg;subst hg;obtain ⟨h2,h3⟩:=aeK is h;obtain ⟨r',e,hr⟩:=aeJ h2 h3 (fun p hp=>by have:=aeL is vs p hp; exact gx.1 hk _ this) (Et (P:=P) (E:=E) h1) hf;refine ⟨.agg ⟨r'⟩,?_,.rQ hr⟩;unfold Ej;rw [hz,O5 h hk];simp [e,rQ]
 ·exact hg.elim
theorem arh:x4 P aez OB:=by
 intro E vs us v h hg
 match vs,hg with
 | [.ptr b off],hg=>
  obtain ⟨y,rfl,h1⟩:=h.fk;have hg:KV.ptr b off=v:=hg;subst hg;have q:=h1;obtain ⟨x,e,rfl⟩:=h1.jb;exact ⟨_,rfl,q⟩
 | [.tp T Tc i k es acc],hg=>
  obtain ⟨y,rfl,h1⟩:=h.fk;have hg:KV.tp T Tc i k es acc=v:=hg;subst hg;have q:=h1;obtain ⟨_,_,_,_,_,b,off,r,rfl,_⟩:=h1.O2;exact ⟨_,rfl,q⟩
 | [.ap T Tc b i k],hg=>
  obtain ⟨y,rfl,h1⟩:=h.fk;have hg:KV.ap T Tc b i k=v:=hg;subst hg;have q:=h1;obtain ⟨x,L,N,_,_,_,rfl⟩:=h1.Kv;exact ⟨_,rfl,q⟩
 | [.fn (.func f) a b],hg=>
  obtain ⟨y,rfl,h1⟩:=h.fk;have hg:KV.fn (.func f) a b=v:=hg;subst hg;have q:=h1;obtain ⟨l,m,rfl,_⟩:=h1.Ku;exact ⟨_,rfl,q⟩
theorem RB {s ft:TypeId} {off:Nat} (h:adO P s off ft=true):∀ m c,(bu P ft).ks[m]? = some c->(bu P s).ks[off+m]? = some c:=by
 unfold adO at h;have key:∀ (a b:List CK),Er a b=true->a=b:=by
  intro a
  induction a with
  | nil=>intro b hb; cases b <;> simp_all [Er]
  | cons x xs ih=>
   intro b hb;cases b with
   | nil=>simp [Er] at hb
   | cons y ys=>
    simp only [Er,aD] at hb;rw [ih ys hb.2];congr 1;cases x <;> cases y <;> simp_all [apu]
 split at h
 ·rename_i l e
  obtain ⟨rfl,hl⟩:=TL e;have:=key _ _ h;intro m c hm;rw [<- this,pr] at hm;split at hm
  ·rwa [Nd,pS] at hm
  ·simp at hm
 ·simp at h
theorem agM {s ft:TypeId} {off:Nat} {zJ:Bool} (aeM:zJ=adO P s off ft):x4 P (abU s off ft zJ) (Rg off):=by
 intro E vs us v h hg
 match vs,hg with
 | [.ptr b o],hg=>
  obtain ⟨y,rfl,h1⟩:=h.fk;have hg:KV.ptr b (o+off)=v:=hg;subst hg;obtain ⟨x,e,rfl⟩:=h1.jb;exact ⟨_,rfl,.Bt e⟩
 | [.tp T Tc i k es acc],hg=>
  obtain ⟨y,rfl,h1⟩:=h.fk;obtain ⟨hc,hg⟩:=a9.cond hg;have hg:KV.tp T ft i (k+off) es acc=v:=hg;subst hg;simp only [aD] at hc;have:=bh hc.1;subst this;obtain ⟨ht,bx,h2,hi,hw,b,o,r,rfl,h4,h5⟩:=h1.O2;refine ⟨_,rfl,?_⟩;simp only [VK];refine ⟨ht,bx,h2,hi,⟨fun m c hm=>?_⟩,b,o,r,by simp only [Value.pointer.injEq,db,Addr.mk.injEq,and_true,true_and]; omega,h4,h5⟩;have hp:=RB (aeM ▸ hc.2) m c hm;have:=hw.is _ _ hp;rwa [show k+(off+m)=k+off+m by omega] at this
 | [.ap T Tc b i k],hg=>
  obtain ⟨y,rfl,h1⟩:=h.fk;obtain ⟨hc,hg⟩:=a9.cond hg;have hg:KV.ap T ft b i (k+off)=v:=hg;subst hg;simp only [aD] at hc;have:=bh hc.1;subst this;obtain ⟨x,L,N,h2,hw,hi,rfl⟩:=h1.Kv;refine ⟨_,rfl,.apx ⟨x,L,N,h2,⟨fun m c hm=>?_⟩,hi,by simp only [Value.pointer.injEq,db,Addr.mk.injEq,and_true,true_and]; omega⟩⟩;have hp:=RB (aeM ▸ hc.2) m c hm;have:=hw.is _ _ hp;rwa [show k+(off+m)=k+off+m by omega] at this
theorem aj9 {t:TypeId} {cs:List KV} {cd:List Value} {off:Nat} {v:KV} (h:bm P E cs cd) (e:aak P t cs off=some v):∃ u,partOf P t cd off=some u/\VK P E v u:=by
 unfold aak at e;unfold partOf;split at e
 ·rename_i ha
  rw [ha];obtain ⟨n,hn,e⟩:=c9.1 e;obtain ⟨l,hl,rfl⟩:=cR.1 e;obtain ⟨r,hr,hv,_⟩:=h.xV hl;exact ⟨.agg ⟨r⟩,by simp [hn,hr],.rQ hv⟩
 ·rename_i ha
  rw [ha];rw [Nd] at e;have hd:=h.drop off;cases hc:cs.drop off with
  | nil=>rw [hc] at e; simp at e
  | cons x xs=>
   rw [hc] at e hd;simp at e;subst e;obtain ⟨y,ys,e2,h1,_⟩:=hd.cons_inv;exact ⟨y,by simp [uo,e2],h1⟩
 ·simp at e
theorem aoq {fd:Field} : x4 P (anl P fd) (aih P fd):=by
 intro E vs us v h hg
 match vs,hg with
 | [.agg cs],hg=>
  obtain ⟨y,rfl,h1⟩:=h.fk;obtain ⟨l,rfl,h2⟩:=h1.nM;exact aj9 h2 hg.of
theorem Cm {i:Int} {n:Nat} (h:inR i n=true):∃ m,i = .ofNat m/\m < n/\i.toNat=m:=by
 simp only [inR,aD,kV] at h;obtain ⟨m,rfl⟩:=Int.eq_ofNat_of_zero_le h.1;exact ⟨m,rfl,by omega,rfl⟩
theorem qT {m n:Nat} (h:m < n):l9 (.ofNat m) n=some m:=by
 have:Nat.blt m n=true:=by rw [bT]; exact h
 simp [l9,this]
theorem a9.lB {α:Type} {c:Bool} {u v:α} (h:a9 (.lB c u) v):c=true/\u=v:=h
theorem abY {t e:TypeId} {len n m:Nat} (hq:Er (bu P t).ks (eA (bu P e).ks len)=true) (hn:(bu P e).ks.length=n) (hm:m < len):∀ a c,(bu P e).ks[a]? = some c->(bu P t).ks[m * n+a]? = some c:=by
 intro a c ha;have key:∀ (l:List CK) (vJ m a:Nat) (c:CK),m < vJ->l[a]? = some c->(eA l vJ)[m * l.length+a]? = some c:=by
  intro l vJ
  induction vJ with
  | zero=>intro m a c hm; omega
  | succ vJ ih=>
   intro m a c hm hl;have a8:a < l.length:=(c8.1 hl).1;cases m with
   | zero=>simp only [eA,Nat.zero_mul,bd]; rw [pR a8]; exact hl
   | succ m=>
    simp only [eA];rw [ue (by rw [Nat.succ_mul]; omega),show (m+1) * l.length+a - l.length=m * l.length+a by rw [Nat.succ_mul]; omega];exact ih m a c (by omega) hl
 have ati:∀ (a b:List CK),Er a b=true->a=b:=by
  intro a
  induction a with
  | nil=>intro b hb; cases b <;> simp_all [Er]
  | cons x xs ih=>
   intro b hb;cases b with
   | nil=>simp [Er] at hb
   | cons y ys=>
    simp only [Er,aD] at hb;rw [ih ys hb.2];congr 1;cases x <;> cases y <;> simp_all [apu]
 have h6:=key (bu P e).ks len m a c hm ha;rw [<- ati _ _ hq,hn] at h6;exact h6
theorem aiz {t e:TypeId} {len n:Nat} : x4 P (aeA P t len n e) (VT len n):=by
 intro E vs us v h hg
 match vs,hg with
 | [.ptr b o,.int k i],hg=>
  have hg:a9 (cond (Nat.ble len 8) (anm i (fun j=>.ok (.ptr b (o+j * n))) len 0) (.lB (inR i len) (.ptr b (o+i.toNat * n)))) v:=hg;obtain ⟨x,y,rfl,h1,h2⟩:=h.mo;obtain ⟨x,e,rfl⟩:=h1.jb;have:=h2.dx; subst this;have key:∃ m:Nat,i=(m:Int)/\m < len/\v = .ptr b (o+m * n):=by
   cases hb:Nat.ble len 8 with
   | true=>rw [hb,aj] at hg; obtain ⟨m,_,h3,h4,h5⟩:=a9.at hg; exact ⟨m,h4,by omega,(show KV.ptr b (o+m * n)=v from h5).symm⟩
   | false=>rw [hb,aq] at hg; obtain ⟨hc,rfl⟩:=a9.lB hg; obtain ⟨m,rfl,hm,Un⟩:=Cm hc; exact ⟨m,rfl,hm,by rw [Un]⟩
  obtain ⟨m,rfl,hm,rfl⟩:=key;refine ⟨_,?_,.Bt e⟩;show (l9 (.ofNat m) len).bind _=_;rw [qT hm]; rfl
 | [.tp T Tc j k es acc,.int q i],hg=>
  obtain ⟨x,y,rfl,h1,h2⟩:=h.mo;obtain ⟨vk,hg⟩:=a9.cond hg;obtain ⟨hc,rfl⟩:=a9.lB hg;have:=h2.dx; subst this;obtain ⟨m,rfl,hm,Un⟩:=Cm hc;rw [Un];simp only [aD] at vk;have:=bh vk.1.1;subst this;have hn:(bu P e).ks.length=n:=bh vk.2;obtain ⟨ht,bx,h3,hi,hw,b,o,r,rfl,h4,h5⟩:=h1.O2;refine ⟨_,by (show (l9 (.ofNat m) len).bind _=_); rw [qT hm]; rfl,?_⟩;simp only [VK];refine ⟨ht,bx,h3,hi,⟨fun a c ha=>?_⟩,b,o,r,by simp only [Value.pointer.injEq,db,Addr.mk.injEq,and_true,true_and]; omega,h4,h5⟩;have h6:=abY vk.1.2 hn hm a c ha;have:=hw.is _ _ h6;rwa [show k+(m * n+a)=k+m * n+a by omega] at this
 | [.ap T Tc b j k,.int q i],hg=>
  obtain ⟨x,y,rfl,h1,h2⟩:=h.mo;obtain ⟨vk,hg⟩:=a9.cond hg;obtain ⟨hc,rfl⟩:=a9.lB hg;have:=h2.dx; subst this;obtain ⟨m,rfl,hm,Un⟩:=Cm hc;rw [Un];simp only [aD] at vk;have:=bh vk.1.1;subst this;have hn:(bu P e).ks.length=n:=bh vk.2;obtain ⟨x,L,N,h3,hw,hi,rfl⟩:=h1.Kv;refine ⟨_,by (show (l9 (.ofNat m) len).bind _=_); rw [qT hm]; rfl,.apx ⟨x,L,N,h3,⟨fun a c ha=>?_⟩,hi,by simp only [Value.pointer.injEq,db,Addr.mk.injEq,and_true,true_and]; omega⟩⟩;have h6:=abY vk.1.2 hn hm a c ha;have:=hw.is _ _ h6;rwa [show k+(m * n+a)=k+m * n+a by omega] at this
theorem aka {e n:Nat} {zJ:Bool} (aeM:zJ=Nat.beq (bu P e).ks.length n):x4 P (ahs e n zJ) (Z2 n):=by
 intro E vs us v h hg
 match vs,hg with
 | [.sl b o len cap,.int k i],hg=>
  obtain ⟨x,y,rfl,h1,h2⟩:=h.mo;obtain ⟨hc,rfl⟩:=a9.lB hg;obtain ⟨x,e,rfl⟩:=h1.TM;have:=h2.dx; subst this;obtain ⟨m,rfl,hm,Un⟩:=Cm hc;rw [Un];exact ⟨_,by (show (l9 (.ofNat m) len).bind _=_); rw [qT hm]; rfl,.Bt e⟩
 | [.ts T mk len es acc,.int q i],hg=>
  obtain ⟨x,y,rfl,h1,h2⟩:=h.mo;obtain ⟨vk,hg⟩:=a9.cond hg;obtain ⟨hc,rfl⟩:=a9.lB hg;have:=h2.dx; subst this;obtain ⟨m,rfl,hm,Un⟩:=Cm hc;rw [Un];simp only [aD] at vk;have:=bh vk.1;subst this;have hn:(bu P T).ks.length=n:=bh (aeM ▸ vk.2);obtain ⟨ht,bx,h3,a,cap,rfl,h4,h5,h6⟩:=h1.ny;rcases h5 with ⟨_,h0⟩ | ⟨b,off,r,rfl,h7,h8,h9⟩
  ·omega
  ·refine ⟨_,by (show (l9 (.ofNat m) len).bind _=_); rw [qT hm]; rfl,?_⟩
   have hl:=ht.len;simp only [VK];refine ⟨⟨rfl,fun i hi=>ht.acc i (by omega),ht.typed⟩,bx,h3,by omega,⟨fun a c ha=>by simpa using ha⟩,b,off,r,?_,h7,h9⟩;simp only [bz,hn,Value.pointer.injEq,db,Addr.mk.injEq,and_true,true_and];omega
 | [.al T b o len,.int q i],hg=>
  obtain ⟨x,y,rfl,h1,h2⟩:=h.mo;obtain ⟨vk,hg⟩:=a9.cond hg;obtain ⟨hc,rfl⟩:=a9.lB hg;have:=h2.dx; subst this;obtain ⟨m,rfl,hm,Un⟩:=Cm hc;rw [Un];simp only [aD] at vk;have:=bh vk.1;subst this;have hn:(bu P T).ks.length=n:=bh (aeM ▸ vk.2);rcases h1.yW with ⟨h0,_⟩ | ⟨x,L,N,c,h3,rfl,h4,h5,h6⟩
  ·omega
  ·refine ⟨_,by (show (l9 (.ofNat m) len).bind _=_); rw [qT hm]; rfl,.apx ⟨x,L,N,h3,⟨fun a c ha=>by simpa using ha⟩,by omega,?_⟩⟩
   simp only [bz,hn,Value.pointer.injEq,db,Addr.mk.injEq,and_true,true_and];rw [Nat.add_mul]; omega
theorem aiA {len n:Nat} {e:TypeId} : x4 P (Wb P len n e) (VU P len n e):=by
 intro E vs us v h hg
 match vs,hg with
 | [.agg cs,.int k i],hg=>
  obtain ⟨x,y,rfl,h1,h2⟩:=h.mo;obtain ⟨l,rfl,h3⟩:=h1.nM;have:=h2.dx; subst this;simp only [Wb] at hg;have key:∃ m:Nat,i=(m:Int)/\m < len/\aak P e cs (m * n)=some v:=by
   cases hb:Nat.ble len 8 with
   | true=>rw [hb,aj] at hg; obtain ⟨m,_,h3,h4,h5⟩:=a9.at hg; exact ⟨m,h4,by omega,a9.of h5⟩
   | false=>
    rw [hb,aq] at hg;split at hg
    ·rename_i u hu
     obtain ⟨hc,rfl⟩:=a9.lB hg;obtain ⟨m,rfl,hm,Un⟩:=Cm hc;rw [Un] at hu;exact ⟨m,rfl,hm,hu⟩
    ·exact hg.elim
  obtain ⟨m,rfl,hm,hu⟩:=key;obtain ⟨w,h4,h5⟩:=aj9 h3 hu;exact ⟨w,by (show (l9 (.ofNat m) len).bind _=_); rw [qT hm]; exact h4,h5⟩
theorem aiB:x4 P aeB VV:=by
 intro E vs us v h hg
 match vs,hg with
 | [.str s,.int k i],hg=>
  obtain ⟨x,y,rfl,h1,h2⟩:=h.mo;have:=h1.uB; subst this;have:=h2.dx; subst this;obtain ⟨hc,rfl⟩:=a9.lB hg;obtain ⟨m,rfl,hm,Un⟩:=Cm hc;rw [Un];have hl:m < s.data.toList.length:=by simpa using hm
  refine ⟨.int .u8 (s.data.toList.getD m 0).toNat,?_,.mkInt⟩;show (l9 (.ofNat m) s.size).bind _=_;rw [qT hm];show (s.data.toList[m]?).map _=_;simp [List.getD,dz hl]
theorem aeN {α:Type} : ∀ (n:Nat) (l:List α),aht n l=l[n]?
 | n,[]=>by cases n <;> rfl
 | 0,x::_=>rfl
 | n+1,_::xs=>by simp [aht,aeN n xs]
theorem akb {i:Nat} : x4 P (ahu i) (MM i):=by
 intro E vs us v h hg
 match vs,hg with
 | [.iv ws],hg=>
  obtain ⟨y,rfl,h1⟩:=h.fk;obtain ⟨l,rfl,h2⟩:=h1.Rz;have:=hg.of;rw [aeN] at this;obtain ⟨u,h3,h4⟩:=h2.get this;exact ⟨u,by simpa [MM] using h3,h4⟩
theorem aor:x4 P ann adH:=by
 intro E vs us v h hg
 match vs,hg with
 | [.ts T m n es acc],hg=>
  obtain ⟨y,rfl,h1⟩:=h.fk;obtain ⟨_,_,_,a,cap,rfl,_⟩:=h1.ny;have hg:KV.int .i64 n=v:=hg;subst hg;exact ⟨_,rfl,.mkInt⟩
 | [.sl b o n c],hg=>
  obtain ⟨y,rfl,h1⟩:=h.fk;obtain ⟨x,_,rfl⟩:=h1.TM;have hg:KV.int .i64 n=v:=hg;subst hg;exact ⟨_,rfl,.mkInt⟩
 | [.al T b o n],hg=>
  obtain ⟨y,rfl,h1⟩:=h.fk;obtain ⟨a,c,rfl⟩:=h1.yW.slice;have hg:KV.int .i64 n=v:=hg;subst hg;exact ⟨_,rfl,.mkInt⟩
 | [.mn],hg=>
  obtain ⟨y,rfl,h1⟩:=h.fk;have:=h1.qu; subst this;have hg:KV.int .i64 0=v:=hg;subst hg;exact ⟨_,rfl,.mkInt⟩
theorem amj:x4 P ajY XI:=by
 intro E vs us v h hg
 match vs,hg with
 | [.str s],hg=>
  obtain ⟨y,rfl,h1⟩:=h.fk;have:=h1.uB; subst this;have hg:KV.int .i64 s.size=v:=hg;subst hg;exact ⟨_,rfl,.mkInt⟩
theorem aos:x4 P anj aed:=by
 intro E vs us v h hg
 match vs,hg with
 | [.str s],hg=>
  obtain ⟨y,rfl,h1⟩:=h.fk;have:=h1.uB; subst this;have hg:KV.str s=v:=hg;subst hg;exact ⟨_,rfl,.mkStr⟩
theorem aiC {f:Fn} {k:Nat} : x4 P (OY f k) (IG f k):=by
 intro E vs us v h hg;unfold OY at hg;split at hg
 ·rename_i l hl
  have hg:KV.fn f l (Ep k vs)=v:=hg;subst hg;have vB:xV k (Ep 0 vs)=some l:=hl;obtain ⟨r,h1,h2,_⟩:=h.xV vB;have h1:takeN k us=some r:=h1;refine ⟨_,by simp [IG,h1]; rfl,.aj7 h2 ?_⟩;rw [Nd,uo];exact h.drop k
 ·exact hg.elim
theorem aot {src dst:TypeId} {k k' : IntKind} (h2:P.underlying dst=some (.int k)) (h3:P.underlying src=some (.int k')):x4 P (ani k) (ML P src dst):=by
 intro E vs us v h hg
 match vs,hg with
 | [.int j n],hg=>
  obtain ⟨y,rfl,h1⟩:=h.fk;have:=h1.dx; subst this;have hg:KV.int k (k.wrap n)=v:=hg;subst hg;refine ⟨.int k (k.wrap n),?_,.mkInt⟩;simp only [ML,h2];simp [convert,underlying,program,Bind.bind,Sem.bind,dv,h2,h3,Conv.intToInt,Pure.pure]
end Go.K
end
section
namespace Go.K
open Go Go.aB
variable {P:Program} {E:Env}
theorem fv {α β:Type} : ∀ {s:Sem α} {f:α->Sem β} {a:α},dv P s=some a->dv P (s >>= f)=dv P (f a)
 | .pure x,f,a,h=>by simp [dv] at h; subst h; rfl
 | .program k,f,a,h=>by
  have:=fv (s:=k P) (f:=f) (a:=a) (by simpa [dv] using h);exact this
 | .mark m k,f,a,h=>by
  have:=fv (s:=k) (f:=f) (a:=a) (by simpa [dv] using h);exact this
 | .load ..,_,_,h | .store ..,_,_,h | .new ..,_,_,h | .shape ..,_,_,h | .freeze ..,_,_,h | .frozen ..,_,_,h | .getObj ..,_,_,h
 | .setObj ..,_,_,h | .choose ..,_,_,h | .sys ..,_,_,h | .halt ..,_,_,h=>by simp [dv] at h
theorem I1 {α β:Type} {init stop:β} {B:α->β->Sem (ForInStep β)} {g:α->Bool} : ∀ {l:List α},(∀ x∈l,dv P (B x init)=some (if g x=true then .yield init else .done stop))->
  dv P (forIn l init B)=some (if l.all g=true then init else stop)
 | [],_=>rfl
 | x::l,h=>by
  have hx:=h x (by simp);rw [List.forIn_cons,fv hx];cases hg:g x with
  | true=>
   simp only [if_true];rw [I1 fun y hy=>h y (by simp [hy])];simp [hg]
  | false=>simp [hg]; rfl
theorem zN {t:TypeId} {d:TypeDesc} (h:P.underlying t=some d):dv P (underlying t)=some d:=by
 simp [underlying,program,Bind.bind,Sem.bind,dv,h,Pure.pure]
theorem Yj {t:TypeId} {i:TypeInfo} (h:P.info? t=some i):dv P (typeInfo t)=some i:=by
 simp [typeInfo,program,Bind.bind,Sem.bind,dv,h,Pure.pure]
theorem cB {α:Type} (a:α):dv P (pure a)=some a:=rfl
theorem Qm {t:TypeId} {i:TypeInfo} (h:P.info? t=some i):dv P (sizeOf t)=some i.size:=by
 unfold sizeOf;rw [fv (Yj h)];rfl
theorem aeO {n:Nat} {t:TypeId} {L:yR} (h:lay P n t=some L):∃ d,P.underlying t=some d/\L.agg=adG d/\(L.agg=false->L.ks.length=1):=by
 cases n with
 | zero=>simp [lay] at h
 | succ n=>
  simp only [lay] at h;split at h <;> rename_i hu
  ·simp at h; subst h; exact ⟨_,hu,rfl,fun _=>rfl⟩
  ·simp at h; subst h; exact ⟨_,hu,rfl,fun _=>rfl⟩
  ·simp at h; subst h; exact ⟨_,hu,rfl,fun _=>rfl⟩
  ·simp at h; subst h; exact ⟨_,hu,rfl,fun _=>rfl⟩
  ·obtain ⟨ks,_,rfl⟩:=cR.1 h; exact ⟨_,hu,rfl,fun h=>by simp at h⟩
  ·obtain ⟨ks,_,rfl⟩:=cR.1 h; exact ⟨_,hu,rfl,fun h=>by simp at h⟩
  ·rename_i d h1 h2 h3 h4 h5 h6
   simp at h; subst h;refine ⟨_,hu,?_,fun _=>rfl⟩;cases d <;> first | rfl | simp_all
  ·simp at h
def C5 (agg:Bool) (l:List Value):Value:=cond agg (.agg ⟨l⟩) (l.headD undef)
theorem U5 {n:Nat} {t:TypeId} {L:yR} {i:TypeInfo} {cs:Array Value} {off:Nat} (h:lay P n t=some L) (hi:P.info? t=some i) (hs:i.size=L.ks.length) (hl:off+L.ks.length<=cs.size) :
  dv P (part t cs off)=some (C5 L.agg ((cs.toList.drop off).take L.ks.length)):=by
 obtain ⟨d,hu,ha,h1⟩:=aeO h;have atj:dv P (isAgg t)=some (adG d):=by
  unfold isAgg;rw [fv (zN hu)];cases d <;> rfl
 unfold part;rw [fv atj];cases hd:adG d with
 | true=>
  rw [hd] at ha;simp only [if_true];rw [fv (Qm hi)];simp only [cB,ha,C5,aj,hs];congr 2;apply Array.ext';simp
 | false=>
  rw [hd] at ha;have h1:=h1 ha;have a8:off < cs.size:=by omega
  simp only [yI,if_false];rw [Array.getElem?_eq_getElem a8];simp only [cB,ha,C5,aq,h1];congr 1;have:cs.toList.drop off=cs.toList[off]::cs.toList.drop (off+1):=List.drop_eq_getElem_cons (by simpa using a8);rw [this];simp
theorem Yk:∀ {xs ys:List KV} {b:Bool},vp xs ys=some b->xs.length=ys.length
 | [],[],_,_=>rfl
 | [],_::_,_,h=>by simp [vp] at h
 | _::_,[],_,h=>by simp [vp] at h
 | x::xs,y::ys,b,h=>by
  simp only [vp] at h;split at h
  ·rename_i h2; simp [Yk h2]
  ·simp at h
theorem Cn:∀ (n:Nat) {xs ys:List KV} {b:Bool},vp xs ys=some b->∃ b1 b2,vp (xs.take n) (ys.take n)=some b1/\vp (xs.drop n) (ys.drop n)=some b2/\b=(b1&&b2)
 | 0,xs,ys,b,h=>⟨true,b,by simp [vp],by simpa using h,by simp⟩
 | n+1,[],[],b,h=>by simp [vp] at h; subst h; exact ⟨true,true,by simp [vp],by simp [vp],rfl⟩
 | n+1,[],_::_,b,h=>by simp [vp] at h
 | n+1,_::_,[],b,h=>by simp [vp] at h
 | n+1,x::xs,y::ys,b,h=>by
  simp only [vp] at h;split at h
  ·rename_i a c h1 h2
   simp at h;obtain ⟨b1,b2,h3,h4,h5⟩:=Cn n h2;refine ⟨a&&b1,b2,by simp [vp,h1,h3],by simpa using h4,?_⟩;rw [<- h,h5,Bool.and_assoc]
  ·simp at h
def Eu (xs ys:List KV) (off n:Nat):Bool:=(vp ((xs.drop off).take n) ((ys.drop off).take n)).getD false
theorem ahz {xs ys:List KV} {b:Bool} (h:vp xs ys=some b) (off n:Nat):vp ((xs.drop off).take n) ((ys.drop off).take n)=some (Eu xs ys off n):=by
 obtain ⟨_,_,_,h2,_⟩:=Cn off h;obtain ⟨b1,_,h3,_,_⟩:=Cn n h2;unfold Eu;rw [h3]; rfl
theorem wo:∀ {a b:List CK} {xs:List KV},aI (a++b) xs=true->aI a (xs.take a.length)=true/\aI b (xs.drop a.length)=true
 | [],b,xs,h=>by simpa [aI] using h
 | c::a,b,[],h=>by simp [aI] at h
 | c::a,b,x::xs,h=>by
  simp only [List.cons_append,aI,aD] at h;obtain ⟨h1,h2⟩:=wo h.2;simp [aI,h.1,h1,h2]
theorem sV:∀ {a:List CK} {xs:List KV},aI a xs=true->xs.length=a.length
 | [],[],_=>rfl
 | [],_::_,h=>by simp [aI] at h
 | _::_,[],h=>by simp [aI] at h
 | c::a,x::xs,h=>by
  simp only [aI,aD] at h;simp [sV h.2]
theorem aeP {lf:TypeId->Option yR} {xs ys:List KV} {b:Bool} (he:vp xs ys=some b):∀ {fs:List Field} {off:Nat} {ks:List CK},Rs lf fs off=some ks->aI ks (xs.drop off)=true->aI ks (ys.drop off)=true->off+ks.length=xs.length->
  (∀ f∈fs,∃ L,lf f.type=some L/\f.offset+L.ks.length<=xs.length/\aI L.ks ((xs.drop f.offset).take L.ks.length)=true/\aI L.ks ((ys.drop f.offset).take L.ks.length)=true)/\
  vp (xs.drop off) (ys.drop off)=some (fs.all fun f=>Eu xs ys f.offset (((lf f.type).map (·.ks.length)).getD 0))
 | [],off,ks,h,_,_,hl=>by
  simp [Rs] at h;subst h;have h1:xs.drop off = []:=by simp at hl; simp; omega
  have h2:ys.drop off = []:=by have:=Yk he; simp at hl; simp; omega
  refine ⟨by simp,?_⟩;rw [h1,h2]; rfl
 | f::fs,off,ks,h,hk,yO,hl=>by
  simp only [Rs] at h;obtain ⟨Ql,h⟩:=O4 h;have Ql:=bh Ql;obtain ⟨L,h1,h⟩:=c9.1 h;obtain ⟨r,h2,rfl⟩:=cR.1 h;obtain ⟨k1,k2⟩:=wo hk;obtain ⟨k1',k2'⟩:=wo yO;rw [List.drop_drop] at k2 k2';simp only [ko] at hl;obtain ⟨h3,h4⟩:=aeP he h2 k2 k2' (by omega);refine ⟨fun g hg=>?_,?_⟩
  ·rcases eL.1 hg with rfl | hg
   ·exact ⟨L,h1,by omega,by rw [Ql]; exact k1,by rw [Ql]; exact k1'⟩
   ·exact h3 g hg
  ·obtain ⟨_,_,_,h5,_⟩:=Cn off he
   obtain ⟨c1,c2,h6,h7,h8⟩:=Cn L.ks.length h5;rw [List.drop_drop,List.drop_drop] at h7;rw [h4] at h7;simp at h7;have h9:=ahz he off L.ks.length;rw [h6] at h9;simp at h9;rw [h5,h8];simp only [List.all_cons,h1,Option.map_some,bG,Ql,<- h9];rw [<- h7]
theorem GD {α:Type} (l:List α):∀ n,(eA l n).length=n * l.length
 | 0=>by simp [eA]
 | n+1=>by rw [eA,ko,GD l n,Nat.succ_mul]; omega
theorem aeQ {xs ys:List KV} {l:List CK} : ∀ {len off:Nat} {b:Bool},vp (xs.drop off) (ys.drop off)=some b->aI (eA l len) (xs.drop off)=true->aI (eA l len) (ys.drop off)=true->
  (∀ i,i < len->aI l ((xs.drop (off+i * l.length)).take l.length)=true/\aI l ((ys.drop (off+i * l.length)).take l.length)=true)/\
  vp (xs.drop off) (ys.drop off)=some ((List.range' 0 len).all fun i=>Eu xs ys (off+i * l.length) l.length)
 | 0,off,b,h,hk,yO=>by
  have h1:xs.drop off = []:=by have:=sV hk; simp only [eA,List.length_nil] at this; exact lL.1 this
  have h2:ys.drop off = []:=by have:=sV yO; simp only [eA,List.length_nil] at this; exact lL.1 this
  refine ⟨fun i hi=>by omega,?_⟩;rw [h1,h2]; rfl
 | len+1,off,b,h,hk,yO=>by
  obtain ⟨c1,c2,h1,h2,h3⟩:=Cn l.length h;rw [List.drop_drop,List.drop_drop] at h2;obtain ⟨k1,k2⟩:=wo (a:=l) (b:=eA l len) hk;obtain ⟨k1',k2'⟩:=wo (a:=l) (b:=eA l len) yO;rw [List.drop_drop] at k2 k2';obtain ⟨h5,h4⟩:=aeQ (len:=len) (off:=off+l.length) h2 k2 k2';refine ⟨fun i hi=>?_,?_⟩
  ·cases i with
   | zero=>simpa using ⟨k1,k1'⟩
   | succ i=>
    have:=h5 i (by omega);rwa [show off+l.length+i * l.length=off+(i+1) * l.length by rw [Nat.succ_mul]; omega] at this
  rw [h2] at h4;simp at h4;have hw:Eu xs ys off l.length=c1:=by unfold Eu; rw [h1]; rfl
  rw [h,h3];rw [List.range'_succ];simp only [List.all_cons,Nat.zero_mul,yH,hw,bd];congr 2;rw [h4];have:List.range' 1 len=(List.range' 0 len).map (1 + ·):=by rw [List.map_add_range']
  rw [this,List.all_map];apply congrArg (fun f=>List.all (List.range' 0 len) f);funext i;simp only [Function.comp];congr 1;rw [Nat.add_mul]; omega
theorem akc:∀ (n d:Nat) (t:TypeId) (L:yR) (cx cy:List KV) (xs ys:List Value) (b:Bool),Hx P n t=true->lay P n t=some L->n<=d->bm P E cx xs->bm P E cy ys->aI L.ks cx=true->aI L.ks cy=true->
  vp cx cy=some b->dv P (Op.equalIn d t (C5 L.agg xs) (C5 L.agg ys))=some b
 | 0,_,_,_,_,_,_,_,_,h,_,_,_,_,_,_,_=>by simp [Hx] at h
 | n+1,0,_,_,_,_,_,_,_,_,_,h,_,_,_,_,_=>by omega
 | n+1,d+1,t,L,cx,cy,xs,ys,b,h,hL,hd,hx,hy,hkx,hky,he=>by
  have hl:=sV hkx;have hly:=sV hky;have hlx' : xs.length=L.ks.length:=by rw [hx.length,hl]
  have hly' : ys.length=L.ks.length:=by rw [hy.length,hly]
  have ans:∀ s,Hx P n s=true->∃ i l,P.info? s=some i/\lay P n s=some l/\i.size=l.ks.length:=by
   intro s hs;cases n with
   | zero=>simp [Hx] at hs
   | succ n=>
    simp only [Hx,aD] at hs;have h1:=hs.1;split at h1
    ·rename_i i l e1 e2
     exact ⟨i,l,e1,e2,bh h1⟩
    ·simp at h1
  have arU:∀ (s:TypeId) (l:yR) (i:TypeInfo) (off:Nat),Hx P n s=true->lay P n s=some l->P.info? s=some i->i.size=l.ks.length->off+l.ks.length<=cx.length->
    aI l.ks ((cx.drop off).take l.ks.length)=true->aI l.ks ((cy.drop off).take l.ks.length)=true->
    (do
     let u <- part s ⟨xs⟩ off
     let v <- part s ⟨ys⟩ off
     Op.equalIn d s u v:Sem Bool)=(do
     let u <- part s ⟨xs⟩ off
     let v <- part s ⟨ys⟩ off
     Op.equalIn d s u v)/\dv P (part s ⟨xs⟩ off)=some (C5 l.agg ((xs.drop off).take l.ks.length))/\dv P (part s ⟨ys⟩ off)=some (C5 l.agg ((ys.drop off).take l.ks.length))/\
    dv P (Op.equalIn d s (C5 l.agg ((xs.drop off).take l.ks.length)) (C5 l.agg ((ys.drop off).take l.ks.length)))=some (Eu cx cy off l.ks.length):=by
   intro s l i off h1 h2 h3 h4 h5 h6 h7;refine ⟨rfl,?_,?_,?_⟩
   ·exact U5 h2 h3 h4 (by simp; omega)
   ·exact U5 h2 h3 h4 (by simp; omega)
   ·exact akc n d s l _ _ _ _ _ h1 h2 (by omega) ((hx.drop off).take _) ((hy.drop off).take _) h6 h7 (ahz he off _)
  simp only [Hx,aD] at h;have h2:=h.2;obtain ⟨dd,hu,ha,h1⟩:=aeO hL;rw [hu] at h2;unfold Op.equalIn;rw [fv (zN hu)];simp only [lay,hu] at hL;have Yl:∀ c,L.ks = [c]->∃ x y u v,cx = [x]/\cy = [y]/\xs = [u]/\ys = [v]/\VK P E x u/\VK P E y v/\eqK x y=some b/\kindOk c x=true/\kindOk c y=true:=by
   intro c hc;rw [hc] at hl hly hkx hky
   match cx,cy,hl,hly with
   | [x],[y],_,_=>
    obtain ⟨u,rfl,h2⟩:=hx.fk;obtain ⟨v,rfl,h3⟩:=hy.fk;refine ⟨x,y,u,v,rfl,rfl,rfl,rfl,h2,h3,?_,by simpa [aI] using hkx,by simpa [aI] using hky⟩;simp only [vp] at he;split at he
    ·rename_i a c h4 h5
     simp at h5;subst h5;simpa [h4] using he
    ·simp at he
  cases dd with
  | int k=>
   simp at hL;subst hL;obtain ⟨x,y,u,v,rfl,rfl,rfl,rfl,h3,h4,h5,h6,h7⟩:=Yl _ rfl;cases x <;> simp [kindOk] at h6;cases y <;> simp [kindOk] at h7;subst h6 h7;have:=h3.dx; subst this;have:=h4.dx; subst this;simp [eqK] at h5;subst h5;simp [C5,cB]
  | bool=>
   simp at hL;subst hL;obtain ⟨x,y,u,v,rfl,rfl,rfl,rfl,h3,h4,h5,h6,h7⟩:=Yl _ rfl;cases x <;> simp [kindOk] at h6;cases y <;> simp [kindOk] at h7;have:=h3.gh; subst this;have:=h4.gh; subst this;simp [eqK] at h5;subst h5;simp [C5,cB]
  | string=>
   simp at hL;subst hL;obtain ⟨x,y,u,v,rfl,rfl,rfl,rfl,h3,h4,h5,h6,h7⟩:=Yl _ rfl;cases x <;> simp [kindOk] at h6;cases y <;> simp [kindOk] at h7;have:=h3.uB; subst this;have:=h4.uB; subst this;simp [eqK] at h5;subst h5;simp [C5,cB]
  | struct fs=>
   simp only [cR] at hL;obtain ⟨ks,uw,rfl⟩:=hL;simp only [aD,nw] at h2;obtain ⟨h3,h4⟩:=aeP he uw (by simpa using hkx) (by simpa using hky) (by simpa using hl.symm);simp only [List.drop_zero] at h4;rw [he] at h4;simp only [db] at h4;simp only [C5,aj];rw [fv (a:=P) (by simp [program,dv])];simp only [h2.1,yI,if_false];rw [<- Array.forIn_toList];rw [fv (I1 (g:=fun f=>Eu cx cy f.offset (((lay P n f.type).map (·.ks.length)).getD 0)) (stop:=(some false,())) fun f hf=>?_)]
   ·rw [h4]
    cases (fs.toList.all fun f=>Eu cx cy f.offset (((lay P n f.type).map (·.ks.length)).getD 0)) <;> rfl
   ·have h5:=gx.1 h2.2 f hf
    simp only [aD,nw,beq_eq_false_iff_ne] at h5;rw [aR h5.1];obtain ⟨l,h6,h7,h8,h9⟩:=h3 f hf;obtain ⟨i,l',e1,e2,e3⟩:=ans _ h5.2;rw [h6] at e2;simp at e2;subst e2;obtain ⟨_,w1,w2,w3⟩:=arU _ l i f.offset h5.2 h6 e1 e3 h7 h8 h9;rw [fv w1,fv w2,fv w3];simp only [h6,Option.map_some,bG];cases Eu cx cy f.offset l.ks.length <;> rfl
  | array len e=>
   simp only [cR] at hL;obtain ⟨l,QZ,rfl⟩:=hL;obtain ⟨h3,h4⟩:=aeQ (xs:=cx) (ys:=cy) (l:=l.ks) (len:=len) (off:=0) (by simpa using he) (by simpa using hkx) (by simpa using hky);simp only [List.drop_zero,bd] at h3 h4;rw [he] at h4;simp only [db] at h4;obtain ⟨i,l',e1,e2,e3⟩:=ans _ h2;rw [QZ] at e2;simp at e2;subst e2;simp only [C5,aj];rw [fv (Qm e1)];rw [Std.Legacy.Range.forIn_eq_forIn_range'];rw [show List.range' [:len].start [:len].size [:len].step=List.range' 0 len from by simp [Std.Legacy.Range.size]];rw [fv (I1 (g:=fun i=>Eu cx cy (i * l.ks.length) l.ks.length) (stop:=(some false,())) fun j hj=>?_)]
   ·rw [h4]
    cases ((List.range' 0 len).all fun i=>Eu cx cy (i * l.ks.length) l.ks.length) <;> rfl
   ·have jc:j < len:=by simpa using hj
    obtain ⟨k1,k2⟩:=h3 j jc;have hle:j * l.ks.length+l.ks.length<=cx.length:=by
     rw [hl];simp only [GD];rw [<- Nat.succ_mul];exact Nat.mul_le_mul_right _ jc
    obtain ⟨_,w1,w2,w3⟩:=arU _ l i (j * l.ks.length) h2 QZ e1 e3 hle k1 k2;rw [e3];rw [fv w1,fv w2,fv w3];cases Eu cx cy (j * l.ks.length) l.ks.length <;> rfl
  | _=>simp at h2
theorem RC:∀ {ks:List CK} {cs:List KV} {l:List Value},aI ks cs=true->bm P E cs l->(∀ t,CK.slice t ∉ ks)->xP l=true
 | [],[],l,_,h,_=>by rw [h.cl]; rfl
 | [],_::_,_,h,_,_=>by simp [aI] at h
 | _::_,[],_,h,_,_=>by simp [aI] at h
 | c::ks,v::cs,l,h,hv,hn=>by
  obtain ⟨y,ys,rfl,h1,h2⟩:=hv.cons_inv;simp only [aI,aD] at h;have:=RC h.2 h2 (fun t ht=>hn t (by simp [ht]));simp only [xP,this,Bool.and_true];cases c with
  | int k=>cases v <;> simp [kindOk] at h; have:=h1.dx; subst this; rfl
  | bool=>cases v <;> simp [kindOk] at h; have:=h1.gh; subst this; rfl
  | str=>cases v <;> simp [kindOk] at h; have:=h1.uB; subst this; rfl
  | slice t=>exact absurd (by simp) (hn t)
  | other=>cases v <;> simp [kindOk] at h
theorem RD:∀ (n:Nat) (t:TypeId) (L:yR),Hx P n t=true->lay P n t=some L->∀ u,CK.slice u ∉ L.ks
 | 0,_,_,h,_,_=>by simp [Hx] at h
 | n+1,t,L,h,hL,u=>by
  simp only [Hx,aD] at h;have h2:=h.2;obtain ⟨dd,hu,_,_⟩:=aeO hL;rw [hu] at h2;simp only [lay,hu] at hL;cases dd with
  | int k=>simp at hL; subst hL; simp
  | bool=>simp at hL; subst hL; simp
  | string=>simp at hL; subst hL; simp
  | struct fs=>
   simp only [cR] at hL;obtain ⟨ks,uw,rfl⟩:=hL;simp only [aD,gx] at h2;have key:∀ (l:List Field) (off:Nat) (ks:List CK),Rs (lay P n) l off=some ks->(∀ f∈l,Hx P n f.type=true)->CK.slice u ∉ ks:=by
    intro l
    induction l with
    | nil=>intro off ks h _; simp [Rs] at h; subst h; simp
    | cons f l ih=>
     intro off ks h hf;simp only [Rs] at h;obtain ⟨_,h⟩:=O4 h;obtain ⟨L',h5,h⟩:=c9.1 h;obtain ⟨r,h6,rfl⟩:=cR.1 h;rw [oM];rintro (h7 | h7)
     ·exact RD n _ _ (hf f (by simp)) h5 u h7
     ·exact ih _ _ h6 (fun g hg=>hf g (by simp [hg])) h7
   exact key _ _ _ uw fun f hf=>(h2.2 f hf).2
  | array len e=>
   simp only [cR] at hL;obtain ⟨l,QZ,rfl⟩:=hL;have:=RD n e l h2 QZ u;have key:∀ m,CK.slice u ∉ eA l.ks m:=by
    intro m
    induction m with
    | zero=>simp [eA]
    | succ m ih=>simp only [eA,oM,not_or]; exact ⟨this,ih⟩
   exact key _
  | _=>simp at h2
theorem amk {t:TypeId} (h:Hx P 12 t=true):lay P 12 t=some (bu P t):=by
 simp only [Hx,aD] at h;have h1:=h.1;unfold bu;split at h1
 ·rename_i i l e1 e2; rw [e2]; rfl
 ·simp at h1
theorem akd {t:TypeId} {x y:KV} {b:Bool} {lit:Bool} {u v:Value} (hx:VK P E x u) (hy:VK P E y v) (h:aps P t x y=some b):te P t lit u v=some b:=by
 unfold aps at h;split at h
 ·rename_i xs ys
  obtain ⟨hc,h⟩:=O4 h;simp only [aD,nw] at hc;obtain ⟨⟨⟨⟨ha,h1⟩,h2⟩,h3⟩,h4⟩:=hc;obtain ⟨l,rfl,hl⟩:=hx.nM;obtain ⟨m,rfl,hm⟩:=hy.nM;have hL:=amk h1;have hns:=RD 12 t _ h1 hL;have hfx:flat (.agg ⟨l⟩)=true:=RC h3 hl hns;have hfy:flat (.agg ⟨m⟩)=true:=RC h4 hm hns;have hs:=akc 12 Op.maxDepth t (bu P t) xs ys l m b h1 hL (by unfold Op.maxDepth; omega) hl hm h3 h4 h;rw [ha] at hs;have hs:dv P (Op.equal t (.agg ⟨l⟩) (.agg ⟨m⟩))=some b:=hs;unfold te;simp only [kX,AP,h2,yJ,bI,aj];unfold eqV;split <;> simp_all
 ·rename_i a c
  split at h
  ·rename_i hu
   simp at h;subst h;have:=hx.gh; subst this;have:=hy.gh; subst this;have:dv P (Op.equal t (.bool a) (.bool c))=some (a==c):=by
    unfold Op.equal Op.maxDepth Op.equalIn;rw [fv (zN hu)];rfl
   unfold te;simp only [kX,AP,bI,aj];unfold eqV;split <;> simp_all [flat]
  ·simp at h
 ·split at h
  ·rename_i e hu
   simp at h;subst h;have:=hx.qu; subst this;have:=hy.qu; subst this;simp [te,kX,AP,eqV,hu]
  ·simp at h
 ·rename_i T m n es acc
  split at h
  ·rename_i e hu
   cases hn:Nat.beq n 0 with
   | true=>rw [hn] at h; simp at h
   | false=>
    rw [hn] at h;simp at h;subst h;have:=hy.qu; subst this;obtain ⟨_,bx,_,a,cap,rfl,_,hb,_⟩:=hx.ny;rcases hb with ⟨_,h0⟩ | ⟨b,off,r,rfl,_⟩
    ·subst h0; simp at hn
    ·simp [te,kX,AP,eqV,hu]
  ·simp at h
 ·rename_i T m n es acc
  split at h
  ·rename_i e hu
   cases hn:Nat.beq n 0 with
   | true=>rw [hn] at h; simp at h
   | false=>
    rw [hn] at h;simp at h;subst h;have:=hx.qu; subst this;obtain ⟨_,bx,_,a,cap,rfl,_,hb,_⟩:=hy.ny;rcases hb with ⟨_,h0⟩ | ⟨b,off,r,rfl,_⟩
    ·subst h0; simp at hn
    ·simp [te,kX,AP,eqV,hu]
  ·simp at h
 ·split at h
  ·rename_i e hu
   simp at h;subst h;have:=hx.TN; subst this;have:=hy.TN; subst this;simp [te,kX,AP,eqV,hu]
  ·simp at h
 ·split at h
  ·rename_i e hu
   simp at h;subst h;have:=hy.TN; subst this;obtain ⟨x,_,rfl⟩:=hx.jb;simp [te,kX,AP,eqV,hu]
  ·simp at h
 ·split at h
  ·rename_i e hu
   simp at h;subst h;have:=hx.TN; subst this;obtain ⟨x,_,rfl⟩:=hy.jb;simp [te,kX,AP,eqV,hu]
  ·simp at h
 ·simp at h
theorem ari {op:BinOp} {t:TypeId} {lit:Bool} : x4 P (apt P op t) (uk P op t lit):=by
 intro E vs us w h hg;unfold apt at hg;split at hg
 ·rename_i j a k b
  obtain ⟨x,y,rfl,h1,h2⟩:=h.mo;have:=h1.dx; subst this;have:=h2.dx; subst this;cases hs:ajX op with
  | true=>
   rw [hs,aj] at hg;cases op <;> simp [ajX] at hs
   ·obtain ⟨hc,rfl⟩:=a9.lB hg
    simp only [nw,decide_eq_false_iff_not] at hc;exact ⟨_,by simp [uk,binOp,Op.shift,hc,cB],.mkInt⟩
   ·obtain ⟨hc,rfl⟩:=a9.lB hg
    simp only [nw,decide_eq_false_iff_not] at hc;exact ⟨_,by simp [uk,binOp,Op.shift,hc,cB],.mkInt⟩
  | false=>
   rw [hs,aq] at hg;obtain ⟨hjk,hz⟩:=hg.cond;clear hg;simp only [kV] at hjk;subst hjk;cases op with
   | shl=>simp [ajX] at hs
   | shr=>simp [ajX] at hs
   | quo=>
    obtain ⟨hc,rfl⟩:=a9.lB hz;simp only [nw,decide_eq_false_iff_not] at hc;exact ⟨_,by simp [uk,binOp,Op.intDiv,hc,cB],.mkInt⟩
   | rem=>
    obtain ⟨hc,rfl⟩:=a9.lB hz;simp only [nw,decide_eq_false_iff_not] at hc;exact ⟨_,by simp [uk,binOp,Op.intDiv,hc,cB],.mkInt⟩
   | add=>have hz:KV.int _ _=w:=hz; subst hz; exact ⟨_,by simp [uk,binOp,Op.intArith,cB],.mkInt⟩
   | sub=>have hz:KV.int _ _=w:=hz; subst hz; exact ⟨_,by simp [uk,binOp,Op.intArith,cB],.mkInt⟩
   | mul=>have hz:KV.int _ _=w:=hz; subst hz; exact ⟨_,by simp [uk,binOp,Op.intArith,cB],.mkInt⟩
   | and=>have hz:KV.int _ _=w:=hz; subst hz; exact ⟨_,by simp [uk,binOp,Op.intBits,cB],.mkInt⟩
   | or=>have hz:KV.int _ _=w:=hz; subst hz; exact ⟨_,by simp [uk,binOp,Op.intBits,cB],.mkInt⟩
   | xor=>have hz:KV.int _ _=w:=hz; subst hz; exact ⟨_,by simp [uk,binOp,Op.intBits,cB],.mkInt⟩
   | andNot=>have hz:KV.int _ _=w:=hz; subst hz; exact ⟨_,by simp [uk,binOp,Op.intBits,cB],.mkInt⟩
   | eql=>have hz:KV.bool _=w:=hz; subst hz; exact ⟨_,by simp [uk,binOp,Op.intCmp,cB],.vI⟩
   | neq=>have hz:KV.bool _=w:=hz; subst hz; exact ⟨_,by simp [uk,binOp,Op.intCmp,cB],.vI⟩
   | lss=>have hz:KV.bool _=w:=hz; subst hz; exact ⟨_,by simp [uk,binOp,Op.intCmp,cB],.vI⟩
   | leq=>have hz:KV.bool _=w:=hz; subst hz; exact ⟨_,by simp [uk,binOp,Op.intCmp,cB],.vI⟩
   | gtr=>have hz:KV.bool _=w:=hz; subst hz; exact ⟨_,by simp [uk,binOp,Op.intCmp,cB],.vI⟩
   | geq=>have hz:KV.bool _=w:=hz; subst hz; exact ⟨_,by simp [uk,binOp,Op.intCmp,cB],.vI⟩
 ·rename_i a b
  obtain ⟨x,y,rfl,h1,h2⟩:=h.mo;have:=h1.uB; subst this;have:=h2.uB; subst this;split at hg
  ·have hg:KV.bool _=w:=hg; subst hg; exact ⟨_,by simp [uk,binOp,Op.stringOp,cB],.vI⟩
  ·have hg:KV.bool _=w:=hg; subst hg; exact ⟨_,by simp [uk,binOp,Op.stringOp,cB],.vI⟩
  ·have hg:KV.bool _=w:=hg; subst hg; exact ⟨_,by simp [uk,binOp,Op.stringOp,cB],.vI⟩
  ·obtain ⟨hc,rfl⟩:=a9.lB hg
   have hc:=fH hc;have hn : ¬ (((a.size+b.size:Nat):Int) > IntKind.i64.max):=by
    have:IntKind.i64.max=9223372036854775807:=by decide
    rw [this]; omega
   refine ⟨.string (a++b),?_,.mkStr⟩;simp only [uk,binOp,Op.stringOp];rw [ay hn];rfl
  ·exact hg.elim
 ·rename_i x y hn1 hn2
  obtain ⟨u,v,rfl,h1,h2⟩:=h.mo;split at hg
  ·rename_i b he
   have hg:KV.bool b=w:=hg;subst hg;have:=akd (lit:=lit) h1 h2 he;refine ⟨.bool b,?_,.vI⟩;unfold uk;split
   ·rename_i e; simp at e; obtain ⟨rfl,rfl⟩:=e; simp [te,kX] at this
   ·rename_i e; simp at e; obtain ⟨rfl,rfl⟩:=e; simp [te,kX] at this
   ·rename_i e; simp at e; obtain ⟨rfl,rfl⟩:=e; simp [this]
   ·rename_i e; exact absurd rfl (e _ _)
  ·rename_i b he
   have hg:KV.bool (!b)=w:=hg;subst hg;have:=akd (lit:=lit) h1 h2 he;refine ⟨.bool !b,?_,.vI⟩;unfold uk;split
   ·rename_i e; simp at e; obtain ⟨rfl,rfl⟩:=e; simp [te,kX] at this
   ·rename_i e; simp at e; obtain ⟨rfl,rfl⟩:=e; simp [te,kX] at this
   ·rename_i e; simp at e; obtain ⟨rfl,rfl⟩:=e; simp [this]
   ·rename_i e; exact absurd rfl (e _ _)
  ·exact hg.elim
 ·exact hg.elim
theorem asx {op:UnOp} : x4 P (kUn op) (fUn P op):=by
 intro E vs us w h hg;unfold kUn at hg;split at hg
 ·rename_i b
  obtain ⟨y,rfl,h1⟩:=h.fk;have:=h1.gh; subst this;split at hg
  ·have hg:KV.bool (!b)=w:=hg
   subst hg;exact ⟨_,by simp [fUn,Op.unary,cB],.vI⟩
  ·exact hg.elim
 ·rename_i k n
  obtain ⟨y,rfl,h1⟩:=h.fk;have:=h1.dx; subst this;split at hg
  ·have hg:KV.int _ _=w:=hg
   subst hg;exact ⟨.int k (k.wrap (0 - n)),by simp [fUn,Op.unary,Op.intArith,cB],.mkInt⟩
  ·have hg:KV.int _ _=w:=hg
   subst hg;exact ⟨_,by simp [fUn,Op.unary,Op.intBits,cB],.mkInt⟩
  ·exact hg.elim
 ·exact hg.elim
theorem aeR {mx:Bool} : x4 P (M4 mx) (OC P fun vs=>cond mx (Builtin.max_ #[] 0 ⟨vs⟩) (Builtin.min_ #[] 0 ⟨vs⟩)):=by
 intro E vs us w h hg;unfold M4 at hg;split at hg
 ·rename_i j a k b
  obtain ⟨x,y,rfl,h1,h2⟩:=h.mo;have:=h1.dx; subst this;have:=h2.dx; subst this;obtain ⟨hjk,hz⟩:=hg.cond;clear hg;simp only [kV] at hjk;subst hjk;have hz:KV.int _ _=w:=hz;subst hz;refine ⟨_,?_,.mkInt⟩;cases mx
  ·simp [OC,xP,flat,Builtin.min_,Builtin.min2,cB]
   omega
  ·simp [OC,xP,flat,Builtin.max_,Builtin.max2,cB]
   omega
 ·rename_i j a k b l c
  obtain ⟨x,y,z,rfl,h1,h2,h3⟩:=h.Wh;have:=h1.dx; subst this;have:=h2.dx; subst this;have:=h3.dx; subst this;obtain ⟨hjk,hz⟩:=hg.cond;clear hg;simp only [aD,kV] at hjk;obtain ⟨rfl,rfl⟩:=hjk;have hz:KV.int _ _=w:=hz;subst hz;refine ⟨_,?_,.mkInt⟩;cases mx
  ·show some (Value.int j (if c < (if b < a then b else a) then c else (if b < a then b else a)))=some (Value.int j (min (min a b) c))
   congr 2;split <;> split at * <;> omega
  ·show some (Value.int j (if c > (if b > a then b else a) then c else (if b > a then b else a)))=some (Value.int j (max (max a b) c))
   congr 2;split <;> split at * <;> omega
 ·exact hg.elim
end Go.K
end
section
namespace Go.K
open Go Go.aB
variable {P:Program} {E:Env}
theorem AR.of {E' : Env} {A A' : aC} {x:Nat} (tj:∀ b,E'.α b=E.α b) (ha:∀ b v,A'.get b=some (.arr v)->A.get b=some (.arr v)) (h:AR A' E' x):AR A E x:=by
 obtain ⟨b,v,L,N,h1,h2⟩:=h;exact ⟨b,v,L,N,ha _ _ h1,by rw [<- tj]; exact h2⟩
theorem AF.of {E' : Env} {A A' : aC} {B B' : St} {g:Nat} (tj:∀ b,E'.α b=E.α b) (ha:∀ b v,A'.get b=some (.arr v)->A.get b=some (.arr v)) (hB:∀ x,AR A E x->B'.get x=B.get x) (h:AF A' E' B' g):AF A E B g:=by
 obtain ⟨b,v,x,L,N,cs,e,own,k,h1,h2,h3⟩:=h;have IM:E.α b=some (x,L,N):=by rw [<- tj]; exact h2
 exact ⟨b,v,x,L,N,cs,e,own,k,ha _ _ h1,IM,by rw [<- hB x ⟨b,v,L,N,ha _ _ h1,IM⟩]; exact h3⟩
theorem AT.of {E' : Env} {A A' : aC} {B B' : St} {y:Nat} (tj:∀ b,E'.α b=E.α b) (ha:∀ b v,A'.get b=some (.arr v)->A.get b=some (.arr v)) (hB:∀ x,AR A E x->B'.get x=B.get x) (hm:∀ g,AF A E B g->B'.members g=B.members g) (h:AT A' E' B' y):AT A E B y:=by
 rcases h with h | ⟨g,h1,h2⟩
 ·exact .inl (h.of tj ha)
 ·have:=h1.of tj ha hB
  exact .inr ⟨g,this,by rw [<- hm g this]; exact h2⟩
theorem nT {B B' : St} (h:∀ x,x < B.next->B'.get x=B.get x):∀ y,y < B.next->∀ cs e own cc,B'.get y=some (.row cs e own cc)->∃ nK,B.get y=some (.row nK e own cc)/\nK.length=cs.length:=
 fun y hy cs _ _ _ q=>⟨cs,by rw [<- h y hy]; exact q,rfl⟩
theorem aeS {B:St} {o:dc} : ∀ x,x < B.next->(B.new o).get x=B.get x:=fun x hx=>by rw [St.dw,ay (by omega)]
theorem O3.nD {E' : Env} {A A' : aC} {B B' : St} (h:O3 P E A B) (hle:E.le E') (tj:∀ b,E'.α b=E.α b) (ha:∀ b v,A'.get b=some (.arr v)->A.get b=some (.arr v)) (hf:∀ b v,A'.get b=some (.jQ v)->A.get b=some (.jQ v))
  (hn:A.next<=A'.next) (Ro:B.next<=B'.next) (hB:∀ x,AR A E x->B'.get x=B.get x) (hz:∀ b r,E'.z b=some r->E.z b=some r\/B.next<=b) (Ke:∀ b x,E'.κ b=some x->E.κ b=some x\/(A.next<=b/\B.next<=x))
  (Kf:∀ b g,E'.φ b=some g->(∃ c,E.φ c=some g)\/B.next<=g) (hm:∀ g,AF A E B g->B'.members g=B.members g) (mem:∀ g x,x∈B.members g->x < B.next):O3 P E' A' B' where
 arr b v hb:=(h.arr b v (ha _ _ hb)).mono hle (tj b) fun x L N e=>hB x ⟨b,v,L,N,ha _ _ hb,e⟩
 jQ b v hb:=(h.jQ b v (hf _ _ hb)).mono hle (tj b)
 z x hx:=by
  have Ym:=AR.of tj ha hx;obtain ⟨b,v,L,N,h1,h2⟩:=Ym;have a8:=h.gX _ _ _ _ h2;obtain ⟨h3,h4⟩:=h.z x (AR.of tj ha hx);refine ⟨?_,fun c e=>?_⟩
  ·cases hz' : E'.z x with
   | none=>rfl
   | some r=>
    rcases hz x r hz' with e | e
    ·rw [h3] at e; simp at e
    ·omega
  ·rcases Ke c x e with e | ⟨_,e⟩
   ·exact h4 c e
   ·omega
 inj b c v u x L N L' N' h1 h2 h3 h4:=h.inj b c v u x L N L' N' (ha _ _ h1) (ha _ _ h2) (by rw [<- tj]; exact h3) (by rw [<- tj]; exact h4)
 xi b c v u x y L N L' N' cs e own g k cd e' rU k' h1 h2 h3 h4 h5 h6:=by
  rw [tj] at h3 h4;rw [hB x ⟨b,v,L,N,ha _ _ h1,h3⟩] at h5;rw [hB y ⟨c,u,L',N',ha _ _ h2,h4⟩] at h6;exact h.xi b c v u x y L N L' N' cs e own g k cd e' rU k' (ha _ _ h1) (ha _ _ h2) h3 h4 h5 h6
 dis b x e:=by
  rw [tj];rcases Ke b x e with e | ⟨e,_⟩
  ·exact h.dis b x e
  ·cases hb:E.α b with
   | none=>rfl
   | some p=>have:=h.mA b p hb; omega
 nk b v hb:=by
  obtain ⟨h1,h2⟩:=h.nk b v (ha _ _ hb);refine ⟨ta h1 hn,?_⟩;cases e:E'.κ b with
  | none=>rfl
  | some x=>
   rcases Ke b x e with e | ⟨e,_⟩
   ·rw [h2] at e; simp at e
   ·omega
 mA b p e:=by rw [tj] at e; have:=h.mA b p e; omega
 gX b x L N e:=by rw [tj] at e; have:=h.gX b x L N e; omega
 vr b v x L N cs e own g k h1 h2 h3:=by
  rw [tj] at h2;have hA:=ha _ _ h1;rw [hB x ⟨b,v,L,N,hA,h2⟩] at h3;obtain ⟨h4,h5,h6⟩:=h.vr b v x L N cs e own g k hA h2 h3;refine ⟨by omega,fun f e=>?_,fun y hy eF=>?_⟩
  ·rcases Kf f g e with ⟨c,e⟩ | e
   ·exact h5 c e
   ·omega
  ·rw [hm g ⟨b,v,x,L,N,cs,_,own,k,hA,h2,h3⟩] at hy
   have a8:=mem g y hy;obtain ⟨h7,h8,h9⟩:=h6 y hy eF;refine ⟨?_,fun q=>h8 (AR.of tj ha q),fun c e=>?_⟩
   ·cases hz' : E'.z y with
    | none=>rfl
    | some r=>
     rcases hz y r hz' with e | e
     ·rw [h7] at e; simp at e
     ·omega
   ·rcases Ke c y e with e | ⟨_,e⟩
    ·exact h9 c e
    ·omega
theorem fK.Kw {A:aC} {B:St} (h:fK P E A B) {x:Nat} (q:AR A E x):x < B.next:=by
 obtain ⟨b,v,L,N,_,h2⟩:=q;exact h.ar.gX _ _ _ _ h2
structure ei (P:Program) (E:Env) (A:aC) (B:St) (E' : Env) (A' : aC) (B' : St):Prop where
 jK:fK P E' A' B'
 le:E.le E'
 next:A.next<=A'.next
 nD:∀ x,x < B.next->(∀ b,E.κ b≠some x)->¬ AT A E B x->B'.get x=B.get x
 new:∀ b x,E'.κ b=some x->E.κ b=some x\/B.next<=x
 wk:∀ b r,E'.z b=some r->E.z b=some r\/AR A E b\/B.next<=b
 wm:∀ b g,E'.φ b=some g->E.φ b=some g\/B.next<=g
 sQ:∀ g,g < B.next->(∀ b,E.φ b≠some g)->¬ AF A E B g->B'.members g=B.members g
 oJ:∀ x,AR A' E' x->AR A E x\/B.next<=x
 oY:∀ g,AF A' E' B' g->AF A E B g\/B.next<=g
 xY:∀ g y,y∈B'.members g->y∈B.members g\/B.next<=y
 qv:∀ y,AT A' E' B' y->AT A E B y\/B.next<=y
 rows:∀ y,y < B.next->∀ cs e own cc,B'.get y=some (.row cs e own cc)->∃ nK,B.get y=some (.row nK e own cc)/\nK.length=cs.length
theorem ei.ev {base:Nat} {E' : Env} {A A' : aC} {B B' : St} {ρ a7:aZ} {w w' : World} (h:ei P E A B E' A' B') (g:nC base ρ B w a7 B' w'):Ev P base E A B ρ w E' A' B' a7 w':=
 ⟨h.jK,g,h.le,h.next,h.nD,h.new,h.wk,fun b g e=>(h.wm b g e).imp (fun e=>⟨b,e⟩) id,h.sQ,h.oJ,h.oY,h.xY,h.qv,h.rows⟩
def LO (P:Program) (o:Oper):ti->Prop
 | .pure f xs=>∀ (E:Env) (ρ:aZ) (ev:Operand->KV) (cS:Operand->Value) (v:KV),(∀ x∈xs,VC P E ρ (ev x) (cS x))->a9 (f (xs.map ev)) v->∃ v',VC P E ρ v v'/\∀ w,(execOp cS o).run P w = .ok (.value v') w
 | .read f xs=>∀ (E:Env) (A:aC) (B:St) (ρ:aZ) (base:Nat) (w:World) (ev:Operand->KV) (cS:Operand->Value) (v:KV),KJ P E A B ρ base w->(∀ x∈xs,VC P E ρ (ev x) (cS x))->a9 (f A (xs.map ev)) v->
   ∃ v',VC P E ρ v v'/\(execOp cS o).run P w = .ok (.value v') w
 | .look f xs=>∀ (E:Env) (A:aC) (B:St) (ρ:aZ) (base:Nat) (w:World) (ev:Operand->KV) (cS:Operand->Value) (v:KV),KJ P E A B ρ base w->(∀ x∈xs,VC P E ρ (ev x) (cS x))->a9 (f (xs.map ev)) v->
   ∃ E' B' a7 v' nx w',(execOp cS o).run P w = .ok nx w'/\al6 v' nx/\VC P E' a7 v v'/\Ev P base E A B ρ w E' A B' a7 w'
 | .act f xs=>∀ (E:Env) (A A' : aC) (B:St) (ρ:aZ) (base:Nat) (w:World) (ev:Operand->KV) (cS:Operand->Value) (v:KV),KJ P E A B ρ base w->(∀ x∈xs,VC P E ρ (ev x) (cS x))->a9 (f A (xs.map ev)) (v,A')->
   ∃ E' B' a7 v' nx w',(execOp cS o).run P w = .ok nx w'/\al6 v' nx/\VC P E' a7 v v'/\Ev P base E A B ρ w E' A' B' a7 w'
 | _=>True
theorem cn {ρ:aZ} {ev:Operand->KV} {cS:Operand->Value} {xs:List Operand} (h:∀ x∈xs,VC P E ρ (ev x) (cS x)) :
  ∃ em:Operand->Value,bm P E (xs.map ev) (xs.map em)/\zI ρ em cS xs:=by
 classical
 refine ⟨fun x=>if hx:VC P E ρ (ev x) (cS x) then hx.choose else undef,?_,?_⟩
 ·induction xs with
  | nil=>exact .nil
  | cons x xs ih=>
   refine .cons ?_ (ih fun y hy=>h y (by simp [hy]));have hx:=h x (by simp);simp only [dif_pos hx];exact hx.choose_spec.1
 ·intro x hx
  have hx:=h x hx;simp only [dif_pos hx];exact hx.choose_spec.2
theorem lift_pure {o:Oper} {f:FP} {g:List Value->Option Value} {xs:List Operand} (hc:compile P o.op = .pure g xs) (hs:x4 P f g):LO P o (.pure f xs):=by
 intro E ρ ev cS v hv hg;obtain ⟨em,h1,h2⟩:=cn hv;obtain ⟨u,h3,h4⟩:=hs E _ _ v h1 hg;have cf:=tg P o;rw [hc] at cf;obtain ⟨v',h5,h6⟩:=cf ρ em cS u h2 h3;exact ⟨v',⟨u,h4,h5⟩,h6⟩
def ake (P:Program) (f:FR) (g:St->List Value->Option Value):Prop:=
 ∀ (E:Env) (A:aC) (B:St) (vs:List KV) (us:List Value) (v:KV),fK P E A B->bm P E vs us->a9 (f A vs) v->∃ u,g B us=some u/\VK P E v u
theorem O6 {o:Oper} {f:FR} {g:St->List Value->Option Value} {xs:List Operand} (hc:compile P o.op = .read g xs) (hs:ake P f g):LO P o (.read f xs):=by
 intro E A B ρ base w ev cS v hj hv hg;obtain ⟨em,h1,h2⟩:=cn hv;obtain ⟨u,h3,h4⟩:=hs E A B _ _ v hj.k h1 hg;have cf:=tg P o;rw [hc] at cf;obtain ⟨v',h5,h6⟩:=cf ρ B base w em cS u hj.s.rel h2 h3;exact ⟨v',⟨u,h4,h5⟩,h6⟩
def ant (P:Program) (f:FA) (g:St->List Value->Option (Value×St)):Prop:=
 ∀ (E:Env) (A A' : aC) (B:St) (vs:List KV) (us:List Value) (v:KV),fK P E A B->bm P E vs us->a9 (f A vs) (v,A')->∃ u B' E',g B us=some (u,B')/\VK P E' v u/\ei P E A B E' A' B'
theorem aas {o:Oper} {f:FA} {g:St->List Value->Option (Value×St)} {xs:List Operand} (hc:compile P o.op = .act g xs) (hs:ant P f g):LO P o (.act f xs):=by
 intro E A A' B ρ base w ev cS v hj hv hg;obtain ⟨em,h1,h2⟩:=cn hv;obtain ⟨u,B',E',h3,h4,h5⟩:=hs E A A' B _ _ v hj.k h1 hg;have cf:=tg P o;rw [hc] at cf;obtain ⟨a7,v',nx,w',h6,h7,h8,h9⟩:=cf ρ B B' base w em cS u hj.s h2 h3;exact ⟨E',B',a7,v',nx,w',h6,h7,⟨u,h4,h8⟩,h5.ev h9⟩
def arV (P:Program) (f:FP) (g:St->List Value->Option (Value×St)):Prop:=
 ∀ (E:Env) (A:aC) (B:St) (vs:List KV) (us:List Value) (v:KV),fK P E A B->bm P E vs us->a9 (f vs) v->∃ u B' E',g B us=some (u,B')/\VK P E' v u/\ei P E A B E' A B'
theorem aml {o:Oper} {f:FP} {g:St->List Value->Option (Value×St)} {xs:List Operand} (hc:compile P o.op = .act g xs) (hs:arV P f g):LO P o (.look f xs):=by
 intro E A B ρ base w ev cS v hj hv hg;obtain ⟨em,h1,h2⟩:=cn hv;obtain ⟨u,B',E',h3,h4,h5⟩:=hs E A B _ _ v hj.k h1 hg;have cf:=tg P o;rw [hc] at cf;obtain ⟨a7,v',nx,w',h6,h7,h8,h9⟩:=cf ρ B B' base w em cS u hj.s h2 h3;exact ⟨E',B',a7,v',nx,w',h6,h7,⟨u,h4,h8⟩,h5.ev h9⟩
theorem aat {o:Oper} {g:List Value->Option (dc×(Nat->Value))} {xs:List Operand} (hc:compile P o.op = .make g xs) {ρ:aZ} {B:St} {base:Nat} {w:World} {em cS:Operand->Value} {obj:dc} {mk:Nat->Value} (hs:xS ρ B base w)
  (h2:zI ρ em cS xs) (h3:g (xs.map em)=some (obj,mk)):∃ a7 v' w',(execOp cS o).run P w = .ok (.value v') w'/\VR a7 (mk B.next) v'/\nC base ρ B w a7 (B.new obj) w':=by
 have cf:=tg P o;rw [hc] at cf;obtain ⟨c,mk',h4,h5,h6⟩:=cf ρ em cS obj mk h2 h3;exact ⟨_,_,_,h5 w,h6 _ _ _ (aZ.sT _ _ _),h4.fX hs⟩
def ahA (P:Program) (f:FA) (g:List Value->Option (dc×(Nat->Value))):Prop:=
 ∀ (E:Env) (A A' : aC) (B:St) (vs:List KV) (us:List Value) (v:KV),fK P E A B->bm P E vs us->a9 (f A vs) (v,A')->∃ obj mk E',g us=some (obj,mk)/\VK P E' v (mk B.next)/\ei P E A B E' A' (B.new obj)
theorem I2 {o:Oper} {f:FA} {g:List Value->Option (dc×(Nat->Value))} {xs:List Operand} (hc:compile P o.op = .make g xs) (hs:ahA P f g):LO P o (.act f xs):=by
 intro E A A' B ρ base w ev cS v hj hv hg;obtain ⟨em,h1,h2⟩:=cn hv;obtain ⟨obj,mk,E',h3,h4,h5⟩:=hs E A A' B _ _ v hj.k h1 hg;obtain ⟨a7,v',w',h6,h7,h8⟩:=aat hc hj.s h2 h3;exact ⟨E',B.new obj,a7,v',_,w',h6,rfl,⟨_,h4,h7⟩,h5.ev h8⟩
def apz (P:Program) (f:FP) (g:List Value->Option (dc×(Nat->Value))):Prop:=
 ∀ (E:Env) (A:aC) (B:St) (vs:List KV) (us:List Value) (v:KV),fK P E A B->bm P E vs us->a9 (f vs) v->∃ obj mk E',g us=some (obj,mk)/\VK P E' v (mk B.next)/\ei P E A B E' A (B.new obj)
theorem ahB {o:Oper} {f:FP} {g:List Value->Option (dc×(Nat->Value))} {xs:List Operand} (hc:compile P o.op = .make g xs) (hs:apz P f g):LO P o (.look f xs):=by
 intro E A B ρ base w ev cS v hj hv hg;obtain ⟨em,h1,h2⟩:=cn hv;obtain ⟨obj,mk,E',h3,h4,h5⟩:=hs E A B _ _ v hj.k h1 hg;obtain ⟨a7,v',w',h6,h7,h8⟩:=aat hc hj.s h2 h3;exact ⟨E',B.new obj,a7,v',_,w',h6,rfl,⟨_,h4,h7⟩,h5.ev h8⟩
def Env.m9 (E:Env) (b x:Nat):Env:={ E with κ:=fun c=>if c=b then some x else E.κ c }
def Env.gC (E:Env) (b:Nat) (r:aj4):Env:={ E with z:=fun c=>if c=b then some r else E.z c }
def Env.uD (E:Env) (b g:Nat):Env:={ E with φ:=fun c=>if c=b then some g else E.φ c }
theorem ei.newRow {A:aC} {B:St} {cs:List KV} {cd:List Value} {bV:Nat} (h:fK P E A B) (hv:bm P E cs cd):ei P E A B (E.m9 A.next B.next) (A.new (.row cs bV)) (B.new (.row cd bV true none)):=by
 have hle:E.le (E.m9 A.next B.next):=⟨fun _ _ e=>e,fun b x e=>by
  have:=h.mA b x e;simp only [Env.m9]; rw [ay (by omega)]; exact e,fun _ _ e=>e,fun _ _ e=>e⟩
 have hA:∀ (b:Nat) (v:KV),(A.new (.row cs bV)).get b=some (.arr v)->A.get b=some (.arr v):=fun b v hb=>by
  rw [aC.dw] at hb;split at hb
  ·simp at hb
  ·exact hb
 have hfz:∀ (b:Nat) (v:KV),(A.new (.row cs bV)).get b=some (.jQ v)->A.get b=some (.jQ v):=fun b v hb=>by
  rw [aC.dw] at hb;split at hb
  ·simp at hb
  ·exact hb
 have Bx:∀ x,AR A E x->(B.new (.row cd bV true none)).get x=B.get x:=fun x q=>by have:=h.Kw q; rw [St.dw,ay (by omega)]
 refine ⟨⟨?_,?_,?_,?_,?_,?_,?_,?_,?_,?_,?_,?_,?_,?_,h.ar.nD hle (fun _=>rfl) hA hfz (by simp) (by simp) Bx (fun _ _ e=>.inl e) (fun b x e=>?_) (fun b g e=>.inl ⟨b,e⟩) (fun _ _=>by simp) h.mem⟩,hle,by simp,?_,?_,fun _ _ e=>.inl e,fun _ _ e=>.inl e,fun _ _ _ _=>by simp,fun _ q=>.inl (q.of (fun _=>rfl) hA),fun _ q=>.inl (q.of (fun _=>rfl) hA Bx),fun _ _ q=>.inl (by simpa using q),fun _ q=>.inl (q.of (fun _=>rfl) hA Bx fun _ _=>by simp),nT aeS⟩
 ·intro b nK RE hb
  rw [aC.dw] at hb;split at hb
  ·rename_i e
   simp at hb;obtain ⟨rfl,rfl⟩:=hb;exact ⟨B.next,cd,by simp [Env.m9,e],by simp,hv.mono hle⟩
  ·obtain ⟨x,c,h1,h2,h3⟩:=h.row b nK RE hb
   have:=h.gX b x h1;exact ⟨x,c,hle.κ _ _ h1,by rw [St.dw,ay (by omega)]; exact h2,h3.mono hle⟩
 ·intro b top GF hb
  rw [aC.dw] at hb;split at hb
  ·simp at hb
  ·rcases h.bc b top GF hb with h1 | ⟨g,h1,hp0,h2⟩
   ·exact .inl h1
   ·refine .inr ⟨g,h1,hp0,fun x hx c e own f k hg=>?_⟩
    rw [St.dw] at hg;split at hg
    ·simp at hg
    ·exact h2 x (by simpa using hx) c e own f k hg
 ·intro b r hb
  have:=h.oS b r hb;rw [St.dw,ay (by omega)];exact h.z b r hb
 ·intro b x hb
  simp only [Env.m9] at hb ⊢;split at hb
  ·simp at hb
   subst hb;cases hz:E.z B.next with
   | none=>rfl
   | some r=>have:=h.oS _ r hz; omega
  ·exact h.apart b x hb
 ·intro b c x hb hc
  simp only [Env.m9] at hb hc;split at hb <;> split at hc
  ·omega
  ·simp at hb; subst hb; have:=h.gX c _ hc; omega
  ·simp at hc; subst hc; have:=h.gX b _ hb; omega
  ·exact h.inj b c x hb hc
 ·exact HX.new (E:=E.m9 A.next B.next) (fun x y g a b c d e f hx hy=>h.j6 x y g a b c d e f hx hy) (.inl fun _ _=>by simp)
 ·intro b x hb
  simp only [Env.m9] at hb;rw [aC.ct];split at hb
  ·omega
  ·have:=h.mA b x hb; omega
 ·intro b g hb; have:=h.oI b g hb; rw [aC.ct]; omega
 ·intro b o hb
  rw [aC.dw] at hb;rw [aC.ct];split at hb
  ·omega
  ·have:=h.live b o hb; omega
 ·intro b x hb
  simp only [Env.m9] at hb;rw [St.ct];split at hb
  ·simp at hb; omega
  ·have:=h.gX b x hb; omega
 ·intro b r hb; have:=h.oS b r hb; rw [St.ct]; omega
 ·intro b g hb; have:=h.kG b g hb; rw [St.ct]; omega
 ·intro g hg; rw [St.ct] at hg; rw [St.mB]; exact h.fresh g (by omega)
 ·intro g x hx; rw [St.mB] at hx; rw [St.ct]; have:=h.mem g x hx; omega
 ·simp only [Env.m9] at e
  split at e
  ·simp at e; exact .inr (by omega)
  ·exact .inl e
 ·intro x hx _ _; rw [St.dw,ay (by omega)]
 ·intro b x hb
  simp only [Env.m9] at hb;split at hb
  ·simp at hb; exact .inr (by omega)
  ·exact .inl hb
theorem ei.anu {A:aC} {B:St} {cd:List Value} {bV:Nat} (h:fK P E A B):ei P E A B (E.gC B.next ⟨cd,bV,true,none⟩) A (B.new (.row cd bV true none)):=by
 have hle:E.le (E.gC B.next ⟨cd,bV,true,none⟩):=⟨fun _ _ e=>e,fun _ _ e=>e,fun b r e=>by
  have:=h.oS b r e;simp only [Env.gC]; rw [ay (by omega)]; exact e,fun _ _ e=>e⟩
 have Bx:∀ x,AR A E x->(B.new (.row cd bV true none)).get x=B.get x:=fun x q=>by have:=h.Kw q; rw [St.dw,ay (by omega)]
 have Ng:∀ b r,(E.gC B.next ⟨cd,bV,true,none⟩).z b=some r->E.z b=some r\/B.next<=b:=fun b r e=>by
  simp only [Env.gC] at e;split at e
  ·exact .inr (by omega)
  ·exact .inl e
 refine ⟨⟨?_,?_,?_,?_,?_,?_,?_,?_,?_,?_,?_,?_,?_,?_,h.ar.nD hle (fun _=>rfl) (fun _ _ e=>e) (fun _ _ e=>e) (aQ _) (by simp) Bx Ng (fun _ _ e=>.inl e) (fun b g e=>.inl ⟨b,e⟩) (fun _ _=>by simp) h.mem⟩,hle,aQ _,?_,?_,fun b r e=>(Ng b r e).imp id .inr,fun _ _ e=>.inl e,fun _ _ _ _=>by simp,fun _ q=>.inl q,fun _ q=>.inl (q.of (fun _=>rfl) (fun _ _ e=>e) Bx),fun _ _ q=>.inl (by simpa using q),fun _ q=>.inl (q.of (fun _=>rfl) (fun _ _ e=>e) Bx fun _ _=>by simp),nT aeS⟩
 ·intro b nK RE hb
  obtain ⟨x,c,h1,h2,h3⟩:=h.row b nK RE hb;have:=h.gX b x h1;exact ⟨x,c,hle.κ _ _ h1,by rw [St.dw,ay (by omega)]; exact h2,h3.mono hle⟩
 ·intro b top GF hb
  rcases h.bc b top GF hb with h1 | ⟨g,h1,hp0,h2⟩
  ·exact .inl h1
  ·refine .inr ⟨g,h1,hp0,fun x hx c e own f k hg=>?_⟩
   rw [St.dw] at hg;split at hg
   ·simp at hg
   ·exact h2 x (by simpa using hx) c e own f k hg
 ·intro b r hb
  simp only [Env.gC] at hb;split at hb
  ·rename_i e
   simp at hb;subst hb e;simp
  ·have:=h.oS b r hb
   rw [St.dw,ay (by omega)];exact h.z b r hb
 ·intro b x hb
  have:=h.gX b x hb;simp only [Env.gC];rw [ay (by omega)];exact h.apart b x hb
 ·exact h.inj
 ·exact h.j6
 ·exact h.mA
 ·exact h.oI
 ·exact h.live
 ·intro b x hb; have:=h.gX b x hb; rw [St.ct]; omega
 ·intro b r hb
  simp only [Env.gC] at hb;rw [St.ct];split at hb
  ·omega
  ·have:=h.oS b r hb; omega
 ·intro b g hb; have:=h.kG b g hb; rw [St.ct]; omega
 ·intro g hg; rw [St.ct] at hg; rw [St.mB]; exact h.fresh g (by omega)
 ·intro g x hx; rw [St.mB] at hx; rw [St.ct]; have:=h.mem g x hx; omega
 ·intro x hx _ _; rw [St.dw,ay (by omega)]
 ·intro b x hb; exact .inl hb
theorem ei.arj {A:aC} {B:St} {b x bV:Nat} {cs:List KV} {cd:List Value} (h:fK P E A B) (hb:∃ nK e,A.get b=some (.row nK e)) (hx:E.κ b=some x) (hold:∃ nK,B.get x=some (.row nK bV true none)/\nK.length=cd.length) (hv:bm P E cs cd):ei P E A B E (A.put b (.row cs bV)) (B.put x (.row cd bV true none)):=by
 have hA:∀ (c:Nat) (v:KV),(A.put b (.row cs bV)).get c=some (.arr v)->A.get c=some (.arr v):=fun c v hb=>by
  rw [aC.cg] at hb;split at hb
  ·simp at hb
  ·exact hb
 have hfz:∀ (c:Nat) (v:KV),(A.put b (.row cs bV)).get c=some (.jQ v)->A.get c=some (.jQ v):=fun c v hb=>by
  rw [aC.cg] at hb;split at hb
  ·simp at hb
  ·exact hb
 have Bx:∀ y,AR A E y->(B.put x (.row cd bV true none)).get y=B.get y:=fun y q=>by
  rw [St.cg,ay];intro e;subst e;exact (h.ar.z _ q).2 b hx
 refine ⟨⟨?_,?_,?_,h.apart,h.inj,h.j6.put (.inl fun _ _=>by simp),h.mA,h.oI,?_,h.gX,h.oS,h.kG,?_,?_,h.ar.nD (Env.le_refl _) (fun _=>rfl) hA hfz (aQ _) (aQ _) Bx (fun _ _ e=>.inl e) (fun _ _ e=>.inl e) (fun b g e=>.inl ⟨b,e⟩) (fun _ _=>by simp) h.mem⟩,Env.le_refl _,aQ _,?_,fun _ _ e=>.inl e,fun _ _ e=>.inl e,fun _ _ e=>.inl e,fun _ _ _ _=>by simp,fun _ q=>.inl (q.of (fun _=>rfl) hA),fun _ q=>.inl (q.of (fun _=>rfl) hA Bx),fun _ _ q=>.inl (by simpa using q),fun _ q=>.inl (q.of (fun _=>rfl) hA Bx fun _ _=>by simp),fun y _ c e own cc q=>by
  rw [St.cg] at q;split at q
  ·rename_i e2
   simp at q;obtain ⟨rfl,rfl,rfl,rfl⟩:=q;obtain ⟨c0,h1,h2⟩:=hold;exact ⟨c0,by rw [e2]; exact h1,h2⟩
  ·exact ⟨c,q,rfl⟩⟩
 ·intro c nK RE hc
  rw [aC.cg] at hc;split at hc
  ·rename_i e
   simp at hc;obtain ⟨rfl,rfl⟩:=hc;exact ⟨x,cd,by rw [e]; exact hx,by simp,hv⟩
  ·rename_i eF
   obtain ⟨y,d,h1,h2,h3⟩:=h.row c nK RE hc;refine ⟨y,d,h1,?_,h3⟩;rw [St.cg,ay (fun e=>eF (h.inj c b x (by rw [<- e]; exact h1) hx))];exact h2
 ·intro c top GF hc
  rw [aC.cg] at hc;split at hc
  ·simp at hc
  ·rcases h.bc c top GF hc with h1 | ⟨g,h1,hp0,h2⟩
   ·exact .inl h1
   ·refine .inr ⟨g,h1,hp0,fun y hy d e own f k hg=>?_⟩
    rw [St.cg] at hg;split at hg
    ·simp at hg
    ·exact h2 y (by simpa using hy) d e own f k hg
 ·intro c r hc
  rw [St.cg,ay]
  ·exact h.z c r hc
  ·intro e
   have:=h.apart b x hx;rw [<- e,hc] at this;simp at this
 ·intro c o hc
  rw [aC.cg] at hc;rw [aC.uq];split at hc
  ·rename_i e
   obtain ⟨nK,e0,hb⟩:=hb;rw [e]; exact h.live b _ hb
  ·exact h.live c o hc
 ·intro g hg; rw [St.vz]; exact h.fresh g hg
 ·intro g y hy; rw [St.vz] at hy; exact h.mem g y hy
 ·intro y hy hn _
  rw [St.cg,ay (fun e=>hn b (by rw [e]; exact hx))]
theorem ark {n:Nat} : ahA P (F2 n) (ajI n):=by
 intro E A A' B vs us v h hv hg;unfold F2 at hg;split at hg
 ·rename_i x
  obtain ⟨y,rfl,h1⟩:=hv.fk;obtain ⟨ho,hg⟩:=hg.cond;have hg:(KV.ptr A.next 0,A.new (.row x.cells n))=(v,A'):=hg;simp only [fI] at hg;obtain ⟨rfl,rfl⟩:=hg;have hc:=h1.cells (Al ho);have hsc:y.cells.toList.all scalar=true:=gx.2 (hc.scalar ho);exact ⟨HQ n y,IE,E.m9 A.next B.next,by simp [ajI,hsc],.Bt (by simp [Env.m9]),ei.newRow h hc⟩
 ·exact hg.elim
theorem aou {t:TypeId} {z:Value} (hz:qO P t=some z) (hf:flat z=true) (hsc:z.cells.toList.all scalar=true) (ho:il (gQ z).cells=true):ahA P (abT (pE P t) (gQ z).cells) (Oz P t):=by
 intro E A A' B vs us v h hv hg;have hg:(KV.ptr A.next 0,A.new (.row (gQ z).cells (pE P t)))=(v,A'):=hg;simp only [fI] at hg;obtain ⟨rfl,rfl⟩:=hg;exact ⟨HQ (pE P t) z,IE,E.m9 A.next B.next,by simp only [Oz,hz,eV,hf,hsc,bI,aj],.Bt (by simp [Env.m9]),ei.newRow h (Et ho)⟩
theorem RF {cs:List KV} {l:List Value} (h:bm P E cs l):∀ n,bm P E (eA cs n) (gp l n)
 | 0=>.nil
 | n+1=>bm.append h (RF h n)
theorem agN {n b:Nat} {z:Value} (ho:il (gQ z).cells=true):ahA P (Rw n b (gQ z).cells) (FZ n b z):=by
 intro E A A' B vs us v h hv hg;unfold Rw at hg;split at hg
 ·rename_i k l k' c
  obtain ⟨x,y,rfl,h1,h2⟩:=hv.mo;have:=h1.dx; subst this;have:=h2.dx; subst this;obtain ⟨hc,hg⟩:=a9.lB hg;simp only [fI] at hg;obtain ⟨rfl,rfl⟩:=hg;simp only [aD,kV] at hc;obtain ⟨⟨h3,h4⟩,h5⟩:=hc;obtain ⟨l',rfl⟩:=Int.eq_ofNat_of_zero_le h3;obtain ⟨c',rfl⟩:=Int.eq_ofNat_of_zero_le (Int.le_trans h3 h4);have h6:Nat.ble l' c' = true:=Nat.ble_eq_true_of_le (by omega);refine ⟨.row (gp z.cells.toList c') n true none,fun k=>.slice (some ⟨k,0,none⟩) l' c',E.m9 A.next B.next,?_,.anr (by simp [Env.m9]),ei.newRow h (RF (Et ho) c')⟩;have h5:Nat.ble (b * c') 281474976710656=true:=h5;show cond (Nat.ble l' c'&&Nat.ble (b * c') 281474976710656) _ _=_;rw [h6,h5];rfl
 ·exact hg.elim
theorem fK.rowAt {A:aC} {B:St} (h:fK P E A B) {b x:Nat} {cs:List KV} (hr:rowAt A b=some cs) (hx:E.κ b=some x):∃ cd bV,B.get x=some (.row cd bV true none)/\bm P E cs cd:=by
 unfold K.rowAt at hr;split at hr
 ·rename_i c e hg
  simp at hr;subst hr;obtain ⟨y,d,h1,h2,h3⟩:=h.row _ _ _ hg;rw [hx] at h1;simp at h1;subst h1;exact ⟨d,_,h2,h3⟩
 ·simp at hr
theorem RG (e:KV):∀ (cs:List CK) (k:Nat),(leaves e cs k).length=cs.length
 | [],_=>rfl
 | c::cs,k=>by simp [leaves,RG e cs]
theorem aiD {c:CK} {v:KV} (h:kindOk c v=true):leaf c v=v:=by
 cases c with
 | int k=>cases v <;> simp [kindOk] at h; subst h; rfl
 | bool=>cases v <;> simp [kindOk] at h; rfl
 | str=>cases v <;> simp [kindOk] at h; rfl
 | slice t=>
  cases v <;> simp [kindOk] at h;rename_i T m n es acc;cases m <;> simp at h;subst h;rfl
 | other=>cases v <;> simp [kindOk] at h
theorem C6:∀ {ks:List CK} {cs:List KV} {i:Nat} {c:CK},aI ks cs=true->ks[i]? = some c->∃ v,cs[i]? = some v/\kindOk c v=true
 | [],_,i,c,_,h=>by simp at h
 | _::_,[],_,_,h,_=>by simp [aI] at h
 | k::ks,v::cs,0,c,h,e=>by
  simp only [aI,aD] at h;simp at e;subst e;exact ⟨v,rfl,h.1⟩
 | k::ks,v::cs,i+1,c,h,e=>by
  simp only [aI,aD] at h;obtain ⟨u,h1,h2⟩:=C6 (i:=i) h.2 (by simpa using e);exact ⟨u,by simpa using h1,h2⟩
theorem j7:∀ {l:yR} {es:List KV} {i:Nat} {e:KV},fY l es=true->es[i]? = some e->cC l e=true
 | l,[],i,e,_,h=>by simp at h
 | l,x::es,0,e,h,he=>by
  simp only [fY,aD] at h;simp at he;subst he;exact h.1
 | l,x::es,i+1,e,h,he=>by
  simp only [fY,aD] at h;exact j7 h.2 (by simpa using he)
theorem iI {l:yR} {e:KV} (h:cC l e=true):aI l.ks e.cells=true/\yS e=true:=by
 cases e <;> simp [cC] at h <;> first | exact ⟨h.2,rfl⟩ | skip
 obtain ⟨h1,h2⟩:=h;cases hk:l.ks with
 | nil=>rw [hk] at h2; simp [aI] at h2
 | cons c cs=>rw [hk] at h2; cases c <;> simp [aI,kindOk] at h2
theorem Wi {e:KV} {ks:List CK} (hk:aI ks e.cells=true):∀ {cs:List CK} {k:Nat},(∀ m c,cs[m]? = some c->ks[k+m]? = some c)->leaves e cs k=(e.cells.drop k).take cs.length
 | [],k,_=>by simp [leaves]
 | c::cs,k,h=>by
  obtain ⟨v,h1,h2⟩:=C6 hk (by simpa using h 0 c rfl);have a8:k < e.cells.length:=(c8.1 h1).1;have ih:=Wi hk (cs:=cs) (k:=k+1) (fun m d hm=>by have:=h (m+1) d (by simpa using hm); rwa [show k+(m+1)=k+1+m by omega] at this);simp only [leaves];have e1:e.cells.getD k .bD=v:=by simp [List.getD,h1]
  rw [e1,aiD h2];rw [show Nat.succ k=k+1 from rfl,ih,List.drop_eq_getElem_cons a8];have e2:e.cells[k] = v:=by
   have:=dz a8;rw [this] at h1;simpa using h1
  simp [e2]
theorem fK.LL {A:aC} {B:St} (h:fK P E A B) {b x L N' : Nat} {v:KV} (hr:LL A b=some v) (hx:E.α b=some (x,L,N')) :
  ∃ T N es acc,v = .ts T .any N es acc/\ji P T N es acc/\1<=bz P T/\∃ cs e own cc bx,N' = N/\B.get x=some (.row cs e own cc)/\bm P E es bx/\qK (bz P T) 0 cs bx/\L=cs.length/\e=bz P T:=by
 unfold K.LL at hr;split at hr
 ·rename_i u hg
  simp at hr; subst hr;obtain ⟨T,N,es,acc,h1,h2,h3,h4⟩:=h.ar.arr b _ hg;refine ⟨T,N,es,acc,h1,h2,h3,?_⟩;rcases h4 with ⟨_,h5⟩ | ⟨y,cs,cc,bx,h4,h5,h6,h7⟩
  ·rw [hx] at h5; simp at h5
  ·rw [hx] at h4
   simp only [db,fI] at h4;obtain ⟨rfl,rfl,rfl⟩:=h4;exact ⟨cs,_,_,cc,bx,rfl,h5,h6,h7,rfl,rfl⟩
 ·rename_i u hg
  simp at hr; subst hr;obtain ⟨T,N,es,acc,h1,h2,h3,h4⟩:=h.ar.jQ b _ hg;refine ⟨T,N,es,acc,h1,h2,h3,?_⟩;rcases h4 with ⟨_,h5⟩ | ⟨y,r,bx,h4,h5,h6,h7,h8⟩
  ·rw [hx] at h5; simp at h5
  ·rw [hx] at h4
   simp only [db,fI] at h4;obtain ⟨rfl,rfl,rfl⟩:=h4;exact ⟨r.cs,_,_,_,bx,rfl,h.z _ _ h5,h7,h8,rfl,h6⟩
 ·simp at hr
theorem aeT {t T Tc:TypeId} {k x base bV:Nat} {own:Bool} {cc:Option (Nat×Nat)} {e:KV} {u:Value} {cs:List Value} {B:St} (hz:B.get x=some (.row cs bV own cc)) (hc:adN P t Tc=true) (hw:adS P T Tc k) (DY:cC (bu P T) e=true)
  (h7:VK P E e u) (fC:u.cells.size=bz P T) (qP:∀ (m:Nat) (y:Value),u.cells[m]? = some y->cs[base+m]? = some y):∃ w,OA P t B [.pointer (some ⟨x,base+k,none⟩)] = some w/\VK P E (Q0 (bu P t).agg (leaves e (bu P t).ks k)) w:=by
 simp only [adN,aD,kV] at hc;obtain ⟨⟨⟨⟨hTc,hpl⟩,ha⟩,hn⟩,arW⟩:=hc;have:=bh hTc;subst this;obtain ⟨arl,arn⟩:=iI DY;have hlv:=Wi arl (cs:=(bu P Tc).ks) (k:=k) hw.is;rw [hlv];have LH:=h7.cells arn;have hlen:e.cells.length=bz P T:=by have:=LH.length; simp at this; omega
 have pU:(bu P Tc).ks.length<=e.cells.length - k:=by
  have:=congrArg List.length hlv;rw [RG] at this;simp at this;omega
 have jZ:∀ m,m < (bu P Tc).ks.length->cs[base+k+m]? = u.cells.toList[k+m]?:=by
  intro m hm;have a8:k+m < u.cells.size:=by omega
  have:=qP (k+m) u.cells[k+m] (by simp [a8]);rw [show base+(k+m)=base+k+m by omega] at this;rw [this];simp [a8]
 have amm:takeN (bu P Tc).ks.length (ID (base+k) cs)=some ((u.cells.toList.drop k).take (bu P Tc).ks.length):=by
  have hle:(bu P Tc).ks.length<=(cs.drop (base+k)).length:=by
   cases QZ:(bu P Tc).ks.length with
   | zero=>omega
   | succ q=>
    have:=jZ q (by omega);have a8:k+q < u.cells.toList.length:=by simp; omega
    rw [dz a8] at this;have:=(c8.1 this).1;simp;omega
  rw [uo,Nf hle];congr 1;apply List.ext_getElem?;intro m;rw [pr,pr];split
  ·rename_i hm
   rw [pS,pS];exact jZ m hm
  ·rfl
 have Ea:bm P E (e.cells.drop k |>.take (bu P Tc).ks.length) ((u.cells.toList.drop k).take (bu P Tc).ks.length):=(LH.drop k).take _;cases Bu:(bu P Tc).agg with
 | true=>
  rw [Bu] at ha;refine ⟨.agg ⟨(u.cells.toList.drop k).take (bu P Tc).ks.length⟩,?_,.rQ Ea⟩;simp [OA,loadAt,ha,hn,St.zM,dj,Ch,hz,amm]
 | false=>
  rw [Bu] at ha;have hl1:(bu P Tc).ks.length=1:=by
   rw [Bu] at arW;exact bh (by simpa using arW)
  rw [hl1] at amm Ea;have a8:k < e.cells.length:=by omega
  rw [hl1];rw [List.drop_eq_getElem_cons a8] at Ea ⊢;simp only [List.take_succ_cons,List.take_zero] at Ea ⊢;obtain ⟨w,h8,h9⟩:=Ea.fk;refine ⟨w,?_,h9⟩;simp [OA,loadAt,ha,St.zM,dj,Ch,hz,amm,h8]
theorem akf {t:TypeId} : ake P (aaj P t) (OA P t):=by
 intro E A B vs us v h hv hg;unfold aaj at hg;split at hg
 ·rename_i b off
  obtain ⟨y,rfl,h1⟩:=hv.fk;obtain ⟨x,hx,rfl⟩:=h1.jb;split at hg
  ·rename_i ag n ha hn
   split at hg
   ·rename_i l hl
    obtain ⟨cs,h2,h3⟩:=c9.1 hl;obtain ⟨cd,bV,h4,h5⟩:=h.rowAt h2 hx;obtain ⟨r,h6,h7,_⟩:=h5.xV h3;cases ag with
    | true=>
     have hg:KV.agg l=v:=hg;subst hg;refine ⟨.agg ⟨r⟩,?_,.rQ h7⟩;simp [OA,loadAt,ha,hn,St.zM,dj,Ch,h4,h6]
    | false=>
     rw [aq] at hg;split at hg
     ·rename_i u
      have hg:u=v:=hg;subst hg;obtain ⟨w,rfl,h8⟩:=h7.fk;have hlen:n=1:=by
       obtain ⟨e,hle⟩:=TL h3;have:=congrArg List.length e;rw [nH,Nat.min_eq_left hle] at this;simpa using this.symm
      subst hlen;exact ⟨w,by simp [OA,loadAt,ha,St.zM,dj,Ch,h4,h6],h8⟩
     ·exact hg.elim
   ·exact hg.elim
  ·exact hg.elim
 ·rename_i T Tc i k es acc
  obtain ⟨y,rfl,h1⟩:=hv.fk;obtain ⟨hc,hg⟩:=hg.cond;have hg:Q0 (bu P t).agg (leaves (acc i) (bu P t).ks k)=v:=hg;subst hg;obtain ⟨ht,bx,h2,hi,hw,b,off,r,rfl,h4,h5⟩:=h1.O2;have atk:=ht.acc i hi;have hei:es[i]? = some (acc i):=by rw [atk]; simp [List.getD,hi]
  obtain ⟨u,h6,h7⟩:=h2.get hei;obtain ⟨fC,qP⟩:=h5 i u h6;exact aeT (h.z b r h4) hc hw (j7 ht.typed hei) h7 fC qP
 ·rename_i T Tc b i k
  obtain ⟨y,rfl,h1⟩:=hv.fk;split at hg
  ·rename_i T' m N es acc hA
   obtain ⟨hc,hg⟩:=hg.cond;have hg:Q0 (bu P t).agg (leaves (acc i) (bu P t).ks k)=v:=hg;subst hg;simp only [aD] at hc;have:=bh hc.1;subst this;obtain ⟨x,L,N',h2,hw,hi,rfl⟩:=h1.Kv;obtain ⟨T2,N2,rS,gb,XU,ht,h1s,cs,e,own,cc,bx,h3,h4,h5,h6,_⟩:=h.LL hA h2;simp only [KV.ts.injEq] at XU;obtain ⟨rfl,rfl,rfl,rfl,rfl⟩:=XU;have a8:i < es.length:=by rw [<- ht.len,<- h3]; exact hi
   have hei:es[i]? = some (acc i):=by rw [ht.acc i (by rw [ht.len]; exact a8)]; simp [List.getD,a8]
   obtain ⟨u,h7,h8⟩:=h5.get hei;obtain ⟨fC,qP⟩:=h6 i u h7;rw [bd] at qP;exact aeT h4 hc.2 hw (j7 ht.typed hei) h8 fC qP
  ·exact hg.elim
 ·exact hg.elim
end Go.K
end
section
namespace Go.K
open Go Go.aB
variable {P:Program} {E:Env}
theorem VK.apA {T:TypeId} {m:Mk} {n:Nat} {es:List KV} {acc:Nat->KV} {u:Value} (h:VK P E (.ts T m n es acc) u):VK P E (.ts T .any n es acc) u:=by
 obtain ⟨ht,bx,h1,a,cap,rfl,h2,h3,_⟩:=h.ny;simp only [VK];exact ⟨ht,bx,h1,a,cap,rfl,h2,h3,trivial⟩
theorem VK.amn {T:TypeId} {acc:Nat->KV} : VK P E (.ts T .any 0 [] acc) (.slice none 0 0):=by
 simp only [VK];exact ⟨⟨rfl,fun i h=>by omega,rfl⟩,[],.nil,none,0,rfl,aQ _,.inl ⟨rfl,rfl⟩,trivial⟩
theorem VK.asz {b:Bool} {v:KV} {u:Value} (h:VK P E v u):VK P E (cond b v .bD) u:=by
 cases b with
 | false=>exact .uC
 | true=>exact h
theorem VK.oH {c:CK} {v:KV} {u:Value} (h:VK P E v u):VK P E (oH c v) u:=by
 unfold K.oH;split
 ·have:=h.qu; subst this; exact .amn
 ·rename_i t t' m n es acc
  cases hb:Nat.beq t t' with
  | false=>exact .uC
  | true=>
   have:=bh hb;subst this;exact h.apA
 ·exact VK.asz h
theorem bm.C2:∀ {ks:List CK} {cs:List KV} {l:List Value},bm P E cs l->cs.length=ks.length->bm P E (C2 ks cs) l
 | [],[],l,h,_=>h
 | [],_::_,_,_,e=>by simp at e
 | _::_,[],_,_,e=>by simp at e
 | c::ks,v::cs,l,h,e=>by
  obtain ⟨y,ys,rfl,h1,h2⟩:=h.cons_inv;exact .cons h1.oH (bm.C2 h2 (by simpa using e))
theorem VK.gq {l:yR} {v:KV} {u:Value} (h:VK P E v u):VK P E (gq l v) u:=by
 unfold K.gq;split
 ·rename_i cs
  obtain ⟨m,rfl,h1⟩:=h.nM;cases hb:(l.agg&&Nat.beq cs.length l.ks.length) with
  | false=>exact .uC
  | true=>
   simp only [aD] at hb;exact .rQ (h1.C2 (bh hb.2))
 ·cases l.agg with
  | true=>exact .uC
  | false=>
   rw [aq];split
   ·exact h.oH
   ·exact .uC
theorem Yn (d:Nat) (v:KV):eh P (d+1) v=(match v with
 | .ts t _ n _ acc=>.ts t .any n ((List.range n).map fun i=>tN P (eh P d) t (acc i)) (fun i=>tN P (eh P d) t (acc i))
 | v=>v):=rfl
theorem agO (d:Nat) {c:CK} {v:KV} (h:kindOk c v=true):kindOk c (eh P d v)=true:=by
 cases d with
 | zero=>exact h
 | succ d=>
  rw [Yn];split
  ·rename_i t m n es acc
   cases c <;> simp [kindOk] at h;cases m <;> simp at h;simp [kindOk,h]
  ·exact h
theorem I3 (d:Nat):∀ {ks:List CK} {cs:List KV},aI ks cs=true->aI ks (cs.map (eh P d))=true
 | [],[],_=>rfl
 | [],_::_,h=>by simp [aI] at h
 | _::_,[],h=>by simp [aI] at h
 | c::ks,v::cs,h=>by
  simp only [aI,aD] at h;simp only [List.map_cons,aI,aD];exact ⟨agO d h.1,I3 d h.2⟩
theorem tl:∀ {ks:List CK} {vs:List KV},aI ks vs=true->vs.length=ks.length
 | [],[],_=>rfl
 | [],_::_,h=>by simp [aI] at h
 | _::_,[],h=>by simp [aI] at h
 | k::ks,v::vs,h=>by
  simp only [aI,aD] at h;simp [tl h.2]
theorem rj {l:yR} : ∀ {es:List KV},(∀ (i:Nat) e,es[i]? = some e->cC l e=true)->fY l es=true
 | [],_=>rfl
 | e::es,h=>by
  simp only [fY,aD];exact ⟨h 0 e rfl,rj fun i x hx=>h (i+1) x (by simpa using hx)⟩
theorem O7 {l:yR} {v:KV} (h:cC l v=true):leaves v l.ks 0=v.cells/\aI l.ks v.cells=true/\(v=Q0 l.agg v.cells):=by
 have hk:aI l.ks v.cells=true/\(v=Q0 l.agg v.cells):=by
  by_cases ha:∃ cs,v = .agg cs
  ·obtain ⟨cs,rfl⟩:=ha
   simp only [cC,aD] at h;refine ⟨h.2,?_⟩;rw [h.1]; rfl
  ·have h1:(!l.agg&&aI l.ks [v])=true:=by
    cases v <;> first | exact h | exact absurd ⟨_,rfl⟩ ha | simp [cC] at h
   have hc:v.cells = [v]:=by cases v <;> first | rfl | exact absurd ⟨_,rfl⟩ ha
   simp only [aD,nw] at h1;rw [hc,h1.1];exact ⟨h1.2,rfl⟩
 refine ⟨?_,hk.1,hk.2⟩;rw [Wi (e:=v) (ks:=l.ks) hk.1 (fun m c e=>by rw [bd]; exact e)];show (v.cells.drop 0).take l.ks.length=v.cells;rw [List.drop_zero,<- tl hk.1,List.take_length]
theorem aeU {l:yR} {cs:List KV} {v:KV} (h:cC l v=true) (hk:aI l.ks cs=true) (hlen:cs.length=v.cells.length):cC l (Q0 l.agg cs)=true:=by
 by_cases ha:∃ ds,v = .agg ds
 ·obtain ⟨ds,rfl⟩:=ha
  simp only [cC,aD] at h;rw [h.1];show (l.agg&&aI l.ks cs)=true;rw [h.1,hk]; rfl
 ·have h1:(!l.agg&&aI l.ks [v])=true:=by
   cases v <;> first | exact h | exact absurd ⟨_,rfl⟩ ha | simp [cC] at h
  have hc:v.cells = [v]:=by cases v <;> first | rfl | exact absurd ⟨_,rfl⟩ ha
  simp only [aD,nw] at h1;rw [hc] at hlen
  match cs,hlen with
  | [c],_=>
   rw [h1.1];show cC l c=true;have Yl:one c=true:=by
    cases uw:l.ks with
    | nil=>rw [uw] at hk; simp [aI] at hk
    | cons a atZ=>rw [uw] at hk; simp only [aI,aD] at hk; cases a <;> cases c <;> first | rfl | simp [kindOk] at hk
   cases c <;> first | (simp [one] at Yl; done) | (simp only [cC,h1.1,yJ,AL]; exact hk)
mutual
theorem VK.eh:∀ (d:Nat) {v:KV} {u:Value},VK P E v u->VK P E (K.eh P d v) u
 | 0,_,_,h=>h
 | d+1,v,u,h=>by
  rw [Yn];split
  ·rename_i t m n es acc
   obtain ⟨ht,bx,h1,a,cap,rfl,h2,h3,_⟩:=h.ny;simp only [VK];have DY:∀ i,i < n->∃ e e',es[i]? = some e/\bx[i]? = some e'/\acc i=e/\cC (bu P t) e=true/\VK P E e e':=by
    intro i hi;have hl:i < es.length:=by rw [<- ht.len]; exact hi
    have e1:=dz hl;obtain ⟨e',e2,e3⟩:=h1.get e1;exact ⟨_,e',e1,e2,by rw [ht.acc i hi,gK,e1]; rfl,j7 ht.typed e1,e3⟩
   have hlen:bx.length=n:=by rw [h1.length,ht.len]
   refine ⟨⟨by simp,fun i hi=>?_,?_⟩,bx,?_,a,cap,rfl,h2,h3,trivial⟩
   ·rw [gK,AI,List.getElem?_range hi]; rfl
   ·refine rj fun i e he=>?_
    rw [AI] at he;by_cases hi:i < n
    ·rw [List.getElem?_range hi] at he
     simp only [Option.map_some,db] at he;obtain ⟨x,x',_,_,q3,q4,_⟩:=DY i hi;rw [<- he,q3,tN];obtain ⟨r1,r2,_⟩:=O7 q4;rw [r1];exact aeU q4 (I3 d r2) (by simp)
    ·rw [List.getElem?_eq_none (by simp; omega)] at he; simp at he
   ·refine bm.XN (by simp [hlen]) fun i e e' he LJ=>?_
    rw [AI] at he;by_cases hi:i < n
    ·rw [List.getElem?_range hi] at he
     simp only [Option.map_some,db] at he;obtain ⟨x,x',_,q2,q3,q4,q5⟩:=DY i hi;rw [LJ] at q2;simp only [db] at q2;subst q2;rw [<- he,q3];exact VK.tN d q4 q5
    ·rw [List.getElem?_eq_none (by simp; omega)] at he; simp at he
  ·exact h
theorem VK.tN (d:Nat) {t:TypeId} {v:KV} {u:Value} (hk:cC (bu P t) v=true) (h:VK P E v u):VK P E (K.tN P (K.eh P d) t v) u:=by
 obtain ⟨r1,r2,r3⟩:=O7 hk;rw [K.tN,r1];by_cases ha:∃ cs,v = .agg cs
 ·obtain ⟨cs,rfl⟩:=ha
  obtain ⟨l,rfl,h1⟩:=h.nM;have Bu:(bu P t).agg=true:=by simp only [cC,aD] at hk; exact hk.1
  rw [Bu];exact .rQ (bm.akg d h1)
 ·have hc:v.cells = [v]:=by cases v <;> first | rfl | exact absurd ⟨_,rfl⟩ ha
  have Bu:(bu P t).agg=false:=by
   cases v <;> first | (simp only [cC,aD,nw] at hk; exact hk.1) | exact absurd ⟨_,rfl⟩ ha | simp [cC] at hk
  rw [Bu,hc];exact VK.eh d h
theorem bm.akg (d:Nat):∀ {cs:List KV} {l:List Value},bm P E cs l->bm P E (cs.map (K.eh P d)) l
 | [],l,h=>h
 | c::cs,l,h=>by
  obtain ⟨y,ys,rfl,h1,h2⟩:=h.cons_inv;exact .cons (VK.eh d h1) (bm.akg d h2)
end
theorem akh {c:CK} {v:KV} (h:kindOk c v=true):one v=true:=by
 cases c <;> cases v <;> simp [kindOk] at h <;> rfl
theorem HY:∀ {ks:List CK} {cs:List KV},aI ks cs=true->il cs=true
 | [],[],_=>rfl
 | [],_::_,h=>by simp [aI] at h
 | _::_,[],h=>by simp [aI] at h
 | c::ks,v::cs,h=>by
  simp only [aI,aD] at h;simp [il,akh h.1,HY h.2]
def bR:List Value->List Value
 | []=>[]
 | v::vs=>v.cells.toList++bR vs
theorem jL {n:Nat} : ∀ {es:List Value},(∀ v∈es,v.cells.size=n)->(bR es).length=es.length * n
 | [],_=>by simp [bR]
 | v::es,h=>by
  simp only [bR,ko,HP];rw [jL fun u hu=>h u (by simp [hu])];have:=h v (by simp);simp only [Array.length_toList,this,Nat.succ_mul];omega
theorem ou {n:Nat} : ∀ {es:List Value},(∀ v∈es,v.cells.size=n)->qK n 0 (bR es) es
 | [],_,i,x,h=>by simp at h
 | v::es,hs,i,x,h=>by
  have hv:=hs v (by simp);cases i with
  | zero=>
   simp at h;subst h;refine ⟨hv,fun k y hy=>?_⟩;simp only [bR,Nat.zero_mul,bd];have a8:k < v.cells.size:=(CP.1 hy).1;rw [pR (by simpa using a8)];simpa using hy
  | succ i=>
   obtain ⟨h1,h2⟩:=ou (es:=es) (fun u hu=>hs u (by simp [hu])) i x (by simpa using h);refine ⟨h1,fun k y hy=>?_⟩;have:=h2 k y hy;simp only [bR];rw [ue (by simp [hv,Nat.succ_mul]; omega)];rw [<- this];congr 1;simp [hv,Nat.succ_mul];omega
theorem Ao:∀ (a b:List Value),bR (a++b)=bR a++bR b
 | [],b=>rfl
 | v::a,b=>by simp [bR,Ao a b]
theorem FK:∀ {es:List Value},(∀ v∈es,∀ c∈v.cells.toList,scalar c=true)->∀ c∈bR es,scalar c=true
 | [],_,c,h=>by simp [bR] at h
 | v::es,hs,c,h=>by
  simp only [bR,oM] at h;rcases h with h | h
  ·exact hs v (by simp) c h
  ·exact FK (fun u hu=>hs u (by simp [hu])) c h
theorem abZ {n:Nat} : ∀ {es:List Value} {i:Nat} {v:Value},(∀ u∈es,u.cells.size=n)->v.cells.size=n->i < es.length->ig (i * n) (bR es) v.cells.toList=some (bR (es.set i v))
 | [],i,v,_,_,h=>by simp at h
 | u::es,0,v,hs,hv,_=>by
  simp only [Nat.zero_mul,bR,List.set_cons_zero];have key:∀ (a b r:List Value),a.length=b.length->ig 0 (a++r) b=some (b++r):=by
   intro a
   induction a with
   | nil=>intro b r h; cases b <;> simp_all [Br]
   | cons x a ih=>
    intro b r h;cases b with
    | nil=>simp at h
    | cons y b=>rw [List.cons_append,xO,ih b r (by simpa using h)]; rfl
  exact key _ _ _ (by simp [hs u (by simp),hv])
 | u::es,i+1,v,hs,hv,h=>by
  have ih:=abZ (es:=es) (i:=i) (fun w hw=>hs w (by simp [hw])) hv (by simpa using h);simp only [bR,List.set_cons_succ];have key:∀ (a r vs q:List Value) (m:Nat),ig m r vs=some q->ig (a.length+m) (a++r) vs=some (a++q):=by
   intro a
   induction a with
   | nil=>intro r vs q m h; simpa using h
   | cons x a ih=>
    intro r vs q m h;rw [HP,show a.length+1+m=(a.length+m)+1 by omega,List.cons_append,tL,ih r vs q m h];rfl
  have:=key u.cells.toList _ _ _ _ ih;rw [show u.cells.toList.length+i * n=(i+1) * n by simp [hs u (by simp),Nat.succ_mul]; omega] at this;exact this
def Bz (es:List Value):List (Nat×Value)->List Value
 | []=>es
 | (i,v)::rest=>Bz (es.set i v) rest
theorem U6:∀ (ps:List (Nat×Value)) (es:List Value),(Bz es ps).length=es.length
 | [],_=>rfl
 | p::ps,es=>by simp [Bz,U6 ps]
theorem aeV {n:Nat} (hn:1<=n):∀ {ps:List (Nat×Value)} {es:List Value},(∀ u∈es,u.cells.size=n)->(∀ p∈ps,p.2.cells.size=n/\p.1 < es.length)->
  CQ (Ci n) (bR es) ps=some (bR (Bz es ps))/\∀ u∈Bz es ps,u.cells.size=n
 | [],es,hs,_=>⟨rfl,hs⟩
 | (i,v)::ps,es,hs,hp=>by
  obtain ⟨h1,h2⟩:=hp (i,v) (by simp);have h3:=abZ hs h1 h2;have aex:∀ u∈es.set i v,u.cells.size=n:=by
   intro u hu;rcases List.mem_or_eq_of_mem_set hu with h | h
   ·exact hs u h
   ·subst h; exact h1
  obtain ⟨h4,h5⟩:=aeV hn (ps:=ps) aex (fun p hq=>by have:=hp p (by simp [hq]); simpa using this);refine ⟨?_,h5⟩;simp only [CQ,Ci];have e1:Nat.beq v.cells.size n=true:=by rw [h1]; simp
  have e2:Nat.ble 1 n=true:=Nat.ble_eq_true_of_le hn;rw [e1,e2];simp only [bI,aj,h3,eV];exact h4
theorem Wj {v:KV} {u:Value} (h:VK P E v u):∀ {es:List KV} {bx:List Value} (i:Nat),bm P E es bx->bm P E (setAt es i v) (bx.set i u)
 | [],bx,i,q=>by rw [q.cl]; cases i <;> exact .nil
 | x::es,bx,0,q=>by
  obtain ⟨y,ys,rfl,h1,h2⟩:=q.cons_inv;exact .cons h h2
 | x::es,bx,i+1,q=>by
  obtain ⟨y,ys,rfl,h1,h2⟩:=q.cons_inv;exact .cons h1 (Wj h i h2)
theorem aeW {l:yR} : ∀ {is:List Nat} {vs:List KV} {us:List Value} {es:List KV} {bx:List Value},bm P E vs us->bm P E es bx->bm P E (OW es ((C1 is vs).map fun p=>(p.1,gq l p.2))) (Bz bx (zipIdx is us))
 | [],vs,us,es,bx,_,h=>by simpa [C1,zipIdx,OW,Bz] using h
 | i::is,[],us,es,bx,hv,h=>by rw [hv.cl]; simpa [C1,zipIdx,OW,Bz] using h
 | i::is,v::vs,us,es,bx,hv,h=>by
  obtain ⟨y,ys,rfl,h1,h2⟩:=hv.cons_inv;simp only [C1,zipIdx,List.map_cons,OW,Bz];exact aeW h2 (Wj h1.gq i h)
theorem FL:∀ (es:List KV) (i:Nat) (v:KV),(setAt es i v).length=es.length
 | [],0,_=>rfl
 | [],_+1,_=>rfl
 | _::_,0,_=>rfl
 | e::es,i+1,v=>by simp [setAt,FL es i v]
theorem U7:∀ (ps:List (Nat×KV)) (es:List KV),(OW es ps).length=es.length
 | [],_=>rfl
 | p::ps,es=>by simp [OW,U7 ps,FL]
theorem anv {n:Nat} : ∀ {is:List Nat} (us:List Value),Ir n is=true->∀ p∈zipIdx is us,p.1 < n/\p.2∈us
 | [],us,_,p,h=>by simp [zipIdx] at h
 | i::is,[],_,p,h=>by simp [zipIdx] at h
 | i::is,u::us,h,p,hp=>by
  simp only [Ir,aD,bT] at h;simp only [zipIdx,eL] at hp;rcases hp with rfl | hp
  ·exact ⟨h.1,by simp⟩
  ·obtain ⟨h1,h2⟩:=anv us h.2 p hp
   exact ⟨h1,by simp [h2]⟩
theorem HZ (z:Value):∀ n,gp z.cells.toList n=bR (List.replicate n z)
 | 0=>rfl
 | n+1=>by simp [gp,List.replicate_succ,bR,HZ z n]
theorem Yo {z:KV} {u:Value} (h:VK P E z u):∀ n,bm P E (eA [z] n) (List.replicate n u)
 | 0=>.nil
 | n+1=>by simpa [eA,List.replicate_succ] using bm.cons h (Yo h n)
theorem qU {l:yR} : ∀ {es:List KV} {bx:List Value},fY l es=true->bm P E es bx->∀ u∈bx,u.cells.size=l.ks.length/\∀ c∈u.cells.toList,scalar c=true
 | [],bx,_,h,u,hu=>by rw [h.cl] at hu; simp at hu
 | e::es,bx,DY,h,u,hu=>by
  obtain ⟨y,ys,rfl,h1,h2⟩:=h.cons_inv;simp only [fY,aD] at DY;rcases eL.1 hu with rfl | hu
  ·obtain ⟨k1,k2⟩:=iI DY.1
   have hc:=h1.cells k2;refine ⟨?_,hc.scalar (HY k1)⟩;have:=hc.length;have:=sV k1;simp at *;omega
  ·exact qU DY.2 h2 u hu
theorem ahC {l:yR} : ∀ {vs:List KV} {us:List Value},bm P E vs us->bm P E (vs.map (gq l)) us
 | [],_,h=>h
 | v::vs,us,h=>by
  obtain ⟨y,ys,rfl,h1,h2⟩:=h.cons_inv;exact .cons h1.gq (ahC h2)
theorem agP {e:TypeId} {n len:Nat} {z:Value} {is:List Nat} (hn:(bu P e).ks.length=n) (h1n:1<=n) (hz:z.cells.size=n) (hb:Ir len is=true) :
  apz P (Rt (bu P e) e (gq (bu P e) (gQ z)) len is) (yK n z len is):=by
 intro E A B vs us v h hv hg;unfold Rt at hg;obtain ⟨hc,hg⟩:=a9.cond hg;simp only [aD] at hc;obtain ⟨⟨hk,hvs⟩,DY⟩:=hc;have hg:KV.ts e .exact len _ _=v:=hg;subst hg;have Ew:VK P E (gq (bu P e) (gQ z)) z:=(VK.gQ z).gq;have Ea:=aeW (l:=bu P e) (is:=is) hv (Yo Ew len);have hlen:(OW (eA [gq (bu P e) (gQ z)] len) ((C1 is vs).map fun p=>(p.1,gq (bu P e) p.2))).length=len:=by
  rw [U7,GD]; simp
 have aro:∀ p∈zipIdx is us,p.2.cells.size=n/\p.1 < (List.replicate len z).length:=by
  intro p hp;obtain ⟨h5,h6⟩:=anv us hb p hp;have hm:bm P E (vs.map (gq (bu P e))) us:=ahC hv;exact ⟨by rw [<- hn]; exact (qU hvs hm p.2 h6).1,by simpa using h5⟩
 obtain ⟨h3,h4⟩:=aeV h1n (ps:=zipIdx is us) (es:=List.replicate len z) (fun u hu=>by rw [(List.mem_replicate.1 hu).2]; exact hz) aro;have yQ:=qU DY Ea;have nE:(bR (Bz (List.replicate len z) (zipIdx is us))).all scalar=true:=gx.2 (FK fun u hu=>(yQ u hu).2);refine ⟨.row (bR (Bz (List.replicate len z) (zipIdx is us))) n true none,fun b=>.slice (some ⟨b,0,none⟩) len len,E.gC B.next ⟨_,n,true,none⟩,?_,?_,ei.anu h⟩
 ·unfold yK
  rw [HZ,h3];simp only [eV];rw [nE,O5 hv hk];rfl
 ·have amo:=Ea.mono (ei.anu (cd:=bR (Bz (List.replicate len z) (zipIdx is us))) (bV:=n) h).le
  have oo:(Bz (List.replicate len z) (zipIdx is us)).length=len:=by rw [U6]; simp
  simp only [VK];refine ⟨⟨hlen.symm,fun i _=>rfl,DY⟩,_,amo,some ⟨B.next,0,none⟩,len,rfl,aQ _,.inr ⟨B.next,0,⟨bR (Bz (List.replicate len z) (zipIdx is us)),n,true,none⟩,rfl,by simp [Env.gC],hn.symm,?_⟩,rfl,fun b off hb=>?_⟩
  ·have:=ou h4
   unfold bz;rw [hn];exact this
  ·simp at hb
   obtain ⟨rfl,rfl⟩:=hb;refine ⟨⟨bR (Bz (List.replicate len z) (zipIdx is us)),n,true,none⟩,by simp [Env.gC],rfl,rfl,?_⟩;simp only [bz,hn];rw [jL h4,oo];omega
theorem aiE {n len:Nat} {z:Value} {is:List Nat} (ho:il (gQ z).cells=true):ahA P (V9 n (gQ z).cells len is) (yK n z len is):=by
 intro E A A' B vs us v h hv hg;unfold V9 at hg;split at hg
 ·rename_i cs hf
  obtain ⟨hk,hg⟩:=a9.cond hg;simp only [aD] at hk;have hg:(KV.sl A.next 0 len len,A.new (.row cs n))=(v,A'):=hg;simp only [fI] at hg;obtain ⟨rfl,rfl⟩:=hg;obtain ⟨h2,h3⟩:=aeK is hv;obtain ⟨r',e,hr⟩:=aeJ h2 h3 (fun p hp=>by have:=aeL is vs p hp; exact gx.1 hk.1 _ this) (RF (Et (P:=P) (E:=E) ho) len) hf;refine ⟨.row r' n true none,fun b=>.slice (some ⟨b,0,none⟩) len len,E.m9 A.next B.next,?_,.anr (by simp [Env.m9]),ei.newRow h hr⟩;unfold yK;rw [e];simp only [eV];rw [O5 hv hk.1,gx.2 (hr.scalar hk.2)];rfl
 ·exact hg.elim
theorem Nh {m cap:Nat} {lo hi:Bool} {r:List KV} {r' : List Value} {x y:Int} (h:Yd m lo hi r=some (x,y)) (hr:bm P E r r') (h0:0<=x) (h1:x<=y) (h2:y<=(m:Int)) (hc:m<=cap) :
  vo m cap lo hi false r' = some (x.toNat,y.toNat,cap):=by
 obtain ⟨x',rfl⟩:=Int.eq_ofNat_of_zero_le h0;obtain ⟨y',rfl⟩:=Int.eq_ofNat_of_zero_le (Int.le_trans h0 h1);have hb:∀ (k:IntKind) (i n:Nat),i<=n->bnd n (.int k (i:Int))=some i:=by
  intro k i n h;show l9 (.ofNat i) (Nat.succ n)=some i;exact qT (by omega)
 match r,h with
 | [],h=>
  rw [hr.cl];cases lo <;> cases hi <;> simp [Yd] at h;obtain ⟨h3,h4⟩:=h;simp [vo];omega
 | [.int k a],h=>
  obtain ⟨u,rfl,h3⟩:=hr.fk;have:=h3.dx; subst this;cases lo <;> cases hi <;> simp [Yd] at h
  ·obtain ⟨h4,rfl⟩:=h
   simp only [vo];rw [hb k y' cap (by omega)];simp;omega
  ·obtain ⟨rfl,h4⟩:=h
   simp only [vo];rw [hb k x' m (by omega)];simp;omega
 | [.int k a,.int k' c],h=>
  obtain ⟨u,v,rfl,h3,h4⟩:=hr.mo;have:=h3.dx; subst this;have:=h4.dx; subst this;cases lo <;> cases hi <;> simp [Yd] at h;obtain ⟨rfl,rfl⟩:=h;simp only [vo];rw [hb k' y' cap (by omega)];simp only [eV];rw [hb k x' y' (by omega)];simp
theorem U9 {l:yR} : ∀ {es:List KV} (n:Nat),fY l es=true->fY l (es.drop n)=true
 | es,0,h=>by simpa using h
 | [],n+1,_=>rfl
 | e::es,n+1,h=>by
  simp only [fY,aD] at h;simpa using U9 n h.2
theorem Va {l:yR} : ∀ {es:List KV} (n:Nat),fY l es=true->fY l (es.take n)=true
 | es,0,h=>rfl
 | [],n+1,_=>rfl
 | e::es,n+1,h=>by
  simp only [fY,aD] at h;simp [fY,h.1,Va n h.2]
theorem Qn {l:yR} : ∀ {es fs:List KV},fY l es=true->fY l fs=true->fY l (es++fs)=true
 | [],fs,_,h=>h
 | e::es,fs,h,k=>by
  simp only [fY,aD] at h;simp [fY,h.1,Qn h.2 k]
theorem qK.part {sz off x k:Nat} {cs es:List Value} (h:qK sz off cs es):qK sz (off+x * sz) cs ((es.drop x).take k):=by
 intro i v hv;rw [pr] at hv;split at hv
 ·rw [pS] at hv
  obtain ⟨h1,h2⟩:=h (x+i) v hv;refine ⟨h1,fun j y hj=>?_⟩;rw [<- h2 j y hj];congr 1;rw [Nat.add_mul];omega
 ·simp at hv
theorem aau {es:List KV} {i:Nat} (h:i < es.length):es[i]? = some (es.getD i .bD):=by simp [List.getD,h]
theorem aki {n:Nat} {lo hi:Bool} (_:1<=n):ake P (aal P n lo hi) (Cj n lo hi false):=by
 intro E A B vs us v h hv hg;unfold aal at hg;split at hg
 ·rename_i T mk m es acc r
  split at hg
  ·rename_i x y hb
   obtain ⟨fC,hg⟩:=hg.cond;have fC:=bh fC;obtain ⟨hc,rfl⟩:=a9.lB hg;simp only [aD,kV] at hc;obtain ⟨⟨h0,h1⟩,h2⟩:=hc;obtain ⟨u,r',rfl,h3,h4⟩:=hv.cons_inv;obtain ⟨ht,bx,h5,a,cap,rfl,h6,h7,_⟩:=h3.ny;have Ro:=Nh hb h4 h0 h1 h2 h6;have hlen:=ht.len;have hle:((es.drop x.toNat).take (y.toNat - x.toNat)).length=y.toNat - x.toNat:=by simp; omega
   have hT:ji P T (y.toNat - x.toNat) ((es.drop x.toNat).take (y.toNat - x.toNat)) (fun i=>acc (x.toNat+i)):=by
    refine ⟨hle.symm,fun i hi=>?_,Va _ (U9 _ ht.typed)⟩;rw [ht.acc _ (by omega)];simp only [List.getD];rw [pr,aR hi,pS]
   rcases h7 with ⟨rfl,hm⟩ | ⟨b,off,rr,rfl,h8,h9,vK⟩
   ·refine ⟨.slice none (y.toNat - x.toNat) (cap - x.toNat),by simp [Cj,Ro],?_⟩
    simp only [VK];exact ⟨hT,_,(h5.drop _).take _,none,_,rfl,by omega,.inl ⟨rfl,by omega⟩,trivial⟩
   ·have jZ:=h.z b rr h8
    have XV:rr.bV=n:=by rw [h9]; exact fC
    refine ⟨.slice (some ⟨b,off+x.toNat * n,none⟩) (y.toNat - x.toNat) (cap - x.toNat),?_,?_⟩
    ·simp [Cj,Ro,dj,FC,jZ,XV]
    ·simp only [VK]
     refine ⟨hT,_,(h5.drop _).take _,_,_,rfl,by omega,.inr ⟨b,off+x.toNat * n,rr,rfl,h8,h9,?_⟩,trivial⟩;have:bz P T=n:=fC;rw [this] at vK ⊢;exact vK.part
  ·exact hg.elim
 ·rename_i b o len cap r
  split at hg
  ·rename_i cs bV jZ
   split at hg
   ·rename_i x y hb
    obtain ⟨fC,hg⟩:=hg.cond;have fC:=bh fC;obtain ⟨hc,rfl⟩:=a9.lB hg;simp only [aD,kV] at hc;obtain ⟨⟨⟨h0,h1⟩,h2⟩,h6⟩:=hc;obtain ⟨u,r',rfl,h3,h4⟩:=hv.cons_inv;obtain ⟨z,hz,rfl⟩:=h3.TM;have Ro:=Nh hb h4 h0 h1 h2 h6;obtain ⟨z',cd,e1,e2,_⟩:=h.row b cs bV jZ;rw [hz] at e1;simp at e1;subst e1;refine ⟨.slice (some ⟨z,o+x.toNat * n,none⟩) (y.toNat - x.toNat) (cap - x.toNat),?_,.anr hz⟩;simp [Cj,Ro,dj,FC,e2,fC]
   ·exact hg.elim
  ·exact hg.elim
 ·rename_i T b o m r
  split at hg
  ·rename_i T' mk N es acc hA
   split at hg
   ·rename_i x y hb
    obtain ⟨fC,hg⟩:=hg.cond;obtain ⟨hc,rfl⟩:=a9.lB hg;simp only [aD] at fC;have hT:=bh fC.2;have arX:bz P T=n:=bh fC.1;subst hT;simp only [aD,kV] at hc;obtain ⟨⟨h0,h1⟩,h2⟩:=hc;obtain ⟨u,r',rfl,h3,h4⟩:=hv.cons_inv;rcases h3.yW with ⟨rfl,rfl,rfl⟩ | ⟨z,L,N',c,e1,rfl,e2,e3,e4⟩
    ·have Ro:=Nh hb h4 h0 h1 h2 (aQ _)
     have hx0:x.toNat=0:=by omega
     have hy0:y.toNat=0:=by omega
     refine ⟨.slice none (y.toNat - x.toNat) (0 - x.toNat),by simp [Cj,Ro],.U4 (.inl ⟨by omega,by omega,by rw [hx0,hy0]⟩)⟩
    ·have Ro:=Nh hb h4 h0 h1 h2 e2
     obtain ⟨T2,N2,rS,gb,XU,_,_,cs,e,own,cc,bx,_,h5,_,_,_,h7⟩:=h.LL hA e1;simp only [KV.ts.injEq] at XU;obtain ⟨rfl,_⟩:=XU;refine ⟨.slice (some ⟨z,o * bz P T+x.toNat * n,none⟩) (y.toNat - x.toNat) (c - x.toNat),?_,.U4 (.inr ⟨z,L,N',c - x.toNat,e1,?_,by omega,by omega,?_⟩)⟩
     ·simp [Cj,Ro,dj,FC,h5,h7,arX]
     ·simp only [Value.slice.injEq,db,Addr.mk.injEq,and_true,true_and]
      rw [arX,Nat.add_mul]
     ·rw [<- e4]
      congr 1;omega
   ·exact hg.elim
  ·exact hg.elim
 ·exact hg.elim
theorem aiF {len n:Nat} {lo hi:Bool} : ake P (Wc len n lo hi) (OD len n lo hi false):=by
 intro E A B vs us v h hv hg;unfold Wc at hg;split at hg
 ·rename_i b o r
  split at hg
  ·rename_i cs bV jZ
   split at hg
   ·rename_i x y hb
    obtain ⟨fC,hg⟩:=hg.cond;simp only [aD] at fC;have xk:=bh fC.1;have hsz2:=fH fC.2;obtain ⟨hc,rfl⟩:=a9.lB hg;simp only [aD,kV] at hc;obtain ⟨⟨h0,h1⟩,h2⟩:=hc;obtain ⟨u,r',rfl,h3,h4⟩:=hv.cons_inv;obtain ⟨z,hz,rfl⟩:=h3.jb;have Ro:=Nh hb h4 h0 h1 h2 (aQ _);obtain ⟨z',cd,e1,e2,e3⟩:=h.row b cs bV jZ;rw [hz] at e1;simp at e1;subst e1;have hlen:=e3.length;refine ⟨.slice (some ⟨z,o+x.toNat * n,none⟩) (y.toNat - x.toNat) (len - x.toNat),?_,.anr hz⟩;have uu:Nat.ble (o+len * n) cd.length=true:=Nat.ble_eq_true_of_le (by omega);simp [OD,Ro,dj,FC,XJ,e2,xk,uu]
    try omega
   ·exact hg.elim
  ·exact hg.elim
 ·exact hg.elim
theorem aiG {lo hi:Bool} : x4 P (Wd lo hi) (II lo hi):=by
 intro E vs us v hv hg;unfold Wd at hg;split at hg
 ·rename_i s r
  split at hg
  ·rename_i x y hb
   obtain ⟨hc,rfl⟩:=a9.lB hg;simp only [aD,kV] at hc;obtain ⟨⟨h0,h1⟩,h2⟩:=hc;obtain ⟨u,r',rfl,h3,h4⟩:=hv.cons_inv;have:=h3.uB; subst this;have Ro:=Nh hb h4 h0 h1 h2 (aQ _);exact ⟨_,by simp [II,Ro],.mkStr⟩
  ·exact hg.elim
 ·exact hg.elim
theorem aiH:ake P (fun _=>OX) IK:=by
 intro E A B vs us v h hv hg;have hg:a9 (OX vs) v:=hg;unfold OX at hg;split at hg
 ·obtain ⟨u,rfl,h1⟩:=hv.fk
  have:=h1.qu; subst this;have hg:KV.str ⟨⟨[]⟩⟩=v:=hg;subst hg;exact ⟨_,rfl,.mkStr⟩
 ·rename_i T mk m es acc _
  obtain ⟨u,rfl,h1⟩:=hv.fk;obtain ⟨hc,rfl⟩:=a9.lB hg;obtain ⟨ht,bx,h5,a,cap,rfl,h6,h7,_⟩:=h1.ny;have hlen:=ht.len;rcases h7 with ⟨rfl,hm⟩ | ⟨b,off,rr,rfl,h8,h9,vK⟩
  ·have:es = []:=lL.1 (by omega)
   subst this;exact ⟨_,rfl,.mkStr⟩
  ·have jZ:=h.z b rr h8
   have Ap:∀ (i:Nat) (w:Value),bx[i]? = some w->∃ e,es[i]? = some e/\w = .int .u8 (byteOf e).toNat/\w.cells.size=1:=by
    intro i w hw;have hi:i < es.length:=by rw [<- h5.length]; exact (c8.1 hw).1
    obtain ⟨w',e1,e2⟩:=h5.get (aau hi);rw [hw] at e1;simp at e1;subst e1;have sM:=gx.1 hc _ (hQ (aau hi));refine ⟨_,aau hi,?_⟩
    revert e2 sM
    generalize es.getD i .bD=e;intro e2 sM;cases e <;> simp [ank] at sM;rename_i k q;cases k <;> simp at sM;have:=e2.dx; subst this;refine ⟨?_,rfl⟩;simp only [byteOf,Value.int.injEq,true_and];obtain ⟨p,rfl⟩:=Int.eq_ofNat_of_zero_le sM.1;have hp:p < 256:=by omega
    simp [UInt8.toNat_ofNat',Nat.mod_eq_of_lt hp]
   have atl:bx=es.map fun e=>.int .u8 (byteOf e).toNat:=by
    apply List.ext_getElem?;intro i;cases hw:bx[i]? with
    | none=>
     have:es.length<=i:=by rw [<- h5.length]; exact adD.1 hw
     simp [this]
    | some w=>
     obtain ⟨e,e1,e2,_⟩:=Ap i w hw;simp [e1,e2]
   have xk:∀ i w,bx[i]? = some w->bz P T=1:=fun i w hw=>by
    obtain ⟨_,_,_,Kg⟩:=Ap i w hw;rw [<- (vK i w hw).1]; exact Kg
   have GA:B.zM ⟨b,off,none⟩ m=some bx:=by
    simp only [St.zM,dj,Option.isNone_none,aj,Ch,jZ,eV];have vB:bx.length=m:=by rw [h5.length]; exact hlen.symm
    have qP:∀ i,i < m->rr.cs[off+i]? = bx[i]?:=by
     intro i hi;have Gw:i < bx.length:=by omega
     have hw:bx[i]? = some bx[i]:=dz Gw;have h1':=xk i _ hw;obtain ⟨h12,h13⟩:=vK i _ hw;obtain ⟨e,e1,e2,_⟩:=Ap i _ hw;have:=h13 0 bx[i] (by rw [e2]; rfl);rw [h1'] at this;rw [hw,<- this];congr 1;omega
    have hle:m<=(rr.cs.drop off).length:=by
     cases hm0:m with
     | zero=>omega
     | succ q=>
      have:=qP q (by omega);have hq:q < bx.length:=by omega
      rw [dz hq] at this;have:=(c8.1 this).1;simp;omega
    rw [uo,Nf hle];congr 1;apply List.ext_getElem?;intro i;rw [pr];split
    ·rename_i hi
     rw [pS];exact qP i hi
    ·rename_i hi
     exact (adD.2 (by omega)).symm
   have air:∀ (l:List KV),Kk (l.map fun e=>.int .u8 (byteOf e).toNat)=some (l.map byteOf):=by
    intro l
    induction l with
    | nil=>rfl
    | cons e l ih=>
     have hb:=(byteOf e).toNat_lt;show cond (Nat.blt (byteOf e).toNat 256) ((Kk (l.map fun e=>.int .u8 (byteOf e).toNat)).map (UInt8.ofNat (byteOf e).toNat::·)) none=_;have:Nat.blt (byteOf e).toNat 256=true:=by rw [bT]; omega
     rw [this,aj,ih];simp
   refine ⟨.string ⟨⟨es.map byteOf⟩⟩,?_,.mkStr⟩;simp only [IK,GA,eV];rw [atl,air];rfl
 ·exact hg.elim
theorem aeX {b lo hi:Nat} : ∀ {L:List Nat} {B:St},(∀ x∈L,tK (B.get x) lo hi=false)->B.kill b lo hi L=B
 | [],B,_=>rfl
 | x::L,B,h=>by
  simp only [St.kill];rw [h x (by simp),vx,aq];exact aeX fun y hy=>h y (by simp [hy])
theorem ei.anw {A:aC} {B:St} (sz:Nat) (h:fK P E A B):ei P E A B E (A.new (.bc 0 sz)) B:=by
 have hn:E.φ A.next=none:=by
  cases Kf:E.φ A.next with
  | none=>rfl
  | some g=>have:=h.oI _ g Kf; omega
 have hA:∀ (b:Nat) (v:KV),(A.new (.bc 0 sz)).get b=some (.arr v)->A.get b=some (.arr v):=fun b v hb=>by
  rw [aC.dw] at hb;split at hb
  ·simp at hb
  ·exact hb
 have hfz:∀ (b:Nat) (v:KV),(A.new (.bc 0 sz)).get b=some (.jQ v)->A.get b=some (.jQ v):=fun b v hb=>by
  rw [aC.dw] at hb;split at hb
  ·simp at hb
  ·exact hb
 refine ⟨⟨?_,?_,h.z,h.apart,h.inj,h.j6.new (.inr hn),fun b x e=>?_,fun b g e=>?_,?_,h.gX,h.oS,h.kG,h.fresh,h.mem,h.ar.nD (Env.le_refl _) (fun _=>rfl) hA hfz (by simp) (aQ _) (fun _ _=>rfl) (fun _ _ e=>.inl e) (fun _ _ e=>.inl e) (fun b g e=>.inl ⟨b,e⟩) (fun _ _=>rfl) h.mem⟩,Env.le_refl _,by simp,fun _ _ _ _=>rfl,fun _ _ e=>.inl e,fun _ _ e=>.inl e,fun _ _ e=>.inl e,fun _ _ _ _=>rfl,fun _ q=>.inl (q.of (fun _=>rfl) hA),fun _ q=>.inl (q.of (fun _=>rfl) hA fun _ _=>rfl),fun _ _ q=>.inl q,fun _ q=>.inl (q.of (fun _=>rfl) hA (fun _ _=>rfl) fun _ _=>rfl),nT fun _ _=>rfl⟩
 ·intro b cs bV hb
  rw [aC.dw] at hb;split at hb
  ·simp at hb
  ·exact h.row b cs bV hb
 ·intro b top GF hb
  rw [aC.dw] at hb;split at hb
  ·rename_i e
   simp at hb;refine .inl ⟨hb.1.symm,?_⟩;cases Kf:E.φ b with
   | none=>rfl
   | some g=>have:=h.oI b g Kf; omega
  ·exact h.bc b top GF hb
 ·have:=h.mA b x e; rw [aC.ct]; omega
 ·have:=h.oI b g e; rw [aC.ct]; omega
 ·intro b o hb
  rw [aC.dw] at hb;rw [aC.ct];split at hb
  ·omega
  ·have:=h.live b o hb; omega
theorem ei.grow {A:aC} {B:St} {f g top Vb sz:Nat} {c:List Value} (h:fK P E A B) (hA:A.get f=some (.bc top sz)) (hf:(E.φ f=none/\g=B.next)\/E.φ f=some g) (hc:c.length=Vb * sz) (ht:top<=Vb) (MW:0 < Vb) :
  ei P E A B ((E.gC B.next ⟨c,sz,true,some (g,0)⟩).uD f g) (A.put f (.bc Vb sz)) (B.grow g 0 c sz):=by
 have nL:∀ x,(B.grow g 0 c sz).get x=if x=B.next then some (.row c sz true (some (g,0))) else B.get x:=fun x=>by simp [St.grow]
 have ot:∀ q,(B.grow g 0 c sz).members q=if q=g then B.next::B.members g else B.members q:=fun q=>by simp [St.grow,St.FF]
 have jz:(B.grow g 0 c sz).next=B.next+1:=rfl;have hlef:=h.live f _ hA;have hle:E.le ((E.gC B.next ⟨c,sz,true,some (g,0)⟩).uD f g):=by
  refine ⟨fun _ _ e=>e,fun _ _ e=>e,fun b r e=>?_,fun b q e=>?_⟩
  ·have:=h.oS b r e
   simp only [Env.uD,Env.gC]; rw [ay (by omega)]; exact e
  ·simp only [Env.uD,Env.gC]
   split
   ·rename_i e2
    subst e2;rcases hf with ⟨h1,_⟩ | h1
    ·rw [h1] at e; simp at e
    ·rw [h1] at e; exact e
   ·exact e
 have hg:g<=B.next:=by
  rcases hf with ⟨_,h1⟩ | h1
  ·omega
  ·have:=h.kG f g h1; omega
 generalize hB' : B.grow g 0 c sz=B' at nL ot jz;have Yp:∀ (b:Nat) (v:KV),(A.put f (.bc Vb sz)).get b=some (.arr v)->A.get b=some (.arr v):=fun b v hb=>by
  rw [aC.cg] at hb;split at hb
  ·simp at hb
  ·exact hb
 have hfz:∀ (b:Nat) (v:KV),(A.put f (.bc Vb sz)).get b=some (.jQ v)->A.get b=some (.jQ v):=fun b v hb=>by
  rw [aC.cg] at hb;split at hb
  ·simp at hb
  ·exact hb
 have Bx:∀ x,x < B.next->B'.get x=B.get x:=fun x hx=>by rw [nL,ay (by omega)]
 have Ng:∀ b r,((E.gC B.next ⟨c,sz,true,some (g,0)⟩).uD f g).z b=some r->E.z b=some r\/B.next<=b:=fun b r e=>by
  simp only [Env.uD,Env.gC] at e;split at e
  ·exact .inr (by omega)
  ·exact .inl e
 have arY:∀ b q,((E.gC B.next ⟨c,sz,true,some (g,0)⟩).uD f g).φ b=some q->E.φ b=some q\/B.next<=q:=fun b q e=>by
  simp only [Env.uD,Env.gC] at e;split at e
  ·rename_i e2
   simp at e;subst e e2;rcases hf with ⟨_,h1⟩ | h1
   ·exact .inr (by omega)
   ·exact .inl h1
  ·exact .inl e
 have hmk:∀ q,AF A E B q->B'.members q=B.members q:=fun q hq=>by
  rw [ot,ay];intro e2;subst e2;obtain ⟨b,v,x,L,N,cs,e,own,k,h1,h2,h3⟩:=hq;obtain ⟨h4,h5,_⟩:=h.ar.vr b v x L N cs e own q k h1 h2 h3;rcases hf with ⟨_,h1⟩ | h1
  ·omega
  ·exact h5 f h1
 have amp:∀ q y,y∈B'.members q->y∈B.members q\/B.next<=y:=fun q y hy=>by
  rw [ot] at hy;split at hy
  ·rename_i e2
   subst e2;rcases eL.1 hy with hy | hy
   ·exact .inr (by omega)
   ·exact .inl hy
  ·exact .inl hy
 refine ⟨⟨?_,?_,?_,?_,?_,?_,?_,?_,?_,?_,?_,?_,?_,?_,h.ar.nD hle (fun _=>rfl) Yp hfz (aQ _) (by omega) (fun x q=>Bx x (h.Kw q)) Ng (fun _ _ e=>.inl e) (fun b q e=>(arY b q e).imp (fun e=>⟨b,e⟩) id) hmk h.mem⟩,hle,aQ _,?_,fun b x e=>.inl e,fun b r e=>(Ng b r e).imp id .inr,arY,fun q hq hn _=>by
  rw [ot,ay];intro e2;subst e2;rcases hf with ⟨_,h1⟩ | h1
  ·omega
  ·exact hn f h1,fun _ q=>.inl (q.of (fun _=>rfl) Yp),fun _ q=>.inl (q.of (fun _=>rfl) Yp fun x q=>Bx x (h.Kw q)),amp,fun _ q=>.inl (q.of (fun _=>rfl) Yp (fun x q=>Bx x (h.Kw q)) hmk),nT Bx⟩
 ·intro b cs bV hb
  rw [aC.cg] at hb;split at hb
  ·simp at hb
  ·obtain ⟨x,c2,h1,h2,h3⟩:=h.row b cs bV hb
   have:=h.gX b x h1;exact ⟨x,c2,h1,by rw [nL,ay (by omega)]; exact h2,h3.mono hle⟩
 ·intro b t GF hb
  rw [aC.cg] at hb;split at hb
  ·rename_i e
   simp at hb;obtain ⟨rfl,rfl⟩:=hb;subst e;refine .inr ⟨g,by simp [Env.uD],MW,fun x hx cs e own q k hr=>?_⟩;rw [nL] at hr;rw [ot,aR rfl] at hx;split at hr
   ·simp at hr
    obtain ⟨rfl,rfl,_,_,rfl⟩:=hr;exact ⟨rfl,Nat.le_of_eq hc⟩
   ·rename_i eF
    rcases eL.1 hx with hx | hx
    ·exact absurd hx eF
    ·rcases hf with ⟨_,h1⟩ | h1
     ·rw [h1,h.fresh _ (aQ _)] at hx; simp at hx
     ·rcases h.bc b top sz hA with ⟨_,h2⟩ | ⟨g2,h2,_,h3⟩
      ·rw [h1] at h2; simp at h2
      ·rw [h1] at h2
       simp at h2;subst h2;obtain ⟨h4,h5⟩:=h3 x hx cs e own q k hr;exact ⟨h4,oO h5 (Nat.mul_le_mul_right _ ht)⟩
  ·rename_i Q3
   rcases h.bc b t GF hb with ⟨h1,h2⟩ | ⟨g2,h2,hp2,h3⟩
   ·exact .inl ⟨h1,by simp only [Env.uD,Env.gC]; rw [ay Q3]; exact h2⟩
   ·have eF:g2≠g:=by
     intro e;subst e;rcases hf with ⟨_,h1⟩ | h1
     ·have:=h.kG b g2 h2; omega
     ·exact Q3 (h.j6 b f g2 _ _ _ _ hb hA h2 h1)
    refine .inr ⟨g2,by simp only [Env.uD,Env.gC]; rw [ay Q3]; exact h2,hp2,fun x hx cs e own q k hr=>?_⟩;rw [ot,ay eF] at hx;have:=h.mem g2 x hx;rw [nL,ay (by omega)] at hr;exact h3 x hx cs e own q k hr
 ·intro b r hb
  simp only [Env.uD,Env.gC] at hb;rw [nL];split at hb
  ·rename_i e; simp at hb; subst hb; rw [aR e]
  ·rename_i e; rw [ay e]; exact h.z b r hb
 ·intro b x hb
  have hb:E.κ b=some x:=hb;have:=h.gX b x hb;simp only [Env.uD,Env.gC];rw [ay (by omega)];exact h.apart b x hb
 ·exact h.inj
 ·intro b d q tb sb td sd lb ld hb hd
  simp only [Env.uD,Env.gC] at hb hd;rw [aC.cg] at lb ld;have key:∀ d t s,d≠f->A.get d=some (.bc t s)->E.φ d≠some g:=by
   intro d t s hd hl e;rcases hf with ⟨_,h1⟩ | h1
   ·have:=h.kG d g e; omega
   ·exact hd (h.j6 d f g _ _ _ _ hl hA e h1)
  by_cases e1:b=f <;> by_cases e2:d=f
  ·omega
  ·rw [aR e1] at hb; rw [ay e2] at hd ld; simp at hb; subst hb; exact absurd hd (key d _ _ e2 ld)
  ·rw [aR e2] at hd; rw [ay e1] at hb lb; simp at hd; subst hd; exact absurd hb (key b _ _ e1 lb)
  ·rw [ay e1] at hb lb; rw [ay e2] at hd ld; exact h.j6 b d q _ _ _ _ lb ld hb hd
 ·exact h.mA
 ·intro b q hb
  simp only [Env.uD,Env.gC] at hb;rw [aC.uq];split at hb
  ·omega
  ·exact h.oI b q hb
 ·intro b o hb
  rw [aC.cg] at hb;rw [aC.uq];split at hb
  ·omega
  ·exact h.live b o hb
 ·intro b x hb; have:=h.gX b x hb; omega
 ·intro b r hb
  simp only [Env.uD,Env.gC] at hb;rw [jz];split at hb
  ·omega
  ·have:=h.oS b r hb; omega
 ·intro b q hb
  simp only [Env.uD,Env.gC] at hb;rw [jz];split at hb
  ·simp at hb; omega
  ·have:=h.kG b q hb; omega
 ·intro q hq
  rw [jz] at hq;rw [ot,ay (by omega)];exact h.fresh q (by omega)
 ·intro q x hx
  rw [jz];rw [ot] at hx;split at hx
  ·rcases eL.1 hx with hx | hx
   ·omega
   ·have:=h.mem g x hx; omega
  ·have:=h.mem q x hx; omega
 ·intro x hx _ _; rw [nL,ay (by omega)]
end Go.K
end
