/- Part of the proof of PathsOne: the machine, shown to be the model's, and plain models. No conditions. -/
import Derived.Test.YtckbdndhmcoihaaGreatBp
set_option linter.unusedSimpArgs false
set_option linter.unusedVariables false
section
namespace Go.K
open Go Go.aq
structure ahz where
 cs:List Value
 bH:Nat
 own:Bool
 bQ:Option (Nat×Nat)
structure Env where
 κ:Nat->Option Nat
 z:Nat->Option ahz
 φ:Nat->Option Nat
 α:Nat->Option (Nat×Nat×Nat)
structure Env.le (E E' : Env):Prop where
 α:∀ b p,E.α b=some p->E'.α b=some p
 κ:∀ b x,E.κ b=some x->E'.κ b=some x
 z:∀ b r,E.z b=some r->E'.z b=some r
 φ:∀ b g,E.φ b=some g->E'.φ b=some g
theorem Env.le_refl (E:Env):E.le E:=⟨fun _ _ h=>h,fun _ _ h=>h,fun _ _ h=>h,fun _ _ h=>h⟩
theorem Env.le_trans {E F G:Env} (h:E.le F) (k:F.le G):E.le G:=⟨fun b p e=>k.α b p (h.α b p e),fun b x e=>k.κ b x (h.κ b x e),fun b x e=>k.z b x (h.z b x e),fun b x e=>k.φ b x (h.φ b x e)⟩
def nG (sz off:Nat) (cs es:List Value):Prop:=∀ (i:Nat) (x:Value),es[i]? = some x->x.cells.size=sz/\∀ (k:Nat) (y:Value),x.cells[k]? = some y->cs[off+i * sz+k]? = some y
def Vk (E:Env) (sz:Nat) (a:Option Addr) (n:Nat) (es:List Value):Prop:=
 (a=none/\n=0)\/∃ b off r,a=some ⟨b,off,none⟩/\E.z b=some r/\r.bH=sz/\nG sz off r.cs es
def Rb (E:Env) (sz:Nat) (a:Option Addr) (n cap:Nat):Mk->Prop
 | .any=>True
 | .exact=>cap=n/\∀ b off,a=some ⟨b,off,none⟩->∃ r,E.z b=some r/\r.own=true/\r.bQ=none/\off+cap * sz=r.cs.length
 | .aQ f=>cap=n/\((n=0/\a=none)\/∃ b r g,a=some ⟨b,0,none⟩/\E.z b=some r/\r.own=true/\E.φ f=some g/\r.bQ=some (g,0)/\r.cs.length=n * sz)
structure gL (P:Program) (T:TypeId) (n:Nat) (es:List KV) (acc:Nat->KV):Prop where
 len:n=es.length
 acc:∀ i,i < n->acc i=es.getD i .bA
 typed:dV (aX P T) es=true
def bf (P:Program) (T:TypeId):Nat:=(aX P T).ks.length
def ahA (P:Program) (E:Env) (T:TypeId) (m:Mk) (n:Nat) (bo:List Value) (v:Value):Prop:=
 ∃ a cap,v = .slice a n cap/\n<=cap/\Vk E (bf P T) a n bo/\Rb E (bf P T) a n cap m
structure aa0 (P:Program) (T Tc:TypeId) (k:Nat):Prop where
 is:∀ m c,(aX P Tc).ks[m]? = some c->(aX P T).ks[k+m]? = some c
def ahB (P:Program) (E:Env) (T Tc:TypeId) (i k:Nat) (es:List KV) (bo:List Value) (v:Value):Prop:=
 i < es.length/\aa0 P T Tc k/\∃ b off r,v = .pointer (some ⟨b,off+i * bf P T+k,none⟩)/\E.z b=some r/\nG (bf P T) off r.cs bo
def Zk (P:Program) (E:Env) (T:TypeId) (b o n:Nat) (v:Value):Prop:=
 (n=0/\o=0/\v = .slice none 0 0)\/∃ x L N c,E.α b=some (x,L,N)/\v = .slice (some ⟨x,o * bf P T,none⟩) n c/\n<=c/\o+n<=N/\(o+c) * bf P T=L
def ae1 (P:Program) (E:Env) (T Tc:TypeId) (b i k:Nat) (v:Value):Prop:=
 ∃ x L N,E.α b=some (x,L,N)/\aa0 P T Tc k/\i < N/\v = .pointer (some ⟨x,i * bf P T+k,none⟩)
mutual
def VK (P:Program) (E:Env):KV->Value->Prop
 | .int k n,v=>v = .int k n
 | .bool b,v=>v = .bool b
 | .str s,v=>v = .string s
 | .agg cs,v=>∃ l,v = .agg ⟨l⟩/\ba P E cs l
 | .jV cs,v=>∃ l,v = .tuple ⟨l⟩/\ba P E cs l
 | .ts T m n es acc,v=>gL P T n es acc/\∃ bo,ba P E es bo/\ahA P E T m n bo v
 | .tp T Tc i k es acc,v=>gL P T es.length es acc/\∃ bo,ba P E es bo/\ahB P E T Tc i k es bo v
 | .al T b o n,v=>Zk P E T b o n v
 | .ap T Tc b i k,v=>ae1 P E T Tc b i k v
 | .ptr b off,v=>∃ x,E.κ b=some x/\v = .pointer (some ⟨x,off,none⟩)
 | .sl b off n c,v=>∃ x,E.κ b=some x/\v = .slice (some ⟨x,off,none⟩) n c
 | .E4,v=>v = .pointer none
 | .jz,v=>v = .slice none 0 0
 | .yX,v=>v = .map none
 | .map b,v=>∃ x,E.κ b=some x/\v = .map (some x)
 | .fn f first cap,v=>∃ l m,v = .func f ⟨l⟩ ⟨m⟩/\ba P E first l/\ba P E cap m
 | .Gs,v=>v = .nilFunc
 | .iface t x,v=>∃ y,v = .iface t y/\VK P E x y
 | .Gt,v=>v = .nilIface
 | .bA,_=>True
def ba (P:Program) (E:Env):List KV->List Value->Prop
 | [],l=>l = []
 | x::xs,l=>∃ y ys,l=y::ys/\VK P E x y/\ba P E xs ys
end
variable {P:Program} {E E' : Env}
theorem Rb.mono (h:E.le E') {sz:Nat} {a:Option Addr} {n cap:Nat} {m:Mk} (k:Rb E sz a n cap m):Rb E' sz a n cap m:=by
 cases m with
 | any=>trivial
 | exact=>exact ⟨k.1,fun b off e=>by obtain ⟨r,h1,h2⟩:=k.2 b off e; exact ⟨r,h.z _ _ h1,h2⟩⟩
 | aQ f=>
  refine ⟨k.1,k.2.imp id ?_⟩;rintro ⟨b,r,g,h1,h2,h3,h4,h5⟩;exact ⟨b,r,g,h1,h.z _ _ h2,h3,h.φ _ _ h4,h5⟩
theorem Vk.mono (h:E.le E') {sz:Nat} {a:Option Addr} {n:Nat} {es:List Value} (k:Vk E sz a n es):Vk E' sz a n es:=by
 refine k.imp id ?_;rintro ⟨b,off,r,h1,h2,h3⟩;exact ⟨b,off,r,h1,h.z _ _ h2,h3⟩
theorem ahA.mono (h:E.le E') {T:TypeId} {m:Mk} {n:Nat} {es:List Value} {v:Value} (k:ahA P E T m n es v):ahA P E' T m n es v:=by
 obtain ⟨a,cap,h1,h2,h3,h4⟩:=k;exact ⟨a,cap,h1,h2,h3.mono h,h4.mono h⟩
theorem ahB.mono (h:E.le E') {T Tc:TypeId} {i k:Nat} {es:List KV} {bo:List Value} {v:Value} (q:ahB P E T Tc i k es bo v):ahB P E' T Tc i k es bo v:=by
 obtain ⟨h1,h2,b,off,r,h3,h4,h5⟩:=q;exact ⟨h1,h2,b,off,r,h3,h.z _ _ h4,h5⟩
theorem Zk.mono (h:E.le E') {T:TypeId} {b o n:Nat} {v:Value} (q:Zk P E T b o n v):Zk P E' T b o n v:=by
 refine q.imp id ?_;rintro ⟨x,L,N,c,h1,h2⟩;exact ⟨x,L,N,c,h.α _ _ h1,h2⟩
theorem ae1.mono (h:E.le E') {T Tc:TypeId} {b i k:Nat} {v:Value} (q:ae1 P E T Tc b i k v):ae1 P E' T Tc b i k v:=by
 obtain ⟨x,L,N,h1,h2⟩:=q;exact ⟨x,L,N,h.α _ _ h1,h2⟩
mutual
theorem VK.mono (h:E.le E'):∀ {v:KV} {v' : Value},VK P E v v'->VK P E' v v'
 | .int k n,v,q=>q
 | .bool b,v,q=>q
 | .str s,v,q=>q
 | .agg cs,v,q=>by
  simp only [VK] at q ⊢;obtain ⟨l,e,q⟩:=q;exact ⟨l,e,ba.mono h q⟩
 | .jV cs,v,q=>by
  simp only [VK] at q ⊢;obtain ⟨l,e,q⟩:=q;exact ⟨l,e,ba.mono h q⟩
 | .ts T m n es acc,v,q=>by
  simp only [VK] at q ⊢;obtain ⟨t,l,q,k⟩:=q;exact ⟨t,l,ba.mono h q,k.mono h⟩
 | .tp T Tc i k es acc,v,q=>by
  simp only [VK] at q ⊢;obtain ⟨t,l,q,k⟩:=q;exact ⟨t,l,ba.mono h q,k.mono h⟩
 | .al T b o n,v,q=>by
  simp only [VK] at q ⊢;exact q.mono h
 | .ap T Tc b i k,v,q=>by
  simp only [VK] at q ⊢;exact q.mono h
 | .ptr b off,v,q=>by
  simp only [VK] at q ⊢;obtain ⟨x,e,q⟩:=q;exact ⟨x,h.κ _ _ e,q⟩
 | .sl b off n c,v,q=>by
  simp only [VK] at q ⊢;obtain ⟨x,e,q⟩:=q;exact ⟨x,h.κ _ _ e,q⟩
 | .E4,v,q=>q
 | .jz,v,q=>q
 | .yX,v,q=>q
 | .map b,v,q=>by
  simp only [VK] at q ⊢;obtain ⟨x,e,q⟩:=q;exact ⟨x,h.κ _ _ e,q⟩
 | .fn f first cap,v,q=>by
  simp only [VK] at q ⊢;obtain ⟨l,m,e,q1,q2⟩:=q;exact ⟨l,m,e,ba.mono h q1,ba.mono h q2⟩
 | .Gs,v,q=>q
 | .iface t x,v,q=>by
  simp only [VK] at q ⊢;obtain ⟨y,e,q⟩:=q;exact ⟨y,e,VK.mono h q⟩
 | .Gt,v,q=>q
 | .bA,v,q=>q
theorem ba.mono (h:E.le E'):∀ {v:List KV} {v' : List Value},ba P E v v'->ba P E' v v'
 | [],_,q=>q
 | x::xs,_,q=>by
  simp only [ba] at q ⊢;obtain ⟨y,ys,e,q1,q2⟩:=q;exact ⟨y,ys,e,VK.mono h q1,ba.mono h q2⟩
end
theorem ba.nil:ba P E [] []:=by simp [ba]
theorem ba.cons {x:KV} {y:Value} {xs:List KV} {ys:List Value} (h:VK P E x y) (k:ba P E xs ys):ba P E (x::xs) (y::ys):=by
 simp only [ba]; exact ⟨y,ys,rfl,h,k⟩
theorem ba.bZ {l:List Value} (h:ba P E [] l):l = []:=by simpa [ba] using h
theorem ba.cons_inv {x:KV} {xs:List KV} {l:List Value} (h:ba P E (x::xs) l):∃ y ys,l=y::ys/\VK P E x y/\ba P E xs ys:=by simpa [ba] using h
theorem ba.dH {x:KV} {l:List Value} (h:ba P E [x] l):∃ y,l = [y]/\VK P E x y:=by
 obtain ⟨y,ys,rfl,h1,h2⟩:=h.cons_inv;rw [h2.bZ]; exact ⟨y,rfl,h1⟩
theorem ba.ju {x y:KV} {l:List Value} (h:ba P E [x,y] l):∃ x' y',l = [x',y']/\VK P E x x'/\VK P E y y':=by
 obtain ⟨a,ys,rfl,h1,h2⟩:=h.cons_inv;obtain ⟨b,rfl,h3⟩:=h2.dH;exact ⟨a,b,rfl,h1,h3⟩
theorem ba.Tu {x y u:KV} {l:List Value} (h:ba P E [x,y,u] l):∃ x' y' u',l = [x',y',u']/\VK P E x x'/\VK P E y y'/\VK P E u u':=by
 obtain ⟨a,ys,rfl,h1,h2⟩:=h.cons_inv;obtain ⟨b,c,rfl,h3,h4⟩:=h2.ju;exact ⟨a,b,c,rfl,h1,h3,h4⟩
theorem ba.length:∀ {l:List KV} {l' : List Value},ba P E l l'->l'.length=l.length
 | [],l',h=>by rw [h.bZ]; rfl
 | x::xs,l',h=>by
  obtain ⟨y,ys,rfl,_,k⟩:=h.cons_inv;simp [ba.length k]
theorem ba.get:∀ {l:List KV} {l' : List Value} {i:Nat} {v:KV},ba P E l l'->l[i]? = some v->∃ v',l'[i]? = some v'/\VK P E v v'
 | [],_,_,_,_,e=>by simp at e
 | x::xs,l',i,v,h,e=>by
  obtain ⟨y,ys,rfl,yS,k⟩:=h.cons_inv;cases i with
  | zero=>simp at e; subst e; exact ⟨y,rfl,yS⟩
  | succ i=>simp at e; simpa using ba.get k e
theorem ba.append:∀ {a:List KV} {a' : List Value} {b:List KV} {b' : List Value},ba P E a a'->ba P E b b'->ba P E (a++b) (a'++b')
 | [],a',b,b',h,k=>by rw [h.bZ]; exact k
 | x::xs,a',b,b',h,k=>by
  obtain ⟨y,ys,rfl,yS,m⟩:=h.cons_inv;exact .cons yS (ba.append m k)
theorem ba.take:∀ (n:Nat) {l:List KV} {l' : List Value},ba P E l l'->ba P E (l.take n) (l'.take n)
 | 0,_,_,_=>by simp [ba.nil]
 | n+1,[],l',h=>by rw [h.bZ]; simp [ba.nil]
 | n+1,x::xs,l',h=>by
  obtain ⟨y,ys,rfl,yS,k⟩:=h.cons_inv;simpa using ba.cons yS (ba.take n k)
theorem ba.drop:∀ (n:Nat) {l:List KV} {l' : List Value},ba P E l l'->ba P E (l.drop n) (l'.drop n)
 | 0,_,_,h=>by simpa using h
 | n+1,[],l',h=>by rw [h.bZ]; simp [ba.nil]
 | n+1,x::xs,l',h=>by
  obtain ⟨y,ys,rfl,_,k⟩:=h.cons_inv;simpa using ba.drop n k
theorem Rc {α:Type} : ∀ {n:Nat} {l r:List α},tR n l=some r->r=l.take n/\n<=l.length
 | 0,l,r,h=>by simp [tR] at h; subst h; simp
 | n+1,[],r,h=>by simp [tR] at h
 | n+1,x::xs,r,h=>by
  simp only [tR,cC] at h;obtain ⟨q,hq,rfl⟩:=h;obtain ⟨rfl,hn⟩:=Rc hq;exact ⟨by simp,by simpa using hn⟩
theorem KK {α:Type} : ∀ (n:Nat) (l:List α),Bb n l=l.drop n
 | 0,l=>rfl
 | n+1,[]=>rfl
 | n+1,x::xs=>by simp [Bb,KK n xs]
theorem KL:∀ {n:Nat} {l:List Value},n<=l.length->takeN n l=some (l.take n)
 | 0,l,_=>rfl
 | n+1,[],h=>by simp at h
 | n+1,x::xs,h=>by rw [Y8,KL (n:=n) (l:=xs) (by simpa using h)]; rfl
theorem ba.tR {n k:Nat} {l r:List KV} {l' : List Value} (h:ba P E l l') (e:tR n (Bb k l)=some r):∃ r',takeN n (Gg k l')=some r'/\ba P E r r'/\r' = (l'.drop k).take n:=by
 obtain ⟨rfl,hn⟩:=Rc e;rw [KK] at hn ⊢;have hl:=h.length;rw [qu];refine ⟨_,KL ?_,(h.drop k).take n,rfl⟩;simp only [List.length_drop] at hn ⊢;omega
theorem ba.jW:∀ {n:Nat} {l:List KV} {l' : List Value} {vs r:List KV} {cE:List Value},jW n l vs=some r->ba P E l l'->ba P E vs cE->∃ r',fV n l' cE=some r'/\ba P E r r'
 | 0,l,l',[],r,cE,h,hl,hv=>by simp [K.jW] at h; subst h; rw [hv.bZ]; exact ⟨l',w7 l',hl⟩
 | 0,[],l',_::_,r,cE,h,hl,hv=>by simp [K.jW] at h
 | 0,x::l,l',v::vs,r,cE,h,hl,hv=>by
  obtain ⟨y,ys,rfl,_,k⟩:=hl.cons_inv;obtain ⟨u,us,rfl,h1,h2⟩:=hv.cons_inv;simp only [K.jW,cC] at h;obtain ⟨q,hq,rfl⟩:=h;obtain ⟨r',e,hr⟩:=ba.jW hq k h2;exact ⟨u::r',by simp [tL,e],.cons h1 hr⟩
 | n+1,[],l',[],r,cE,h,hl,hv=>by simp [K.jW] at h; subst h; rw [hl.bZ,hv.bZ]; exact ⟨[],rfl,.nil⟩
 | n+1,[],l',_::_,r,cE,h,hl,hv=>by simp [K.jW] at h
 | n+1,x::l,l',vs,r,cE,h,hl,hv=>by
  obtain ⟨y,ys,rfl,h1,k⟩:=hl.cons_inv;simp only [K.jW,cC] at h;obtain ⟨q,hq,rfl⟩:=h;obtain ⟨r',e,hr⟩:=ba.jW hq k hv;exact ⟨y::r',by simp [pS,e],.cons h1 hr⟩
theorem ba.UZ:∀ {l:List KV} {l' : List Value},l'.length=l.length->(∀ (i:Nat) (v:KV) (v' : Value),l[i]? = some v->l'[i]? = some v'->VK P E v v')->ba P E l l'
 | [],l',h,_=>by cases l' <;> simp_all [ba.nil]
 | x::xs,l',h,k=>by
  cases l' with
  | nil=>simp at h
  | cons y ys=>exact .cons (k 0 x y rfl rfl) (ba.UZ (by simpa using h) fun i v v' e e'=>k (i+1) v v' (by simpa using e) (by simpa using e'))
theorem VK.cD {k:IntKind} {n:Int} {v:Value} (h:VK P E (.int k n) v):v = .int k n:=by simpa [VK] using h
theorem VK.dY {b:Bool} {v:Value} (h:VK P E (.bool b) v):v = .bool b:=by simpa [VK] using h
theorem VK.qA {s:ByteArray} {v:Value} (h:VK P E (.str s) v):v = .string s:=by simpa [VK] using h
theorem VK.jP {cs:List KV} {v:Value} (h:VK P E (.agg cs) v):∃ l,v = .agg ⟨l⟩/\ba P E cs l:=by simpa [VK] using h
theorem VK.O7 {cs:List KV} {v:Value} (h:VK P E (.jV cs) v):∃ l,v = .tuple ⟨l⟩/\ba P E cs l:=by simpa [VK] using h
theorem VK.gG {b off:Nat} {v:Value} (h:VK P E (.ptr b off) v):∃ x,E.κ b=some x/\v = .pointer (some ⟨x,off,none⟩):=by simpa [VK] using h
theorem VK.Rd {b off n c:Nat} {v:Value} (h:VK P E (.sl b off n c) v):∃ x,E.κ b=some x/\v = .slice (some ⟨x,off,none⟩) n c:=by simpa [VK] using h
theorem VK.Ie {f:Fn} {a b:List KV} {v:Value} (h:VK P E (.fn f a b) v):∃ l m,v = .func f ⟨l⟩ ⟨m⟩/\ba P E a l/\ba P E b m:=by simpa [VK] using h
theorem VK.jY {T:TypeId} {m:Mk} {n:Nat} {es:List KV} {acc:Nat->KV} {v:Value} (h:VK P E (.ts T m n es acc) v):gL P T n es acc/\∃ bo,ba P E es bo/\ahA P E T m n bo v:=by simpa [VK] using h
theorem VK.Mz {T Tc:TypeId} {i k:Nat} {es:List KV} {acc:Nat->KV} {v:Value} (h:VK P E (.tp T Tc i k es acc) v):gL P T es.length es acc/\∃ bo,ba P E es bo/\ahB P E T Tc i k es bo v:=by simpa [VK] using h
theorem VK.uO {T:TypeId} {b o n:Nat} {v:Value} (h:VK P E (.al T b o n) v):Zk P E T b o n v:=by simpa [VK] using h
theorem VK.Ig {T Tc:TypeId} {b i k:Nat} {v:Value} (h:VK P E (.ap T Tc b i k) v):ae1 P E T Tc b i k v:=by simpa [VK] using h
theorem VK.R9 {T:TypeId} {b o n:Nat} {v:Value} (h:Zk P E T b o n v):VK P E (.al T b o n) v:=by simpa [VK] using h
theorem VK.anP {T Tc:TypeId} {b i k:Nat} {v:Value} (h:ae1 P E T Tc b i k v):VK P E (.ap T Tc b i k) v:=by simpa [VK] using h
theorem Zk.slice {T:TypeId} {b o n:Nat} {v:Value} (h:Zk P E T b o n v):∃ a c,v = .slice a n c:=by
 rcases h with ⟨rfl,_,rfl⟩ | ⟨x,L,N,c,_,rfl,_⟩
 ·exact ⟨_,_,rfl⟩
 ·exact ⟨_,_,rfl⟩
theorem VK.nt {v:Value} (h:VK P E .jz v):v = .slice none 0 0:=by simpa [VK] using h
theorem VK.Re {v:Value} (h:VK P E .E4 v):v = .pointer none:=by simpa [VK] using h
theorem VK.mkInt {k:IntKind} {n:Int} : VK P E (.int k n) (.int k n):=by simp [VK]
theorem VK.po {b:Bool} : VK P E (.bool b) (.bool b):=by simp [VK]
theorem VK.mkStr {s:ByteArray} : VK P E (.str s) (.string s):=by simp [VK]
theorem VK.ow {cs:List KV} {l:List Value} (h:ba P E cs l):VK P E (.agg cs) (.agg ⟨l⟩):=by simp only [VK]; exact ⟨l,rfl,h⟩
theorem VK.abS {cs:List KV} {l:List Value} (h:ba P E cs l):VK P E (.jV cs) (.tuple ⟨l⟩):=by simp only [VK]; exact ⟨l,rfl,h⟩
theorem VK.xa {b x off:Nat} (h:E.κ b=some x):VK P E (.ptr b off) (.pointer (some ⟨x,off,none⟩)):=by simp only [VK]; exact ⟨x,h,rfl⟩
theorem VK.alE {b x off n c:Nat} (h:E.κ b=some x):VK P E (.sl b off n c) (.slice (some ⟨x,off,none⟩) n c):=by simp only [VK]; exact ⟨x,h,rfl⟩
theorem VK.ahC {f:Fn} {a b:List KV} {l m:List Value} (h:ba P E a l) (k:ba P E b m):VK P E (.fn f a b) (.func f ⟨l⟩ ⟨m⟩):=by simp only [VK]; exact ⟨l,m,rfl,h,k⟩
theorem VK.undef:VK P E qf undef:=VK.abS .nil
theorem VK.qB {v:Value} : VK P E .bA v:=by simp [VK]
theorem VK.cells {v:KV} {v' : Value} (h:VK P E v v') (hu:ti v=true):ba P E v.cells v'.cells.toList:=by
 cases v with
 | agg cs=>obtain ⟨l,rfl,q⟩:=h.jP; exact q
 | int k n=>have:=h.cD; subst this; exact .cons h .nil
 | bool b=>have:=h.dY; subst this; exact .cons h .nil
 | str b=>have:=h.qA; subst this; exact .cons h .nil
 | jV cs=>have q:=h; obtain ⟨l,rfl,_⟩:=h.O7; exact .cons q .nil
 | ts T m n es acc=>have q:=h; obtain ⟨_,_,_,a,cap,rfl,_⟩:=h.jY; exact .cons q .nil
 | tp T Tc i k es acc=>have q:=h; obtain ⟨_,_,_,_,_,b,off,r,rfl,_⟩:=h.Mz; exact .cons q .nil
 | al T b o n=>have q:=h; obtain ⟨a,c,rfl⟩:=h.uO.slice; exact .cons q .nil
 | ap T Tc b i k=>have q:=h; obtain ⟨x,L,N,_,_,_,rfl⟩:=h.Ig; exact .cons q .nil
 | ptr b off=>have q:=h; obtain ⟨x,_,rfl⟩:=h.gG; exact .cons q .nil
 | sl b off n c=>have q:=h; obtain ⟨x,_,rfl⟩:=h.Rd; exact .cons q .nil
 | E4=>have q:=h; simp only [VK] at h; subst h; exact .cons q .nil
 | jz=>have q:=h; simp only [VK] at h; subst h; exact .cons q .nil
 | yX=>have q:=h; simp only [VK] at h; subst h; exact .cons q .nil
 | map b=>have q:=h; simp only [VK] at h; obtain ⟨x,_,rfl⟩:=h; exact .cons q .nil
 | fn f a b=>have q:=h; obtain ⟨l,m,rfl,_⟩:=h.Ie; exact .cons q .nil
 | Gs=>have q:=h; simp only [VK] at h; subst h; exact .cons q .nil
 | iface t x=>have q:=h; simp only [VK] at h; obtain ⟨y,rfl,_⟩:=h; exact .cons q .nil
 | Gt=>have q:=h; simp only [VK] at h; subst h; exact .cons q .nil
 | bA=>simp [ti] at hu
theorem VK.scalar {v:KV} {v' : Value} (h:VK P E v v') (ho:one v=true):aq.scalar v' = true:=by
 cases v with
 | agg cs=>simp [one] at ho
 | jV cs=>simp [one] at ho
 | bA=>simp [one] at ho
 | int k n=>have:=h.cD; subst this; rfl
 | bool b=>have:=h.dY; subst this; rfl
 | str b=>have:=h.qA; subst this; rfl
 | ts T m n es acc=>obtain ⟨_,_,_,a,cap,rfl,_⟩:=h.jY; rfl
 | tp T Tc i k es acc=>obtain ⟨_,_,_,_,_,b,off,r,rfl,_⟩:=h.Mz; rfl
 | al T b o n=>obtain ⟨a,c,rfl⟩:=h.uO.slice; rfl
 | ap T Tc b i k=>obtain ⟨x,L,N,_,_,_,rfl⟩:=h.Ig; rfl
 | ptr b off=>obtain ⟨x,_,rfl⟩:=h.gG; rfl
 | sl b off n c=>obtain ⟨x,_,rfl⟩:=h.Rd; rfl
 | E4=>simp only [VK] at h; subst h; rfl
 | jz=>simp only [VK] at h; subst h; rfl
 | yX=>simp only [VK] at h; subst h; rfl
 | map b=>simp only [VK] at h; obtain ⟨x,_,rfl⟩:=h; rfl
 | fn f a b=>obtain ⟨l,m,rfl,_⟩:=h.Ie; rfl
 | Gs=>simp only [VK] at h; subst h; rfl
 | iface t x=>simp only [VK] at h; obtain ⟨y,rfl,_⟩:=h; rfl
 | Gt=>simp only [VK] at h; subst h; rfl
theorem ba.scalar:∀ {l:List KV} {l' : List Value},ba P E l l'->fY l=true->∀ v∈l',aq.scalar v=true
 | [],l',h,_,v,hv=>by rw [h.bZ] at hv; simp at hv
 | x::xs,l',h,ho,v,hv=>by
  obtain ⟨y,ys,rfl,h1,h2⟩:=h.cons_inv;simp only [fY,au] at ho;rcases dv.1 hv with rfl | hv
  ·exact h1.scalar ho.1
  ·exact ba.scalar h2 ho.2 v hv
theorem vX {v:KV} (h:fY v.cells=true):ti v=true:=by
 cases v <;> first | rfl | simp [KV.cells,fY,one] at h
mutual
theorem VK.ff:∀ (v:Value),VK P E (ff v) v
 | .bool b=>by simp [K.ff,VK]
 | .int k n=>by simp [K.ff,VK]
 | .string s=>by simp [K.ff,VK]
 | .pointer none=>by simp [K.ff,VK]
 | .pointer (some a)=>by simp [K.ff,VK]
 | .slice none 0 0=>by simp [K.ff,VK]
 | .slice none 0 (n+1)=>by simp [K.ff,VK]
 | .slice none (n+1) c=>by simp [K.ff,VK]
 | .slice (some a) n c=>by simp [K.ff,VK]
 | .map none=>by simp [K.ff,VK]
 | .map (some r)=>by simp [K.ff,VK]
 | .nilFunc=>by simp [K.ff,VK]
 | .nilIface=>by simp [K.ff,VK]
 | .agg cs=>by
  obtain ⟨l⟩:=cs;simp only [K.ff,ofA];exact .ow (ba.ofL l)
 | .tuple cs=>by
  obtain ⟨l⟩:=cs;simp only [K.ff,ofA];exact .abS (ba.ofL l)
 | .float _ _=>by simp [K.ff,VK]
 | .complex _ _ _=>by simp [K.ff,VK]
 | .chan _=>by simp [K.ff,VK]
 | .func _ _ _=>by simp [K.ff,VK]
 | .iface _ _=>by simp [K.ff,VK]
theorem ba.ofL:∀ (l:List Value),ba P E (ofL l) l
 | []=>.nil
 | v::vs=>.cons (VK.ff v) (ba.ofL vs)
end
theorem Bg {z:Value} (h:fY (ff z).cells=true):ba P E (ff z).cells z.cells.toList:=(VK.ff z).cells (vX h)
def Fx (E:Env) (A:ao):Prop:=∀ b c g tb sb tc sc,A.get b=some (.aQ tb sb)->A.get c=some (.aQ tc sc)->E.φ b=some g->E.φ c=some g->b=c
def AR (A:ao) (E:Env) (x:Nat):Prop:=∃ b v L N,A.get b=some (.arr v)/\E.α b=some (x,L,N)
def AF (A:ao) (E:Env) (B:St) (g:Nat):Prop:=∃ b v x L N cs e own k,A.get b=some (.arr v)/\E.α b=some (x,L,N)/\B.get x=some (.row cs e own (some (g,k)))
def AT (A:ao) (E:Env) (B:St) (y:Nat):Prop:=AR A E y\/∃ g,AF A E B g/\y∈B.members g
def abT (P:Program) (E:Env) (B:St) (b:Nat) (v:KV):Prop:=∃ T N es acc,v = .ts T .any N es acc/\gL P T N es acc/\1<=bf P T/\
 ((N=0/\E.α b=none)\/∃ x cs bQ bo,E.α b=some (x,cs.length,N)/\B.get x=some (.row cs (bf P T) true bQ)/\ba P E es bo/\nG (bf P T) 0 cs bo)
def Vl (P:Program) (E:Env) (b:Nat) (v:KV):Prop:=∃ T N es acc,v = .ts T .any N es acc/\gL P T N es acc/\1<=bf P T/\
 ((N=0/\E.α b=none)\/∃ x r bo,E.α b=some (x,r.cs.length,N)/\E.z x=some r/\r.bH=bf P T/\ba P E es bo/\nG (bf P T) 0 r.cs bo)
theorem abT.mono (h:E.le E') {B B' : St} {b:Nat} {v:KV} (pq:E'.α b=E.α b) (hB:∀ x L N,E.α b=some (x,L,N)->B'.get x=B.get x) (q:abT P E B b v):abT P E' B' b v:=by
 obtain ⟨T,N,es,acc,h1,h2,h3,h4⟩:=q;refine ⟨T,N,es,acc,h1,h2,h3,?_⟩;rcases h4 with ⟨h4,h5⟩ | ⟨x,cs,bQ,bo,h4,h5,h6,h7⟩
 ·exact .inl ⟨h4,by rw [pq]; exact h5⟩
 ·exact .inr ⟨x,cs,bQ,bo,by rw [pq]; exact h4,by rw [hB _ _ _ h4]; exact h5,h6.mono h,h7⟩
theorem Vl.mono (h:E.le E') {b:Nat} {v:KV} (pq:E'.α b=E.α b) (q:Vl P E b v):Vl P E' b v:=by
 obtain ⟨T,N,es,acc,h1,h2,h3,h4⟩:=q;refine ⟨T,N,es,acc,h1,h2,h3,?_⟩;rcases h4 with ⟨h4,h5⟩ | ⟨x,r,bo,h4,h5,h6,h7,h8⟩
 ·exact .inl ⟨h4,by rw [pq]; exact h5⟩
 ·exact .inr ⟨x,r,bo,by rw [pq]; exact h4,h.z _ _ h5,h6,h7.mono h,h8⟩
structure MA (P:Program) (E:Env) (A:ao) (B:St):Prop where
 arr:∀ b v,A.get b=some (.arr v)->abT P E B b v
 il:∀ b v,A.get b=some (.il v)->Vl P E b v
 z:∀ x,AR A E x->E.z x=none/\∀ c,E.κ c≠some x
 inj:∀ b c v u x L N L' N',A.get b=some (.arr v)->A.get c=some (.arr u)->E.α b=some (x,L,N)->E.α c=some (x,L',N')->b=c
 tg:∀ b c v u x y L N L' N' cs e own g k bV e' od k',A.get b=some (.arr v)->A.get c=some (.arr u)->E.α b=some (x,L,N)->E.α c=some (y,L',N')->B.get x=some (.row cs e own (some (g,k)))->B.get y=some (.row bV e' od (some (g,k')))->b=c
 dis:∀ b x,E.κ b=some x->E.α b=none
 jx:∀ b p,E.α b=some p->b < A.next
 fk:∀ b x L N,E.α b=some (x,L,N)->x < B.next
 rq:∀ b v x L N cs e own g k,A.get b=some (.arr v)->E.α b=some (x,L,N)->B.get x=some (.row cs e own (some (g,k)))->g < B.next/\(∀ f,E.φ f≠some g)/\∀ y∈B.members g,y≠x->E.z y=none/\¬ AR A E y/\∀ c,E.κ c≠some y
 nk:∀ b v,A.get b=some (.arr v)->b < A.next/\E.κ b=none
structure dU (P:Program) (E:Env) (A:ao) (B:St):Prop where
 row:∀ b cs bH,A.get b=some (.row cs bH)->∃ x bV,E.κ b=some x/\B.get x=some (.row bV bH true none)/\ba P E cs bV
 aQ:∀ b top sz,A.get b=some (.aQ top sz)->(top=0/\E.φ b=none)\/∃ g,E.φ b=some g/\0 < top/\∀ x∈B.members g,∀ cs e own f k,B.get x=some (.row cs e own (some (f,k)))->k=0/\cs.length<=top * sz
 z:∀ b r,E.z b=some r->B.get b=some (.row r.cs r.bH r.own r.bQ)
 apart:∀ b x,E.κ b=some x->E.z x=none
 inj:∀ b c x,E.κ b=some x->E.κ c=some x->b=c
 ib:Fx E A
 jx:∀ b x,E.κ b=some x->b < A.next
 kQ:∀ b g,E.φ b=some g->b < A.next
 live:∀ b o,A.get b=some o->b < A.next
 fk:∀ b x,E.κ b=some x->x < B.next
 kR:∀ b r,E.z b=some r->b < B.next
 iR:∀ b g,E.φ b=some g->g < B.next
 fresh:∀ g,B.next<=g->B.members g = []
 mem:∀ g x,x∈B.members g->x < B.next
 ar:MA P E A B
structure Ev (P:Program) (base:Nat) (E:Env) (A:ao) (B:St) (ρ:Ren) (w:World) (E' : Env) (A' : ao) (B' : St) (aJ:Ren) (w' : World):Prop where
 gX:dU P E' A' B'
 eF:jG base ρ B w aJ B' w'
 le:E.le E'
 next:A.next<=A'.next
 eY:∀ x,x < B.next->(∀ b,E.κ b≠some x)->¬ AT A E B x->B'.get x=B.get x
 new:∀ b x,E'.κ b=some x->E.κ b=some x\/B.next<=x
 sh:∀ b r,E'.z b=some r->E.z b=some r\/AR A E b\/B.next<=b
 si:∀ b g,E'.φ b=some g->(∃ c,E.φ c=some g)\/B.next<=g
 oX:∀ g,g < B.next->(∀ b,E.φ b≠some g)->¬ AF A E B g->B'.members g=B.members g
 lN:∀ x,AR A' E' x->AR A E x\/B.next<=x
 ml:∀ g,AF A' E' B' g->AF A E B g\/B.next<=g
 tU:∀ g y,y∈B'.members g->y∈B.members g\/B.next<=y
 nu:∀ y,AT A' E' B' y->AT A E B y\/B.next<=y
 rows:∀ y,y < B.next->∀ cs e own bQ,B'.get y=some (.row cs e own bQ)->∃ kL,B.get y=some (.row kL e own bQ)/\kL.length=cs.length
theorem Ev.refl {base:Nat} {A:ao} {B:St} {ρ:Ren} {w:World} (h:dU P E A B) (s:ra ρ B base w):Ev P base E A B ρ w E A B ρ w:=
 ⟨h,.refl s,Env.le_refl _,aH _,fun _ _ _ _=>rfl,fun _ _ h=>.inl h,fun _ _ h=>.inl h,fun _ _ h=>.inl ⟨_,h⟩,fun _ _ _ _=>rfl,fun _ h=>.inl h,fun _ h=>.inl h,fun _ _ h=>.inl h,fun _ h=>.inl h,fun _ _ cs _ _ _ h=>⟨cs,h,rfl⟩⟩
theorem Ev.trans {base:Nat} {E1 E2 E3:Env} {A1 A2 A3:ao} {B1 B2 B3:St} {lr tV ρ3:Ren} {w1 w2 w3:World} (h:Ev P base E1 A1 B1 lr w1 E2 A2 B2 tV w2) (k:Ev P base E2 A2 B2 tV w2 E3 A3 B3 ρ3 w3) :
  Ev P base E1 A1 B1 lr w1 E3 A3 B3 ρ3 w3 where
 gX:=k.gX
 eF:=h.eF.trans k.eF
 le:=Env.le_trans h.le k.le
 next:=kH h.next k.next
 eY x hx hn ha:=by
  refine (k.eY x (kJ hx h.eF.next) (fun b e=>?_) fun q=>?_).trans (h.eY x hx hn ha)
  ·rcases h.new b x e with e | e
   ·exact hn b e
   ·omega
  ·rcases h.nu x q with e | e
   ·exact ha e
   ·omega
 new b x e:=by
  rcases k.new b x e with e | e
  ·rcases h.new b x e with e | e
   ·exact .inl e
   ·exact .inr e
  ·have:=h.eF.next; exact .inr (by omega)
 sh b r e:=by
  rcases k.sh b r e with e | e | e
  ·exact h.sh b r e
  ·exact .inr (h.lN b e)
  ·have:=h.eF.next; exact .inr (.inr (by omega))
 si b g e:=by
  rcases k.si b g e with ⟨c,e⟩ | e
  ·exact h.si c g e
  ·have:=h.eF.next; exact .inr (by omega)
 oX g hg hn ha:=by
  refine (k.oX g (kJ hg h.eF.next) (fun b e=>?_) fun q=>?_).trans (h.oX g hg hn ha)
  ·rcases h.si b g e with ⟨c,e⟩ | e
   ·exact hn c e
   ·omega
  ·rcases h.ml g q with e | e
   ·exact ha e
   ·omega
 lN x e:=by
  rcases k.lN x e with e | e
  ·exact h.lN x e
  ·have:=h.eF.next; exact .inr (by omega)
 ml g e:=by
  rcases k.ml g e with e | e
  ·exact h.ml g e
  ·have:=h.eF.next; exact .inr (by omega)
 tU g y e:=by
  rcases k.tU g y e with e | e
  ·exact h.tU g y e
  ·have:=h.eF.next; exact .inr (by omega)
 nu y e:=by
  rcases k.nu y e with e | e
  ·exact h.nu y e
  ·have:=h.eF.next; exact .inr (by omega)
 rows y hy cs e own bQ q:=by
  obtain ⟨c1,h1,h2⟩:=k.rows y (kJ hy h.eF.next) cs e own bQ q;obtain ⟨c0,h3,h4⟩:=h.rows y hy c1 e own bQ h1;exact ⟨c0,h3,h4.trans h2⟩
@[simp] theorem ao.b5 (A:ao) (b:Nat) (o:ik) (x:Nat):(A.put b o).get x=if x=b then some o else A.get x:=by simp [ao.put,ao.get,Trie.nE]
@[simp] theorem ao.cS (A:ao) (o:ik) (x:Nat):(A.new o).get x=if x=A.next then some o else A.get x:=by simp [ao.new,ao.get,Trie.nE]
@[simp] theorem ao.qv (A:ao) (b:Nat) (o:ik):(A.put b o).next=A.next:=rfl
@[simp] theorem ao.b7 (A:ao) (o:ik):(A.new o).next=A.next+1:=rfl
theorem Fx.put {A:ao} (h:Fx E A) {b:Nat} {o:ik} (ho:(∀ t s,o≠.aQ t s)\/E.φ b=none):Fx E (A.put b o):=by
 intro x y g tx sx ty sy hx hy ex ey;have key:∀ {z t s},(A.put b o).get z=some (.aQ t s)->E.φ z=some g->A.get z=some (.aQ t s):=by
  intro z t s hz ez;rw [ao.b5] at hz;split at hz
  ·rename_i e
   simp at hz;rcases ho with ho | ho
   ·exact absurd hz (ho t s)
   ·rw [e,ho] at ez; simp at ez
  ·exact hz
 exact h x y g tx sx ty sy (key hx ex) (key hy ey) ex ey
theorem Fx.new {A:ao} (h:Fx E A) {o:ik} (ho:(∀ t s,o≠.aQ t s)\/E.φ A.next=none):Fx E (A.new o):=by
 intro x y g tx sx ty sy hx hy ex ey;have key:∀ {z t s},(A.new o).get z=some (.aQ t s)->E.φ z=some g->A.get z=some (.aQ t s):=by
  intro z t s hz ez;rw [ao.cS] at hz;split at hz
  ·rename_i e
   simp at hz;rcases ho with ho | ho
   ·exact absurd hz (ho t s)
   ·rw [e,ho] at ez; simp at ez
  ·exact hz
 exact h x y g tx sx ty sy (key hx ex) (key hy ey) ex ey
structure KJ (P:Program) (E:Env) (A:ao) (B:St) (ρ:Ren) (base:Nat) (w:World):Prop where
 k:dU P E A B
 s:ra ρ B base w
theorem Ev.kj {base:Nat} {E1 E2:Env} {A1 A2:ao} {B1 B2:St} {lr tV:Ren} {w1 w2:World} (h:Ev P base E1 A1 B1 lr w1 E2 A2 B2 tV w2):KJ P E2 A2 B2 tV base w2:=⟨h.gX,h.eF.gX⟩
def VC (P:Program) (E:Env) (ρ:Ren) (v:KV) (v' : Value):Prop:=∃ u,VK P E v u/\VR ρ u v'
theorem VC.mono {ρ aJ:Ren} {v:KV} {v' : Value} (h:VC P E ρ v v') (k:E.le E') (m:ρ.le aJ):VC P E' aJ v v':=by
 obtain ⟨u,h1,h2⟩:=h;exact ⟨u,h1.mono k,h2.mono m⟩
theorem VC.bA {ρ:Ren} {v' : Value} : VC P E ρ .bA v':=⟨.chan none,.qB,by simp [VR]⟩
theorem VC.undef {ρ:Ren} : VC P E ρ qf undef:=⟨_,.undef,VR.undef⟩
end Go.K
end
section
namespace Go.K
open Go Go.aq
variable {P:Program} {E:Env}
def aK {α:Type} (r:KR α) (v:α):Prop:=
 match r with
 | .no=>False
 | .ok u=>u=v
 | .jt c u=>c=true/\u=v
 | .br c x y=>(c=true/\aK x v)\/(c=false/\aK y v)
theorem KR.yb {α R:Type} {k:α->Option R} {x:R} : ∀ {r:KR α},r.run k=some x->∃ v,aK r v/\k v=some x:=by
 intro r h
 match r,h with
 | .no,h=>exact absurd h (by simp [KR.run])
 | .ok v,h=>exact ⟨v,rfl,h⟩
 | .jt c v,h=>
  cases c with
  | false=>exact absurd h (by simp [KR.run])
  | true=>exact ⟨v,⟨rfl,rfl⟩,h⟩
 | .br c x y,h=>
  cases c with
  | false=>obtain ⟨v,h1,h2⟩:=KR.yb (r:=y) (k:=k) h; exact ⟨v,.inr ⟨rfl,h1⟩,h2⟩
  | true=>obtain ⟨v,h1,h2⟩:=KR.yb (r:=x) (k:=k) h; exact ⟨v,.inl ⟨rfl,h1⟩,h2⟩
theorem aK.at {α:Type} {i:Int} {f:Nat->KR α} {v:α} : ∀ {m j:Nat},aK (alz i f m j) v->∃ k,j<=k/\k < j+m/\i=(k:Int)/\aK (f k) v
 | 0,j,h=>h.elim
 | m+1,j,h=>by
  rcases h with ⟨h1,h2⟩ | ⟨_,h2⟩
  ·exact ⟨j,aH j,by omega,QZ h1,h2⟩
  ·obtain ⟨k,h3,h4,h5,h6⟩:=aK.at (m:=m) (j:=j+1) h2
   exact ⟨k,by omega,by omega,h5,h6⟩
theorem aK.of {α:Type} {o:Option α} {v:α} (h:aK (KR.of o) v):o=some v:=by
 cases o with
 | none=>exact h.elim
 | some u=>have h:u=v:=h; rw [h]
theorem aK.cond {α:Type} {c:Bool} {r:KR α} {v:α} (h:aK (cond c r .no) v):c=true/\aK r v:=by
 cases c with
 | false=>exact h.elim
 | true=>exact ⟨rfl,h⟩
theorem MB {α:Type} {c:Bool} {r:Option α} {v:α} (h:cond c r none=some v):c=true/\r=some v:=by
 cases c with
 | false=>simp at h
 | true=>exact ⟨rfl,h⟩
def tW (P:Program) (f:FP) (g:List Value->Option Value):Prop:=
 ∀ (E:Env) (vs:List KV) (us:List Value) (v:KV),ba P E vs us->aK (f vs) v->∃ u,g us=some u/\VK P E v u
theorem ahD:tW P afU L8:=by
 intro E vs us v h hg
 match vs,hg with
 | [x],hg=>
  obtain ⟨y,rfl,h1⟩:=h.dH;have hg:x=v:=hg;subst hg;exact ⟨y,rfl,h1⟩
theorem amB:tW P afV L8:=by
 intro E vs us v h hg
 match vs,hg with
 | [.bool b],hg=>
  obtain ⟨y,rfl,h1⟩:=h.dH;have hb:v = .bool b:=by
   rcases hg with ⟨rfl,h2⟩ | ⟨rfl,h2⟩
   ·exact (show KV.bool true=v from h2).symm
   ·exact (show KV.bool false=v from h2).symm
  subst hb;exact ⟨_,rfl,h1⟩
 | [x],hg=>
  have key:v=x:=by
   cases x <;> first | exact (show _=v from hg).symm | skip
   rcases hg with ⟨rfl,h2⟩ | ⟨rfl,h2⟩
   ·exact (show KV.bool true=v from h2).symm
   ·exact (show KV.bool false=v from h2).symm
  subst key;obtain ⟨y,rfl,h1⟩:=h.dH;exact ⟨_,rfl,h1⟩
theorem amC {b:Bool} : tW P (cond b afV afU) L8:=by
 cases b with
 | true=>exact amB
 | false=>exact ahD
theorem anQ:tW P ajX afH:=by
 intro E vs us v h hg
 match vs,hg with
 | [.bool t,.bool a,.bool b],hg=>
  obtain ⟨x,y,z,rfl,h1,h2,h3⟩:=h.Tu;have:=h1.dY; subst this;have:=h2.dY; subst this;have:=h3.dY; subst this;have hg:KV.bool (cond t a b)=v:=hg;subst hg;exact ⟨_,rfl,by cases t <;> exact .po⟩
 | [.bool t,a,b],hg=>
  obtain ⟨x,y,z,rfl,h1,h2,h3⟩:=h.Tu;have:=h1.dY; subst this;refine ⟨_,rfl,?_⟩;have hg:v=cond t a b\/∃ p q,a = .bool p/\b = .bool q/\v = .bool (cond t p q):=by
   unfold ajX at hg;split at hg
   ·rename_i t' a' b' e
    simp at e;obtain ⟨rfl,rfl,rfl⟩:=e;exact .inr ⟨_,_,rfl,rfl,hg.symm⟩
   ·rename_i t' a' b' _ e
    simp at e;obtain ⟨rfl,rfl,rfl⟩:=e;exact .inl hg.symm
   ·exact hg.elim
  rcases hg with rfl | ⟨p,q,rfl,rfl,rfl⟩
  ·cases t
   ·exact h3
   ·exact h2
  ·have:=h2.dY; subst this
   have:=h3.dY; subst this;cases t <;> exact .po
theorem XM {v:KV} {u:Value} (h:VK P E v u) (hk:ti v=true):aq.known u=true:=by
 cases v with
 | agg cs=>obtain ⟨l,rfl,q⟩:=h.jP; rfl
 | int k n=>have:=h.cD; subst this; rfl
 | bool b=>have:=h.dY; subst this; rfl
 | str b=>have:=h.qA; subst this; rfl
 | jV cs=>obtain ⟨l,rfl,_⟩:=h.O7; rfl
 | ts T m n es acc=>obtain ⟨_,_,_,a,cap,rfl,_⟩:=h.jY; rfl
 | tp T Tc i k es acc=>obtain ⟨_,_,_,_,_,b,off,r,rfl,_⟩:=h.Mz; rfl
 | al T b o n=>obtain ⟨a,c,rfl⟩:=h.uO.slice; rfl
 | ap T Tc b i k=>obtain ⟨x,L,N,_,_,_,rfl⟩:=h.Ig; rfl
 | ptr b off=>obtain ⟨x,_,rfl⟩:=h.gG; rfl
 | sl b off n c=>obtain ⟨x,_,rfl⟩:=h.Rd; rfl
 | E4=>simp only [VK] at h; subst h; rfl
 | jz=>simp only [VK] at h; subst h; rfl
 | yX=>simp only [VK] at h; subst h; rfl
 | map b=>simp only [VK] at h; obtain ⟨x,_,rfl⟩:=h; rfl
 | fn f a b=>obtain ⟨l,m,rfl,_⟩:=h.Ie; rfl
 | Gs=>simp only [VK] at h; subst h; rfl
 | iface t x=>simp only [VK] at h; obtain ⟨y,rfl,_⟩:=h; rfl
 | Gt=>simp only [VK] at h; subst h; rfl
 | bA=>simp [ti] at hk
theorem O8 {v:KV} {u:Value} (h:VK P E v u) (hk:ti v=true):u.cells.size=v.cells.length:=by
 have:=(h.cells hk).length;simpa using this
theorem abU {place:Nat->Option (Nat×Nat)} : ∀ {ps:List (Nat×KV)} {qs:List (Nat×Value)} {cs r:List KV} {bV:List Value},ps.map (·.1)=qs.map (·.1)->ba P E (ps.map (·.2)) (qs.map (·.2))->(∀ p∈ps,ti p.2=true)->
  ba P E cs bV->XC place cs ps=some r->∃ r',yO place bV qs=some r'/\ba P E r r'
 | [],[],cs,r,bV,_,_,_,h,e=>by simp [XC] at e; subst e; exact ⟨bV,rfl,h⟩
 | [],_::_,_,_,_,e,_,_,_,_=>by simp at e
 | _::_,[],_,_,_,e,_,_,_,_=>by simp at e
 | (i,v)::ps,(j,u)::qs,cs,r,bV,e1,e2,hk,h,e=>by
  simp only [List.map_cons,List.cons.injEq] at e1;obtain ⟨rfl,e1⟩:=e1;obtain ⟨y,ys,e3,h1,h2⟩:=e2.cons_inv;simp only [List.map_cons,List.cons.injEq] at e3;obtain ⟨rfl,rfl⟩:=e3;have hkv:ti v=true:=hk (i,v) (by simp);simp only [XC] at e;simp only [yO];split at e
  ·rename_i off size hp
   rw [hp];obtain ⟨hc,e⟩:=MB e;obtain ⟨nQ,e4,e5⟩:=cI.1 e;obtain ⟨r1,e6,h3⟩:=ba.jW e4 h (h1.cells hkv);obtain ⟨r',e7,h4⟩:=abU e1 h2 (fun p hp=>hk p (by simp [hp])) h3 e5;refine ⟨r',?_,h4⟩;simp only;rw [O8 h1 hkv,hc,aj,e6];exact e7
  ·simp at e
theorem abV:∀ (is:List Nat) {vs:List KV} {us:List Value},ba P E vs us->(vw is vs).map (·.1)=(zipIdx is us).map (·.1)/\ba P E ((vw is vs).map (·.2)) ((zipIdx is us).map (·.2))
 | [],_,_,_=>by simp [vw,zipIdx,ba.nil]
 | i::is,[],us,h=>by rw [h.bZ]; simp [vw,zipIdx,ba.nil]
 | i::is,v::vs,us,h=>by
  obtain ⟨y,ys,rfl,h1,h2⟩:=h.cons_inv;obtain ⟨h3,h4⟩:=abV is h2;exact ⟨by simp [vw,zipIdx,h3],by simpa [vw,zipIdx] using ba.cons h1 h4⟩
theorem abW:∀ (is:List Nat) (vs:List KV),∀ p∈vw is vs,p.2∈vs
 | [],_,p,h=>by simp [vw] at h
 | i::is,[],p,h=>by simp [vw] at h
 | i::is,v::vs,p,h=>by
  simp only [vw,dv] at h;rcases h with rfl | h
  ·simp
  ·simp [abW is vs p h]
theorem Gx:∀ {vs:List KV} {us:List Value},ba P E vs us->vs.all ti=true->us.all aq.known=true
 | [],us,h,_=>by rw [h.bZ]; rfl
 | v::vs,us,h,k=>by
  obtain ⟨y,ys,rfl,h1,h2⟩:=h.cons_inv;simp only [List.all_cons,au] at k ⊢;exact ⟨XM h1 k.1,Gx h2 k.2⟩
theorem ae2 {place:Nat->Option (Nat×Nat)} {z:Value} {is:List Nat} (hz:flat z=true) (h1:fY (ff z).cells=true):tW P (Q6 place (ff z).cells is) (A6 place z is):=by
 intro E vs us v h hg;unfold Q6 at hg;split at hg
 ·rename_i cs hf
  obtain ⟨hk,hg⟩:=hg.cond;have hg:KV.agg cs=v:=hg;subst hg;obtain ⟨h2,h3⟩:=abV is h;obtain ⟨r',e,hr⟩:=abU h2 h3 (fun p hp=>by have:=abW is vs p hp; exact eM.1 hk _ this) (Bg (P:=P) (E:=E) h1) hf;refine ⟨.agg ⟨r'⟩,?_,.ow hr⟩;unfold A6;rw [hz,Gx h hk];simp [e,ow]
 ·exact hg.elim
theorem apb:tW P abK Mb:=by
 intro E vs us v h hg
 match vs,hg with
 | [.ptr b off],hg=>
  obtain ⟨y,rfl,h1⟩:=h.dH;have hg:KV.ptr b off=v:=hg;subst hg;have q:=h1;obtain ⟨x,e,rfl⟩:=h1.gG;exact ⟨_,rfl,q⟩
 | [.tp T Tc i k es acc],hg=>
  obtain ⟨y,rfl,h1⟩:=h.dH;have hg:KV.tp T Tc i k es acc=v:=hg;subst hg;have q:=h1;obtain ⟨_,_,_,_,_,b,off,r,rfl,_⟩:=h1.Mz;exact ⟨_,rfl,q⟩
 | [.ap T Tc b i k],hg=>
  obtain ⟨y,rfl,h1⟩:=h.dH;have hg:KV.ap T Tc b i k=v:=hg;subst hg;have q:=h1;obtain ⟨x,L,N,_,_,_,rfl⟩:=h1.Ig;exact ⟨_,rfl,q⟩
 | [.fn (.func f) a b],hg=>
  obtain ⟨y,rfl,h1⟩:=h.dH;have hg:KV.fn (.func f) a b=v:=hg;subst hg;have q:=h1;obtain ⟨l,m,rfl,_⟩:=h1.Ie;exact ⟨_,rfl,q⟩
theorem O9 {s ft:TypeId} {off:Nat} (h:aaX P s off ft=true):∀ m c,(aX P ft).ks[m]? = some c->(aX P s).ks[off+m]? = some c:=by
 unfold aaX at h;have key:∀ (a b:List CK),Bd a b=true->a=b:=by
  intro a
  induction a with
  | nil=>intro b hb; cases b <;> simp_all [Bd]
  | cons x xs ih=>
   intro b hb;cases b with
   | nil=>simp [Bd] at hb
   | cons y ys=>
    simp only [Bd,au] at hb;rw [ih ys hb.2];congr 1;cases x <;> cases y <;> simp_all [anM]
 split at h
 ·rename_i l e
  obtain ⟨rfl,hl⟩:=Rc e;have:=key _ _ h;intro m c hm;rw [<- this,mz] at hm;split at hm
  ·rwa [KK,mX] at hm
  ·simp at hm
 ·simp at h
theorem ad6 {s ft:TypeId} {off:Nat} {vx:Bool} (Tv:vx=aaX P s off ft):tW P (Zh s off ft vx) (OL off):=by
 intro E vs us v h hg
 match vs,hg with
 | [.ptr b o],hg=>
  obtain ⟨y,rfl,h1⟩:=h.dH;have hg:KV.ptr b (o+off)=v:=hg;subst hg;obtain ⟨x,e,rfl⟩:=h1.gG;exact ⟨_,rfl,.xa e⟩
 | [.tp T Tc i k es acc],hg=>
  obtain ⟨y,rfl,h1⟩:=h.dH;obtain ⟨hc,hg⟩:=aK.cond hg;have hg:KV.tp T ft i (k+off) es acc=v:=hg;subst hg;simp only [au] at hc;have:=aW hc.1;subst this;obtain ⟨ht,bo,h2,hi,hw,b,o,r,rfl,h4,h5⟩:=h1.Mz;refine ⟨_,rfl,?_⟩;simp only [VK];refine ⟨ht,bo,h2,hi,⟨fun m c hm=>?_⟩,b,o,r,by simp only [Value.pointer.injEq,cJ,Addr.mk.injEq,and_true,true_and]; omega,h4,h5⟩;have hp:=O9 (Tv ▸ hc.2) m c hm;have:=hw.is _ _ hp;rwa [show k+(off+m)=k+off+m by omega] at this
 | [.ap T Tc b i k],hg=>
  obtain ⟨y,rfl,h1⟩:=h.dH;obtain ⟨hc,hg⟩:=aK.cond hg;have hg:KV.ap T ft b i (k+off)=v:=hg;subst hg;simp only [au] at hc;have:=aW hc.1;subst this;obtain ⟨x,L,N,h2,hw,hi,rfl⟩:=h1.Ig;refine ⟨_,rfl,.anP ⟨x,L,N,h2,⟨fun m c hm=>?_⟩,hi,by simp only [Value.pointer.injEq,cJ,Addr.mk.injEq,and_true,true_and]; omega⟩⟩;have hp:=O9 (Tv ▸ hc.2) m c hm;have:=hw.is _ _ hp;rwa [show k+(off+m)=k+off+m by omega] at this
theorem ahE {t:TypeId} {cs:List KV} {bV:List Value} {off:Nat} {v:KV} (h:ba P E cs bV) (e:XE P t cs off=some v):∃ u,partOf P t bV off=some u/\VK P E v u:=by
 unfold XE at e;unfold partOf;split at e
 ·rename_i ha
  rw [ha];obtain ⟨n,hn,e⟩:=cI.1 e;obtain ⟨l,hl,rfl⟩:=cC.1 e;obtain ⟨r,hr,hv,_⟩:=h.tR hl;exact ⟨.agg ⟨r⟩,by simp [hn,hr],.ow hv⟩
 ·rename_i ha
  rw [ha];rw [KK] at e;have hd:=h.drop off;cases hc:cs.drop off with
  | nil=>rw [hc] at e; simp at e
  | cons x xs=>
   rw [hc] at e hd;simp at e;subst e;obtain ⟨y,ys,e2,h1,_⟩:=hd.cons_inv;exact ⟨y,by simp [qu,e2],h1⟩
 ·simp at e
theorem amD {fd:Field} : tW P (aly P fd) (afI P fd):=by
 intro E vs us v h hg
 match vs,hg with
 | [.agg cs],hg=>
  obtain ⟨y,rfl,h1⟩:=h.dH;obtain ⟨l,rfl,h2⟩:=h1.jP;exact ahE h2 hg.of
theorem yc {i:Int} {n:Nat} (h:inR i n=true):∃ m,i = .ofNat m/\m < n/\i.toNat=m:=by
 simp only [inR,au,lR] at h;obtain ⟨m,rfl⟩:=Int.eq_ofNat_of_zero_le h.1;exact ⟨m,rfl,by omega,rfl⟩
theorem nR {m n:Nat} (h:m < n):jL (.ofNat m) n=some m:=by
 have:Nat.blt m n=true:=by rw [bO]; exact h
 simp [jL,this]
theorem aK.jt {α:Type} {c:Bool} {u v:α} (h:aK (.jt c u) v):c=true/\u=v:=h
theorem Zl {t e:TypeId} {len n m:Nat} (hq:Bd (aX P t).ks (cY (aX P e).ks len)=true) (hn:(aX P e).ks.length=n) (hm:m < len):∀ a c,(aX P e).ks[a]? = some c->(aX P t).ks[m * n+a]? = some c:=by
 intro a c ha;have key:∀ (l:List CK) (KM m a:Nat) (c:CK),m < KM->l[a]? = some c->(cY l KM)[m * l.length+a]? = some c:=by
  intro l KM
  induction KM with
  | zero=>intro m a c hm; omega
  | succ KM ih=>
   intro m a c hm hl;have bh:a < l.length:=(cP.1 hl).1;cases m with
   | zero=>simp only [cY,Nat.zero_mul,bp]; rw [oM bh]; exact hl
   | succ m=>
    simp only [cY];rw [qd (by rw [Nat.succ_mul]; omega),show (m+1) * l.length+a - l.length=m * l.length+a by rw [Nat.succ_mul]; omega];exact ih m a c (by omega) hl
 have arf:∀ (a b:List CK),Bd a b=true->a=b:=by
  intro a
  induction a with
  | nil=>intro b hb; cases b <;> simp_all [Bd]
  | cons x xs ih=>
   intro b hb;cases b with
   | nil=>simp [Bd] at hb
   | cons y ys=>
    simp only [Bd,au] at hb;rw [ih ys hb.2];congr 1;cases x <;> cases y <;> simp_all [anM]
 have h6:=key (aX P e).ks len m a c hm ha;rw [<- arf _ _ hq,hn] at h6;exact h6
theorem af1 {t e:TypeId} {len n:Nat} : tW P (abL P t len n e) (S6 len n):=by
 intro E vs us v h hg
 match vs,hg with
 | [.ptr b o,.int k i],hg=>
  have hg:aK (cond (Nat.ble len 8) (alz i (fun j=>.ok (.ptr b (o+j * n))) len 0) (.jt (inR i len) (.ptr b (o+i.toNat * n)))) v:=hg;obtain ⟨x,y,rfl,h1,h2⟩:=h.ju;obtain ⟨x,e,rfl⟩:=h1.gG;have:=h2.cD; subst this;have key:∃ m:Nat,i=(m:Int)/\m < len/\v = .ptr b (o+m * n):=by
   cases hb:Nat.ble len 8 with
   | true=>rw [hb,aj] at hg; obtain ⟨m,_,h3,h4,h5⟩:=aK.at hg; exact ⟨m,h4,by omega,(show KV.ptr b (o+m * n)=v from h5).symm⟩
   | false=>rw [hb,aF] at hg; obtain ⟨hc,rfl⟩:=aK.jt hg; obtain ⟨m,rfl,hm,Tw⟩:=yc hc; exact ⟨m,rfl,hm,by rw [Tw]⟩
  obtain ⟨m,rfl,hm,rfl⟩:=key;refine ⟨_,?_,.xa e⟩;show (jL (.ofNat m) len).bind _=_;rw [nR hm]; rfl
 | [.tp T Tc j k es acc,.int q i],hg=>
  obtain ⟨x,y,rfl,h1,h2⟩:=h.ju;obtain ⟨qw,hg⟩:=aK.cond hg;obtain ⟨hc,rfl⟩:=aK.jt hg;have:=h2.cD; subst this;obtain ⟨m,rfl,hm,Tw⟩:=yc hc;rw [Tw];simp only [au] at qw;have:=aW qw.1.1;subst this;have hn:(aX P e).ks.length=n:=aW qw.2;obtain ⟨ht,bo,h3,hi,hw,b,o,r,rfl,h4,h5⟩:=h1.Mz;refine ⟨_,by (show (jL (.ofNat m) len).bind _=_); rw [nR hm]; rfl,?_⟩;simp only [VK];refine ⟨ht,bo,h3,hi,⟨fun a c ha=>?_⟩,b,o,r,by simp only [Value.pointer.injEq,cJ,Addr.mk.injEq,and_true,true_and]; omega,h4,h5⟩;have h6:=Zl qw.1.2 hn hm a c ha;have:=hw.is _ _ h6;rwa [show k+(m * n+a)=k+m * n+a by omega] at this
 | [.ap T Tc b j k,.int q i],hg=>
  obtain ⟨x,y,rfl,h1,h2⟩:=h.ju;obtain ⟨qw,hg⟩:=aK.cond hg;obtain ⟨hc,rfl⟩:=aK.jt hg;have:=h2.cD; subst this;obtain ⟨m,rfl,hm,Tw⟩:=yc hc;rw [Tw];simp only [au] at qw;have:=aW qw.1.1;subst this;have hn:(aX P e).ks.length=n:=aW qw.2;obtain ⟨x,L,N,h3,hw,hi,rfl⟩:=h1.Ig;refine ⟨_,by (show (jL (.ofNat m) len).bind _=_); rw [nR hm]; rfl,.anP ⟨x,L,N,h3,⟨fun a c ha=>?_⟩,hi,by simp only [Value.pointer.injEq,cJ,Addr.mk.injEq,and_true,true_and]; omega⟩⟩;have h6:=Zl qw.1.2 hn hm a c ha;have:=hw.is _ _ h6;rwa [show k+(m * n+a)=k+m * n+a by omega] at this
theorem ahF {e n:Nat} {vx:Bool} (Tv:vx=Nat.beq (aX P e).ks.length n):tW P (aeV e n vx) (Xk n):=by
 intro E vs us v h hg
 match vs,hg with
 | [.sl b o len cap,.int k i],hg=>
  obtain ⟨x,y,rfl,h1,h2⟩:=h.ju;obtain ⟨hc,rfl⟩:=aK.jt hg;obtain ⟨x,e,rfl⟩:=h1.Rd;have:=h2.cD; subst this;obtain ⟨m,rfl,hm,Tw⟩:=yc hc;rw [Tw];exact ⟨_,by (show (jL (.ofNat m) len).bind _=_); rw [nR hm]; rfl,.xa e⟩
 | [.ts T mk len es acc,.int q i],hg=>
  obtain ⟨x,y,rfl,h1,h2⟩:=h.ju;obtain ⟨qw,hg⟩:=aK.cond hg;obtain ⟨hc,rfl⟩:=aK.jt hg;have:=h2.cD; subst this;obtain ⟨m,rfl,hm,Tw⟩:=yc hc;rw [Tw];simp only [au] at qw;have:=aW qw.1;subst this;have hn:(aX P T).ks.length=n:=aW (Tv ▸ qw.2);obtain ⟨ht,bo,h3,a,cap,rfl,h4,h5,h6⟩:=h1.jY;rcases h5 with ⟨_,h0⟩ | ⟨b,off,r,rfl,h7,h8,h9⟩
  ·omega
  ·refine ⟨_,by (show (jL (.ofNat m) len).bind _=_); rw [nR hm]; rfl,?_⟩
   have hl:=ht.len;simp only [VK];refine ⟨⟨rfl,fun i hi=>ht.acc i (by omega),ht.typed⟩,bo,h3,by omega,⟨fun a c ha=>by simpa using ha⟩,b,off,r,?_,h7,h9⟩;simp only [bf,hn,Value.pointer.injEq,cJ,Addr.mk.injEq,and_true,true_and];omega
 | [.al T b o len,.int q i],hg=>
  obtain ⟨x,y,rfl,h1,h2⟩:=h.ju;obtain ⟨qw,hg⟩:=aK.cond hg;obtain ⟨hc,rfl⟩:=aK.jt hg;have:=h2.cD; subst this;obtain ⟨m,rfl,hm,Tw⟩:=yc hc;rw [Tw];simp only [au] at qw;have:=aW qw.1;subst this;have hn:(aX P T).ks.length=n:=aW (Tv ▸ qw.2);rcases h1.uO with ⟨h0,_⟩ | ⟨x,L,N,c,h3,rfl,h4,h5,h6⟩
  ·omega
  ·refine ⟨_,by (show (jL (.ofNat m) len).bind _=_); rw [nR hm]; rfl,.anP ⟨x,L,N,h3,⟨fun a c ha=>by simpa using ha⟩,by omega,?_⟩⟩
   simp only [bf,hn,Value.pointer.injEq,cJ,Addr.mk.injEq,and_true,true_and];rw [Nat.add_mul]; omega
theorem af2 {len n:Nat} {e:TypeId} : tW P (Tl P len n e) (S7 P len n e):=by
 intro E vs us v h hg
 match vs,hg with
 | [.agg cs,.int k i],hg=>
  obtain ⟨x,y,rfl,h1,h2⟩:=h.ju;obtain ⟨l,rfl,h3⟩:=h1.jP;have:=h2.cD; subst this;simp only [Tl] at hg;have key:∃ m:Nat,i=(m:Int)/\m < len/\XE P e cs (m * n)=some v:=by
   cases hb:Nat.ble len 8 with
   | true=>rw [hb,aj] at hg; obtain ⟨m,_,h3,h4,h5⟩:=aK.at hg; exact ⟨m,h4,by omega,aK.of h5⟩
   | false=>
    rw [hb,aF] at hg;split at hg
    ·rename_i u hu
     obtain ⟨hc,rfl⟩:=aK.jt hg;obtain ⟨m,rfl,hm,Tw⟩:=yc hc;rw [Tw] at hu;exact ⟨m,rfl,hm,hu⟩
    ·exact hg.elim
  obtain ⟨m,rfl,hm,hu⟩:=key;obtain ⟨w,h4,h5⟩:=ahE h3 hu;exact ⟨w,by (show (jL (.ofNat m) len).bind _=_); rw [nR hm]; exact h4,h5⟩
theorem af3:tW P abM S8:=by
 intro E vs us v h hg
 match vs,hg with
 | [.str s,.int k i],hg=>
  obtain ⟨x,y,rfl,h1,h2⟩:=h.ju;have:=h1.qA; subst this;have:=h2.cD; subst this;obtain ⟨hc,rfl⟩:=aK.jt hg;obtain ⟨m,rfl,hm,Tw⟩:=yc hc;rw [Tw];have hl:m < s.data.toList.length:=by simpa using hm
  refine ⟨.int .u8 (s.data.toList.getD m 0).toNat,?_,.mkInt⟩;show (jL (.ofNat m) s.size).bind _=_;rw [nR hm];show (s.data.toList[m]?).map _=_;simp [List.getD,cM hl]
theorem abX {α:Type} : ∀ (n:Nat) (l:List α),aeW n l=l[n]?
 | n,[]=>by cases n <;> rfl
 | 0,x::_=>rfl
 | n+1,_::xs=>by simp [aeW,abX n xs]
theorem ahG {i:Nat} : tW P (aeX i) (Kj i):=by
 intro E vs us v h hg
 match vs,hg with
 | [.jV ws],hg=>
  obtain ⟨y,rfl,h1⟩:=h.dH;obtain ⟨l,rfl,h2⟩:=h1.O7;have:=hg.of;rw [abX] at this;obtain ⟨u,h3,h4⟩:=h2.get this;exact ⟨u,by simpa [Kj] using h3,h4⟩
theorem amE:tW P alA aaQ:=by
 intro E vs us v h hg
 match vs,hg with
 | [.ts T m n es acc],hg=>
  obtain ⟨y,rfl,h1⟩:=h.dH;obtain ⟨_,_,_,a,cap,rfl,_⟩:=h1.jY;have hg:KV.int .i64 n=v:=hg;subst hg;exact ⟨_,rfl,.mkInt⟩
 | [.sl b o n c],hg=>
  obtain ⟨y,rfl,h1⟩:=h.dH;obtain ⟨x,_,rfl⟩:=h1.Rd;have hg:KV.int .i64 n=v:=hg;subst hg;exact ⟨_,rfl,.mkInt⟩
 | [.al T b o n],hg=>
  obtain ⟨y,rfl,h1⟩:=h.dH;obtain ⟨a,c,rfl⟩:=h1.uO.slice;have hg:KV.int .i64 n=v:=hg;subst hg;exact ⟨_,rfl,.mkInt⟩
 | [.jz],hg=>
  obtain ⟨y,rfl,h1⟩:=h.dH;have:=h1.nt; subst this;have hg:KV.int .i64 0=v:=hg;subst hg;exact ⟨_,rfl,.mkInt⟩
theorem aj0:tW P aht UT:=by
 intro E vs us v h hg
 match vs,hg with
 | [.str s],hg=>
  obtain ⟨y,rfl,h1⟩:=h.dH;have:=h1.qA; subst this;have hg:KV.int .i64 s.size=v:=hg;subst hg;exact ⟨_,rfl,.mkInt⟩
theorem amF:tW P alw abp:=by
 intro E vs us v h hg
 match vs,hg with
 | [.str s],hg=>
  obtain ⟨y,rfl,h1⟩:=h.dH;have:=h1.qA; subst this;have hg:KV.str s=v:=hg;subst hg;exact ⟨_,rfl,.mkStr⟩
theorem af4 {f:Fn} {k:Nat} : tW P (Mu f k) (Gi f k):=by
 intro E vs us v h hg;unfold Mu at hg;split at hg
 ·rename_i l hl
  have hg:KV.fn f l (Bb k vs)=v:=hg;subst hg;have qb:tR k (Bb 0 vs)=some l:=hl;obtain ⟨r,h1,h2,_⟩:=h.tR qb;have h1:takeN k us=some r:=h1;refine ⟨_,by simp [Gi,h1]; rfl,.ahC h2 ?_⟩;rw [KK,qu];exact h.drop k
 ·exact hg.elim
theorem amG {src dst:TypeId} {k k' : IntKind} (h2:P.underlying dst=some (.int k)) (h3:P.underlying src=some (.int k')):tW P (alv k) (Ki P src dst):=by
 intro E vs us v h hg
 match vs,hg with
 | [.int j n],hg=>
  obtain ⟨y,rfl,h1⟩:=h.dH;have:=h1.cD; subst this;have hg:KV.int k (k.wrap n)=v:=hg;subst hg;refine ⟨.int k (k.wrap n),?_,.mkInt⟩;simp only [Ki,h2];simp [convert,underlying,program,Bind.bind,Sem.bind,cR,h2,h3,Conv.intToInt,Pure.pure]
end Go.K
end
section
namespace Go.K
open Go Go.aq
variable {P:Program} {E:Env}
theorem dL {α β:Type} : ∀ {s:Sem α} {f:α->Sem β} {a:α},cR P s=some a->cR P (s >>= f)=cR P (f a)
 | .pure x,f,a,h=>by simp [cR] at h; subst h; rfl
 | .program k,f,a,h=>by
  have:=dL (s:=k P) (f:=f) (a:=a) (by simpa [cR] using h);exact this
 | .mark m k,f,a,h=>by
  have:=dL (s:=k) (f:=f) (a:=a) (by simpa [cR] using h);exact this
 | .load ..,_,_,h | .store ..,_,_,h | .new ..,_,_,h | .shape ..,_,_,h | .freeze ..,_,_,h | .frozen ..,_,_,h | .getObj ..,_,_,h
 | .setObj ..,_,_,h | .choose ..,_,_,h | .sys ..,_,_,h | .halt ..,_,_,h=>by simp [cR] at h
theorem Gy {α β:Type} {init stop:β} {B:α->β->Sem (ForInStep β)} {g:α->Bool} : ∀ {l:List α},(∀ x∈l,cR P (B x init)=some (if g x=true then .yield init else .done stop))->
  cR P (forIn l init B)=some (if l.all g=true then init else stop)
 | [],_=>rfl
 | x::l,h=>by
  have hx:=h x (by simp);rw [List.forIn_cons,dL hx];cases hg:g x with
  | true=>
   simp only [if_true];rw [Gy fun y hy=>h y (by simp [hy])];simp [hg]
  | false=>simp [hg]; rfl
theorem vA {t:TypeId} {d:TypeDesc} (h:P.underlying t=some d):cR P (underlying t)=some d:=by
 simp [underlying,program,Bind.bind,Sem.bind,cR,h,Pure.pure]
theorem Vm {t:TypeId} {i:TypeInfo} (h:P.info? t=some i):cR P (typeInfo t)=some i:=by
 simp [typeInfo,program,Bind.bind,Sem.bind,cR,h,Pure.pure]
theorem cp {α:Type} (a:α):cR P (pure a)=some a:=rfl
theorem NG {t:TypeId} {i:TypeInfo} (h:P.info? t=some i):cR P (sizeOf t)=some i.size:=by
 unfold sizeOf;rw [dL (Vm h)];rfl
theorem abY {n:Nat} {t:TypeId} {L:Lay} (h:lay P n t=some L):∃ d,P.underlying t=some d/\L.agg=aaP d/\(L.agg=false->L.ks.length=1):=by
 cases n with
 | zero=>simp [lay] at h
 | succ n=>
  simp only [lay] at h;split at h <;> rename_i hu
  ·simp at h; subst h; exact ⟨_,hu,rfl,fun _=>rfl⟩
  ·simp at h; subst h; exact ⟨_,hu,rfl,fun _=>rfl⟩
  ·simp at h; subst h; exact ⟨_,hu,rfl,fun _=>rfl⟩
  ·simp at h; subst h; exact ⟨_,hu,rfl,fun _=>rfl⟩
  ·obtain ⟨ks,_,rfl⟩:=cC.1 h; exact ⟨_,hu,rfl,fun h=>by simp at h⟩
  ·obtain ⟨ks,_,rfl⟩:=cC.1 h; exact ⟨_,hu,rfl,fun h=>by simp at h⟩
  ·rename_i d h1 h2 h3 h4 h5 h6
   simp at h; subst h;refine ⟨_,hu,?_,fun _=>rfl⟩;cases d <;> first | rfl | simp_all
  ·simp at h
def y6 (agg:Bool) (l:List Value):Value:=cond agg (.agg ⟨l⟩) (l.headD undef)
theorem Sa {n:Nat} {t:TypeId} {L:Lay} {i:TypeInfo} {cs:Array Value} {off:Nat} (h:lay P n t=some L) (hi:P.info? t=some i) (hs:i.size=L.ks.length) (hl:off+L.ks.length<=cs.size) :
  cR P (part t cs off)=some (y6 L.agg ((cs.toList.drop off).take L.ks.length)):=by
 obtain ⟨d,hu,ha,h1⟩:=abY h;have arh:cR P (isAgg t)=some (aaP d):=by
  unfold isAgg;rw [dL (vA hu)];cases d <;> rfl
 unfold part;rw [dL arh];cases hd:aaP d with
 | true=>
  rw [hd] at ha;simp only [if_true];rw [dL (NG hi)];simp only [cp,ha,y6,aj,hs];congr 2;apply Array.ext';simp
 | false=>
  rw [hd] at ha;have h1:=h1 ha;have bh:off < cs.size:=by omega
  simp only [HX,if_false];rw [Array.getElem?_eq_getElem bh];simp only [cp,ha,y6,aF,h1];congr 1;have:cs.toList.drop off=cs.toList[off]::cs.toList.drop (off+1):=List.drop_eq_getElem_cons (by simpa using bh);rw [this];simp
theorem Vn:∀ {xs ys:List KV} {b:Bool},rm xs ys=some b->xs.length=ys.length
 | [],[],_,_=>rfl
 | [],_::_,_,h=>by simp [rm] at h
 | _::_,[],_,h=>by simp [rm] at h
 | x::xs,y::ys,b,h=>by
  simp only [rm] at h;split at h
  ·rename_i h2; simp [Vn h2]
  ·simp at h
theorem yd:∀ (n:Nat) {xs ys:List KV} {b:Bool},rm xs ys=some b->∃ b1 b2,rm (xs.take n) (ys.take n)=some b1/\rm (xs.drop n) (ys.drop n)=some b2/\b=(b1&&b2)
 | 0,xs,ys,b,h=>⟨true,b,by simp [rm],by simpa using h,by simp⟩
 | n+1,[],[],b,h=>by simp [rm] at h; subst h; exact ⟨true,true,by simp [rm],by simp [rm],rfl⟩
 | n+1,[],_::_,b,h=>by simp [rm] at h
 | n+1,_::_,[],b,h=>by simp [rm] at h
 | n+1,x::xs,y::ys,b,h=>by
  simp only [rm] at h;split at h
  ·rename_i a c h1 h2
   simp at h;obtain ⟨b1,b2,h3,h4,h5⟩:=yd n h2;refine ⟨a&&b1,b2,by simp [rm,h1,h3],by simpa using h4,?_⟩;rw [<- h,h5,Bool.and_assoc]
  ·simp at h
def Bh (xs ys:List KV) (off n:Nat):Bool:=(rm ((xs.drop off).take n) ((ys.drop off).take n)).getD false
theorem ae3 {xs ys:List KV} {b:Bool} (h:rm xs ys=some b) (off n:Nat):rm ((xs.drop off).take n) ((ys.drop off).take n)=some (Bh xs ys off n):=by
 obtain ⟨_,_,_,h2,_⟩:=yd off h;obtain ⟨b1,_,h3,_,_⟩:=yd n h2;unfold Bh;rw [h3]; rfl
theorem sk:∀ {a b:List CK} {xs:List KV},aA (a++b) xs=true->aA a (xs.take a.length)=true/\aA b (xs.drop a.length)=true
 | [],b,xs,h=>by simpa [aA] using h
 | c::a,b,[],h=>by simp [aA] at h
 | c::a,b,x::xs,h=>by
  simp only [List.cons_append,aA,au] at h;obtain ⟨h1,h2⟩:=sk h.2;simp [aA,h.1,h1,h2]
theorem o6:∀ {a:List CK} {xs:List KV},aA a xs=true->xs.length=a.length
 | [],[],_=>rfl
 | [],_::_,h=>by simp [aA] at h
 | _::_,[],h=>by simp [aA] at h
 | c::a,x::xs,h=>by
  simp only [aA,au] at h;simp [o6 h.2]
theorem abZ {lf:TypeId->Option Lay} {xs ys:List KV} {b:Bool} (he:rm xs ys=some b):∀ {fs:List Field} {off:Nat} {ks:List CK},O0 lf fs off=some ks->aA ks (xs.drop off)=true->aA ks (ys.drop off)=true->off+ks.length=xs.length->
  (∀ f∈fs,∃ L,lf f.type=some L/\f.offset+L.ks.length<=xs.length/\aA L.ks ((xs.drop f.offset).take L.ks.length)=true/\aA L.ks ((ys.drop f.offset).take L.ks.length)=true)/\
  rm (xs.drop off) (ys.drop off)=some (fs.all fun f=>Bh xs ys f.offset (((lf f.type).map (·.ks.length)).getD 0))
 | [],off,ks,h,_,_,hl=>by
  simp [O0] at h;subst h;have h1:xs.drop off = []:=by simp at hl; simp; omega
  have h2:ys.drop off = []:=by have:=Vn he; simp at hl; simp; omega
  refine ⟨by simp,?_⟩;rw [h1,h2]; rfl
 | f::fs,off,ks,h,hk,tJ,hl=>by
  simp only [O0] at h;obtain ⟨NF,h⟩:=MB h;have NF:=aW NF;obtain ⟨L,h1,h⟩:=cI.1 h;obtain ⟨r,h2,rfl⟩:=cC.1 h;obtain ⟨k1,k2⟩:=sk hk;obtain ⟨k1',k2'⟩:=sk tJ;rw [List.drop_drop] at k2 k2';simp only [kF] at hl;obtain ⟨h3,h4⟩:=abZ he h2 k2 k2' (by omega);refine ⟨fun g hg=>?_,?_⟩
  ·rcases dv.1 hg with rfl | hg
   ·exact ⟨L,h1,by omega,by rw [NF]; exact k1,by rw [NF]; exact k1'⟩
   ·exact h3 g hg
  ·obtain ⟨_,_,_,h5,_⟩:=yd off he
   obtain ⟨c1,c2,h6,h7,h8⟩:=yd L.ks.length h5;rw [List.drop_drop,List.drop_drop] at h7;rw [h4] at h7;simp at h7;have h9:=ae3 he off L.ks.length;rw [h6] at h9;simp at h9;rw [h5,h8];simp only [List.all_cons,h1,Option.map_some,db,NF,<- h9];rw [<- h7]
theorem wI {α:Type} (l:List α):∀ n,(cY l n).length=n * l.length
 | 0=>by simp [cY]
 | n+1=>by rw [cY,kF,wI l n,Nat.succ_mul]; omega
theorem ab0 {xs ys:List KV} {l:List CK} : ∀ {len off:Nat} {b:Bool},rm (xs.drop off) (ys.drop off)=some b->aA (cY l len) (xs.drop off)=true->aA (cY l len) (ys.drop off)=true->
  (∀ i,i < len->aA l ((xs.drop (off+i * l.length)).take l.length)=true/\aA l ((ys.drop (off+i * l.length)).take l.length)=true)/\
  rm (xs.drop off) (ys.drop off)=some ((List.range' 0 len).all fun i=>Bh xs ys (off+i * l.length) l.length)
 | 0,off,b,h,hk,tJ=>by
  have h1:xs.drop off = []:=by have:=o6 hk; simp only [cY,List.length_nil] at this; exact mW.1 this
  have h2:ys.drop off = []:=by have:=o6 tJ; simp only [cY,List.length_nil] at this; exact mW.1 this
  refine ⟨fun i hi=>by omega,?_⟩;rw [h1,h2]; rfl
 | len+1,off,b,h,hk,tJ=>by
  obtain ⟨c1,c2,h1,h2,h3⟩:=yd l.length h;rw [List.drop_drop,List.drop_drop] at h2;obtain ⟨k1,k2⟩:=sk (a:=l) (b:=cY l len) hk;obtain ⟨k1',k2'⟩:=sk (a:=l) (b:=cY l len) tJ;rw [List.drop_drop] at k2 k2';obtain ⟨h5,h4⟩:=ab0 (len:=len) (off:=off+l.length) h2 k2 k2';refine ⟨fun i hi=>?_,?_⟩
  ·cases i with
   | zero=>simpa using ⟨k1,k1'⟩
   | succ i=>
    have:=h5 i (by omega);rwa [show off+l.length+i * l.length=off+(i+1) * l.length by rw [Nat.succ_mul]; omega] at this
  rw [h2] at h4;simp at h4;have hw:Bh xs ys off l.length=c1:=by unfold Bh; rw [h1]; rfl
  rw [h,h3];rw [List.range'_succ];simp only [List.all_cons,Nat.zero_mul,yL,hw,bp];congr 2;rw [h4];have:List.range' 1 len=(List.range' 0 len).map (1 + ·):=by rw [List.map_add_range']
  rw [this,List.all_map];apply congrArg (fun f=>List.all (List.range' 0 len) f);funext i;simp only [Function.comp];congr 1;rw [Nat.add_mul]; omega
theorem Pa:∀ (n d:Nat) (t:TypeId) (L:Lay) (cx cy:List KV) (xs ys:List Value) (b:Bool),E6 P n t=true->lay P n t=some L->n<=d->ba P E cx xs->ba P E cy ys->aA L.ks cx=true->aA L.ks cy=true->
  rm cx cy=some b->cR P (Op.equalIn d t (y6 L.agg xs) (y6 L.agg ys))=some b
 | 0,_,_,_,_,_,_,_,_,h,_,_,_,_,_,_,_=>by simp [E6] at h
 | n+1,0,_,_,_,_,_,_,_,_,_,h,_,_,_,_,_=>by omega
 | n+1,d+1,t,L,cx,cy,xs,ys,b,h,hL,hd,hx,hy,hkx,hky,he=>by
  have hl:=o6 hkx;have hly:=o6 hky;have hlx' : xs.length=L.ks.length:=by rw [hx.length,hl]
  have hly' : ys.length=L.ks.length:=by rw [hy.length,hly]
  have alF:∀ s,E6 P n s=true->∃ i l,P.info? s=some i/\lay P n s=some l/\i.size=l.ks.length:=by
   intro s hs;cases n with
   | zero=>simp [E6] at hs
   | succ n=>
    simp only [E6,au] at hs;have h1:=hs.1;split at h1
    ·rename_i i l e1 e2
     exact ⟨i,l,e1,e2,aW h1⟩
    ·simp at h1
  have apR:∀ (s:TypeId) (l:Lay) (i:TypeInfo) (off:Nat),E6 P n s=true->lay P n s=some l->P.info? s=some i->i.size=l.ks.length->off+l.ks.length<=cx.length->
    aA l.ks ((cx.drop off).take l.ks.length)=true->aA l.ks ((cy.drop off).take l.ks.length)=true->
    (do
     let u <- part s ⟨xs⟩ off
     let v <- part s ⟨ys⟩ off
     Op.equalIn d s u v:Sem Bool)=(do
     let u <- part s ⟨xs⟩ off
     let v <- part s ⟨ys⟩ off
     Op.equalIn d s u v)/\cR P (part s ⟨xs⟩ off)=some (y6 l.agg ((xs.drop off).take l.ks.length))/\cR P (part s ⟨ys⟩ off)=some (y6 l.agg ((ys.drop off).take l.ks.length))/\
    cR P (Op.equalIn d s (y6 l.agg ((xs.drop off).take l.ks.length)) (y6 l.agg ((ys.drop off).take l.ks.length)))=some (Bh cx cy off l.ks.length):=by
   intro s l i off h1 h2 h3 h4 h5 h6 h7;refine ⟨rfl,?_,?_,?_⟩
   ·exact Sa h2 h3 h4 (by simp; omega)
   ·exact Sa h2 h3 h4 (by simp; omega)
   ·exact Pa n d s l _ _ _ _ _ h1 h2 (by omega) ((hx.drop off).take _) ((hy.drop off).take _) h6 h7 (ae3 he off _)
  simp only [E6,au] at h;have h2:=h.2;obtain ⟨dd,hu,ha,h1⟩:=abY hL;rw [hu] at h2;unfold Op.equalIn;rw [dL (vA hu)];simp only [lay,hu] at hL;have Vo:∀ c,L.ks = [c]->∃ x y u v,cx = [x]/\cy = [y]/\xs = [u]/\ys = [v]/\VK P E x u/\VK P E y v/\eqK x y=some b/\kindOk c x=true/\kindOk c y=true:=by
   intro c hc;rw [hc] at hl hly hkx hky
   match cx,cy,hl,hly with
   | [x],[y],_,_=>
    obtain ⟨u,rfl,h2⟩:=hx.dH;obtain ⟨v,rfl,h3⟩:=hy.dH;refine ⟨x,y,u,v,rfl,rfl,rfl,rfl,h2,h3,?_,by simpa [aA] using hkx,by simpa [aA] using hky⟩;simp only [rm] at he;split at he
    ·rename_i a c h4 h5
     simp at h5;subst h5;simpa [h4] using he
    ·simp at he
  cases dd with
  | int k=>
   simp at hL;subst hL;obtain ⟨x,y,u,v,rfl,rfl,rfl,rfl,h3,h4,h5,h6,h7⟩:=Vo _ rfl;cases x <;> simp [kindOk] at h6;cases y <;> simp [kindOk] at h7;subst h6 h7;have:=h3.cD; subst this;have:=h4.cD; subst this;simp [eqK] at h5;subst h5;simp [y6,cp]
  | bool=>
   simp at hL;subst hL;obtain ⟨x,y,u,v,rfl,rfl,rfl,rfl,h3,h4,h5,h6,h7⟩:=Vo _ rfl;cases x <;> simp [kindOk] at h6;cases y <;> simp [kindOk] at h7;have:=h3.dY; subst this;have:=h4.dY; subst this;simp [eqK] at h5;subst h5;simp [y6,cp]
  | string=>
   simp at hL;subst hL;obtain ⟨x,y,u,v,rfl,rfl,rfl,rfl,h3,h4,h5,h6,h7⟩:=Vo _ rfl;cases x <;> simp [kindOk] at h6;cases y <;> simp [kindOk] at h7;have:=h3.qA; subst this;have:=h4.qA; subst this;simp [eqK] at h5;subst h5;simp [y6,cp]
  | struct fs=>
   simp only [cC] at hL;obtain ⟨ks,pT,rfl⟩:=hL;simp only [au,jT] at h2;obtain ⟨h3,h4⟩:=abZ he pT (by simpa using hkx) (by simpa using hky) (by simpa using hl.symm);simp only [List.drop_zero] at h4;rw [he] at h4;simp only [cJ] at h4;simp only [y6,aj];rw [dL (a:=P) (by simp [program,cR])];simp only [h2.1,HX,if_false];rw [<- Array.forIn_toList];rw [dL (Gy (g:=fun f=>Bh cx cy f.offset (((lay P n f.type).map (·.ks.length)).getD 0)) (stop:=(some false,())) fun f hf=>?_)]
   ·rw [h4]
    cases (fs.toList.all fun f=>Bh cx cy f.offset (((lay P n f.type).map (·.ks.length)).getD 0)) <;> rfl
   ·have h5:=eM.1 h2.2 f hf
    simp only [au,jT,beq_eq_false_iff_ne] at h5;rw [aI h5.1];obtain ⟨l,h6,h7,h8,h9⟩:=h3 f hf;obtain ⟨i,l',e1,e2,e3⟩:=alF _ h5.2;rw [h6] at e2;simp at e2;subst e2;obtain ⟨_,w1,w2,w3⟩:=apR _ l i f.offset h5.2 h6 e1 e3 h7 h8 h9;rw [dL w1,dL w2,dL w3];simp only [h6,Option.map_some,db];cases Bh cx cy f.offset l.ks.length <;> rfl
  | array len e=>
   simp only [cC] at hL;obtain ⟨l,OU,rfl⟩:=hL;obtain ⟨h3,h4⟩:=ab0 (xs:=cx) (ys:=cy) (l:=l.ks) (len:=len) (off:=0) (by simpa using he) (by simpa using hkx) (by simpa using hky);simp only [List.drop_zero,bp] at h3 h4;rw [he] at h4;simp only [cJ] at h4;obtain ⟨i,l',e1,e2,e3⟩:=alF _ h2;rw [OU] at e2;simp at e2;subst e2;simp only [y6,aj];rw [dL (NG e1)];rw [Std.Legacy.Range.forIn_eq_forIn_range'];rw [show List.range' [:len].start [:len].size [:len].step=List.range' 0 len from by simp [Std.Legacy.Range.size]];rw [dL (Gy (g:=fun i=>Bh cx cy (i * l.ks.length) l.ks.length) (stop:=(some false,())) fun j hj=>?_)]
   ·rw [h4]
    cases ((List.range' 0 len).all fun i=>Bh cx cy (i * l.ks.length) l.ks.length) <;> rfl
   ·have xc:j < len:=by simpa using hj
    obtain ⟨k1,k2⟩:=h3 j xc;have hle:j * l.ks.length+l.ks.length<=cx.length:=by
     rw [hl];simp only [wI];rw [<- Nat.succ_mul];exact Nat.mul_le_mul_right _ xc
    obtain ⟨_,w1,w2,w3⟩:=apR _ l i (j * l.ks.length) h2 OU e1 e3 hle k1 k2;rw [e3];rw [dL w1,dL w2,dL w3];cases Bh cx cy (j * l.ks.length) l.ks.length <;> rfl
  | _=>simp at h2
theorem Pb:∀ {ks:List CK} {cs:List KV} {l:List Value},aA ks cs=true->ba P E cs l->(∀ t,CK.slice t ∉ ks)->tM l=true
 | [],[],l,_,h,_=>by rw [h.bZ]; rfl
 | [],_::_,_,h,_,_=>by simp [aA] at h
 | _::_,[],_,h,_,_=>by simp [aA] at h
 | c::ks,v::cs,l,h,hv,hn=>by
  obtain ⟨y,ys,rfl,h1,h2⟩:=hv.cons_inv;simp only [aA,au] at h;have:=Pb h.2 h2 (fun t ht=>hn t (by simp [ht]));simp only [tM,this,iY];cases c with
  | int k=>cases v <;> simp [kindOk] at h; have:=h1.cD; subst this; rfl
  | bool=>cases v <;> simp [kindOk] at h; have:=h1.dY; subst this; rfl
  | str=>cases v <;> simp [kindOk] at h; have:=h1.qA; subst this; rfl
  | slice t=>exact absurd (by simp) (hn t)
  | other=>cases v <;> simp [kindOk] at h
theorem Pc:∀ (n:Nat) (t:TypeId) (L:Lay),E6 P n t=true->lay P n t=some L->∀ u,CK.slice u ∉ L.ks
 | 0,_,_,h,_,_=>by simp [E6] at h
 | n+1,t,L,h,hL,u=>by
  simp only [E6,au] at h;have h2:=h.2;obtain ⟨dd,hu,_,_⟩:=abY hL;rw [hu] at h2;simp only [lay,hu] at hL;cases dd with
  | int k=>simp at hL; subst hL; simp
  | bool=>simp at hL; subst hL; simp
  | string=>simp at hL; subst hL; simp
  | struct fs=>
   simp only [cC] at hL;obtain ⟨ks,pT,rfl⟩:=hL;simp only [au,eM] at h2;have key:∀ (l:List Field) (off:Nat) (ks:List CK),O0 (lay P n) l off=some ks->(∀ f∈l,E6 P n f.type=true)->CK.slice u ∉ ks:=by
    intro l
    induction l with
    | nil=>intro off ks h _; simp [O0] at h; subst h; simp
    | cons f l ih=>
     intro off ks h hf;simp only [O0] at h;obtain ⟨_,h⟩:=MB h;obtain ⟨L',h5,h⟩:=cI.1 h;obtain ⟨r,h6,rfl⟩:=cC.1 h;rw [iW];rintro (h7 | h7)
     ·exact Pc n _ _ (hf f (by simp)) h5 u h7
     ·exact ih _ _ h6 (fun g hg=>hf g (by simp [hg])) h7
   exact key _ _ _ pT fun f hf=>(h2.2 f hf).2
  | array len e=>
   simp only [cC] at hL;obtain ⟨l,OU,rfl⟩:=hL;have:=Pc n e l h2 OU u;have key:∀ m,CK.slice u ∉ cY l.ks m:=by
    intro m
    induction m with
    | zero=>simp [cY]
    | succ m ih=>simp only [cY,iW,not_or]; exact ⟨this,ih⟩
   exact key _
  | _=>simp at h2
theorem aj1 {t:TypeId} (h:E6 P 12 t=true):lay P 12 t=some (aX P t):=by
 simp only [E6,au] at h;have h1:=h.1;unfold aX;split at h1
 ·rename_i i l e1 e2; rw [e2]; rfl
 ·simp at h1
theorem ab1 {t:TypeId} {x y:KV} {b:Bool} {lit:Bool} {u v:Value} (hx:VK P E x u) (hy:VK P E y v) (h:als P t x y=some b):lT P t lit u v=some b:=by
 unfold als at h;split at h
 ·rename_i xs ys
  obtain ⟨hc,h⟩:=MB h;simp only [au,jT] at hc;obtain ⟨⟨⟨⟨ha,h1⟩,h2⟩,h3⟩,h4⟩:=hc;obtain ⟨l,rfl,hl⟩:=hx.jP;obtain ⟨m,rfl,hm⟩:=hy.jP;have hL:=aj1 h1;have hns:=Pc 12 t _ h1 hL;have hfx:flat (.agg ⟨l⟩)=true:=Pb h3 hl hns;have hfy:flat (.agg ⟨m⟩)=true:=Pb h4 hm hns;have hs:=Pa 12 Op.maxDepth t (aX P t) xs ys l m b h1 hL (by unfold Op.maxDepth; omega) hl hm h3 h4 h;rw [ha] at hs;have hs:cR P (Op.equal t (.agg ⟨l⟩) (.agg ⟨m⟩))=some b:=hs;unfold lT;simp only [gK,wG,h2,HY,cg,aj];unfold eqV;split <;> simp_all
 ·rename_i a c
  split at h
  ·rename_i hu
   simp at h;subst h;have:=hx.dY; subst this;have:=hy.dY; subst this;have:cR P (Op.equal t (.bool a) (.bool c))=some (a==c):=by
    unfold Op.equal Op.maxDepth Op.equalIn;rw [dL (vA hu)];rfl
   unfold lT;simp only [gK,wG,cg,aj];unfold eqV;split <;> simp_all [flat]
  ·simp at h
 ·split at h
  ·rename_i e hu
   simp at h;subst h;have:=hx.nt; subst this;have:=hy.nt; subst this;simp [lT,gK,wG,eqV,hu]
  ·simp at h
 ·rename_i T m n es acc
  split at h
  ·rename_i e hu
   cases hn:Nat.beq n 0 with
   | true=>rw [hn] at h; simp at h
   | false=>
    rw [hn] at h;simp at h;subst h;have:=hy.nt; subst this;obtain ⟨_,bo,_,a,cap,rfl,_,hb,_⟩:=hx.jY;rcases hb with ⟨_,h0⟩ | ⟨b,off,r,rfl,_⟩
    ·subst h0; simp at hn
    ·simp [lT,gK,wG,eqV,hu]
  ·simp at h
 ·rename_i T m n es acc
  split at h
  ·rename_i e hu
   cases hn:Nat.beq n 0 with
   | true=>rw [hn] at h; simp at h
   | false=>
    rw [hn] at h;simp at h;subst h;have:=hx.nt; subst this;obtain ⟨_,bo,_,a,cap,rfl,_,hb,_⟩:=hy.jY;rcases hb with ⟨_,h0⟩ | ⟨b,off,r,rfl,_⟩
    ·subst h0; simp at hn
    ·simp [lT,gK,wG,eqV,hu]
  ·simp at h
 ·split at h
  ·rename_i e hu
   simp at h;subst h;have:=hx.Re; subst this;have:=hy.Re; subst this;simp [lT,gK,wG,eqV,hu]
  ·simp at h
 ·split at h
  ·rename_i e hu
   simp at h;subst h;have:=hy.Re; subst this;obtain ⟨x,_,rfl⟩:=hx.gG;simp [lT,gK,wG,eqV,hu]
  ·simp at h
 ·split at h
  ·rename_i e hu
   simp at h;subst h;have:=hx.Re; subst this;obtain ⟨x,_,rfl⟩:=hy.gG;simp [lT,gK,wG,eqV,hu]
  ·simp at h
 ·simp at h
theorem apc {op:BinOp} {t:TypeId} {lit:Bool} : tW P (anL P op t) (pg P op t lit):=by
 intro E vs us w h hg;unfold anL at hg;split at hg
 ·rename_i j a k b
  obtain ⟨x,y,rfl,h1,h2⟩:=h.ju;have:=h1.cD; subst this;have:=h2.cD; subst this;cases hs:ahs op with
  | true=>
   rw [hs,aj] at hg;cases op <;> simp [ahs] at hs
   ·obtain ⟨hc,rfl⟩:=aK.jt hg
    simp only [jT,decide_eq_false_iff_not] at hc;exact ⟨_,by simp [pg,binOp,Op.shift,hc,cp],.mkInt⟩
   ·obtain ⟨hc,rfl⟩:=aK.jt hg
    simp only [jT,decide_eq_false_iff_not] at hc;exact ⟨_,by simp [pg,binOp,Op.shift,hc,cp],.mkInt⟩
  | false=>
   rw [hs,aF] at hg;obtain ⟨hjk,hz⟩:=hg.cond;clear hg;simp only [lR] at hjk;subst hjk;cases op with
   | shl=>simp [ahs] at hs
   | shr=>simp [ahs] at hs
   | quo=>
    obtain ⟨hc,rfl⟩:=aK.jt hz;simp only [jT,decide_eq_false_iff_not] at hc;exact ⟨_,by simp [pg,binOp,Op.intDiv,hc,cp],.mkInt⟩
   | rem=>
    obtain ⟨hc,rfl⟩:=aK.jt hz;simp only [jT,decide_eq_false_iff_not] at hc;exact ⟨_,by simp [pg,binOp,Op.intDiv,hc,cp],.mkInt⟩
   | add=>have hz:KV.int _ _=w:=hz; subst hz; exact ⟨_,by simp [pg,binOp,Op.intArith,cp],.mkInt⟩
   | sub=>have hz:KV.int _ _=w:=hz; subst hz; exact ⟨_,by simp [pg,binOp,Op.intArith,cp],.mkInt⟩
   | mul=>have hz:KV.int _ _=w:=hz; subst hz; exact ⟨_,by simp [pg,binOp,Op.intArith,cp],.mkInt⟩
   | and=>have hz:KV.int _ _=w:=hz; subst hz; exact ⟨_,by simp [pg,binOp,Op.intBits,cp],.mkInt⟩
   | or=>have hz:KV.int _ _=w:=hz; subst hz; exact ⟨_,by simp [pg,binOp,Op.intBits,cp],.mkInt⟩
   | xor=>have hz:KV.int _ _=w:=hz; subst hz; exact ⟨_,by simp [pg,binOp,Op.intBits,cp],.mkInt⟩
   | andNot=>have hz:KV.int _ _=w:=hz; subst hz; exact ⟨_,by simp [pg,binOp,Op.intBits,cp],.mkInt⟩
   | eql=>have hz:KV.bool _=w:=hz; subst hz; exact ⟨_,by simp [pg,binOp,Op.intCmp,cp],.po⟩
   | neq=>have hz:KV.bool _=w:=hz; subst hz; exact ⟨_,by simp [pg,binOp,Op.intCmp,cp],.po⟩
   | lss=>have hz:KV.bool _=w:=hz; subst hz; exact ⟨_,by simp [pg,binOp,Op.intCmp,cp],.po⟩
   | leq=>have hz:KV.bool _=w:=hz; subst hz; exact ⟨_,by simp [pg,binOp,Op.intCmp,cp],.po⟩
   | gtr=>have hz:KV.bool _=w:=hz; subst hz; exact ⟨_,by simp [pg,binOp,Op.intCmp,cp],.po⟩
   | geq=>have hz:KV.bool _=w:=hz; subst hz; exact ⟨_,by simp [pg,binOp,Op.intCmp,cp],.po⟩
 ·rename_i a b
  obtain ⟨x,y,rfl,h1,h2⟩:=h.ju;have:=h1.qA; subst this;have:=h2.qA; subst this;split at hg
  ·have hg:KV.bool _=w:=hg; subst hg; exact ⟨_,by simp [pg,binOp,Op.stringOp,cp],.po⟩
  ·have hg:KV.bool _=w:=hg; subst hg; exact ⟨_,by simp [pg,binOp,Op.stringOp,cp],.po⟩
  ·have hg:KV.bool _=w:=hg; subst hg; exact ⟨_,by simp [pg,binOp,Op.stringOp,cp],.po⟩
  ·obtain ⟨hc,rfl⟩:=aK.jt hg
   have hc:=dI hc;have hn : ¬ (((a.size+b.size:Nat):Int) > IntKind.i64.max):=by
    have:IntKind.i64.max=9223372036854775807:=by decide
    rw [this]; omega
   refine ⟨.string (a++b),?_,.mkStr⟩;simp only [pg,binOp,Op.stringOp];rw [ak hn];rfl
  ·exact hg.elim
 ·rename_i T m n es acc
  obtain ⟨u,v,rfl,h1,h2⟩:=h.ju;have key:alu P t=true->Nat.blt 0 n=true->lT P t lit u v=some false:=by
   intro hs hn;refine ab1 h1 h2 ?_;unfold als;unfold alu at hs;have hb:Nat.beq n 0=false:=by
    cases n with
    | zero=>simp at hn
    | succ n=>rfl
   split at hs
   ·simp only [hb,aF]
   ·simp at hs
  split at hg
  ·obtain ⟨hs,hg⟩:=hg.cond
   obtain ⟨hc,rfl⟩:=aK.jt hg;refine ⟨.bool false,?_,.po⟩;have:=key hs hc;unfold pg;split
   ·rename_i e; simp at e; obtain ⟨rfl,rfl⟩:=e; simp [lT,gK] at this
   ·rename_i e; simp at e; obtain ⟨rfl,rfl⟩:=e; simp [lT,gK] at this
   ·rename_i e; simp at e; obtain ⟨rfl,rfl⟩:=e; simp [this]
   ·rename_i e; exact absurd rfl (e _ _)
  ·obtain ⟨hs,hg⟩:=hg.cond
   obtain ⟨hc,rfl⟩:=aK.jt hg;refine ⟨.bool true,?_,.po⟩;have:=key hs hc;unfold pg;split
   ·rename_i e; simp at e; obtain ⟨rfl,rfl⟩:=e; simp [lT,gK] at this
   ·rename_i e; simp at e; obtain ⟨rfl,rfl⟩:=e; simp [lT,gK] at this
   ·rename_i e; simp at e; obtain ⟨rfl,rfl⟩:=e; simp [this]
   ·rename_i e; exact absurd rfl (e _ _)
  ·exact hg.elim
 ·rename_i x y Xt Pd
  obtain ⟨u,v,rfl,h1,h2⟩:=h.ju;split at hg
  ·rename_i b he
   have hg:KV.bool b=w:=hg;subst hg;have:=ab1 (lit:=lit) h1 h2 he;refine ⟨.bool b,?_,.po⟩;unfold pg;split
   ·rename_i e; simp at e; obtain ⟨rfl,rfl⟩:=e; simp [lT,gK] at this
   ·rename_i e; simp at e; obtain ⟨rfl,rfl⟩:=e; simp [lT,gK] at this
   ·rename_i e; simp at e; obtain ⟨rfl,rfl⟩:=e; simp [this]
   ·rename_i e; exact absurd rfl (e _ _)
  ·rename_i b he
   have hg:KV.bool (!b)=w:=hg;subst hg;have:=ab1 (lit:=lit) h1 h2 he;refine ⟨.bool !b,?_,.po⟩;unfold pg;split
   ·rename_i e; simp at e; obtain ⟨rfl,rfl⟩:=e; simp [lT,gK] at this
   ·rename_i e; simp at e; obtain ⟨rfl,rfl⟩:=e; simp [lT,gK] at this
   ·rename_i e; simp at e; obtain ⟨rfl,rfl⟩:=e; simp [this]
   ·rename_i e; exact absurd rfl (e _ _)
  ·exact hg.elim
 ·exact hg.elim
theorem aqu {op:UnOp} : tW P (kUn op) (fUn P op):=by
 intro E vs us w h hg;unfold kUn at hg;split at hg
 ·rename_i b
  obtain ⟨y,rfl,h1⟩:=h.dH;have:=h1.dY; subst this;split at hg
  ·have hg:KV.bool (!b)=w:=hg
   subst hg;exact ⟨_,by simp [fUn,Op.unary,cp],.po⟩
  ·exact hg.elim
 ·rename_i k n
  obtain ⟨y,rfl,h1⟩:=h.dH;have:=h1.cD; subst this;split at hg
  ·have hg:KV.int _ _=w:=hg
   subst hg;exact ⟨.int k (k.wrap (0 - n)),by simp [fUn,Op.unary,Op.intArith,cp],.mkInt⟩
  ·have hg:KV.int _ _=w:=hg
   subst hg;exact ⟨_,by simp [fUn,Op.unary,Op.intBits,cp],.mkInt⟩
  ·exact hg.elim
 ·exact hg.elim
theorem ab2 {mx:Bool} : tW P (Ky mx) (Mc P fun vs=>cond mx (Builtin.max_ #[] 0 ⟨vs⟩) (Builtin.min_ #[] 0 ⟨vs⟩)):=by
 intro E vs us w h hg;unfold Ky at hg;split at hg
 ·rename_i j a k b
  obtain ⟨x,y,rfl,h1,h2⟩:=h.ju;have:=h1.cD; subst this;have:=h2.cD; subst this;obtain ⟨hjk,hz⟩:=hg.cond;clear hg;simp only [lR] at hjk;subst hjk;have hz:KV.int _ _=w:=hz;subst hz;refine ⟨_,?_,.mkInt⟩;cases mx
  ·simp [Mc,tM,flat,Builtin.min_,Builtin.min2,cp]
   omega
  ·simp [Mc,tM,flat,Builtin.max_,Builtin.max2,cp]
   omega
 ·rename_i j a k b l c
  obtain ⟨x,y,z,rfl,h1,h2,h3⟩:=h.Tu;have:=h1.cD; subst this;have:=h2.cD; subst this;have:=h3.cD; subst this;obtain ⟨hjk,hz⟩:=hg.cond;clear hg;simp only [au,lR] at hjk;obtain ⟨rfl,rfl⟩:=hjk;have hz:KV.int _ _=w:=hz;subst hz;refine ⟨_,?_,.mkInt⟩;cases mx
  ·show some (Value.int j (if c < (if b < a then b else a) then c else (if b < a then b else a)))=some (Value.int j (min (min a b) c))
   congr 2;split <;> split at * <;> omega
  ·show some (Value.int j (if c > (if b > a then b else a) then c else (if b > a then b else a)))=some (Value.int j (max (max a b) c))
   congr 2;split <;> split at * <;> omega
 ·exact hg.elim
end Go.K
end
section
namespace Go.K
open Go Go.aq
variable {P:Program} {E:Env}
theorem AR.of {E' : Env} {A A' : ao} {x:Nat} (pq:∀ b,E'.α b=E.α b) (ha:∀ b v,A'.get b=some (.arr v)->A.get b=some (.arr v)) (h:AR A' E' x):AR A E x:=by
 obtain ⟨b,v,L,N,h1,h2⟩:=h;exact ⟨b,v,L,N,ha _ _ h1,by rw [<- pq]; exact h2⟩
theorem AF.of {E' : Env} {A A' : ao} {B B' : St} {g:Nat} (pq:∀ b,E'.α b=E.α b) (ha:∀ b v,A'.get b=some (.arr v)->A.get b=some (.arr v)) (hB:∀ x,AR A E x->B'.get x=B.get x) (h:AF A' E' B' g):AF A E B g:=by
 obtain ⟨b,v,x,L,N,cs,e,own,k,h1,h2,h3⟩:=h;have Jn:E.α b=some (x,L,N):=by rw [<- pq]; exact h2
 exact ⟨b,v,x,L,N,cs,e,own,k,ha _ _ h1,Jn,by rw [<- hB x ⟨b,v,L,N,ha _ _ h1,Jn⟩]; exact h3⟩
theorem AT.of {E' : Env} {A A' : ao} {B B' : St} {y:Nat} (pq:∀ b,E'.α b=E.α b) (ha:∀ b v,A'.get b=some (.arr v)->A.get b=some (.arr v)) (hB:∀ x,AR A E x->B'.get x=B.get x) (hm:∀ g,AF A E B g->B'.members g=B.members g) (h:AT A' E' B' y):AT A E B y:=by
 rcases h with h | ⟨g,h1,h2⟩
 ·exact .inl (h.of pq ha)
 ·have:=h1.of pq ha hB
  exact .inr ⟨g,this,by rw [<- hm g this]; exact h2⟩
theorem kS {B B' : St} (h:∀ x,x < B.next->B'.get x=B.get x):∀ y,y < B.next->∀ cs e own bQ,B'.get y=some (.row cs e own bQ)->∃ kL,B.get y=some (.row kL e own bQ)/\kL.length=cs.length:=
 fun y hy cs _ _ _ q=>⟨cs,by rw [<- h y hy]; exact q,rfl⟩
theorem ab3 {B:St} {o:cw} : ∀ x,x < B.next->(B.new o).get x=B.get x:=fun x hx=>by rw [St.cS,ak (by omega)]
theorem MA.eY {E' : Env} {A A' : ao} {B B' : St} (h:MA P E A B) (hle:E.le E') (pq:∀ b,E'.α b=E.α b) (ha:∀ b v,A'.get b=some (.arr v)->A.get b=some (.arr v)) (hf:∀ b v,A'.get b=some (.il v)->A.get b=some (.il v))
  (hn:A.next<=A'.next) (U8:B.next<=B'.next) (hB:∀ x,AR A E x->B'.get x=B.get x) (hz:∀ b r,E'.z b=some r->E.z b=some r\/B.next<=b) (HS:∀ b x,E'.κ b=some x->E.κ b=some x\/(A.next<=b/\B.next<=x))
  (HT:∀ b g,E'.φ b=some g->(∃ c,E.φ c=some g)\/B.next<=g) (hm:∀ g,AF A E B g->B'.members g=B.members g) (mem:∀ g x,x∈B.members g->x < B.next):MA P E' A' B' where
 arr b v hb:=(h.arr b v (ha _ _ hb)).mono hle (pq b) fun x L N e=>hB x ⟨b,v,L,N,ha _ _ hb,e⟩
 il b v hb:=(h.il b v (hf _ _ hb)).mono hle (pq b)
 z x hx:=by
  have hx':=AR.of pq ha hx;obtain ⟨b,v,L,N,h1,h2⟩:=hx';have bh:=h.fk _ _ _ _ h2;obtain ⟨h3,h4⟩:=h.z x (AR.of pq ha hx);refine ⟨?_,fun c e=>?_⟩
  ·cases hz' : E'.z x with
   | none=>rfl
   | some r=>
    rcases hz x r hz' with e | e
    ·rw [h3] at e; simp at e
    ·omega
  ·rcases HS c x e with e | ⟨_,e⟩
   ·exact h4 c e
   ·omega
 inj b c v u x L N L' N' h1 h2 h3 h4:=h.inj b c v u x L N L' N' (ha _ _ h1) (ha _ _ h2) (by rw [<- pq]; exact h3) (by rw [<- pq]; exact h4)
 tg b c v u x y L N L' N' cs e own g k bV e' od k' h1 h2 h3 h4 h5 h6:=by
  rw [pq] at h3 h4;rw [hB x ⟨b,v,L,N,ha _ _ h1,h3⟩] at h5;rw [hB y ⟨c,u,L',N',ha _ _ h2,h4⟩] at h6;exact h.tg b c v u x y L N L' N' cs e own g k bV e' od k' (ha _ _ h1) (ha _ _ h2) h3 h4 h5 h6
 dis b x e:=by
  rw [pq];rcases HS b x e with e | ⟨e,_⟩
  ·exact h.dis b x e
  ·cases hb:E.α b with
   | none=>rfl
   | some p=>have:=h.jx b p hb; omega
 nk b v hb:=by
  obtain ⟨h1,h2⟩:=h.nk b v (ha _ _ hb);refine ⟨kJ h1 hn,?_⟩;cases e:E'.κ b with
  | none=>rfl
  | some x=>
   rcases HS b x e with e | ⟨e,_⟩
   ·rw [h2] at e; simp at e
   ·omega
 jx b p e:=by rw [pq] at e; have:=h.jx b p e; omega
 fk b x L N e:=by rw [pq] at e; have:=h.fk b x L N e; omega
 rq b v x L N cs e own g k h1 h2 h3:=by
  rw [pq] at h2;have hA:=ha _ _ h1;rw [hB x ⟨b,v,L,N,hA,h2⟩] at h3;obtain ⟨h4,h5,h6⟩:=h.rq b v x L N cs e own g k hA h2 h3;refine ⟨by omega,fun f e=>?_,fun y hy cH=>?_⟩
  ·rcases HT f g e with ⟨c,e⟩ | e
   ·exact h5 c e
   ·omega
  ·rw [hm g ⟨b,v,x,L,N,cs,_,own,k,hA,h2,h3⟩] at hy
   have bh:=mem g y hy;obtain ⟨h7,h8,h9⟩:=h6 y hy cH;refine ⟨?_,fun q=>h8 (AR.of pq ha q),fun c e=>?_⟩
   ·cases hz' : E'.z y with
    | none=>rfl
    | some r=>
     rcases hz y r hz' with e | e
     ·rw [h7] at e; simp at e
     ·omega
   ·rcases HS c y e with e | ⟨_,e⟩
    ·exact h9 c e
    ·omega
theorem dU.Ih {A:ao} {B:St} (h:dU P E A B) {x:Nat} (q:AR A E x):x < B.next:=by
 obtain ⟨b,v,L,N,_,h2⟩:=q;exact h.ar.fk _ _ _ _ h2
structure df (P:Program) (E:Env) (A:ao) (B:St) (E' : Env) (A' : ao) (B' : St):Prop where
 gX:dU P E' A' B'
 le:E.le E'
 next:A.next<=A'.next
 eY:∀ x,x < B.next->(∀ b,E.κ b≠some x)->¬ AT A E B x->B'.get x=B.get x
 new:∀ b x,E'.κ b=some x->E.κ b=some x\/B.next<=x
 sh:∀ b r,E'.z b=some r->E.z b=some r\/AR A E b\/B.next<=b
 si:∀ b g,E'.φ b=some g->E.φ b=some g\/B.next<=g
 oX:∀ g,g < B.next->(∀ b,E.φ b≠some g)->¬ AF A E B g->B'.members g=B.members g
 lN:∀ x,AR A' E' x->AR A E x\/B.next<=x
 ml:∀ g,AF A' E' B' g->AF A E B g\/B.next<=g
 tU:∀ g y,y∈B'.members g->y∈B.members g\/B.next<=y
 nu:∀ y,AT A' E' B' y->AT A E B y\/B.next<=y
 rows:∀ y,y < B.next->∀ cs e own bQ,B'.get y=some (.row cs e own bQ)->∃ kL,B.get y=some (.row kL e own bQ)/\kL.length=cs.length
theorem df.ev {base:Nat} {E' : Env} {A A' : ao} {B B' : St} {ρ aJ:Ren} {w w' : World} (h:df P E A B E' A' B') (g:jG base ρ B w aJ B' w'):Ev P base E A B ρ w E' A' B' aJ w':=
 ⟨h.gX,g,h.le,h.next,h.eY,h.new,h.sh,fun b g e=>(h.si b g e).imp (fun e=>⟨b,e⟩) id,h.oX,h.lN,h.ml,h.tU,h.nu,h.rows⟩
def Jx (P:Program) (o:Oper):pn->Prop
 | .pure f xs=>∀ (E:Env) (ρ:Ren) (ev:Operand->KV) (cG:Operand->Value) (v:KV),(∀ x∈xs,VC P E ρ (ev x) (cG x))->aK (f (xs.map ev)) v->∃ v',VC P E ρ v v'/\∀ w,(execOp cG o).run P w = .ok (.value v') w
 | .read f xs=>∀ (E:Env) (A:ao) (B:St) (ρ:Ren) (base:Nat) (w:World) (ev:Operand->KV) (cG:Operand->Value) (v:KV),KJ P E A B ρ base w->(∀ x∈xs,VC P E ρ (ev x) (cG x))->aK (f A (xs.map ev)) v->
   ∃ v',VC P E ρ v v'/\(execOp cG o).run P w = .ok (.value v') w
 | .look f xs=>∀ (E:Env) (A:ao) (B:St) (ρ:Ren) (base:Nat) (w:World) (ev:Operand->KV) (cG:Operand->Value) (v:KV),KJ P E A B ρ base w->(∀ x∈xs,VC P E ρ (ev x) (cG x))->aK (f (xs.map ev)) v->
   ∃ E' B' aJ v' nx w',(execOp cG o).run P w = .ok nx w'/\ajO v' nx/\VC P E' aJ v v'/\Ev P base E A B ρ w E' A B' aJ w'
 | .act f xs=>∀ (E:Env) (A A' : ao) (B:St) (ρ:Ren) (base:Nat) (w:World) (ev:Operand->KV) (cG:Operand->Value) (v:KV),KJ P E A B ρ base w->(∀ x∈xs,VC P E ρ (ev x) (cG x))->aK (f A (xs.map ev)) (v,A')->
   ∃ E' B' aJ v' nx w',(execOp cG o).run P w = .ok nx w'/\ajO v' nx/\VC P E' aJ v v'/\Ev P base E A B ρ w E' A' B' aJ w'
 | _=>True
theorem mid {ρ:Ren} {ev:Operand->KV} {cG:Operand->Value} {xs:List Operand} (h:∀ x∈xs,VC P E ρ (ev x) (cG x)) :
  ∃ em:Operand->Value,ba P E (xs.map ev) (xs.map em)/\vv ρ em cG xs:=by
 classical
 refine ⟨fun x=>if hx:VC P E ρ (ev x) (cG x) then hx.choose else undef,?_,?_⟩
 ·induction xs with
  | nil=>exact .nil
  | cons x xs ih=>
   refine .cons ?_ (ih fun y hy=>h y (by simp [hy]));have hx:=h x (by simp);simp only [dif_pos hx];exact hx.choose_spec.1
 ·intro x hx
  have hx:=h x hx;simp only [dif_pos hx];exact hx.choose_spec.2
theorem lift_pure {o:Oper} {f:FP} {g:List Value->Option Value} {xs:List Operand} (hc:compile P o.op = .pure g xs) (hs:tW P f g):Jx P o (.pure f xs):=by
 intro E ρ ev cG v hv hg;obtain ⟨em,h1,h2⟩:=mid hv;obtain ⟨u,h3,h4⟩:=hs E _ _ v h1 hg;have cQ:=pj P o;rw [hc] at cQ;obtain ⟨v',h5,h6⟩:=cQ ρ em cG u h2 h3;exact ⟨v',⟨u,h4,h5⟩,h6⟩
def ahH (P:Program) (f:FR) (g:St->List Value->Option Value):Prop:=
 ∀ (E:Env) (A:ao) (B:St) (vs:List KV) (us:List Value) (v:KV),dU P E A B->ba P E vs us->aK (f A vs) v->∃ u,g B us=some u/\VK P E v u
theorem MC {o:Oper} {f:FR} {g:St->List Value->Option Value} {xs:List Operand} (hc:compile P o.op = .read g xs) (hs:ahH P f g):Jx P o (.read f xs):=by
 intro E A B ρ base w ev cG v hj hv hg;obtain ⟨em,h1,h2⟩:=mid hv;obtain ⟨u,h3,h4⟩:=hs E A B _ _ v hj.k h1 hg;have cQ:=pj P o;rw [hc] at cQ;obtain ⟨v',h5,h6⟩:=cQ ρ B base w em cG u hj.s.rel h2 h3;exact ⟨v',⟨u,h4,h5⟩,h6⟩
def alG (P:Program) (f:FA) (g:St->List Value->Option (Value×St)):Prop:=
 ∀ (E:Env) (A A' : ao) (B:St) (vs:List KV) (us:List Value) (v:KV),dU P E A B->ba P E vs us->aK (f A vs) (v,A')->∃ u B' E',g B us=some (u,B')/\VK P E' v u/\df P E A B E' A' B'
theorem XN {o:Oper} {f:FA} {g:St->List Value->Option (Value×St)} {xs:List Operand} (hc:compile P o.op = .act g xs) (hs:alG P f g):Jx P o (.act f xs):=by
 intro E A A' B ρ base w ev cG v hj hv hg;obtain ⟨em,h1,h2⟩:=mid hv;obtain ⟨u,B',E',h3,h4,h5⟩:=hs E A A' B _ _ v hj.k h1 hg;have cQ:=pj P o;rw [hc] at cQ;obtain ⟨aJ,v',nx,w',h6,h7,h8,h9⟩:=cQ ρ B B' base w em cG u hj.s h2 h3;exact ⟨E',B',aJ,v',nx,w',h6,h7,⟨u,h4,h8⟩,h5.ev h9⟩
def apS (P:Program) (f:FP) (g:St->List Value->Option (Value×St)):Prop:=
 ∀ (E:Env) (A:ao) (B:St) (vs:List KV) (us:List Value) (v:KV),dU P E A B->ba P E vs us->aK (f vs) v->∃ u B' E',g B us=some (u,B')/\VK P E' v u/\df P E A B E' A B'
theorem aj2 {o:Oper} {f:FP} {g:St->List Value->Option (Value×St)} {xs:List Operand} (hc:compile P o.op = .act g xs) (hs:apS P f g):Jx P o (.look f xs):=by
 intro E A B ρ base w ev cG v hj hv hg;obtain ⟨em,h1,h2⟩:=mid hv;obtain ⟨u,B',E',h3,h4,h5⟩:=hs E A B _ _ v hj.k h1 hg;have cQ:=pj P o;rw [hc] at cQ;obtain ⟨aJ,v',nx,w',h6,h7,h8,h9⟩:=cQ ρ B B' base w em cG u hj.s h2 h3;exact ⟨E',B',aJ,v',nx,w',h6,h7,⟨u,h4,h8⟩,h5.ev h9⟩
theorem XO {o:Oper} {g:List Value->Option (cw×(Nat->Value))} {xs:List Operand} (hc:compile P o.op = .make g xs) {ρ:Ren} {B:St} {base:Nat} {w:World} {em cG:Operand->Value} {obj:cw} {mk:Nat->Value} (hs:ra ρ B base w)
  (h2:vv ρ em cG xs) (h3:g (xs.map em)=some (obj,mk)):∃ aJ v' w',(execOp cG o).run P w = .ok (.value v') w'/\VR aJ (mk B.next) v'/\jG base ρ B w aJ (B.new obj) w':=by
 have cQ:=pj P o;rw [hc] at cQ;obtain ⟨c,mk',h4,h5,h6⟩:=cQ ρ em cG obj mk h2 h3;exact ⟨_,_,_,h5 w,h6 _ _ _ (Ren.mi _ _ _),h4.eF hs⟩
def ab4 (P:Program) (f:FA) (g:List Value->Option (cw×(Nat->Value))):Prop:=
 ∀ (E:Env) (A A' : ao) (B:St) (vs:List KV) (us:List Value) (v:KV),dU P E A B->ba P E vs us->aK (f A vs) (v,A')->∃ obj mk E',g us=some (obj,mk)/\VK P E' v (mk B.next)/\df P E A B E' A' (B.new obj)
theorem Bi {o:Oper} {f:FA} {g:List Value->Option (cw×(Nat->Value))} {xs:List Operand} (hc:compile P o.op = .make g xs) (hs:ab4 P f g):Jx P o (.act f xs):=by
 intro E A A' B ρ base w ev cG v hj hv hg;obtain ⟨em,h1,h2⟩:=mid hv;obtain ⟨obj,mk,E',h3,h4,h5⟩:=hs E A A' B _ _ v hj.k h1 hg;obtain ⟨aJ,v',w',h6,h7,h8⟩:=XO hc hj.s h2 h3;exact ⟨E',B.new obj,aJ,v',_,w',h6,rfl,⟨_,h4,h7⟩,h5.ev h8⟩
def anR (P:Program) (f:FP) (g:List Value->Option (cw×(Nat->Value))):Prop:=
 ∀ (E:Env) (A:ao) (B:St) (vs:List KV) (us:List Value) (v:KV),dU P E A B->ba P E vs us->aK (f vs) v->∃ obj mk E',g us=some (obj,mk)/\VK P E' v (mk B.next)/\df P E A B E' A (B.new obj)
theorem ae4 {o:Oper} {f:FP} {g:List Value->Option (cw×(Nat->Value))} {xs:List Operand} (hc:compile P o.op = .make g xs) (hs:anR P f g):Jx P o (.look f xs):=by
 intro E A B ρ base w ev cG v hj hv hg;obtain ⟨em,h1,h2⟩:=mid hv;obtain ⟨obj,mk,E',h3,h4,h5⟩:=hs E A B _ _ v hj.k h1 hg;obtain ⟨aJ,v',w',h6,h7,h8⟩:=XO hc hj.s h2 h3;exact ⟨E',B.new obj,aJ,v',_,w',h6,rfl,⟨_,h4,h7⟩,h5.ev h8⟩
def Env.ko (E:Env) (b x:Nat):Env:={ E with κ:=fun c=>if c=b then some x else E.κ c }
def Env.eZ (E:Env) (b:Nat) (r:ahz):Env:={ E with z:=fun c=>if c=b then some r else E.z c }
def Env.qC (E:Env) (b g:Nat):Env:={ E with φ:=fun c=>if c=b then some g else E.φ c }
theorem df.newRow {A:ao} {B:St} {cs:List KV} {bV:List Value} {bH:Nat} (h:dU P E A B) (hv:ba P E cs bV):df P E A B (E.ko A.next B.next) (A.new (.row cs bH)) (B.new (.row bV bH true none)):=by
 have hle:E.le (E.ko A.next B.next):=⟨fun _ _ e=>e,fun b x e=>by
  have:=h.jx b x e;simp only [Env.ko]; rw [ak (by omega)]; exact e,fun _ _ e=>e,fun _ _ e=>e⟩
 have hA:∀ (b:Nat) (v:KV),(A.new (.row cs bH)).get b=some (.arr v)->A.get b=some (.arr v):=fun b v hb=>by
  rw [ao.cS] at hb;split at hb
  ·simp at hb
  ·exact hb
 have XP:∀ (b:Nat) (v:KV),(A.new (.row cs bH)).get b=some (.il v)->A.get b=some (.il v):=fun b v hb=>by
  rw [ao.cS] at hb;split at hb
  ·simp at hb
  ·exact hb
 have xi:∀ x,AR A E x->(B.new (.row bV bH true none)).get x=B.get x:=fun x q=>by have:=h.Ih q; rw [St.cS,ak (by omega)]
 refine ⟨⟨?_,?_,?_,?_,?_,?_,?_,?_,?_,?_,?_,?_,?_,?_,h.ar.eY hle (fun _=>rfl) hA XP (by simp) (by simp) xi (fun _ _ e=>.inl e) (fun b x e=>?_) (fun b g e=>.inl ⟨b,e⟩) (fun _ _=>by simp) h.mem⟩,hle,by simp,?_,?_,fun _ _ e=>.inl e,fun _ _ e=>.inl e,fun _ _ _ _=>by simp,fun _ q=>.inl (q.of (fun _=>rfl) hA),fun _ q=>.inl (q.of (fun _=>rfl) hA xi),fun _ _ q=>.inl (by simpa using q),fun _ q=>.inl (q.of (fun _=>rfl) hA xi fun _ _=>by simp),kS ab3⟩
 ·intro b kL Pe hb
  rw [ao.cS] at hb;split at hb
  ·rename_i e
   simp at hb;obtain ⟨rfl,rfl⟩:=hb;exact ⟨B.next,bV,by simp [Env.ko,e],by simp,hv.mono hle⟩
  ·obtain ⟨x,c,h1,h2,h3⟩:=h.row b kL Pe hb
   have:=h.fk b x h1;exact ⟨x,c,hle.κ _ _ h1,by rw [St.cS,ak (by omega)]; exact h2,h3.mono hle⟩
 ·intro b top DM hb
  rw [ao.cS] at hb;split at hb
  ·simp at hb
  ·rcases h.aQ b top DM hb with h1 | ⟨g,h1,hp0,h2⟩
   ·exact .inl h1
   ·refine .inr ⟨g,h1,hp0,fun x hx c e own f k hg=>?_⟩
    rw [St.cS] at hg;split at hg
    ·simp at hg
    ·exact h2 x (by simpa using hx) c e own f k hg
 ·intro b r hb
  have:=h.kR b r hb;rw [St.cS,ak (by omega)];exact h.z b r hb
 ·intro b x hb
  simp only [Env.ko] at hb ⊢;split at hb
  ·simp at hb
   subst hb;cases hz:E.z B.next with
   | none=>rfl
   | some r=>have:=h.kR _ r hz; omega
  ·exact h.apart b x hb
 ·intro b c x hb hc
  simp only [Env.ko] at hb hc;split at hb <;> split at hc
  ·omega
  ·simp at hb; subst hb; have:=h.fk c _ hc; omega
  ·simp at hc; subst hc; have:=h.fk b _ hb; omega
  ·exact h.inj b c x hb hc
 ·exact Fx.new (E:=E.ko A.next B.next) (fun x y g a b c d e f hx hy=>h.ib x y g a b c d e f hx hy) (.inl fun _ _=>by simp)
 ·intro b x hb
  simp only [Env.ko] at hb;rw [ao.b7];split at hb
  ·omega
  ·have:=h.jx b x hb; omega
 ·intro b g hb; have:=h.kQ b g hb; rw [ao.b7]; omega
 ·intro b o hb
  rw [ao.cS] at hb;rw [ao.b7];split at hb
  ·omega
  ·have:=h.live b o hb; omega
 ·intro b x hb
  simp only [Env.ko] at hb;rw [St.b7];split at hb
  ·simp at hb; omega
  ·have:=h.fk b x hb; omega
 ·intro b r hb; have:=h.kR b r hb; rw [St.b7]; omega
 ·intro b g hb; have:=h.iR b g hb; rw [St.b7]; omega
 ·intro g hg; rw [St.b7] at hg; rw [St.iA]; exact h.fresh g (by omega)
 ·intro g x hx; rw [St.iA] at hx; rw [St.b7]; have:=h.mem g x hx; omega
 ·simp only [Env.ko] at e
  split at e
  ·simp at e; exact .inr (by omega)
  ·exact .inl e
 ·intro x hx _ _; rw [St.cS,ak (by omega)]
 ·intro b x hb
  simp only [Env.ko] at hb;split at hb
  ·simp at hb; exact .inr (by omega)
  ·exact .inl hb
theorem df.ahI {A:ao} {B:St} {bV:List Value} {bH:Nat} (h:dU P E A B):df P E A B (E.eZ B.next ⟨bV,bH,true,none⟩) A (B.new (.row bV bH true none)):=by
 have hle:E.le (E.eZ B.next ⟨bV,bH,true,none⟩):=⟨fun _ _ e=>e,fun _ _ e=>e,fun b r e=>by
  have:=h.kR b r e;simp only [Env.eZ]; rw [ak (by omega)]; exact e,fun _ _ e=>e⟩
 have xi:∀ x,AR A E x->(B.new (.row bV bH true none)).get x=B.get x:=fun x q=>by have:=h.Ih q; rw [St.cS,ak (by omega)]
 have Pf:∀ b r,(E.eZ B.next ⟨bV,bH,true,none⟩).z b=some r->E.z b=some r\/B.next<=b:=fun b r e=>by
  simp only [Env.eZ] at e;split at e
  ·exact .inr (by omega)
  ·exact .inl e
 refine ⟨⟨?_,?_,?_,?_,?_,?_,?_,?_,?_,?_,?_,?_,?_,?_,h.ar.eY hle (fun _=>rfl) (fun _ _ e=>e) (fun _ _ e=>e) (aH _) (by simp) xi Pf (fun _ _ e=>.inl e) (fun b g e=>.inl ⟨b,e⟩) (fun _ _=>by simp) h.mem⟩,hle,aH _,?_,?_,fun b r e=>(Pf b r e).imp id .inr,fun _ _ e=>.inl e,fun _ _ _ _=>by simp,fun _ q=>.inl q,fun _ q=>.inl (q.of (fun _=>rfl) (fun _ _ e=>e) xi),fun _ _ q=>.inl (by simpa using q),fun _ q=>.inl (q.of (fun _=>rfl) (fun _ _ e=>e) xi fun _ _=>by simp),kS ab3⟩
 ·intro b kL Pe hb
  obtain ⟨x,c,h1,h2,h3⟩:=h.row b kL Pe hb;have:=h.fk b x h1;exact ⟨x,c,hle.κ _ _ h1,by rw [St.cS,ak (by omega)]; exact h2,h3.mono hle⟩
 ·intro b top DM hb
  rcases h.aQ b top DM hb with h1 | ⟨g,h1,hp0,h2⟩
  ·exact .inl h1
  ·refine .inr ⟨g,h1,hp0,fun x hx c e own f k hg=>?_⟩
   rw [St.cS] at hg;split at hg
   ·simp at hg
   ·exact h2 x (by simpa using hx) c e own f k hg
 ·intro b r hb
  simp only [Env.eZ] at hb;split at hb
  ·rename_i e
   simp at hb;subst hb e;simp
  ·have:=h.kR b r hb
   rw [St.cS,ak (by omega)];exact h.z b r hb
 ·intro b x hb
  have:=h.fk b x hb;simp only [Env.eZ];rw [ak (by omega)];exact h.apart b x hb
 ·exact h.inj
 ·exact h.ib
 ·exact h.jx
 ·exact h.kQ
 ·exact h.live
 ·intro b x hb; have:=h.fk b x hb; rw [St.b7]; omega
 ·intro b r hb
  simp only [Env.eZ] at hb;rw [St.b7];split at hb
  ·omega
  ·have:=h.kR b r hb; omega
 ·intro b g hb; have:=h.iR b g hb; rw [St.b7]; omega
 ·intro g hg; rw [St.b7] at hg; rw [St.iA]; exact h.fresh g (by omega)
 ·intro g x hx; rw [St.iA] at hx; rw [St.b7]; have:=h.mem g x hx; omega
 ·intro x hx _ _; rw [St.cS,ak (by omega)]
 ·intro b x hb; exact .inl hb
theorem df.putRow {A:ao} {B:St} {b x bH:Nat} {cs:List KV} {bV:List Value} (h:dU P E A B) (hb:∃ kL e,A.get b=some (.row kL e)) (hx:E.κ b=some x) (hold:∃ kL,B.get x=some (.row kL bH true none)/\kL.length=bV.length) (hv:ba P E cs bV):df P E A B E (A.put b (.row cs bH)) (B.put x (.row bV bH true none)):=by
 have hA:∀ (c:Nat) (v:KV),(A.put b (.row cs bH)).get c=some (.arr v)->A.get c=some (.arr v):=fun c v hb=>by
  rw [ao.b5] at hb;split at hb
  ·simp at hb
  ·exact hb
 have XP:∀ (c:Nat) (v:KV),(A.put b (.row cs bH)).get c=some (.il v)->A.get c=some (.il v):=fun c v hb=>by
  rw [ao.b5] at hb;split at hb
  ·simp at hb
  ·exact hb
 have xi:∀ y,AR A E y->(B.put x (.row bV bH true none)).get y=B.get y:=fun y q=>by
  rw [St.b5,ak];intro e;subst e;exact (h.ar.z _ q).2 b hx
 refine ⟨⟨?_,?_,?_,h.apart,h.inj,h.ib.put (.inl fun _ _=>by simp),h.jx,h.kQ,?_,h.fk,h.kR,h.iR,?_,?_,h.ar.eY (Env.le_refl _) (fun _=>rfl) hA XP (aH _) (aH _) xi (fun _ _ e=>.inl e) (fun _ _ e=>.inl e) (fun b g e=>.inl ⟨b,e⟩) (fun _ _=>by simp) h.mem⟩,Env.le_refl _,aH _,?_,fun _ _ e=>.inl e,fun _ _ e=>.inl e,fun _ _ e=>.inl e,fun _ _ _ _=>by simp,fun _ q=>.inl (q.of (fun _=>rfl) hA),fun _ q=>.inl (q.of (fun _=>rfl) hA xi),fun _ _ q=>.inl (by simpa using q),fun _ q=>.inl (q.of (fun _=>rfl) hA xi fun _ _=>by simp),fun y _ c e own bQ q=>by
  rw [St.b5] at q;split at q
  ·rename_i e2
   simp at q;obtain ⟨rfl,rfl,rfl,rfl⟩:=q;obtain ⟨c0,h1,h2⟩:=hold;exact ⟨c0,by rw [e2]; exact h1,h2⟩
  ·exact ⟨c,q,rfl⟩⟩
 ·intro c kL Pe hc
  rw [ao.b5] at hc;split at hc
  ·rename_i e
   simp at hc;obtain ⟨rfl,rfl⟩:=hc;exact ⟨x,bV,by rw [e]; exact hx,by simp,hv⟩
  ·rename_i cH
   obtain ⟨y,d,h1,h2,h3⟩:=h.row c kL Pe hc;refine ⟨y,d,h1,?_,h3⟩;rw [St.b5,ak (fun e=>cH (h.inj c b x (by rw [<- e]; exact h1) hx))];exact h2
 ·intro c top DM hc
  rw [ao.b5] at hc;split at hc
  ·simp at hc
  ·rcases h.aQ c top DM hc with h1 | ⟨g,h1,hp0,h2⟩
   ·exact .inl h1
   ·refine .inr ⟨g,h1,hp0,fun y hy d e own f k hg=>?_⟩
    rw [St.b5] at hg;split at hg
    ·simp at hg
    ·exact h2 y (by simpa using hy) d e own f k hg
 ·intro c r hc
  rw [St.b5,ak]
  ·exact h.z c r hc
  ·intro e
   have:=h.apart b x hx;rw [<- e,hc] at this;simp at this
 ·intro c o hc
  rw [ao.b5] at hc;rw [ao.qv];split at hc
  ·rename_i e
   obtain ⟨kL,e0,hb⟩:=hb;rw [e]; exact h.live b _ hb
  ·exact h.live c o hc
 ·intro g hg; rw [St.rC]; exact h.fresh g hg
 ·intro g y hy; rw [St.rC] at hy; exact h.mem g y hy
 ·intro y hy hn _
  rw [St.b5,ak (fun e=>hn b (by rw [e]; exact hx))]
theorem apd {n:Nat} : ab4 P (ahr n) (ahc n):=by
 intro E A A' B vs us v h hv hg;unfold ahr at hg;split at hg
 ·rename_i x
  obtain ⟨y,rfl,h1⟩:=hv.dH;obtain ⟨ho,hg⟩:=hg.cond;have hg:(KV.ptr A.next 0,A.new (.row x.cells n))=(v,A'):=hg;simp only [dJ] at hg;obtain ⟨rfl,rfl⟩:=hg;have hc:=h1.cells (vX ho);have hsc:y.cells.toList.all scalar=true:=eM.2 (hc.scalar ho);exact ⟨Fp n y,Gh,E.ko A.next B.next,by simp [ahc,hsc],.xa (by simp [Env.ko]),df.newRow h hc⟩
 ·exact hg.elim
theorem amH {t:TypeId} {z:Value} (hz:qt P t=some z) (hf:flat z=true) (hsc:z.cells.toList.all scalar=true) (ho:fY (ff z).cells=true):ab4 P (Zg (mJ P t) (ff z).cells) (L9 P t):=by
 intro E A A' B vs us v h hv hg;have hg:(KV.ptr A.next 0,A.new (.row (ff z).cells (mJ P t)))=(v,A'):=hg;simp only [dJ] at hg;obtain ⟨rfl,rfl⟩:=hg;exact ⟨Fp (mJ P t) z,Gh,E.ko A.next B.next,by simp only [L9,hz,dz,hf,hsc,cg,aj],.xa (by simp [Env.ko]),df.newRow h (Bg ho)⟩
theorem Pg {cs:List KV} {l:List Value} (h:ba P E cs l):∀ n,ba P E (cY cs n) (fe l n)
 | 0=>.nil
 | n+1=>ba.append h (Pg h n)
theorem ad7 {n b:Nat} {z:Value} (ho:fY (ff z).cells=true):ab4 P (O4 n b (ff z).cells) (C0 n b z):=by
 intro E A A' B vs us v h hv hg;unfold O4 at hg;split at hg
 ·rename_i k l k' c
  obtain ⟨x,y,rfl,h1,h2⟩:=hv.ju;have:=h1.cD; subst this;have:=h2.cD; subst this;obtain ⟨hc,hg⟩:=aK.jt hg;simp only [dJ] at hg;obtain ⟨rfl,rfl⟩:=hg;simp only [au,lR] at hc;obtain ⟨⟨h3,h4⟩,h5⟩:=hc;obtain ⟨l',rfl⟩:=Int.eq_ofNat_of_zero_le h3;obtain ⟨c',rfl⟩:=Int.eq_ofNat_of_zero_le (Int.le_trans h3 h4);have h6:Nat.ble l' c' = true:=Nat.ble_eq_true_of_le (by omega);refine ⟨.row (fe z.cells.toList c') n true none,fun k=>.slice (some ⟨k,0,none⟩) l' c',E.ko A.next B.next,?_,.alE (by simp [Env.ko]),df.newRow h (Pg (Bg ho) c')⟩;have h5:Nat.ble (b * c') 281474976710656=true:=h5;show cond (Nat.ble l' c'&&Nat.ble (b * c') 281474976710656) _ _=_;rw [h6,h5];rfl
 ·exact hg.elim
theorem dU.rowAt {A:ao} {B:St} (h:dU P E A B) {b x:Nat} {cs:List KV} (hr:rowAt A b=some cs) (hx:E.κ b=some x):∃ bV bH,B.get x=some (.row bV bH true none)/\ba P E cs bV:=by
 unfold K.rowAt at hr;split at hr
 ·rename_i c e hg
  simp at hr;subst hr;obtain ⟨y,d,h1,h2,h3⟩:=h.row _ _ _ hg;rw [hx] at h1;simp at h1;subst h1;exact ⟨d,_,h2,h3⟩
 ·simp at hr
theorem Ph (e:KV):∀ (cs:List CK) (k:Nat),(leaves e cs k).length=cs.length
 | [],_=>rfl
 | c::cs,k=>by simp [leaves,Ph e cs]
theorem af5 {c:CK} {v:KV} (h:kindOk c v=true):leaf c v=v:=by
 cases c with
 | int k=>cases v <;> simp [kindOk] at h; subst h; rfl
 | bool=>cases v <;> simp [kindOk] at h; rfl
 | str=>cases v <;> simp [kindOk] at h; rfl
 | slice t=>
  cases v <;> simp [kindOk] at h;rename_i T m n es acc;cases m <;> simp at h;subst h;rfl
 | other=>cases v <;> simp [kindOk] at h
theorem y7:∀ {ks:List CK} {cs:List KV} {i:Nat} {c:CK},aA ks cs=true->ks[i]? = some c->∃ v,cs[i]? = some v/\kindOk c v=true
 | [],_,i,c,_,h=>by simp at h
 | _::_,[],_,_,h,_=>by simp [aA] at h
 | k::ks,v::cs,0,c,h,e=>by
  simp only [aA,au] at h;simp at e;subst e;exact ⟨v,rfl,h.1⟩
 | k::ks,v::cs,i+1,c,h,e=>by
  simp only [aA,au] at h;obtain ⟨u,h1,h2⟩:=y7 (i:=i) h.2 (by simpa using e);exact ⟨u,by simpa using h1,h2⟩
theorem gM:∀ {l:Lay} {es:List KV} {i:Nat} {e:KV},dV l es=true->es[i]? = some e->cl l e=true
 | l,[],i,e,_,h=>by simp at h
 | l,x::es,0,e,h,he=>by
  simp only [dV,au] at h;simp at he;subst he;exact h.1
 | l,x::es,i+1,e,h,he=>by
  simp only [dV,au] at h;exact gM h.2 (by simpa using he)
theorem fN {l:Lay} {e:KV} (h:cl l e=true):aA l.ks e.cells=true/\ti e=true:=by
 cases e <;> simp [cl] at h <;> first | exact ⟨h.2,rfl⟩ | skip
 obtain ⟨h1,h2⟩:=h;cases hk:l.ks with
 | nil=>rw [hk] at h2; simp [aA] at h2
 | cons c cs=>rw [hk] at h2; cases c <;> simp [aA,kindOk] at h2
theorem Tx {e:KV} {ks:List CK} (hk:aA ks e.cells=true):∀ {cs:List CK} {k:Nat},(∀ m c,cs[m]? = some c->ks[k+m]? = some c)->leaves e cs k=(e.cells.drop k).take cs.length
 | [],k,_=>by simp [leaves]
 | c::cs,k,h=>by
  obtain ⟨v,h1,h2⟩:=y7 hk (by simpa using h 0 c rfl);have bh:k < e.cells.length:=(cP.1 h1).1;have ih:=Tx hk (cs:=cs) (k:=k+1) (fun m d hm=>by have:=h (m+1) d (by simpa using hm); rwa [show k+(m+1)=k+1+m by omega] at this);simp only [leaves];have e1:e.cells.getD k .bA=v:=by simp [List.getD,h1]
  rw [e1,af5 h2];rw [show Nat.succ k=k+1 from rfl,ih,List.drop_eq_getElem_cons bh];have e2:e.cells[k] = v:=by
   have:=cM bh;rw [this] at h1;simpa using h1
  simp [e2]
theorem dU.Ju {A:ao} {B:St} (h:dU P E A B) {b x L N' : Nat} {v:KV} (hr:Ju A b=some v) (hx:E.α b=some (x,L,N')) :
  ∃ T N es acc,v = .ts T .any N es acc/\gL P T N es acc/\1<=bf P T/\∃ cs e own bQ bo,N' = N/\B.get x=some (.row cs e own bQ)/\ba P E es bo/\nG (bf P T) 0 cs bo/\L=cs.length/\e=bf P T:=by
 unfold K.Ju at hr;split at hr
 ·rename_i u hg
  simp at hr; subst hr;obtain ⟨T,N,es,acc,h1,h2,h3,h4⟩:=h.ar.arr b _ hg;refine ⟨T,N,es,acc,h1,h2,h3,?_⟩;rcases h4 with ⟨_,h5⟩ | ⟨y,cs,bQ,bo,h4,h5,h6,h7⟩
  ·rw [hx] at h5; simp at h5
  ·rw [hx] at h4
   simp only [cJ,dJ] at h4;obtain ⟨rfl,rfl,rfl⟩:=h4;exact ⟨cs,_,_,bQ,bo,rfl,h5,h6,h7,rfl,rfl⟩
 ·rename_i u hg
  simp at hr; subst hr;obtain ⟨T,N,es,acc,h1,h2,h3,h4⟩:=h.ar.il b _ hg;refine ⟨T,N,es,acc,h1,h2,h3,?_⟩;rcases h4 with ⟨_,h5⟩ | ⟨y,r,bo,h4,h5,h6,h7,h8⟩
  ·rw [hx] at h5; simp at h5
  ·rw [hx] at h4
   simp only [cJ,dJ] at h4;obtain ⟨rfl,rfl,rfl⟩:=h4;exact ⟨r.cs,_,_,_,bo,rfl,h.z _ _ h5,h7,h8,rfl,h6⟩
 ·simp at hr
theorem ab5 {t T Tc:TypeId} {k x base bH:Nat} {own:Bool} {bQ:Option (Nat×Nat)} {e:KV} {u:Value} {cs:List Value} {B:St} (hz:B.get x=some (.row cs bH own bQ)) (hc:aaW P t Tc=true) (hw:aa0 P T Tc k) (y8:cl (aX P T) e=true)
  (h7:VK P E e u) (dK:u.cells.size=bf P T) (nL:∀ (m:Nat) (y:Value),u.cells[m]? = some y->cs[base+m]? = some y):∃ w,Ma P t B [.pointer (some ⟨x,base+k,none⟩)] = some w/\VK P E (OA (aX P t).agg (leaves e (aX P t).ks k)) w:=by
 simp only [aaW,au,lR] at hc;obtain ⟨⟨⟨⟨hTc,hpl⟩,ha⟩,hn⟩,apT⟩:=hc;have:=aW hTc;subst this;obtain ⟨ape,apf⟩:=fN y8;have hlv:=Tx ape (cs:=(aX P Tc).ks) (k:=k) hw.is;rw [hlv];have Jp:=h7.cells apf;have hlen:e.cells.length=bf P T:=by have:=Jp.length; simp at this; omega
 have mK:(aX P Tc).ks.length<=e.cells.length - k:=by
  have:=congrArg List.length hlv;rw [Ph] at this;simp at this;omega
 have eS:∀ m,m < (aX P Tc).ks.length->cs[base+k+m]? = u.cells.toList[k+m]?:=by
  intro m hm;have bh:k+m < u.cells.size:=by omega
  have:=nL (k+m) u.cells[k+m] (by simp [bh]);rw [show base+(k+m)=base+k+m by omega] at this;rw [this];simp [bh]
 have aj3:takeN (aX P Tc).ks.length (Gg (base+k) cs)=some ((u.cells.toList.drop k).take (aX P Tc).ks.length):=by
  have hle:(aX P Tc).ks.length<=(cs.drop (base+k)).length:=by
   cases OU:(aX P Tc).ks.length with
   | zero=>omega
   | succ q=>
    have:=eS q (by omega);have bh:k+q < u.cells.toList.length:=by simp; omega
    rw [cM bh] at this;have:=(cP.1 this).1;simp;omega
  rw [qu,KL hle];congr 1;apply List.ext_getElem?;intro m;rw [mz,mz];split
  ·rename_i hm
   rw [mX,mX];exact eS m hm
  ·rfl
 have hrel:ba P E (e.cells.drop k |>.take (aX P Tc).ks.length) ((u.cells.toList.drop k).take (aX P Tc).ks.length):=(Jp.drop k).take _;cases xb:(aX P Tc).agg with
 | true=>
  rw [xb] at ha;refine ⟨.agg ⟨(u.cells.toList.drop k).take (aX P Tc).ks.length⟩,?_,.ow hrel⟩;simp [Ma,loadAt,ha,hn,St.vz,cO,x7,hz,aj3]
 | false=>
  rw [xb] at ha;have hl1:(aX P Tc).ks.length=1:=by
   rw [xb] at apT;exact aW (by simpa using apT)
  rw [hl1] at aj3 hrel;have bh:k < e.cells.length:=by omega
  rw [hl1];rw [List.drop_eq_getElem_cons bh] at hrel ⊢;simp only [List.take_succ_cons,List.take_zero] at hrel ⊢;obtain ⟨w,h8,h9⟩:=hrel.dH;refine ⟨w,?_,h9⟩;simp [Ma,loadAt,ha,St.vz,cO,x7,hz,aj3,h8]
theorem ahJ {t:TypeId} : ahH P (XD P t) (Ma P t):=by
 intro E A B vs us v h hv hg;unfold XD at hg;split at hg
 ·rename_i b off
  obtain ⟨y,rfl,h1⟩:=hv.dH;obtain ⟨x,hx,rfl⟩:=h1.gG;split at hg
  ·rename_i ag n ha hn
   split at hg
   ·rename_i l hl
    obtain ⟨cs,h2,h3⟩:=cI.1 hl;obtain ⟨bV,bH,h4,h5⟩:=h.rowAt h2 hx;obtain ⟨r,h6,h7,_⟩:=h5.tR h3;cases ag with
    | true=>
     have hg:KV.agg l=v:=hg;subst hg;refine ⟨.agg ⟨r⟩,?_,.ow h7⟩;simp [Ma,loadAt,ha,hn,St.vz,cO,x7,h4,h6]
    | false=>
     rw [aF] at hg;split at hg
     ·rename_i u
      have hg:u=v:=hg;subst hg;obtain ⟨w,rfl,h8⟩:=h7.dH;have hlen:n=1:=by
       obtain ⟨e,hle⟩:=Rc h3;have:=congrArg List.length e;rw [kG,Nat.min_eq_left hle] at this;simpa using this.symm
      subst hlen;exact ⟨w,by simp [Ma,loadAt,ha,St.vz,cO,x7,h4,h6],h8⟩
     ·exact hg.elim
   ·exact hg.elim
  ·exact hg.elim
 ·rename_i T Tc i k es acc
  obtain ⟨y,rfl,h1⟩:=hv.dH;obtain ⟨hc,hg⟩:=hg.cond;have hg:OA (aX P t).agg (leaves (acc i) (aX P t).ks k)=v:=hg;subst hg;obtain ⟨ht,bo,h2,hi,hw,b,off,r,rfl,h4,h5⟩:=h1.Mz;have ari:=ht.acc i hi;have hei:es[i]? = some (acc i):=by rw [ari]; simp [List.getD,hi]
  obtain ⟨u,h6,h7⟩:=h2.get hei;obtain ⟨dK,nL⟩:=h5 i u h6;exact ab5 (h.z b r h4) hc hw (gM ht.typed hei) h7 dK nL
 ·rename_i T Tc b i k
  obtain ⟨y,rfl,h1⟩:=hv.dH;split at hg
  ·rename_i T' m N es acc hA
   obtain ⟨hc,hg⟩:=hg.cond;have hg:OA (aX P t).agg (leaves (acc i) (aX P t).ks k)=v:=hg;subst hg;simp only [au] at hc;have:=aW hc.1;subst this;obtain ⟨x,L,N',h2,hw,hi,rfl⟩:=h1.Ig;obtain ⟨T2,N2,mV,iC,Gn,ht,h1s,cs,e,own,bQ,bo,h3,h4,h5,h6,_⟩:=h.Ju hA h2;simp only [KV.ts.injEq] at Gn;obtain ⟨rfl,rfl,rfl,rfl,rfl⟩:=Gn;have bh:i < es.length:=by rw [<- ht.len,<- h3]; exact hi
   have hei:es[i]? = some (acc i):=by rw [ht.acc i (by rw [ht.len]; exact bh)]; simp [List.getD,bh]
   obtain ⟨u,h7,h8⟩:=h5.get hei;obtain ⟨dK,nL⟩:=h6 i u h7;rw [bp] at nL;exact ab5 h4 hc.2 hw (gM ht.typed hei) h8 dK nL
  ·exact hg.elim
 ·exact hg.elim
end Go.K
end
section
namespace Go.K
open Go Go.aq
variable {P:Program} {E:Env}
theorem VK.anS {T:TypeId} {m:Mk} {n:Nat} {es:List KV} {acc:Nat->KV} {u:Value} (h:VK P E (.ts T m n es acc) u):VK P E (.ts T .any n es acc) u:=by
 obtain ⟨ht,bo,h1,a,cap,rfl,h2,h3,_⟩:=h.jY;simp only [VK];exact ⟨ht,bo,h1,a,cap,rfl,h2,h3,trivial⟩
theorem VK.aj4 {T:TypeId} {acc:Nat->KV} : VK P E (.ts T .any 0 [] acc) (.slice none 0 0):=by
 simp only [VK];exact ⟨⟨rfl,fun i h=>by omega,rfl⟩,[],.nil,none,0,rfl,aH _,.inl ⟨rfl,rfl⟩,trivial⟩
theorem VK.aqv {b:Bool} {v:KV} {u:Value} (h:VK P E v u):VK P E (cond b v .bA) u:=by
 cases b with
 | false=>exact .qB
 | true=>exact h
theorem VK.lM {c:CK} {v:KV} {u:Value} (h:VK P E v u):VK P E (lM c v) u:=by
 unfold K.lM;split
 ·have:=h.nt; subst this; exact .aj4
 ·rename_i t t' m n es acc
  cases hb:Nat.beq t t' with
  | false=>exact .qB
  | true=>
   have:=aW hb;subst this;exact h.anS
 ·exact VK.aqv h
theorem ba.yY:∀ {ks:List CK} {cs:List KV} {l:List Value},ba P E cs l->cs.length=ks.length->ba P E (yY ks cs) l
 | [],[],l,h,_=>h
 | [],_::_,_,_,e=>by simp at e
 | _::_,[],_,_,e=>by simp at e
 | c::ks,v::cs,l,h,e=>by
  obtain ⟨y,ys,rfl,h1,h2⟩:=h.cons_inv;exact .cons h1.lM (ba.yY h2 (by simpa using e))
theorem VK.dy {l:Lay} {v:KV} {u:Value} (h:VK P E v u):VK P E (dy l v) u:=by
 unfold K.dy;split
 ·rename_i cs
  obtain ⟨m,rfl,h1⟩:=h.jP;cases hb:(l.agg&&Nat.beq cs.length l.ks.length) with
  | false=>exact .qB
  | true=>
   simp only [au] at hb;exact .ow (h1.yY (aW hb.2))
 ·cases l.agg with
  | true=>exact .qB
  | false=>
   rw [aF];split
   ·exact h.lM
   ·exact .qB
theorem Vp (d:Nat) (v:KV):bI P (d+1) v=(match v with
 | .ts t _ n _ acc=>.ts t .any n ((List.range n).map fun i=>eE P (bI P d) t (acc i)) (fun i=>eE P (bI P d) t (acc i))
 | v=>v):=rfl
theorem ad8 (d:Nat) {c:CK} {v:KV} (h:kindOk c v=true):kindOk c (bI P d v)=true:=by
 cases d with
 | zero=>exact h
 | succ d=>
  rw [Vp];split
  ·rename_i t m n es acc
   cases c <;> simp [kindOk] at h;cases m <;> simp at h;simp [kindOk,h]
  ·exact h
theorem Gz (d:Nat):∀ {ks:List CK} {cs:List KV},aA ks cs=true->aA ks (cs.map (bI P d))=true
 | [],[],_=>rfl
 | [],_::_,h=>by simp [aA] at h
 | _::_,[],h=>by simp [aA] at h
 | c::ks,v::cs,h=>by
  simp only [aA,au] at h;simp only [List.map_cons,aA,au];exact ⟨ad8 d h.1,Gz d h.2⟩
theorem pr:∀ {ks:List CK} {vs:List KV},aA ks vs=true->vs.length=ks.length
 | [],[],_=>rfl
 | [],_::_,h=>by simp [aA] at h
 | _::_,[],h=>by simp [aA] at h
 | k::ks,v::vs,h=>by
  simp only [aA,au] at h;simp [pr h.2]
theorem oe {l:Lay} : ∀ {es:List KV},(∀ (i:Nat) e,es[i]? = some e->cl l e=true)->dV l es=true
 | [],_=>rfl
 | e::es,h=>by
  simp only [dV,au];exact ⟨h 0 e rfl,oe fun i x hx=>h (i+1) x (by simpa using hx)⟩
theorem MD {l:Lay} {v:KV} (h:cl l v=true):leaves v l.ks 0=v.cells/\aA l.ks v.cells=true/\(v=OA l.agg v.cells):=by
 have hk:aA l.ks v.cells=true/\(v=OA l.agg v.cells):=by
  by_cases ha:∃ cs,v = .agg cs
  ·obtain ⟨cs,rfl⟩:=ha
   simp only [cl,au] at h;refine ⟨h.2,?_⟩;rw [h.1]; rfl
  ·have h1:(!l.agg&&aA l.ks [v])=true:=by
    cases v <;> first | exact h | exact absurd ⟨_,rfl⟩ ha | simp [cl] at h
   have hc:v.cells = [v]:=by cases v <;> first | rfl | exact absurd ⟨_,rfl⟩ ha
   simp only [au,jT] at h1;rw [hc,h1.1];exact ⟨h1.2,rfl⟩
 refine ⟨?_,hk.1,hk.2⟩;rw [Tx (e:=v) (ks:=l.ks) hk.1 (fun m c e=>by rw [bp]; exact e)];show (v.cells.drop 0).take l.ks.length=v.cells;rw [List.drop_zero,<- pr hk.1,List.take_length]
theorem ab6 {l:Lay} {cs:List KV} {v:KV} (h:cl l v=true) (hk:aA l.ks cs=true) (hlen:cs.length=v.cells.length):cl l (OA l.agg cs)=true:=by
 by_cases ha:∃ ds,v = .agg ds
 ·obtain ⟨ds,rfl⟩:=ha
  simp only [cl,au] at h;rw [h.1];show (l.agg&&aA l.ks cs)=true;rw [h.1,hk]; rfl
 ·have h1:(!l.agg&&aA l.ks [v])=true:=by
   cases v <;> first | exact h | exact absurd ⟨_,rfl⟩ ha | simp [cl] at h
  have hc:v.cells = [v]:=by cases v <;> first | rfl | exact absurd ⟨_,rfl⟩ ha
  simp only [au,jT] at h1;rw [hc] at hlen
  match cs,hlen with
  | [c],_=>
   rw [h1.1];show cl l c=true;have Vo:one c=true:=by
    cases pT:l.ks with
    | nil=>rw [pT] at hk; simp [aA] at hk
    | cons a asg=>rw [pT] at hk; simp only [aA,au] at hk; cases a <;> cases c <;> first | rfl | simp [kindOk] at hk
   cases c <;> first | (simp [one] at Vo; done) | (simp only [cl,h1.1,HY,wD]; exact hk)
mutual
theorem VK.bI:∀ (d:Nat) {v:KV} {u:Value},VK P E v u->VK P E (K.bI P d v) u
 | 0,_,_,h=>h
 | d+1,v,u,h=>by
  rw [Vp];split
  ·rename_i t m n es acc
   obtain ⟨ht,bo,h1,a,cap,rfl,h2,h3,_⟩:=h.jY;simp only [VK];have y8:∀ i,i < n->∃ e e',es[i]? = some e/\bo[i]? = some e'/\acc i=e/\cl (aX P t) e=true/\VK P E e e':=by
    intro i hi;have hl:i < es.length:=by rw [<- ht.len]; exact hi
    have e1:=cM hl;obtain ⟨e',e2,e3⟩:=h1.get e1;exact ⟨_,e',e1,e2,by rw [ht.acc i hi,eX,e1]; rfl,gM ht.typed e1,e3⟩
   have hlen:bo.length=n:=by rw [h1.length,ht.len]
   refine ⟨⟨by simp,fun i hi=>?_,?_⟩,bo,?_,a,cap,rfl,h2,h3,trivial⟩
   ·rw [eX,uG,List.getElem?_range hi]; rfl
   ·refine oe fun i e he=>?_
    rw [uG] at he;by_cases hi:i < n
    ·rw [List.getElem?_range hi] at he
     simp only [Option.map_some,cJ] at he;obtain ⟨x,x',_,_,q3,q4,_⟩:=y8 i hi;rw [<- he,q3,eE];obtain ⟨r1,r2,_⟩:=MD q4;rw [r1];exact ab6 q4 (Gz d r2) (by simp)
    ·rw [List.getElem?_eq_none (by simp; omega)] at he; simp at he
   ·refine ba.UZ (by simp [hlen]) fun i e e' he Js=>?_
    rw [uG] at he;by_cases hi:i < n
    ·rw [List.getElem?_range hi] at he
     simp only [Option.map_some,cJ] at he;obtain ⟨x,x',_,q2,q3,q4,q5⟩:=y8 i hi;rw [Js] at q2;simp only [cJ] at q2;subst q2;rw [<- he,q3];exact VK.eE d q4 q5
    ·rw [List.getElem?_eq_none (by simp; omega)] at he; simp at he
  ·exact h
theorem VK.eE (d:Nat) {t:TypeId} {v:KV} {u:Value} (hk:cl (aX P t) v=true) (h:VK P E v u):VK P E (K.eE P (K.bI P d) t v) u:=by
 obtain ⟨r1,r2,r3⟩:=MD hk;rw [K.eE,r1];by_cases ha:∃ cs,v = .agg cs
 ·obtain ⟨cs,rfl⟩:=ha
  obtain ⟨l,rfl,h1⟩:=h.jP;have xb:(aX P t).agg=true:=by simp only [cl,au] at hk; exact hk.1
  rw [xb];exact .ow (ba.ahK d h1)
 ·have hc:v.cells = [v]:=by cases v <;> first | rfl | exact absurd ⟨_,rfl⟩ ha
  have xb:(aX P t).agg=false:=by
   cases v <;> first | (simp only [cl,au,jT] at hk; exact hk.1) | exact absurd ⟨_,rfl⟩ ha | simp [cl] at hk
  rw [xb,hc];exact VK.bI d h
theorem ba.ahK (d:Nat):∀ {cs:List KV} {l:List Value},ba P E cs l->ba P E (cs.map (K.bI P d)) l
 | [],l,h=>h
 | c::cs,l,h=>by
  obtain ⟨y,ys,rfl,h1,h2⟩:=h.cons_inv;exact .cons (VK.bI d h1) (ba.ahK d h2)
end
theorem ahL {c:CK} {v:KV} (h:kindOk c v=true):one v=true:=by
 cases c <;> cases v <;> simp [kindOk] at h <;> rfl
theorem Fy:∀ {ks:List CK} {cs:List KV},aA ks cs=true->fY cs=true
 | [],[],_=>rfl
 | [],_::_,h=>by simp [aA] at h
 | _::_,[],h=>by simp [aA] at h
 | c::ks,v::cs,h=>by
  simp only [aA,au] at h;simp [fY,ahL h.1,Fy h.2]
def bG:List Value->List Value
 | []=>[]
 | v::vs=>v.cells.toList++bG vs
theorem gz {n:Nat} : ∀ {es:List Value},(∀ v∈es,v.cells.size=n)->(bG es).length=es.length * n
 | [],_=>by simp [bG]
 | v::es,h=>by
  simp only [bG,kF,yM];rw [gz fun u hu=>h u (by simp [hu])];have:=h v (by simp);simp only [Array.length_toList,this,Nat.succ_mul];omega
theorem kq {n:Nat} : ∀ {es:List Value},(∀ v∈es,v.cells.size=n)->nG n 0 (bG es) es
 | [],_,i,x,h=>by simp at h
 | v::es,hs,i,x,h=>by
  have hv:=hs v (by simp);cases i with
  | zero=>
   simp at h;subst h;refine ⟨hv,fun k y hy=>?_⟩;simp only [bG,Nat.zero_mul,bp];have bh:k < v.cells.size:=(rA.1 hy).1;rw [oM (by simpa using bh)];simpa using hy
  | succ i=>
   obtain ⟨h1,h2⟩:=kq (es:=es) (fun u hu=>hs u (by simp [hu])) i x (by simpa using h);refine ⟨h1,fun k y hy=>?_⟩;have:=h2 k y hy;simp only [bG];rw [qd (by simp [hv,Nat.succ_mul]; omega)];rw [<- this];congr 1;simp [hv,Nat.succ_mul];omega
theorem vY:∀ (a b:List Value),bG (a++b)=bG a++bG b
 | [],b=>rfl
 | v::a,b=>by simp [bG,vY a b]
theorem vZ:∀ {es:List Value},(∀ v∈es,∀ c∈v.cells.toList,scalar c=true)->∀ c∈bG es,scalar c=true
 | [],_,c,h=>by simp [bG] at h
 | v::es,hs,c,h=>by
  simp only [bG,iW] at h;rcases h with h | h
  ·exact hs v (by simp) c h
  ·exact vZ (fun u hu=>hs u (by simp [hu])) c h
theorem Zm {n:Nat} : ∀ {es:List Value} {i:Nat} {v:Value},(∀ u∈es,u.cells.size=n)->v.cells.size=n->i < es.length->fV (i * n) (bG es) v.cells.toList=some (bG (es.set i v))
 | [],i,v,_,_,h=>by simp at h
 | u::es,0,v,hs,hv,_=>by
  simp only [Nat.zero_mul,bG,List.set_cons_zero];have key:∀ (a b r:List Value),a.length=b.length->fV 0 (a++r) b=some (b++r):=by
   intro a
   induction a with
   | nil=>intro b r h; cases b <;> simp_all [w7]
   | cons x a ih=>
    intro b r h;cases b with
    | nil=>simp at h
    | cons y b=>rw [List.cons_append,tL,ih b r (by simpa using h)]; rfl
  exact key _ _ _ (by simp [hs u (by simp),hv])
 | u::es,i+1,v,hs,hv,h=>by
  have ih:=Zm (es:=es) (i:=i) (fun w hw=>hs w (by simp [hw])) hv (by simpa using h);simp only [bG,List.set_cons_succ];have key:∀ (a r vs q:List Value) (m:Nat),fV m r vs=some q->fV (a.length+m) (a++r) vs=some (a++q):=by
   intro a
   induction a with
   | nil=>intro r vs q m h; simpa using h
   | cons x a ih=>
    intro r vs q m h;rw [yM,show a.length+1+m=(a.length+m)+1 by omega,List.cons_append,pS,ih r vs q m h];rfl
  have:=key u.cells.toList _ _ _ _ ih;rw [show u.cells.toList.length+i * n=(i+1) * n by simp [hs u (by simp),Nat.succ_mul]; omega] at this;exact this
def oY (es:List Value):List (Nat×Value)->List Value
 | []=>es
 | (i,v)::rest=>oY (es.set i v) rest
theorem Jy:∀ (ps:List (Nat×Value)) (es:List Value),(oY es ps).length=es.length
 | [],_=>rfl
 | p::ps,es=>by simp [oY,Jy ps]
theorem Ty {n:Nat} (hn:1<=n):∀ {ps:List (Nat×Value)} {es:List Value},(∀ u∈es,u.cells.size=n)->(∀ p∈ps,p.2.cells.size=n/\p.1 < es.length)->
  yO (x8 n) (bG es) ps=some (bG (oY es ps))/\∀ u∈oY es ps,u.cells.size=n
 | [],es,hs,_=>⟨rfl,hs⟩
 | (i,v)::ps,es,hs,hp=>by
  obtain ⟨h1,h2⟩:=hp (i,v) (by simp);have h3:=Zm hs h1 h2;have abI:∀ u∈es.set i v,u.cells.size=n:=by
   intro u hu;rcases List.mem_or_eq_of_mem_set hu with h | h
   ·exact hs u h
   ·subst h; exact h1
  obtain ⟨h4,h5⟩:=Ty hn (ps:=ps) abI (fun p hq=>by have:=hp p (by simp [hq]); simpa using this);refine ⟨?_,h5⟩;simp only [yO,x8];have e1:Nat.beq v.cells.size n=true:=by rw [h1]; simp
  have e2:Nat.ble 1 n=true:=Nat.ble_eq_true_of_le hn;rw [e1,e2];simp only [cg,aj,h3,dz];exact h4
theorem Tz {v:KV} {u:Value} (h:VK P E v u):∀ {es:List KV} {bo:List Value} (i:Nat),ba P E es bo->ba P E (setAt es i v) (bo.set i u)
 | [],bo,i,q=>by rw [q.bZ]; cases i <;> exact .nil
 | x::es,bo,0,q=>by
  obtain ⟨y,ys,rfl,h1,h2⟩:=q.cons_inv;exact .cons h h2
 | x::es,bo,i+1,q=>by
  obtain ⟨y,ys,rfl,h1,h2⟩:=q.cons_inv;exact .cons h1 (Tz h i h2)
theorem TA {l:Lay} : ∀ {is:List Nat} {vs:List KV} {us:List Value} {es:List KV} {bo:List Value},ba P E vs us->ba P E es bo->ba P E (DL es ((vw is vs).map fun p=>(p.1,dy l p.2))) (oY bo (zipIdx is us))
 | [],vs,us,es,bo,_,h=>by simpa [vw,zipIdx,DL,oY] using h
 | i::is,[],us,es,bo,hv,h=>by rw [hv.bZ]; simpa [vw,zipIdx,DL,oY] using h
 | i::is,v::vs,us,es,bo,hv,h=>by
  obtain ⟨y,ys,rfl,h1,h2⟩:=hv.cons_inv;simp only [vw,zipIdx,List.map_cons,DL,oY];exact TA h2 (Tz h1.dy i h)
theorem Cy:∀ (es:List KV) (i:Nat) (v:KV),(setAt es i v).length=es.length
 | [],0,_=>rfl
 | [],_+1,_=>rfl
 | _::_,0,_=>rfl
 | e::es,i+1,v=>by simp [setAt,Cy es i v]
theorem Jz:∀ (ps:List (Nat×KV)) (es:List KV),(DL es ps).length=es.length
 | [],_=>rfl
 | p::ps,es=>by simp [DL,Jz ps,Cy]
theorem af6 {n:Nat} : ∀ {is:List Nat} (us:List Value),Bc n is=true->∀ p∈zipIdx is us,p.1 < n/\p.2∈us
 | [],us,_,p,h=>by simp [zipIdx] at h
 | i::is,[],_,p,h=>by simp [zipIdx] at h
 | i::is,u::us,h,p,hp=>by
  simp only [Bc,au,bO] at h;simp only [zipIdx,dv] at hp;rcases hp with rfl | hp
  ·exact ⟨h.1,by simp⟩
  ·obtain ⟨h1,h2⟩:=af6 us h.2 p hp
   exact ⟨h1,by simp [h2]⟩
theorem y9 (z:Value):∀ n,fe z.cells.toList n=bG (List.replicate n z)
 | 0=>rfl
 | n+1=>by simp [fe,List.replicate_succ,bG,y9 z n]
theorem MF {z:KV} {u:Value} (h:VK P E z u):∀ n,ba P E (cY [z] n) (List.replicate n u)
 | 0=>.nil
 | n+1=>by simpa [cY,List.replicate_succ] using ba.cons h (MF h n)
theorem kT {l:Lay} : ∀ {es:List KV} {bo:List Value},dV l es=true->ba P E es bo->∀ u∈bo,u.cells.size=l.ks.length/\∀ c∈u.cells.toList,scalar c=true
 | [],bo,_,h,u,hu=>by rw [h.bZ] at hu; simp at hu
 | e::es,bo,y8,h,u,hu=>by
  obtain ⟨y,ys,rfl,h1,h2⟩:=h.cons_inv;simp only [dV,au] at y8;rcases dv.1 hu with rfl | hu
  ·obtain ⟨k1,k2⟩:=fN y8.1
   have hc:=h1.cells k2;refine ⟨?_,hc.scalar (Fy k1)⟩;have:=hc.length;have:=o6 k1;simp at *;omega
  ·exact kT y8.2 h2 u hu
theorem XQ {l:Lay} : ∀ {vs:List KV} {us:List Value},ba P E vs us->ba P E (vs.map (dy l)) us
 | [],_,h=>h
 | v::vs,us,h=>by
  obtain ⟨y,ys,rfl,h1,h2⟩:=h.cons_inv;exact .cons h1.dy (XQ h2)
theorem ad9 {e:TypeId} {n len:Nat} {z:Value} {is:List Nat} (hn:(aX P e).ks.length=n) (h1n:1<=n) (hz:z.cells.size=n) (hb:Bc len is=true) :
  anR P (O1 (aX P e) e (dy (aX P e) (ff z)) len is) (pf n z len is):=by
 intro E A B vs us v h hv hg;unfold O1 at hg;obtain ⟨hc,hg⟩:=aK.cond hg;simp only [au] at hc;obtain ⟨⟨hk,hvs⟩,y8⟩:=hc;have hg:KV.ts e .exact len _ _=v:=hg;subst hg;have XR:VK P E (dy (aX P e) (ff z)) z:=(VK.ff z).dy;have hrel:=TA (l:=aX P e) (is:=is) hv (MF XR len);have hlen:(DL (cY [dy (aX P e) (ff z)] len) ((vw is vs).map fun p=>(p.1,dy (aX P e) p.2))).length=len:=by
  rw [Jz,wI]; simp
 have af7:∀ p∈zipIdx is us,p.2.cells.size=n/\p.1 < (List.replicate len z).length:=by
  intro p hp;obtain ⟨h5,h6⟩:=af6 us hb p hp;have hm:ba P E (vs.map (dy (aX P e))) us:=XQ hv;exact ⟨by rw [<- hn]; exact (kT hvs hm p.2 h6).1,by simpa using h5⟩
 obtain ⟨h3,h4⟩:=Ty h1n (ps:=zipIdx is us) (es:=List.replicate len z) (fun u hu=>by rw [(List.mem_replicate.1 hu).2]; exact hz) af7;have rE:=kT y8 hrel;have kh:(bG (oY (List.replicate len z) (zipIdx is us))).all scalar=true:=eM.2 (vZ fun u hu=>(rE u hu).2);refine ⟨.row (bG (oY (List.replicate len z) (zipIdx is us))) n true none,fun b=>.slice (some ⟨b,0,none⟩) len len,E.eZ B.next ⟨_,n,true,none⟩,?_,?_,df.ahI h⟩
 ·unfold pf
  rw [y9,h3];simp only [dz];rw [kh,Gx hv hk];rfl
 ·have aj5:=hrel.mono (df.ahI (bV:=bG (oY (List.replicate len z) (zipIdx is us))) (bH:=n) h).le
  have kf:(oY (List.replicate len z) (zipIdx is us)).length=len:=by rw [Jy]; simp
  simp only [VK];refine ⟨⟨hlen.symm,fun i _=>rfl,y8⟩,_,aj5,some ⟨B.next,0,none⟩,len,rfl,aH _,.inr ⟨B.next,0,⟨bG (oY (List.replicate len z) (zipIdx is us)),n,true,none⟩,rfl,by simp [Env.eZ],hn.symm,?_⟩,rfl,fun b off hb=>?_⟩
  ·have:=kq h4
   unfold bf;rw [hn];exact this
  ·simp at hb
   obtain ⟨rfl,rfl⟩:=hb;refine ⟨⟨bG (oY (List.replicate len z) (zipIdx is us)),n,true,none⟩,by simp [Env.eZ],rfl,rfl,?_⟩;simp only [bf,hn];rw [gz h4,kf];omega
theorem af8 {n len:Nat} {z:Value} {is:List Nat} (ho:fY (ff z).cells=true):ab4 P (Tj n (ff z).cells len is) (pf n z len is):=by
 intro E A A' B vs us v h hv hg;unfold Tj at hg;split at hg
 ·rename_i cs hf
  obtain ⟨hk,hg⟩:=aK.cond hg;simp only [au] at hk;have hg:(KV.sl A.next 0 len len,A.new (.row cs n))=(v,A'):=hg;simp only [dJ] at hg;obtain ⟨rfl,rfl⟩:=hg;obtain ⟨h2,h3⟩:=abV is hv;obtain ⟨r',e,hr⟩:=abU h2 h3 (fun p hp=>by have:=abW is vs p hp; exact eM.1 hk.1 _ this) (Pg (Bg (P:=P) (E:=E) ho) len) hf;refine ⟨.row r' n true none,fun b=>.slice (some ⟨b,0,none⟩) len len,E.ko A.next B.next,?_,.alE (by simp [Env.ko]),df.newRow h hr⟩;unfold pf;rw [e];simp only [dz];rw [Gx hv hk.1,eM.2 (hr.scalar hk.2)];rfl
 ·exact hg.elim
theorem KN {m cap:Nat} {lo hi:Bool} {r:List KV} {r' : List Value} {x y:Int} (h:Vf m lo hi r=some (x,y)) (hr:ba P E r r') (h0:0<=x) (h1:x<=y) (h2:y<=(m:Int)) (hc:m<=cap) :
  rl m cap lo hi false r' = some (x.toNat,y.toNat,cap):=by
 obtain ⟨x',rfl⟩:=Int.eq_ofNat_of_zero_le h0;obtain ⟨y',rfl⟩:=Int.eq_ofNat_of_zero_le (Int.le_trans h0 h1);have hb:∀ (k:IntKind) (i n:Nat),i<=n->bnd n (.int k (i:Int))=some i:=by
  intro k i n h;show jL (.ofNat i) (Nat.succ n)=some i;exact nR (by omega)
 match r,h with
 | [],h=>
  rw [hr.bZ];cases lo <;> cases hi <;> simp [Vf] at h;obtain ⟨h3,h4⟩:=h;simp [rl];omega
 | [.int k a],h=>
  obtain ⟨u,rfl,h3⟩:=hr.dH;have:=h3.cD; subst this;cases lo <;> cases hi <;> simp [Vf] at h
  ·obtain ⟨h4,rfl⟩:=h
   simp only [rl];rw [hb k y' cap (by omega)];simp;omega
  ·obtain ⟨rfl,h4⟩:=h
   simp only [rl];rw [hb k x' m (by omega)];simp;omega
 | [.int k a,.int k' c],h=>
  obtain ⟨u,v,rfl,h3,h4⟩:=hr.ju;have:=h3.cD; subst this;have:=h4.cD; subst this;cases lo <;> cases hi <;> simp [Vf] at h;obtain ⟨rfl,rfl⟩:=h;simp only [rl];rw [hb k' y' cap (by omega)];simp only [dz];rw [hb k x' y' (by omega)];simp
theorem Sb {l:Lay} : ∀ {es:List KV} (n:Nat),dV l es=true->dV l (es.drop n)=true
 | es,0,h=>by simpa using h
 | [],n+1,_=>rfl
 | e::es,n+1,h=>by
  simp only [dV,au] at h;simpa using Sb n h.2
theorem Sc {l:Lay} : ∀ {es:List KV} (n:Nat),dV l es=true->dV l (es.take n)=true
 | es,0,h=>rfl
 | [],n+1,_=>rfl
 | e::es,n+1,h=>by
  simp only [dV,au] at h;simp [dV,h.1,Sc n h.2]
theorem NH {l:Lay} : ∀ {es fs:List KV},dV l es=true->dV l fs=true->dV l (es++fs)=true
 | [],fs,_,h=>h
 | e::es,fs,h,k=>by
  simp only [dV,au] at h;simp [dV,h.1,NH h.2 k]
theorem nG.part {sz off x k:Nat} {cs es:List Value} (h:nG sz off cs es):nG sz (off+x * sz) cs ((es.drop x).take k):=by
 intro i v hv;rw [mz] at hv;split at hv
 ·rw [mX] at hv
  obtain ⟨h1,h2⟩:=h (x+i) v hv;refine ⟨h1,fun j y hj=>?_⟩;rw [<- h2 j y hj];congr 1;rw [Nat.add_mul];omega
 ·simp at hv
theorem XS {es:List KV} {i:Nat} (h:i < es.length):es[i]? = some (es.getD i .bA):=by simp [List.getD,h]
theorem ahM {n:Nat} {lo hi:Bool} (_:1<=n):ahH P (XF P n lo hi) (x9 n lo hi false):=by
 intro E A B vs us v h hv hg;unfold XF at hg;split at hg
 ·rename_i T mk m es acc r
  split at hg
  ·rename_i x y hb
   obtain ⟨dK,hg⟩:=hg.cond;have dK:=aW dK;obtain ⟨hc,rfl⟩:=aK.jt hg;simp only [au,lR] at hc;obtain ⟨⟨h0,h1⟩,h2⟩:=hc;obtain ⟨u,r',rfl,h3,h4⟩:=hv.cons_inv;obtain ⟨ht,bo,h5,a,cap,rfl,h6,h7,_⟩:=h3.jY;have U8:=KN hb h4 h0 h1 h2 h6;have hlen:=ht.len;have hle:((es.drop x.toNat).take (y.toNat - x.toNat)).length=y.toNat - x.toNat:=by simp; omega
   have hT:gL P T (y.toNat - x.toNat) ((es.drop x.toNat).take (y.toNat - x.toNat)) (fun i=>acc (x.toNat+i)):=by
    refine ⟨hle.symm,fun i hi=>?_,Sc _ (Sb _ ht.typed)⟩;rw [ht.acc _ (by omega)];simp only [List.getD];rw [mz,aI hi,mX]
   rcases h7 with ⟨rfl,hm⟩ | ⟨b,off,rr,rfl,h8,h9,rK⟩
   ·refine ⟨.slice none (y.toNat - x.toNat) (cap - x.toNat),by simp [x9,U8],?_⟩
    simp only [VK];exact ⟨hT,_,(h5.drop _).take _,none,_,rfl,by omega,.inl ⟨rfl,by omega⟩,trivial⟩
   ·have eS:=h.z b rr h8
    have U5:rr.bH=n:=by rw [h9]; exact dK
    refine ⟨.slice (some ⟨b,off+x.toNat * n,none⟩) (y.toNat - x.toNat) (cap - x.toNat),?_,?_⟩
    ·simp [x9,U8,cO,Cr,eS,U5]
    ·simp only [VK]
     refine ⟨hT,_,(h5.drop _).take _,_,_,rfl,by omega,.inr ⟨b,off+x.toNat * n,rr,rfl,h8,h9,?_⟩,trivial⟩;have:bf P T=n:=dK;rw [this] at rK ⊢;exact rK.part
  ·exact hg.elim
 ·rename_i b o len cap r
  split at hg
  ·rename_i cs bH eS
   split at hg
   ·rename_i x y hb
    obtain ⟨dK,hg⟩:=hg.cond;have dK:=aW dK;obtain ⟨hc,rfl⟩:=aK.jt hg;simp only [au,lR] at hc;obtain ⟨⟨⟨h0,h1⟩,h2⟩,h6⟩:=hc;obtain ⟨u,r',rfl,h3,h4⟩:=hv.cons_inv;obtain ⟨z,hz,rfl⟩:=h3.Rd;have U8:=KN hb h4 h0 h1 h2 h6;obtain ⟨z',bV,e1,e2,_⟩:=h.row b cs bH eS;rw [hz] at e1;simp at e1;subst e1;refine ⟨.slice (some ⟨z,o+x.toNat * n,none⟩) (y.toNat - x.toNat) (cap - x.toNat),?_,.alE hz⟩;simp [x9,U8,cO,Cr,e2,dK]
   ·exact hg.elim
  ·exact hg.elim
 ·rename_i T b o m r
  split at hg
  ·rename_i T' mk N es acc hA
   split at hg
   ·rename_i x y hb
    obtain ⟨dK,hg⟩:=hg.cond;obtain ⟨hc,rfl⟩:=aK.jt hg;simp only [au] at dK;have hT:=aW dK.2;have apU:bf P T=n:=aW dK.1;subst hT;simp only [au,lR] at hc;obtain ⟨⟨h0,h1⟩,h2⟩:=hc;obtain ⟨u,r',rfl,h3,h4⟩:=hv.cons_inv;rcases h3.uO with ⟨rfl,rfl,rfl⟩ | ⟨z,L,N',c,e1,rfl,e2,e3,e4⟩
    ·have U8:=KN hb h4 h0 h1 h2 (aH _)
     have hx0:x.toNat=0:=by omega
     have hy0:y.toNat=0:=by omega
     refine ⟨.slice none (y.toNat - x.toNat) (0 - x.toNat),by simp [x9,U8],.R9 (.inl ⟨by omega,by omega,by rw [hx0,hy0]⟩)⟩
    ·have U8:=KN hb h4 h0 h1 h2 e2
     obtain ⟨T2,N2,mV,iC,Gn,_,_,cs,e,own,bQ,bo,_,h5,_,_,_,h7⟩:=h.Ju hA e1;simp only [KV.ts.injEq] at Gn;obtain ⟨rfl,_⟩:=Gn;refine ⟨.slice (some ⟨z,o * bf P T+x.toNat * n,none⟩) (y.toNat - x.toNat) (c - x.toNat),?_,.R9 (.inr ⟨z,L,N',c - x.toNat,e1,?_,by omega,by omega,?_⟩)⟩
     ·simp [x9,U8,cO,Cr,h5,h7,apU]
     ·simp only [Value.slice.injEq,cJ,Addr.mk.injEq,and_true,true_and]
      rw [apU,Nat.add_mul]
     ·rw [<- e4]
      congr 1;omega
   ·exact hg.elim
  ·exact hg.elim
 ·exact hg.elim
theorem af9 {len n:Nat} {lo hi:Bool} : ahH P (Tn len n lo hi) (Md len n lo hi false):=by
 intro E A B vs us v h hv hg;unfold Tn at hg;split at hg
 ·rename_i b o r
  split at hg
  ·rename_i cs bH eS
   split at hg
   ·rename_i x y hb
    obtain ⟨dK,hg⟩:=hg.cond;simp only [au] at dK;have tj:=aW dK.1;have hsz2:=dI dK.2;obtain ⟨hc,rfl⟩:=aK.jt hg;simp only [au,lR] at hc;obtain ⟨⟨h0,h1⟩,h2⟩:=hc;obtain ⟨u,r',rfl,h3,h4⟩:=hv.cons_inv;obtain ⟨z,hz,rfl⟩:=h3.gG;have U8:=KN hb h4 h0 h1 h2 (aH _);obtain ⟨z',bV,e1,e2,e3⟩:=h.row b cs bH eS;rw [hz] at e1;simp at e1;subst e1;have hlen:=e3.length;refine ⟨.slice (some ⟨z,o+x.toNat * n,none⟩) (y.toNat - x.toNat) (len - x.toNat),?_,.alE hz⟩;have sS:Nat.ble (o+len * n) bV.length=true:=Nat.ble_eq_true_of_le (by omega);simp [Md,U8,cO,Cr,UU,e2,tj,sS]
    try omega
   ·exact hg.elim
  ·exact hg.elim
 ·exact hg.elim
theorem aga {lo hi:Bool} : tW P (Tp lo hi) (Gj lo hi):=by
 intro E vs us v hv hg;unfold Tp at hg;split at hg
 ·rename_i s r
  split at hg
  ·rename_i x y hb
   obtain ⟨hc,rfl⟩:=aK.jt hg;simp only [au,lR] at hc;obtain ⟨⟨h0,h1⟩,h2⟩:=hc;obtain ⟨u,r',rfl,h3,h4⟩:=hv.cons_inv;have:=h3.qA; subst this;have U8:=KN hb h4 h0 h1 h2 (aH _);exact ⟨_,by simp [Gj,U8],.mkStr⟩
  ·exact hg.elim
 ·exact hg.elim
theorem agb:ahH P (fun _=>Mt) Gl:=by
 intro E A B vs us v h hv hg;have hg:aK (Mt vs) v:=hg;unfold Mt at hg;split at hg
 ·obtain ⟨u,rfl,h1⟩:=hv.dH
  have:=h1.nt; subst this;have hg:KV.str ⟨⟨[]⟩⟩=v:=hg;subst hg;exact ⟨_,rfl,.mkStr⟩
 ·rename_i T mk m es acc _
  obtain ⟨u,rfl,h1⟩:=hv.dH;obtain ⟨hc,rfl⟩:=aK.jt hg;obtain ⟨ht,bo,h5,a,cap,rfl,h6,h7,_⟩:=h1.jY;have hlen:=ht.len;rcases h7 with ⟨rfl,hm⟩ | ⟨b,off,rr,rfl,h8,h9,rK⟩
  ·have:es = []:=mW.1 (by omega)
   subst this;exact ⟨_,rfl,.mkStr⟩
  ·have eS:=h.z b rr h8
   have v7:∀ (i:Nat) (w:Value),bo[i]? = some w->∃ e,es[i]? = some e/\w = .int .u8 (byteOf e).toNat/\w.cells.size=1:=by
    intro i w hw;have hi:i < es.length:=by rw [<- h5.length]; exact (cP.1 hw).1
    obtain ⟨w',e1,e2⟩:=h5.get (XS hi);rw [hw] at e1;simp at e1;subst e1;have lZ:=eM.1 hc _ (fR (XS hi));refine ⟨_,XS hi,?_⟩
    revert e2 lZ
    generalize es.getD i .bA=e;intro e2 lZ;cases e <;> simp [alx] at lZ;rename_i k q;cases k <;> simp at lZ;have:=e2.cD; subst this;refine ⟨?_,rfl⟩;simp only [byteOf,Value.int.injEq,true_and];obtain ⟨p,rfl⟩:=Int.eq_ofNat_of_zero_le lZ.1;have hp:p < 256:=by omega
    simp [UInt8.toNat_ofNat',Nat.mod_eq_of_lt hp]
   have arj:bo=es.map fun e=>.int .u8 (byteOf e).toNat:=by
    apply List.ext_getElem?;intro i;cases hw:bo[i]? with
    | none=>
     have:es.length<=i:=by rw [<- h5.length]; exact aaN.1 hw
     simp [this]
    | some w=>
     obtain ⟨e,e1,e2,_⟩:=v7 i w hw;simp [e1,e2]
   have tj:∀ i w,bo[i]? = some w->bf P T=1:=fun i w hw=>by
    obtain ⟨_,_,_,HU⟩:=v7 i w hw;rw [<- (rK i w hw).1]; exact HU
   have DJ:B.vz ⟨b,off,none⟩ m=some bo:=by
    simp only [St.vz,cO,Option.isNone_none,aj,x7,eS,dz];have qb:bo.length=m:=by rw [h5.length]; exact hlen.symm
    have nL:∀ i,i < m->rr.cs[off+i]? = bo[i]?:=by
     intro i hi;have hi' : i < bo.length:=by omega
     have hw:bo[i]? = some bo[i]:=cM hi';have h1':=tj i _ hw;obtain ⟨h12,h13⟩:=rK i _ hw;obtain ⟨e,e1,e2,_⟩:=v7 i _ hw;have:=h13 0 bo[i] (by rw [e2]; rfl);rw [h1'] at this;rw [hw,<- this];congr 1;omega
    have hle:m<=(rr.cs.drop off).length:=by
     cases hm0:m with
     | zero=>omega
     | succ q=>
      have:=nL q (by omega);have hq:q < bo.length:=by omega
      rw [cM hq] at this;have:=(cP.1 this).1;simp;omega
    rw [qu,KL hle];congr 1;apply List.ext_getElem?;intro i;rw [mz];split
    ·rename_i hi
     rw [mX];exact nL i hi
    ·rename_i hi
     exact (aaN.2 (by omega)).symm
   have afS:∀ (l:List KV),H0 (l.map fun e=>.int .u8 (byteOf e).toNat)=some (l.map byteOf):=by
    intro l
    induction l with
    | nil=>rfl
    | cons e l ih=>
     have hb:=(byteOf e).toNat_lt;show cond (Nat.blt (byteOf e).toNat 256) ((H0 (l.map fun e=>.int .u8 (byteOf e).toNat)).map (UInt8.ofNat (byteOf e).toNat::·)) none=_;have:Nat.blt (byteOf e).toNat 256=true:=by rw [bO]; omega
     rw [this,aj,ih];simp
   refine ⟨.string ⟨⟨es.map byteOf⟩⟩,?_,.mkStr⟩;simp only [Gl,DJ,dz];rw [arj,afS];rfl
 ·exact hg.elim
theorem ab7 {b lo hi:Nat} : ∀ {L:List Nat} {B:St},(∀ x∈L,ov (B.get x) lo hi=false)->B.kill b lo hi L=B
 | [],B,_=>rfl
 | x::L,B,h=>by
  simp only [St.kill];rw [h x (by simp),Bool.and_false,aF];exact ab7 fun y hy=>h y (by simp [hy])
theorem df.alH {A:ao} {B:St} (sz:Nat) (h:dU P E A B):df P E A B E (A.new (.aQ 0 sz)) B:=by
 have hn:E.φ A.next=none:=by
  cases HT:E.φ A.next with
  | none=>rfl
  | some g=>have:=h.kQ _ g HT; omega
 have hA:∀ (b:Nat) (v:KV),(A.new (.aQ 0 sz)).get b=some (.arr v)->A.get b=some (.arr v):=fun b v hb=>by
  rw [ao.cS] at hb;split at hb
  ·simp at hb
  ·exact hb
 have XP:∀ (b:Nat) (v:KV),(A.new (.aQ 0 sz)).get b=some (.il v)->A.get b=some (.il v):=fun b v hb=>by
  rw [ao.cS] at hb;split at hb
  ·simp at hb
  ·exact hb
 refine ⟨⟨?_,?_,h.z,h.apart,h.inj,h.ib.new (.inr hn),fun b x e=>?_,fun b g e=>?_,?_,h.fk,h.kR,h.iR,h.fresh,h.mem,h.ar.eY (Env.le_refl _) (fun _=>rfl) hA XP (by simp) (aH _) (fun _ _=>rfl) (fun _ _ e=>.inl e) (fun _ _ e=>.inl e) (fun b g e=>.inl ⟨b,e⟩) (fun _ _=>rfl) h.mem⟩,Env.le_refl _,by simp,fun _ _ _ _=>rfl,fun _ _ e=>.inl e,fun _ _ e=>.inl e,fun _ _ e=>.inl e,fun _ _ _ _=>rfl,fun _ q=>.inl (q.of (fun _=>rfl) hA),fun _ q=>.inl (q.of (fun _=>rfl) hA fun _ _=>rfl),fun _ _ q=>.inl q,fun _ q=>.inl (q.of (fun _=>rfl) hA (fun _ _=>rfl) fun _ _=>rfl),kS fun _ _=>rfl⟩
 ·intro b cs bH hb
  rw [ao.cS] at hb;split at hb
  ·simp at hb
  ·exact h.row b cs bH hb
 ·intro b top DM hb
  rw [ao.cS] at hb;split at hb
  ·rename_i e
   simp at hb;refine .inl ⟨hb.1.symm,?_⟩;cases HT:E.φ b with
   | none=>rfl
   | some g=>have:=h.kQ b g HT; omega
  ·exact h.aQ b top DM hb
 ·have:=h.jx b x e; rw [ao.b7]; omega
 ·have:=h.kQ b g e; rw [ao.b7]; omega
 ·intro b o hb
  rw [ao.cS] at hb;rw [ao.b7];split at hb
  ·omega
  ·have:=h.live b o hb; omega
theorem df.grow {A:ao} {B:St} {f g top Sd sz:Nat} {c:List Value} (h:dU P E A B) (hA:A.get f=some (.aQ top sz)) (hf:(E.φ f=none/\g=B.next)\/E.φ f=some g) (hc:c.length=Sd * sz) (ht:top<=Sd) (AL:0 < Sd) :
  df P E A B ((E.eZ B.next ⟨c,sz,true,some (g,0)⟩).qC f g) (A.put f (.aQ Sd sz)) (B.grow g 0 c sz):=by
 have lY:∀ x,(B.grow g 0 c sz).get x=if x=B.next then some (.row c sz true (some (g,0))) else B.get x:=fun x=>by simp [St.grow]
 have lx:∀ q,(B.grow g 0 c sz).members q=if q=g then B.next::B.members g else B.members q:=fun q=>by simp [St.grow,St.Cu]
 have gE:(B.grow g 0 c sz).next=B.next+1:=rfl;have hlef:=h.live f _ hA;have hle:E.le ((E.eZ B.next ⟨c,sz,true,some (g,0)⟩).qC f g):=by
  refine ⟨fun _ _ e=>e,fun _ _ e=>e,fun b r e=>?_,fun b q e=>?_⟩
  ·have:=h.kR b r e
   simp only [Env.qC,Env.eZ]; rw [ak (by omega)]; exact e
  ·simp only [Env.qC,Env.eZ]
   split
   ·rename_i e2
    subst e2;rcases hf with ⟨h1,_⟩ | h1
    ·rw [h1] at e; simp at e
    ·rw [h1] at e; exact e
   ·exact e
 have hg:g<=B.next:=by
  rcases hf with ⟨_,h1⟩ | h1
  ·omega
  ·have:=h.iR f g h1; omega
 generalize hB' : B.grow g 0 c sz=B' at lY lx gE;have Vq:∀ (b:Nat) (v:KV),(A.put f (.aQ Sd sz)).get b=some (.arr v)->A.get b=some (.arr v):=fun b v hb=>by
  rw [ao.b5] at hb;split at hb
  ·simp at hb
  ·exact hb
 have XP:∀ (b:Nat) (v:KV),(A.put f (.aQ Sd sz)).get b=some (.il v)->A.get b=some (.il v):=fun b v hb=>by
  rw [ao.b5] at hb;split at hb
  ·simp at hb
  ·exact hb
 have xi:∀ x,x < B.next->B'.get x=B.get x:=fun x hx=>by rw [lY,ak (by omega)]
 have Pf:∀ b r,((E.eZ B.next ⟨c,sz,true,some (g,0)⟩).qC f g).z b=some r->E.z b=some r\/B.next<=b:=fun b r e=>by
  simp only [Env.qC,Env.eZ] at e;split at e
  ·exact .inr (by omega)
  ·exact .inl e
 have apV:∀ b q,((E.eZ B.next ⟨c,sz,true,some (g,0)⟩).qC f g).φ b=some q->E.φ b=some q\/B.next<=q:=fun b q e=>by
  simp only [Env.qC,Env.eZ] at e;split at e
  ·rename_i e2
   simp at e;subst e e2;rcases hf with ⟨_,h1⟩ | h1
   ·exact .inr (by omega)
   ·exact .inl h1
  ·exact .inl e
 have Vr:∀ q,AF A E B q->B'.members q=B.members q:=fun q hq=>by
  rw [lx,ak];intro e2;subst e2;obtain ⟨b,v,x,L,N,cs,e,own,k,h1,h2,h3⟩:=hq;obtain ⟨h4,h5,_⟩:=h.ar.rq b v x L N cs e own q k h1 h2 h3;rcases hf with ⟨_,h1⟩ | h1
  ·omega
  ·exact h5 f h1
 have aj6:∀ q y,y∈B'.members q->y∈B.members q\/B.next<=y:=fun q y hy=>by
  rw [lx] at hy;split at hy
  ·rename_i e2
   subst e2;rcases dv.1 hy with hy | hy
   ·exact .inr (by omega)
   ·exact .inl hy
  ·exact .inl hy
 refine ⟨⟨?_,?_,?_,?_,?_,?_,?_,?_,?_,?_,?_,?_,?_,?_,h.ar.eY hle (fun _=>rfl) Vq XP (aH _) (by omega) (fun x q=>xi x (h.Ih q)) Pf (fun _ _ e=>.inl e) (fun b q e=>(apV b q e).imp (fun e=>⟨b,e⟩) id) Vr h.mem⟩,hle,aH _,?_,fun b x e=>.inl e,fun b r e=>(Pf b r e).imp id .inr,apV,fun q hq hn _=>by
  rw [lx,ak];intro e2;subst e2;rcases hf with ⟨_,h1⟩ | h1
  ·omega
  ·exact hn f h1,fun _ q=>.inl (q.of (fun _=>rfl) Vq),fun _ q=>.inl (q.of (fun _=>rfl) Vq fun x q=>xi x (h.Ih q)),aj6,fun _ q=>.inl (q.of (fun _=>rfl) Vq (fun x q=>xi x (h.Ih q)) Vr),kS xi⟩
 ·intro b cs bH hb
  rw [ao.b5] at hb;split at hb
  ·simp at hb
  ·obtain ⟨x,c2,h1,h2,h3⟩:=h.row b cs bH hb
   have:=h.fk b x h1;exact ⟨x,c2,h1,by rw [lY,ak (by omega)]; exact h2,h3.mono hle⟩
 ·intro b t DM hb
  rw [ao.b5] at hb;split at hb
  ·rename_i e
   simp at hb;obtain ⟨rfl,rfl⟩:=hb;subst e;refine .inr ⟨g,by simp [Env.qC],AL,fun x hx cs e own q k hr=>?_⟩;rw [lY] at hr;rw [lx,aI rfl] at hx;split at hr
   ·simp at hr
    obtain ⟨rfl,rfl,_,_,rfl⟩:=hr;exact ⟨rfl,Nat.le_of_eq hc⟩
   ·rename_i cH
    rcases dv.1 hx with hx | hx
    ·exact absurd hx cH
    ·rcases hf with ⟨_,h1⟩ | h1
     ·rw [h1,h.fresh _ (aH _)] at hx; simp at hx
     ·rcases h.aQ b top sz hA with ⟨_,h2⟩ | ⟨g2,h2,_,h3⟩
      ·rw [h1] at h2; simp at h2
      ·rw [h1] at h2
       simp at h2;subst h2;obtain ⟨h4,h5⟩:=h3 x hx cs e own q k hr;exact ⟨h4,kH h5 (Nat.mul_le_mul_right _ ht)⟩
  ·rename_i OB
   rcases h.aQ b t DM hb with ⟨h1,h2⟩ | ⟨g2,h2,hp2,h3⟩
   ·exact .inl ⟨h1,by simp only [Env.qC,Env.eZ]; rw [ak OB]; exact h2⟩
   ·have cH:g2≠g:=by
     intro e;subst e;rcases hf with ⟨_,h1⟩ | h1
     ·have:=h.iR b g2 h2; omega
     ·exact OB (h.ib b f g2 _ _ _ _ hb hA h2 h1)
    refine .inr ⟨g2,by simp only [Env.qC,Env.eZ]; rw [ak OB]; exact h2,hp2,fun x hx cs e own q k hr=>?_⟩;rw [lx,ak cH] at hx;have:=h.mem g2 x hx;rw [lY,ak (by omega)] at hr;exact h3 x hx cs e own q k hr
 ·intro b r hb
  simp only [Env.qC,Env.eZ] at hb;rw [lY];split at hb
  ·rename_i e; simp at hb; subst hb; rw [aI e]
  ·rename_i e; rw [ak e]; exact h.z b r hb
 ·intro b x hb
  have hb:E.κ b=some x:=hb;have:=h.fk b x hb;simp only [Env.qC,Env.eZ];rw [ak (by omega)];exact h.apart b x hb
 ·exact h.inj
 ·intro b d q tb sb td sd lb ld hb hd
  simp only [Env.qC,Env.eZ] at hb hd;rw [ao.b5] at lb ld;have key:∀ d t s,d≠f->A.get d=some (.aQ t s)->E.φ d≠some g:=by
   intro d t s hd hl e;rcases hf with ⟨_,h1⟩ | h1
   ·have:=h.iR d g e; omega
   ·exact hd (h.ib d f g _ _ _ _ hl hA e h1)
  by_cases e1:b=f <;> by_cases e2:d=f
  ·omega
  ·rw [aI e1] at hb; rw [ak e2] at hd ld; simp at hb; subst hb; exact absurd hd (key d _ _ e2 ld)
  ·rw [aI e2] at hd; rw [ak e1] at hb lb; simp at hd; subst hd; exact absurd hb (key b _ _ e1 lb)
  ·rw [ak e1] at hb lb; rw [ak e2] at hd ld; exact h.ib b d q _ _ _ _ lb ld hb hd
 ·exact h.jx
 ·intro b q hb
  simp only [Env.qC,Env.eZ] at hb;rw [ao.qv];split at hb
  ·omega
  ·exact h.kQ b q hb
 ·intro b o hb
  rw [ao.b5] at hb;rw [ao.qv];split at hb
  ·omega
  ·exact h.live b o hb
 ·intro b x hb; have:=h.fk b x hb; omega
 ·intro b r hb
  simp only [Env.qC,Env.eZ] at hb;rw [gE];split at hb
  ·omega
  ·have:=h.kR b r hb; omega
 ·intro b q hb
  simp only [Env.qC,Env.eZ] at hb;rw [gE];split at hb
  ·simp at hb; omega
  ·have:=h.iR b q hb; omega
 ·intro q hq
  rw [gE] at hq;rw [lx,ak (by omega)];exact h.fresh q (by omega)
 ·intro q x hx
  rw [gE];rw [lx] at hx;split at hx
  ·rcases dv.1 hx with hx | hx
   ·omega
   ·have:=h.mem g x hx; omega
  ·have:=h.mem q x hx; omega
 ·intro x hx _ _; rw [lY,ak (by omega)]
end Go.K
end
