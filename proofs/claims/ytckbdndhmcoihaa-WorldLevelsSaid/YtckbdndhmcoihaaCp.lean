/- Part of the proof of WorldLevels: the machine, shown to be the model's, and plain models. No conditions. -/
import Derived.Test.YtckbdndhmcoihaaBp
set_option linter.unusedSimpArgs false
set_option linter.unusedVariables false
section
namespace Go.K
open Go Go.aG
structure afn where
 cs:List Value
 bp:Nat
 own:Bool
 bK:Option (Nat×Nat)
structure Env where
 κ:Nat->Option Nat
 z:Nat->Option afn
 φ:Nat->Option Nat
 α:Nat->Option (Nat×Nat×Nat)
structure Env.le (E E' : Env):Prop where
 α:∀ b p,E.α b=some p->E'.α b=some p
 κ:∀ b x,E.κ b=some x->E'.κ b=some x
 z:∀ b r,E.z b=some r->E'.z b=some r
 φ:∀ b g,E.φ b=some g->E'.φ b=some g
theorem Env.le_refl (E:Env):E.le E:=⟨fun _ _ h=>h,fun _ _ h=>h,fun _ _ h=>h,fun _ _ h=>h⟩
theorem Env.le_trans {E F G:Env} (h:E.le F) (k:F.le G):E.le G:=⟨fun b p e=>k.α b p (h.α b p e),fun b x e=>k.κ b x (h.κ b x e),fun b x e=>k.z b x (h.z b x e),fun b x e=>k.φ b x (h.φ b x e)⟩
def qI (sz off:Nat) (cs es:List Value):Prop:=∀ (i:Nat) (x:Value),es[i]? = some x->x.cells.size=sz/\∀ (k:Nat) (y:Value),x.cells[k]? = some y->cs[off+i * sz+k]? = some y
def TY (E:Env) (sz:Nat) (a:Option Addr) (n:Nat) (es:List Value):Prop:=
 (a=none/\n=0)\/∃ b off r,a=some ⟨b,off,none⟩/\E.z b=some r/\r.bp=sz/\qI sz off r.cs es
def Qv (E:Env) (sz:Nat) (a:Option Addr) (n cap:Nat):Mk->Prop
 | .any=>True
 | .exact=>cap=n/\∀ b off,a=some ⟨b,off,none⟩->∃ r,E.z b=some r/\r.own=true/\r.bK=none/\off+cap * sz=r.cs.length
 | .aP f=>cap=n/\((n=0/\a=none)\/∃ b r g,a=some ⟨b,0,none⟩/\E.z b=some r/\r.own=true/\E.φ f=some g/\r.bK=some (g,0)/\r.cs.length=n * sz)
structure gU (P:Program) (T:TypeId) (n:Nat) (es:List KV) (acc:Nat->KV):Prop where
 len:n=es.length
 acc:∀ i,i < n->acc i=es.getD i .bf
 typed:dH (aQ P T) es=true
def aU (P:Program) (T:TypeId):Nat:=(aQ P T).ks.length
def afo (P:Program) (E:Env) (T:TypeId) (m:Mk) (n:Nat) (bh:List Value) (v:Value):Prop:=
 ∃ a cap,v = .slice a n cap/\n<=cap/\TY E (aU P T) a n bh/\Qv E (aU P T) a n cap m
structure Y6 (P:Program) (T Tc:TypeId) (k:Nat):Prop where
 is:∀ m c,(aQ P Tc).ks[m]? = some c->(aQ P T).ks[k+m]? = some c
def afp (P:Program) (E:Env) (T Tc:TypeId) (i k:Nat) (es:List KV) (bh:List Value) (v:Value):Prop:=
 i < es.length/\Y6 P T Tc k/\∃ b off r,v = .pointer (some ⟨b,off+i * aU P T+k,none⟩)/\E.z b=some r/\qI (aU P T) off r.cs bh
def XD (P:Program) (E:Env) (T:TypeId) (b o n:Nat) (v:Value):Prop:=
 (n=0/\o=0/\v = .slice none 0 0)\/∃ x L N c,E.α b=some (x,L,N)/\v = .slice (some ⟨x,o * aU P T,none⟩) n c/\n<=c/\o+n<=N/\(o+c) * aU P T=L
def acQ (P:Program) (E:Env) (T Tc:TypeId) (b i k:Nat) (v:Value):Prop:=
 ∃ x L N,E.α b=some (x,L,N)/\Y6 P T Tc k/\i < N/\v = .pointer (some ⟨x,i * aU P T+k,none⟩)
mutual
def VK (P:Program) (E:Env):KV->Value->Prop
 | .int k n,v=>v = .int k n
 | .bool b,v=>v = .bool b
 | .str s,v=>v = .string s
 | .agg cs,v=>∃ l,v = .agg ⟨l⟩/\aV P E cs l
 | .ma cs,v=>∃ l,v = .tuple ⟨l⟩/\aV P E cs l
 | .ts T m n es acc,v=>gU P T n es acc/\∃ bh,aV P E es bh/\afo P E T m n bh v
 | .tp T Tc i k es acc,v=>gU P T es.length es acc/\∃ bh,aV P E es bh/\afp P E T Tc i k es bh v
 | .al T b o n,v=>XD P E T b o n v
 | .ap T Tc b i k,v=>acQ P E T Tc b i k v
 | .ptr b off,v=>∃ x,E.κ b=some x/\v = .pointer (some ⟨x,off,none⟩)
 | .sl b off n c,v=>∃ x,E.κ b=some x/\v = .slice (some ⟨x,off,none⟩) n c
 | .GF,v=>v = .pointer none
 | .kl,v=>v = .slice none 0 0
 | .CR,v=>v = .map none
 | .map b,v=>∃ x,E.κ b=some x/\v = .map (some x)
 | .fn f first cap,v=>∃ l m,v = .func f ⟨l⟩ ⟨m⟩/\aV P E first l/\aV P E cap m
 | .H5,v=>v = .nilFunc
 | .iface t x,v=>∃ y,v = .iface t y/\VK P E x y
 | .H6,v=>v = .nilIface
 | .bf,_=>True
def aV (P:Program) (E:Env):List KV->List Value->Prop
 | [],l=>l = []
 | x::xs,l=>∃ y ys,l=y::ys/\VK P E x y/\aV P E xs ys
end
variable {P:Program} {E E' : Env}
theorem Qv.mono (h:E.le E') {sz:Nat} {a:Option Addr} {n cap:Nat} {m:Mk} (k:Qv E sz a n cap m):Qv E' sz a n cap m:=by
 cases m with
 | any=>trivial
 | exact=>exact ⟨k.1,fun b off e=>by obtain ⟨r,h1,h2⟩:=k.2 b off e; exact ⟨r,h.z _ _ h1,h2⟩⟩
 | aP f=>
  refine ⟨k.1,k.2.imp id ?_⟩;rintro ⟨b,r,g,h1,h2,h3,h4,h5⟩;exact ⟨b,r,g,h1,h.z _ _ h2,h3,h.φ _ _ h4,h5⟩
theorem TY.mono (h:E.le E') {sz:Nat} {a:Option Addr} {n:Nat} {es:List Value} (k:TY E sz a n es):TY E' sz a n es:=by
 refine k.imp id ?_;rintro ⟨b,off,r,h1,h2,h3⟩;exact ⟨b,off,r,h1,h.z _ _ h2,h3⟩
theorem afo.mono (h:E.le E') {T:TypeId} {m:Mk} {n:Nat} {es:List Value} {v:Value} (k:afo P E T m n es v):afo P E' T m n es v:=by
 obtain ⟨a,cap,h1,h2,h3,h4⟩:=k;exact ⟨a,cap,h1,h2,h3.mono h,h4.mono h⟩
theorem afp.mono (h:E.le E') {T Tc:TypeId} {i k:Nat} {es:List KV} {bh:List Value} {v:Value} (q:afp P E T Tc i k es bh v):afp P E' T Tc i k es bh v:=by
 obtain ⟨h1,h2,b,off,r,h3,h4,h5⟩:=q;exact ⟨h1,h2,b,off,r,h3,h.z _ _ h4,h5⟩
theorem XD.mono (h:E.le E') {T:TypeId} {b o n:Nat} {v:Value} (q:XD P E T b o n v):XD P E' T b o n v:=by
 refine q.imp id ?_;rintro ⟨x,L,N,c,h1,h2⟩;exact ⟨x,L,N,c,h.α _ _ h1,h2⟩
theorem acQ.mono (h:E.le E') {T Tc:TypeId} {b i k:Nat} {v:Value} (q:acQ P E T Tc b i k v):acQ P E' T Tc b i k v:=by
 obtain ⟨x,L,N,h1,h2⟩:=q;exact ⟨x,L,N,h.α _ _ h1,h2⟩
mutual
theorem VK.mono (h:E.le E'):∀ {v:KV} {v' : Value},VK P E v v'->VK P E' v v'
 | .int k n,v,q=>q
 | .bool b,v,q=>q
 | .str s,v,q=>q
 | .agg cs,v,q=>by
  simp only [VK] at q ⊢;obtain ⟨l,e,q⟩:=q;exact ⟨l,e,aV.mono h q⟩
 | .ma cs,v,q=>by
  simp only [VK] at q ⊢;obtain ⟨l,e,q⟩:=q;exact ⟨l,e,aV.mono h q⟩
 | .ts T m n es acc,v,q=>by
  simp only [VK] at q ⊢;obtain ⟨t,l,q,k⟩:=q;exact ⟨t,l,aV.mono h q,k.mono h⟩
 | .tp T Tc i k es acc,v,q=>by
  simp only [VK] at q ⊢;obtain ⟨t,l,q,k⟩:=q;exact ⟨t,l,aV.mono h q,k.mono h⟩
 | .al T b o n,v,q=>by
  simp only [VK] at q ⊢;exact q.mono h
 | .ap T Tc b i k,v,q=>by
  simp only [VK] at q ⊢;exact q.mono h
 | .ptr b off,v,q=>by
  simp only [VK] at q ⊢;obtain ⟨x,e,q⟩:=q;exact ⟨x,h.κ _ _ e,q⟩
 | .sl b off n c,v,q=>by
  simp only [VK] at q ⊢;obtain ⟨x,e,q⟩:=q;exact ⟨x,h.κ _ _ e,q⟩
 | .GF,v,q=>q
 | .kl,v,q=>q
 | .CR,v,q=>q
 | .map b,v,q=>by
  simp only [VK] at q ⊢;obtain ⟨x,e,q⟩:=q;exact ⟨x,h.κ _ _ e,q⟩
 | .fn f first cap,v,q=>by
  simp only [VK] at q ⊢;obtain ⟨l,m,e,q1,q2⟩:=q;exact ⟨l,m,e,aV.mono h q1,aV.mono h q2⟩
 | .H5,v,q=>q
 | .iface t x,v,q=>by
  simp only [VK] at q ⊢;obtain ⟨y,e,q⟩:=q;exact ⟨y,e,VK.mono h q⟩
 | .H6,v,q=>q
 | .bf,v,q=>q
theorem aV.mono (h:E.le E'):∀ {v:List KV} {v' : List Value},aV P E v v'->aV P E' v v'
 | [],_,q=>q
 | x::xs,_,q=>by
  simp only [aV] at q ⊢;obtain ⟨y,ys,e,q1,q2⟩:=q;exact ⟨y,ys,e,VK.mono h q1,aV.mono h q2⟩
end
theorem aV.nil:aV P E [] []:=by simp [aV]
theorem aV.cons {x:KV} {y:Value} {xs:List KV} {ys:List Value} (h:VK P E x y) (k:aV P E xs ys):aV P E (x::xs) (y::ys):=by
 simp only [aV]; exact ⟨y,ys,rfl,h,k⟩
theorem aV.b5 {l:List Value} (h:aV P E [] l):l = []:=by simpa [aV] using h
theorem aV.cons_inv {x:KV} {xs:List KV} {l:List Value} (h:aV P E (x::xs) l):∃ y ys,l=y::ys/\VK P E x y/\aV P E xs ys:=by simpa [aV] using h
theorem aV.ef {x:KV} {l:List Value} (h:aV P E [x] l):∃ y,l = [y]/\VK P E x y:=by
 obtain ⟨y,ys,rfl,h1,h2⟩:=h.cons_inv;rw [h2.b5]; exact ⟨y,rfl,h1⟩
theorem aV.j7 {x y:KV} {l:List Value} (h:aV P E [x,y] l):∃ x' y',l = [x',y']/\VK P E x x'/\VK P E y y':=by
 obtain ⟨a,ys,rfl,h1,h2⟩:=h.cons_inv;obtain ⟨b,rfl,h3⟩:=h2.ef;exact ⟨a,b,rfl,h1,h3⟩
theorem aV.Sr {x y u:KV} {l:List Value} (h:aV P E [x,y,u] l):∃ x' y' u',l = [x',y',u']/\VK P E x x'/\VK P E y y'/\VK P E u u':=by
 obtain ⟨a,ys,rfl,h1,h2⟩:=h.cons_inv;obtain ⟨b,c,rfl,h3,h4⟩:=h2.j7;exact ⟨a,b,c,rfl,h1,h3,h4⟩
theorem aV.length:∀ {l:List KV} {l' : List Value},aV P E l l'->l'.length=l.length
 | [],l',h=>by rw [h.b5]; rfl
 | x::xs,l',h=>by
  obtain ⟨y,ys,rfl,_,k⟩:=h.cons_inv;simp [aV.length k]
theorem aV.get:∀ {l:List KV} {l' : List Value} {i:Nat} {v:KV},aV P E l l'->l[i]? = some v->∃ v',l'[i]? = some v'/\VK P E v v'
 | [],_,_,_,_,e=>by simp at e
 | x::xs,l',i,v,h,e=>by
  obtain ⟨y,ys,rfl,CN,k⟩:=h.cons_inv;cases i with
  | zero=>simp at e; subst e; exact ⟨y,rfl,CN⟩
  | succ i=>simp at e; simpa using aV.get k e
theorem aV.append:∀ {a:List KV} {a' : List Value} {b:List KV} {b' : List Value},aV P E a a'->aV P E b b'->aV P E (a++b) (a'++b')
 | [],a',b,b',h,k=>by rw [h.b5]; exact k
 | x::xs,a',b,b',h,k=>by
  obtain ⟨y,ys,rfl,CN,m⟩:=h.cons_inv;exact .cons CN (aV.append m k)
theorem aV.take:∀ (n:Nat) {l:List KV} {l' : List Value},aV P E l l'->aV P E (l.take n) (l'.take n)
 | 0,_,_,_=>by simp [aV.nil]
 | n+1,[],l',h=>by rw [h.b5]; simp [aV.nil]
 | n+1,x::xs,l',h=>by
  obtain ⟨y,ys,rfl,CN,k⟩:=h.cons_inv;simpa using aV.cons CN (aV.take n k)
theorem aV.drop:∀ (n:Nat) {l:List KV} {l' : List Value},aV P E l l'->aV P E (l.drop n) (l'.drop n)
 | 0,_,_,h=>by simpa using h
 | n+1,[],l',h=>by rw [h.b5]; simp [aV.nil]
 | n+1,x::xs,l',h=>by
  obtain ⟨y,ys,rfl,_,k⟩:=h.cons_inv;simpa using aV.drop n k
theorem Qw {α:Type} : ∀ {n:Nat} {l r:List α},yE n l=some r->r=l.take n/\n<=l.length
 | 0,l,r,h=>by simp [yE] at h; subst h; simp
 | n+1,[],r,h=>by simp [yE] at h
 | n+1,x::xs,r,h=>by
  simp only [yE,ck] at h;obtain ⟨q,hq,rfl⟩:=h;obtain ⟨rfl,hn⟩:=Qw hq;exact ⟨by simp,by simpa using hn⟩
theorem LO {α:Type} : ∀ (n:Nat) (l:List α),Ea n l=l.drop n
 | 0,l=>rfl
 | n+1,[]=>rfl
 | n+1,x::xs=>by simp [Ea,LO n xs]
theorem LQ:∀ {n:Nat} {l:List Value},n<=l.length->takeN n l=some (l.take n)
 | 0,l,_=>rfl
 | n+1,[],h=>by simp at h
 | n+1,x::xs,h=>by rw [Xo,LQ (n:=n) (l:=xs) (by simpa using h)]; rfl
theorem aV.yE {n k:Nat} {l r:List KV} {l' : List Value} (h:aV P E l l') (e:yE n (Ea k l)=some r):∃ r',takeN n (HR k l')=some r'/\aV P E r r'/\r' = (l'.drop k).take n:=by
 obtain ⟨rfl,hn⟩:=Qw e;rw [LO] at hn ⊢;have hl:=h.length;rw [vl];refine ⟨_,LQ ?_,(h.drop k).take n,rfl⟩;simp only [List.length_drop] at hn ⊢;omega
theorem aV.kU:∀ {n:Nat} {l:List KV} {l' : List Value} {vs r:List KV} {b7:List Value},kU n l vs=some r->aV P E l l'->aV P E vs b7->∃ r',gu n l' b7=some r'/\aV P E r r'
 | 0,l,l',[],r,b7,h,hl,hv=>by simp [K.kU] at h; subst h; rw [hv.b5]; exact ⟨l',BI l',hl⟩
 | 0,[],l',_::_,r,b7,h,hl,hv=>by simp [K.kU] at h
 | 0,x::l,l',v::vs,r,b7,h,hl,hv=>by
  obtain ⟨y,ys,rfl,_,k⟩:=hl.cons_inv;obtain ⟨u,us,rfl,h1,h2⟩:=hv.cons_inv;simp only [K.kU,ck] at h;obtain ⟨q,hq,rfl⟩:=h;obtain ⟨r',e,hr⟩:=aV.kU hq k h2;exact ⟨u::r',by simp [yz,e],.cons h1 hr⟩
 | n+1,[],l',[],r,b7,h,hl,hv=>by simp [K.kU] at h; subst h; rw [hl.b5,hv.b5]; exact ⟨[],rfl,.nil⟩
 | n+1,[],l',_::_,r,b7,h,hl,hv=>by simp [K.kU] at h
 | n+1,x::l,l',vs,r,b7,h,hl,hv=>by
  obtain ⟨y,ys,rfl,h1,k⟩:=hl.cons_inv;simp only [K.kU,ck] at h;obtain ⟨q,hq,rfl⟩:=h;obtain ⟨r',e,hr⟩:=aV.kU hq k hv;exact ⟨y::r',by simp [uA,e],.cons h1 hr⟩
theorem aV.ad1:∀ {l:List KV} {l' : List Value},l'.length=l.length->(∀ (i:Nat) (v:KV) (v' : Value),l[i]? = some v->l'[i]? = some v'->VK P E v v')->aV P E l l'
 | [],l',h,_=>by cases l' <;> simp_all [aV.nil]
 | x::xs,l',h,k=>by
  cases l' with
  | nil=>simp at h
  | cons y ys=>exact .cons (k 0 x y rfl rfl) (aV.ad1 (by simpa using h) fun i v v' e e'=>k (i+1) v v' (by simpa using e) (by simpa using e'))
theorem VK.cj {k:IntKind} {n:Int} {v:Value} (h:VK P E (.int k n) v):v = .int k n:=by simpa [VK] using h
theorem VK.eK {b:Bool} {v:Value} (h:VK P E (.bool b) v):v = .bool b:=by simpa [VK] using h
theorem VK.vw {s:ByteArray} {v:Value} (h:VK P E (.str s) v):v = .string s:=by simpa [VK] using h
theorem VK.kJ {cs:List KV} {v:Value} (h:VK P E (.agg cs) v):∃ l,v = .agg ⟨l⟩/\aV P E cs l:=by simpa [VK] using h
theorem VK.O1 {cs:List KV} {v:Value} (h:VK P E (.ma cs) v):∃ l,v = .tuple ⟨l⟩/\aV P E cs l:=by simpa [VK] using h
theorem VK.hD {b off:Nat} {v:Value} (h:VK P E (.ptr b off) v):∃ x,E.κ b=some x/\v = .pointer (some ⟨x,off,none⟩):=by simpa [VK] using h
theorem VK.Qx {b off n c:Nat} {v:Value} (h:VK P E (.sl b off n c) v):∃ x,E.κ b=some x/\v = .slice (some ⟨x,off,none⟩) n c:=by simpa [VK] using h
theorem VK.JQ {f:Fn} {a b:List KV} {v:Value} (h:VK P E (.fn f a b) v):∃ l m,v = .func f ⟨l⟩ ⟨m⟩/\aV P E a l/\aV P E b m:=by simpa [VK] using h
theorem VK.kW {T:TypeId} {m:Mk} {n:Nat} {es:List KV} {acc:Nat->KV} {v:Value} (h:VK P E (.ts T m n es acc) v):gU P T n es acc/\∃ bh,aV P E es bh/\afo P E T m n bh v:=by simpa [VK] using h
theorem VK.MS {T Tc:TypeId} {i k:Nat} {es:List KV} {acc:Nat->KV} {v:Value} (h:VK P E (.tp T Tc i k es acc) v):gU P T es.length es acc/\∃ bh,aV P E es bh/\afp P E T Tc i k es bh v:=by simpa [VK] using h
theorem VK.yp {T:TypeId} {b o n:Nat} {v:Value} (h:VK P E (.al T b o n) v):XD P E T b o n v:=by simpa [VK] using h
theorem VK.JR {T Tc:TypeId} {b i k:Nat} {v:Value} (h:VK P E (.ap T Tc b i k) v):acQ P E T Tc b i k v:=by simpa [VK] using h
theorem VK.O2 {T:TypeId} {b o n:Nat} {v:Value} (h:XD P E T b o n v):VK P E (.al T b o n) v:=by simpa [VK] using h
theorem VK.alE {T Tc:TypeId} {b i k:Nat} {v:Value} (h:acQ P E T Tc b i k v):VK P E (.ap T Tc b i k) v:=by simpa [VK] using h
theorem XD.slice {T:TypeId} {b o n:Nat} {v:Value} (h:XD P E T b o n v):∃ a c,v = .slice a n c:=by
 rcases h with ⟨rfl,_,rfl⟩ | ⟨x,L,N,c,_,rfl,_⟩
 ·exact ⟨_,_,rfl⟩
 ·exact ⟨_,_,rfl⟩
theorem VK.pk {v:Value} (h:VK P E .kl v):v = .slice none 0 0:=by simpa [VK] using h
theorem VK.Qy {v:Value} (h:VK P E .GF v):v = .pointer none:=by simpa [VK] using h
theorem VK.mkInt {k:IntKind} {n:Int} : VK P E (.int k n) (.int k n):=by simp [VK]
theorem VK.tU {b:Bool} : VK P E (.bool b) (.bool b):=by simp [VK]
theorem VK.mkStr {s:ByteArray} : VK P E (.str s) (.string s):=by simp [VK]
theorem VK.rI {cs:List KV} {l:List Value} (h:aV P E cs l):VK P E (.agg cs) (.agg ⟨l⟩):=by simp only [VK]; exact ⟨l,rfl,h⟩
theorem VK.V9 {cs:List KV} {l:List Value} (h:aV P E cs l):VK P E (.ma cs) (.tuple ⟨l⟩):=by simp only [VK]; exact ⟨l,rfl,h⟩
theorem VK.BM {b x off:Nat} (h:E.κ b=some x):VK P E (.ptr b off) (.pointer (some ⟨x,off,none⟩)):=by simp only [VK]; exact ⟨x,h,rfl⟩
theorem VK.aja {b x off n c:Nat} (h:E.κ b=some x):VK P E (.sl b off n c) (.slice (some ⟨x,off,none⟩) n c):=by simp only [VK]; exact ⟨x,h,rfl⟩
theorem VK.afq {f:Fn} {a b:List KV} {l m:List Value} (h:aV P E a l) (k:aV P E b m):VK P E (.fn f a b) (.func f ⟨l⟩ ⟨m⟩):=by simp only [VK]; exact ⟨l,m,rfl,h,k⟩
theorem VK.undef:VK P E tT undef:=VK.V9 .nil
theorem VK.vx {v:Value} : VK P E .bf v:=by simp [VK]
theorem VK.cells {v:KV} {v' : Value} (h:VK P E v v') (hu:yo v=true):aV P E v.cells v'.cells.toList:=by
 cases v with
 | agg cs=>obtain ⟨l,rfl,q⟩:=h.kJ; exact q
 | int k n=>have:=h.cj; subst this; exact .cons h .nil
 | bool b=>have:=h.eK; subst this; exact .cons h .nil
 | str b=>have:=h.vw; subst this; exact .cons h .nil
 | ma cs=>have q:=h; obtain ⟨l,rfl,_⟩:=h.O1; exact .cons q .nil
 | ts T m n es acc=>have q:=h; obtain ⟨_,_,_,a,cap,rfl,_⟩:=h.kW; exact .cons q .nil
 | tp T Tc i k es acc=>have q:=h; obtain ⟨_,_,_,_,_,b,off,r,rfl,_⟩:=h.MS; exact .cons q .nil
 | al T b o n=>have q:=h; obtain ⟨a,c,rfl⟩:=h.yp.slice; exact .cons q .nil
 | ap T Tc b i k=>have q:=h; obtain ⟨x,L,N,_,_,_,rfl⟩:=h.JR; exact .cons q .nil
 | ptr b off=>have q:=h; obtain ⟨x,_,rfl⟩:=h.hD; exact .cons q .nil
 | sl b off n c=>have q:=h; obtain ⟨x,_,rfl⟩:=h.Qx; exact .cons q .nil
 | GF=>have q:=h; simp only [VK] at h; subst h; exact .cons q .nil
 | kl=>have q:=h; simp only [VK] at h; subst h; exact .cons q .nil
 | CR=>have q:=h; simp only [VK] at h; subst h; exact .cons q .nil
 | map b=>have q:=h; simp only [VK] at h; obtain ⟨x,_,rfl⟩:=h; exact .cons q .nil
 | fn f a b=>have q:=h; obtain ⟨l,m,rfl,_⟩:=h.JQ; exact .cons q .nil
 | H5=>have q:=h; simp only [VK] at h; subst h; exact .cons q .nil
 | iface t x=>have q:=h; simp only [VK] at h; obtain ⟨y,rfl,_⟩:=h; exact .cons q .nil
 | H6=>have q:=h; simp only [VK] at h; subst h; exact .cons q .nil
 | bf=>simp [yo] at hu
theorem VK.scalar {v:KV} {v' : Value} (h:VK P E v v') (ho:one v=true):aG.scalar v' = true:=by
 cases v with
 | agg cs=>simp [one] at ho
 | ma cs=>simp [one] at ho
 | bf=>simp [one] at ho
 | int k n=>have:=h.cj; subst this; rfl
 | bool b=>have:=h.eK; subst this; rfl
 | str b=>have:=h.vw; subst this; rfl
 | ts T m n es acc=>obtain ⟨_,_,_,a,cap,rfl,_⟩:=h.kW; rfl
 | tp T Tc i k es acc=>obtain ⟨_,_,_,_,_,b,off,r,rfl,_⟩:=h.MS; rfl
 | al T b o n=>obtain ⟨a,c,rfl⟩:=h.yp.slice; rfl
 | ap T Tc b i k=>obtain ⟨x,L,N,_,_,_,rfl⟩:=h.JR; rfl
 | ptr b off=>obtain ⟨x,_,rfl⟩:=h.hD; rfl
 | sl b off n c=>obtain ⟨x,_,rfl⟩:=h.Qx; rfl
 | GF=>simp only [VK] at h; subst h; rfl
 | kl=>simp only [VK] at h; subst h; rfl
 | CR=>simp only [VK] at h; subst h; rfl
 | map b=>simp only [VK] at h; obtain ⟨x,_,rfl⟩:=h; rfl
 | fn f a b=>obtain ⟨l,m,rfl,_⟩:=h.JQ; rfl
 | H5=>simp only [VK] at h; subst h; rfl
 | iface t x=>simp only [VK] at h; obtain ⟨y,rfl,_⟩:=h; rfl
 | H6=>simp only [VK] at h; subst h; rfl
theorem aV.scalar:∀ {l:List KV} {l' : List Value},aV P E l l'->gx l=true->∀ v∈l',aG.scalar v=true
 | [],l',h,_,v,hv=>by rw [h.b5] at hv; simp at hv
 | x::xs,l',h,ho,v,hv=>by
  obtain ⟨y,ys,rfl,h1,h2⟩:=h.cons_inv;simp only [gx,aq] at ho;rcases de.1 hv with rfl | hv
  ·exact h1.scalar ho.1
  ·exact aV.scalar h2 ho.2 v hv
theorem AH {v:KV} (h:gx v.cells=true):yo v=true:=by
 cases v <;> first | rfl | simp [KV.cells,gx,one] at h
mutual
theorem VK.fy:∀ (v:Value),VK P E (fy v) v
 | .bool b=>by simp [K.fy,VK]
 | .int k n=>by simp [K.fy,VK]
 | .string s=>by simp [K.fy,VK]
 | .pointer none=>by simp [K.fy,VK]
 | .pointer (some a)=>by simp [K.fy,VK]
 | .slice none 0 0=>by simp [K.fy,VK]
 | .slice none 0 (n+1)=>by simp [K.fy,VK]
 | .slice none (n+1) c=>by simp [K.fy,VK]
 | .slice (some a) n c=>by simp [K.fy,VK]
 | .map none=>by simp [K.fy,VK]
 | .map (some r)=>by simp [K.fy,VK]
 | .nilFunc=>by simp [K.fy,VK]
 | .nilIface=>by simp [K.fy,VK]
 | .agg cs=>by
  obtain ⟨l⟩:=cs;simp only [K.fy,ofA];exact .rI (aV.ofL l)
 | .tuple cs=>by
  obtain ⟨l⟩:=cs;simp only [K.fy,ofA];exact .V9 (aV.ofL l)
 | .float _ _=>by simp [K.fy,VK]
 | .complex _ _ _=>by simp [K.fy,VK]
 | .chan _=>by simp [K.fy,VK]
 | .func _ _ _=>by simp [K.fy,VK]
 | .iface _ _=>by simp [K.fy,VK]
theorem aV.ofL:∀ (l:List Value),aV P E (ofL l) l
 | []=>.nil
 | v::vs=>.cons (VK.fy v) (aV.ofL vs)
end
theorem Ee {z:Value} (h:gx (fy z).cells=true):aV P E (fy z).cells z.cells.toList:=(VK.fy z).cells (AH h)
def Hb (E:Env) (A:ae):Prop:=∀ b c g tb sb tc sc,A.get b=some (.aP tb sb)->A.get c=some (.aP tc sc)->E.φ b=some g->E.φ c=some g->b=c
def AR (A:ae) (E:Env) (x:Nat):Prop:=∃ b v L N,A.get b=some (.arr v)/\E.α b=some (x,L,N)
def AF (A:ae) (E:Env) (B:St) (g:Nat):Prop:=∃ b v x L N cs e own k,A.get b=some (.arr v)/\E.α b=some (x,L,N)/\B.get x=some (.row cs e own (some (g,k)))
def AT (A:ae) (E:Env) (B:St) (y:Nat):Prop:=AR A E y\/∃ g,AF A E B g/\y∈B.members g
def Z5 (P:Program) (E:Env) (B:St) (b:Nat) (v:KV):Prop:=∃ T N es acc,v = .ts T .any N es acc/\gU P T N es acc/\1<=aU P T/\
 ((N=0/\E.α b=none)\/∃ x cs bK bh,E.α b=some (x,cs.length,N)/\B.get x=some (.row cs (aU P T) true bK)/\aV P E es bh/\qI (aU P T) 0 cs bh)
def TZ (P:Program) (E:Env) (b:Nat) (v:KV):Prop:=∃ T N es acc,v = .ts T .any N es acc/\gU P T N es acc/\1<=aU P T/\
 ((N=0/\E.α b=none)\/∃ x r bh,E.α b=some (x,r.cs.length,N)/\E.z x=some r/\r.bp=aU P T/\aV P E es bh/\qI (aU P T) 0 r.cs bh)
theorem Z5.mono (h:E.le E') {B B' : St} {b:Nat} {v:KV} (tV:E'.α b=E.α b) (hB:∀ x L N,E.α b=some (x,L,N)->B'.get x=B.get x) (q:Z5 P E B b v):Z5 P E' B' b v:=by
 obtain ⟨T,N,es,acc,h1,h2,h3,h4⟩:=q;refine ⟨T,N,es,acc,h1,h2,h3,?_⟩;rcases h4 with ⟨h4,h5⟩ | ⟨x,cs,bK,bh,h4,h5,h6,h7⟩
 ·exact .inl ⟨h4,by rw [tV]; exact h5⟩
 ·exact .inr ⟨x,cs,bK,bh,by rw [tV]; exact h4,by rw [hB _ _ _ h4]; exact h5,h6.mono h,h7⟩
theorem TZ.mono (h:E.le E') {b:Nat} {v:KV} (tV:E'.α b=E.α b) (q:TZ P E b v):TZ P E' b v:=by
 obtain ⟨T,N,es,acc,h1,h2,h3,h4⟩:=q;refine ⟨T,N,es,acc,h1,h2,h3,?_⟩;rcases h4 with ⟨h4,h5⟩ | ⟨x,r,bh,h4,h5,h6,h7,h8⟩
 ·exact .inl ⟨h4,by rw [tV]; exact h5⟩
 ·exact .inr ⟨x,r,bh,by rw [tV]; exact h4,h.z _ _ h5,h6,h7.mono h,h8⟩
structure MT (P:Program) (E:Env) (A:ae) (B:St):Prop where
 arr:∀ b v,A.get b=some (.arr v)->Z5 P E B b v
 iA:∀ b v,A.get b=some (.iA v)->TZ P E b v
 z:∀ x,AR A E x->E.z x=none/\∀ c,E.κ c≠some x
 inj:∀ b c v u x L N L' N',A.get b=some (.arr v)->A.get c=some (.arr u)->E.α b=some (x,L,N)->E.α c=some (x,L',N')->b=c
 xh:∀ b c v u x y L N L' N' cs e own g k bL e' rm k',A.get b=some (.arr v)->A.get c=some (.arr u)->E.α b=some (x,L,N)->E.α c=some (y,L',N')->B.get x=some (.row cs e own (some (g,k)))->B.get y=some (.row bL e' rm (some (g,k')))->b=c
 Z6:∀ b x,E.κ b=some x->E.α b=none
 jI:∀ b p,E.α b=some p->b < A.next
 eV:∀ b x L N,E.α b=some (x,L,N)->x < B.next
 vy:∀ b v x L N cs e own g k,A.get b=some (.arr v)->E.α b=some (x,L,N)->B.get x=some (.row cs e own (some (g,k)))->g < B.next/\(∀ f,E.φ f≠some g)/\∀ y∈B.members g,y≠x->E.z y=none/\¬ AR A E y/\∀ c,E.κ c≠some y
 nk:∀ b v,A.get b=some (.arr v)->b < A.next/\E.κ b=none
structure dr (P:Program) (E:Env) (A:ae) (B:St):Prop where
 row:∀ b cs bp,A.get b=some (.row cs bp)->∃ x bL,E.κ b=some x/\B.get x=some (.row bL bp true none)/\aV P E cs bL
 aP:∀ b top sz,A.get b=some (.aP top sz)->(top=0/\E.φ b=none)\/∃ g,E.φ b=some g/\0 < top/\∀ x∈B.members g,∀ cs e own f k,B.get x=some (.row cs e own (some (f,k)))->k=0/\cs.length<=top * sz
 z:∀ b r,E.z b=some r->B.get b=some (.row r.cs r.bp r.own r.bK)
 apart:∀ b x,E.κ b=some x->E.z x=none
 inj:∀ b c x,E.κ b=some x->E.κ c=some x->b=c
 gz:Hb E A
 jI:∀ b x,E.κ b=some x->b < A.next
 kK:∀ b g,E.φ b=some g->b < A.next
 live:∀ b o,A.get b=some o->b < A.next
 eV:∀ b x,E.κ b=some x->x < B.next
 lB:∀ b r,E.z b=some r->b < B.next
 ik:∀ b g,E.φ b=some g->g < B.next
 fresh:∀ g,B.next<=g->B.members g = []
 mem:∀ g x,x∈B.members g->x < B.next
 ar:MT P E A B
abbrev wu:gT:=.map []
structure Ev (P:Program) (base:Nat) (E:Env) (A:ae) (B:St) (ρ:Ren) (w:World) (E' : Env) (A' : ae) (B' : St) (aF:Ren) (w' : World):Prop where
 fT:dr P E' A' B'
 eH:iU base ρ B w aF B' w'
 le:E.le E'
 next:A.next<=A'.next
 dP:∀ x,x < B.next->(∀ b,E.κ b=some x->A.get b=some wu)->¬ AT A E B x->B'.get x=B.get x
 new:∀ b x,E'.κ b=some x->E.κ b=some x\/A.next<=b/\B.next<=x
 tW:∀ b r,E'.z b=some r->E.z b=some r\/AR A E b\/B.next<=b
 se:∀ b g,E'.φ b=some g->(∃ c,E.φ c=some g)\/B.next<=g
 oU:∀ g,g < B.next->(∀ b,E.φ b≠some g)->¬ AF A E B g->B'.members g=B.members g
 kq:∀ x,AR A' E' x->AR A E x\/B.next<=x
 kL:∀ g,AF A' E' B' g->AF A E B g\/B.next<=g
 vz:∀ g y,y∈B'.members g->y∈B.members g\/B.next<=y
 lZ:∀ y,AT A' E' B' y->AT A E B y\/B.next<=y
 rows:∀ y,y < B.next->∀ cs e own bK,B'.get y=some (.row cs e own bK)->∃ lY,B.get y=some (.row lY e own bK)/\lY.length=cs.length
 CW:∀ b,A.get b=some wu->A'.get b=some wu
theorem Ev.refl {base:Nat} {A:ae} {B:St} {ρ:Ren} {w:World} (h:dr P E A B) (s:vm ρ B base w):Ev P base E A B ρ w E A B ρ w:=
 ⟨h,.refl s,Env.le_refl _,aB _,fun _ _ _ _=>rfl,fun _ _ h=>.inl h,fun _ _ h=>.inl h,fun _ _ h=>.inl ⟨_,h⟩,fun _ _ _ _=>rfl,fun _ h=>.inl h,fun _ h=>.inl h,fun _ _ h=>.inl h,fun _ h=>.inl h,fun _ _ cs _ _ _ h=>⟨cs,h,rfl⟩,fun _ h=>h⟩
theorem Ev.trans {base:Nat} {E1 E2 E3:Env} {A1 A2 A3:ae} {B1 B2 B3:St} {kD xk ρ3:Ren} {w1 w2 w3:World} (h:Ev P base E1 A1 B1 kD w1 E2 A2 B2 xk w2) (k:Ev P base E2 A2 B2 xk w2 E3 A3 B3 ρ3 w3) :
  Ev P base E1 A1 B1 kD w1 E3 A3 B3 ρ3 w3 where
 fT:=k.fT
 eH:=h.eH.trans k.eH
 le:=Env.le_trans h.le k.le
 next:=gR h.next k.next
 dP x hx hn ha:=by
  refine (k.dP x (fa hx h.eH.next) (fun b e=>?_) fun q=>?_).trans (h.dP x hx hn ha)
  ·rcases h.new b x e with e | e
   ·exact h.CW b (hn b e)
   ·have:=e.2; omega
  ·rcases h.lZ x q with e | e
   ·exact ha e
   ·omega
 new b x e:=by
  rcases k.new b x e with e | e
  ·rcases h.new b x e with e | e
   ·exact .inl e
   ·exact .inr e
  ·have:=h.eH.next; have:=h.next; exact .inr (by omega)
 tW b r e:=by
  rcases k.tW b r e with e | e | e
  ·exact h.tW b r e
  ·exact .inr (h.kq b e)
  ·have:=h.eH.next; exact .inr (.inr (by omega))
 se b g e:=by
  rcases k.se b g e with ⟨c,e⟩ | e
  ·exact h.se c g e
  ·have:=h.eH.next; exact .inr (by omega)
 oU g hg hn ha:=by
  refine (k.oU g (fa hg h.eH.next) (fun b e=>?_) fun q=>?_).trans (h.oU g hg hn ha)
  ·rcases h.se b g e with ⟨c,e⟩ | e
   ·exact hn c e
   ·omega
  ·rcases h.kL g q with e | e
   ·exact ha e
   ·omega
 kq x e:=by
  rcases k.kq x e with e | e
  ·exact h.kq x e
  ·have:=h.eH.next; exact .inr (by omega)
 kL g e:=by
  rcases k.kL g e with e | e
  ·exact h.kL g e
  ·have:=h.eH.next; exact .inr (by omega)
 vz g y e:=by
  rcases k.vz g y e with e | e
  ·exact h.vz g y e
  ·have:=h.eH.next; exact .inr (by omega)
 lZ y e:=by
  rcases k.lZ y e with e | e
  ·exact h.lZ y e
  ·have:=h.eH.next; exact .inr (by omega)
 rows y hy cs e own bK q:=by
  obtain ⟨c1,h1,h2⟩:=k.rows y (fa hy h.eH.next) cs e own bK q;obtain ⟨c0,h3,h4⟩:=h.rows y hy c1 e own bK h1;exact ⟨c0,h3,h4.trans h2⟩
 CW b q:=k.CW b (h.CW b q)
@[simp] theorem ae.bA (A:ae) (b:Nat) (o:gT) (x:Nat):(A.put b o).get x=if x=b then some o else A.get x:=by simp [ae.put,ae.get,Trie.oO]
@[simp] theorem ae.cq (A:ae) (o:gT) (x:Nat):(A.new o).get x=if x=A.next then some o else A.get x:=by simp [ae.new,ae.get,Trie.oO]
@[simp] theorem ae.sv (A:ae) (b:Nat) (o:gT):(A.put b o).next=A.next:=rfl
@[simp] theorem ae.bS (A:ae) (o:gT):(A.new o).next=A.next+1:=rfl
theorem Hb.put {A:ae} (h:Hb E A) {b:Nat} {o:gT} (ho:(∀ t s,o≠.aP t s)\/E.φ b=none):Hb E (A.put b o):=by
 intro x y g tx sx ty sy hx hy ex ey;have key:∀ {z t s},(A.put b o).get z=some (.aP t s)->E.φ z=some g->A.get z=some (.aP t s):=by
  intro z t s hz ez;rw [ae.bA] at hz;split at hz
  ·rename_i e
   simp at hz;rcases ho with ho | ho
   ·exact absurd hz (ho t s)
   ·rw [e,ho] at ez; simp at ez
  ·exact hz
 exact h x y g tx sx ty sy (key hx ex) (key hy ey) ex ey
theorem Hb.new {A:ae} (h:Hb E A) {o:gT} (ho:(∀ t s,o≠.aP t s)\/E.φ A.next=none):Hb E (A.new o):=by
 intro x y g tx sx ty sy hx hy ex ey;have key:∀ {z t s},(A.new o).get z=some (.aP t s)->E.φ z=some g->A.get z=some (.aP t s):=by
  intro z t s hz ez;rw [ae.cq] at hz;split at hz
  ·rename_i e
   simp at hz;rcases ho with ho | ho
   ·exact absurd hz (ho t s)
   ·rw [e,ho] at ez; simp at ez
  ·exact hz
 exact h x y g tx sx ty sy (key hx ex) (key hy ey) ex ey
structure KJ (P:Program) (E:Env) (A:ae) (B:St) (ρ:Ren) (base:Nat) (w:World):Prop where
 k:dr P E A B
 s:vm ρ B base w
theorem Ev.kj {base:Nat} {E1 E2:Env} {A1 A2:ae} {B1 B2:St} {kD xk:Ren} {w1 w2:World} (h:Ev P base E1 A1 B1 kD w1 E2 A2 B2 xk w2):KJ P E2 A2 B2 xk base w2:=⟨h.fT,h.eH.fT⟩
def VC (P:Program) (E:Env) (ρ:Ren) (v:KV) (v' : Value):Prop:=∃ u,VK P E v u/\VR ρ u v'
theorem VC.mono {ρ aF:Ren} {v:KV} {v' : Value} (h:VC P E ρ v v') (k:E.le E') (m:ρ.le aF):VC P E' aF v v':=by
 obtain ⟨u,h1,h2⟩:=h;exact ⟨u,h1.mono k,h2.mono m⟩
theorem VC.bf {ρ:Ren} {v' : Value} : VC P E ρ .bf v':=⟨.chan none,.vx,by simp [VR]⟩
theorem VC.undef {ρ:Ren} : VC P E ρ tT undef:=⟨_,.undef,VR.undef⟩
end Go.K
end
section
namespace Go.K
open Go Go.aG
variable {P:Program} {E:Env}
def aH {α:Type} (r:KR α) (v:α):Prop:=
 match r with
 | .no=>False
 | .ok u=>u=v
 | .jJ c u=>c=true/\u=v
 | .br c x y=>(c=true/\aH x v)\/(c=false/\aH y v)
theorem KR.Cj {α R:Type} {k:α->Option R} {x:R} : ∀ {r:KR α},r.run k=some x->∃ v,aH r v/\k v=some x:=by
 intro r h
 match r,h with
 | .no,h=>exact absurd h (by simp [KR.run])
 | .ok v,h=>exact ⟨v,rfl,h⟩
 | .jJ c v,h=>
  cases c with
  | false=>exact absurd h (by simp [KR.run])
  | true=>exact ⟨v,⟨rfl,rfl⟩,h⟩
 | .br c x y,h=>
  cases c with
  | false=>obtain ⟨v,h1,h2⟩:=KR.Cj (r:=y) (k:=k) h; exact ⟨v,.inr ⟨rfl,h1⟩,h2⟩
  | true=>obtain ⟨v,h1,h2⟩:=KR.Cj (r:=x) (k:=k) h; exact ⟨v,.inl ⟨rfl,h1⟩,h2⟩
theorem aH.at {α:Type} {i:Int} {f:Nat->KR α} {v:α} : ∀ {m j:Nat},aH (ai6 i f m j) v->∃ k,j<=k/\k < j+m/\i=(k:Int)/\aH (f k) v
 | 0,j,h=>h.elim
 | m+1,j,h=>by
  rcases h with ⟨h1,h2⟩ | ⟨_,h2⟩
  ·exact ⟨j,aB j,by omega,Qh h1,h2⟩
  ·obtain ⟨k,h3,h4,h5,h6⟩:=aH.at (m:=m) (j:=j+1) h2
   exact ⟨k,by omega,by omega,h5,h6⟩
theorem aH.of {α:Type} {o:Option α} {v:α} (h:aH (KR.of o) v):o=some v:=by
 cases o with
 | none=>exact h.elim
 | some u=>have h:u=v:=h; rw [h]
theorem aH.cond {α:Type} {c:Bool} {r:KR α} {v:α} (h:aH (cond c r .no) v):c=true/\aH r v:=by
 cases c with
 | false=>exact h.elim
 | true=>exact ⟨rfl,h⟩
theorem MU {α:Type} {c:Bool} {r:Option α} {v:α} (h:cond c r none=some v):c=true/\r=some v:=by
 cases c with
 | false=>simp at h
 | true=>exact ⟨rfl,h⟩
def yI (P:Program) (f:FP) (g:List Value->Option Value):Prop:=
 ∀ (E:Env) (vs:List KV) (us:List Value) (v:KV),aV P E vs us->aH (f vs) v->∃ u,g us=some u/\VK P E v u
theorem afr:yI P adT Mv:=by
 intro E vs us v h hg
 match vs,hg with
 | [x],hg=>
  obtain ⟨y,rfl,h1⟩:=h.ef;have hg:x=v:=hg;subst hg;exact ⟨y,rfl,h1⟩
theorem akn:yI P adU Mv:=by
 intro E vs us v h hg
 match vs,hg with
 | [.bool b],hg=>
  obtain ⟨y,rfl,h1⟩:=h.ef;have hb:v = .bool b:=by
   rcases hg with ⟨rfl,h2⟩ | ⟨rfl,h2⟩
   ·exact (show KV.bool true=v from h2).symm
   ·exact (show KV.bool false=v from h2).symm
  subst hb;exact ⟨_,rfl,h1⟩
 | [x],hg=>
  have key:v=x:=by
   cases x <;> first | exact (show _=v from hg).symm | skip
   rcases hg with ⟨rfl,h2⟩ | ⟨rfl,h2⟩
   ·exact (show KV.bool true=v from h2).symm
   ·exact (show KV.bool false=v from h2).symm
  subst key;obtain ⟨y,rfl,h1⟩:=h.ef;exact ⟨_,rfl,h1⟩
theorem ako {b:Bool} : yI P (cond b adU adT) Mv:=by
 cases b with
 | true=>exact akn
 | false=>exact afr
theorem alF:yI P ahA adG:=by
 intro E vs us v h hg
 match vs,hg with
 | [.bool t,.bool a,.bool b],hg=>
  obtain ⟨x,y,z,rfl,h1,h2,h3⟩:=h.Sr;have:=h1.eK; subst this;have:=h2.eK; subst this;have:=h3.eK; subst this;have hg:KV.bool (cond t a b)=v:=hg;subst hg;exact ⟨_,rfl,by cases t <;> exact .tU⟩
 | [.bool t,a,b],hg=>
  obtain ⟨x,y,z,rfl,h1,h2,h3⟩:=h.Sr;have:=h1.eK; subst this;refine ⟨_,rfl,?_⟩;have hg:v=cond t a b\/∃ p q,a = .bool p/\b = .bool q/\v = .bool (cond t p q):=by
   unfold ahA at hg;split at hg
   ·rename_i t' a' b' e
    simp at e;obtain ⟨rfl,rfl,rfl⟩:=e;exact .inr ⟨_,_,rfl,rfl,hg.symm⟩
   ·rename_i t' a' b' _ e
    simp at e;obtain ⟨rfl,rfl,rfl⟩:=e;exact .inl hg.symm
   ·exact hg.elim
  rcases hg with rfl | ⟨p,q,rfl,rfl,rfl⟩
  ·cases t
   ·exact h3
   ·exact h2
  ·have:=h2.eK; subst this
   have:=h3.eK; subst this;cases t <;> exact .tU
theorem Wa {v:KV} {u:Value} (h:VK P E v u) (hk:yo v=true):aG.known u=true:=by
 cases v with
 | agg cs=>obtain ⟨l,rfl,q⟩:=h.kJ; rfl
 | int k n=>have:=h.cj; subst this; rfl
 | bool b=>have:=h.eK; subst this; rfl
 | str b=>have:=h.vw; subst this; rfl
 | ma cs=>obtain ⟨l,rfl,_⟩:=h.O1; rfl
 | ts T m n es acc=>obtain ⟨_,_,_,a,cap,rfl,_⟩:=h.kW; rfl
 | tp T Tc i k es acc=>obtain ⟨_,_,_,_,_,b,off,r,rfl,_⟩:=h.MS; rfl
 | al T b o n=>obtain ⟨a,c,rfl⟩:=h.yp.slice; rfl
 | ap T Tc b i k=>obtain ⟨x,L,N,_,_,_,rfl⟩:=h.JR; rfl
 | ptr b off=>obtain ⟨x,_,rfl⟩:=h.hD; rfl
 | sl b off n c=>obtain ⟨x,_,rfl⟩:=h.Qx; rfl
 | GF=>simp only [VK] at h; subst h; rfl
 | kl=>simp only [VK] at h; subst h; rfl
 | CR=>simp only [VK] at h; subst h; rfl
 | map b=>simp only [VK] at h; obtain ⟨x,_,rfl⟩:=h; rfl
 | fn f a b=>obtain ⟨l,m,rfl,_⟩:=h.JQ; rfl
 | H5=>simp only [VK] at h; subst h; rfl
 | iface t x=>simp only [VK] at h; obtain ⟨y,rfl,_⟩:=h; rfl
 | H6=>simp only [VK] at h; subst h; rfl
 | bf=>simp [yo] at hk
theorem O3 {v:KV} {u:Value} (h:VK P E v u) (hk:yo v=true):u.cells.size=v.cells.length:=by
 have:=(h.cells hk).length;simpa using this
theorem Z7 {place:Nat->Option (Nat×Nat)} : ∀ {ps:List (Nat×KV)} {qs:List (Nat×Value)} {cs r:List KV} {bL:List Value},ps.map (·.1)=qs.map (·.1)->aV P E (ps.map (·.2)) (qs.map (·.2))->(∀ p∈ps,yo p.2=true)->
  aV P E cs bL->VX place cs ps=some r->∃ r',CH place bL qs=some r'/\aV P E r r'
 | [],[],cs,r,bL,_,_,_,h,e=>by simp [VX] at e; subst e; exact ⟨bL,rfl,h⟩
 | [],_::_,_,_,_,e,_,_,_,_=>by simp at e
 | _::_,[],_,_,_,e,_,_,_,_=>by simp at e
 | (i,v)::ps,(j,u)::qs,cs,r,bL,e1,e2,hk,h,e=>by
  simp only [List.map_cons,List.cons.injEq] at e1;obtain ⟨rfl,e1⟩:=e1;obtain ⟨y,ys,e3,h1,h2⟩:=e2.cons_inv;simp only [List.map_cons,List.cons.injEq] at e3;obtain ⟨rfl,rfl⟩:=e3;have hkv:yo v=true:=hk (i,v) (by simp);simp only [VX] at e;simp only [CH];split at e
  ·rename_i off size hp
   rw [hp];obtain ⟨hc,e⟩:=MU e;obtain ⟨oG,e4,e5⟩:=cC.1 e;obtain ⟨r1,e6,h3⟩:=aV.kU e4 h (h1.cells hkv);obtain ⟨r',e7,h4⟩:=Z7 e1 h2 (fun p hp=>hk p (by simp [hp])) h3 e5;refine ⟨r',?_,h4⟩;simp only;rw [O3 h1 hkv,hc,aj,e6];exact e7
  ·simp at e
theorem Z8:∀ (is:List Nat) {vs:List KV} {us:List Value},aV P E vs us->(zW is vs).map (·.1)=(zipIdx is us).map (·.1)/\aV P E ((zW is vs).map (·.2)) ((zipIdx is us).map (·.2))
 | [],_,_,_=>by simp [zW,zipIdx,aV.nil]
 | i::is,[],us,h=>by rw [h.b5]; simp [zW,zipIdx,aV.nil]
 | i::is,v::vs,us,h=>by
  obtain ⟨y,ys,rfl,h1,h2⟩:=h.cons_inv;obtain ⟨h3,h4⟩:=Z8 is h2;exact ⟨by simp [zW,zipIdx,h3],by simpa [zW,zipIdx] using aV.cons h1 h4⟩
theorem Z9:∀ (is:List Nat) (vs:List KV),∀ p∈zW is vs,p.2∈vs
 | [],_,p,h=>by simp [zW] at h
 | i::is,[],p,h=>by simp [zW] at h
 | i::is,v::vs,p,h=>by
  simp only [zW,de] at h;rcases h with rfl | h
  ·simp
  ·simp [Z9 is vs p h]
theorem Ia:∀ {vs:List KV} {us:List Value},aV P E vs us->vs.all yo=true->us.all aG.known=true
 | [],us,h,_=>by rw [h.b5]; rfl
 | v::vs,us,h,k=>by
  obtain ⟨y,ys,rfl,h1,h2⟩:=h.cons_inv;simp only [List.all_cons,aq] at k ⊢;exact ⟨Wa h1 k.1,Ia h2 k.2⟩
theorem acR {place:Nat->Option (Nat×Nat)} {z:Value} {is:List Nat} (hz:flat z=true) (h1:gx (fy z).cells=true):yI P (Qq place (fy z).cells is) (D5 place z is):=by
 intro E vs us v h hg;unfold Qq at hg;split at hg
 ·rename_i cs hf
  obtain ⟨hk,hg⟩:=hg.cond;have hg:KV.agg cs=v:=hg;subst hg;obtain ⟨h2,h3⟩:=Z8 is h;obtain ⟨r',e,hr⟩:=Z7 h2 h3 (fun p hp=>by have:=Z9 is vs p hp; exact fg.1 hk _ this) (Ee (P:=P) (E:=E) h1) hf;refine ⟨.agg ⟨r'⟩,?_,.rI hr⟩;unfold D5;rw [hz,Ia h hk];simp [e,rI]
 ·exact hg.elim
theorem anj:yI P ZW Mz:=by
 intro E vs us v h hg
 match vs,hg with
 | [.ptr b off],hg=>
  obtain ⟨y,rfl,h1⟩:=h.ef;have hg:KV.ptr b off=v:=hg;subst hg;have q:=h1;obtain ⟨x,e,rfl⟩:=h1.hD;exact ⟨_,rfl,q⟩
 | [.tp T Tc i k es acc],hg=>
  obtain ⟨y,rfl,h1⟩:=h.ef;have hg:KV.tp T Tc i k es acc=v:=hg;subst hg;have q:=h1;obtain ⟨_,_,_,_,_,b,off,r,rfl,_⟩:=h1.MS;exact ⟨_,rfl,q⟩
 | [.ap T Tc b i k],hg=>
  obtain ⟨y,rfl,h1⟩:=h.ef;have hg:KV.ap T Tc b i k=v:=hg;subst hg;have q:=h1;obtain ⟨x,L,N,_,_,_,rfl⟩:=h1.JR;exact ⟨_,rfl,q⟩
 | [.fn (.func f) a b],hg=>
  obtain ⟨y,rfl,h1⟩:=h.ef;have hg:KV.fn (.func f) a b=v:=hg;subst hg;have q:=h1;obtain ⟨l,m,rfl,_⟩:=h1.JQ;exact ⟨_,rfl,q⟩
theorem O4 {s ft:TypeId} {off:Nat} (h:Y3 P s off ft=true):∀ m c,(aQ P ft).ks[m]? = some c->(aQ P s).ks[off+m]? = some c:=by
 unfold Y3 at h;have key:∀ (a b:List CK),Ec a b=true->a=b:=by
  intro a
  induction a with
  | nil=>intro b hb; cases b <;> simp_all [Ec]
  | cons x xs ih=>
   intro b hb;cases b with
   | nil=>simp [Ec] at hb
   | cons y ys=>
    simp only [Ec,aq] at hb;rw [ih ys hb.2];congr 1;cases x <;> cases y <;> simp_all [alC]
 split at h
 ·rename_i l e
  obtain ⟨rfl,hl⟩:=Qw e;have:=key _ _ h;intro m c hm;rw [<- this,mg] at hm;split at hm
  ·rwa [LO,o7] at hm
  ·simp at hm
 ·simp at h
theorem ach {s ft:TypeId} {off:Nat} {uT:Bool} (Ss:uT=Y3 P s off ft):yI P (Xz s off ft uT) (OE off):=by
 intro E vs us v h hg
 match vs,hg with
 | [.ptr b o],hg=>
  obtain ⟨y,rfl,h1⟩:=h.ef;have hg:KV.ptr b (o+off)=v:=hg;subst hg;obtain ⟨x,e,rfl⟩:=h1.hD;exact ⟨_,rfl,.BM e⟩
 | [.tp T Tc i k es acc],hg=>
  obtain ⟨y,rfl,h1⟩:=h.ef;obtain ⟨hc,hg⟩:=aH.cond hg;have hg:KV.tp T ft i (k+off) es acc=v:=hg;subst hg;simp only [aq] at hc;have:=aK hc.1;subst this;obtain ⟨ht,bh,h2,hi,hw,b,o,r,rfl,h4,h5⟩:=h1.MS;refine ⟨_,rfl,?_⟩;simp only [VK];refine ⟨ht,bh,h2,hi,⟨fun m c hm=>?_⟩,b,o,r,by simp only [Value.pointer.injEq,bM,Addr.mk.injEq,and_true,true_and]; omega,h4,h5⟩;have hp:=O4 (Ss ▸ hc.2) m c hm;have:=hw.is _ _ hp;rwa [show k+(off+m)=k+off+m by omega] at this
 | [.ap T Tc b i k],hg=>
  obtain ⟨y,rfl,h1⟩:=h.ef;obtain ⟨hc,hg⟩:=aH.cond hg;have hg:KV.ap T ft b i (k+off)=v:=hg;subst hg;simp only [aq] at hc;have:=aK hc.1;subst this;obtain ⟨x,L,N,h2,hw,hi,rfl⟩:=h1.JR;refine ⟨_,rfl,.alE ⟨x,L,N,h2,⟨fun m c hm=>?_⟩,hi,by simp only [Value.pointer.injEq,bM,Addr.mk.injEq,and_true,true_and]; omega⟩⟩;have hp:=O4 (Ss ▸ hc.2) m c hm;have:=hw.is _ _ hp;rwa [show k+(off+m)=k+off+m by omega] at this
theorem afs {t:TypeId} {cs:List KV} {bL:List Value} {off:Nat} {v:KV} (h:aV P E cs bL) (e:VY P t cs off=some v):∃ u,partOf P t bL off=some u/\VK P E v u:=by
 unfold VY at e;unfold partOf;split at e
 ·rename_i ha
  rw [ha];obtain ⟨n,hn,e⟩:=cC.1 e;obtain ⟨l,hl,rfl⟩:=ck.1 e;obtain ⟨r,hr,hv,_⟩:=h.yE hl;exact ⟨.agg ⟨r⟩,by simp [hn,hr],.rI hv⟩
 ·rename_i ha
  rw [ha];rw [LO] at e;have hd:=h.drop off;cases hc:cs.drop off with
  | nil=>rw [hc] at e; simp at e
  | cons x xs=>
   rw [hc] at e hd;simp at e;subst e;obtain ⟨y,ys,e2,h1,_⟩:=hd.cons_inv;exact ⟨y,by simp [vl,e2],h1⟩
 ·simp at e
theorem akp {fd:Field} : yI P (ai5 P fd) (adH P fd):=by
 intro E vs us v h hg
 match vs,hg with
 | [.agg cs],hg=>
  obtain ⟨y,rfl,h1⟩:=h.ef;obtain ⟨l,rfl,h2⟩:=h1.kJ;exact afs h2 hg.of
theorem Ck {i:Int} {n:Nat} (h:ZX i n=true):∃ m,i = .ofNat m/\m < n/\i.toNat=m:=by
 simp only [ZX,aq,lT] at h;obtain ⟨m,rfl⟩:=Int.eq_ofNat_of_zero_le h.1;exact ⟨m,rfl,by omega,rfl⟩
theorem qR {m n:Nat} (h:m < n):kE (.ofNat m) n=some m:=by
 have:Nat.blt m n=true:=by rw [bF]; exact h
 simp [kE,this]
theorem aH.jJ {α:Type} {c:Bool} {u v:α} (h:aH (.jJ c u) v):c=true/\u=v:=h
theorem XE {t e:TypeId} {len n m:Nat} (hq:Ec (aQ P t).ks (dj (aQ P e).ks len)=true) (hn:(aQ P e).ks.length=n) (hm:m < len):∀ a c,(aQ P e).ks[a]? = some c->(aQ P t).ks[m * n+a]? = some c:=by
 intro a c ha;have key:∀ (l:List CK) (KL m a:Nat) (c:CK),m < KL->l[a]? = some c->(dj l KL)[m * l.length+a]? = some c:=by
  intro l KL
  induction KL with
  | zero=>intro m a c hm; omega
  | succ KL ih=>
   intro m a c hm hl;have bj:a < l.length:=(cG.1 hl).1;cases m with
   | zero=>simp only [dj,Nat.zero_mul,ba]; rw [qM bj]; exact hl
   | succ m=>
    simp only [dj];rw [tL (by rw [Nat.succ_mul]; omega),show (m+1) * l.length+a - l.length=m * l.length+a by rw [Nat.succ_mul]; omega];exact ih m a c (by omega) hl
 have apv:∀ (a b:List CK),Ec a b=true->a=b:=by
  intro a
  induction a with
  | nil=>intro b hb; cases b <;> simp_all [Ec]
  | cons x xs ih=>
   intro b hb;cases b with
   | nil=>simp [Ec] at hb
   | cons y ys=>
    simp only [Ec,aq] at hb;rw [ih ys hb.2];congr 1;cases x <;> cases y <;> simp_all [alC]
 have h6:=key (aQ P e).ks len m a c hm ha;rw [<- apv _ _ hq,hn] at h6;exact h6
theorem ad2 {t e:TypeId} {len n:Nat} : yI P (ZY P t len n e) (R5 len n):=by
 intro E vs us v h hg
 match vs,hg with
 | [.ptr b o,.int k i],hg=>
  have hg:aH (cond (Nat.ble len 8) (ai6 i (fun j=>.ok (.ptr b (o+j * n))) len 0) (.jJ (ZX i len) (.ptr b (o+i.toNat * n)))) v:=hg;obtain ⟨x,y,rfl,h1,h2⟩:=h.j7;obtain ⟨x,e,rfl⟩:=h1.hD;have:=h2.cj; subst this;have key:∃ m:Nat,i=(m:Int)/\m < len/\v = .ptr b (o+m * n):=by
   cases hb:Nat.ble len 8 with
   | true=>rw [hb,aj] at hg; obtain ⟨m,_,h3,h4,h5⟩:=aH.at hg; exact ⟨m,h4,by omega,(show KV.ptr b (o+m * n)=v from h5).symm⟩
   | false=>rw [hb,aI] at hg; obtain ⟨hc,rfl⟩:=aH.jJ hg; obtain ⟨m,rfl,hm,Su⟩:=Ck hc; exact ⟨m,rfl,hm,by rw [Su]⟩
  obtain ⟨m,rfl,hm,rfl⟩:=key;refine ⟨_,?_,.BM e⟩;show (kE (.ofNat m) len).bind _=_;rw [qR hm]; rfl
 | [.tp T Tc j k es acc,.int q i],hg=>
  obtain ⟨x,y,rfl,h1,h2⟩:=h.j7;obtain ⟨vq,hg⟩:=aH.cond hg;obtain ⟨hc,rfl⟩:=aH.jJ hg;have:=h2.cj; subst this;obtain ⟨m,rfl,hm,Su⟩:=Ck hc;rw [Su];simp only [aq] at vq;have:=aK vq.1.1;subst this;have hn:(aQ P e).ks.length=n:=aK vq.2;obtain ⟨ht,bh,h3,hi,hw,b,o,r,rfl,h4,h5⟩:=h1.MS;refine ⟨_,by (show (kE (.ofNat m) len).bind _=_); rw [qR hm]; rfl,?_⟩;simp only [VK];refine ⟨ht,bh,h3,hi,⟨fun a c ha=>?_⟩,b,o,r,by simp only [Value.pointer.injEq,bM,Addr.mk.injEq,and_true,true_and]; omega,h4,h5⟩;have h6:=XE vq.1.2 hn hm a c ha;have:=hw.is _ _ h6;rwa [show k+(m * n+a)=k+m * n+a by omega] at this
 | [.ap T Tc b j k,.int q i],hg=>
  obtain ⟨x,y,rfl,h1,h2⟩:=h.j7;obtain ⟨vq,hg⟩:=aH.cond hg;obtain ⟨hc,rfl⟩:=aH.jJ hg;have:=h2.cj; subst this;obtain ⟨m,rfl,hm,Su⟩:=Ck hc;rw [Su];simp only [aq] at vq;have:=aK vq.1.1;subst this;have hn:(aQ P e).ks.length=n:=aK vq.2;obtain ⟨x,L,N,h3,hw,hi,rfl⟩:=h1.JR;refine ⟨_,by (show (kE (.ofNat m) len).bind _=_); rw [qR hm]; rfl,.alE ⟨x,L,N,h3,⟨fun a c ha=>?_⟩,hi,by simp only [Value.pointer.injEq,bM,Addr.mk.injEq,and_true,true_and]; omega⟩⟩;have h6:=XE vq.1.2 hn hm a c ha;have:=hw.is _ _ h6;rwa [show k+(m * n+a)=k+m * n+a by omega] at this
theorem aft {e n:Nat} {uT:Bool} (Ss:uT=Nat.beq (aQ P e).ks.length n):yI P (acK e n uT) (VA n):=by
 intro E vs us v h hg
 match vs,hg with
 | [.sl b o len cap,.int k i],hg=>
  obtain ⟨x,y,rfl,h1,h2⟩:=h.j7;obtain ⟨hc,rfl⟩:=aH.jJ hg;obtain ⟨x,e,rfl⟩:=h1.Qx;have:=h2.cj; subst this;obtain ⟨m,rfl,hm,Su⟩:=Ck hc;rw [Su];exact ⟨_,by (show (kE (.ofNat m) len).bind _=_); rw [qR hm]; rfl,.BM e⟩
 | [.ts T mk len es acc,.int q i],hg=>
  obtain ⟨x,y,rfl,h1,h2⟩:=h.j7;obtain ⟨vq,hg⟩:=aH.cond hg;obtain ⟨hc,rfl⟩:=aH.jJ hg;have:=h2.cj; subst this;obtain ⟨m,rfl,hm,Su⟩:=Ck hc;rw [Su];simp only [aq] at vq;have:=aK vq.1;subst this;have hn:(aQ P T).ks.length=n:=aK (Ss ▸ vq.2);obtain ⟨ht,bh,h3,a,cap,rfl,h4,h5,h6⟩:=h1.kW;rcases h5 with ⟨_,h0⟩ | ⟨b,off,r,rfl,h7,h8,h9⟩
  ·omega
  ·refine ⟨_,by (show (kE (.ofNat m) len).bind _=_); rw [qR hm]; rfl,?_⟩
   have hl:=ht.len;simp only [VK];refine ⟨⟨rfl,fun i hi=>ht.acc i (by omega),ht.typed⟩,bh,h3,by omega,⟨fun a c ha=>by simpa using ha⟩,b,off,r,?_,h7,h9⟩;simp only [aU,hn,Value.pointer.injEq,bM,Addr.mk.injEq,and_true,true_and];omega
 | [.al T b o len,.int q i],hg=>
  obtain ⟨x,y,rfl,h1,h2⟩:=h.j7;obtain ⟨vq,hg⟩:=aH.cond hg;obtain ⟨hc,rfl⟩:=aH.jJ hg;have:=h2.cj; subst this;obtain ⟨m,rfl,hm,Su⟩:=Ck hc;rw [Su];simp only [aq] at vq;have:=aK vq.1;subst this;have hn:(aQ P T).ks.length=n:=aK (Ss ▸ vq.2);rcases h1.yp with ⟨h0,_⟩ | ⟨x,L,N,c,h3,rfl,h4,h5,h6⟩
  ·omega
  ·refine ⟨_,by (show (kE (.ofNat m) len).bind _=_); rw [qR hm]; rfl,.alE ⟨x,L,N,h3,⟨fun a c ha=>by simpa using ha⟩,by omega,?_⟩⟩
   simp only [aU,hn,Value.pointer.injEq,bM,Addr.mk.injEq,and_true,true_and];rw [Nat.add_mul]; omega
theorem ad3 {len n:Nat} {e:TypeId} : yI P (Sh P len n e) (R6 P len n e):=by
 intro E vs us v h hg
 match vs,hg with
 | [.agg cs,.int k i],hg=>
  obtain ⟨x,y,rfl,h1,h2⟩:=h.j7;obtain ⟨l,rfl,h3⟩:=h1.kJ;have:=h2.cj; subst this;simp only [Sh] at hg;have key:∃ m:Nat,i=(m:Int)/\m < len/\VY P e cs (m * n)=some v:=by
   cases hb:Nat.ble len 8 with
   | true=>rw [hb,aj] at hg; obtain ⟨m,_,h3,h4,h5⟩:=aH.at hg; exact ⟨m,h4,by omega,aH.of h5⟩
   | false=>
    rw [hb,aI] at hg;split at hg
    ·rename_i u hu
     obtain ⟨hc,rfl⟩:=aH.jJ hg;obtain ⟨m,rfl,hm,Su⟩:=Ck hc;rw [Su] at hu;exact ⟨m,rfl,hm,hu⟩
    ·exact hg.elim
  obtain ⟨m,rfl,hm,hu⟩:=key;obtain ⟨w,h4,h5⟩:=afs h3 hu;exact ⟨w,by (show (kE (.ofNat m) len).bind _=_); rw [qR hm]; exact h4,h5⟩
theorem ad4:yI P ZZ R7:=by
 intro E vs us v h hg
 match vs,hg with
 | [.str s,.int k i],hg=>
  obtain ⟨x,y,rfl,h1,h2⟩:=h.j7;have:=h1.vw; subst this;have:=h2.cj; subst this;obtain ⟨hc,rfl⟩:=aH.jJ hg;obtain ⟨m,rfl,hm,Su⟩:=Ck hc;rw [Su];have hl:m < s.data.toList.length:=by simpa using hm
  refine ⟨.int .u8 (s.data.toList.getD m 0).toNat,?_,.mkInt⟩;show (kE (.ofNat m) s.size).bind _=_;rw [qR hm];show (s.data.toList[m]?).map _=_;simp [List.getD,cI hl]
theorem aaa {α:Type} : ∀ (n:Nat) (l:List α),acL n l=l[n]?
 | n,[]=>by cases n <;> rfl
 | 0,x::_=>rfl
 | n+1,_::xs=>by simp [acL,aaa n xs]
theorem afu {i:Nat} : yI P (acM i) (Ln i):=by
 intro E vs us v h hg
 match vs,hg with
 | [.ma ws],hg=>
  obtain ⟨y,rfl,h1⟩:=h.ef;obtain ⟨l,rfl,h2⟩:=h1.O1;have:=hg.of;rw [aaa] at this;obtain ⟨u,h3,h4⟩:=h2.get this;exact ⟨u,by simpa [Ln] using h3,h4⟩
theorem akq:yI P ai7 YW:=by
 intro E vs us v h hg
 match vs,hg with
 | [.ts T m n es acc],hg=>
  obtain ⟨y,rfl,h1⟩:=h.ef;obtain ⟨_,_,_,a,cap,rfl,_⟩:=h1.kW;have hg:KV.int .i64 n=v:=hg;subst hg;exact ⟨_,rfl,.mkInt⟩
 | [.sl b o n c],hg=>
  obtain ⟨y,rfl,h1⟩:=h.ef;obtain ⟨x,_,rfl⟩:=h1.Qx;have hg:KV.int .i64 n=v:=hg;subst hg;exact ⟨_,rfl,.mkInt⟩
 | [.al T b o n],hg=>
  obtain ⟨y,rfl,h1⟩:=h.ef;obtain ⟨a,c,rfl⟩:=h1.yp.slice;have hg:KV.int .i64 n=v:=hg;subst hg;exact ⟨_,rfl,.mkInt⟩
 | [.kl],hg=>
  obtain ⟨y,rfl,h1⟩:=h.ef;have:=h1.pk; subst this;have hg:KV.int .i64 0=v:=hg;subst hg;exact ⟨_,rfl,.mkInt⟩
theorem ahD:yI P afh Tz:=by
 intro E vs us v h hg
 match vs,hg with
 | [.str s],hg=>
  obtain ⟨y,rfl,h1⟩:=h.ef;have:=h1.vw; subst this;have hg:KV.int .i64 s.size=v:=hg;subst hg;exact ⟨_,rfl,.mkInt⟩
theorem akr:yI P ai3 Zw:=by
 intro E vs us v h hg
 match vs,hg with
 | [.str s],hg=>
  obtain ⟨y,rfl,h1⟩:=h.ef;have:=h1.vw; subst this;have hg:KV.str s=v:=hg;subst hg;exact ⟨_,rfl,.mkStr⟩
theorem ad5 {f:Fn} {k:Nat} : yI P (MO f k) (HT f k):=by
 intro E vs us v h hg;unfold MO at hg;split at hg
 ·rename_i l hl
  have hg:KV.fn f l (Ea k vs)=v:=hg;subst hg;have uY:yE k (Ea 0 vs)=some l:=hl;obtain ⟨r,h1,h2,_⟩:=h.yE uY;have h1:takeN k us=some r:=h1;refine ⟨_,by simp [HT,h1]; rfl,.afq h2 ?_⟩;rw [LO,vl];exact h.drop k
 ·exact hg.elim
theorem aks {src dst:TypeId} {k k' : IntKind} (h2:P.underlying dst=some (.int k)) (h3:P.underlying src=some (.int k')):yI P (ai2 k) (Lm P src dst):=by
 intro E vs us v h hg
 match vs,hg with
 | [.int j n],hg=>
  obtain ⟨y,rfl,h1⟩:=h.ef;have:=h1.cj; subst this;have hg:KV.int k (k.wrap n)=v:=hg;subst hg;refine ⟨.int k (k.wrap n),?_,.mkInt⟩;simp only [Lm,h2];simp [convert,underlying,program,Bind.bind,Sem.bind,cP,h2,h3,Conv.intToInt,Pure.pure]
end Go.K
end
section
namespace Go.K
open Go Go.aG
variable {P:Program} {E:Env}
theorem eo {α β:Type} : ∀ {s:Sem α} {f:α->Sem β} {a:α},cP P s=some a->cP P (s >>= f)=cP P (f a)
 | .pure x,f,a,h=>by simp [cP] at h; subst h; rfl
 | .program k,f,a,h=>by
  have:=eo (s:=k P) (f:=f) (a:=a) (by simpa [cP] using h);exact this
 | .mark m k,f,a,h=>by
  have:=eo (s:=k) (f:=f) (a:=a) (by simpa [cP] using h);exact this
 | .load ..,_,_,h | .store ..,_,_,h | .new ..,_,_,h | .shape ..,_,_,h | .freeze ..,_,_,h | .frozen ..,_,_,h | .getObj ..,_,_,h
 | .setObj ..,_,_,h | .choose ..,_,_,h | .sys ..,_,_,h | .halt ..,_,_,h=>by simp [cP] at h
theorem Ib {α β:Type} {init stop:β} {B:α->β->Sem (ForInStep β)} {g:α->Bool} : ∀ {l:List α},(∀ x∈l,cP P (B x init)=some (if g x=true then .yield init else .done stop))->
  cP P (forIn l init B)=some (if l.all g=true then init else stop)
 | [],_=>rfl
 | x::l,h=>by
  have hx:=h x (by simp);rw [List.forIn_cons,eo hx];cases hg:g x with
  | true=>
   simp only [if_true];rw [Ib fun y hy=>h y (by simp [hy])];simp [hg]
  | false=>simp [hg]; rfl
theorem Ac {t:TypeId} {d:TypeDesc} (h:P.underlying t=some d):cP P (underlying t)=some d:=by
 simp [underlying,program,Bind.bind,Sem.bind,cP,h,Pure.pure]
theorem T3 {t:TypeId} {i:TypeInfo} (h:P.info? t=some i):cP P (typeInfo t)=some i:=by
 simp [typeInfo,program,Bind.bind,Sem.bind,cP,h,Pure.pure]
theorem cr {α:Type} (a:α):cP P (pure a)=some a:=rfl
theorem NS {t:TypeId} {i:TypeInfo} (h:P.info? t=some i):cP P (sizeOf t)=some i.size:=by
 unfold sizeOf;rw [eo (T3 h)];rfl
theorem aab {n:Nat} {t:TypeId} {L:Lay} (h:lay P n t=some L):∃ d,P.underlying t=some d/\L.agg=YV d/\(L.agg=false->L.ks.length=1):=by
 cases n with
 | zero=>simp [lay] at h
 | succ n=>
  simp only [lay] at h;split at h <;> rename_i hu
  ·simp at h; subst h; exact ⟨_,hu,rfl,fun _=>rfl⟩
  ·simp at h; subst h; exact ⟨_,hu,rfl,fun _=>rfl⟩
  ·simp at h; subst h; exact ⟨_,hu,rfl,fun _=>rfl⟩
  ·simp at h; subst h; exact ⟨_,hu,rfl,fun _=>rfl⟩
  ·obtain ⟨ks,_,rfl⟩:=ck.1 h; exact ⟨_,hu,rfl,fun h=>by simp at h⟩
  ·obtain ⟨ks,_,rfl⟩:=ck.1 h; exact ⟨_,hu,rfl,fun h=>by simp at h⟩
  ·rename_i d h1 h2 h3 h4 h5 h6
   simp at h; subst h;refine ⟨_,hu,?_,fun _=>rfl⟩;cases d <;> first | rfl | simp_all
  ·simp at h
def CX (agg:Bool) (l:List Value):Value:=cond agg (.agg ⟨l⟩) (l.headD undef)
theorem Rr {n:Nat} {t:TypeId} {L:Lay} {i:TypeInfo} {cs:Array Value} {off:Nat} (h:lay P n t=some L) (hi:P.info? t=some i) (hs:i.size=L.ks.length) (hl:off+L.ks.length<=cs.size) :
  cP P (part t cs off)=some (CX L.agg ((cs.toList.drop off).take L.ks.length)):=by
 obtain ⟨d,hu,ha,h1⟩:=aab h;have apw:cP P (isAgg t)=some (YV d):=by
  unfold isAgg;rw [eo (Ac hu)];cases d <;> rfl
 unfold part;rw [eo apw];cases hd:YV d with
 | true=>
  rw [hd] at ha;simp only [if_true];rw [eo (NS hi)];simp only [cr,ha,CX,aj,hs];congr 2;apply Array.ext';simp
 | false=>
  rw [hd] at ha;have h1:=h1 ha;have bj:off < cs.size:=by omega
  simp only [G0,if_false];rw [Array.getElem?_eq_getElem bj];simp only [cr,ha,CX,aI,h1];congr 1;have:cs.toList.drop off=cs.toList[off]::cs.toList.drop (off+1):=List.drop_eq_getElem_cons (by simpa using bj);rw [this];simp
theorem T4:∀ {xs ys:List KV} {b:Bool},wo xs ys=some b->xs.length=ys.length
 | [],[],_,_=>rfl
 | [],_::_,_,h=>by simp [wo] at h
 | _::_,[],_,h=>by simp [wo] at h
 | x::xs,y::ys,b,h=>by
  simp only [wo] at h;split at h
  ·rename_i h2; simp [T4 h2]
  ·simp at h
theorem Cl:∀ (n:Nat) {xs ys:List KV} {b:Bool},wo xs ys=some b->∃ b1 b2,wo (xs.take n) (ys.take n)=some b1/\wo (xs.drop n) (ys.drop n)=some b2/\b=(b1&&b2)
 | 0,xs,ys,b,h=>⟨true,b,by simp [wo],by simpa using h,by simp⟩
 | n+1,[],[],b,h=>by simp [wo] at h; subst h; exact ⟨true,true,by simp [wo],by simp [wo],rfl⟩
 | n+1,[],_::_,b,h=>by simp [wo] at h
 | n+1,_::_,[],b,h=>by simp [wo] at h
 | n+1,x::xs,y::ys,b,h=>by
  simp only [wo] at h;split at h
  ·rename_i a c h1 h2
   simp at h;obtain ⟨b1,b2,h3,h4,h5⟩:=Cl n h2;refine ⟨a&&b1,b2,by simp [wo,h1,h3],by simpa using h4,?_⟩;rw [<- h,h5,Bool.and_assoc]
  ·simp at h
def Ef (xs ys:List KV) (off n:Nat):Bool:=(wo ((xs.drop off).take n) ((ys.drop off).take n)).getD false
theorem acS {xs ys:List KV} {b:Bool} (h:wo xs ys=some b) (off n:Nat):wo ((xs.drop off).take n) ((ys.drop off).take n)=some (Ef xs ys off n):=by
 obtain ⟨_,_,_,h2,_⟩:=Cl off h;obtain ⟨b1,_,h3,_,_⟩:=Cl n h2;unfold Ef;rw [h3]; rfl
theorem xl:∀ {a b:List CK} {xs:List KV},aD (a++b) xs=true->aD a (xs.take a.length)=true/\aD b (xs.drop a.length)=true
 | [],b,xs,h=>by simpa [aD] using h
 | c::a,b,[],h=>by simp [aD] at h
 | c::a,b,x::xs,h=>by
  simp only [List.cons_append,aD,aq] at h;obtain ⟨h1,h2⟩:=xl h.2;simp [aD,h.1,h1,h2]
theorem sB:∀ {a:List CK} {xs:List KV},aD a xs=true->xs.length=a.length
 | [],[],_=>rfl
 | [],_::_,h=>by simp [aD] at h
 | _::_,[],h=>by simp [aD] at h
 | c::a,x::xs,h=>by
  simp only [aD,aq] at h;simp [sB h.2]
theorem aac {lf:TypeId->Option Lay} {xs ys:List KV} {b:Bool} (he:wo xs ys=some b):∀ {fs:List Field} {off:Nat} {ks:List CK},OT lf fs off=some ks->aD ks (xs.drop off)=true->aD ks (ys.drop off)=true->off+ks.length=xs.length->
  (∀ f∈fs,∃ L,lf f.type=some L/\f.offset+L.ks.length<=xs.length/\aD L.ks ((xs.drop f.offset).take L.ks.length)=true/\aD L.ks ((ys.drop f.offset).take L.ks.length)=true)/\
  wo (xs.drop off) (ys.drop off)=some (fs.all fun f=>Ef xs ys f.offset (((lf f.type).map (·.ks.length)).getD 0))
 | [],off,ks,h,_,_,hl=>by
  simp [OT] at h;subst h;have h1:xs.drop off = []:=by simp at hl; simp; omega
  have h2:ys.drop off = []:=by have:=T4 he; simp at hl; simp; omega
  refine ⟨by simp,?_⟩;rw [h1,h2]; rfl
 | f::fs,off,ks,h,hk,mF,hl=>by
  simp only [OT] at h;obtain ⟨NQ,h⟩:=MU h;have NQ:=aK NQ;obtain ⟨L,h1,h⟩:=cC.1 h;obtain ⟨r,h2,rfl⟩:=ck.1 h;obtain ⟨k1,k2⟩:=xl hk;obtain ⟨k1',k2'⟩:=xl mF;rw [List.drop_drop] at k2 k2';simp only [kv] at hl;obtain ⟨h3,h4⟩:=aac he h2 k2 k2' (by omega);refine ⟨fun g hg=>?_,?_⟩
  ·rcases de.1 hg with rfl | hg
   ·exact ⟨L,h1,by omega,by rw [NQ]; exact k1,by rw [NQ]; exact k1'⟩
   ·exact h3 g hg
  ·obtain ⟨_,_,_,h5,_⟩:=Cl off he
   obtain ⟨c1,c2,h6,h7,h8⟩:=Cl L.ks.length h5;rw [List.drop_drop,List.drop_drop] at h7;rw [h4] at h7;simp at h7;have h9:=acS he off L.ks.length;rw [h6] at h9;simp at h9;rw [h5,h8];simp only [List.all_cons,h1,Option.map_some,eU,NQ,<- h9];rw [<- h7]
theorem Bh {α:Type} (l:List α):∀ n,(dj l n).length=n * l.length
 | 0=>by simp [dj]
 | n+1=>by rw [dj,kv,Bh l n,Nat.succ_mul]; omega
theorem aad {xs ys:List KV} {l:List CK} : ∀ {len off:Nat} {b:Bool},wo (xs.drop off) (ys.drop off)=some b->aD (dj l len) (xs.drop off)=true->aD (dj l len) (ys.drop off)=true->
  (∀ i,i < len->aD l ((xs.drop (off+i * l.length)).take l.length)=true/\aD l ((ys.drop (off+i * l.length)).take l.length)=true)/\
  wo (xs.drop off) (ys.drop off)=some ((List.range' 0 len).all fun i=>Ef xs ys (off+i * l.length) l.length)
 | 0,off,b,h,hk,mF=>by
  have h1:xs.drop off = []:=by have:=sB hk; simp only [dj,List.length_nil] at this; exact qL.1 this
  have h2:ys.drop off = []:=by have:=sB mF; simp only [dj,List.length_nil] at this; exact qL.1 this
  refine ⟨fun i hi=>by omega,?_⟩;rw [h1,h2]; rfl
 | len+1,off,b,h,hk,mF=>by
  obtain ⟨c1,c2,h1,h2,h3⟩:=Cl l.length h;rw [List.drop_drop,List.drop_drop] at h2;obtain ⟨k1,k2⟩:=xl (a:=l) (b:=dj l len) hk;obtain ⟨k1',k2'⟩:=xl (a:=l) (b:=dj l len) mF;rw [List.drop_drop] at k2 k2';obtain ⟨h5,h4⟩:=aad (len:=len) (off:=off+l.length) h2 k2 k2';refine ⟨fun i hi=>?_,?_⟩
  ·cases i with
   | zero=>simpa using ⟨k1,k1'⟩
   | succ i=>
    have:=h5 i (by omega);rwa [show off+l.length+i * l.length=off+(i+1) * l.length by rw [Nat.succ_mul]; omega] at this
  rw [h2] at h4;simp at h4;have hw:Ef xs ys off l.length=c1:=by unfold Ef; rw [h1]; rfl
  rw [h,h3];rw [List.range'_succ];simp only [List.all_cons,Nat.zero_mul,ym,hw,ba];congr 2;rw [h4];have:List.range' 1 len=(List.range' 0 len).map (1 + ·):=by rw [List.map_add_range']
  rw [this,List.all_map];apply congrArg (fun f=>List.all (List.range' 0 len) f);funext i;simp only [Function.comp];congr 1;rw [Nat.add_mul]; omega
theorem O5:∀ (n d:Nat) (t:TypeId) (L:Lay) (cx cy:List KV) (xs ys:List Value) (b:Bool),GG P n t=true->lay P n t=some L->n<=d->aV P E cx xs->aV P E cy ys->aD L.ks cx=true->aD L.ks cy=true->
  wo cx cy=some b->cP P (Op.equalIn d t (CX L.agg xs) (CX L.agg ys))=some b
 | 0,_,_,_,_,_,_,_,_,h,_,_,_,_,_,_,_=>by simp [GG] at h
 | n+1,0,_,_,_,_,_,_,_,_,_,h,_,_,_,_,_=>by omega
 | n+1,d+1,t,L,cx,cy,xs,ys,b,h,hL,hd,hx,hy,hkx,hky,he=>by
  have hl:=sB hkx;have hly:=sB hky;have hlx' : xs.length=L.ks.length:=by rw [hx.length,hl]
  have hly' : ys.length=L.ks.length:=by rw [hy.length,hly]
  have ajb:∀ s,GG P n s=true->∃ i l,P.info? s=some i/\lay P n s=some l/\i.size=l.ks.length:=by
   intro s hs;cases n with
   | zero=>simp [GG] at hs
   | succ n=>
    simp only [GG,aq] at hs;have h1:=hs.1;split at h1
    ·rename_i i l e1 e2
     exact ⟨i,l,e1,e2,aK h1⟩
    ·simp at h1
  have an0:∀ (s:TypeId) (l:Lay) (i:TypeInfo) (off:Nat),GG P n s=true->lay P n s=some l->P.info? s=some i->i.size=l.ks.length->off+l.ks.length<=cx.length->
    aD l.ks ((cx.drop off).take l.ks.length)=true->aD l.ks ((cy.drop off).take l.ks.length)=true->
    (do
     let u <- part s ⟨xs⟩ off
     let v <- part s ⟨ys⟩ off
     Op.equalIn d s u v:Sem Bool)=(do
     let u <- part s ⟨xs⟩ off
     let v <- part s ⟨ys⟩ off
     Op.equalIn d s u v)/\cP P (part s ⟨xs⟩ off)=some (CX l.agg ((xs.drop off).take l.ks.length))/\cP P (part s ⟨ys⟩ off)=some (CX l.agg ((ys.drop off).take l.ks.length))/\
    cP P (Op.equalIn d s (CX l.agg ((xs.drop off).take l.ks.length)) (CX l.agg ((ys.drop off).take l.ks.length)))=some (Ef cx cy off l.ks.length):=by
   intro s l i off h1 h2 h3 h4 h5 h6 h7;refine ⟨rfl,?_,?_,?_⟩
   ·exact Rr h2 h3 h4 (by simp; omega)
   ·exact Rr h2 h3 h4 (by simp; omega)
   ·exact O5 n d s l _ _ _ _ _ h1 h2 (by omega) ((hx.drop off).take _) ((hy.drop off).take _) h6 h7 (acS he off _)
  simp only [GG,aq] at h;have h2:=h.2;obtain ⟨dd,hu,ha,h1⟩:=aab hL;rw [hu] at h2;unfold Op.equalIn;rw [eo (Ac hu)];simp only [lay,hu] at hL;have T5:∀ c,L.ks = [c]->∃ x y u v,cx = [x]/\cy = [y]/\xs = [u]/\ys = [v]/\VK P E x u/\VK P E y v/\eqK x y=some b/\kindOk c x=true/\kindOk c y=true:=by
   intro c hc;rw [hc] at hl hly hkx hky
   match cx,cy,hl,hly with
   | [x],[y],_,_=>
    obtain ⟨u,rfl,h2⟩:=hx.ef;obtain ⟨v,rfl,h3⟩:=hy.ef;refine ⟨x,y,u,v,rfl,rfl,rfl,rfl,h2,h3,?_,by simpa [aD] using hkx,by simpa [aD] using hky⟩;simp only [wo] at he;split at he
    ·rename_i a c h4 h5
     simp at h5;subst h5;simpa [h4] using he
    ·simp at he
  cases dd with
  | int k=>
   simp at hL;subst hL;obtain ⟨x,y,u,v,rfl,rfl,rfl,rfl,h3,h4,h5,h6,h7⟩:=T5 _ rfl;cases x <;> simp [kindOk] at h6;cases y <;> simp [kindOk] at h7;subst h6 h7;have:=h3.cj; subst this;have:=h4.cj; subst this;simp [eqK] at h5;subst h5;simp [CX,cr]
  | bool=>
   simp at hL;subst hL;obtain ⟨x,y,u,v,rfl,rfl,rfl,rfl,h3,h4,h5,h6,h7⟩:=T5 _ rfl;cases x <;> simp [kindOk] at h6;cases y <;> simp [kindOk] at h7;have:=h3.eK; subst this;have:=h4.eK; subst this;simp [eqK] at h5;subst h5;simp [CX,cr]
  | string=>
   simp at hL;subst hL;obtain ⟨x,y,u,v,rfl,rfl,rfl,rfl,h3,h4,h5,h6,h7⟩:=T5 _ rfl;cases x <;> simp [kindOk] at h6;cases y <;> simp [kindOk] at h7;have:=h3.vw; subst this;have:=h4.vw; subst this;simp [eqK] at h5;subst h5;simp [CX,cr]
  | struct fs=>
   simp only [ck] at hL;obtain ⟨ks,qE,rfl⟩:=hL;simp only [aq,lU] at h2;obtain ⟨h3,h4⟩:=aac he qE (by simpa using hkx) (by simpa using hky) (by simpa using hl.symm);simp only [List.drop_zero] at h4;rw [he] at h4;simp only [bM] at h4;simp only [CX,aj];rw [eo (a:=P) (by simp [program,cP])];simp only [h2.1,G0,if_false];rw [<- Array.forIn_toList];rw [eo (Ib (g:=fun f=>Ef cx cy f.offset (((lay P n f.type).map (·.ks.length)).getD 0)) (stop:=(some false,())) fun f hf=>?_)]
   ·rw [h4]
    cases (fs.toList.all fun f=>Ef cx cy f.offset (((lay P n f.type).map (·.ks.length)).getD 0)) <;> rfl
   ·have h5:=fg.1 h2.2 f hf
    simp only [aq,lU,beq_eq_false_iff_ne] at h5;rw [aE h5.1];obtain ⟨l,h6,h7,h8,h9⟩:=h3 f hf;obtain ⟨i,l',e1,e2,e3⟩:=ajb _ h5.2;rw [h6] at e2;simp at e2;subst e2;obtain ⟨_,w1,w2,w3⟩:=an0 _ l i f.offset h5.2 h6 e1 e3 h7 h8 h9;rw [eo w1,eo w2,eo w3];simp only [h6,Option.map_some,eU];cases Ef cx cy f.offset l.ks.length <;> rfl
  | array len e=>
   simp only [ck] at hL;obtain ⟨l,Lw,rfl⟩:=hL;obtain ⟨h3,h4⟩:=aad (xs:=cx) (ys:=cy) (l:=l.ks) (len:=len) (off:=0) (by simpa using he) (by simpa using hkx) (by simpa using hky);simp only [List.drop_zero,ba] at h3 h4;rw [he] at h4;simp only [bM] at h4;obtain ⟨i,l',e1,e2,e3⟩:=ajb _ h2;rw [Lw] at e2;simp at e2;subst e2;simp only [CX,aj];rw [eo (NS e1)];rw [Std.Legacy.Range.forIn_eq_forIn_range'];rw [show List.range' [:len].start [:len].size [:len].step=List.range' 0 len from by simp [Std.Legacy.Range.size]];rw [eo (Ib (g:=fun i=>Ef cx cy (i * l.ks.length) l.ks.length) (stop:=(some false,())) fun j hj=>?_)]
   ·rw [h4]
    cases ((List.range' 0 len).all fun i=>Ef cx cy (i * l.ks.length) l.ks.length) <;> rfl
   ·have z7:j < len:=by simpa using hj
    obtain ⟨k1,k2⟩:=h3 j z7;have hle:j * l.ks.length+l.ks.length<=cx.length:=by
     rw [hl];simp only [Bh];rw [<- Nat.succ_mul];exact Nat.mul_le_mul_right _ z7
    obtain ⟨_,w1,w2,w3⟩:=an0 _ l i (j * l.ks.length) h2 Lw e1 e3 hle k1 k2;rw [e3];rw [eo w1,eo w2,eo w3];cases Ef cx cy (j * l.ks.length) l.ks.length <;> rfl
  | _=>simp at h2
theorem O6:∀ {ks:List CK} {cs:List KV} {l:List Value},aD ks cs=true->aV P E cs l->(∀ t,CK.slice t ∉ ks)->yA l=true
 | [],[],l,_,h,_=>by rw [h.b5]; rfl
 | [],_::_,_,h,_,_=>by simp [aD] at h
 | _::_,[],_,h,_,_=>by simp [aD] at h
 | c::ks,v::cs,l,h,hv,hn=>by
  obtain ⟨y,ys,rfl,h1,h2⟩:=hv.cons_inv;simp only [aD,aq] at h;have:=O6 h.2 h2 (fun t ht=>hn t (by simp [ht]));simp only [yA,this,EP];cases c with
  | int k=>cases v <;> simp [kindOk] at h; have:=h1.cj; subst this; rfl
  | bool=>cases v <;> simp [kindOk] at h; have:=h1.eK; subst this; rfl
  | str=>cases v <;> simp [kindOk] at h; have:=h1.vw; subst this; rfl
  | slice t=>exact absurd (by simp) (hn t)
  | other=>cases v <;> simp [kindOk] at h
theorem O7:∀ (n:Nat) (t:TypeId) (L:Lay),GG P n t=true->lay P n t=some L->∀ u,CK.slice u ∉ L.ks
 | 0,_,_,h,_,_=>by simp [GG] at h
 | n+1,t,L,h,hL,u=>by
  simp only [GG,aq] at h;have h2:=h.2;obtain ⟨dd,hu,_,_⟩:=aab hL;rw [hu] at h2;simp only [lay,hu] at hL;cases dd with
  | int k=>simp at hL; subst hL; simp
  | bool=>simp at hL; subst hL; simp
  | string=>simp at hL; subst hL; simp
  | struct fs=>
   simp only [ck] at hL;obtain ⟨ks,qE,rfl⟩:=hL;simp only [aq,fg] at h2;have key:∀ (l:List Field) (off:Nat) (ks:List CK),OT (lay P n) l off=some ks->(∀ f∈l,GG P n f.type=true)->CK.slice u ∉ ks:=by
    intro l
    induction l with
    | nil=>intro off ks h _; simp [OT] at h; subst h; simp
    | cons f l ih=>
     intro off ks h hf;simp only [OT] at h;obtain ⟨_,h⟩:=MU h;obtain ⟨L',h5,h⟩:=cC.1 h;obtain ⟨r,h6,rfl⟩:=ck.1 h;rw [jF];rintro (h7 | h7)
     ·exact O7 n _ _ (hf f (by simp)) h5 u h7
     ·exact ih _ _ h6 (fun g hg=>hf g (by simp [hg])) h7
   exact key _ _ _ qE fun f hf=>(h2.2 f hf).2
  | array len e=>
   simp only [ck] at hL;obtain ⟨l,Lw,rfl⟩:=hL;have:=O7 n e l h2 Lw u;have key:∀ m,CK.slice u ∉ dj l.ks m:=by
    intro m
    induction m with
    | zero=>simp [dj]
    | succ m ih=>simp only [dj,jF,not_or]; exact ⟨this,ih⟩
   exact key _
  | _=>simp at h2
theorem ahE {t:TypeId} (h:GG P 12 t=true):lay P 12 t=some (aQ P t):=by
 simp only [GG,aq] at h;have h1:=h.1;unfold aQ;split at h1
 ·rename_i i l e1 e2; rw [e2]; rfl
 ·simp at h1
theorem aae {t:TypeId} {x y:KV} {b:Bool} {lit:Bool} {u v:Value} (hx:VK P E x u) (hy:VK P E y v) (h:ai0 P t x y=some b):nR P t lit u v=some b:=by
 unfold ai0 at h;split at h
 ·rename_i xs ys
  obtain ⟨hc,h⟩:=MU h;simp only [aq,lU] at hc;obtain ⟨⟨⟨⟨ha,h1⟩,h2⟩,h3⟩,h4⟩:=hc;obtain ⟨l,rfl,hl⟩:=hx.kJ;obtain ⟨m,rfl,hm⟩:=hy.kJ;have hL:=ahE h1;have hns:=O7 12 t _ h1 hL;have hfx:flat (.agg ⟨l⟩)=true:=O6 h3 hl hns;have hfy:flat (.agg ⟨m⟩)=true:=O6 h4 hm hns;have hs:=O5 12 Op.maxDepth t (aQ P t) xs ys l m b h1 hL (by unfold Op.maxDepth; omega) hl hm h3 h4 h;rw [ha] at hs;have hs:cP P (Op.equal t (.agg ⟨l⟩) (.agg ⟨m⟩))=some b:=hs;unfold nR;simp only [ig,Bf,h2,JF,cK,aj];unfold Zr;split <;> simp_all
 ·rename_i a c
  split at h
  ·rename_i hu
   simp at h;subst h;have:=hx.eK; subst this;have:=hy.eK; subst this;have:cP P (Op.equal t (.bool a) (.bool c))=some (a==c):=by
    unfold Op.equal Op.maxDepth Op.equalIn;rw [eo (Ac hu)];rfl
   unfold nR;simp only [ig,Bf,cK,aj];unfold Zr;split <;> simp_all [flat]
  ·simp at h
 ·split at h
  ·rename_i e hu
   simp at h;subst h;have:=hx.pk; subst this;have:=hy.pk; subst this;simp [nR,ig,Bf,Zr,hu]
  ·simp at h
 ·rename_i T m n es acc
  split at h
  ·rename_i e hu
   cases hn:Nat.beq n 0 with
   | true=>rw [hn] at h; simp at h
   | false=>
    rw [hn] at h;simp at h;subst h;have:=hy.pk; subst this;obtain ⟨_,bh,_,a,cap,rfl,_,hb,_⟩:=hx.kW;rcases hb with ⟨_,h0⟩ | ⟨b,off,r,rfl,_⟩
    ·subst h0; simp at hn
    ·simp [nR,ig,Bf,Zr,hu]
  ·simp at h
 ·rename_i T m n es acc
  split at h
  ·rename_i e hu
   cases hn:Nat.beq n 0 with
   | true=>rw [hn] at h; simp at h
   | false=>
    rw [hn] at h;simp at h;subst h;have:=hx.pk; subst this;obtain ⟨_,bh,_,a,cap,rfl,_,hb,_⟩:=hy.kW;rcases hb with ⟨_,h0⟩ | ⟨b,off,r,rfl,_⟩
    ·subst h0; simp at hn
    ·simp [nR,ig,Bf,Zr,hu]
  ·simp at h
 ·split at h
  ·rename_i e hu
   simp at h;subst h;have:=hx.Qy; subst this;have:=hy.Qy; subst this;simp [nR,ig,Bf,Zr,hu]
  ·simp at h
 ·split at h
  ·rename_i e hu
   simp at h;subst h;have:=hy.Qy; subst this;obtain ⟨x,_,rfl⟩:=hx.hD;simp [nR,ig,Bf,Zr,hu]
  ·simp at h
 ·split at h
  ·rename_i e hu
   simp at h;subst h;have:=hx.Qy; subst this;obtain ⟨x,_,rfl⟩:=hy.hD;simp [nR,ig,Bf,Zr,hu]
  ·simp at h
 ·simp at h
theorem ank {op:BinOp} {t:TypeId} {lit:Bool} : yI P (alB P op t) (tP P op t lit):=by
 intro E vs us w h hg;unfold alB at hg;split at hg
 ·rename_i j a k b
  obtain ⟨x,y,rfl,h1,h2⟩:=h.j7;have:=h1.cj; subst this;have:=h2.cj; subst this;cases hs:afg op with
  | true=>
   rw [hs,aj] at hg;cases op <;> simp [afg] at hs
   ·obtain ⟨hc,rfl⟩:=aH.jJ hg
    simp only [lU,decide_eq_false_iff_not] at hc;exact ⟨_,by simp [tP,binOp,Op.shift,hc,cr],.mkInt⟩
   ·obtain ⟨hc,rfl⟩:=aH.jJ hg
    simp only [lU,decide_eq_false_iff_not] at hc;exact ⟨_,by simp [tP,binOp,Op.shift,hc,cr],.mkInt⟩
  | false=>
   rw [hs,aI] at hg;obtain ⟨QW,hz⟩:=hg.cond;clear hg;simp only [lT] at QW;subst QW;cases op with
   | shl=>simp [afg] at hs
   | shr=>simp [afg] at hs
   | quo=>
    obtain ⟨hc,rfl⟩:=aH.jJ hz;simp only [lU,decide_eq_false_iff_not] at hc;exact ⟨_,by simp [tP,binOp,Op.intDiv,hc,cr],.mkInt⟩
   | rem=>
    obtain ⟨hc,rfl⟩:=aH.jJ hz;simp only [lU,decide_eq_false_iff_not] at hc;exact ⟨_,by simp [tP,binOp,Op.intDiv,hc,cr],.mkInt⟩
   | add=>have hz:KV.int _ _=w:=hz; subst hz; exact ⟨_,by simp [tP,binOp,Op.intArith,cr],.mkInt⟩
   | sub=>have hz:KV.int _ _=w:=hz; subst hz; exact ⟨_,by simp [tP,binOp,Op.intArith,cr],.mkInt⟩
   | mul=>have hz:KV.int _ _=w:=hz; subst hz; exact ⟨_,by simp [tP,binOp,Op.intArith,cr],.mkInt⟩
   | and=>have hz:KV.int _ _=w:=hz; subst hz; exact ⟨_,by simp [tP,binOp,Op.intBits,cr],.mkInt⟩
   | or=>have hz:KV.int _ _=w:=hz; subst hz; exact ⟨_,by simp [tP,binOp,Op.intBits,cr],.mkInt⟩
   | xor=>have hz:KV.int _ _=w:=hz; subst hz; exact ⟨_,by simp [tP,binOp,Op.intBits,cr],.mkInt⟩
   | andNot=>have hz:KV.int _ _=w:=hz; subst hz; exact ⟨_,by simp [tP,binOp,Op.intBits,cr],.mkInt⟩
   | eql=>have hz:KV.bool _=w:=hz; subst hz; exact ⟨_,by simp [tP,binOp,Op.intCmp,cr],.tU⟩
   | neq=>have hz:KV.bool _=w:=hz; subst hz; exact ⟨_,by simp [tP,binOp,Op.intCmp,cr],.tU⟩
   | lss=>have hz:KV.bool _=w:=hz; subst hz; exact ⟨_,by simp [tP,binOp,Op.intCmp,cr],.tU⟩
   | leq=>have hz:KV.bool _=w:=hz; subst hz; exact ⟨_,by simp [tP,binOp,Op.intCmp,cr],.tU⟩
   | gtr=>have hz:KV.bool _=w:=hz; subst hz; exact ⟨_,by simp [tP,binOp,Op.intCmp,cr],.tU⟩
   | geq=>have hz:KV.bool _=w:=hz; subst hz; exact ⟨_,by simp [tP,binOp,Op.intCmp,cr],.tU⟩
 ·rename_i a b
  obtain ⟨x,y,rfl,h1,h2⟩:=h.j7;have:=h1.vw; subst this;have:=h2.vw; subst this;split at hg
  ·have hg:KV.bool _=w:=hg; subst hg; exact ⟨_,by simp [tP,binOp,Op.stringOp,cr],.tU⟩
  ·have hg:KV.bool _=w:=hg; subst hg; exact ⟨_,by simp [tP,binOp,Op.stringOp,cr],.tU⟩
  ·have hg:KV.bool _=w:=hg; subst hg; exact ⟨_,by simp [tP,binOp,Op.stringOp,cr],.tU⟩
  ·obtain ⟨hc,rfl⟩:=aH.jJ hg
   have hc:=dX hc;have hn : ¬ (((a.size+b.size:Nat):Int) > IntKind.i64.max):=by
    have:IntKind.i64.max=9223372036854775807:=by decide
    rw [this]; omega
   refine ⟨.string (a++b),?_,.mkStr⟩;simp only [tP,binOp,Op.stringOp];rw [aa hn];rfl
  ·exact hg.elim
 ·rename_i T m n es acc
  obtain ⟨u,v,rfl,h1,h2⟩:=h.j7;have key:ai1 P t=true->Nat.blt 0 n=true->nR P t lit u v=some false:=by
   intro hs hn;refine aae h1 h2 ?_;unfold ai0;unfold ai1 at hs;have hb:Nat.beq n 0=false:=by
    cases n with
    | zero=>simp at hn
    | succ n=>rfl
   split at hs
   ·simp only [hb,aI]
   ·simp at hs
  split at hg
  ·obtain ⟨hs,hg⟩:=hg.cond
   obtain ⟨hc,rfl⟩:=aH.jJ hg;refine ⟨.bool false,?_,.tU⟩;have:=key hs hc;unfold tP;split
   ·rename_i e; simp at e; obtain ⟨rfl,rfl⟩:=e; simp [nR,ig] at this
   ·rename_i e; simp at e; obtain ⟨rfl,rfl⟩:=e; simp [nR,ig] at this
   ·rename_i e; simp at e; obtain ⟨rfl,rfl⟩:=e; simp [this]
   ·rename_i e; exact absurd rfl (e _ _)
  ·obtain ⟨hs,hg⟩:=hg.cond
   obtain ⟨hc,rfl⟩:=aH.jJ hg;refine ⟨.bool true,?_,.tU⟩;have:=key hs hc;unfold tP;split
   ·rename_i e; simp at e; obtain ⟨rfl,rfl⟩:=e; simp [nR,ig] at this
   ·rename_i e; simp at e; obtain ⟨rfl,rfl⟩:=e; simp [nR,ig] at this
   ·rename_i e; simp at e; obtain ⟨rfl,rfl⟩:=e; simp [this]
   ·rename_i e; exact absurd rfl (e _ _)
  ·exact hg.elim
 ·rename_i x y ZK hn2
  obtain ⟨u,v,rfl,h1,h2⟩:=h.j7;split at hg
  ·rename_i b he
   have hg:KV.bool b=w:=hg;subst hg;have:=aae (lit:=lit) h1 h2 he;refine ⟨.bool b,?_,.tU⟩;unfold tP;split
   ·rename_i e; simp at e; obtain ⟨rfl,rfl⟩:=e; simp [nR,ig] at this
   ·rename_i e; simp at e; obtain ⟨rfl,rfl⟩:=e; simp [nR,ig] at this
   ·rename_i e; simp at e; obtain ⟨rfl,rfl⟩:=e; simp [this]
   ·rename_i e; exact absurd rfl (e _ _)
  ·rename_i b he
   have hg:KV.bool (!b)=w:=hg;subst hg;have:=aae (lit:=lit) h1 h2 he;refine ⟨.bool !b,?_,.tU⟩;unfold tP;split
   ·rename_i e; simp at e; obtain ⟨rfl,rfl⟩:=e; simp [nR,ig] at this
   ·rename_i e; simp at e; obtain ⟨rfl,rfl⟩:=e; simp [nR,ig] at this
   ·rename_i e; simp at e; obtain ⟨rfl,rfl⟩:=e; simp [this]
   ·rename_i e; exact absurd rfl (e _ _)
  ·exact hg.elim
 ·exact hg.elim
theorem aoK {op:UnOp} : yI P (kUn op) (fUn P op):=by
 intro E vs us w h hg;unfold kUn at hg;split at hg
 ·rename_i b
  obtain ⟨y,rfl,h1⟩:=h.ef;have:=h1.eK; subst this;split at hg
  ·have hg:KV.bool (!b)=w:=hg
   subst hg;exact ⟨_,by simp [fUn,Op.unary,cr],.tU⟩
  ·exact hg.elim
 ·rename_i k n
  obtain ⟨y,rfl,h1⟩:=h.ef;have:=h1.cj; subst this;split at hg
  ·have hg:KV.int _ _=w:=hg
   subst hg;exact ⟨.int k (k.wrap (0 - n)),by simp [fUn,Op.unary,Op.intArith,cr],.mkInt⟩
  ·have hg:KV.int _ _=w:=hg
   subst hg;exact ⟨_,by simp [fUn,Op.unary,Op.intBits,cr],.mkInt⟩
  ·exact hg.elim
 ·exact hg.elim
theorem aaf {mx:Bool} : yI P (LF mx) (MA P fun vs=>cond mx (Builtin.max_ #[] 0 ⟨vs⟩) (Builtin.min_ #[] 0 ⟨vs⟩)):=by
 intro E vs us w h hg;unfold LF at hg;split at hg
 ·rename_i j a k b
  obtain ⟨x,y,rfl,h1,h2⟩:=h.j7;have:=h1.cj; subst this;have:=h2.cj; subst this;obtain ⟨QW,hz⟩:=hg.cond;clear hg;simp only [lT] at QW;subst QW;have hz:KV.int _ _=w:=hz;subst hz;refine ⟨_,?_,.mkInt⟩;cases mx
  ·simp [MA,yA,flat,Builtin.min_,Builtin.min2,cr]
   omega
  ·simp [MA,yA,flat,Builtin.max_,Builtin.max2,cr]
   omega
 ·rename_i j a k b l c
  obtain ⟨x,y,z,rfl,h1,h2,h3⟩:=h.Sr;have:=h1.cj; subst this;have:=h2.cj; subst this;have:=h3.cj; subst this;obtain ⟨QW,hz⟩:=hg.cond;clear hg;simp only [aq,lT] at QW;obtain ⟨rfl,rfl⟩:=QW;have hz:KV.int _ _=w:=hz;subst hz;refine ⟨_,?_,.mkInt⟩;cases mx
  ·show some (Value.int j (if c < (if b < a then b else a) then c else (if b < a then b else a)))=some (Value.int j (min (min a b) c))
   congr 2;split <;> split at * <;> omega
  ·show some (Value.int j (if c > (if b > a then b else a) then c else (if b > a then b else a)))=some (Value.int j (max (max a b) c))
   congr 2;split <;> split at * <;> omega
 ·exact hg.elim
end Go.K
end
section
namespace Go.K
open Go Go.aG
variable {P:Program} {E:Env}
theorem AR.of {E' : Env} {A A' : ae} {x:Nat} (tV:∀ b,E'.α b=E.α b) (ha:∀ b v,A'.get b=some (.arr v)->A.get b=some (.arr v)) (h:AR A' E' x):AR A E x:=by
 obtain ⟨b,v,L,N,h1,h2⟩:=h;exact ⟨b,v,L,N,ha _ _ h1,by rw [<- tV]; exact h2⟩
theorem AF.of {E' : Env} {A A' : ae} {B B' : St} {g:Nat} (tV:∀ b,E'.α b=E.α b) (ha:∀ b v,A'.get b=some (.arr v)->A.get b=some (.arr v)) (hB:∀ x,AR A E x->B'.get x=B.get x) (h:AF A' E' B' g):AF A E B g:=by
 obtain ⟨b,v,x,L,N,cs,e,own,k,h1,h2,h3⟩:=h;have Kv:E.α b=some (x,L,N):=by rw [<- tV]; exact h2
 exact ⟨b,v,x,L,N,cs,e,own,k,ha _ _ h1,Kv,by rw [<- hB x ⟨b,v,L,N,ha _ _ h1,Kv⟩]; exact h3⟩
theorem AT.of {E' : Env} {A A' : ae} {B B' : St} {y:Nat} (tV:∀ b,E'.α b=E.α b) (ha:∀ b v,A'.get b=some (.arr v)->A.get b=some (.arr v)) (hB:∀ x,AR A E x->B'.get x=B.get x) (hm:∀ g,AF A E B g->B'.members g=B.members g) (h:AT A' E' B' y):AT A E B y:=by
 rcases h with h | ⟨g,h1,h2⟩
 ·exact .inl (h.of tV ha)
 ·have:=h1.of tV ha hB
  exact .inr ⟨g,this,by rw [<- hm g this]; exact h2⟩
theorem mm {B B' : St} (h:∀ x,x < B.next->B'.get x=B.get x):∀ y,y < B.next->∀ cs e own bK,B'.get y=some (.row cs e own bK)->∃ lY,B.get y=some (.row lY e own bK)/\lY.length=cs.length:=
 fun y hy cs _ _ _ q=>⟨cs,by rw [<- h y hy]; exact q,rfl⟩
theorem aag {B:St} {o:ct} : ∀ x,x < B.next->(B.new o).get x=B.get x:=fun x hx=>by rw [St.cq,aa (by omega)]
theorem MT.dP {E' : Env} {A A' : ae} {B B' : St} (h:MT P E A B) (hle:E.le E') (tV:∀ b,E'.α b=E.α b) (ha:∀ b v,A'.get b=some (.arr v)->A.get b=some (.arr v)) (hf:∀ b v,A'.get b=some (.iA v)->A.get b=some (.iA v))
  (hn:A.next<=A'.next) (KF:B.next<=B'.next) (hB:∀ x,AR A E x->B'.get x=B.get x) (hz:∀ b r,E'.z b=some r->E.z b=some r\/B.next<=b) (JA:∀ b x,E'.κ b=some x->E.κ b=some x\/(A.next<=b/\B.next<=x))
  (JB:∀ b g,E'.φ b=some g->(∃ c,E.φ c=some g)\/B.next<=g) (hm:∀ g,AF A E B g->B'.members g=B.members g) (mem:∀ g x,x∈B.members g->x < B.next):MT P E' A' B' where
 arr b v hb:=(h.arr b v (ha _ _ hb)).mono hle (tV b) fun x L N e=>hB x ⟨b,v,L,N,ha _ _ hb,e⟩
 iA b v hb:=(h.iA b v (hf _ _ hb)).mono hle (tV b)
 z x hx:=by
  have hx':=AR.of tV ha hx;obtain ⟨b,v,L,N,h1,h2⟩:=hx';have bj:=h.eV _ _ _ _ h2;obtain ⟨h3,h4⟩:=h.z x (AR.of tV ha hx);refine ⟨?_,fun c e=>?_⟩
  ·cases hz' : E'.z x with
   | none=>rfl
   | some r=>
    rcases hz x r hz' with e | e
    ·rw [h3] at e; simp at e
    ·omega
  ·rcases JA c x e with e | ⟨_,e⟩
   ·exact h4 c e
   ·omega
 inj b c v u x L N L' N' h1 h2 h3 h4:=h.inj b c v u x L N L' N' (ha _ _ h1) (ha _ _ h2) (by rw [<- tV]; exact h3) (by rw [<- tV]; exact h4)
 xh b c v u x y L N L' N' cs e own g k bL e' rm k' h1 h2 h3 h4 h5 h6:=by
  rw [tV] at h3 h4;rw [hB x ⟨b,v,L,N,ha _ _ h1,h3⟩] at h5;rw [hB y ⟨c,u,L',N',ha _ _ h2,h4⟩] at h6;exact h.xh b c v u x y L N L' N' cs e own g k bL e' rm k' (ha _ _ h1) (ha _ _ h2) h3 h4 h5 h6
 Z6 b x e:=by
  rw [tV];rcases JA b x e with e | ⟨e,_⟩
  ·exact h.Z6 b x e
  ·cases hb:E.α b with
   | none=>rfl
   | some p=>have:=h.jI b p hb; omega
 nk b v hb:=by
  obtain ⟨h1,h2⟩:=h.nk b v (ha _ _ hb);refine ⟨fa h1 hn,?_⟩;cases e:E'.κ b with
  | none=>rfl
  | some x=>
   rcases JA b x e with e | ⟨e,_⟩
   ·rw [h2] at e; simp at e
   ·omega
 jI b p e:=by rw [tV] at e; have:=h.jI b p e; omega
 eV b x L N e:=by rw [tV] at e; have:=h.eV b x L N e; omega
 vy b v x L N cs e own g k h1 h2 h3:=by
  rw [tV] at h2;have hA:=ha _ _ h1;rw [hB x ⟨b,v,L,N,hA,h2⟩] at h3;obtain ⟨h4,h5,h6⟩:=h.vy b v x L N cs e own g k hA h2 h3;refine ⟨by omega,fun f e=>?_,fun y hy cH=>?_⟩
  ·rcases JB f g e with ⟨c,e⟩ | e
   ·exact h5 c e
   ·omega
  ·rw [hm g ⟨b,v,x,L,N,cs,_,own,k,hA,h2,h3⟩] at hy
   have bj:=mem g y hy;obtain ⟨h7,h8,h9⟩:=h6 y hy cH;refine ⟨?_,fun q=>h8 (AR.of tV ha q),fun c e=>?_⟩
   ·cases hz' : E'.z y with
    | none=>rfl
    | some r=>
     rcases hz y r hz' with e | e
     ·rw [h7] at e; simp at e
     ·omega
   ·rcases JA c y e with e | ⟨_,e⟩
    ·exact h9 c e
    ·omega
theorem dr.Ic {A:ae} {B:St} (h:dr P E A B) {x:Nat} (q:AR A E x):x < B.next:=by
 obtain ⟨b,v,L,N,_,h2⟩:=q;exact h.ar.eV _ _ _ _ h2
structure cO (P:Program) (E:Env) (A:ae) (B:St) (E' : Env) (A' : ae) (B' : St):Prop where
 fT:dr P E' A' B'
 le:E.le E'
 next:A.next<=A'.next
 dP:∀ x,x < B.next->(∀ b,E.κ b=some x->A.get b=some wu)->¬ AT A E B x->B'.get x=B.get x
 new:∀ b x,E'.κ b=some x->E.κ b=some x\/A.next<=b/\B.next<=x
 tW:∀ b r,E'.z b=some r->E.z b=some r\/AR A E b\/B.next<=b
 se:∀ b g,E'.φ b=some g->E.φ b=some g\/B.next<=g
 oU:∀ g,g < B.next->(∀ b,E.φ b≠some g)->¬ AF A E B g->B'.members g=B.members g
 kq:∀ x,AR A' E' x->AR A E x\/B.next<=x
 kL:∀ g,AF A' E' B' g->AF A E B g\/B.next<=g
 vz:∀ g y,y∈B'.members g->y∈B.members g\/B.next<=y
 lZ:∀ y,AT A' E' B' y->AT A E B y\/B.next<=y
 rows:∀ y,y < B.next->∀ cs e own bK,B'.get y=some (.row cs e own bK)->∃ lY,B.get y=some (.row lY e own bK)/\lY.length=cs.length
 CW:∀ b,A.get b=some wu->A'.get b=some wu
theorem cO.ev {base:Nat} {E' : Env} {A A' : ae} {B B' : St} {ρ aF:Ren} {w w' : World} (h:cO P E A B E' A' B') (g:iU base ρ B w aF B' w'):Ev P base E A B ρ w E' A' B' aF w':=
 ⟨h.fT,g,h.le,h.next,h.dP,h.new,h.tW,fun b g e=>(h.se b g e).imp (fun e=>⟨b,e⟩) id,h.oU,h.kq,h.kL,h.vz,h.lZ,h.rows,h.CW⟩
theorem oV {A:ae} {c:Nat} {o o1:gT} (hc:A.get c=some o) (ho:o≠wu):∀ b,A.get b=some wu->(A.put c o1).get b=some wu:=fun b hb=>by
 rw [ae.bA];split
 ·rename_i e
  rw [e,hc] at hb;simp only [bM] at hb;exact absurd hb ho
 ·exact hb
theorem dr.aah {A:ae} {B:St} {o1:gT} (h:dr P E A B):∀ b,A.get b=some wu->(A.new o1).get b=some wu:=fun b hb=>by
 rw [ae.cq,aa]
 ·exact hb
 ·intro e
  have:=h.live b _ hb;omega
def Ie (P:Program) (o:Oper):r8->Prop
 | .pure f xs=>∀ (E:Env) (ρ:Ren) (ev:Operand->KV) (cE:Operand->Value) (v:KV),(∀ x∈xs,VC P E ρ (ev x) (cE x))->aH (f (xs.map ev)) v->∃ v',VC P E ρ v v'/\∀ w,(execOp cE o).run P w = .ok (.value v') w
 | .read f xs=>∀ (E:Env) (A:ae) (B:St) (ρ:Ren) (base:Nat) (w:World) (ev:Operand->KV) (cE:Operand->Value) (v:KV),KJ P E A B ρ base w->(∀ x∈xs,VC P E ρ (ev x) (cE x))->aH (f A (xs.map ev)) v->
   ∃ v',VC P E ρ v v'/\(execOp cE o).run P w = .ok (.value v') w
 | .look f xs=>∀ (E:Env) (A:ae) (B:St) (ρ:Ren) (base:Nat) (w:World) (ev:Operand->KV) (cE:Operand->Value) (v:KV),KJ P E A B ρ base w->(∀ x∈xs,VC P E ρ (ev x) (cE x))->aH (f (xs.map ev)) v->
   ∃ E' B' aF v' nx w',(execOp cE o).run P w = .ok nx w'/\ahq v' nx/\VC P E' aF v v'/\Ev P base E A B ρ w E' A B' aF w'
 | .act f xs=>∀ (E:Env) (A A' : ae) (B:St) (ρ:Ren) (base:Nat) (w:World) (ev:Operand->KV) (cE:Operand->Value) (v:KV),KJ P E A B ρ base w->(∀ x∈xs,VC P E ρ (ev x) (cE x))->aH (f A (xs.map ev)) (v,A')->
   ∃ E' B' aF v' nx w',(execOp cE o).run P w = .ok nx w'/\ahq v' nx/\VC P E' aF v v'/\Ev P base E A B ρ w E' A' B' aF w'
 | _=>True
theorem mid {ρ:Ren} {ev:Operand->KV} {cE:Operand->Value} {xs:List Operand} (h:∀ x∈xs,VC P E ρ (ev x) (cE x)) :
  ∃ em:Operand->Value,aV P E (xs.map ev) (xs.map em)/\zV ρ em cE xs:=by
 classical
 refine ⟨fun x=>if hx:VC P E ρ (ev x) (cE x) then hx.choose else undef,?_,?_⟩
 ·induction xs with
  | nil=>exact .nil
  | cons x xs ih=>
   refine .cons ?_ (ih fun y hy=>h y (by simp [hy]));have hx:=h x (by simp);simp only [dif_pos hx];exact hx.choose_spec.1
 ·intro x hx
  have hx:=h x hx;simp only [dif_pos hx];exact hx.choose_spec.2
theorem lift_pure {o:Oper} {f:FP} {g:List Value->Option Value} {xs:List Operand} (hc:compile P o.op = .pure g xs) (hs:yI P f g):Ie P o (.pure f xs):=by
 intro E ρ ev cE v hv hg;obtain ⟨em,h1,h2⟩:=mid hv;obtain ⟨u,h3,h4⟩:=hs E _ _ v h1 hg;have cL:=rl P o;rw [hc] at cL;obtain ⟨v',h5,h6⟩:=cL ρ em cE u h2 h3;exact ⟨v',⟨u,h4,h5⟩,h6⟩
def afv (P:Program) (f:FR) (g:St->List Value->Option Value):Prop:=
 ∀ (E:Env) (A:ae) (B:St) (vs:List KV) (us:List Value) (v:KV),dr P E A B->aV P E vs us->aH (f A vs) v->∃ u,g B us=some u/\VK P E v u
theorem MV {o:Oper} {f:FR} {g:St->List Value->Option Value} {xs:List Operand} (hc:compile P o.op = .read g xs) (hs:afv P f g):Ie P o (.read f xs):=by
 intro E A B ρ base w ev cE v hj hv hg;obtain ⟨em,h1,h2⟩:=mid hv;obtain ⟨u,h3,h4⟩:=hs E A B _ _ v hj.k h1 hg;have cL:=rl P o;rw [hc] at cL;obtain ⟨v',h5,h6⟩:=cL ρ B base w em cE u hj.s.rel h2 h3;exact ⟨v',⟨u,h4,h5⟩,h6⟩
def ajc (P:Program) (f:FA) (g:St->List Value->Option (Value×St)):Prop:=
 ∀ (E:Env) (A A' : ae) (B:St) (vs:List KV) (us:List Value) (v:KV),dr P E A B->aV P E vs us->aH (f A vs) (v,A')->∃ u B' E',g B us=some (u,B')/\VK P E' v u/\cO P E A B E' A' B'
theorem Wb {o:Oper} {f:FA} {g:St->List Value->Option (Value×St)} {xs:List Operand} (hc:compile P o.op = .act g xs) (hs:ajc P f g):Ie P o (.act f xs):=by
 intro E A A' B ρ base w ev cE v hj hv hg;obtain ⟨em,h1,h2⟩:=mid hv;obtain ⟨u,B',E',h3,h4,h5⟩:=hs E A A' B _ _ v hj.k h1 hg;have cL:=rl P o;rw [hc] at cL;obtain ⟨aF,v',nx,w',h6,h7,h8,h9⟩:=cL ρ B B' base w em cE u hj.s h2 h3;exact ⟨E',B',aF,v',nx,w',h6,h7,⟨u,h4,h8⟩,h5.ev h9⟩
def an1 (P:Program) (f:FP) (g:St->List Value->Option (Value×St)):Prop:=
 ∀ (E:Env) (A:ae) (B:St) (vs:List KV) (us:List Value) (v:KV),dr P E A B->aV P E vs us->aH (f vs) v->∃ u B' E',g B us=some (u,B')/\VK P E' v u/\cO P E A B E' A B'
theorem ahF {o:Oper} {f:FP} {g:St->List Value->Option (Value×St)} {xs:List Operand} (hc:compile P o.op = .act g xs) (hs:an1 P f g):Ie P o (.look f xs):=by
 intro E A B ρ base w ev cE v hj hv hg;obtain ⟨em,h1,h2⟩:=mid hv;obtain ⟨u,B',E',h3,h4,h5⟩:=hs E A B _ _ v hj.k h1 hg;have cL:=rl P o;rw [hc] at cL;obtain ⟨aF,v',nx,w',h6,h7,h8,h9⟩:=cL ρ B B' base w em cE u hj.s h2 h3;exact ⟨E',B',aF,v',nx,w',h6,h7,⟨u,h4,h8⟩,h5.ev h9⟩
theorem Wc {o:Oper} {g:List Value->Option (ct×(Nat->Value))} {xs:List Operand} (hc:compile P o.op = .make g xs) {ρ:Ren} {B:St} {base:Nat} {w:World} {em cE:Operand->Value} {obj:ct} {mk:Nat->Value} (hs:vm ρ B base w)
  (h2:zV ρ em cE xs) (h3:g (xs.map em)=some (obj,mk)):∃ aF v' w',(execOp cE o).run P w = .ok (.value v') w'/\VR aF (mk B.next) v'/\iU base ρ B w aF (B.new obj) w':=by
 have cL:=rl P o;rw [hc] at cL;obtain ⟨c,mk',h4,h5,h6⟩:=cL ρ em cE obj mk h2 h3;exact ⟨_,_,_,h5 w,h6 _ _ _ (Ren.fG _ _ _),h4.eH hs⟩
def aai (P:Program) (f:FA) (g:List Value->Option (ct×(Nat->Value))):Prop:=
 ∀ (E:Env) (A A' : ae) (B:St) (vs:List KV) (us:List Value) (v:KV),dr P E A B->aV P E vs us->aH (f A vs) (v,A')->∃ obj mk E',g us=some (obj,mk)/\VK P E' v (mk B.next)/\cO P E A B E' A' (B.new obj)
theorem Eg {o:Oper} {f:FA} {g:List Value->Option (ct×(Nat->Value))} {xs:List Operand} (hc:compile P o.op = .make g xs) (hs:aai P f g):Ie P o (.act f xs):=by
 intro E A A' B ρ base w ev cE v hj hv hg;obtain ⟨em,h1,h2⟩:=mid hv;obtain ⟨obj,mk,E',h3,h4,h5⟩:=hs E A A' B _ _ v hj.k h1 hg;obtain ⟨aF,v',w',h6,h7,h8⟩:=Wc hc hj.s h2 h3;exact ⟨E',B.new obj,aF,v',_,w',h6,rfl,⟨_,h4,h7⟩,h5.ev h8⟩
def alG (P:Program) (f:FP) (g:List Value->Option (ct×(Nat->Value))):Prop:=
 ∀ (E:Env) (A:ae) (B:St) (vs:List KV) (us:List Value) (v:KV),dr P E A B->aV P E vs us->aH (f vs) v->∃ obj mk E',g us=some (obj,mk)/\VK P E' v (mk B.next)/\cO P E A B E' A (B.new obj)
theorem acT {o:Oper} {f:FP} {g:List Value->Option (ct×(Nat->Value))} {xs:List Operand} (hc:compile P o.op = .make g xs) (hs:alG P f g):Ie P o (.look f xs):=by
 intro E A B ρ base w ev cE v hj hv hg;obtain ⟨em,h1,h2⟩:=mid hv;obtain ⟨obj,mk,E',h3,h4,h5⟩:=hs E A B _ _ v hj.k h1 hg;obtain ⟨aF,v',w',h6,h7,h8⟩:=Wc hc hj.s h2 h3;exact ⟨E',B.new obj,aF,v',_,w',h6,rfl,⟨_,h4,h7⟩,h5.ev h8⟩
def Env.lI (E:Env) (b x:Nat):Env:={ E with κ:=fun c=>if c=b then some x else E.κ c }
def Env.eL (E:Env) (b:Nat) (r:afn):Env:={ E with z:=fun c=>if c=b then some r else E.z c }
def Env.vA (E:Env) (b g:Nat):Env:={ E with φ:=fun c=>if c=b then some g else E.φ c }
theorem cO.newRow {A:ae} {B:St} {cs:List KV} {bL:List Value} {bp:Nat} (h:dr P E A B) (hv:aV P E cs bL):cO P E A B (E.lI A.next B.next) (A.new (.row cs bp)) (B.new (.row bL bp true none)):=by
 have hle:E.le (E.lI A.next B.next):=⟨fun _ _ e=>e,fun b x e=>by
  have:=h.jI b x e;simp only [Env.lI]; rw [aa (by omega)]; exact e,fun _ _ e=>e,fun _ _ e=>e⟩
 have hA:∀ (b:Nat) (v:KV),(A.new (.row cs bp)).get b=some (.arr v)->A.get b=some (.arr v):=fun b v hb=>by
  rw [ae.cq] at hb;split at hb
  ·simp at hb
  ·exact hb
 have Wd:∀ (b:Nat) (v:KV),(A.new (.row cs bp)).get b=some (.iA v)->A.get b=some (.iA v):=fun b v hb=>by
  rw [ae.cq] at hb;split at hb
  ·simp at hb
  ·exact hb
 have BP:∀ x,AR A E x->(B.new (.row bL bp true none)).get x=B.get x:=fun x q=>by have:=h.Ic q; rw [St.cq,aa (by omega)]
 refine ⟨⟨?_,?_,?_,?_,?_,?_,?_,?_,?_,?_,?_,?_,?_,?_,h.ar.dP hle (fun _=>rfl) hA Wd (by simp) (by simp) BP (fun _ _ e=>.inl e) (fun b x e=>?_) (fun b g e=>.inl ⟨b,e⟩) (fun _ _=>by simp) h.mem⟩,hle,by simp,?_,?_,fun _ _ e=>.inl e,fun _ _ e=>.inl e,fun _ _ _ _=>by simp,fun _ q=>.inl (q.of (fun _=>rfl) hA),fun _ q=>.inl (q.of (fun _=>rfl) hA BP),fun _ _ q=>.inl (by simpa using q),fun _ q=>.inl (q.of (fun _=>rfl) hA BP fun _ _=>by simp),mm aag,h.aah⟩
 ·intro b lY O8 hb
  rw [ae.cq] at hb;split at hb
  ·rename_i e
   simp at hb;obtain ⟨rfl,rfl⟩:=hb;exact ⟨B.next,bL,by simp [Env.lI,e],by simp,hv.mono hle⟩
  ·obtain ⟨x,c,h1,h2,h3⟩:=h.row b lY O8 hb
   have:=h.eV b x h1;exact ⟨x,c,hle.κ _ _ h1,by rw [St.cq,aa (by omega)]; exact h2,h3.mono hle⟩
 ·intro b top F4 hb
  rw [ae.cq] at hb;split at hb
  ·simp at hb
  ·rcases h.aP b top F4 hb with h1 | ⟨g,h1,hp0,h2⟩
   ·exact .inl h1
   ·refine .inr ⟨g,h1,hp0,fun x hx c e own f k hg=>?_⟩
    rw [St.cq] at hg;split at hg
    ·simp at hg
    ·exact h2 x (by simpa using hx) c e own f k hg
 ·intro b r hb
  have:=h.lB b r hb;rw [St.cq,aa (by omega)];exact h.z b r hb
 ·intro b x hb
  simp only [Env.lI] at hb ⊢;split at hb
  ·simp at hb
   subst hb;cases hz:E.z B.next with
   | none=>rfl
   | some r=>have:=h.lB _ r hz; omega
  ·exact h.apart b x hb
 ·intro b c x hb hc
  simp only [Env.lI] at hb hc;split at hb <;> split at hc
  ·omega
  ·simp at hb; subst hb; have:=h.eV c _ hc; omega
  ·simp at hc; subst hc; have:=h.eV b _ hb; omega
  ·exact h.inj b c x hb hc
 ·exact Hb.new (E:=E.lI A.next B.next) (fun x y g a b c d e f hx hy=>h.gz x y g a b c d e f hx hy) (.inl fun _ _=>by simp)
 ·intro b x hb
  simp only [Env.lI] at hb;rw [ae.bS];split at hb
  ·omega
  ·have:=h.jI b x hb; omega
 ·intro b g hb; have:=h.kK b g hb; rw [ae.bS]; omega
 ·intro b o hb
  rw [ae.cq] at hb;rw [ae.bS];split at hb
  ·omega
  ·have:=h.live b o hb; omega
 ·intro b x hb
  simp only [Env.lI] at hb;rw [St.bS];split at hb
  ·simp at hb; omega
  ·have:=h.eV b x hb; omega
 ·intro b r hb; have:=h.lB b r hb; rw [St.bS]; omega
 ·intro b g hb; have:=h.ik b g hb; rw [St.bS]; omega
 ·intro g hg; rw [St.bS] at hg; rw [St.jh]; exact h.fresh g (by omega)
 ·intro g x hx; rw [St.jh] at hx; rw [St.bS]; have:=h.mem g x hx; omega
 ·simp only [Env.lI] at e
  split at e
  ·simp at e; exact .inr (by omega)
  ·exact .inl e
 ·intro x hx _ _; rw [St.cq,aa (by omega)]
 ·intro b x hb
  simp only [Env.lI] at hb;split at hb
  ·simp at hb; exact .inr (by omega)
  ·exact .inl hb
theorem cO.aaj {A:ae} {B:St} {bL:List Value} {bp:Nat} (h:dr P E A B):cO P E A B (E.eL B.next ⟨bL,bp,true,none⟩) A (B.new (.row bL bp true none)):=by
 have hle:E.le (E.eL B.next ⟨bL,bp,true,none⟩):=⟨fun _ _ e=>e,fun _ _ e=>e,fun b r e=>by
  have:=h.lB b r e;simp only [Env.eL]; rw [aa (by omega)]; exact e,fun _ _ e=>e⟩
 have BP:∀ x,AR A E x->(B.new (.row bL bp true none)).get x=B.get x:=fun x q=>by have:=h.Ic q; rw [St.cq,aa (by omega)]
 have O9:∀ b r,(E.eL B.next ⟨bL,bp,true,none⟩).z b=some r->E.z b=some r\/B.next<=b:=fun b r e=>by
  simp only [Env.eL] at e;split at e
  ·exact .inr (by omega)
  ·exact .inl e
 refine ⟨⟨?_,?_,?_,?_,?_,?_,?_,?_,?_,?_,?_,?_,?_,?_,h.ar.dP hle (fun _=>rfl) (fun _ _ e=>e) (fun _ _ e=>e) (aB _) (by simp) BP O9 (fun _ _ e=>.inl e) (fun b g e=>.inl ⟨b,e⟩) (fun _ _=>by simp) h.mem⟩,hle,aB _,?_,?_,fun b r e=>(O9 b r e).imp id .inr,fun _ _ e=>.inl e,fun _ _ _ _=>by simp,fun _ q=>.inl q,fun _ q=>.inl (q.of (fun _=>rfl) (fun _ _ e=>e) BP),fun _ _ q=>.inl (by simpa using q),fun _ q=>.inl (q.of (fun _=>rfl) (fun _ _ e=>e) BP fun _ _=>by simp),mm aag,fun _ e=>e⟩
 ·intro b lY O8 hb
  obtain ⟨x,c,h1,h2,h3⟩:=h.row b lY O8 hb;have:=h.eV b x h1;exact ⟨x,c,hle.κ _ _ h1,by rw [St.cq,aa (by omega)]; exact h2,h3.mono hle⟩
 ·intro b top F4 hb
  rcases h.aP b top F4 hb with h1 | ⟨g,h1,hp0,h2⟩
  ·exact .inl h1
  ·refine .inr ⟨g,h1,hp0,fun x hx c e own f k hg=>?_⟩
   rw [St.cq] at hg;split at hg
   ·simp at hg
   ·exact h2 x (by simpa using hx) c e own f k hg
 ·intro b r hb
  simp only [Env.eL] at hb;split at hb
  ·rename_i e
   simp at hb;subst hb e;simp
  ·have:=h.lB b r hb
   rw [St.cq,aa (by omega)];exact h.z b r hb
 ·intro b x hb
  have:=h.eV b x hb;simp only [Env.eL];rw [aa (by omega)];exact h.apart b x hb
 ·exact h.inj
 ·exact h.gz
 ·exact h.jI
 ·exact h.kK
 ·exact h.live
 ·intro b x hb; have:=h.eV b x hb; rw [St.bS]; omega
 ·intro b r hb
  simp only [Env.eL] at hb;rw [St.bS];split at hb
  ·omega
  ·have:=h.lB b r hb; omega
 ·intro b g hb; have:=h.ik b g hb; rw [St.bS]; omega
 ·intro g hg; rw [St.bS] at hg; rw [St.jh]; exact h.fresh g (by omega)
 ·intro g x hx; rw [St.jh] at hx; rw [St.bS]; have:=h.mem g x hx; omega
 ·intro x hx _ _; rw [St.cq,aa (by omega)]
 ·intro b x hb; exact .inl hb
theorem cO.putRow {A:ae} {B:St} {b x bp:Nat} {cs:List KV} {bL:List Value} (h:dr P E A B) (hb:∃ lY e,A.get b=some (.row lY e)) (hx:E.κ b=some x) (hold:∃ lY,B.get x=some (.row lY bp true none)/\lY.length=bL.length) (hv:aV P E cs bL):cO P E A B E (A.put b (.row cs bp)) (B.put x (.row bL bp true none)):=by
 have hA:∀ (c:Nat) (v:KV),(A.put b (.row cs bp)).get c=some (.arr v)->A.get c=some (.arr v):=fun c v hb=>by
  rw [ae.bA] at hb;split at hb
  ·simp at hb
  ·exact hb
 have Wd:∀ (c:Nat) (v:KV),(A.put b (.row cs bp)).get c=some (.iA v)->A.get c=some (.iA v):=fun c v hb=>by
  rw [ae.bA] at hb;split at hb
  ·simp at hb
  ·exact hb
 have BP:∀ y,AR A E y->(B.put x (.row bL bp true none)).get y=B.get y:=fun y q=>by
  rw [St.bA,aa];intro e;subst e;exact (h.ar.z _ q).2 b hx
 refine ⟨⟨?_,?_,?_,h.apart,h.inj,h.gz.put (.inl fun _ _=>by simp),h.jI,h.kK,?_,h.eV,h.lB,h.ik,?_,?_,h.ar.dP (Env.le_refl _) (fun _=>rfl) hA Wd (aB _) (aB _) BP (fun _ _ e=>.inl e) (fun _ _ e=>.inl e) (fun b g e=>.inl ⟨b,e⟩) (fun _ _=>by simp) h.mem⟩,Env.le_refl _,aB _,?_,fun _ _ e=>.inl e,fun _ _ e=>.inl e,fun _ _ e=>.inl e,fun _ _ _ _=>by simp,fun _ q=>.inl (q.of (fun _=>rfl) hA),fun _ q=>.inl (q.of (fun _=>rfl) hA BP),fun _ _ q=>.inl (by simpa using q),fun _ q=>.inl (q.of (fun _=>rfl) hA BP fun _ _=>by simp),fun y _ c e own bK q=>by
  rw [St.bA] at q;split at q
  ·rename_i e2
   simp at q;obtain ⟨rfl,rfl,rfl,rfl⟩:=q;obtain ⟨c0,h1,h2⟩:=hold;exact ⟨c0,by rw [e2]; exact h1,h2⟩
  ·exact ⟨c,q,rfl⟩,by
  obtain ⟨lY,e0,hb⟩:=hb;exact oV hb (by simp)⟩
 ·intro c lY O8 hc
  rw [ae.bA] at hc;split at hc
  ·rename_i e
   simp at hc;obtain ⟨rfl,rfl⟩:=hc;exact ⟨x,bL,by rw [e]; exact hx,by simp,hv⟩
  ·rename_i cH
   obtain ⟨y,d,h1,h2,h3⟩:=h.row c lY O8 hc;refine ⟨y,d,h1,?_,h3⟩;rw [St.bA,aa (fun e=>cH (h.inj c b x (by rw [<- e]; exact h1) hx))];exact h2
 ·intro c top F4 hc
  rw [ae.bA] at hc;split at hc
  ·simp at hc
  ·rcases h.aP c top F4 hc with h1 | ⟨g,h1,hp0,h2⟩
   ·exact .inl h1
   ·refine .inr ⟨g,h1,hp0,fun y hy d e own f k hg=>?_⟩
    rw [St.bA] at hg;split at hg
    ·simp at hg
    ·exact h2 y (by simpa using hy) d e own f k hg
 ·intro c r hc
  rw [St.bA,aa]
  ·exact h.z c r hc
  ·intro e
   have:=h.apart b x hx;rw [<- e,hc] at this;simp at this
 ·intro c o hc
  rw [ae.bA] at hc;rw [ae.sv];split at hc
  ·rename_i e
   obtain ⟨lY,e0,hb⟩:=hb;rw [e]; exact h.live b _ hb
  ·exact h.live c o hc
 ·intro g hg; rw [St.wz]; exact h.fresh g hg
 ·intro g y hy; rw [St.wz] at hy; exact h.mem g y hy
 ·intro y hy hn _
  rw [St.bA,aa (fun e=>by
   obtain ⟨lY,e0,hb⟩:=hb;have:=hn b (by rw [e]; exact hx);rw [hb] at this;simp at this)]
theorem anl {n:Nat} : aai P (H8 n) (ae3 n):=by
 intro E A A' B vs us v h hv hg;unfold H8 at hg;split at hg
 ·rename_i x
  obtain ⟨y,rfl,h1⟩:=hv.ef;obtain ⟨ho,hg⟩:=hg.cond;have hg:(KV.ptr A.next 0,A.new (.row x.cells n))=(v,A'):=hg;simp only [du] at hg;obtain ⟨rfl,rfl⟩:=hg;have hc:=h1.cells (AH ho);have JC:y.cells.toList.all scalar=true:=fg.2 (hc.scalar ho);exact ⟨G2 n y,HS,E.lI A.next B.next,by simp [ae3,JC],.BM (by simp [Env.lI]),cO.newRow h hc⟩
 ·exact hg.elim
theorem akt {t:TypeId} {z:Value} (hz:wx P t=some z) (hf:flat z=true) (JC:z.cells.toList.all scalar=true) (ho:gx (fy z).cells=true):aai P (Xy (oP P t) (fy z).cells) (Mw P t):=by
 intro E A A' B vs us v h hv hg;have hg:(KV.ptr A.next 0,A.new (.row (fy z).cells (oP P t)))=(v,A'):=hg;simp only [du] at hg;obtain ⟨rfl,rfl⟩:=hg;exact ⟨G2 (oP P t) z,HS,E.lI A.next B.next,by simp only [Mw,hz,dN,hf,JC,cK,aj],.BM (by simp [Env.lI]),cO.newRow h (Ee ho)⟩
theorem Pa {cs:List KV} {l:List Value} (h:aV P E cs l):∀ n,aV P E (dj cs n) (fw l n)
 | 0=>.nil
 | n+1=>aV.append h (Pa h n)
theorem aci {n b:Nat} {z:Value} (ho:gx (fy z).cells=true):aai P (OX n b (fy z).cells) (Fk n b z):=by
 intro E A A' B vs us v h hv hg;unfold OX at hg;split at hg
 ·rename_i k l k' c
  obtain ⟨x,y,rfl,h1,h2⟩:=hv.j7;have:=h1.cj; subst this;have:=h2.cj; subst this;obtain ⟨hc,hg⟩:=aH.jJ hg;simp only [du] at hg;obtain ⟨rfl,rfl⟩:=hg;simp only [aq,lT] at hc;obtain ⟨⟨h3,h4⟩,h5⟩:=hc;obtain ⟨l',rfl⟩:=Int.eq_ofNat_of_zero_le h3;obtain ⟨c',rfl⟩:=Int.eq_ofNat_of_zero_le (Int.le_trans h3 h4);have h6:Nat.ble l' c' = true:=Nat.ble_eq_true_of_le (by omega);refine ⟨.row (fw z.cells.toList c') n true none,fun k=>.slice (some ⟨k,0,none⟩) l' c',E.lI A.next B.next,?_,.aja (by simp [Env.lI]),cO.newRow h (Pa (Ee ho) c')⟩;have h5:Nat.ble (b * c') 281474976710656=true:=h5;show cond (Nat.ble l' c'&&Nat.ble (b * c') 281474976710656) _ _=_;rw [h6,h5];rfl
 ·exact hg.elim
theorem dr.rowAt {A:ae} {B:St} (h:dr P E A B) {b x:Nat} {cs:List KV} (hr:rowAt A b=some cs) (hx:E.κ b=some x):∃ bL bp,B.get x=some (.row bL bp true none)/\aV P E cs bL:=by
 unfold K.rowAt at hr;split at hr
 ·rename_i c e hg
  simp at hr;subst hr;obtain ⟨y,d,h1,h2,h3⟩:=h.row _ _ _ hg;rw [hx] at h1;simp at h1;subst h1;exact ⟨d,_,h2,h3⟩
 ·simp at hr
theorem Pb (e:KV):∀ (cs:List CK) (k:Nat),(leaves e cs k).length=cs.length
 | [],_=>rfl
 | c::cs,k=>by simp [leaves,Pb e cs]
theorem ad6 {c:CK} {v:KV} (h:kindOk c v=true):leaf c v=v:=by
 cases c with
 | int k=>cases v <;> simp [kindOk] at h; subst h; rfl
 | bool=>cases v <;> simp [kindOk] at h; rfl
 | str=>cases v <;> simp [kindOk] at h; rfl
 | slice t=>
  cases v <;> simp [kindOk] at h;rename_i T m n es acc;cases m <;> simp at h;subst h;rfl
 | other=>cases v <;> simp [kindOk] at h
theorem CY:∀ {ks:List CK} {cs:List KV} {i:Nat} {c:CK},aD ks cs=true->ks[i]? = some c->∃ v,cs[i]? = some v/\kindOk c v=true
 | [],_,i,c,_,h=>by simp at h
 | _::_,[],_,_,h,_=>by simp [aD] at h
 | k::ks,v::cs,0,c,h,e=>by
  simp only [aD,aq] at h;simp at e;subst e;exact ⟨v,rfl,h.1⟩
 | k::ks,v::cs,i+1,c,h,e=>by
  simp only [aD,aq] at h;obtain ⟨u,h1,h2⟩:=CY (i:=i) h.2 (by simpa using e);exact ⟨u,by simpa using h1,h2⟩
theorem gC:∀ {l:Lay} {es:List KV} {i:Nat} {e:KV},dH l es=true->es[i]? = some e->cw l e=true
 | l,[],i,e,_,h=>by simp at h
 | l,x::es,0,e,h,he=>by
  simp only [dH,aq] at h;simp at he;subst he;exact h.1
 | l,x::es,i+1,e,h,he=>by
  simp only [dH,aq] at h;exact gC h.2 (by simpa using he)
theorem gf {l:Lay} {e:KV} (h:cw l e=true):aD l.ks e.cells=true/\yo e=true:=by
 cases e <;> simp [cw] at h <;> first | exact ⟨h.2,rfl⟩ | skip
 obtain ⟨h1,h2⟩:=h;cases hk:l.ks with
 | nil=>rw [hk] at h2; simp [aD] at h2
 | cons c cs=>rw [hk] at h2; cases c <;> simp [aD,kindOk] at h2
theorem Sv {e:KV} {ks:List CK} (hk:aD ks e.cells=true):∀ {cs:List CK} {k:Nat},(∀ m c,cs[m]? = some c->ks[k+m]? = some c)->leaves e cs k=(e.cells.drop k).take cs.length
 | [],k,_=>by simp [leaves]
 | c::cs,k,h=>by
  obtain ⟨v,h1,h2⟩:=CY hk (by simpa using h 0 c rfl);have bj:k < e.cells.length:=(cG.1 h1).1;have ih:=Sv hk (cs:=cs) (k:=k+1) (fun m d hm=>by have:=h (m+1) d (by simpa using hm); rwa [show k+(m+1)=k+1+m by omega] at this);simp only [leaves];have e1:e.cells.getD k .bf=v:=by simp [List.getD,h1]
  rw [e1,ad6 h2];rw [show Nat.succ k=k+1 from rfl,ih,List.drop_eq_getElem_cons bj];have e2:e.cells[k] = v:=by
   have:=cI bj;rw [this] at h1;simpa using h1
  simp [e2]
theorem dr.KH {A:ae} {B:St} (h:dr P E A B) {b x L N' : Nat} {v:KV} (hr:KH A b=some v) (hx:E.α b=some (x,L,N')) :
  ∃ T N es acc,v = .ts T .any N es acc/\gU P T N es acc/\1<=aU P T/\∃ cs e own bK bh,N' = N/\B.get x=some (.row cs e own bK)/\aV P E es bh/\qI (aU P T) 0 cs bh/\L=cs.length/\e=aU P T:=by
 unfold K.KH at hr;split at hr
 ·rename_i u hg
  simp at hr; subst hr;obtain ⟨T,N,es,acc,h1,h2,h3,h4⟩:=h.ar.arr b _ hg;refine ⟨T,N,es,acc,h1,h2,h3,?_⟩;rcases h4 with ⟨_,h5⟩ | ⟨y,cs,bK,bh,h4,h5,h6,h7⟩
  ·rw [hx] at h5; simp at h5
  ·rw [hx] at h4
   simp only [bM,du] at h4;obtain ⟨rfl,rfl,rfl⟩:=h4;exact ⟨cs,_,_,bK,bh,rfl,h5,h6,h7,rfl,rfl⟩
 ·rename_i u hg
  simp at hr; subst hr;obtain ⟨T,N,es,acc,h1,h2,h3,h4⟩:=h.ar.iA b _ hg;refine ⟨T,N,es,acc,h1,h2,h3,?_⟩;rcases h4 with ⟨_,h5⟩ | ⟨y,r,bh,h4,h5,h6,h7,h8⟩
  ·rw [hx] at h5; simp at h5
  ·rw [hx] at h4
   simp only [bM,du] at h4;obtain ⟨rfl,rfl,rfl⟩:=h4;exact ⟨r.cs,_,_,_,bh,rfl,h.z _ _ h5,h7,h8,rfl,h6⟩
 ·simp at hr
theorem aak {t T Tc:TypeId} {k x base bp:Nat} {own:Bool} {bK:Option (Nat×Nat)} {e:KV} {u:Value} {cs:List Value} {B:St} (hz:B.get x=some (.row cs bp own bK)) (hc:Y2 P t Tc=true) (hw:Y6 P T Tc k) (CZ:cw (aQ P T) e=true)
  (h7:VK P E e u) (dS:u.cells.size=aU P T) (qO:∀ (m:Nat) (y:Value),u.cells[m]? = some y->cs[base+m]? = some y):∃ w,Mx P t B [.pointer (some ⟨x,base+k,none⟩)] = some w/\VK P E (Om (aQ P t).agg (leaves e (aQ P t).ks k)) w:=by
 simp only [Y2,aq,lT] at hc;obtain ⟨⟨⟨⟨hTc,hpl⟩,ha⟩,hn⟩,an2⟩:=hc;have:=aK hTc;subst this;obtain ⟨anm,ann⟩:=gf CZ;have hlv:=Sv anm (cs:=(aQ P Tc).ks) (k:=k) hw.is;rw [hlv];have Kz:=h7.cells ann;have hlen:e.cells.length=aU P T:=by have:=Kz.length; simp at this; omega
 have mI:(aQ P Tc).ks.length<=e.cells.length - k:=by
  have:=congrArg List.length hlv;rw [Pb] at this;simp at this;omega
 have fp:∀ m,m < (aQ P Tc).ks.length->cs[base+k+m]? = u.cells.toList[k+m]?:=by
  intro m hm;have bj:k+m < u.cells.size:=by omega
  have:=qO (k+m) u.cells[k+m] (by simp [bj]);rw [show base+(k+m)=base+k+m by omega] at this;rw [this];simp [bj]
 have ahG:takeN (aQ P Tc).ks.length (HR (base+k) cs)=some ((u.cells.toList.drop k).take (aQ P Tc).ks.length):=by
  have hle:(aQ P Tc).ks.length<=(cs.drop (base+k)).length:=by
   cases Lw:(aQ P Tc).ks.length with
   | zero=>omega
   | succ q=>
    have:=fp q (by omega);have bj:k+q < u.cells.toList.length:=by simp; omega
    rw [cI bj] at this;have:=(cG.1 this).1;simp;omega
  rw [vl,LQ hle];congr 1;apply List.ext_getElem?;intro m;rw [mg,mg];split
  ·rename_i hm
   rw [o7,o7];exact fp m hm
  ·rfl
 have hrel:aV P E (e.cells.drop k |>.take (aQ P Tc).ks.length) ((u.cells.toList.drop k).take (aQ P Tc).ks.length):=(Kz.drop k).take _;cases BN:(aQ P Tc).agg with
 | true=>
  rw [BN] at ha;refine ⟨.agg ⟨(u.cells.toList.drop k).take (aQ P Tc).ks.length⟩,?_,.rI hrel⟩;simp [Mx,loadAt,ha,hn,St.z6,cJ,Cg,hz,ahG]
 | false=>
  rw [BN] at ha;have ZM:(aQ P Tc).ks.length=1:=by
   rw [BN] at an2;exact aK (by simpa using an2)
  rw [ZM] at ahG hrel;have bj:k < e.cells.length:=by omega
  rw [ZM];rw [List.drop_eq_getElem_cons bj] at hrel ⊢;simp only [List.take_succ_cons,List.take_zero] at hrel ⊢;obtain ⟨w,h8,h9⟩:=hrel.ef;refine ⟨w,?_,h9⟩;simp [Mx,loadAt,ha,St.z6,cJ,Cg,hz,ahG,h8]
theorem afw {t:TypeId} : afv P (Aa P t) (Mx P t):=by
 intro E A B vs us v h hv hg;unfold Aa at hg;split at hg
 ·rename_i b off
  obtain ⟨y,rfl,h1⟩:=hv.ef;obtain ⟨x,hx,rfl⟩:=h1.hD;split at hg
  ·rename_i ag n ha hn
   split at hg
   ·rename_i l hl
    obtain ⟨cs,h2,h3⟩:=cC.1 hl;obtain ⟨bL,bp,h4,h5⟩:=h.rowAt h2 hx;obtain ⟨r,h6,h7,_⟩:=h5.yE h3;cases ag with
    | true=>
     have hg:KV.agg l=v:=hg;subst hg;refine ⟨.agg ⟨r⟩,?_,.rI h7⟩;simp [Mx,loadAt,ha,hn,St.z6,cJ,Cg,h4,h6]
    | false=>
     rw [aI] at hg;split at hg
     ·rename_i u
      have hg:u=v:=hg;subst hg;obtain ⟨w,rfl,h8⟩:=h7.ef;have hlen:n=1:=by
       obtain ⟨e,hle⟩:=Qw h3;have:=congrArg List.length e;rw [kS,Nat.min_eq_left hle] at this;simpa using this.symm
      subst hlen;exact ⟨w,by simp [Mx,loadAt,ha,St.z6,cJ,Cg,h4,h6],h8⟩
     ·exact hg.elim
   ·exact hg.elim
  ·exact hg.elim
 ·rename_i T Tc i k es acc
  obtain ⟨y,rfl,h1⟩:=hv.ef;obtain ⟨hc,hg⟩:=hg.cond;have hg:Om (aQ P t).agg (leaves (acc i) (aQ P t).ks k)=v:=hg;subst hg;obtain ⟨ht,bh,h2,hi,hw,b,off,r,rfl,h4,h5⟩:=h1.MS;have apx:=ht.acc i hi;have hei:es[i]? = some (acc i):=by rw [apx]; simp [List.getD,hi]
  obtain ⟨u,h6,h7⟩:=h2.get hei;obtain ⟨dS,qO⟩:=h5 i u h6;exact aak (h.z b r h4) hc hw (gC ht.typed hei) h7 dS qO
 ·rename_i T Tc b i k
  obtain ⟨y,rfl,h1⟩:=hv.ef;split at hg
  ·rename_i T' m N es acc hA
   obtain ⟨hc,hg⟩:=hg.cond;have hg:Om (aQ P t).agg (leaves (acc i) (aQ P t).ks k)=v:=hg;subst hg;simp only [aq] at hc;have:=aK hc.1;subst this;obtain ⟨x,L,N',h2,hw,hi,rfl⟩:=h1.JR;obtain ⟨T2,N2,pj,ax,CO,ht,h1s,cs,e,own,bK,bh,h3,h4,h5,h6,_⟩:=h.KH hA h2;simp only [KV.ts.injEq] at CO;obtain ⟨rfl,rfl,rfl,rfl,rfl⟩:=CO;have bj:i < es.length:=by rw [<- ht.len,<- h3]; exact hi
   have hei:es[i]? = some (acc i):=by rw [ht.acc i (by rw [ht.len]; exact bj)]; simp [List.getD,bj]
   obtain ⟨u,h7,h8⟩:=h5.get hei;obtain ⟨dS,qO⟩:=h6 i u h7;rw [ba] at qO;exact aak h4 hc.2 hw (gC ht.typed hei) h8 dS qO
  ·exact hg.elim
 ·exact hg.elim
end Go.K
end
section
namespace Go.K
open Go Go.aG
variable {P:Program} {E:Env}
theorem VK.alH {T:TypeId} {m:Mk} {n:Nat} {es:List KV} {acc:Nat->KV} {u:Value} (h:VK P E (.ts T m n es acc) u):VK P E (.ts T .any n es acc) u:=by
 obtain ⟨ht,bh,h1,a,cap,rfl,h2,h3,_⟩:=h.kW;simp only [VK];exact ⟨ht,bh,h1,a,cap,rfl,h2,h3,trivial⟩
theorem VK.ahH {T:TypeId} {acc:Nat->KV} : VK P E (.ts T .any 0 [] acc) (.slice none 0 0):=by
 simp only [VK];exact ⟨⟨rfl,fun i h=>by omega,rfl⟩,[],.nil,none,0,rfl,aB _,.inl ⟨rfl,rfl⟩,trivial⟩
theorem VK.aoL {b:Bool} {v:KV} {u:Value} (h:VK P E v u):VK P E (cond b v .bf) u:=by
 cases b with
 | false=>exact .vx
 | true=>exact h
theorem VK.nN {c:CK} {v:KV} {u:Value} (h:VK P E v u):VK P E (nN c v) u:=by
 unfold K.nN;split
 ·have:=h.pk; subst this; exact .ahH
 ·rename_i t t' m n es acc
  cases hb:Nat.beq t t' with
  | false=>exact .vx
  | true=>
   have:=aK hb;subst this;exact h.alH
 ·exact VK.aoL h
theorem aV.CS:∀ {ks:List CK} {cs:List KV} {l:List Value},aV P E cs l->cs.length=ks.length->aV P E (CS ks cs) l
 | [],[],l,h,_=>h
 | [],_::_,_,_,e=>by simp at e
 | _::_,[],_,_,e=>by simp at e
 | c::ks,v::cs,l,h,e=>by
  obtain ⟨y,ys,rfl,h1,h2⟩:=h.cons_inv;exact .cons h1.nN (aV.CS h2 (by simpa using e))
theorem VK.dM {l:Lay} {v:KV} {u:Value} (h:VK P E v u):VK P E (dM l v) u:=by
 unfold K.dM;split
 ·rename_i cs
  obtain ⟨m,rfl,h1⟩:=h.kJ;cases hb:(l.agg&&Nat.beq cs.length l.ks.length) with
  | false=>exact .vx
  | true=>
   simp only [aq] at hb;exact .rI (h1.CS (aK hb.2))
 ·cases l.agg with
  | true=>exact .vx
  | false=>
   rw [aI];split
   ·exact h.nN
   ·exact .vx
theorem T6 (d:Nat) (v:KV):cg P (d+1) v=(match v with
 | .ts t _ n _ acc=>.ts t .any n ((List.range n).map fun i=>ij P (cg P d) t (acc i)) (fun i=>ij P (cg P d) t (acc i))
 | v=>v):=rfl
theorem acj (d:Nat) {c:CK} {v:KV} (h:kindOk c v=true):kindOk c (cg P d v)=true:=by
 cases d with
 | zero=>exact h
 | succ d=>
  rw [T6];split
  ·rename_i t m n es acc
   cases c <;> simp [kindOk] at h;cases m <;> simp at h;simp [kindOk,h]
  ·exact h
theorem Ig (d:Nat):∀ {ks:List CK} {cs:List KV},aD ks cs=true->aD ks (cs.map (cg P d))=true
 | [],[],_=>rfl
 | [],_::_,h=>by simp [aD] at h
 | _::_,[],h=>by simp [aD] at h
 | c::ks,v::cs,h=>by
  simp only [aD,aq] at h;simp only [List.map_cons,aD,aq];exact ⟨acj d h.1,Ig d h.2⟩
theorem tX:∀ {ks:List CK} {vs:List KV},aD ks vs=true->vs.length=ks.length
 | [],[],_=>rfl
 | [],_::_,h=>by simp [aD] at h
 | _::_,[],h=>by simp [aD] at h
 | k::ks,v::vs,h=>by
  simp only [aD,aq] at h;simp [tX h.2]
theorem oW {l:Lay} : ∀ {es:List KV},(∀ (i:Nat) e,es[i]? = some e->cw l e=true)->dH l es=true
 | [],_=>rfl
 | e::es,h=>by
  simp only [dH,aq];exact ⟨h 0 e rfl,oW fun i x hx=>h (i+1) x (by simpa using hx)⟩
theorem MW {l:Lay} {v:KV} (h:cw l v=true):leaves v l.ks 0=v.cells/\aD l.ks v.cells=true/\(v=Om l.agg v.cells):=by
 have hk:aD l.ks v.cells=true/\(v=Om l.agg v.cells):=by
  by_cases ha:∃ cs,v = .agg cs
  ·obtain ⟨cs,rfl⟩:=ha
   simp only [cw,aq] at h;refine ⟨h.2,?_⟩;rw [h.1]; rfl
  ·have h1:(!l.agg&&aD l.ks [v])=true:=by
    cases v <;> first | exact h | exact absurd ⟨_,rfl⟩ ha | simp [cw] at h
   have hc:v.cells = [v]:=by cases v <;> first | rfl | exact absurd ⟨_,rfl⟩ ha
   simp only [aq,lU] at h1;rw [hc,h1.1];exact ⟨h1.2,rfl⟩
 refine ⟨?_,hk.1,hk.2⟩;rw [Sv (e:=v) (ks:=l.ks) hk.1 (fun m c e=>by rw [ba]; exact e)];show (v.cells.drop 0).take l.ks.length=v.cells;rw [List.drop_zero,<- tX hk.1,List.take_length]
theorem aal {l:Lay} {cs:List KV} {v:KV} (h:cw l v=true) (hk:aD l.ks cs=true) (hlen:cs.length=v.cells.length):cw l (Om l.agg cs)=true:=by
 by_cases ha:∃ ds,v = .agg ds
 ·obtain ⟨ds,rfl⟩:=ha
  simp only [cw,aq] at h;rw [h.1];show (l.agg&&aD l.ks cs)=true;rw [h.1,hk]; rfl
 ·have h1:(!l.agg&&aD l.ks [v])=true:=by
   cases v <;> first | exact h | exact absurd ⟨_,rfl⟩ ha | simp [cw] at h
  have hc:v.cells = [v]:=by cases v <;> first | rfl | exact absurd ⟨_,rfl⟩ ha
  simp only [aq,lU] at h1;rw [hc] at hlen
  match cs,hlen with
  | [c],_=>
   rw [h1.1];show cw l c=true;have T5:one c=true:=by
    cases qE:l.ks with
    | nil=>rw [qE] at hk; simp [aD] at hk
    | cons a aqL=>rw [qE] at hk; simp only [aD,aq] at hk; cases a <;> cases c <;> first | rfl | simp [kindOk] at hk
   cases c <;> first | (simp [one] at T5; done) | (simp only [cw,h1.1,JF,CF]; exact hk)
mutual
theorem VK.cg:∀ (d:Nat) {v:KV} {u:Value},VK P E v u->VK P E (K.cg P d v) u
 | 0,_,_,h=>h
 | d+1,v,u,h=>by
  rw [T6];split
  ·rename_i t m n es acc
   obtain ⟨ht,bh,h1,a,cap,rfl,h2,h3,_⟩:=h.kW;simp only [VK];have CZ:∀ i,i < n->∃ e e',es[i]? = some e/\bh[i]? = some e'/\acc i=e/\cw (aQ P t) e=true/\VK P E e e':=by
    intro i hi;have hl:i < es.length:=by rw [<- ht.len]; exact hi
    have e1:=cI hl;obtain ⟨e',e2,e3⟩:=h1.get e1;exact ⟨_,e',e1,e2,by rw [ht.acc i hi,fC,e1]; rfl,gC ht.typed e1,e3⟩
   have hlen:bh.length=n:=by rw [h1.length,ht.len]
   refine ⟨⟨by simp,fun i hi=>?_,?_⟩,bh,?_,a,cap,rfl,h2,h3,trivial⟩
   ·rw [fC,o8,List.getElem?_range hi]; rfl
   ·refine oW fun i e he=>?_
    rw [o8] at he;by_cases hi:i < n
    ·rw [List.getElem?_range hi] at he
     simp only [Option.map_some,bM] at he;obtain ⟨x,x',_,_,q3,q4,_⟩:=CZ i hi;rw [<- he,q3,ij];obtain ⟨r1,r2,_⟩:=MW q4;rw [r1];exact aal q4 (Ig d r2) (by simp)
    ·rw [List.getElem?_eq_none (by simp; omega)] at he; simp at he
   ·refine aV.ad1 (by simp [hlen]) fun i e e' he KD=>?_
    rw [o8] at he;by_cases hi:i < n
    ·rw [List.getElem?_range hi] at he
     simp only [Option.map_some,bM] at he;obtain ⟨x,x',_,q2,q3,q4,q5⟩:=CZ i hi;rw [KD] at q2;simp only [bM] at q2;subst q2;rw [<- he,q3];exact VK.ij d q4 q5
    ·rw [List.getElem?_eq_none (by simp; omega)] at he; simp at he
  ·exact h
theorem VK.ij (d:Nat) {t:TypeId} {v:KV} {u:Value} (hk:cw (aQ P t) v=true) (h:VK P E v u):VK P E (K.ij P (K.cg P d) t v) u:=by
 obtain ⟨r1,r2,r3⟩:=MW hk;rw [K.ij,r1];by_cases ha:∃ cs,v = .agg cs
 ·obtain ⟨cs,rfl⟩:=ha
  obtain ⟨l,rfl,h1⟩:=h.kJ;have BN:(aQ P t).agg=true:=by simp only [cw,aq] at hk; exact hk.1
  rw [BN];exact .rI (aV.afx d h1)
 ·have hc:v.cells = [v]:=by cases v <;> first | rfl | exact absurd ⟨_,rfl⟩ ha
  have BN:(aQ P t).agg=false:=by
   cases v <;> first | (simp only [cw,aq,lU] at hk; exact hk.1) | exact absurd ⟨_,rfl⟩ ha | simp [cw] at hk
  rw [BN,hc];exact VK.cg d h
theorem aV.afx (d:Nat):∀ {cs:List KV} {l:List Value},aV P E cs l->aV P E (cs.map (K.cg P d)) l
 | [],l,h=>h
 | c::cs,l,h=>by
  obtain ⟨y,ys,rfl,h1,h2⟩:=h.cons_inv;exact .cons (VK.cg d h1) (aV.afx d h2)
end
theorem afy {c:CK} {v:KV} (h:kindOk c v=true):one v=true:=by
 cases c <;> cases v <;> simp [kindOk] at h <;> rfl
theorem Hc:∀ {ks:List CK} {cs:List KV},aD ks cs=true->gx cs=true
 | [],[],_=>rfl
 | [],_::_,h=>by simp [aD] at h
 | _::_,[],h=>by simp [aD] at h
 | c::ks,v::cs,h=>by
  simp only [aD,aq] at h;simp [gx,afy h.1,Hc h.2]
def bz:List Value->List Value
 | []=>[]
 | v::vs=>v.cells.toList++bz vs
theorem gV {n:Nat} : ∀ {es:List Value},(∀ v∈es,v.cells.size=n)->(bz es).length=es.length * n
 | [],_=>by simp [bz]
 | v::es,h=>by
  simp only [bz,kv,qN];rw [gV fun u hu=>h u (by simp [hu])];have:=h v (by simp);simp only [Array.length_toList,this,Nat.succ_mul];omega
theorem lJ {n:Nat} : ∀ {es:List Value},(∀ v∈es,v.cells.size=n)->qI n 0 (bz es) es
 | [],_,i,x,h=>by simp at h
 | v::es,hs,i,x,h=>by
  have hv:=hs v (by simp);cases i with
  | zero=>
   simp at h;subst h;refine ⟨hv,fun k y hy=>?_⟩;simp only [bz,Nat.zero_mul,ba];have bj:k < v.cells.size:=(rV.1 hy).1;rw [qM (by simpa using bj)];simpa using hy
  | succ i=>
   obtain ⟨h1,h2⟩:=lJ (es:=es) (fun u hu=>hs u (by simp [hu])) i x (by simpa using h);refine ⟨h1,fun k y hy=>?_⟩;have:=h2 k y hy;simp only [bz];rw [tL (by simp [hv,Nat.succ_mul]; omega)];rw [<- this];congr 1;simp [hv,Nat.succ_mul];omega
theorem AI:∀ (a b:List Value),bz (a++b)=bz a++bz b
 | [],b=>rfl
 | v::a,b=>by simp [bz,AI a b]
theorem AJ:∀ {es:List Value},(∀ v∈es,∀ c∈v.cells.toList,scalar c=true)->∀ c∈bz es,scalar c=true
 | [],_,c,h=>by simp [bz] at h
 | v::es,hs,c,h=>by
  simp only [bz,jF] at h;rcases h with h | h
  ·exact hs v (by simp) c h
  ·exact AJ (fun u hu=>hs u (by simp [hu])) c h
theorem XF {n:Nat} : ∀ {es:List Value} {i:Nat} {v:Value},(∀ u∈es,u.cells.size=n)->v.cells.size=n->i < es.length->gu (i * n) (bz es) v.cells.toList=some (bz (es.set i v))
 | [],i,v,_,_,h=>by simp at h
 | u::es,0,v,hs,hv,_=>by
  simp only [Nat.zero_mul,bz,List.set_cons_zero];have key:∀ (a b r:List Value),a.length=b.length->gu 0 (a++r) b=some (b++r):=by
   intro a
   induction a with
   | nil=>intro b r h; cases b <;> simp_all [BI]
   | cons x a ih=>
    intro b r h;cases b with
    | nil=>simp at h
    | cons y b=>rw [List.cons_append,yz,ih b r (by simpa using h)]; rfl
  exact key _ _ _ (by simp [hs u (by simp),hv])
 | u::es,i+1,v,hs,hv,h=>by
  have ih:=XF (es:=es) (i:=i) (fun w hw=>hs w (by simp [hw])) hv (by simpa using h);simp only [bz,List.set_cons_succ];have key:∀ (a r vs q:List Value) (m:Nat),gu m r vs=some q->gu (a.length+m) (a++r) vs=some (a++q):=by
   intro a
   induction a with
   | nil=>intro r vs q m h; simpa using h
   | cons x a ih=>
    intro r vs q m h;rw [qN,show a.length+1+m=(a.length+m)+1 by omega,List.cons_append,uA,ih r vs q m h];rfl
  have:=key u.cells.toList _ _ _ _ ih;rw [show u.cells.toList.length+i * n=(i+1) * n by simp [hs u (by simp),Nat.succ_mul]; omega] at this;exact this
def sk (es:List Value):List (Nat×Value)->List Value
 | []=>es
 | (i,v)::rest=>sk (es.set i v) rest
theorem KM:∀ (ps:List (Nat×Value)) (es:List Value),(sk es ps).length=es.length
 | [],_=>rfl
 | p::ps,es=>by simp [sk,KM ps]
theorem Sx {n:Nat} (hn:1<=n):∀ {ps:List (Nat×Value)} {es:List Value},(∀ u∈es,u.cells.size=n)->(∀ p∈ps,p.2.cells.size=n/\p.1 < es.length)->
  CH (Ch n) (bz es) ps=some (bz (sk es ps))/\∀ u∈sk es ps,u.cells.size=n
 | [],es,hs,_=>⟨rfl,hs⟩
 | (i,v)::ps,es,hs,hp=>by
  obtain ⟨h1,h2⟩:=hp (i,v) (by simp);have h3:=XF hs h1 h2;have NR:∀ u∈es.set i v,u.cells.size=n:=by
   intro u hu;rcases List.mem_or_eq_of_mem_set hu with h | h
   ·exact hs u h
   ·subst h; exact h1
  obtain ⟨h4,h5⟩:=Sx hn (ps:=ps) NR (fun p hq=>by have:=hp p (by simp [hq]); simpa using this);refine ⟨?_,h5⟩;simp only [CH,Ch];have e1:Nat.beq v.cells.size n=true:=by rw [h1]; simp
  have e2:Nat.ble 1 n=true:=Nat.ble_eq_true_of_le hn;rw [e1,e2];simp only [cK,aj,h3,dN];exact h4
theorem Sy {v:KV} {u:Value} (h:VK P E v u):∀ {es:List KV} {bh:List Value} (i:Nat),aV P E es bh->aV P E (setAt es i v) (bh.set i u)
 | [],bh,i,q=>by rw [q.b5]; cases i <;> exact .nil
 | x::es,bh,0,q=>by
  obtain ⟨y,ys,rfl,h1,h2⟩:=q.cons_inv;exact .cons h h2
 | x::es,bh,i+1,q=>by
  obtain ⟨y,ys,rfl,h1,h2⟩:=q.cons_inv;exact .cons h1 (Sy h i h2)
theorem Sz {l:Lay} : ∀ {is:List Nat} {vs:List KV} {us:List Value} {es:List KV} {bh:List Value},aV P E vs us->aV P E es bh->aV P E (F3 es ((zW is vs).map fun p=>(p.1,dM l p.2))) (sk bh (zipIdx is us))
 | [],vs,us,es,bh,_,h=>by simpa [zW,zipIdx,F3,sk] using h
 | i::is,[],us,es,bh,hv,h=>by rw [hv.b5]; simpa [zW,zipIdx,F3,sk] using h
 | i::is,v::vs,us,es,bh,hv,h=>by
  obtain ⟨y,ys,rfl,h1,h2⟩:=hv.cons_inv;simp only [zW,zipIdx,List.map_cons,F3,sk];exact Sz h2 (Sy h1.dM i h)
theorem EZ:∀ (es:List KV) (i:Nat) (v:KV),(setAt es i v).length=es.length
 | [],0,_=>rfl
 | [],_+1,_=>rfl
 | _::_,0,_=>rfl
 | e::es,i+1,v=>by simp [setAt,EZ es i v]
theorem KN:∀ (ps:List (Nat×KV)) (es:List KV),(F3 es ps).length=es.length
 | [],_=>rfl
 | p::ps,es=>by simp [F3,KN ps,EZ]
theorem ad7 {n:Nat} : ∀ {is:List Nat} (us:List Value),Eb n is=true->∀ p∈zipIdx is us,p.1 < n/\p.2∈us
 | [],us,_,p,h=>by simp [zipIdx] at h
 | i::is,[],_,p,h=>by simp [zipIdx] at h
 | i::is,u::us,h,p,hp=>by
  simp only [Eb,aq,bF] at h;simp only [zipIdx,de] at hp;rcases hp with rfl | hp
  ·exact ⟨h.1,by simp⟩
  ·obtain ⟨h1,h2⟩:=ad7 us h.2 p hp
   exact ⟨h1,by simp [h2]⟩
theorem C0 (z:Value):∀ n,fw z.cells.toList n=bz (List.replicate n z)
 | 0=>rfl
 | n+1=>by simp [fw,List.replicate_succ,bz,C0 z n]
theorem MX {z:KV} {u:Value} (h:VK P E z u):∀ n,aV P E (dj [z] n) (List.replicate n u)
 | 0=>.nil
 | n+1=>by simpa [dj,List.replicate_succ] using aV.cons h (MX h n)
theorem mn {l:Lay} : ∀ {es:List KV} {bh:List Value},dH l es=true->aV P E es bh->∀ u∈bh,u.cells.size=l.ks.length/\∀ c∈u.cells.toList,scalar c=true
 | [],bh,_,h,u,hu=>by rw [h.b5] at hu; simp at hu
 | e::es,bh,CZ,h,u,hu=>by
  obtain ⟨y,ys,rfl,h1,h2⟩:=h.cons_inv;simp only [dH,aq] at CZ;rcases de.1 hu with rfl | hu
  ·obtain ⟨k1,k2⟩:=gf CZ.1
   have hc:=h1.cells k2;refine ⟨?_,hc.scalar (Hc k1)⟩;have:=hc.length;have:=sB k1;simp at *;omega
  ·exact mn CZ.2 h2 u hu
theorem Wf {l:Lay} : ∀ {vs:List KV} {us:List Value},aV P E vs us->aV P E (vs.map (dM l)) us
 | [],_,h=>h
 | v::vs,us,h=>by
  obtain ⟨y,ys,rfl,h1,h2⟩:=h.cons_inv;exact .cons h1.dM (Wf h2)
theorem ack {e:TypeId} {n len:Nat} {z:Value} {is:List Nat} (hn:(aQ P e).ks.length=n) (h1n:1<=n) (hz:z.cells.size=n) (hb:Eb len is=true) :
  alG P (OU (aQ P e) e (dM (aQ P e) (fy z)) len is) (tN n z len is):=by
 intro E A B vs us v h hv hg;unfold OU at hg;obtain ⟨hc,hg⟩:=aH.cond hg;simp only [aq] at hc;obtain ⟨⟨hk,hvs⟩,CZ⟩:=hc;have hg:KV.ts e .exact len _ _=v:=hg;subst hg;have Wg:VK P E (dM (aQ P e) (fy z)) z:=(VK.fy z).dM;have hrel:=Sz (l:=aQ P e) (is:=is) hv (MX Wg len);have hlen:(F3 (dj [dM (aQ P e) (fy z)] len) ((zW is vs).map fun p=>(p.1,dM (aQ P e) p.2))).length=len:=by
  rw [KN,Bh]; simp
 have ad8:∀ p∈zipIdx is us,p.2.cells.size=n/\p.1 < (List.replicate len z).length:=by
  intro p hp;obtain ⟨h5,h6⟩:=ad7 us hb p hp;have hm:aV P E (vs.map (dM (aQ P e))) us:=Wf hv;exact ⟨by rw [<- hn]; exact (mn hvs hm p.2 h6).1,by simpa using h5⟩
 obtain ⟨h3,h4⟩:=Sx h1n (ps:=zipIdx is us) (es:=List.replicate len z) (fun u hu=>by rw [(List.mem_replicate.1 hu).2]; exact hz) ad8;have wC:=mn CZ hrel;have qF:(bz (sk (List.replicate len z) (zipIdx is us))).all scalar=true:=fg.2 (AJ fun u hu=>(wC u hu).2);refine ⟨.row (bz (sk (List.replicate len z) (zipIdx is us))) n true none,fun b=>.slice (some ⟨b,0,none⟩) len len,E.eL B.next ⟨_,n,true,none⟩,?_,?_,cO.aaj h⟩
 ·unfold tN
  rw [C0,h3];simp only [dN];rw [qF,Ia hv hk];rfl
 ·have ahI:=hrel.mono (cO.aaj (bL:=bz (sk (List.replicate len z) (zipIdx is us))) (bp:=n) h).le
  have kT:(sk (List.replicate len z) (zipIdx is us)).length=len:=by rw [KM]; simp
  simp only [VK];refine ⟨⟨hlen.symm,fun i _=>rfl,CZ⟩,_,ahI,some ⟨B.next,0,none⟩,len,rfl,aB _,.inr ⟨B.next,0,⟨bz (sk (List.replicate len z) (zipIdx is us)),n,true,none⟩,rfl,by simp [Env.eL],hn.symm,?_⟩,rfl,fun b off hb=>?_⟩
  ·have:=lJ h4
   unfold aU;rw [hn];exact this
  ·simp at hb
   obtain ⟨rfl,rfl⟩:=hb;refine ⟨⟨bz (sk (List.replicate len z) (zipIdx is us)),n,true,none⟩,by simp [Env.eL],rfl,rfl,?_⟩;simp only [aU,hn];rw [gV h4,kT];omega
theorem ad9 {n len:Nat} {z:Value} {is:List Nat} (ho:gx (fy z).cells=true):aai P (Sf n (fy z).cells len is) (tN n z len is):=by
 intro E A A' B vs us v h hv hg;unfold Sf at hg;split at hg
 ·rename_i cs hf
  obtain ⟨hk,hg⟩:=aH.cond hg;simp only [aq] at hk;have hg:(KV.sl A.next 0 len len,A.new (.row cs n))=(v,A'):=hg;simp only [du] at hg;obtain ⟨rfl,rfl⟩:=hg;obtain ⟨h2,h3⟩:=Z8 is hv;obtain ⟨r',e,hr⟩:=Z7 h2 h3 (fun p hp=>by have:=Z9 is vs p hp; exact fg.1 hk.1 _ this) (Pa (Ee (P:=P) (E:=E) ho) len) hf;refine ⟨.row r' n true none,fun b=>.slice (some ⟨b,0,none⟩) len len,E.lI A.next B.next,?_,.aja (by simp [Env.lI]),cO.newRow h hr⟩;unfold tN;rw [e];simp only [dN];rw [Ia hv hk.1,fg.2 (hr.scalar hk.2)];rfl
 ·exact hg.elim
theorem Fq {m cap:Nat} {lo hi:Bool} {r:List KV} {r' : List Value} {x y:Int} (h:Rq m lo hi r=some (x,y)) (hr:aV P E r r') (h0:0<=x) (h1:x<=y) (h2:y<=(m:Int)) (hc:m<=cap) :
  wm m cap lo hi false r' = some (x.toNat,y.toNat,cap):=by
 obtain ⟨x',rfl⟩:=Int.eq_ofNat_of_zero_le h0;obtain ⟨y',rfl⟩:=Int.eq_ofNat_of_zero_le (Int.le_trans h0 h1);have hb:∀ (k:IntKind) (i n:Nat),i<=n->Yr n (.int k (i:Int))=some i:=by
  intro k i n h;show kE (.ofNat i) (Nat.succ n)=some i;exact qR (by omega)
 match r,h with
 | [],h=>
  rw [hr.b5];cases lo <;> cases hi <;> simp [Rq] at h;obtain ⟨h3,h4⟩:=h;simp [wm];omega
 | [.int k a],h=>
  obtain ⟨u,rfl,h3⟩:=hr.ef;have:=h3.cj; subst this;cases lo <;> cases hi <;> simp [Rq] at h
  ·obtain ⟨h4,rfl⟩:=h
   simp only [wm];rw [hb k y' cap (by omega)];simp;omega
  ·obtain ⟨rfl,h4⟩:=h
   simp only [wm];rw [hb k x' m (by omega)];simp;omega
 | [.int k a,.int k' c],h=>
  obtain ⟨u,v,rfl,h3,h4⟩:=hr.j7;have:=h3.cj; subst this;have:=h4.cj; subst this;cases lo <;> cases hi <;> simp [Rq] at h;obtain ⟨rfl,rfl⟩:=h;simp only [wm];rw [hb k' y' cap (by omega)];simp only [dN];rw [hb k x' y' (by omega)];simp
theorem Rs {l:Lay} : ∀ {es:List KV} (n:Nat),dH l es=true->dH l (es.drop n)=true
 | es,0,h=>by simpa using h
 | [],n+1,_=>rfl
 | e::es,n+1,h=>by
  simp only [dH,aq] at h;simpa using Rs n h.2
theorem Rt {l:Lay} : ∀ {es:List KV} (n:Nat),dH l es=true->dH l (es.take n)=true
 | es,0,h=>rfl
 | [],n+1,_=>rfl
 | e::es,n+1,h=>by
  simp only [dH,aq] at h;simp [dH,h.1,Rt n h.2]
theorem NT {l:Lay} : ∀ {es fs:List KV},dH l es=true->dH l fs=true->dH l (es++fs)=true
 | [],fs,_,h=>h
 | e::es,fs,h,k=>by
  simp only [dH,aq] at h;simp [dH,h.1,NT h.2 k]
theorem qI.part {sz off x k:Nat} {cs es:List Value} (h:qI sz off cs es):qI sz (off+x * sz) cs ((es.drop x).take k):=by
 intro i v hv;rw [mg] at hv;split at hv
 ·rw [o7] at hv
  obtain ⟨h1,h2⟩:=h (x+i) v hv;refine ⟨h1,fun j y hj=>?_⟩;rw [<- h2 j y hj];congr 1;rw [Nat.add_mul];omega
 ·simp at hv
theorem Wh {es:List KV} {i:Nat} (h:i < es.length):es[i]? = some (es.getD i .bf):=by simp [List.getD,h]
theorem afz {n:Nat} {lo hi:Bool} (_:1<=n):afv P (VZ P n lo hi) (vj n lo hi false):=by
 intro E A B vs us v h hv hg;unfold VZ at hg;split at hg
 ·rename_i T mk m es acc r
  split at hg
  ·rename_i x y hb
   obtain ⟨dS,hg⟩:=hg.cond;have dS:=aK dS;obtain ⟨hc,rfl⟩:=aH.jJ hg;simp only [aq,lT] at hc;obtain ⟨⟨h0,h1⟩,h2⟩:=hc;obtain ⟨u,r',rfl,h3,h4⟩:=hv.cons_inv;obtain ⟨ht,bh,h5,a,cap,rfl,h6,h7,_⟩:=h3.kW;have KF:=Fq hb h4 h0 h1 h2 h6;have hlen:=ht.len;have hle:((es.drop x.toNat).take (y.toNat - x.toNat)).length=y.toNat - x.toNat:=by simp; omega
   have hT:gU P T (y.toNat - x.toNat) ((es.drop x.toNat).take (y.toNat - x.toNat)) (fun i=>acc (x.toNat+i)):=by
    refine ⟨hle.symm,fun i hi=>?_,Rt _ (Rs _ ht.typed)⟩;rw [ht.acc _ (by omega)];simp only [List.getD];rw [mg,aE hi,o7]
   rcases h7 with ⟨rfl,hm⟩ | ⟨b,off,rr,rfl,h8,h9,pn⟩
   ·refine ⟨.slice none (y.toNat - x.toNat) (cap - x.toNat),by simp [vj,KF],?_⟩
    simp only [VK];exact ⟨hT,_,(h5.drop _).take _,none,_,rfl,by omega,.inl ⟨rfl,by omega⟩,trivial⟩
   ·have fp:=h.z b rr h8
    have TI:rr.bp=n:=by rw [h9]; exact dS
    refine ⟨.slice (some ⟨b,off+x.toNat * n,none⟩) (y.toNat - x.toNat) (cap - x.toNat),?_,?_⟩
    ·simp [vj,KF,cJ,CI,fp,TI]
    ·simp only [VK]
     refine ⟨hT,_,(h5.drop _).take _,_,_,rfl,by omega,.inr ⟨b,off+x.toNat * n,rr,rfl,h8,h9,?_⟩,trivial⟩;have:aU P T=n:=dS;rw [this] at pn ⊢;exact pn.part
  ·exact hg.elim
 ·rename_i b o len cap r
  split at hg
  ·rename_i cs bp fp
   split at hg
   ·rename_i x y hb
    obtain ⟨dS,hg⟩:=hg.cond;have dS:=aK dS;obtain ⟨hc,rfl⟩:=aH.jJ hg;simp only [aq,lT] at hc;obtain ⟨⟨⟨h0,h1⟩,h2⟩,h6⟩:=hc;obtain ⟨u,r',rfl,h3,h4⟩:=hv.cons_inv;obtain ⟨z,hz,rfl⟩:=h3.Qx;have KF:=Fq hb h4 h0 h1 h2 h6;obtain ⟨z',bL,e1,e2,_⟩:=h.row b cs bp fp;rw [hz] at e1;simp at e1;subst e1;refine ⟨.slice (some ⟨z,o+x.toNat * n,none⟩) (y.toNat - x.toNat) (cap - x.toNat),?_,.aja hz⟩;simp [vj,KF,cJ,CI,e2,dS]
   ·exact hg.elim
  ·exact hg.elim
 ·rename_i T b o m r
  split at hg
  ·rename_i T' mk N es acc hA
   split at hg
   ·rename_i x y hb
    obtain ⟨dS,hg⟩:=hg.cond;obtain ⟨hc,rfl⟩:=aH.jJ hg;simp only [aq] at dS;have hT:=aK dS.2;have an3:aU P T=n:=aK dS.1;subst hT;simp only [aq,lT] at hc;obtain ⟨⟨h0,h1⟩,h2⟩:=hc;obtain ⟨u,r',rfl,h3,h4⟩:=hv.cons_inv;rcases h3.yp with ⟨rfl,rfl,rfl⟩ | ⟨z,L,N',c,e1,rfl,e2,e3,e4⟩
    ·have KF:=Fq hb h4 h0 h1 h2 (aB _)
     have hx0:x.toNat=0:=by omega
     have hy0:y.toNat=0:=by omega
     refine ⟨.slice none (y.toNat - x.toNat) (0 - x.toNat),by simp [vj,KF],.O2 (.inl ⟨by omega,by omega,by rw [hx0,hy0]⟩)⟩
    ·have KF:=Fq hb h4 h0 h1 h2 e2
     obtain ⟨T2,N2,pj,ax,CO,_,_,cs,e,own,bK,bh,_,h5,_,_,_,h7⟩:=h.KH hA e1;simp only [KV.ts.injEq] at CO;obtain ⟨rfl,_⟩:=CO;refine ⟨.slice (some ⟨z,o * aU P T+x.toNat * n,none⟩) (y.toNat - x.toNat) (c - x.toNat),?_,.O2 (.inr ⟨z,L,N',c - x.toNat,e1,?_,by omega,by omega,?_⟩)⟩
     ·simp [vj,KF,cJ,CI,h5,h7,an3]
     ·simp only [Value.slice.injEq,bM,Addr.mk.injEq,and_true,true_and]
      rw [an3,Nat.add_mul]
     ·rw [<- e4]
      congr 1;omega
   ·exact hg.elim
  ·exact hg.elim
 ·exact hg.elim
theorem aea {len n:Nat} {lo hi:Bool} : afv P (Si len n lo hi) (MB len n lo hi false):=by
 intro E A B vs us v h hv hg;unfold Si at hg;split at hg
 ·rename_i b o r
  split at hg
  ·rename_i cs bp fp
   split at hg
   ·rename_i x y hb
    obtain ⟨dS,hg⟩:=hg.cond;simp only [aq] at dS;have yq:=aK dS.1;have hsz2:=dX dS.2;obtain ⟨hc,rfl⟩:=aH.jJ hg;simp only [aq,lT] at hc;obtain ⟨⟨h0,h1⟩,h2⟩:=hc;obtain ⟨u,r',rfl,h3,h4⟩:=hv.cons_inv;obtain ⟨z,hz,rfl⟩:=h3.hD;have KF:=Fq hb h4 h0 h1 h2 (aB _);obtain ⟨z',bL,e1,e2,e3⟩:=h.row b cs bp fp;rw [hz] at e1;simp at e1;subst e1;have hlen:=e3.length;refine ⟨.slice (some ⟨z,o+x.toNat * n,none⟩) (y.toNat - x.toNat) (len - x.toNat),?_,.aja hz⟩;have wB:Nat.ble (o+len * n) bL.length=true:=Nat.ble_eq_true_of_le (by omega);simp [MB,KF,cJ,CI,rowLen,e2,yq,wB]
    try omega
   ·exact hg.elim
  ·exact hg.elim
 ·exact hg.elim
theorem aeb {lo hi:Bool} : yI P (Sj lo hi) (HU lo hi):=by
 intro E vs us v hv hg;unfold Sj at hg;split at hg
 ·rename_i s r
  split at hg
  ·rename_i x y hb
   obtain ⟨hc,rfl⟩:=aH.jJ hg;simp only [aq,lT] at hc;obtain ⟨⟨h0,h1⟩,h2⟩:=hc;obtain ⟨u,r',rfl,h3,h4⟩:=hv.cons_inv;have:=h3.vw; subst this;have KF:=Fq hb h4 h0 h1 h2 (aB _);exact ⟨_,by simp [HU,KF],.mkStr⟩
  ·exact hg.elim
 ·exact hg.elim
theorem aec:afv P (fun _=>MN) HW:=by
 intro E A B vs us v h hv hg;have hg:aH (MN vs) v:=hg;unfold MN at hg;split at hg
 ·obtain ⟨u,rfl,h1⟩:=hv.ef
  have:=h1.pk; subst this;have hg:KV.str ⟨⟨[]⟩⟩=v:=hg;subst hg;exact ⟨_,rfl,.mkStr⟩
 ·rename_i T mk m es acc _
  obtain ⟨u,rfl,h1⟩:=hv.ef;obtain ⟨hc,rfl⟩:=aH.jJ hg;obtain ⟨ht,bh,h5,a,cap,rfl,h6,h7,_⟩:=h1.kW;have hlen:=ht.len;rcases h7 with ⟨rfl,hm⟩ | ⟨b,off,rr,rfl,h8,h9,pn⟩
  ·have:es = []:=qL.1 (by omega)
   subst this;exact ⟨_,rfl,.mkStr⟩
  ·have fp:=h.z b rr h8
   have AK:∀ (i:Nat) (w:Value),bh[i]? = some w->∃ e,es[i]? = some e/\w = .int .u8 (byteOf e).toNat/\w.cells.size=1:=by
    intro i w hw;have hi:i < es.length:=by rw [<- h5.length]; exact (cG.1 hw).1
    obtain ⟨w',e1,e2⟩:=h5.get (Wh hi);rw [hw] at e1;simp at e1;subst e1;have vp:=fg.1 hc _ (gh (Wh hi));refine ⟨_,Wh hi,?_⟩
    revert e2 vp
    generalize es.getD i .bf=e;intro e2 vp;cases e <;> simp [ai4] at vp;rename_i k q;cases k <;> simp at vp;have:=e2.cj; subst this;refine ⟨?_,rfl⟩;simp only [byteOf,Value.int.injEq,true_and];obtain ⟨p,rfl⟩:=Int.eq_ofNat_of_zero_le vp.1;have hp:p < 256:=by omega
    simp [UInt8.toNat_ofNat',Nat.mod_eq_of_lt hp]
   have apy:bh=es.map fun e=>.int .u8 (byteOf e).toNat:=by
    apply List.ext_getElem?;intro i;cases hw:bh[i]? with
    | none=>
     have:es.length<=i:=by rw [<- h5.length]; exact YT.1 hw
     simp [this]
    | some w=>
     obtain ⟨e,e1,e2,_⟩:=AK i w hw;simp [e1,e2]
   have yq:∀ i w,bh[i]? = some w->aU P T=1:=fun i w hw=>by
    obtain ⟨_,_,_,F5⟩:=AK i w hw;rw [<- (pn i w hw).1]; exact F5
   have F1:B.z6 ⟨b,off,none⟩ m=some bh:=by
    simp only [St.z6,cJ,Option.isNone_none,aj,Cg,fp,dN];have uY:bh.length=m:=by rw [h5.length]; exact hlen.symm
    have qO:∀ i,i < m->rr.cs[off+i]? = bh[i]?:=by
     intro i hi;have Vz:i < bh.length:=by omega
     have hw:bh[i]? = some bh[i]:=cI Vz;have h1':=yq i _ hw;obtain ⟨h12,h13⟩:=pn i _ hw;obtain ⟨e,e1,e2,_⟩:=AK i _ hw;have:=h13 0 bh[i] (by rw [e2]; rfl);rw [h1'] at this;rw [hw,<- this];congr 1;omega
    have hle:m<=(rr.cs.drop off).length:=by
     cases hm0:m with
     | zero=>omega
     | succ q=>
      have:=qO q (by omega);have hq:q < bh.length:=by omega
      rw [cI hq] at this;have:=(cG.1 this).1;simp;omega
    rw [vl,LQ hle];congr 1;apply List.ext_getElem?;intro i;rw [mg];split
    ·rename_i hi
     rw [o7];exact qO i hi
    ·rename_i hi
     exact (YT.2 (by omega)).symm
   have adR:∀ (l:List KV),JH (l.map fun e=>.int .u8 (byteOf e).toNat)=some (l.map byteOf):=by
    intro l
    induction l with
    | nil=>rfl
    | cons e l ih=>
     have hb:=(byteOf e).toNat_lt;show cond (Nat.blt (byteOf e).toNat 256) ((JH (l.map fun e=>.int .u8 (byteOf e).toNat)).map (UInt8.ofNat (byteOf e).toNat::·)) none=_;have:Nat.blt (byteOf e).toNat 256=true:=by rw [bF]; omega
     rw [this,aj,ih];simp
   refine ⟨.string ⟨⟨es.map byteOf⟩⟩,?_,.mkStr⟩;simp only [HW,F1,dN];rw [apy,adR];rfl
 ·exact hg.elim
theorem aam {b lo hi:Nat} : ∀ {L:List Nat} {B:St},(∀ x∈L,rH (B.get x) lo hi=false)->B.kill b lo hi L=B
 | [],B,_=>rfl
 | x::L,B,h=>by
  simp only [St.kill];rw [h x (by simp),Bool.and_false,aI];exact aam fun y hy=>h y (by simp [hy])
theorem cO.ajd {A:ae} {B:St} (sz:Nat) (h:dr P E A B):cO P E A B E (A.new (.aP 0 sz)) B:=by
 have hn:E.φ A.next=none:=by
  cases JB:E.φ A.next with
  | none=>rfl
  | some g=>have:=h.kK _ g JB; omega
 have hA:∀ (b:Nat) (v:KV),(A.new (.aP 0 sz)).get b=some (.arr v)->A.get b=some (.arr v):=fun b v hb=>by
  rw [ae.cq] at hb;split at hb
  ·simp at hb
  ·exact hb
 have Wd:∀ (b:Nat) (v:KV),(A.new (.aP 0 sz)).get b=some (.iA v)->A.get b=some (.iA v):=fun b v hb=>by
  rw [ae.cq] at hb;split at hb
  ·simp at hb
  ·exact hb
 refine ⟨⟨?_,?_,h.z,h.apart,h.inj,h.gz.new (.inr hn),fun b x e=>?_,fun b g e=>?_,?_,h.eV,h.lB,h.ik,h.fresh,h.mem,h.ar.dP (Env.le_refl _) (fun _=>rfl) hA Wd (by simp) (aB _) (fun _ _=>rfl) (fun _ _ e=>.inl e) (fun _ _ e=>.inl e) (fun b g e=>.inl ⟨b,e⟩) (fun _ _=>rfl) h.mem⟩,Env.le_refl _,by simp,fun _ _ _ _=>rfl,fun _ _ e=>.inl e,fun _ _ e=>.inl e,fun _ _ e=>.inl e,fun _ _ _ _=>rfl,fun _ q=>.inl (q.of (fun _=>rfl) hA),fun _ q=>.inl (q.of (fun _=>rfl) hA fun _ _=>rfl),fun _ _ q=>.inl q,fun _ q=>.inl (q.of (fun _=>rfl) hA (fun _ _=>rfl) fun _ _=>rfl),mm fun _ _=>rfl,h.aah⟩
 ·intro b cs bp hb
  rw [ae.cq] at hb;split at hb
  ·simp at hb
  ·exact h.row b cs bp hb
 ·intro b top F4 hb
  rw [ae.cq] at hb;split at hb
  ·rename_i e
   simp at hb;refine .inl ⟨hb.1.symm,?_⟩;cases JB:E.φ b with
   | none=>rfl
   | some g=>have:=h.kK b g JB; omega
  ·exact h.aP b top F4 hb
 ·have:=h.jI b x e; rw [ae.bS]; omega
 ·have:=h.kK b g e; rw [ae.bS]; omega
 ·intro b o hb
  rw [ae.cq] at hb;rw [ae.bS];split at hb
  ·omega
  ·have:=h.live b o hb; omega
theorem cO.grow {A:ae} {B:St} {f g top Ru sz:Nat} {c:List Value} (h:dr P E A B) (hA:A.get f=some (.aP top sz)) (hf:(E.φ f=none/\g=B.next)\/E.φ f=some g) (hc:c.length=Ru * sz) (ht:top<=Ru) (GD:0 < Ru) :
  cO P E A B ((E.eL B.next ⟨c,sz,true,some (g,0)⟩).vA f g) (A.put f (.aP Ru sz)) (B.grow g 0 c sz):=by
 have nU:∀ x,(B.grow g 0 c sz).get x=if x=B.next then some (.row c sz true (some (g,0))) else B.get x:=fun x=>by simp [St.grow]
 have mJ:∀ q,(B.grow g 0 c sz).members q=if q=g then B.next::B.members g else B.members q:=fun q=>by simp [St.grow,St.ET]
 have fU:(B.grow g 0 c sz).next=B.next+1:=rfl;have hlef:=h.live f _ hA;have hle:E.le ((E.eL B.next ⟨c,sz,true,some (g,0)⟩).vA f g):=by
  refine ⟨fun _ _ e=>e,fun _ _ e=>e,fun b r e=>?_,fun b q e=>?_⟩
  ·have:=h.lB b r e
   simp only [Env.vA,Env.eL]; rw [aa (by omega)]; exact e
  ·simp only [Env.vA,Env.eL]
   split
   ·rename_i e2
    subst e2;rcases hf with ⟨h1,_⟩ | h1
    ·rw [h1] at e; simp at e
    ·rw [h1] at e; exact e
   ·exact e
 have hg:g<=B.next:=by
  rcases hf with ⟨_,h1⟩ | h1
  ·omega
  ·have:=h.ik f g h1; omega
 generalize hB' : B.grow g 0 c sz=B' at nU mJ fU;have T7:∀ (b:Nat) (v:KV),(A.put f (.aP Ru sz)).get b=some (.arr v)->A.get b=some (.arr v):=fun b v hb=>by
  rw [ae.bA] at hb;split at hb
  ·simp at hb
  ·exact hb
 have Wd:∀ (b:Nat) (v:KV),(A.put f (.aP Ru sz)).get b=some (.iA v)->A.get b=some (.iA v):=fun b v hb=>by
  rw [ae.bA] at hb;split at hb
  ·simp at hb
  ·exact hb
 have BP:∀ x,x < B.next->B'.get x=B.get x:=fun x hx=>by rw [nU,aa (by omega)]
 have O9:∀ b r,((E.eL B.next ⟨c,sz,true,some (g,0)⟩).vA f g).z b=some r->E.z b=some r\/B.next<=b:=fun b r e=>by
  simp only [Env.vA,Env.eL] at e;split at e
  ·exact .inr (by omega)
  ·exact .inl e
 have an4:∀ b q,((E.eL B.next ⟨c,sz,true,some (g,0)⟩).vA f g).φ b=some q->E.φ b=some q\/B.next<=q:=fun b q e=>by
  simp only [Env.vA,Env.eL] at e;split at e
  ·rename_i e2
   simp at e;subst e e2;rcases hf with ⟨_,h1⟩ | h1
   ·exact .inr (by omega)
   ·exact .inl h1
  ·exact .inl e
 have SA:∀ q,AF A E B q->B'.members q=B.members q:=fun q hq=>by
  rw [mJ,aa];intro e2;subst e2;obtain ⟨b,v,x,L,N,cs,e,own,k,h1,h2,h3⟩:=hq;obtain ⟨h4,h5,_⟩:=h.ar.vy b v x L N cs e own q k h1 h2 h3;rcases hf with ⟨_,h1⟩ | h1
  ·omega
  ·exact h5 f h1
 have ahJ:∀ q y,y∈B'.members q->y∈B.members q\/B.next<=y:=fun q y hy=>by
  rw [mJ] at hy;split at hy
  ·rename_i e2
   subst e2;rcases de.1 hy with hy | hy
   ·exact .inr (by omega)
   ·exact .inl hy
  ·exact .inl hy
 refine ⟨⟨?_,?_,?_,?_,?_,?_,?_,?_,?_,?_,?_,?_,?_,?_,h.ar.dP hle (fun _=>rfl) T7 Wd (aB _) (by omega) (fun x q=>BP x (h.Ic q)) O9 (fun _ _ e=>.inl e) (fun b q e=>(an4 b q e).imp (fun e=>⟨b,e⟩) id) SA h.mem⟩,hle,aB _,?_,fun b x e=>.inl e,fun b r e=>(O9 b r e).imp id .inr,an4,fun q hq hn _=>by
  rw [mJ,aa];intro e2;subst e2;rcases hf with ⟨_,h1⟩ | h1
  ·omega
  ·exact hn f h1,fun _ q=>.inl (q.of (fun _=>rfl) T7),fun _ q=>.inl (q.of (fun _=>rfl) T7 fun x q=>BP x (h.Ic q)),ahJ,fun _ q=>.inl (q.of (fun _=>rfl) T7 (fun x q=>BP x (h.Ic q)) SA),mm BP,oV hA (by simp)⟩
 ·intro b cs bp hb
  rw [ae.bA] at hb;split at hb
  ·simp at hb
  ·obtain ⟨x,c2,h1,h2,h3⟩:=h.row b cs bp hb
   have:=h.eV b x h1;exact ⟨x,c2,h1,by rw [nU,aa (by omega)]; exact h2,h3.mono hle⟩
 ·intro b t F4 hb
  rw [ae.bA] at hb;split at hb
  ·rename_i e
   simp at hb;obtain ⟨rfl,rfl⟩:=hb;subst e;refine .inr ⟨g,by simp [Env.vA],GD,fun x hx cs e own q k hr=>?_⟩;rw [nU] at hr;rw [mJ,aE rfl] at hx;split at hr
   ·simp at hr
    obtain ⟨rfl,rfl,_,_,rfl⟩:=hr;exact ⟨rfl,Nat.le_of_eq hc⟩
   ·rename_i cH
    rcases de.1 hx with hx | hx
    ·exact absurd hx cH
    ·rcases hf with ⟨_,h1⟩ | h1
     ·rw [h1,h.fresh _ (aB _)] at hx; simp at hx
     ·rcases h.aP b top sz hA with ⟨_,h2⟩ | ⟨g2,h2,_,h3⟩
      ·rw [h1] at h2; simp at h2
      ·rw [h1] at h2
       simp at h2;subst h2;obtain ⟨h4,h5⟩:=h3 x hx cs e own q k hr;exact ⟨h4,gR h5 (Nat.mul_le_mul_right _ ht)⟩
  ·rename_i Fs
   rcases h.aP b t F4 hb with ⟨h1,h2⟩ | ⟨g2,h2,hp2,h3⟩
   ·exact .inl ⟨h1,by simp only [Env.vA,Env.eL]; rw [aa Fs]; exact h2⟩
   ·have cH:g2≠g:=by
     intro e;subst e;rcases hf with ⟨_,h1⟩ | h1
     ·have:=h.ik b g2 h2; omega
     ·exact Fs (h.gz b f g2 _ _ _ _ hb hA h2 h1)
    refine .inr ⟨g2,by simp only [Env.vA,Env.eL]; rw [aa Fs]; exact h2,hp2,fun x hx cs e own q k hr=>?_⟩;rw [mJ,aa cH] at hx;have:=h.mem g2 x hx;rw [nU,aa (by omega)] at hr;exact h3 x hx cs e own q k hr
 ·intro b r hb
  simp only [Env.vA,Env.eL] at hb;rw [nU];split at hb
  ·rename_i e; simp at hb; subst hb; rw [aE e]
  ·rename_i e; rw [aa e]; exact h.z b r hb
 ·intro b x hb
  have hb:E.κ b=some x:=hb;have:=h.eV b x hb;simp only [Env.vA,Env.eL];rw [aa (by omega)];exact h.apart b x hb
 ·exact h.inj
 ·intro b d q tb sb td sd lb ld hb hd
  simp only [Env.vA,Env.eL] at hb hd;rw [ae.bA] at lb ld;have key:∀ d t s,d≠f->A.get d=some (.aP t s)->E.φ d≠some g:=by
   intro d t s hd hl e;rcases hf with ⟨_,h1⟩ | h1
   ·have:=h.ik d g e; omega
   ·exact hd (h.gz d f g _ _ _ _ hl hA e h1)
  by_cases e1:b=f <;> by_cases e2:d=f
  ·omega
  ·rw [aE e1] at hb; rw [aa e2] at hd ld; simp at hb; subst hb; exact absurd hd (key d _ _ e2 ld)
  ·rw [aE e2] at hd; rw [aa e1] at hb lb; simp at hd; subst hd; exact absurd hb (key b _ _ e1 lb)
  ·rw [aa e1] at hb lb; rw [aa e2] at hd ld; exact h.gz b d q _ _ _ _ lb ld hb hd
 ·exact h.jI
 ·intro b q hb
  simp only [Env.vA,Env.eL] at hb;rw [ae.sv];split at hb
  ·omega
  ·exact h.kK b q hb
 ·intro b o hb
  rw [ae.bA] at hb;rw [ae.sv];split at hb
  ·omega
  ·exact h.live b o hb
 ·intro b x hb; have:=h.eV b x hb; omega
 ·intro b r hb
  simp only [Env.vA,Env.eL] at hb;rw [fU];split at hb
  ·omega
  ·have:=h.lB b r hb; omega
 ·intro b q hb
  simp only [Env.vA,Env.eL] at hb;rw [fU];split at hb
  ·simp at hb; omega
  ·have:=h.ik b q hb; omega
 ·intro q hq
  rw [fU] at hq;rw [mJ,aa (by omega)];exact h.fresh q (by omega)
 ·intro q x hx
  rw [fU];rw [mJ] at hx;split at hx
  ·rcases de.1 hx with hx | hx
   ·omega
   ·have:=h.mem g x hx; omega
  ·have:=h.mem q x hx; omega
 ·intro x hx _ _; rw [nU,aa (by omega)]
end Go.K
end
