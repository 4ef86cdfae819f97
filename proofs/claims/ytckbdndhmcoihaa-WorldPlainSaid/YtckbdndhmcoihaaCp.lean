/- Part of the proof of WorldPlain: the machine, shown to be the model's, and plain models. No conditions. -/
import Derived.Test.YtckbdndhmcoihaaBp
set_option linter.unusedSimpArgs false
set_option linter.unusedVariables false
section
namespace Go.K
open Go Go.aI
structure aeR where
 cs:List Value
 bm:Nat
 own:Bool
 bL:Option (Nat×Nat)
structure Env where
 κ:Nat->Option Nat
 z:Nat->Option aeR
 φ:Nat->Option Nat
 α:Nat->Option (Nat×Nat×Nat)
structure Env.le (E E' : Env):Prop where
 α:∀ b p,E.α b=some p->E'.α b=some p
 κ:∀ b x,E.κ b=some x->E'.κ b=some x
 z:∀ b r,E.z b=some r->E'.z b=some r
 φ:∀ b g,E.φ b=some g->E'.φ b=some g
theorem Env.le_refl (E:Env):E.le E:=⟨fun _ _ h=>h,fun _ _ h=>h,fun _ _ h=>h,fun _ _ h=>h⟩
theorem Env.le_trans {E F G:Env} (h:E.le F) (k:F.le G):E.le G:=⟨fun b p e=>k.α b p (h.α b p e),fun b x e=>k.κ b x (h.κ b x e),fun b x e=>k.z b x (h.z b x e),fun b x e=>k.φ b x (h.φ b x e)⟩
def qB (sz off:Nat) (cs es:List Value):Prop:=∀ (i:Nat) (x:Value),es[i]? = some x->x.cells.size=sz/\∀ (k:Nat) (y:Value),x.cells[k]? = some y->cs[off+i * sz+k]? = some y
def TD (E:Env) (sz:Nat) (a:Option Addr) (n:Nat) (es:List Value):Prop:=
 (a=none/\n=0)\/∃ b off r,a=some ⟨b,off,none⟩/\E.z b=some r/\r.bm=sz/\qB sz off r.cs es
def Qd (E:Env) (sz:Nat) (a:Option Addr) (n cap:Nat):Mk->Prop
 | .any=>True
 | .exact=>cap=n/\∀ b off,a=some ⟨b,off,none⟩->∃ r,E.z b=some r/\r.own=true/\r.bL=none/\off+cap * sz=r.cs.length
 | .aO f=>cap=n/\((n=0/\a=none)\/∃ b r g,a=some ⟨b,0,none⟩/\E.z b=some r/\r.own=true/\E.φ f=some g/\r.bL=some (g,0)/\r.cs.length=n * sz)
structure gW (P:Program) (T:TypeId) (n:Nat) (es:List KV) (acc:Nat->KV):Prop where
 len:n=es.length
 acc:∀ i,i < n->acc i=es.getD i .bf
 typed:dH (aQ P T) es=true
def aU (P:Program) (T:TypeId):Nat:=(aQ P T).ks.length
def aeS (P:Program) (E:Env) (T:TypeId) (m:Mk) (n:Nat) (bh:List Value) (v:Value):Prop:=
 ∃ a cap,v = .slice a n cap/\n<=cap/\TD E (aU P T) a n bh/\Qd E (aU P T) a n cap m
structure YB (P:Program) (T Tc:TypeId) (k:Nat):Prop where
 is:∀ m c,(aQ P Tc).ks[m]? = some c->(aQ P T).ks[k+m]? = some c
def aeT (P:Program) (E:Env) (T Tc:TypeId) (i k:Nat) (es:List KV) (bh:List Value) (v:Value):Prop:=
 i < es.length/\YB P T Tc k/\∃ b off r,v = .pointer (some ⟨b,off+i * aU P T+k,none⟩)/\E.z b=some r/\qB (aU P T) off r.cs bh
def Xe (P:Program) (E:Env) (T:TypeId) (b o n:Nat) (v:Value):Prop:=
 (n=0/\o=0/\v = .slice none 0 0)\/∃ x L N c,E.α b=some (x,L,N)/\v = .slice (some ⟨x,o * aU P T,none⟩) n c/\n<=c/\o+n<=N/\(o+c) * aU P T=L
def ach (P:Program) (E:Env) (T Tc:TypeId) (b i k:Nat) (v:Value):Prop:=
 ∃ x L N,E.α b=some (x,L,N)/\YB P T Tc k/\i < N/\v = .pointer (some ⟨x,i * aU P T+k,none⟩)
mutual
def VK (P:Program) (E:Env):KV->Value->Prop
 | .int k n,v=>v = .int k n
 | .bool b,v=>v = .bool b
 | .str s,v=>v = .string s
 | .agg cs,v=>∃ l,v = .agg ⟨l⟩/\aV P E cs l
 | .l8 cs,v=>∃ l,v = .tuple ⟨l⟩/\aV P E cs l
 | .ts T m n es acc,v=>gW P T n es acc/\∃ bh,aV P E es bh/\aeS P E T m n bh v
 | .tp T Tc i k es acc,v=>gW P T es.length es acc/\∃ bh,aV P E es bh/\aeT P E T Tc i k es bh v
 | .al T b o n,v=>Xe P E T b o n v
 | .ap T Tc b i k,v=>ach P E T Tc b i k v
 | .ptr b off,v=>∃ x,E.κ b=some x/\v = .pointer (some ⟨x,off,none⟩)
 | .sl b off n c,v=>∃ x,E.κ b=some x/\v = .slice (some ⟨x,off,none⟩) n c
 | .Gt,v=>v = .pointer none
 | .ko,v=>v = .slice none 0 0
 | .CN,v=>v = .map none
 | .map b,v=>∃ x,E.κ b=some x/\v = .map (some x)
 | .fn f first cap,v=>∃ l m,v = .func f ⟨l⟩ ⟨m⟩/\aV P E first l/\aV P E cap m
 | .HQ,v=>v = .nilFunc
 | .iface t x,v=>∃ y,v = .iface t y/\VK P E x y
 | .HR,v=>v = .nilIface
 | .bf,_=>True
def aV (P:Program) (E:Env):List KV->List Value->Prop
 | [],l=>l = []
 | x::xs,l=>∃ y ys,l=y::ys/\VK P E x y/\aV P E xs ys
end
variable {P:Program} {E E' : Env}
theorem Qd.mono (h:E.le E') {sz:Nat} {a:Option Addr} {n cap:Nat} {m:Mk} (k:Qd E sz a n cap m):Qd E' sz a n cap m:=by
 cases m with
 | any=>trivial
 | exact=>exact ⟨k.1,fun b off e=>by obtain ⟨r,h1,h2⟩:=k.2 b off e; exact ⟨r,h.z _ _ h1,h2⟩⟩
 | aO f=>
  refine ⟨k.1,k.2.imp id ?_⟩;rintro ⟨b,r,g,h1,h2,h3,h4,h5⟩;exact ⟨b,r,g,h1,h.z _ _ h2,h3,h.φ _ _ h4,h5⟩
theorem TD.mono (h:E.le E') {sz:Nat} {a:Option Addr} {n:Nat} {es:List Value} (k:TD E sz a n es):TD E' sz a n es:=by
 refine k.imp id ?_;rintro ⟨b,off,r,h1,h2,h3⟩;exact ⟨b,off,r,h1,h.z _ _ h2,h3⟩
theorem aeS.mono (h:E.le E') {T:TypeId} {m:Mk} {n:Nat} {es:List Value} {v:Value} (k:aeS P E T m n es v):aeS P E' T m n es v:=by
 obtain ⟨a,cap,h1,h2,h3,h4⟩:=k;exact ⟨a,cap,h1,h2,h3.mono h,h4.mono h⟩
theorem aeT.mono (h:E.le E') {T Tc:TypeId} {i k:Nat} {es:List KV} {bh:List Value} {v:Value} (q:aeT P E T Tc i k es bh v):aeT P E' T Tc i k es bh v:=by
 obtain ⟨h1,h2,b,off,r,h3,h4,h5⟩:=q;exact ⟨h1,h2,b,off,r,h3,h.z _ _ h4,h5⟩
theorem Xe.mono (h:E.le E') {T:TypeId} {b o n:Nat} {v:Value} (q:Xe P E T b o n v):Xe P E' T b o n v:=by
 refine q.imp id ?_;rintro ⟨x,L,N,c,h1,h2⟩;exact ⟨x,L,N,c,h.α _ _ h1,h2⟩
theorem ach.mono (h:E.le E') {T Tc:TypeId} {b i k:Nat} {v:Value} (q:ach P E T Tc b i k v):ach P E' T Tc b i k v:=by
 obtain ⟨x,L,N,h1,h2⟩:=q;exact ⟨x,L,N,h.α _ _ h1,h2⟩
mutual
theorem VK.mono (h:E.le E'):∀ {v:KV} {v' : Value},VK P E v v'->VK P E' v v'
 | .int k n,v,q=>q
 | .bool b,v,q=>q
 | .str s,v,q=>q
 | .agg cs,v,q=>by
  simp only [VK] at q ⊢;obtain ⟨l,e,q⟩:=q;exact ⟨l,e,aV.mono h q⟩
 | .l8 cs,v,q=>by
  simp only [VK] at q ⊢;obtain ⟨l,e,q⟩:=q;exact ⟨l,e,aV.mono h q⟩
 | .ts T m n es acc,v,q=>by
  simp only [VK] at q ⊢;obtain ⟨t,l,q,k⟩:=q;exact ⟨t,l,aV.mono h q,k.mono h⟩
 | .tp T Tc i k es acc,v,q=>by
  simp only [VK] at q ⊢;obtain ⟨t,l,q,k⟩:=q;exact ⟨t,l,aV.mono h q,k.mono h⟩
 | .al T b o n,v,q=>by
  simp only [VK] at q ⊢;exact q.mono h
 | .ap T Tc b i k,v,q=>by
  simp only [VK] at q ⊢;exact q.mono h
 | .ptr b off,v,q=>by
  simp only [VK] at q ⊢;obtain ⟨x,e,q⟩:=q;exact ⟨x,h.κ _ _ e,q⟩
 | .sl b off n c,v,q=>by
  simp only [VK] at q ⊢;obtain ⟨x,e,q⟩:=q;exact ⟨x,h.κ _ _ e,q⟩
 | .Gt,v,q=>q
 | .ko,v,q=>q
 | .CN,v,q=>q
 | .map b,v,q=>by
  simp only [VK] at q ⊢;obtain ⟨x,e,q⟩:=q;exact ⟨x,h.κ _ _ e,q⟩
 | .fn f first cap,v,q=>by
  simp only [VK] at q ⊢;obtain ⟨l,m,e,q1,q2⟩:=q;exact ⟨l,m,e,aV.mono h q1,aV.mono h q2⟩
 | .HQ,v,q=>q
 | .iface t x,v,q=>by
  simp only [VK] at q ⊢;obtain ⟨y,e,q⟩:=q;exact ⟨y,e,VK.mono h q⟩
 | .HR,v,q=>q
 | .bf,v,q=>q
theorem aV.mono (h:E.le E'):∀ {v:List KV} {v' : List Value},aV P E v v'->aV P E' v v'
 | [],_,q=>q
 | x::xs,_,q=>by
  simp only [aV] at q ⊢;obtain ⟨y,ys,e,q1,q2⟩:=q;exact ⟨y,ys,e,VK.mono h q1,aV.mono h q2⟩
end
theorem aV.nil:aV P E [] []:=by simp [aV]
theorem aV.cons {x:KV} {y:Value} {xs:List KV} {ys:List Value} (h:VK P E x y) (k:aV P E xs ys):aV P E (x::xs) (y::ys):=by
 simp only [aV]; exact ⟨y,ys,rfl,h,k⟩
theorem aV.bX {l:List Value} (h:aV P E [] l):l = []:=by simpa [aV] using h
theorem aV.cons_inv {x:KV} {xs:List KV} {l:List Value} (h:aV P E (x::xs) l):∃ y ys,l=y::ys/\VK P E x y/\aV P E xs ys:=by simpa [aV] using h
theorem aV.dX {x:KV} {l:List Value} (h:aV P E [x] l):∃ y,l = [y]/\VK P E x y:=by
 obtain ⟨y,ys,rfl,h1,h2⟩:=h.cons_inv;rw [h2.bX]; exact ⟨y,rfl,h1⟩
theorem aV.j9 {x y:KV} {l:List Value} (h:aV P E [x,y] l):∃ x' y',l = [x',y']/\VK P E x x'/\VK P E y y':=by
 obtain ⟨a,ys,rfl,h1,h2⟩:=h.cons_inv;obtain ⟨b,rfl,h3⟩:=h2.dX;exact ⟨a,b,rfl,h1,h3⟩
theorem aV.R7 {x y u:KV} {l:List Value} (h:aV P E [x,y,u] l):∃ x' y' u',l = [x',y',u']/\VK P E x x'/\VK P E y y'/\VK P E u u':=by
 obtain ⟨a,ys,rfl,h1,h2⟩:=h.cons_inv;obtain ⟨b,c,rfl,h3,h4⟩:=h2.j9;exact ⟨a,b,c,rfl,h1,h3,h4⟩
theorem aV.length:∀ {l:List KV} {l' : List Value},aV P E l l'->l'.length=l.length
 | [],l',h=>by rw [h.bX]; rfl
 | x::xs,l',h=>by
  obtain ⟨y,ys,rfl,_,k⟩:=h.cons_inv;simp [aV.length k]
theorem aV.get:∀ {l:List KV} {l' : List Value} {i:Nat} {v:KV},aV P E l l'->l[i]? = some v->∃ v',l'[i]? = some v'/\VK P E v v'
 | [],_,_,_,_,e=>by simp at e
 | x::xs,l',i,v,h,e=>by
  obtain ⟨y,ys,rfl,CI,k⟩:=h.cons_inv;cases i with
  | zero=>simp at e; subst e; exact ⟨y,rfl,CI⟩
  | succ i=>simp at e; simpa using aV.get k e
theorem aV.append:∀ {a:List KV} {a' : List Value} {b:List KV} {b' : List Value},aV P E a a'->aV P E b b'->aV P E (a++b) (a'++b')
 | [],a',b,b',h,k=>by rw [h.bX]; exact k
 | x::xs,a',b,b',h,k=>by
  obtain ⟨y,ys,rfl,CI,m⟩:=h.cons_inv;exact .cons CI (aV.append m k)
theorem aV.take:∀ (n:Nat) {l:List KV} {l' : List Value},aV P E l l'->aV P E (l.take n) (l'.take n)
 | 0,_,_,_=>by simp [aV.nil]
 | n+1,[],l',h=>by rw [h.bX]; simp [aV.nil]
 | n+1,x::xs,l',h=>by
  obtain ⟨y,ys,rfl,CI,k⟩:=h.cons_inv;simpa using aV.cons CI (aV.take n k)
theorem aV.drop:∀ (n:Nat) {l:List KV} {l' : List Value},aV P E l l'->aV P E (l.drop n) (l'.drop n)
 | 0,_,_,h=>by simpa using h
 | n+1,[],l',h=>by rw [h.bX]; simp [aV.nil]
 | n+1,x::xs,l',h=>by
  obtain ⟨y,ys,rfl,_,k⟩:=h.cons_inv;simpa using aV.drop n k
theorem Qe {α:Type} : ∀ {n:Nat} {l r:List α},yy n l=some r->r=l.take n/\n<=l.length
 | 0,l,r,h=>by simp [yy] at h; subst h; simp
 | n+1,[],r,h=>by simp [yy] at h
 | n+1,x::xs,r,h=>by
  simp only [yy,ck] at h;obtain ⟨q,hq,rfl⟩:=h;obtain ⟨rfl,hn⟩:=Qe hq;exact ⟨by simp,by simpa using hn⟩
theorem Lu {α:Type} : ∀ (n:Nat) (l:List α),D5 n l=l.drop n
 | 0,l=>rfl
 | n+1,[]=>rfl
 | n+1,x::xs=>by simp [D5,Lu n xs]
theorem Lv:∀ {n:Nat} {l:List Value},n<=l.length->takeN n l=some (l.take n)
 | 0,l,_=>rfl
 | n+1,[],h=>by simp at h
 | n+1,x::xs,h=>by rw [WU,Lv (n:=n) (l:=xs) (by simpa using h)]; rfl
theorem aV.yy {n k:Nat} {l r:List KV} {l' : List Value} (h:aV P E l l') (e:yy n (D5 k l)=some r):∃ r',takeN n (HD k l')=some r'/\aV P E r r'/\r' = (l'.drop k).take n:=by
 obtain ⟨rfl,hn⟩:=Qe e;rw [Lu] at hn ⊢;have hl:=h.length;rw [vb];refine ⟨_,Lv ?_,(h.drop k).take n,rfl⟩;simp only [List.length_drop] at hn ⊢;omega
theorem aV.kW:∀ {n:Nat} {l:List KV} {l' : List Value} {vs r:List KV} {b6:List Value},kW n l vs=some r->aV P E l l'->aV P E vs b6->∃ r',gx n l' b6=some r'/\aV P E r r'
 | 0,l,l',[],r,b6,h,hl,hv=>by simp [K.kW] at h; subst h; rw [hv.bX]; exact ⟨l',BF l',hl⟩
 | 0,[],l',_::_,r,b6,h,hl,hv=>by simp [K.kW] at h
 | 0,x::l,l',v::vs,r,b6,h,hl,hv=>by
  obtain ⟨y,ys,rfl,_,k⟩:=hl.cons_inv;obtain ⟨u,us,rfl,h1,h2⟩:=hv.cons_inv;simp only [K.kW,ck] at h;obtain ⟨q,hq,rfl⟩:=h;obtain ⟨r',e,hr⟩:=aV.kW hq k h2;exact ⟨u::r',by simp [yu,e],.cons h1 hr⟩
 | n+1,[],l',[],r,b6,h,hl,hv=>by simp [K.kW] at h; subst h; rw [hl.bX,hv.bX]; exact ⟨[],rfl,.nil⟩
 | n+1,[],l',_::_,r,b6,h,hl,hv=>by simp [K.kW] at h
 | n+1,x::l,l',vs,r,b6,h,hl,hv=>by
  obtain ⟨y,ys,rfl,h1,k⟩:=hl.cons_inv;simp only [K.kW,ck] at h;obtain ⟨q,hq,rfl⟩:=h;obtain ⟨r',e,hr⟩:=aV.kW hq k hv;exact ⟨y::r',by simp [ux,e],.cons h1 hr⟩
theorem aV.adu:∀ {l:List KV} {l' : List Value},l'.length=l.length->(∀ (i:Nat) (v:KV) (v' : Value),l[i]? = some v->l'[i]? = some v'->VK P E v v')->aV P E l l'
 | [],l',h,_=>by cases l' <;> simp_all [aV.nil]
 | x::xs,l',h,k=>by
  cases l' with
  | nil=>simp at h
  | cons y ys=>exact .cons (k 0 x y rfl rfl) (aV.adu (by simpa using h) fun i v v' e e'=>k (i+1) v v' (by simpa using e) (by simpa using e'))
theorem VK.cj {k:IntKind} {n:Int} {v:Value} (h:VK P E (.int k n) v):v = .int k n:=by simpa [VK] using h
theorem VK.eG {b:Bool} {v:Value} (h:VK P E (.bool b) v):v = .bool b:=by simpa [VK] using h
theorem VK.vl {s:ByteArray} {v:Value} (h:VK P E (.str s) v):v = .string s:=by simpa [VK] using h
theorem VK.kK {cs:List KV} {v:Value} (h:VK P E (.agg cs) v):∃ l,v = .agg ⟨l⟩/\aV P E cs l:=by simpa [VK] using h
theorem VK.OH {cs:List KV} {v:Value} (h:VK P E (.l8 cs) v):∃ l,v = .tuple ⟨l⟩/\aV P E cs l:=by simpa [VK] using h
theorem VK.hO {b off:Nat} {v:Value} (h:VK P E (.ptr b off) v):∃ x,E.κ b=some x/\v = .pointer (some ⟨x,off,none⟩):=by simpa [VK] using h
theorem VK.Qf {b off n c:Nat} {v:Value} (h:VK P E (.sl b off n c) v):∃ x,E.κ b=some x/\v = .slice (some ⟨x,off,none⟩) n c:=by simpa [VK] using h
theorem VK.JD {f:Fn} {a b:List KV} {v:Value} (h:VK P E (.fn f a b) v):∃ l m,v = .func f ⟨l⟩ ⟨m⟩/\aV P E a l/\aV P E b m:=by simpa [VK] using h
theorem VK.kY {T:TypeId} {m:Mk} {n:Nat} {es:List KV} {acc:Nat->KV} {v:Value} (h:VK P E (.ts T m n es acc) v):gW P T n es acc/\∃ bh,aV P E es bh/\aeS P E T m n bh v:=by simpa [VK] using h
theorem VK.MA {T Tc:TypeId} {i k:Nat} {es:List KV} {acc:Nat->KV} {v:Value} (h:VK P E (.tp T Tc i k es acc) v):gW P T es.length es acc/\∃ bh,aV P E es bh/\aeT P E T Tc i k es bh v:=by simpa [VK] using h
theorem VK.yh {T:TypeId} {b o n:Nat} {v:Value} (h:VK P E (.al T b o n) v):Xe P E T b o n v:=by simpa [VK] using h
theorem VK.JE {T Tc:TypeId} {b i k:Nat} {v:Value} (h:VK P E (.ap T Tc b i k) v):ach P E T Tc b i k v:=by simpa [VK] using h
theorem VK.OI {T:TypeId} {b o n:Nat} {v:Value} (h:Xe P E T b o n v):VK P E (.al T b o n) v:=by simpa [VK] using h
theorem VK.ak5 {T Tc:TypeId} {b i k:Nat} {v:Value} (h:ach P E T Tc b i k v):VK P E (.ap T Tc b i k) v:=by simpa [VK] using h
theorem Xe.slice {T:TypeId} {b o n:Nat} {v:Value} (h:Xe P E T b o n v):∃ a c,v = .slice a n c:=by
 rcases h with ⟨rfl,_,rfl⟩ | ⟨x,L,N,c,_,rfl,_⟩
 ·exact ⟨_,_,rfl⟩
 ·exact ⟨_,_,rfl⟩
theorem VK.pb {v:Value} (h:VK P E .ko v):v = .slice none 0 0:=by simpa [VK] using h
theorem VK.Qg {v:Value} (h:VK P E .Gt v):v = .pointer none:=by simpa [VK] using h
theorem VK.mkInt {k:IntKind} {n:Int} : VK P E (.int k n) (.int k n):=by simp [VK]
theorem VK.tR {b:Bool} : VK P E (.bool b) (.bool b):=by simp [VK]
theorem VK.mkStr {s:ByteArray} : VK P E (.str s) (.string s):=by simp [VK]
theorem VK.rC {cs:List KV} {l:List Value} (h:aV P E cs l):VK P E (.agg cs) (.agg ⟨l⟩):=by simp only [VK]; exact ⟨l,rfl,h⟩
theorem VK.VL {cs:List KV} {l:List Value} (h:aV P E cs l):VK P E (.l8 cs) (.tuple ⟨l⟩):=by simp only [VK]; exact ⟨l,rfl,h⟩
theorem VK.BH {b x off:Nat} (h:E.κ b=some x):VK P E (.ptr b off) (.pointer (some ⟨x,off,none⟩)):=by simp only [VK]; exact ⟨x,h,rfl⟩
theorem VK.aiC {b x off n c:Nat} (h:E.κ b=some x):VK P E (.sl b off n c) (.slice (some ⟨x,off,none⟩) n c):=by simp only [VK]; exact ⟨x,h,rfl⟩
theorem VK.aeU {f:Fn} {a b:List KV} {l m:List Value} (h:aV P E a l) (k:aV P E b m):VK P E (.fn f a b) (.func f ⟨l⟩ ⟨m⟩):=by simp only [VK]; exact ⟨l,m,rfl,h,k⟩
theorem VK.undef:VK P E tP undef:=VK.VL .nil
theorem VK.vm {v:Value} : VK P E .bf v:=by simp [VK]
theorem VK.cells {v:KV} {v' : Value} (h:VK P E v v') (hu:yg v=true):aV P E v.cells v'.cells.toList:=by
 cases v with
 | agg cs=>obtain ⟨l,rfl,q⟩:=h.kK; exact q
 | int k n=>have:=h.cj; subst this; exact .cons h .nil
 | bool b=>have:=h.eG; subst this; exact .cons h .nil
 | str b=>have:=h.vl; subst this; exact .cons h .nil
 | l8 cs=>have q:=h; obtain ⟨l,rfl,_⟩:=h.OH; exact .cons q .nil
 | ts T m n es acc=>have q:=h; obtain ⟨_,_,_,a,cap,rfl,_⟩:=h.kY; exact .cons q .nil
 | tp T Tc i k es acc=>have q:=h; obtain ⟨_,_,_,_,_,b,off,r,rfl,_⟩:=h.MA; exact .cons q .nil
 | al T b o n=>have q:=h; obtain ⟨a,c,rfl⟩:=h.yh.slice; exact .cons q .nil
 | ap T Tc b i k=>have q:=h; obtain ⟨x,L,N,_,_,_,rfl⟩:=h.JE; exact .cons q .nil
 | ptr b off=>have q:=h; obtain ⟨x,_,rfl⟩:=h.hO; exact .cons q .nil
 | sl b off n c=>have q:=h; obtain ⟨x,_,rfl⟩:=h.Qf; exact .cons q .nil
 | Gt=>have q:=h; simp only [VK] at h; subst h; exact .cons q .nil
 | ko=>have q:=h; simp only [VK] at h; subst h; exact .cons q .nil
 | CN=>have q:=h; simp only [VK] at h; subst h; exact .cons q .nil
 | map b=>have q:=h; simp only [VK] at h; obtain ⟨x,_,rfl⟩:=h; exact .cons q .nil
 | fn f a b=>have q:=h; obtain ⟨l,m,rfl,_⟩:=h.JD; exact .cons q .nil
 | HQ=>have q:=h; simp only [VK] at h; subst h; exact .cons q .nil
 | iface t x=>have q:=h; simp only [VK] at h; obtain ⟨y,rfl,_⟩:=h; exact .cons q .nil
 | HR=>have q:=h; simp only [VK] at h; subst h; exact .cons q .nil
 | bf=>simp [yg] at hu
theorem VK.scalar {v:KV} {v' : Value} (h:VK P E v v') (ho:one v=true):aI.scalar v' = true:=by
 cases v with
 | agg cs=>simp [one] at ho
 | l8 cs=>simp [one] at ho
 | bf=>simp [one] at ho
 | int k n=>have:=h.cj; subst this; rfl
 | bool b=>have:=h.eG; subst this; rfl
 | str b=>have:=h.vl; subst this; rfl
 | ts T m n es acc=>obtain ⟨_,_,_,a,cap,rfl,_⟩:=h.kY; rfl
 | tp T Tc i k es acc=>obtain ⟨_,_,_,_,_,b,off,r,rfl,_⟩:=h.MA; rfl
 | al T b o n=>obtain ⟨a,c,rfl⟩:=h.yh.slice; rfl
 | ap T Tc b i k=>obtain ⟨x,L,N,_,_,_,rfl⟩:=h.JE; rfl
 | ptr b off=>obtain ⟨x,_,rfl⟩:=h.hO; rfl
 | sl b off n c=>obtain ⟨x,_,rfl⟩:=h.Qf; rfl
 | Gt=>simp only [VK] at h; subst h; rfl
 | ko=>simp only [VK] at h; subst h; rfl
 | CN=>simp only [VK] at h; subst h; rfl
 | map b=>simp only [VK] at h; obtain ⟨x,_,rfl⟩:=h; rfl
 | fn f a b=>obtain ⟨l,m,rfl,_⟩:=h.JD; rfl
 | HQ=>simp only [VK] at h; subst h; rfl
 | iface t x=>simp only [VK] at h; obtain ⟨y,rfl,_⟩:=h; rfl
 | HR=>simp only [VK] at h; subst h; rfl
theorem aV.scalar:∀ {l:List KV} {l' : List Value},aV P E l l'->gC l=true->∀ v∈l',aI.scalar v=true
 | [],l',h,_,v,hv=>by rw [h.bX] at hv; simp at hv
 | x::xs,l',h,ho,v,hv=>by
  obtain ⟨y,ys,rfl,h1,h2⟩:=h.cons_inv;simp only [gC,ao] at ho;rcases de.1 hv with rfl | hv
  ·exact h1.scalar ho.1
  ·exact aV.scalar h2 ho.2 v hv
theorem AK {v:KV} (h:gC v.cells=true):yg v=true:=by
 cases v <;> first | rfl | simp [KV.cells,gC,one] at h
mutual
theorem VK.fy:∀ (v:Value),VK P E (fy v) v
 | .bool b=>by simp [K.fy,VK]
 | .int k n=>by simp [K.fy,VK]
 | .string s=>by simp [K.fy,VK]
 | .pointer none=>by simp [K.fy,VK]
 | .pointer (some a)=>by simp [K.fy,VK]
 | .slice none 0 0=>by simp [K.fy,VK]
 | .slice none 0 (n+1)=>by simp [K.fy,VK]
 | .slice none (n+1) c=>by simp [K.fy,VK]
 | .slice (some a) n c=>by simp [K.fy,VK]
 | .map none=>by simp [K.fy,VK]
 | .map (some r)=>by simp [K.fy,VK]
 | .nilFunc=>by simp [K.fy,VK]
 | .nilIface=>by simp [K.fy,VK]
 | .agg cs=>by
  obtain ⟨l⟩:=cs;simp only [K.fy,ofA];exact .rC (aV.ofL l)
 | .tuple cs=>by
  obtain ⟨l⟩:=cs;simp only [K.fy,ofA];exact .VL (aV.ofL l)
 | .float _ _=>by simp [K.fy,VK]
 | .complex _ _ _=>by simp [K.fy,VK]
 | .chan _=>by simp [K.fy,VK]
 | .func _ _ _=>by simp [K.fy,VK]
 | .iface _ _=>by simp [K.fy,VK]
theorem aV.ofL:∀ (l:List Value),aV P E (ofL l) l
 | []=>.nil
 | v::vs=>.cons (VK.fy v) (aV.ofL vs)
end
theorem D9 {z:Value} (h:gC (fy z).cells=true):aV P E (fy z).cells z.cells.toList:=(VK.fy z).cells (AK h)
def G2 (E:Env) (A:ae):Prop:=∀ b c g tb sb tc sc,A.get b=some (.aO tb sb)->A.get c=some (.aO tc sc)->E.φ b=some g->E.φ c=some g->b=c
def AR (A:ae) (E:Env) (x:Nat):Prop:=∃ b v L N,A.get b=some (.arr v)/\E.α b=some (x,L,N)
def AF (A:ae) (E:Env) (B:St) (g:Nat):Prop:=∃ b v x L N cs e own k,A.get b=some (.arr v)/\E.α b=some (x,L,N)/\B.get x=some (.row cs e own (some (g,k)))
def AT (A:ae) (E:Env) (B:St) (y:Nat):Prop:=AR A E y\/∃ g,AF A E B g/\y∈B.members g
def Zz (P:Program) (E:Env) (B:St) (b:Nat) (v:KV):Prop:=∃ T N es acc,v = .ts T .any N es acc/\gW P T N es acc/\1<=aU P T/\
 ((N=0/\E.α b=none)\/∃ x cs bL bh,E.α b=some (x,cs.length,N)/\B.get x=some (.row cs (aU P T) true bL)/\aV P E es bh/\qB (aU P T) 0 cs bh)
def TE (P:Program) (E:Env) (b:Nat) (v:KV):Prop:=∃ T N es acc,v = .ts T .any N es acc/\gW P T N es acc/\1<=aU P T/\
 ((N=0/\E.α b=none)\/∃ x r bh,E.α b=some (x,r.cs.length,N)/\E.z x=some r/\r.bm=aU P T/\aV P E es bh/\qB (aU P T) 0 r.cs bh)
theorem Zz.mono (h:E.le E') {B B' : St} {b:Nat} {v:KV} (tS:E'.α b=E.α b) (hB:∀ x L N,E.α b=some (x,L,N)->B'.get x=B.get x) (q:Zz P E B b v):Zz P E' B' b v:=by
 obtain ⟨T,N,es,acc,h1,h2,h3,h4⟩:=q;refine ⟨T,N,es,acc,h1,h2,h3,?_⟩;rcases h4 with ⟨h4,h5⟩ | ⟨x,cs,bL,bh,h4,h5,h6,h7⟩
 ·exact .inl ⟨h4,by rw [tS]; exact h5⟩
 ·exact .inr ⟨x,cs,bL,bh,by rw [tS]; exact h4,by rw [hB _ _ _ h4]; exact h5,h6.mono h,h7⟩
theorem TE.mono (h:E.le E') {b:Nat} {v:KV} (tS:E'.α b=E.α b) (q:TE P E b v):TE P E' b v:=by
 obtain ⟨T,N,es,acc,h1,h2,h3,h4⟩:=q;refine ⟨T,N,es,acc,h1,h2,h3,?_⟩;rcases h4 with ⟨h4,h5⟩ | ⟨x,r,bh,h4,h5,h6,h7,h8⟩
 ·exact .inl ⟨h4,by rw [tS]; exact h5⟩
 ·exact .inr ⟨x,r,bh,by rw [tS]; exact h4,h.z _ _ h5,h6,h7.mono h,h8⟩
structure MB (P:Program) (E:Env) (A:ae) (B:St):Prop where
 arr:∀ b v,A.get b=some (.arr v)->Zz P E B b v
 iC:∀ b v,A.get b=some (.iC v)->TE P E b v
 z:∀ x,AR A E x->E.z x=none/\∀ c,E.κ c≠some x
 inj:∀ b c v u x L N L' N',A.get b=some (.arr v)->A.get c=some (.arr u)->E.α b=some (x,L,N)->E.α c=some (x,L',N')->b=c
 wW:∀ b c v u x y L N L' N' cs e own g k bM e' rb k',A.get b=some (.arr v)->A.get c=some (.arr u)->E.α b=some (x,L,N)->E.α c=some (y,L',N')->B.get x=some (.row cs e own (some (g,k)))->B.get y=some (.row bM e' rb (some (g,k')))->b=c
 ZA:∀ b x,E.κ b=some x->E.α b=none
 jM:∀ b p,E.α b=some p->b < A.next
 eS:∀ b x L N,E.α b=some (x,L,N)->x < B.next
 vo:∀ b v x L N cs e own g k,A.get b=some (.arr v)->E.α b=some (x,L,N)->B.get x=some (.row cs e own (some (g,k)))->g < B.next/\(∀ f,E.φ f≠some g)/\∀ y∈B.members g,y≠x->E.z y=none/\¬ AR A E y/\∀ c,E.κ c≠some y
 nk:∀ b v,A.get b=some (.arr v)->b < A.next/\E.κ b=none
structure dr (P:Program) (E:Env) (A:ae) (B:St):Prop where
 row:∀ b cs bm,A.get b=some (.row cs bm)->∃ x bM,E.κ b=some x/\B.get x=some (.row bM bm true none)/\aV P E cs bM
 aO:∀ b top sz,A.get b=some (.aO top sz)->(top=0/\E.φ b=none)\/∃ g,E.φ b=some g/\0 < top/\∀ x∈B.members g,∀ cs e own f k,B.get x=some (.row cs e own (some (f,k)))->k=0/\cs.length<=top * sz
 z:∀ b r,E.z b=some r->B.get b=some (.row r.cs r.bm r.own r.bL)
 apart:∀ b x,E.κ b=some x->E.z x=none
 inj:∀ b c x,E.κ b=some x->E.κ c=some x->b=c
 gD:G2 E A
 jM:∀ b x,E.κ b=some x->b < A.next
 kL:∀ b g,E.φ b=some g->b < A.next
 live:∀ b o,A.get b=some o->b < A.next
 eS:∀ b x,E.κ b=some x->x < B.next
 lD:∀ b r,E.z b=some r->b < B.next
 il:∀ b g,E.φ b=some g->g < B.next
 fresh:∀ g,B.next<=g->B.members g = []
 mem:∀ g x,x∈B.members g->x < B.next
 ar:MB P E A B
abbrev wg:gU:=.map []
structure Ev (P:Program) (base:Nat) (E:Env) (A:ae) (B:St) (ρ:Ren) (w:World) (E' : Env) (A' : ae) (B' : St) (aF:Ren) (w' : World):Prop where
 fT:dr P E' A' B'
 eE:iX base ρ B w aF B' w'
 le:E.le E'
 next:A.next<=A'.next
 dL:∀ x,x < B.next->(∀ b,E.κ b=some x->A.get b=some wg)->¬ AT A E B x->B'.get x=B.get x
 new:∀ b x,E'.κ b=some x->E.κ b=some x\/A.next<=b/\B.next<=x
 tT:∀ b r,E'.z b=some r->E.z b=some r\/AR A E b\/B.next<=b
 rZ:∀ b g,E'.φ b=some g->(∃ c,E.φ c=some g)\/B.next<=g
 oK:∀ g,g < B.next->(∀ b,E.φ b≠some g)->¬ AF A E B g->B'.members g=B.members g
 kr:∀ x,AR A' E' x->AR A E x\/B.next<=x
 kM:∀ g,AF A' E' B' g->AF A E B g\/B.next<=g
 vp:∀ g y,y∈B'.members g->y∈B.members g\/B.next<=y
 lX:∀ y,AT A' E' B' y->AT A E B y\/B.next<=y
 rows:∀ y,y < B.next->∀ cs e own bL,B'.get y=some (.row cs e own bL)->∃ lW,B.get y=some (.row lW e own bL)/\lW.length=cs.length
 CR:∀ b,A.get b=some wg->A'.get b=some wg
theorem Ev.refl {base:Nat} {A:ae} {B:St} {ρ:Ren} {w:World} (h:dr P E A B) (s:vc ρ B base w):Ev P base E A B ρ w E A B ρ w:=
 ⟨h,.refl s,Env.le_refl _,aB _,fun _ _ _ _=>rfl,fun _ _ h=>.inl h,fun _ _ h=>.inl h,fun _ _ h=>.inl ⟨_,h⟩,fun _ _ _ _=>rfl,fun _ h=>.inl h,fun _ h=>.inl h,fun _ _ h=>.inl h,fun _ h=>.inl h,fun _ _ cs _ _ _ h=>⟨cs,h,rfl⟩,fun _ h=>h⟩
theorem Ev.trans {base:Nat} {E1 E2 E3:Env} {A1 A2 A3:ae} {B1 B2 B3:St} {kF wZ ρ3:Ren} {w1 w2 w3:World} (h:Ev P base E1 A1 B1 kF w1 E2 A2 B2 wZ w2) (k:Ev P base E2 A2 B2 wZ w2 E3 A3 B3 ρ3 w3) :
  Ev P base E1 A1 B1 kF w1 E3 A3 B3 ρ3 w3 where
 fT:=k.fT
 eE:=h.eE.trans k.eE
 le:=Env.le_trans h.le k.le
 next:=gS h.next k.next
 dL x hx hn ha:=by
  refine (k.dL x (eY hx h.eE.next) (fun b e=>?_) fun q=>?_).trans (h.dL x hx hn ha)
  ·rcases h.new b x e with e | e
   ·exact h.CR b (hn b e)
   ·have:=e.2; omega
  ·rcases h.lX x q with e | e
   ·exact ha e
   ·omega
 new b x e:=by
  rcases k.new b x e with e | e
  ·rcases h.new b x e with e | e
   ·exact .inl e
   ·exact .inr e
  ·have:=h.eE.next; have:=h.next; exact .inr (by omega)
 tT b r e:=by
  rcases k.tT b r e with e | e | e
  ·exact h.tT b r e
  ·exact .inr (h.kr b e)
  ·have:=h.eE.next; exact .inr (.inr (by omega))
 rZ b g e:=by
  rcases k.rZ b g e with ⟨c,e⟩ | e
  ·exact h.rZ c g e
  ·have:=h.eE.next; exact .inr (by omega)
 oK g hg hn ha:=by
  refine (k.oK g (eY hg h.eE.next) (fun b e=>?_) fun q=>?_).trans (h.oK g hg hn ha)
  ·rcases h.rZ b g e with ⟨c,e⟩ | e
   ·exact hn c e
   ·omega
  ·rcases h.kM g q with e | e
   ·exact ha e
   ·omega
 kr x e:=by
  rcases k.kr x e with e | e
  ·exact h.kr x e
  ·have:=h.eE.next; exact .inr (by omega)
 kM g e:=by
  rcases k.kM g e with e | e
  ·exact h.kM g e
  ·have:=h.eE.next; exact .inr (by omega)
 vp g y e:=by
  rcases k.vp g y e with e | e
  ·exact h.vp g y e
  ·have:=h.eE.next; exact .inr (by omega)
 lX y e:=by
  rcases k.lX y e with e | e
  ·exact h.lX y e
  ·have:=h.eE.next; exact .inr (by omega)
 rows y hy cs e own bL q:=by
  obtain ⟨c1,h1,h2⟩:=k.rows y (eY hy h.eE.next) cs e own bL q;obtain ⟨c0,h3,h4⟩:=h.rows y hy c1 e own bL h1;exact ⟨c0,h3,h4.trans h2⟩
 CR b q:=k.CR b (h.CR b q)
@[simp] theorem ae.bB (A:ae) (b:Nat) (o:gU) (x:Nat):(A.put b o).get x=if x=b then some o else A.get x:=by simp [ae.put,ae.get,Trie.oE]
@[simp] theorem ae.cq (A:ae) (o:gU) (x:Nat):(A.new o).get x=if x=A.next then some o else A.get x:=by simp [ae.new,ae.get,Trie.oE]
@[simp] theorem ae.ss (A:ae) (b:Nat) (o:gU):(A.put b o).next=A.next:=rfl
@[simp] theorem ae.bR (A:ae) (o:gU):(A.new o).next=A.next+1:=rfl
theorem G2.put {A:ae} (h:G2 E A) {b:Nat} {o:gU} (ho:(∀ t s,o≠.aO t s)\/E.φ b=none):G2 E (A.put b o):=by
 intro x y g tx sx ty sy hx hy ex ey;have key:∀ {z t s},(A.put b o).get z=some (.aO t s)->E.φ z=some g->A.get z=some (.aO t s):=by
  intro z t s hz ez;rw [ae.bB] at hz;split at hz
  ·rename_i e
   simp at hz;rcases ho with ho | ho
   ·exact absurd hz (ho t s)
   ·rw [e,ho] at ez; simp at ez
  ·exact hz
 exact h x y g tx sx ty sy (key hx ex) (key hy ey) ex ey
theorem G2.new {A:ae} (h:G2 E A) {o:gU} (ho:(∀ t s,o≠.aO t s)\/E.φ A.next=none):G2 E (A.new o):=by
 intro x y g tx sx ty sy hx hy ex ey;have key:∀ {z t s},(A.new o).get z=some (.aO t s)->E.φ z=some g->A.get z=some (.aO t s):=by
  intro z t s hz ez;rw [ae.cq] at hz;split at hz
  ·rename_i e
   simp at hz;rcases ho with ho | ho
   ·exact absurd hz (ho t s)
   ·rw [e,ho] at ez; simp at ez
  ·exact hz
 exact h x y g tx sx ty sy (key hx ex) (key hy ey) ex ey
structure KJ (P:Program) (E:Env) (A:ae) (B:St) (ρ:Ren) (base:Nat) (w:World):Prop where
 k:dr P E A B
 s:vc ρ B base w
theorem Ev.kj {base:Nat} {E1 E2:Env} {A1 A2:ae} {B1 B2:St} {kF wZ:Ren} {w1 w2:World} (h:Ev P base E1 A1 B1 kF w1 E2 A2 B2 wZ w2):KJ P E2 A2 B2 wZ base w2:=⟨h.fT,h.eE.fT⟩
def VC (P:Program) (E:Env) (ρ:Ren) (v:KV) (v' : Value):Prop:=∃ u,VK P E v u/\VR ρ u v'
theorem VC.mono {ρ aF:Ren} {v:KV} {v' : Value} (h:VC P E ρ v v') (k:E.le E') (m:ρ.le aF):VC P E' aF v v':=by
 obtain ⟨u,h1,h2⟩:=h;exact ⟨u,h1.mono k,h2.mono m⟩
theorem VC.bf {ρ:Ren} {v' : Value} : VC P E ρ .bf v':=⟨.chan none,.vm,by simp [VR]⟩
theorem VC.undef {ρ:Ren} : VC P E ρ tP undef:=⟨_,.undef,VR.undef⟩
end Go.K
end
section
namespace Go.K
open Go Go.aI
variable {P:Program} {E:Env}
def aH {α:Type} (r:KR α) (v:α):Prop:=
 match r with
 | .no=>False
 | .ok u=>u=v
 | .jN c u=>c=true/\u=v
 | .br c x y=>(c=true/\aH x v)\/(c=false/\aH y v)
theorem KR.Cg {α R:Type} {k:α->Option R} {x:R} : ∀ {r:KR α},r.run k=some x->∃ v,aH r v/\k v=some x:=by
 intro r h
 match r,h with
 | .no,h=>exact absurd h (by simp [KR.run])
 | .ok v,h=>exact ⟨v,rfl,h⟩
 | .jN c v,h=>
  cases c with
  | false=>exact absurd h (by simp [KR.run])
  | true=>exact ⟨v,⟨rfl,rfl⟩,h⟩
 | .br c x y,h=>
  cases c with
  | false=>obtain ⟨v,h1,h2⟩:=KR.Cg (r:=y) (k:=k) h; exact ⟨v,.inr ⟨rfl,h1⟩,h2⟩
  | true=>obtain ⟨v,h1,h2⟩:=KR.Cg (r:=x) (k:=k) h; exact ⟨v,.inl ⟨rfl,h1⟩,h2⟩
theorem aH.at {α:Type} {i:Int} {f:Nat->KR α} {v:α} : ∀ {m j:Nat},aH (aiy i f m j) v->∃ k,j<=k/\k < j+m/\i=(k:Int)/\aH (f k) v
 | 0,j,h=>h.elim
 | m+1,j,h=>by
  rcases h with ⟨h1,h2⟩ | ⟨_,h2⟩
  ·exact ⟨j,aB j,by omega,PY h1,h2⟩
  ·obtain ⟨k,h3,h4,h5,h6⟩:=aH.at (m:=m) (j:=j+1) h2
   exact ⟨k,by omega,by omega,h5,h6⟩
theorem aH.of {α:Type} {o:Option α} {v:α} (h:aH (KR.of o) v):o=some v:=by
 cases o with
 | none=>exact h.elim
 | some u=>have h:u=v:=h; rw [h]
theorem aH.cond {α:Type} {c:Bool} {r:KR α} {v:α} (h:aH (cond c r .no) v):c=true/\aH r v:=by
 cases c with
 | false=>exact h.elim
 | true=>exact ⟨rfl,h⟩
theorem MC {α:Type} {c:Bool} {r:Option α} {v:α} (h:cond c r none=some v):c=true/\r=some v:=by
 cases c with
 | false=>simp at h
 | true=>exact ⟨rfl,h⟩
def yD (P:Program) (f:FP) (g:List Value->Option Value):Prop:=
 ∀ (E:Env) (vs:List KV) (us:List Value) (v:KV),aV P E vs us->aH (f vs) v->∃ u,g us=some u/\VK P E v u
theorem aeV:yD P adm Mb:=by
 intro E vs us v h hg
 match vs,hg with
 | [x],hg=>
  obtain ⟨y,rfl,h1⟩:=h.dX;have hg:x=v:=hg;subst hg;exact ⟨y,rfl,h1⟩
theorem ajP:yD P adn Mb:=by
 intro E vs us v h hg
 match vs,hg with
 | [.bool b],hg=>
  obtain ⟨y,rfl,h1⟩:=h.dX;have hb:v = .bool b:=by
   rcases hg with ⟨rfl,h2⟩ | ⟨rfl,h2⟩
   ·exact (show KV.bool true=v from h2).symm
   ·exact (show KV.bool false=v from h2).symm
  subst hb;exact ⟨_,rfl,h1⟩
 | [x],hg=>
  have key:v=x:=by
   cases x <;> first | exact (show _=v from hg).symm | skip
   rcases hg with ⟨rfl,h2⟩ | ⟨rfl,h2⟩
   ·exact (show KV.bool true=v from h2).symm
   ·exact (show KV.bool false=v from h2).symm
  subst key;obtain ⟨y,rfl,h1⟩:=h.dX;exact ⟨_,rfl,h1⟩
theorem ajQ {b:Bool} : yD P (cond b adn adm) Mb:=by
 cases b with
 | true=>exact ajP
 | false=>exact aeV
theorem ak6:yD P ag5 ac7:=by
 intro E vs us v h hg
 match vs,hg with
 | [.bool t,.bool a,.bool b],hg=>
  obtain ⟨x,y,z,rfl,h1,h2,h3⟩:=h.R7;have:=h1.eG; subst this;have:=h2.eG; subst this;have:=h3.eG; subst this;have hg:KV.bool (cond t a b)=v:=hg;subst hg;exact ⟨_,rfl,by cases t <;> exact .tR⟩
 | [.bool t,a,b],hg=>
  obtain ⟨x,y,z,rfl,h1,h2,h3⟩:=h.R7;have:=h1.eG; subst this;refine ⟨_,rfl,?_⟩;have hg:v=cond t a b\/∃ p q,a = .bool p/\b = .bool q/\v = .bool (cond t p q):=by
   unfold ag5 at hg;split at hg
   ·rename_i t' a' b' e
    simp at e;obtain ⟨rfl,rfl,rfl⟩:=e;exact .inr ⟨_,_,rfl,rfl,hg.symm⟩
   ·rename_i t' a' b' _ e
    simp at e;obtain ⟨rfl,rfl,rfl⟩:=e;exact .inl hg.symm
   ·exact hg.elim
  rcases hg with rfl | ⟨p,q,rfl,rfl,rfl⟩
  ·cases t
   ·exact h3
   ·exact h2
  ·have:=h2.eG; subst this
   have:=h3.eG; subst this;cases t <;> exact .tR
theorem VM {v:KV} {u:Value} (h:VK P E v u) (hk:yg v=true):aI.known u=true:=by
 cases v with
 | agg cs=>obtain ⟨l,rfl,q⟩:=h.kK; rfl
 | int k n=>have:=h.cj; subst this; rfl
 | bool b=>have:=h.eG; subst this; rfl
 | str b=>have:=h.vl; subst this; rfl
 | l8 cs=>obtain ⟨l,rfl,_⟩:=h.OH; rfl
 | ts T m n es acc=>obtain ⟨_,_,_,a,cap,rfl,_⟩:=h.kY; rfl
 | tp T Tc i k es acc=>obtain ⟨_,_,_,_,_,b,off,r,rfl,_⟩:=h.MA; rfl
 | al T b o n=>obtain ⟨a,c,rfl⟩:=h.yh.slice; rfl
 | ap T Tc b i k=>obtain ⟨x,L,N,_,_,_,rfl⟩:=h.JE; rfl
 | ptr b off=>obtain ⟨x,_,rfl⟩:=h.hO; rfl
 | sl b off n c=>obtain ⟨x,_,rfl⟩:=h.Qf; rfl
 | Gt=>simp only [VK] at h; subst h; rfl
 | ko=>simp only [VK] at h; subst h; rfl
 | CN=>simp only [VK] at h; subst h; rfl
 | map b=>simp only [VK] at h; obtain ⟨x,_,rfl⟩:=h; rfl
 | fn f a b=>obtain ⟨l,m,rfl,_⟩:=h.JD; rfl
 | HQ=>simp only [VK] at h; subst h; rfl
 | iface t x=>simp only [VK] at h; obtain ⟨y,rfl,_⟩:=h; rfl
 | HR=>simp only [VK] at h; subst h; rfl
 | bf=>simp [yg] at hk
theorem OJ {v:KV} {u:Value} (h:VK P E v u) (hk:yg v=true):u.cells.size=v.cells.length:=by
 have:=(h.cells hk).length;simpa using this
theorem ZB {place:Nat->Option (Nat×Nat)} : ∀ {ps:List (Nat×KV)} {qs:List (Nat×Value)} {cs r:List KV} {bM:List Value},ps.map (·.1)=qs.map (·.1)->aV P E (ps.map (·.2)) (qs.map (·.2))->(∀ p∈ps,yg p.2=true)->
  aV P E cs bM->Vx place cs ps=some r->∃ r',CC place bM qs=some r'/\aV P E r r'
 | [],[],cs,r,bM,_,_,_,h,e=>by simp [Vx] at e; subst e; exact ⟨bM,rfl,h⟩
 | [],_::_,_,_,_,e,_,_,_,_=>by simp at e
 | _::_,[],_,_,_,e,_,_,_,_=>by simp at e
 | (i,v)::ps,(j,u)::qs,cs,r,bM,e1,e2,hk,h,e=>by
  simp only [List.map_cons,List.cons.injEq] at e1;obtain ⟨rfl,e1⟩:=e1;obtain ⟨y,ys,e3,h1,h2⟩:=e2.cons_inv;simp only [List.map_cons,List.cons.injEq] at e3;obtain ⟨rfl,rfl⟩:=e3;have hkv:yg v=true:=hk (i,v) (by simp);simp only [Vx] at e;simp only [CC];split at e
  ·rename_i off size hp
   rw [hp];obtain ⟨hc,e⟩:=MC e;obtain ⟨ow,e4,e5⟩:=cE.1 e;obtain ⟨r1,e6,h3⟩:=aV.kW e4 h (h1.cells hkv);obtain ⟨r',e7,h4⟩:=ZB e1 h2 (fun p hp=>hk p (by simp [hp])) h3 e5;refine ⟨r',?_,h4⟩;simp only;rw [OJ h1 hkv,hc,aj,e6];exact e7
  ·simp at e
theorem ZC:∀ (is:List Nat) {vs:List KV} {us:List Value},aV P E vs us->(zY is vs).map (·.1)=(zipIdx is us).map (·.1)/\aV P E ((zY is vs).map (·.2)) ((zipIdx is us).map (·.2))
 | [],_,_,_=>by simp [zY,zipIdx,aV.nil]
 | i::is,[],us,h=>by rw [h.bX]; simp [zY,zipIdx,aV.nil]
 | i::is,v::vs,us,h=>by
  obtain ⟨y,ys,rfl,h1,h2⟩:=h.cons_inv;obtain ⟨h3,h4⟩:=ZC is h2;exact ⟨by simp [zY,zipIdx,h3],by simpa [zY,zipIdx] using aV.cons h1 h4⟩
theorem ZD:∀ (is:List Nat) (vs:List KV),∀ p∈zY is vs,p.2∈vs
 | [],_,p,h=>by simp [zY] at h
 | i::is,[],p,h=>by simp [zY] at h
 | i::is,v::vs,p,h=>by
  simp only [zY,de] at h;rcases h with rfl | h
  ·simp
  ·simp [ZD is vs p h]
theorem HV:∀ {vs:List KV} {us:List Value},aV P E vs us->vs.all yg=true->us.all aI.known=true
 | [],us,h,_=>by rw [h.bX]; rfl
 | v::vs,us,h,k=>by
  obtain ⟨y,ys,rfl,h1,h2⟩:=h.cons_inv;simp only [List.all_cons,ao] at k ⊢;exact ⟨VM h1 k.1,HV h2 k.2⟩
theorem aci {place:Nat->Option (Nat×Nat)} {z:Value} {is:List Nat} (hz:flat z=true) (h1:gC (fy z).cells=true):yD P (P8 place (fy z).cells is) (D0 place z is):=by
 intro E vs us v h hg;unfold P8 at hg;split at hg
 ·rename_i cs hf
  obtain ⟨hk,hg⟩:=hg.cond;have hg:KV.agg cs=v:=hg;subst hg;obtain ⟨h2,h3⟩:=ZC is h;obtain ⟨r',e,hr⟩:=ZB h2 h3 (fun p hp=>by have:=ZD is vs p hp; exact fe.1 hk _ this) (D9 (P:=P) (E:=E) h1) hf;refine ⟨.agg ⟨r'⟩,?_,.rC hr⟩;unfold D0;rw [hz,HV h hk];simp [e,rC]
 ·exact hg.elim
theorem amI:yD P Zq Mf:=by
 intro E vs us v h hg
 match vs,hg with
 | [.ptr b off],hg=>
  obtain ⟨y,rfl,h1⟩:=h.dX;have hg:KV.ptr b off=v:=hg;subst hg;have q:=h1;obtain ⟨x,e,rfl⟩:=h1.hO;exact ⟨_,rfl,q⟩
 | [.tp T Tc i k es acc],hg=>
  obtain ⟨y,rfl,h1⟩:=h.dX;have hg:KV.tp T Tc i k es acc=v:=hg;subst hg;have q:=h1;obtain ⟨_,_,_,_,_,b,off,r,rfl,_⟩:=h1.MA;exact ⟨_,rfl,q⟩
 | [.ap T Tc b i k],hg=>
  obtain ⟨y,rfl,h1⟩:=h.dX;have hg:KV.ap T Tc b i k=v:=hg;subst hg;have q:=h1;obtain ⟨x,L,N,_,_,_,rfl⟩:=h1.JE;exact ⟨_,rfl,q⟩
 | [.fn (.func f) a b],hg=>
  obtain ⟨y,rfl,h1⟩:=h.dX;have hg:KV.fn (.func f) a b=v:=hg;subst hg;have q:=h1;obtain ⟨l,m,rfl,_⟩:=h1.JD;exact ⟨_,rfl,q⟩
theorem OK {s ft:TypeId} {off:Nat} (h:Yy P s off ft=true):∀ m c,(aQ P ft).ks[m]? = some c->(aQ P s).ks[off+m]? = some c:=by
 unfold Yy at h;have key:∀ (a b:List CK),D7 a b=true->a=b:=by
  intro a
  induction a with
  | nil=>intro b hb; cases b <;> simp_all [D7]
  | cons x xs ih=>
   intro b hb;cases b with
   | nil=>simp [D7] at hb
   | cons y ys=>
    simp only [D7,ao] at hb;rw [ih ys hb.2];congr 1;cases x <;> cases y <;> simp_all [ak3]
 split at h
 ·rename_i l e
  obtain ⟨rfl,hl⟩:=Qe e;have:=key _ _ h;intro m c hm;rw [<- this,mc] at hm;split at hm
  ·rwa [Lu,oV] at hm
  ·simp at hm
 ·simp at h
theorem abJ {s ft:TypeId} {off:Nat} {tQ:Bool} (R8:tQ=Yy P s off ft):yD P (Xa s off ft tQ) (Oh off):=by
 intro E vs us v h hg
 match vs,hg with
 | [.ptr b o],hg=>
  obtain ⟨y,rfl,h1⟩:=h.dX;have hg:KV.ptr b (o+off)=v:=hg;subst hg;obtain ⟨x,e,rfl⟩:=h1.hO;exact ⟨_,rfl,.BH e⟩
 | [.tp T Tc i k es acc],hg=>
  obtain ⟨y,rfl,h1⟩:=h.dX;obtain ⟨hc,hg⟩:=aH.cond hg;have hg:KV.tp T ft i (k+off) es acc=v:=hg;subst hg;simp only [ao] at hc;have:=aK hc.1;subst this;obtain ⟨ht,bh,h2,hi,hw,b,o,r,rfl,h4,h5⟩:=h1.MA;refine ⟨_,rfl,?_⟩;simp only [VK];refine ⟨ht,bh,h2,hi,⟨fun m c hm=>?_⟩,b,o,r,by simp only [Value.pointer.injEq,bN,Addr.mk.injEq,and_true,true_and]; omega,h4,h5⟩;have hp:=OK (R8 ▸ hc.2) m c hm;have:=hw.is _ _ hp;rwa [show k+(off+m)=k+off+m by omega] at this
 | [.ap T Tc b i k],hg=>
  obtain ⟨y,rfl,h1⟩:=h.dX;obtain ⟨hc,hg⟩:=aH.cond hg;have hg:KV.ap T ft b i (k+off)=v:=hg;subst hg;simp only [ao] at hc;have:=aK hc.1;subst this;obtain ⟨x,L,N,h2,hw,hi,rfl⟩:=h1.JE;refine ⟨_,rfl,.ak5 ⟨x,L,N,h2,⟨fun m c hm=>?_⟩,hi,by simp only [Value.pointer.injEq,bN,Addr.mk.injEq,and_true,true_and]; omega⟩⟩;have hp:=OK (R8 ▸ hc.2) m c hm;have:=hw.is _ _ hp;rwa [show k+(off+m)=k+off+m by omega] at this
theorem aeW {t:TypeId} {cs:List KV} {bM:List Value} {off:Nat} {v:KV} (h:aV P E cs bM) (e:Vy P t cs off=some v):∃ u,partOf P t bM off=some u/\VK P E v u:=by
 unfold Vy at e;unfold partOf;split at e
 ·rename_i ha
  rw [ha];obtain ⟨n,hn,e⟩:=cE.1 e;obtain ⟨l,hl,rfl⟩:=ck.1 e;obtain ⟨r,hr,hv,_⟩:=h.yy hl;exact ⟨.agg ⟨r⟩,by simp [hn,hr],.rC hv⟩
 ·rename_i ha
  rw [ha];rw [Lu] at e;have hd:=h.drop off;cases hc:cs.drop off with
  | nil=>rw [hc] at e; simp at e
  | cons x xs=>
   rw [hc] at e hd;simp at e;subst e;obtain ⟨y,ys,e2,h1,_⟩:=hd.cons_inv;exact ⟨y,by simp [vb,e2],h1⟩
 ·simp at e
theorem ajR {fd:Field} : yD P (aix P fd) (ac8 P fd):=by
 intro E vs us v h hg
 match vs,hg with
 | [.agg cs],hg=>
  obtain ⟨y,rfl,h1⟩:=h.dX;obtain ⟨l,rfl,h2⟩:=h1.kK;exact aeW h2 hg.of
theorem Ch {i:Int} {n:Nat} (h:Zr i n=true):∃ m,i = .ofNat m/\m < n/\i.toNat=m:=by
 simp only [Zr,ao,lT] at h;obtain ⟨m,rfl⟩:=Int.eq_ofNat_of_zero_le h.1;exact ⟨m,rfl,by omega,rfl⟩
theorem qM {m n:Nat} (h:m < n):kG (.ofNat m) n=some m:=by
 have:Nat.blt m n=true:=by rw [bG]; exact h
 simp [kG,this]
theorem aH.jN {α:Type} {c:Bool} {u v:α} (h:aH (.jN c u) v):c=true/\u=v:=h
theorem Xf {t e:TypeId} {len n m:Nat} (hq:D7 (aQ P t).ks (dj (aQ P e).ks len)=true) (hn:(aQ P e).ks.length=n) (hm:m < len):∀ a c,(aQ P e).ks[a]? = some c->(aQ P t).ks[m * n+a]? = some c:=by
 intro a c ha;have key:∀ (l:List CK) (Kt m a:Nat) (c:CK),m < Kt->l[a]? = some c->(dj l Kt)[m * l.length+a]? = some c:=by
  intro l Kt
  induction Kt with
  | zero=>intro m a c hm; omega
  | succ Kt ih=>
   intro m a c hm hl;have bj:a < l.length:=(cH.1 hl).1;cases m with
   | zero=>simp only [dj,Nat.zero_mul,ba]; rw [qH bj]; exact hl
   | succ m=>
    simp only [dj];rw [tH (by rw [Nat.succ_mul]; omega),show (m+1) * l.length+a - l.length=m * l.length+a by rw [Nat.succ_mul]; omega];exact ih m a c (by omega) hl
 have aoV:∀ (a b:List CK),D7 a b=true->a=b:=by
  intro a
  induction a with
  | nil=>intro b hb; cases b <;> simp_all [D7]
  | cons x xs ih=>
   intro b hb;cases b with
   | nil=>simp [D7] at hb
   | cons y ys=>
    simp only [D7,ao] at hb;rw [ih ys hb.2];congr 1;cases x <;> cases y <;> simp_all [ak3]
 have h6:=key (aQ P e).ks len m a c hm ha;rw [<- aoV _ _ hq,hn] at h6;exact h6
theorem adv {t e:TypeId} {len n:Nat} : yD P (Zs P t len n e) (RN len n):=by
 intro E vs us v h hg
 match vs,hg with
 | [.ptr b o,.int k i],hg=>
  have hg:aH (cond (Nat.ble len 8) (aiy i (fun j=>.ok (.ptr b (o+j * n))) len 0) (.jN (Zr i len) (.ptr b (o+i.toNat * n)))) v:=hg;obtain ⟨x,y,rfl,h1,h2⟩:=h.j9;obtain ⟨x,e,rfl⟩:=h1.hO;have:=h2.cj; subst this;have key:∃ m:Nat,i=(m:Int)/\m < len/\v = .ptr b (o+m * n):=by
   cases hb:Nat.ble len 8 with
   | true=>rw [hb,aj] at hg; obtain ⟨m,_,h3,h4,h5⟩:=aH.at hg; exact ⟨m,h4,by omega,(show KV.ptr b (o+m * n)=v from h5).symm⟩
   | false=>rw [hb,aG] at hg; obtain ⟨hc,rfl⟩:=aH.jN hg; obtain ⟨m,rfl,hm,R9⟩:=Ch hc; exact ⟨m,rfl,hm,by rw [R9]⟩
  obtain ⟨m,rfl,hm,rfl⟩:=key;refine ⟨_,?_,.BH e⟩;show (kG (.ofNat m) len).bind _=_;rw [qM hm]; rfl
 | [.tp T Tc j k es acc,.int q i],hg=>
  obtain ⟨x,y,rfl,h1,h2⟩:=h.j9;obtain ⟨vf,hg⟩:=aH.cond hg;obtain ⟨hc,rfl⟩:=aH.jN hg;have:=h2.cj; subst this;obtain ⟨m,rfl,hm,R9⟩:=Ch hc;rw [R9];simp only [ao] at vf;have:=aK vf.1.1;subst this;have hn:(aQ P e).ks.length=n:=aK vf.2;obtain ⟨ht,bh,h3,hi,hw,b,o,r,rfl,h4,h5⟩:=h1.MA;refine ⟨_,by (show (kG (.ofNat m) len).bind _=_); rw [qM hm]; rfl,?_⟩;simp only [VK];refine ⟨ht,bh,h3,hi,⟨fun a c ha=>?_⟩,b,o,r,by simp only [Value.pointer.injEq,bN,Addr.mk.injEq,and_true,true_and]; omega,h4,h5⟩;have h6:=Xf vf.1.2 hn hm a c ha;have:=hw.is _ _ h6;rwa [show k+(m * n+a)=k+m * n+a by omega] at this
 | [.ap T Tc b j k,.int q i],hg=>
  obtain ⟨x,y,rfl,h1,h2⟩:=h.j9;obtain ⟨vf,hg⟩:=aH.cond hg;obtain ⟨hc,rfl⟩:=aH.jN hg;have:=h2.cj; subst this;obtain ⟨m,rfl,hm,R9⟩:=Ch hc;rw [R9];simp only [ao] at vf;have:=aK vf.1.1;subst this;have hn:(aQ P e).ks.length=n:=aK vf.2;obtain ⟨x,L,N,h3,hw,hi,rfl⟩:=h1.JE;refine ⟨_,by (show (kG (.ofNat m) len).bind _=_); rw [qM hm]; rfl,.ak5 ⟨x,L,N,h3,⟨fun a c ha=>?_⟩,hi,by simp only [Value.pointer.injEq,bN,Addr.mk.injEq,and_true,true_and]; omega⟩⟩;have h6:=Xf vf.1.2 hn hm a c ha;have:=hw.is _ _ h6;rwa [show k+(m * n+a)=k+m * n+a by omega] at this
theorem aeX {e n:Nat} {tQ:Bool} (R8:tQ=Nat.beq (aQ P e).ks.length n):yD P (aca e n tQ) (Ve n):=by
 intro E vs us v h hg
 match vs,hg with
 | [.sl b o len cap,.int k i],hg=>
  obtain ⟨x,y,rfl,h1,h2⟩:=h.j9;obtain ⟨hc,rfl⟩:=aH.jN hg;obtain ⟨x,e,rfl⟩:=h1.Qf;have:=h2.cj; subst this;obtain ⟨m,rfl,hm,R9⟩:=Ch hc;rw [R9];exact ⟨_,by (show (kG (.ofNat m) len).bind _=_); rw [qM hm]; rfl,.BH e⟩
 | [.ts T mk len es acc,.int q i],hg=>
  obtain ⟨x,y,rfl,h1,h2⟩:=h.j9;obtain ⟨vf,hg⟩:=aH.cond hg;obtain ⟨hc,rfl⟩:=aH.jN hg;have:=h2.cj; subst this;obtain ⟨m,rfl,hm,R9⟩:=Ch hc;rw [R9];simp only [ao] at vf;have:=aK vf.1;subst this;have hn:(aQ P T).ks.length=n:=aK (R8 ▸ vf.2);obtain ⟨ht,bh,h3,a,cap,rfl,h4,h5,h6⟩:=h1.kY;rcases h5 with ⟨_,h0⟩ | ⟨b,off,r,rfl,h7,h8,h9⟩
  ·omega
  ·refine ⟨_,by (show (kG (.ofNat m) len).bind _=_); rw [qM hm]; rfl,?_⟩
   have hl:=ht.len;simp only [VK];refine ⟨⟨rfl,fun i hi=>ht.acc i (by omega),ht.typed⟩,bh,h3,by omega,⟨fun a c ha=>by simpa using ha⟩,b,off,r,?_,h7,h9⟩;simp only [aU,hn,Value.pointer.injEq,bN,Addr.mk.injEq,and_true,true_and];omega
 | [.al T b o len,.int q i],hg=>
  obtain ⟨x,y,rfl,h1,h2⟩:=h.j9;obtain ⟨vf,hg⟩:=aH.cond hg;obtain ⟨hc,rfl⟩:=aH.jN hg;have:=h2.cj; subst this;obtain ⟨m,rfl,hm,R9⟩:=Ch hc;rw [R9];simp only [ao] at vf;have:=aK vf.1;subst this;have hn:(aQ P T).ks.length=n:=aK (R8 ▸ vf.2);rcases h1.yh with ⟨h0,_⟩ | ⟨x,L,N,c,h3,rfl,h4,h5,h6⟩
  ·omega
  ·refine ⟨_,by (show (kG (.ofNat m) len).bind _=_); rw [qM hm]; rfl,.ak5 ⟨x,L,N,h3,⟨fun a c ha=>by simpa using ha⟩,by omega,?_⟩⟩
   simp only [aU,hn,Value.pointer.injEq,bN,Addr.mk.injEq,and_true,true_and];rw [Nat.add_mul]; omega
theorem adw {len n:Nat} {e:TypeId} : yD P (RZ P len n e) (RO P len n e):=by
 intro E vs us v h hg
 match vs,hg with
 | [.agg cs,.int k i],hg=>
  obtain ⟨x,y,rfl,h1,h2⟩:=h.j9;obtain ⟨l,rfl,h3⟩:=h1.kK;have:=h2.cj; subst this;simp only [RZ] at hg;have key:∃ m:Nat,i=(m:Int)/\m < len/\Vy P e cs (m * n)=some v:=by
   cases hb:Nat.ble len 8 with
   | true=>rw [hb,aj] at hg; obtain ⟨m,_,h3,h4,h5⟩:=aH.at hg; exact ⟨m,h4,by omega,aH.of h5⟩
   | false=>
    rw [hb,aG] at hg;split at hg
    ·rename_i u hu
     obtain ⟨hc,rfl⟩:=aH.jN hg;obtain ⟨m,rfl,hm,R9⟩:=Ch hc;rw [R9] at hu;exact ⟨m,rfl,hm,hu⟩
    ·exact hg.elim
  obtain ⟨m,rfl,hm,hu⟩:=key;obtain ⟨w,h4,h5⟩:=aeW h3 hu;exact ⟨w,by (show (kG (.ofNat m) len).bind _=_); rw [qM hm]; exact h4,h5⟩
theorem adx:yD P Zt RP:=by
 intro E vs us v h hg
 match vs,hg with
 | [.str s,.int k i],hg=>
  obtain ⟨x,y,rfl,h1,h2⟩:=h.j9;have:=h1.vl; subst this;have:=h2.cj; subst this;obtain ⟨hc,rfl⟩:=aH.jN hg;obtain ⟨m,rfl,hm,R9⟩:=Ch hc;rw [R9];have hl:m < s.data.toList.length:=by simpa using hm
  refine ⟨.int .u8 (s.data.toList.getD m 0).toNat,?_,.mkInt⟩;show (kG (.ofNat m) s.size).bind _=_;rw [qM hm];show (s.data.toList[m]?).map _=_;simp [List.getD,cK hl]
theorem ZE {α:Type} : ∀ (n:Nat) (l:List α),acb n l=l[n]?
 | n,[]=>by cases n <;> rfl
 | 0,x::_=>rfl
 | n+1,_::xs=>by simp [acb,ZE n xs]
theorem aeY {i:Nat} : yD P (acd i) (K3 i):=by
 intro E vs us v h hg
 match vs,hg with
 | [.l8 ws],hg=>
  obtain ⟨y,rfl,h1⟩:=h.dX;obtain ⟨l,rfl,h2⟩:=h1.OH;have:=hg.of;rw [ZE] at this;obtain ⟨u,h3,h4⟩:=h2.get this;exact ⟨u,by simpa [K3] using h3,h4⟩
theorem ajS:yD P aiz Yr:=by
 intro E vs us v h hg
 match vs,hg with
 | [.ts T m n es acc],hg=>
  obtain ⟨y,rfl,h1⟩:=h.dX;obtain ⟨_,_,_,a,cap,rfl,_⟩:=h1.kY;have hg:KV.int .i64 n=v:=hg;subst hg;exact ⟨_,rfl,.mkInt⟩
 | [.sl b o n c],hg=>
  obtain ⟨y,rfl,h1⟩:=h.dX;obtain ⟨x,_,rfl⟩:=h1.Qf;have hg:KV.int .i64 n=v:=hg;subst hg;exact ⟨_,rfl,.mkInt⟩
 | [.al T b o n],hg=>
  obtain ⟨y,rfl,h1⟩:=h.dX;obtain ⟨a,c,rfl⟩:=h1.yh.slice;have hg:KV.int .i64 n=v:=hg;subst hg;exact ⟨_,rfl,.mkInt⟩
 | [.ko],hg=>
  obtain ⟨y,rfl,h1⟩:=h.dX;have:=h1.pb; subst this;have hg:KV.int .i64 0=v:=hg;subst hg;exact ⟨_,rfl,.mkInt⟩
theorem ag8:yD P aeL Td:=by
 intro E vs us v h hg
 match vs,hg with
 | [.str s],hg=>
  obtain ⟨y,rfl,h1⟩:=h.dX;have:=h1.vl; subst this;have hg:KV.int .i64 s.size=v:=hg;subst hg;exact ⟨_,rfl,.mkInt⟩
theorem ajT:yD P aiv Y0:=by
 intro E vs us v h hg
 match vs,hg with
 | [.str s],hg=>
  obtain ⟨y,rfl,h1⟩:=h.dX;have:=h1.vl; subst this;have hg:KV.str s=v:=hg;subst hg;exact ⟨_,rfl,.mkStr⟩
theorem ady {f:Fn} {k:Nat} : yD P (Mv f k) (HG f k):=by
 intro E vs us v h hg;unfold Mv at hg;split at hg
 ·rename_i l hl
  have hg:KV.fn f l (D5 k vs)=v:=hg;subst hg;have uN:yy k (D5 0 vs)=some l:=hl;obtain ⟨r,h1,h2,_⟩:=h.yy uN;have h1:takeN k us=some r:=h1;refine ⟨_,by simp [HG,h1]; rfl,.aeU h2 ?_⟩;rw [Lu,vb];exact h.drop k
 ·exact hg.elim
theorem ajU {src dst:TypeId} {k k' : IntKind} (h2:P.underlying dst=some (.int k)) (h3:P.underlying src=some (.int k')):yD P (aiu k) (K1 P src dst):=by
 intro E vs us v h hg
 match vs,hg with
 | [.int j n],hg=>
  obtain ⟨y,rfl,h1⟩:=h.dX;have:=h1.cj; subst this;have hg:KV.int k (k.wrap n)=v:=hg;subst hg;refine ⟨.int k (k.wrap n),?_,.mkInt⟩;simp only [K1,h2];simp [convert,underlying,program,Bind.bind,Sem.bind,cP,h2,h3,Conv.intToInt,Pure.pure]
end Go.K
end
section
namespace Go.K
open Go Go.aI
variable {P:Program} {E:Env}
theorem dZ {α β:Type} : ∀ {s:Sem α} {f:α->Sem β} {a:α},cP P s=some a->cP P (s >>= f)=cP P (f a)
 | .pure x,f,a,h=>by simp [cP] at h; subst h; rfl
 | .program k,f,a,h=>by
  have:=dZ (s:=k P) (f:=f) (a:=a) (by simpa [cP] using h);exact this
 | .mark m k,f,a,h=>by
  have:=dZ (s:=k) (f:=f) (a:=a) (by simpa [cP] using h);exact this
 | .load ..,_,_,h | .store ..,_,_,h | .new ..,_,_,h | .shape ..,_,_,h | .freeze ..,_,_,h | .frozen ..,_,_,h | .getObj ..,_,_,h
 | .setObj ..,_,_,h | .choose ..,_,_,h | .sys ..,_,_,h | .halt ..,_,_,h=>by simp [cP] at h
theorem HW {α β:Type} {init stop:β} {B:α->β->Sem (ForInStep β)} {g:α->Bool} : ∀ {l:List α},(∀ x∈l,cP P (B x init)=some (if g x=true then .yield init else .done stop))->
  cP P (forIn l init B)=some (if l.all g=true then init else stop)
 | [],_=>rfl
 | x::l,h=>by
  have hx:=h x (by simp);rw [List.forIn_cons,dZ hx];cases hg:g x with
  | true=>
   simp only [if_true];rw [HW fun y hy=>h y (by simp [hy])];simp [hg]
  | false=>simp [hg]; rfl
theorem Af {t:TypeId} {d:TypeDesc} (h:P.underlying t=some d):cP P (underlying t)=some d:=by
 simp [underlying,program,Bind.bind,Sem.bind,cP,h,Pure.pure]
theorem TF {t:TypeId} {i:TypeInfo} (h:P.info? t=some i):cP P (typeInfo t)=some i:=by
 simp [typeInfo,program,Bind.bind,Sem.bind,cP,h,Pure.pure]
theorem cr {α:Type} (a:α):cP P (pure a)=some a:=rfl
theorem NC {t:TypeId} {i:TypeInfo} (h:P.info? t=some i):cP P (sizeOf t)=some i.size:=by
 unfold sizeOf;rw [dZ (TF h)];rfl
theorem ZF {n:Nat} {t:TypeId} {L:Lay} (h:lay P n t=some L):∃ d,P.underlying t=some d/\L.agg=Yq d/\(L.agg=false->L.ks.length=1):=by
 cases n with
 | zero=>simp [lay] at h
 | succ n=>
  simp only [lay] at h;split at h <;> rename_i hu
  ·simp at h; subst h; exact ⟨_,hu,rfl,fun _=>rfl⟩
  ·simp at h; subst h; exact ⟨_,hu,rfl,fun _=>rfl⟩
  ·simp at h; subst h; exact ⟨_,hu,rfl,fun _=>rfl⟩
  ·simp at h; subst h; exact ⟨_,hu,rfl,fun _=>rfl⟩
  ·obtain ⟨ks,_,rfl⟩:=ck.1 h; exact ⟨_,hu,rfl,fun h=>by simp at h⟩
  ·obtain ⟨ks,_,rfl⟩:=ck.1 h; exact ⟨_,hu,rfl,fun h=>by simp at h⟩
  ·rename_i d h1 h2 h3 h4 h5 h6
   simp at h; subst h;refine ⟨_,hu,?_,fun _=>rfl⟩;cases d <;> first | rfl | simp_all
  ·simp at h
def CS (agg:Bool) (l:List Value):Value:=cond agg (.agg ⟨l⟩) (l.headD undef)
theorem Q9 {n:Nat} {t:TypeId} {L:Lay} {i:TypeInfo} {cs:Array Value} {off:Nat} (h:lay P n t=some L) (hi:P.info? t=some i) (hs:i.size=L.ks.length) (hl:off+L.ks.length<=cs.size) :
  cP P (part t cs off)=some (CS L.agg ((cs.toList.drop off).take L.ks.length)):=by
 obtain ⟨d,hu,ha,h1⟩:=ZF h;have aoW:cP P (isAgg t)=some (Yq d):=by
  unfold isAgg;rw [dZ (Af hu)];cases d <;> rfl
 unfold part;rw [dZ aoW];cases hd:Yq d with
 | true=>
  rw [hd] at ha;simp only [if_true];rw [dZ (NC hi)];simp only [cr,ha,CS,aj,hs];congr 2;apply Array.ext';simp
 | false=>
  rw [hd] at ha;have h1:=h1 ha;have bj:off < cs.size:=by omega
  simp only [GN,if_false];rw [Array.getElem?_eq_getElem bj];simp only [cr,ha,CS,aG,h1];congr 1;have:cs.toList.drop off=cs.toList[off]::cs.toList.drop (off+1):=List.drop_eq_getElem_cons (by simpa using bj);rw [this];simp
theorem TG:∀ {xs ys:List KV} {b:Bool},wa xs ys=some b->xs.length=ys.length
 | [],[],_,_=>rfl
 | [],_::_,_,h=>by simp [wa] at h
 | _::_,[],_,h=>by simp [wa] at h
 | x::xs,y::ys,b,h=>by
  simp only [wa] at h;split at h
  ·rename_i h2; simp [TG h2]
  ·simp at h
theorem Ci:∀ (n:Nat) {xs ys:List KV} {b:Bool},wa xs ys=some b->∃ b1 b2,wa (xs.take n) (ys.take n)=some b1/\wa (xs.drop n) (ys.drop n)=some b2/\b=(b1&&b2)
 | 0,xs,ys,b,h=>⟨true,b,by simp [wa],by simpa using h,by simp⟩
 | n+1,[],[],b,h=>by simp [wa] at h; subst h; exact ⟨true,true,by simp [wa],by simp [wa],rfl⟩
 | n+1,[],_::_,b,h=>by simp [wa] at h
 | n+1,_::_,[],b,h=>by simp [wa] at h
 | n+1,x::xs,y::ys,b,h=>by
  simp only [wa] at h;split at h
  ·rename_i a c h1 h2
   simp at h;obtain ⟨b1,b2,h3,h4,h5⟩:=Ci n h2;refine ⟨a&&b1,b2,by simp [wa,h1,h3],by simpa using h4,?_⟩;rw [<- h,h5,Bool.and_assoc]
  ·simp at h
def Ea (xs ys:List KV) (off n:Nat):Bool:=(wa ((xs.drop off).take n) ((ys.drop off).take n)).getD false
theorem acj {xs ys:List KV} {b:Bool} (h:wa xs ys=some b) (off n:Nat):wa ((xs.drop off).take n) ((ys.drop off).take n)=some (Ea xs ys off n):=by
 obtain ⟨_,_,_,h2,_⟩:=Ci off h;obtain ⟨b1,_,h3,_,_⟩:=Ci n h2;unfold Ea;rw [h3]; rfl
theorem w4:∀ {a b:List CK} {xs:List KV},aD (a++b) xs=true->aD a (xs.take a.length)=true/\aD b (xs.drop a.length)=true
 | [],b,xs,h=>by simpa [aD] using h
 | c::a,b,[],h=>by simp [aD] at h
 | c::a,b,x::xs,h=>by
  simp only [List.cons_append,aD,ao] at h;obtain ⟨h1,h2⟩:=w4 h.2;simp [aD,h.1,h1,h2]
theorem sv:∀ {a:List CK} {xs:List KV},aD a xs=true->xs.length=a.length
 | [],[],_=>rfl
 | [],_::_,h=>by simp [aD] at h
 | _::_,[],h=>by simp [aD] at h
 | c::a,x::xs,h=>by
  simp only [aD,ao] at h;simp [sv h.2]
theorem ZG {lf:TypeId->Option Lay} {xs ys:List KV} {b:Bool} (he:wa xs ys=some b):∀ {fs:List Field} {off:Nat} {ks:List CK},Oy lf fs off=some ks->aD ks (xs.drop off)=true->aD ks (ys.drop off)=true->off+ks.length=xs.length->
  (∀ f∈fs,∃ L,lf f.type=some L/\f.offset+L.ks.length<=xs.length/\aD L.ks ((xs.drop f.offset).take L.ks.length)=true/\aD L.ks ((ys.drop f.offset).take L.ks.length)=true)/\
  wa (xs.drop off) (ys.drop off)=some (fs.all fun f=>Ea xs ys f.offset (((lf f.type).map (·.ks.length)).getD 0))
 | [],off,ks,h,_,_,hl=>by
  simp [Oy] at h;subst h;have h1:xs.drop off = []:=by simp at hl; simp; omega
  have h2:ys.drop off = []:=by have:=TG he; simp at hl; simp; omega
  refine ⟨by simp,?_⟩;rw [h1,h2]; rfl
 | f::fs,off,ks,h,hk,mD,hl=>by
  simp only [Oy] at h;obtain ⟨NA,h⟩:=MC h;have NA:=aK NA;obtain ⟨L,h1,h⟩:=cE.1 h;obtain ⟨r,h2,rfl⟩:=ck.1 h;obtain ⟨k1,k2⟩:=w4 hk;obtain ⟨k1',k2'⟩:=w4 mD;rw [List.drop_drop] at k2 k2';simp only [kx] at hl;obtain ⟨h3,h4⟩:=ZG he h2 k2 k2' (by omega);refine ⟨fun g hg=>?_,?_⟩
  ·rcases de.1 hg with rfl | hg
   ·exact ⟨L,h1,by omega,by rw [NA]; exact k1,by rw [NA]; exact k1'⟩
   ·exact h3 g hg
  ·obtain ⟨_,_,_,h5,_⟩:=Ci off he
   obtain ⟨c1,c2,h6,h7,h8⟩:=Ci L.ks.length h5;rw [List.drop_drop,List.drop_drop] at h7;rw [h4] at h7;simp at h7;have h9:=acj he off L.ks.length;rw [h6] at h9;simp at h9;rw [h5,h8];simp only [List.all_cons,h1,Option.map_some,fv,NA,<- h9];rw [<- h7]
theorem Bj {α:Type} (l:List α):∀ n,(dj l n).length=n * l.length
 | 0=>by simp [dj]
 | n+1=>by rw [dj,kx,Bj l n,Nat.succ_mul]; omega
theorem ZH {xs ys:List KV} {l:List CK} : ∀ {len off:Nat} {b:Bool},wa (xs.drop off) (ys.drop off)=some b->aD (dj l len) (xs.drop off)=true->aD (dj l len) (ys.drop off)=true->
  (∀ i,i < len->aD l ((xs.drop (off+i * l.length)).take l.length)=true/\aD l ((ys.drop (off+i * l.length)).take l.length)=true)/\
  wa (xs.drop off) (ys.drop off)=some ((List.range' 0 len).all fun i=>Ea xs ys (off+i * l.length) l.length)
 | 0,off,b,h,hk,mD=>by
  have h1:xs.drop off = []:=by have:=sv hk; simp only [dj,List.length_nil] at this; exact qG.1 this
  have h2:ys.drop off = []:=by have:=sv mD; simp only [dj,List.length_nil] at this; exact qG.1 this
  refine ⟨fun i hi=>by omega,?_⟩;rw [h1,h2]; rfl
 | len+1,off,b,h,hk,mD=>by
  obtain ⟨c1,c2,h1,h2,h3⟩:=Ci l.length h;rw [List.drop_drop,List.drop_drop] at h2;obtain ⟨k1,k2⟩:=w4 (a:=l) (b:=dj l len) hk;obtain ⟨k1',k2'⟩:=w4 (a:=l) (b:=dj l len) mD;rw [List.drop_drop] at k2 k2';obtain ⟨h5,h4⟩:=ZH (len:=len) (off:=off+l.length) h2 k2 k2';refine ⟨fun i hi=>?_,?_⟩
  ·cases i with
   | zero=>simpa using ⟨k1,k1'⟩
   | succ i=>
    have:=h5 i (by omega);rwa [show off+l.length+i * l.length=off+(i+1) * l.length by rw [Nat.succ_mul]; omega] at this
  rw [h2] at h4;simp at h4;have hw:Ea xs ys off l.length=c1:=by unfold Ea; rw [h1]; rfl
  rw [h,h3];rw [List.range'_succ];simp only [List.all_cons,Nat.zero_mul,ye,hw,ba];congr 2;rw [h4];have:List.range' 1 len=(List.range' 0 len).map (1 + ·):=by rw [List.map_add_range']
  rw [this,List.all_map];apply congrArg (fun f=>List.all (List.range' 0 len) f);funext i;simp only [Function.comp];congr 1;rw [Nat.add_mul]; omega
theorem OL:∀ (n d:Nat) (t:TypeId) (L:Lay) (cx cy:List KV) (xs ys:List Value) (b:Bool),Gu P n t=true->lay P n t=some L->n<=d->aV P E cx xs->aV P E cy ys->aD L.ks cx=true->aD L.ks cy=true->
  wa cx cy=some b->cP P (Op.equalIn d t (CS L.agg xs) (CS L.agg ys))=some b
 | 0,_,_,_,_,_,_,_,_,h,_,_,_,_,_,_,_=>by simp [Gu] at h
 | n+1,0,_,_,_,_,_,_,_,_,_,h,_,_,_,_,_=>by omega
 | n+1,d+1,t,L,cx,cy,xs,ys,b,h,hL,hd,hx,hy,hkx,hky,he=>by
  have hl:=sv hkx;have hly:=sv hky;have hlx' : xs.length=L.ks.length:=by rw [hx.length,hl]
  have hly' : ys.length=L.ks.length:=by rw [hy.length,hly]
  have aiD:∀ s,Gu P n s=true->∃ i l,P.info? s=some i/\lay P n s=some l/\i.size=l.ks.length:=by
   intro s hs;cases n with
   | zero=>simp [Gu] at hs
   | succ n=>
    simp only [Gu,ao] at hs;have h1:=hs.1;split at h1
    ·rename_i i l e1 e2
     exact ⟨i,l,e1,e2,aK h1⟩
    ·simp at h1
  have ann:∀ (s:TypeId) (l:Lay) (i:TypeInfo) (off:Nat),Gu P n s=true->lay P n s=some l->P.info? s=some i->i.size=l.ks.length->off+l.ks.length<=cx.length->
    aD l.ks ((cx.drop off).take l.ks.length)=true->aD l.ks ((cy.drop off).take l.ks.length)=true->
    (do
     let u <- part s ⟨xs⟩ off
     let v <- part s ⟨ys⟩ off
     Op.equalIn d s u v:Sem Bool)=(do
     let u <- part s ⟨xs⟩ off
     let v <- part s ⟨ys⟩ off
     Op.equalIn d s u v)/\cP P (part s ⟨xs⟩ off)=some (CS l.agg ((xs.drop off).take l.ks.length))/\cP P (part s ⟨ys⟩ off)=some (CS l.agg ((ys.drop off).take l.ks.length))/\
    cP P (Op.equalIn d s (CS l.agg ((xs.drop off).take l.ks.length)) (CS l.agg ((ys.drop off).take l.ks.length)))=some (Ea cx cy off l.ks.length):=by
   intro s l i off h1 h2 h3 h4 h5 h6 h7;refine ⟨rfl,?_,?_,?_⟩
   ·exact Q9 h2 h3 h4 (by simp; omega)
   ·exact Q9 h2 h3 h4 (by simp; omega)
   ·exact OL n d s l _ _ _ _ _ h1 h2 (by omega) ((hx.drop off).take _) ((hy.drop off).take _) h6 h7 (acj he off _)
  simp only [Gu,ao] at h;have h2:=h.2;obtain ⟨dd,hu,ha,h1⟩:=ZF hL;rw [hu] at h2;unfold Op.equalIn;rw [dZ (Af hu)];simp only [lay,hu] at hL;have TH:∀ c,L.ks = [c]->∃ x y u v,cx = [x]/\cy = [y]/\xs = [u]/\ys = [v]/\VK P E x u/\VK P E y v/\eqK x y=some b/\kindOk c x=true/\kindOk c y=true:=by
   intro c hc;rw [hc] at hl hly hkx hky
   match cx,cy,hl,hly with
   | [x],[y],_,_=>
    obtain ⟨u,rfl,h2⟩:=hx.dX;obtain ⟨v,rfl,h3⟩:=hy.dX;refine ⟨x,y,u,v,rfl,rfl,rfl,rfl,h2,h3,?_,by simpa [aD] using hkx,by simpa [aD] using hky⟩;simp only [wa] at he;split at he
    ·rename_i a c h4 h5
     simp at h5;subst h5;simpa [h4] using he
    ·simp at he
  cases dd with
  | int k=>
   simp at hL;subst hL;obtain ⟨x,y,u,v,rfl,rfl,rfl,rfl,h3,h4,h5,h6,h7⟩:=TH _ rfl;cases x <;> simp [kindOk] at h6;cases y <;> simp [kindOk] at h7;subst h6 h7;have:=h3.cj; subst this;have:=h4.cj; subst this;simp [eqK] at h5;subst h5;simp [CS,cr]
  | bool=>
   simp at hL;subst hL;obtain ⟨x,y,u,v,rfl,rfl,rfl,rfl,h3,h4,h5,h6,h7⟩:=TH _ rfl;cases x <;> simp [kindOk] at h6;cases y <;> simp [kindOk] at h7;have:=h3.eG; subst this;have:=h4.eG; subst this;simp [eqK] at h5;subst h5;simp [CS,cr]
  | string=>
   simp at hL;subst hL;obtain ⟨x,y,u,v,rfl,rfl,rfl,rfl,h3,h4,h5,h6,h7⟩:=TH _ rfl;cases x <;> simp [kindOk] at h6;cases y <;> simp [kindOk] at h7;have:=h3.vl; subst this;have:=h4.vl; subst this;simp [eqK] at h5;subst h5;simp [CS,cr]
  | struct fs=>
   simp only [ck] at hL;obtain ⟨ks,qx,rfl⟩:=hL;simp only [ao,lU] at h2;obtain ⟨h3,h4⟩:=ZG he qx (by simpa using hkx) (by simpa using hky) (by simpa using hl.symm);simp only [List.drop_zero] at h4;rw [he] at h4;simp only [bN] at h4;simp only [CS,aj];rw [dZ (a:=P) (by simp [program,cP])];simp only [h2.1,GN,if_false];rw [<- Array.forIn_toList];rw [dZ (HW (g:=fun f=>Ea cx cy f.offset (((lay P n f.type).map (·.ks.length)).getD 0)) (stop:=(some false,())) fun f hf=>?_)]
   ·rw [h4]
    cases (fs.toList.all fun f=>Ea cx cy f.offset (((lay P n f.type).map (·.ks.length)).getD 0)) <;> rfl
   ·have h5:=fe.1 h2.2 f hf
    simp only [ao,lU,beq_eq_false_iff_ne] at h5;rw [aE h5.1];obtain ⟨l,h6,h7,h8,h9⟩:=h3 f hf;obtain ⟨i,l',e1,e2,e3⟩:=aiD _ h5.2;rw [h6] at e2;simp at e2;subst e2;obtain ⟨_,w1,w2,w3⟩:=ann _ l i f.offset h5.2 h6 e1 e3 h7 h8 h9;rw [dZ w1,dZ w2,dZ w3];simp only [h6,Option.map_some,fv];cases Ea cx cy f.offset l.ks.length <;> rfl
  | array len e=>
   simp only [ck] at hL;obtain ⟨l,Ld,rfl⟩:=hL;obtain ⟨h3,h4⟩:=ZH (xs:=cx) (ys:=cy) (l:=l.ks) (len:=len) (off:=0) (by simpa using he) (by simpa using hkx) (by simpa using hky);simp only [List.drop_zero,ba] at h3 h4;rw [he] at h4;simp only [bN] at h4;obtain ⟨i,l',e1,e2,e3⟩:=aiD _ h2;rw [Ld] at e2;simp at e2;subst e2;simp only [CS,aj];rw [dZ (NC e1)];rw [Std.Legacy.Range.forIn_eq_forIn_range'];rw [show List.range' [:len].start [:len].size [:len].step=List.range' 0 len from by simp [Std.Legacy.Range.size]];rw [dZ (HW (g:=fun i=>Ea cx cy (i * l.ks.length) l.ks.length) (stop:=(some false,())) fun j hj=>?_)]
   ·rw [h4]
    cases ((List.range' 0 len).all fun i=>Ea cx cy (i * l.ks.length) l.ks.length) <;> rfl
   ·have Ab:j < len:=by simpa using hj
    obtain ⟨k1,k2⟩:=h3 j Ab;have hle:j * l.ks.length+l.ks.length<=cx.length:=by
     rw [hl];simp only [Bj];rw [<- Nat.succ_mul];exact Nat.mul_le_mul_right _ Ab
    obtain ⟨_,w1,w2,w3⟩:=ann _ l i (j * l.ks.length) h2 Ld e1 e3 hle k1 k2;rw [e3];rw [dZ w1,dZ w2,dZ w3];cases Ea cx cy (j * l.ks.length) l.ks.length <;> rfl
  | _=>simp at h2
theorem OM:∀ {ks:List CK} {cs:List KV} {l:List Value},aD ks cs=true->aV P E cs l->(∀ t,CK.slice t ∉ ks)->yv l=true
 | [],[],l,_,h,_=>by rw [h.bX]; rfl
 | [],_::_,_,h,_,_=>by simp [aD] at h
 | _::_,[],_,h,_,_=>by simp [aD] at h
 | c::ks,v::cs,l,h,hv,hn=>by
  obtain ⟨y,ys,rfl,h1,h2⟩:=hv.cons_inv;simp only [aD,ao] at h;have:=OM h.2 h2 (fun t ht=>hn t (by simp [ht]));simp only [yv,this,EH];cases c with
  | int k=>cases v <;> simp [kindOk] at h; have:=h1.cj; subst this; rfl
  | bool=>cases v <;> simp [kindOk] at h; have:=h1.eG; subst this; rfl
  | str=>cases v <;> simp [kindOk] at h; have:=h1.vl; subst this; rfl
  | slice t=>exact absurd (by simp) (hn t)
  | other=>cases v <;> simp [kindOk] at h
theorem OO:∀ (n:Nat) (t:TypeId) (L:Lay),Gu P n t=true->lay P n t=some L->∀ u,CK.slice u ∉ L.ks
 | 0,_,_,h,_,_=>by simp [Gu] at h
 | n+1,t,L,h,hL,u=>by
  simp only [Gu,ao] at h;have h2:=h.2;obtain ⟨dd,hu,_,_⟩:=ZF hL;rw [hu] at h2;simp only [lay,hu] at hL;cases dd with
  | int k=>simp at hL; subst hL; simp
  | bool=>simp at hL; subst hL; simp
  | string=>simp at hL; subst hL; simp
  | struct fs=>
   simp only [ck] at hL;obtain ⟨ks,qx,rfl⟩:=hL;simp only [ao,fe] at h2;have key:∀ (l:List Field) (off:Nat) (ks:List CK),Oy (lay P n) l off=some ks->(∀ f∈l,Gu P n f.type=true)->CK.slice u ∉ ks:=by
    intro l
    induction l with
    | nil=>intro off ks h _; simp [Oy] at h; subst h; simp
    | cons f l ih=>
     intro off ks h hf;simp only [Oy] at h;obtain ⟨_,h⟩:=MC h;obtain ⟨L',h5,h⟩:=cE.1 h;obtain ⟨r,h6,rfl⟩:=ck.1 h;rw [jJ];rintro (h7 | h7)
     ·exact OO n _ _ (hf f (by simp)) h5 u h7
     ·exact ih _ _ h6 (fun g hg=>hf g (by simp [hg])) h7
   exact key _ _ _ qx fun f hf=>(h2.2 f hf).2
  | array len e=>
   simp only [ck] at hL;obtain ⟨l,Ld,rfl⟩:=hL;have:=OO n e l h2 Ld u;have key:∀ m,CK.slice u ∉ dj l.ks m:=by
    intro m
    induction m with
    | zero=>simp [dj]
    | succ m ih=>simp only [dj,jJ,not_or]; exact ⟨this,ih⟩
   exact key _
  | _=>simp at h2
theorem ag9 {t:TypeId} (h:Gu P 12 t=true):lay P 12 t=some (aQ P t):=by
 simp only [Gu,ao] at h;have h1:=h.1;unfold aQ;split at h1
 ·rename_i i l e1 e2; rw [e2]; rfl
 ·simp at h1
theorem ZI {t:TypeId} {x y:KV} {b:Bool} {lit:Bool} {u v:Value} (hx:VK P E x u) (hy:VK P E y v) (h:ais P t x y=some b):nN P t lit u v=some b:=by
 unfold ais at h;split at h
 ·rename_i xs ys
  obtain ⟨hc,h⟩:=MC h;simp only [ao,lU] at hc;obtain ⟨⟨⟨⟨ha,h1⟩,h2⟩,h3⟩,h4⟩:=hc;obtain ⟨l,rfl,hl⟩:=hx.kK;obtain ⟨m,rfl,hm⟩:=hy.kK;have hL:=ag9 h1;have hns:=OO 12 t _ h1 hL;have hfx:flat (.agg ⟨l⟩)=true:=OM h3 hl hns;have hfy:flat (.agg ⟨m⟩)=true:=OM h4 hm hns;have hs:=OL 12 Op.maxDepth t (aQ P t) xs ys l m b h1 hL (by unfold Op.maxDepth; omega) hl hm h3 h4 h;rw [ha] at hs;have hs:cP P (Op.equal t (.agg ⟨l⟩) (.agg ⟨m⟩))=some b:=hs;unfold nN;simp only [ij,Bh,h2,GQ,cC,aj];unfold YV;split <;> simp_all
 ·rename_i a c
  split at h
  ·rename_i hu
   simp at h;subst h;have:=hx.eG; subst this;have:=hy.eG; subst this;have:cP P (Op.equal t (.bool a) (.bool c))=some (a==c):=by
    unfold Op.equal Op.maxDepth Op.equalIn;rw [dZ (Af hu)];rfl
   unfold nN;simp only [ij,Bh,cC,aj];unfold YV;split <;> simp_all [flat]
  ·simp at h
 ·split at h
  ·rename_i e hu
   simp at h;subst h;have:=hx.pb; subst this;have:=hy.pb; subst this;simp [nN,ij,Bh,YV,hu]
  ·simp at h
 ·rename_i T m n es acc
  split at h
  ·rename_i e hu
   cases hn:Nat.beq n 0 with
   | true=>rw [hn] at h; simp at h
   | false=>
    rw [hn] at h;simp at h;subst h;have:=hy.pb; subst this;obtain ⟨_,bh,_,a,cap,rfl,_,hb,_⟩:=hx.kY;rcases hb with ⟨_,h0⟩ | ⟨b,off,r,rfl,_⟩
    ·subst h0; simp at hn
    ·simp [nN,ij,Bh,YV,hu]
  ·simp at h
 ·rename_i T m n es acc
  split at h
  ·rename_i e hu
   cases hn:Nat.beq n 0 with
   | true=>rw [hn] at h; simp at h
   | false=>
    rw [hn] at h;simp at h;subst h;have:=hx.pb; subst this;obtain ⟨_,bh,_,a,cap,rfl,_,hb,_⟩:=hy.kY;rcases hb with ⟨_,h0⟩ | ⟨b,off,r,rfl,_⟩
    ·subst h0; simp at hn
    ·simp [nN,ij,Bh,YV,hu]
  ·simp at h
 ·split at h
  ·rename_i e hu
   simp at h;subst h;have:=hx.Qg; subst this;have:=hy.Qg; subst this;simp [nN,ij,Bh,YV,hu]
  ·simp at h
 ·split at h
  ·rename_i e hu
   simp at h;subst h;have:=hy.Qg; subst this;obtain ⟨x,_,rfl⟩:=hx.hO;simp [nN,ij,Bh,YV,hu]
  ·simp at h
 ·split at h
  ·rename_i e hu
   simp at h;subst h;have:=hx.Qg; subst this;obtain ⟨x,_,rfl⟩:=hy.hO;simp [nN,ij,Bh,YV,hu]
  ·simp at h
 ·simp at h
theorem amJ {op:BinOp} {t:TypeId} {lit:Bool} : yD P (ak2 P op t) (tK P op t lit):=by
 intro E vs us w h hg;unfold ak2 at hg;split at hg
 ·rename_i j a k b
  obtain ⟨x,y,rfl,h1,h2⟩:=h.j9;have:=h1.cj; subst this;have:=h2.cj; subst this;cases hs:aeK op with
  | true=>
   rw [hs,aj] at hg;cases op <;> simp [aeK] at hs
   ·obtain ⟨hc,rfl⟩:=aH.jN hg
    simp only [lU,decide_eq_false_iff_not] at hc;exact ⟨_,by simp [tK,binOp,Op.shift,hc,cr],.mkInt⟩
   ·obtain ⟨hc,rfl⟩:=aH.jN hg
    simp only [lU,decide_eq_false_iff_not] at hc;exact ⟨_,by simp [tK,binOp,Op.shift,hc,cr],.mkInt⟩
  | false=>
   rw [hs,aG] at hg;obtain ⟨QE,hz⟩:=hg.cond;clear hg;simp only [lT] at QE;subst QE;cases op with
   | shl=>simp [aeK] at hs
   | shr=>simp [aeK] at hs
   | quo=>
    obtain ⟨hc,rfl⟩:=aH.jN hz;simp only [lU,decide_eq_false_iff_not] at hc;exact ⟨_,by simp [tK,binOp,Op.intDiv,hc,cr],.mkInt⟩
   | rem=>
    obtain ⟨hc,rfl⟩:=aH.jN hz;simp only [lU,decide_eq_false_iff_not] at hc;exact ⟨_,by simp [tK,binOp,Op.intDiv,hc,cr],.mkInt⟩
   | add=>have hz:KV.int _ _=w:=hz; subst hz; exact ⟨_,by simp [tK,binOp,Op.intArith,cr],.mkInt⟩
   | sub=>have hz:KV.int _ _=w:=hz; subst hz; exact ⟨_,by simp [tK,binOp,Op.intArith,cr],.mkInt⟩
   | mul=>have hz:KV.int _ _=w:=hz; subst hz; exact ⟨_,by simp [tK,binOp,Op.intArith,cr],.mkInt⟩
   | and=>have hz:KV.int _ _=w:=hz; subst hz; exact ⟨_,by simp [tK,binOp,Op.intBits,cr],.mkInt⟩
   | or=>have hz:KV.int _ _=w:=hz; subst hz; exact ⟨_,by simp [tK,binOp,Op.intBits,cr],.mkInt⟩
   | xor=>have hz:KV.int _ _=w:=hz; subst hz; exact ⟨_,by simp [tK,binOp,Op.intBits,cr],.mkInt⟩
   | andNot=>have hz:KV.int _ _=w:=hz; subst hz; exact ⟨_,by simp [tK,binOp,Op.intBits,cr],.mkInt⟩
   | eql=>have hz:KV.bool _=w:=hz; subst hz; exact ⟨_,by simp [tK,binOp,Op.intCmp,cr],.tR⟩
   | neq=>have hz:KV.bool _=w:=hz; subst hz; exact ⟨_,by simp [tK,binOp,Op.intCmp,cr],.tR⟩
   | lss=>have hz:KV.bool _=w:=hz; subst hz; exact ⟨_,by simp [tK,binOp,Op.intCmp,cr],.tR⟩
   | leq=>have hz:KV.bool _=w:=hz; subst hz; exact ⟨_,by simp [tK,binOp,Op.intCmp,cr],.tR⟩
   | gtr=>have hz:KV.bool _=w:=hz; subst hz; exact ⟨_,by simp [tK,binOp,Op.intCmp,cr],.tR⟩
   | geq=>have hz:KV.bool _=w:=hz; subst hz; exact ⟨_,by simp [tK,binOp,Op.intCmp,cr],.tR⟩
 ·rename_i a b
  obtain ⟨x,y,rfl,h1,h2⟩:=h.j9;have:=h1.vl; subst this;have:=h2.vl; subst this;split at hg
  ·have hg:KV.bool _=w:=hg; subst hg; exact ⟨_,by simp [tK,binOp,Op.stringOp,cr],.tR⟩
  ·have hg:KV.bool _=w:=hg; subst hg; exact ⟨_,by simp [tK,binOp,Op.stringOp,cr],.tR⟩
  ·have hg:KV.bool _=w:=hg; subst hg; exact ⟨_,by simp [tK,binOp,Op.stringOp,cr],.tR⟩
  ·obtain ⟨hc,rfl⟩:=aH.jN hg
   have hc:=dT hc;have hn : ¬ (((a.size+b.size:Nat):Int) > IntKind.i64.max):=by
    have:IntKind.i64.max=9223372036854775807:=by decide
    rw [this]; omega
   refine ⟨.string (a++b),?_,.mkStr⟩;simp only [tK,binOp,Op.stringOp];rw [aa hn];rfl
  ·exact hg.elim
 ·rename_i T m n es acc
  obtain ⟨u,v,rfl,h1,h2⟩:=h.j9;have key:ait P t=true->Nat.blt 0 n=true->nN P t lit u v=some false:=by
   intro hs hn;refine ZI h1 h2 ?_;unfold ais;unfold ait at hs;have hb:Nat.beq n 0=false:=by
    cases n with
    | zero=>simp at hn
    | succ n=>rfl
   split at hs
   ·simp only [hb,aG]
   ·simp at hs
  split at hg
  ·obtain ⟨hs,hg⟩:=hg.cond
   obtain ⟨hc,rfl⟩:=aH.jN hg;refine ⟨.bool false,?_,.tR⟩;have:=key hs hc;unfold tK;split
   ·rename_i e; simp at e; obtain ⟨rfl,rfl⟩:=e; simp [nN,ij] at this
   ·rename_i e; simp at e; obtain ⟨rfl,rfl⟩:=e; simp [nN,ij] at this
   ·rename_i e; simp at e; obtain ⟨rfl,rfl⟩:=e; simp [this]
   ·rename_i e; exact absurd rfl (e _ _)
  ·obtain ⟨hs,hg⟩:=hg.cond
   obtain ⟨hc,rfl⟩:=aH.jN hg;refine ⟨.bool true,?_,.tR⟩;have:=key hs hc;unfold tK;split
   ·rename_i e; simp at e; obtain ⟨rfl,rfl⟩:=e; simp [nN,ij] at this
   ·rename_i e; simp at e; obtain ⟨rfl,rfl⟩:=e; simp [nN,ij] at this
   ·rename_i e; simp at e; obtain ⟨rfl,rfl⟩:=e; simp [this]
   ·rename_i e; exact absurd rfl (e _ _)
  ·exact hg.elim
 ·rename_i x y Ze hn2
  obtain ⟨u,v,rfl,h1,h2⟩:=h.j9;split at hg
  ·rename_i b he
   have hg:KV.bool b=w:=hg;subst hg;have:=ZI (lit:=lit) h1 h2 he;refine ⟨.bool b,?_,.tR⟩;unfold tK;split
   ·rename_i e; simp at e; obtain ⟨rfl,rfl⟩:=e; simp [nN,ij] at this
   ·rename_i e; simp at e; obtain ⟨rfl,rfl⟩:=e; simp [nN,ij] at this
   ·rename_i e; simp at e; obtain ⟨rfl,rfl⟩:=e; simp [this]
   ·rename_i e; exact absurd rfl (e _ _)
  ·rename_i b he
   have hg:KV.bool (!b)=w:=hg;subst hg;have:=ZI (lit:=lit) h1 h2 he;refine ⟨.bool !b,?_,.tR⟩;unfold tK;split
   ·rename_i e; simp at e; obtain ⟨rfl,rfl⟩:=e; simp [nN,ij] at this
   ·rename_i e; simp at e; obtain ⟨rfl,rfl⟩:=e; simp [nN,ij] at this
   ·rename_i e; simp at e; obtain ⟨rfl,rfl⟩:=e; simp [this]
   ·rename_i e; exact absurd rfl (e _ _)
  ·exact hg.elim
 ·exact hg.elim
theorem an9 {op:UnOp} : yD P (kUn op) (fUn P op):=by
 intro E vs us w h hg;unfold kUn at hg;split at hg
 ·rename_i b
  obtain ⟨y,rfl,h1⟩:=h.dX;have:=h1.eG; subst this;split at hg
  ·have hg:KV.bool (!b)=w:=hg
   subst hg;exact ⟨_,by simp [fUn,Op.unary,cr],.tR⟩
  ·exact hg.elim
 ·rename_i k n
  obtain ⟨y,rfl,h1⟩:=h.dX;have:=h1.cj; subst this;split at hg
  ·have hg:KV.int _ _=w:=hg
   subst hg;exact ⟨.int k (k.wrap (0 - n)),by simp [fUn,Op.unary,Op.intArith,cr],.mkInt⟩
  ·have hg:KV.int _ _=w:=hg
   subst hg;exact ⟨_,by simp [fUn,Op.unary,Op.intBits,cr],.mkInt⟩
  ·exact hg.elim
 ·exact hg.elim
theorem ZJ {mx:Bool} : yD P (Lj mx) (Mg P fun vs=>cond mx (Builtin.max_ #[] 0 ⟨vs⟩) (Builtin.min_ #[] 0 ⟨vs⟩)):=by
 intro E vs us w h hg;unfold Lj at hg;split at hg
 ·rename_i j a k b
  obtain ⟨x,y,rfl,h1,h2⟩:=h.j9;have:=h1.cj; subst this;have:=h2.cj; subst this;obtain ⟨QE,hz⟩:=hg.cond;clear hg;simp only [lT] at QE;subst QE;have hz:KV.int _ _=w:=hz;subst hz;refine ⟨_,?_,.mkInt⟩;cases mx
  ·simp [Mg,yv,flat,Builtin.min_,Builtin.min2,cr]
   omega
  ·simp [Mg,yv,flat,Builtin.max_,Builtin.max2,cr]
   omega
 ·rename_i j a k b l c
  obtain ⟨x,y,z,rfl,h1,h2,h3⟩:=h.R7;have:=h1.cj; subst this;have:=h2.cj; subst this;have:=h3.cj; subst this;obtain ⟨QE,hz⟩:=hg.cond;clear hg;simp only [ao,lT] at QE;obtain ⟨rfl,rfl⟩:=QE;have hz:KV.int _ _=w:=hz;subst hz;refine ⟨_,?_,.mkInt⟩;cases mx
  ·show some (Value.int j (if c < (if b < a then b else a) then c else (if b < a then b else a)))=some (Value.int j (min (min a b) c))
   congr 2;split <;> split at * <;> omega
  ·show some (Value.int j (if c > (if b > a then b else a) then c else (if b > a then b else a)))=some (Value.int j (max (max a b) c))
   congr 2;split <;> split at * <;> omega
 ·exact hg.elim
end Go.K
end
section
namespace Go.K
open Go Go.aI
variable {P:Program} {E:Env}
theorem AR.of {E' : Env} {A A' : ae} {x:Nat} (tS:∀ b,E'.α b=E.α b) (ha:∀ b v,A'.get b=some (.arr v)->A.get b=some (.arr v)) (h:AR A' E' x):AR A E x:=by
 obtain ⟨b,v,L,N,h1,h2⟩:=h;exact ⟨b,v,L,N,ha _ _ h1,by rw [<- tS]; exact h2⟩
theorem AF.of {E' : Env} {A A' : ae} {B B' : St} {g:Nat} (tS:∀ b,E'.α b=E.α b) (ha:∀ b v,A'.get b=some (.arr v)->A.get b=some (.arr v)) (hB:∀ x,AR A E x->B'.get x=B.get x) (h:AF A' E' B' g):AF A E B g:=by
 obtain ⟨b,v,x,L,N,cs,e,own,k,h1,h2,h3⟩:=h;have Ke:E.α b=some (x,L,N):=by rw [<- tS]; exact h2
 exact ⟨b,v,x,L,N,cs,e,own,k,ha _ _ h1,Ke,by rw [<- hB x ⟨b,v,L,N,ha _ _ h1,Ke⟩]; exact h3⟩
theorem AT.of {E' : Env} {A A' : ae} {B B' : St} {y:Nat} (tS:∀ b,E'.α b=E.α b) (ha:∀ b v,A'.get b=some (.arr v)->A.get b=some (.arr v)) (hB:∀ x,AR A E x->B'.get x=B.get x) (hm:∀ g,AF A E B g->B'.members g=B.members g) (h:AT A' E' B' y):AT A E B y:=by
 rcases h with h | ⟨g,h1,h2⟩
 ·exact .inl (h.of tS ha)
 ·have:=h1.of tS ha hB
  exact .inr ⟨g,this,by rw [<- hm g this]; exact h2⟩
theorem mj {B B' : St} (h:∀ x,x < B.next->B'.get x=B.get x):∀ y,y < B.next->∀ cs e own bL,B'.get y=some (.row cs e own bL)->∃ lW,B.get y=some (.row lW e own bL)/\lW.length=cs.length:=
 fun y hy cs _ _ _ q=>⟨cs,by rw [<- h y hy]; exact q,rfl⟩
theorem ZK {B:St} {o:ct} : ∀ x,x < B.next->(B.new o).get x=B.get x:=fun x hx=>by rw [St.cq,aa (by omega)]
theorem MB.dL {E' : Env} {A A' : ae} {B B' : St} (h:MB P E A B) (hle:E.le E') (tS:∀ b,E'.α b=E.α b) (ha:∀ b v,A'.get b=some (.arr v)->A.get b=some (.arr v)) (hf:∀ b v,A'.get b=some (.iC v)->A.get b=some (.iC v))
  (hn:A.next<=A'.next) (Km:B.next<=B'.next) (hB:∀ x,AR A E x->B'.get x=B.get x) (hz:∀ b r,E'.z b=some r->E.z b=some r\/B.next<=b) (Jn:∀ b x,E'.κ b=some x->E.κ b=some x\/(A.next<=b/\B.next<=x))
  (Jo:∀ b g,E'.φ b=some g->(∃ c,E.φ c=some g)\/B.next<=g) (hm:∀ g,AF A E B g->B'.members g=B.members g) (mem:∀ g x,x∈B.members g->x < B.next):MB P E' A' B' where
 arr b v hb:=(h.arr b v (ha _ _ hb)).mono hle (tS b) fun x L N e=>hB x ⟨b,v,L,N,ha _ _ hb,e⟩
 iC b v hb:=(h.iC b v (hf _ _ hb)).mono hle (tS b)
 z x hx:=by
  have hx':=AR.of tS ha hx;obtain ⟨b,v,L,N,h1,h2⟩:=hx';have bj:=h.eS _ _ _ _ h2;obtain ⟨h3,h4⟩:=h.z x (AR.of tS ha hx);refine ⟨?_,fun c e=>?_⟩
  ·cases hz' : E'.z x with
   | none=>rfl
   | some r=>
    rcases hz x r hz' with e | e
    ·rw [h3] at e; simp at e
    ·omega
  ·rcases Jn c x e with e | ⟨_,e⟩
   ·exact h4 c e
   ·omega
 inj b c v u x L N L' N' h1 h2 h3 h4:=h.inj b c v u x L N L' N' (ha _ _ h1) (ha _ _ h2) (by rw [<- tS]; exact h3) (by rw [<- tS]; exact h4)
 wW b c v u x y L N L' N' cs e own g k bM e' rb k' h1 h2 h3 h4 h5 h6:=by
  rw [tS] at h3 h4;rw [hB x ⟨b,v,L,N,ha _ _ h1,h3⟩] at h5;rw [hB y ⟨c,u,L',N',ha _ _ h2,h4⟩] at h6;exact h.wW b c v u x y L N L' N' cs e own g k bM e' rb k' (ha _ _ h1) (ha _ _ h2) h3 h4 h5 h6
 ZA b x e:=by
  rw [tS];rcases Jn b x e with e | ⟨e,_⟩
  ·exact h.ZA b x e
  ·cases hb:E.α b with
   | none=>rfl
   | some p=>have:=h.jM b p hb; omega
 nk b v hb:=by
  obtain ⟨h1,h2⟩:=h.nk b v (ha _ _ hb);refine ⟨eY h1 hn,?_⟩;cases e:E'.κ b with
  | none=>rfl
  | some x=>
   rcases Jn b x e with e | ⟨e,_⟩
   ·rw [h2] at e; simp at e
   ·omega
 jM b p e:=by rw [tS] at e; have:=h.jM b p e; omega
 eS b x L N e:=by rw [tS] at e; have:=h.eS b x L N e; omega
 vo b v x L N cs e own g k h1 h2 h3:=by
  rw [tS] at h2;have hA:=ha _ _ h1;rw [hB x ⟨b,v,L,N,hA,h2⟩] at h3;obtain ⟨h4,h5,h6⟩:=h.vo b v x L N cs e own g k hA h2 h3;refine ⟨by omega,fun f e=>?_,fun y hy cI=>?_⟩
  ·rcases Jo f g e with ⟨c,e⟩ | e
   ·exact h5 c e
   ·omega
  ·rw [hm g ⟨b,v,x,L,N,cs,_,own,k,hA,h2,h3⟩] at hy
   have bj:=mem g y hy;obtain ⟨h7,h8,h9⟩:=h6 y hy cI;refine ⟨?_,fun q=>h8 (AR.of tS ha q),fun c e=>?_⟩
   ·cases hz' : E'.z y with
    | none=>rfl
    | some r=>
     rcases hz y r hz' with e | e
     ·rw [h7] at e; simp at e
     ·omega
   ·rcases Jn c y e with e | ⟨_,e⟩
    ·exact h9 c e
    ·omega
theorem dr.HX {A:ae} {B:St} (h:dr P E A B) {x:Nat} (q:AR A E x):x < B.next:=by
 obtain ⟨b,v,L,N,_,h2⟩:=q;exact h.ar.eS _ _ _ _ h2
structure cO (P:Program) (E:Env) (A:ae) (B:St) (E' : Env) (A' : ae) (B' : St):Prop where
 fT:dr P E' A' B'
 le:E.le E'
 next:A.next<=A'.next
 dL:∀ x,x < B.next->(∀ b,E.κ b=some x->A.get b=some wg)->¬ AT A E B x->B'.get x=B.get x
 new:∀ b x,E'.κ b=some x->E.κ b=some x\/A.next<=b/\B.next<=x
 tT:∀ b r,E'.z b=some r->E.z b=some r\/AR A E b\/B.next<=b
 rZ:∀ b g,E'.φ b=some g->E.φ b=some g\/B.next<=g
 oK:∀ g,g < B.next->(∀ b,E.φ b≠some g)->¬ AF A E B g->B'.members g=B.members g
 kr:∀ x,AR A' E' x->AR A E x\/B.next<=x
 kM:∀ g,AF A' E' B' g->AF A E B g\/B.next<=g
 vp:∀ g y,y∈B'.members g->y∈B.members g\/B.next<=y
 lX:∀ y,AT A' E' B' y->AT A E B y\/B.next<=y
 rows:∀ y,y < B.next->∀ cs e own bL,B'.get y=some (.row cs e own bL)->∃ lW,B.get y=some (.row lW e own bL)/\lW.length=cs.length
 CR:∀ b,A.get b=some wg->A'.get b=some wg
theorem cO.ev {base:Nat} {E' : Env} {A A' : ae} {B B' : St} {ρ aF:Ren} {w w' : World} (h:cO P E A B E' A' B') (g:iX base ρ B w aF B' w'):Ev P base E A B ρ w E' A' B' aF w':=
 ⟨h.fT,g,h.le,h.next,h.dL,h.new,h.tT,fun b g e=>(h.rZ b g e).imp (fun e=>⟨b,e⟩) id,h.oK,h.kr,h.kM,h.vp,h.lX,h.rows,h.CR⟩
theorem oL {A:ae} {c:Nat} {o o1:gU} (hc:A.get c=some o) (ho:o≠wg):∀ b,A.get b=some wg->(A.put c o1).get b=some wg:=fun b hb=>by
 rw [ae.bB];split
 ·rename_i e
  rw [e,hc] at hb;simp only [bN] at hb;exact absurd hb ho
 ·exact hb
theorem dr.ZL {A:ae} {B:St} {o1:gU} (h:dr P E A B):∀ b,A.get b=some wg->(A.new o1).get b=some wg:=fun b hb=>by
 rw [ae.cq,aa]
 ·exact hb
 ·intro e
  have:=h.live b _ hb;omega
def HY (P:Program) (o:Oper):rY->Prop
 | .pure f xs=>∀ (E:Env) (ρ:Ren) (ev:Operand->KV) (cF:Operand->Value) (v:KV),(∀ x∈xs,VC P E ρ (ev x) (cF x))->aH (f (xs.map ev)) v->∃ v',VC P E ρ v v'/\∀ w,(execOp cF o).run P w = .ok (.value v') w
 | .read f xs=>∀ (E:Env) (A:ae) (B:St) (ρ:Ren) (base:Nat) (w:World) (ev:Operand->KV) (cF:Operand->Value) (v:KV),KJ P E A B ρ base w->(∀ x∈xs,VC P E ρ (ev x) (cF x))->aH (f A (xs.map ev)) v->
   ∃ v',VC P E ρ v v'/\(execOp cF o).run P w = .ok (.value v') w
 | .look f xs=>∀ (E:Env) (A:ae) (B:St) (ρ:Ren) (base:Nat) (w:World) (ev:Operand->KV) (cF:Operand->Value) (v:KV),KJ P E A B ρ base w->(∀ x∈xs,VC P E ρ (ev x) (cF x))->aH (f (xs.map ev)) v->
   ∃ E' B' aF v' nx w',(execOp cF o).run P w = .ok nx w'/\agV v' nx/\VC P E' aF v v'/\Ev P base E A B ρ w E' A B' aF w'
 | .act f xs=>∀ (E:Env) (A A' : ae) (B:St) (ρ:Ren) (base:Nat) (w:World) (ev:Operand->KV) (cF:Operand->Value) (v:KV),KJ P E A B ρ base w->(∀ x∈xs,VC P E ρ (ev x) (cF x))->aH (f A (xs.map ev)) (v,A')->
   ∃ E' B' aF v' nx w',(execOp cF o).run P w = .ok nx w'/\agV v' nx/\VC P E' aF v v'/\Ev P base E A B ρ w E' A' B' aF w'
 | _=>True
theorem mid {ρ:Ren} {ev:Operand->KV} {cF:Operand->Value} {xs:List Operand} (h:∀ x∈xs,VC P E ρ (ev x) (cF x)) :
  ∃ em:Operand->Value,aV P E (xs.map ev) (xs.map em)/\zX ρ em cF xs:=by
 classical
 refine ⟨fun x=>if hx:VC P E ρ (ev x) (cF x) then hx.choose else undef,?_,?_⟩
 ·induction xs with
  | nil=>exact .nil
  | cons x xs ih=>
   refine .cons ?_ (ih fun y hy=>h y (by simp [hy]));have hx:=h x (by simp);simp only [dif_pos hx];exact hx.choose_spec.1
 ·intro x hx
  have hx:=h x hx;simp only [dif_pos hx];exact hx.choose_spec.2
theorem lift_pure {o:Oper} {f:FP} {g:List Value->Option Value} {xs:List Operand} (hc:compile P o.op = .pure g xs) (hs:yD P f g):HY P o (.pure f xs):=by
 intro E ρ ev cF v hv hg;obtain ⟨em,h1,h2⟩:=mid hv;obtain ⟨u,h3,h4⟩:=hs E _ _ v h1 hg;have cM:=ra P o;rw [hc] at cM;obtain ⟨v',h5,h6⟩:=cM ρ em cF u h2 h3;exact ⟨v',⟨u,h4,h5⟩,h6⟩
def aeZ (P:Program) (f:FR) (g:St->List Value->Option Value):Prop:=
 ∀ (E:Env) (A:ae) (B:St) (vs:List KV) (us:List Value) (v:KV),dr P E A B->aV P E vs us->aH (f A vs) v->∃ u,g B us=some u/\VK P E v u
theorem MD {o:Oper} {f:FR} {g:St->List Value->Option Value} {xs:List Operand} (hc:compile P o.op = .read g xs) (hs:aeZ P f g):HY P o (.read f xs):=by
 intro E A B ρ base w ev cF v hj hv hg;obtain ⟨em,h1,h2⟩:=mid hv;obtain ⟨u,h3,h4⟩:=hs E A B _ _ v hj.k h1 hg;have cM:=ra P o;rw [hc] at cM;obtain ⟨v',h5,h6⟩:=cM ρ B base w em cF u hj.s.rel h2 h3;exact ⟨v',⟨u,h4,h5⟩,h6⟩
def aiE (P:Program) (f:FA) (g:St->List Value->Option (Value×St)):Prop:=
 ∀ (E:Env) (A A' : ae) (B:St) (vs:List KV) (us:List Value) (v:KV),dr P E A B->aV P E vs us->aH (f A vs) (v,A')->∃ u B' E',g B us=some (u,B')/\VK P E' v u/\cO P E A B E' A' B'
theorem VN {o:Oper} {f:FA} {g:St->List Value->Option (Value×St)} {xs:List Operand} (hc:compile P o.op = .act g xs) (hs:aiE P f g):HY P o (.act f xs):=by
 intro E A A' B ρ base w ev cF v hj hv hg;obtain ⟨em,h1,h2⟩:=mid hv;obtain ⟨u,B',E',h3,h4,h5⟩:=hs E A A' B _ _ v hj.k h1 hg;have cM:=ra P o;rw [hc] at cM;obtain ⟨aF,v',nx,w',h6,h7,h8,h9⟩:=cM ρ B B' base w em cF u hj.s h2 h3;exact ⟨E',B',aF,v',nx,w',h6,h7,⟨u,h4,h8⟩,h5.ev h9⟩
def ano (P:Program) (f:FP) (g:St->List Value->Option (Value×St)):Prop:=
 ∀ (E:Env) (A:ae) (B:St) (vs:List KV) (us:List Value) (v:KV),dr P E A B->aV P E vs us->aH (f vs) v->∃ u B' E',g B us=some (u,B')/\VK P E' v u/\cO P E A B E' A B'
theorem aha {o:Oper} {f:FP} {g:St->List Value->Option (Value×St)} {xs:List Operand} (hc:compile P o.op = .act g xs) (hs:ano P f g):HY P o (.look f xs):=by
 intro E A B ρ base w ev cF v hj hv hg;obtain ⟨em,h1,h2⟩:=mid hv;obtain ⟨u,B',E',h3,h4,h5⟩:=hs E A B _ _ v hj.k h1 hg;have cM:=ra P o;rw [hc] at cM;obtain ⟨aF,v',nx,w',h6,h7,h8,h9⟩:=cM ρ B B' base w em cF u hj.s h2 h3;exact ⟨E',B',aF,v',nx,w',h6,h7,⟨u,h4,h8⟩,h5.ev h9⟩
theorem VO {o:Oper} {g:List Value->Option (ct×(Nat->Value))} {xs:List Operand} (hc:compile P o.op = .make g xs) {ρ:Ren} {B:St} {base:Nat} {w:World} {em cF:Operand->Value} {obj:ct} {mk:Nat->Value} (hs:vc ρ B base w)
  (h2:zX ρ em cF xs) (h3:g (xs.map em)=some (obj,mk)):∃ aF v' w',(execOp cF o).run P w = .ok (.value v') w'/\VR aF (mk B.next) v'/\iX base ρ B w aF (B.new obj) w':=by
 have cM:=ra P o;rw [hc] at cM;obtain ⟨c,mk',h4,h5,h6⟩:=cM ρ em cF obj mk h2 h3;exact ⟨_,_,_,h5 w,h6 _ _ _ (Ren.fH _ _ _),h4.eE hs⟩
def ZM (P:Program) (f:FA) (g:List Value->Option (ct×(Nat->Value))):Prop:=
 ∀ (E:Env) (A A' : ae) (B:St) (vs:List KV) (us:List Value) (v:KV),dr P E A B->aV P E vs us->aH (f A vs) (v,A')->∃ obj mk E',g us=some (obj,mk)/\VK P E' v (mk B.next)/\cO P E A B E' A' (B.new obj)
theorem Eb {o:Oper} {f:FA} {g:List Value->Option (ct×(Nat->Value))} {xs:List Operand} (hc:compile P o.op = .make g xs) (hs:ZM P f g):HY P o (.act f xs):=by
 intro E A A' B ρ base w ev cF v hj hv hg;obtain ⟨em,h1,h2⟩:=mid hv;obtain ⟨obj,mk,E',h3,h4,h5⟩:=hs E A A' B _ _ v hj.k h1 hg;obtain ⟨aF,v',w',h6,h7,h8⟩:=VO hc hj.s h2 h3;exact ⟨E',B.new obj,aF,v',_,w',h6,rfl,⟨_,h4,h7⟩,h5.ev h8⟩
def ak7 (P:Program) (f:FP) (g:List Value->Option (ct×(Nat->Value))):Prop:=
 ∀ (E:Env) (A:ae) (B:St) (vs:List KV) (us:List Value) (v:KV),dr P E A B->aV P E vs us->aH (f vs) v->∃ obj mk E',g us=some (obj,mk)/\VK P E' v (mk B.next)/\cO P E A B E' A (B.new obj)
theorem ack {o:Oper} {f:FP} {g:List Value->Option (ct×(Nat->Value))} {xs:List Operand} (hc:compile P o.op = .make g xs) (hs:ak7 P f g):HY P o (.look f xs):=by
 intro E A B ρ base w ev cF v hj hv hg;obtain ⟨em,h1,h2⟩:=mid hv;obtain ⟨obj,mk,E',h3,h4,h5⟩:=hs E A B _ _ v hj.k h1 hg;obtain ⟨aF,v',w',h6,h7,h8⟩:=VO hc hj.s h2 h3;exact ⟨E',B.new obj,aF,v',_,w',h6,rfl,⟨_,h4,h7⟩,h5.ev h8⟩
def Env.lJ (E:Env) (b x:Nat):Env:={ E with κ:=fun c=>if c=b then some x else E.κ c }
def Env.eI (E:Env) (b:Nat) (r:aeR):Env:={ E with z:=fun c=>if c=b then some r else E.z c }
def Env.vq (E:Env) (b g:Nat):Env:={ E with φ:=fun c=>if c=b then some g else E.φ c }
theorem cO.newRow {A:ae} {B:St} {cs:List KV} {bM:List Value} {bm:Nat} (h:dr P E A B) (hv:aV P E cs bM):cO P E A B (E.lJ A.next B.next) (A.new (.row cs bm)) (B.new (.row bM bm true none)):=by
 have hle:E.le (E.lJ A.next B.next):=⟨fun _ _ e=>e,fun b x e=>by
  have:=h.jM b x e;simp only [Env.lJ]; rw [aa (by omega)]; exact e,fun _ _ e=>e,fun _ _ e=>e⟩
 have hA:∀ (b:Nat) (v:KV),(A.new (.row cs bm)).get b=some (.arr v)->A.get b=some (.arr v):=fun b v hb=>by
  rw [ae.cq] at hb;split at hb
  ·simp at hb
  ·exact hb
 have VP:∀ (b:Nat) (v:KV),(A.new (.row cs bm)).get b=some (.iC v)->A.get b=some (.iC v):=fun b v hb=>by
  rw [ae.cq] at hb;split at hb
  ·simp at hb
  ·exact hb
 have BM:∀ x,AR A E x->(B.new (.row bM bm true none)).get x=B.get x:=fun x q=>by have:=h.HX q; rw [St.cq,aa (by omega)]
 refine ⟨⟨?_,?_,?_,?_,?_,?_,?_,?_,?_,?_,?_,?_,?_,?_,h.ar.dL hle (fun _=>rfl) hA VP (by simp) (by simp) BM (fun _ _ e=>.inl e) (fun b x e=>?_) (fun b g e=>.inl ⟨b,e⟩) (fun _ _=>by simp) h.mem⟩,hle,by simp,?_,?_,fun _ _ e=>.inl e,fun _ _ e=>.inl e,fun _ _ _ _=>by simp,fun _ q=>.inl (q.of (fun _=>rfl) hA),fun _ q=>.inl (q.of (fun _=>rfl) hA BM),fun _ _ q=>.inl (by simpa using q),fun _ q=>.inl (q.of (fun _=>rfl) hA BM fun _ _=>by simp),mj ZK,h.ZL⟩
 ·intro b lW OP hb
  rw [ae.cq] at hb;split at hb
  ·rename_i e
   simp at hb;obtain ⟨rfl,rfl⟩:=hb;exact ⟨B.next,bM,by simp [Env.lJ,e],by simp,hv.mono hle⟩
  ·obtain ⟨x,c,h1,h2,h3⟩:=h.row b lW OP hb
   have:=h.eS b x h1;exact ⟨x,c,hle.κ _ _ h1,by rw [St.cq,aa (by omega)]; exact h2,h3.mono hle⟩
 ·intro b top FU hb
  rw [ae.cq] at hb;split at hb
  ·simp at hb
  ·rcases h.aO b top FU hb with h1 | ⟨g,h1,ZN,h2⟩
   ·exact .inl h1
   ·refine .inr ⟨g,h1,ZN,fun x hx c e own f k hg=>?_⟩
    rw [St.cq] at hg;split at hg
    ·simp at hg
    ·exact h2 x (by simpa using hx) c e own f k hg
 ·intro b r hb
  have:=h.lD b r hb;rw [St.cq,aa (by omega)];exact h.z b r hb
 ·intro b x hb
  simp only [Env.lJ] at hb ⊢;split at hb
  ·simp at hb
   subst hb;cases hz:E.z B.next with
   | none=>rfl
   | some r=>have:=h.lD _ r hz; omega
  ·exact h.apart b x hb
 ·intro b c x hb hc
  simp only [Env.lJ] at hb hc;split at hb <;> split at hc
  ·omega
  ·simp at hb; subst hb; have:=h.eS c _ hc; omega
  ·simp at hc; subst hc; have:=h.eS b _ hb; omega
  ·exact h.inj b c x hb hc
 ·exact G2.new (E:=E.lJ A.next B.next) (fun x y g a b c d e f hx hy=>h.gD x y g a b c d e f hx hy) (.inl fun _ _=>by simp)
 ·intro b x hb
  simp only [Env.lJ] at hb;rw [ae.bR];split at hb
  ·omega
  ·have:=h.jM b x hb; omega
 ·intro b g hb; have:=h.kL b g hb; rw [ae.bR]; omega
 ·intro b o hb
  rw [ae.cq] at hb;rw [ae.bR];split at hb
  ·omega
  ·have:=h.live b o hb; omega
 ·intro b x hb
  simp only [Env.lJ] at hb;rw [St.bR];split at hb
  ·simp at hb; omega
  ·have:=h.eS b x hb; omega
 ·intro b r hb; have:=h.lD b r hb; rw [St.bR]; omega
 ·intro b g hb; have:=h.il b g hb; rw [St.bR]; omega
 ·intro g hg; rw [St.bR] at hg; rw [St.jm]; exact h.fresh g (by omega)
 ·intro g x hx; rw [St.jm] at hx; rw [St.bR]; have:=h.mem g x hx; omega
 ·simp only [Env.lJ] at e
  split at e
  ·simp at e; exact .inr (by omega)
  ·exact .inl e
 ·intro x hx _ _; rw [St.cq,aa (by omega)]
 ·intro b x hb
  simp only [Env.lJ] at hb;split at hb
  ·simp at hb; exact .inr (by omega)
  ·exact .inl hb
theorem cO.ZO {A:ae} {B:St} {bM:List Value} {bm:Nat} (h:dr P E A B):cO P E A B (E.eI B.next ⟨bM,bm,true,none⟩) A (B.new (.row bM bm true none)):=by
 have hle:E.le (E.eI B.next ⟨bM,bm,true,none⟩):=⟨fun _ _ e=>e,fun _ _ e=>e,fun b r e=>by
  have:=h.lD b r e;simp only [Env.eI]; rw [aa (by omega)]; exact e,fun _ _ e=>e⟩
 have BM:∀ x,AR A E x->(B.new (.row bM bm true none)).get x=B.get x:=fun x q=>by have:=h.HX q; rw [St.cq,aa (by omega)]
 have OQ:∀ b r,(E.eI B.next ⟨bM,bm,true,none⟩).z b=some r->E.z b=some r\/B.next<=b:=fun b r e=>by
  simp only [Env.eI] at e;split at e
  ·exact .inr (by omega)
  ·exact .inl e
 refine ⟨⟨?_,?_,?_,?_,?_,?_,?_,?_,?_,?_,?_,?_,?_,?_,h.ar.dL hle (fun _=>rfl) (fun _ _ e=>e) (fun _ _ e=>e) (aB _) (by simp) BM OQ (fun _ _ e=>.inl e) (fun b g e=>.inl ⟨b,e⟩) (fun _ _=>by simp) h.mem⟩,hle,aB _,?_,?_,fun b r e=>(OQ b r e).imp id .inr,fun _ _ e=>.inl e,fun _ _ _ _=>by simp,fun _ q=>.inl q,fun _ q=>.inl (q.of (fun _=>rfl) (fun _ _ e=>e) BM),fun _ _ q=>.inl (by simpa using q),fun _ q=>.inl (q.of (fun _=>rfl) (fun _ _ e=>e) BM fun _ _=>by simp),mj ZK,fun _ e=>e⟩
 ·intro b lW OP hb
  obtain ⟨x,c,h1,h2,h3⟩:=h.row b lW OP hb;have:=h.eS b x h1;exact ⟨x,c,hle.κ _ _ h1,by rw [St.cq,aa (by omega)]; exact h2,h3.mono hle⟩
 ·intro b top FU hb
  rcases h.aO b top FU hb with h1 | ⟨g,h1,ZN,h2⟩
  ·exact .inl h1
  ·refine .inr ⟨g,h1,ZN,fun x hx c e own f k hg=>?_⟩
   rw [St.cq] at hg;split at hg
   ·simp at hg
   ·exact h2 x (by simpa using hx) c e own f k hg
 ·intro b r hb
  simp only [Env.eI] at hb;split at hb
  ·rename_i e
   simp at hb;subst hb e;simp
  ·have:=h.lD b r hb
   rw [St.cq,aa (by omega)];exact h.z b r hb
 ·intro b x hb
  have:=h.eS b x hb;simp only [Env.eI];rw [aa (by omega)];exact h.apart b x hb
 ·exact h.inj
 ·exact h.gD
 ·exact h.jM
 ·exact h.kL
 ·exact h.live
 ·intro b x hb; have:=h.eS b x hb; rw [St.bR]; omega
 ·intro b r hb
  simp only [Env.eI] at hb;rw [St.bR];split at hb
  ·omega
  ·have:=h.lD b r hb; omega
 ·intro b g hb; have:=h.il b g hb; rw [St.bR]; omega
 ·intro g hg; rw [St.bR] at hg; rw [St.jm]; exact h.fresh g (by omega)
 ·intro g x hx; rw [St.jm] at hx; rw [St.bR]; have:=h.mem g x hx; omega
 ·intro x hx _ _; rw [St.cq,aa (by omega)]
 ·intro b x hb; exact .inl hb
theorem cO.putRow {A:ae} {B:St} {b x bm:Nat} {cs:List KV} {bM:List Value} (h:dr P E A B) (hb:∃ lW e,A.get b=some (.row lW e)) (hx:E.κ b=some x) (hold:∃ lW,B.get x=some (.row lW bm true none)/\lW.length=bM.length) (hv:aV P E cs bM):cO P E A B E (A.put b (.row cs bm)) (B.put x (.row bM bm true none)):=by
 have hA:∀ (c:Nat) (v:KV),(A.put b (.row cs bm)).get c=some (.arr v)->A.get c=some (.arr v):=fun c v hb=>by
  rw [ae.bB] at hb;split at hb
  ·simp at hb
  ·exact hb
 have VP:∀ (c:Nat) (v:KV),(A.put b (.row cs bm)).get c=some (.iC v)->A.get c=some (.iC v):=fun c v hb=>by
  rw [ae.bB] at hb;split at hb
  ·simp at hb
  ·exact hb
 have BM:∀ y,AR A E y->(B.put x (.row bM bm true none)).get y=B.get y:=fun y q=>by
  rw [St.bB,aa];intro e;subst e;exact (h.ar.z _ q).2 b hx
 refine ⟨⟨?_,?_,?_,h.apart,h.inj,h.gD.put (.inl fun _ _=>by simp),h.jM,h.kL,?_,h.eS,h.lD,h.il,?_,?_,h.ar.dL (Env.le_refl _) (fun _=>rfl) hA VP (aB _) (aB _) BM (fun _ _ e=>.inl e) (fun _ _ e=>.inl e) (fun b g e=>.inl ⟨b,e⟩) (fun _ _=>by simp) h.mem⟩,Env.le_refl _,aB _,?_,fun _ _ e=>.inl e,fun _ _ e=>.inl e,fun _ _ e=>.inl e,fun _ _ _ _=>by simp,fun _ q=>.inl (q.of (fun _=>rfl) hA),fun _ q=>.inl (q.of (fun _=>rfl) hA BM),fun _ _ q=>.inl (by simpa using q),fun _ q=>.inl (q.of (fun _=>rfl) hA BM fun _ _=>by simp),fun y _ c e own bL q=>by
  rw [St.bB] at q;split at q
  ·rename_i e2
   simp at q;obtain ⟨rfl,rfl,rfl,rfl⟩:=q;obtain ⟨c0,h1,h2⟩:=hold;exact ⟨c0,by rw [e2]; exact h1,h2⟩
  ·exact ⟨c,q,rfl⟩,by
  obtain ⟨lW,e0,hb⟩:=hb;exact oL hb (by simp)⟩
 ·intro c lW OP hc
  rw [ae.bB] at hc;split at hc
  ·rename_i e
   simp at hc;obtain ⟨rfl,rfl⟩:=hc;exact ⟨x,bM,by rw [e]; exact hx,by simp,hv⟩
  ·rename_i cI
   obtain ⟨y,d,h1,h2,h3⟩:=h.row c lW OP hc;refine ⟨y,d,h1,?_,h3⟩;rw [St.bB,aa (fun e=>cI (h.inj c b x (by rw [<- e]; exact h1) hx))];exact h2
 ·intro c top FU hc
  rw [ae.bB] at hc;split at hc
  ·simp at hc
  ·rcases h.aO c top FU hc with h1 | ⟨g,h1,ZN,h2⟩
   ·exact .inl h1
   ·refine .inr ⟨g,h1,ZN,fun y hy d e own f k hg=>?_⟩
    rw [St.bB] at hg;split at hg
    ·simp at hg
    ·exact h2 y (by simpa using hy) d e own f k hg
 ·intro c r hc
  rw [St.bB,aa]
  ·exact h.z c r hc
  ·intro e
   have:=h.apart b x hx;rw [<- e,hc] at this;simp at this
 ·intro c o hc
  rw [ae.bB] at hc;rw [ae.ss];split at hc
  ·rename_i e
   obtain ⟨lW,e0,hb⟩:=hb;rw [e]; exact h.live b _ hb
  ·exact h.live c o hc
 ·intro g hg; rw [St.wi]; exact h.fresh g hg
 ·intro g y hy; rw [St.wi] at hy; exact h.mem g y hy
 ·intro y hy hn _
  rw [St.bB,aa (fun e=>by
   obtain ⟨lW,e0,hb⟩:=hb;have:=hn b (by rw [e]; exact hx);rw [hb] at this;simp at this)]
theorem amK {n:Nat} : ZM P (HT n) (aex n):=by
 intro E A A' B vs us v h hv hg;unfold HT at hg;split at hg
 ·rename_i x
  obtain ⟨y,rfl,h1⟩:=hv.dX;obtain ⟨ho,hg⟩:=hg.cond;have hg:(KV.ptr A.next 0,A.new (.row x.cells n))=(v,A'):=hg;simp only [du] at hg;obtain ⟨rfl,rfl⟩:=hg;have hc:=h1.cells (AK ho);have Jp:y.cells.toList.all scalar=true:=fe.2 (hc.scalar ho);exact ⟨GS n y,HF,E.lJ A.next B.next,by simp [aex,Jp],.BH (by simp [Env.lJ]),cO.newRow h hc⟩
 ·exact hg.elim
theorem ajV {t:TypeId} {z:Value} (hz:xR P t=some z) (hf:flat z=true) (Jp:z.cells.toList.all scalar=true) (ho:gC (fy z).cells=true):ZM P (W9 (oG P t) (fy z).cells) (Mc P t):=by
 intro E A A' B vs us v h hv hg;have hg:(KV.ptr A.next 0,A.new (.row (fy z).cells (oG P t)))=(v,A'):=hg;simp only [du] at hg;obtain ⟨rfl,rfl⟩:=hg;exact ⟨GS (oG P t) z,HF,E.lJ A.next B.next,by simp only [Mc,hz,dK,hf,Jp,cC,aj],.BH (by simp [Env.lJ]),cO.newRow h (D9 ho)⟩
theorem OS {cs:List KV} {l:List Value} (h:aV P E cs l):∀ n,aV P E (dj cs n) (fw l n)
 | 0=>.nil
 | n+1=>aV.append h (OS h n)
theorem abK {n b:Nat} {z:Value} (ho:gC (fy z).cells=true):ZM P (OC n b (fy z).cells) (E8 n b z):=by
 intro E A A' B vs us v h hv hg;unfold OC at hg;split at hg
 ·rename_i k l k' c
  obtain ⟨x,y,rfl,h1,h2⟩:=hv.j9;have:=h1.cj; subst this;have:=h2.cj; subst this;obtain ⟨hc,hg⟩:=aH.jN hg;simp only [du] at hg;obtain ⟨rfl,rfl⟩:=hg;simp only [ao,lT] at hc;obtain ⟨⟨h3,h4⟩,h5⟩:=hc;obtain ⟨l',rfl⟩:=Int.eq_ofNat_of_zero_le h3;obtain ⟨c',rfl⟩:=Int.eq_ofNat_of_zero_le (Int.le_trans h3 h4);have h6:Nat.ble l' c' = true:=Nat.ble_eq_true_of_le (by omega);refine ⟨.row (fw z.cells.toList c') n true none,fun k=>.slice (some ⟨k,0,none⟩) l' c',E.lJ A.next B.next,?_,.aiC (by simp [Env.lJ]),cO.newRow h (OS (D9 ho) c')⟩;have h5:Nat.ble (b * c') 281474976710656=true:=h5;show cond (Nat.ble l' c'&&Nat.ble (b * c') 281474976710656) _ _=_;rw [h6,h5];rfl
 ·exact hg.elim
theorem dr.rowAt {A:ae} {B:St} (h:dr P E A B) {b x:Nat} {cs:List KV} (hr:rowAt A b=some cs) (hx:E.κ b=some x):∃ bM bm,B.get x=some (.row bM bm true none)/\aV P E cs bM:=by
 unfold K.rowAt at hr;split at hr
 ·rename_i c e hg
  simp at hr;subst hr;obtain ⟨y,d,h1,h2,h3⟩:=h.row _ _ _ hg;rw [hx] at h1;simp at h1;subst h1;exact ⟨d,_,h2,h3⟩
 ·simp at hr
theorem OT (e:KV):∀ (cs:List CK) (k:Nat),(leaves e cs k).length=cs.length
 | [],_=>rfl
 | c::cs,k=>by simp [leaves,OT e cs]
theorem adz {c:CK} {v:KV} (h:kindOk c v=true):leaf c v=v:=by
 cases c with
 | int k=>cases v <;> simp [kindOk] at h; subst h; rfl
 | bool=>cases v <;> simp [kindOk] at h; rfl
 | str=>cases v <;> simp [kindOk] at h; rfl
 | slice t=>
  cases v <;> simp [kindOk] at h;rename_i T m n es acc;cases m <;> simp at h;subst h;rfl
 | other=>cases v <;> simp [kindOk] at h
theorem CT:∀ {ks:List CK} {cs:List KV} {i:Nat} {c:CK},aD ks cs=true->ks[i]? = some c->∃ v,cs[i]? = some v/\kindOk c v=true
 | [],_,i,c,_,h=>by simp at h
 | _::_,[],_,_,h,_=>by simp [aD] at h
 | k::ks,v::cs,0,c,h,e=>by
  simp only [aD,ao] at h;simp at e;subst e;exact ⟨v,rfl,h.1⟩
 | k::ks,v::cs,i+1,c,h,e=>by
  simp only [aD,ao] at h;obtain ⟨u,h1,h2⟩:=CT (i:=i) h.2 (by simpa using e);exact ⟨u,by simpa using h1,h2⟩
theorem gE:∀ {l:Lay} {es:List KV} {i:Nat} {e:KV},dH l es=true->es[i]? = some e->cw l e=true
 | l,[],i,e,_,h=>by simp at h
 | l,x::es,0,e,h,he=>by
  simp only [dH,ao] at h;simp at he;subst he;exact h.1
 | l,x::es,i+1,e,h,he=>by
  simp only [dH,ao] at h;exact gE h.2 (by simpa using he)
theorem gf {l:Lay} {e:KV} (h:cw l e=true):aD l.ks e.cells=true/\yg e=true:=by
 cases e <;> simp [cw] at h <;> first | exact ⟨h.2,rfl⟩ | skip
 obtain ⟨h1,h2⟩:=h;cases hk:l.ks with
 | nil=>rw [hk] at h2; simp [aD] at h2
 | cons c cs=>rw [hk] at h2; cases c <;> simp [aD,kindOk] at h2
theorem Sa {e:KV} {ks:List CK} (hk:aD ks e.cells=true):∀ {cs:List CK} {k:Nat},(∀ m c,cs[m]? = some c->ks[k+m]? = some c)->leaves e cs k=(e.cells.drop k).take cs.length
 | [],k,_=>by simp [leaves]
 | c::cs,k,h=>by
  obtain ⟨v,h1,h2⟩:=CT hk (by simpa using h 0 c rfl);have bj:k < e.cells.length:=(cH.1 h1).1;have ih:=Sa hk (cs:=cs) (k:=k+1) (fun m d hm=>by have:=h (m+1) d (by simpa using hm); rwa [show k+(m+1)=k+1+m by omega] at this);simp only [leaves];have e1:e.cells.getD k .bf=v:=by simp [List.getD,h1]
  rw [e1,adz h2];rw [show Nat.succ k=k+1 from rfl,ih,List.drop_eq_getElem_cons bj];have e2:e.cells[k] = v:=by
   have:=cK bj;rw [this] at h1;simpa using h1
  simp [e2]
theorem dr.Kq {A:ae} {B:St} (h:dr P E A B) {b x L N' : Nat} {v:KV} (hr:Kq A b=some v) (hx:E.α b=some (x,L,N')) :
  ∃ T N es acc,v = .ts T .any N es acc/\gW P T N es acc/\1<=aU P T/\∃ cs e own bL bh,N' = N/\B.get x=some (.row cs e own bL)/\aV P E es bh/\qB (aU P T) 0 cs bh/\L=cs.length/\e=aU P T:=by
 unfold K.Kq at hr;split at hr
 ·rename_i u hg
  simp at hr; subst hr;obtain ⟨T,N,es,acc,h1,h2,h3,h4⟩:=h.ar.arr b _ hg;refine ⟨T,N,es,acc,h1,h2,h3,?_⟩;rcases h4 with ⟨_,h5⟩ | ⟨y,cs,bL,bh,h4,h5,h6,h7⟩
  ·rw [hx] at h5; simp at h5
  ·rw [hx] at h4
   simp only [bN,du] at h4;obtain ⟨rfl,rfl,rfl⟩:=h4;exact ⟨cs,_,_,bL,bh,rfl,h5,h6,h7,rfl,rfl⟩
 ·rename_i u hg
  simp at hr; subst hr;obtain ⟨T,N,es,acc,h1,h2,h3,h4⟩:=h.ar.iC b _ hg;refine ⟨T,N,es,acc,h1,h2,h3,?_⟩;rcases h4 with ⟨_,h5⟩ | ⟨y,r,bh,h4,h5,h6,h7,h8⟩
  ·rw [hx] at h5; simp at h5
  ·rw [hx] at h4
   simp only [bN,du] at h4;obtain ⟨rfl,rfl,rfl⟩:=h4;exact ⟨r.cs,_,_,_,bh,rfl,h.z _ _ h5,h7,h8,rfl,h6⟩
 ·simp at hr
theorem ZP {t T Tc:TypeId} {k x base bm:Nat} {own:Bool} {bL:Option (Nat×Nat)} {e:KV} {u:Value} {cs:List Value} {B:St} (hz:B.get x=some (.row cs bm own bL)) (hc:Yx P t Tc=true) (hw:YB P T Tc k) (CU:cw (aQ P T) e=true)
  (h7:VK P E e u) (dP:u.cells.size=aU P T) (qJ:∀ (m:Nat) (y:Value),u.cells[m]? = some y->cs[base+m]? = some y):∃ w,Md P t B [.pointer (some ⟨x,base+k,none⟩)] = some w/\VK P E (N5 (aQ P t).agg (leaves e (aQ P t).ks k)) w:=by
 simp only [Yx,ao,lT] at hc;obtain ⟨⟨⟨⟨hTc,hpl⟩,ha⟩,hn⟩,anp⟩:=hc;have:=aK hTc;subst this;obtain ⟨amL,amM⟩:=gf CU;have hlv:=Sa amL (cs:=(aQ P Tc).ks) (k:=k) hw.is;rw [hlv];have Ki:=h7.cells amM;have hlen:e.cells.length=aU P T:=by have:=Ki.length; simp at this; omega
 have mG:(aQ P Tc).ks.length<=e.cells.length - k:=by
  have:=congrArg List.length hlv;rw [OT] at this;simp at this;omega
 have fk:∀ m,m < (aQ P Tc).ks.length->cs[base+k+m]? = u.cells.toList[k+m]?:=by
  intro m hm;have bj:k+m < u.cells.size:=by omega
  have:=qJ (k+m) u.cells[k+m] (by simp [bj]);rw [show base+(k+m)=base+k+m by omega] at this;rw [this];simp [bj]
 have ahb:takeN (aQ P Tc).ks.length (HD (base+k) cs)=some ((u.cells.toList.drop k).take (aQ P Tc).ks.length):=by
  have hle:(aQ P Tc).ks.length<=(cs.drop (base+k)).length:=by
   cases Ld:(aQ P Tc).ks.length with
   | zero=>omega
   | succ q=>
    have:=fk q (by omega);have bj:k+q < u.cells.toList.length:=by simp; omega
    rw [cK bj] at this;have:=(cH.1 this).1;simp;omega
  rw [vb,Lv hle];congr 1;apply List.ext_getElem?;intro m;rw [mc,mc];split
  ·rename_i hm
   rw [oV,oV];exact fk m hm
  ·rfl
 have hrel:aV P E (e.cells.drop k |>.take (aQ P Tc).ks.length) ((u.cells.toList.drop k).take (aQ P Tc).ks.length):=(Ki.drop k).take _;cases BI:(aQ P Tc).agg with
 | true=>
  rw [BI] at ha;refine ⟨.agg ⟨(u.cells.toList.drop k).take (aQ P Tc).ks.length⟩,?_,.rC hrel⟩;simp [Md,loadAt,ha,hn,St.Aa,cL,Cd,hz,ahb]
 | false=>
  rw [BI] at ha;have Zg:(aQ P Tc).ks.length=1:=by
   rw [BI] at anp;exact aK (by simpa using anp)
  rw [Zg] at ahb hrel;have bj:k < e.cells.length:=by omega
  rw [Zg];rw [List.drop_eq_getElem_cons bj] at hrel ⊢;simp only [List.take_succ_cons,List.take_zero] at hrel ⊢;obtain ⟨w,h8,h9⟩:=hrel.dX;refine ⟨w,?_,h9⟩;simp [Md,loadAt,ha,St.Aa,cL,Cd,hz,ahb,h8]
theorem ae0 {t:TypeId} : aeZ P (Ad P t) (Md P t):=by
 intro E A B vs us v h hv hg;unfold Ad at hg;split at hg
 ·rename_i b off
  obtain ⟨y,rfl,h1⟩:=hv.dX;obtain ⟨x,hx,rfl⟩:=h1.hO;split at hg
  ·rename_i ag n ha hn
   split at hg
   ·rename_i l hl
    obtain ⟨cs,h2,h3⟩:=cE.1 hl;obtain ⟨bM,bm,h4,h5⟩:=h.rowAt h2 hx;obtain ⟨r,h6,h7,_⟩:=h5.yy h3;cases ag with
    | true=>
     have hg:KV.agg l=v:=hg;subst hg;refine ⟨.agg ⟨r⟩,?_,.rC h7⟩;simp [Md,loadAt,ha,hn,St.Aa,cL,Cd,h4,h6]
    | false=>
     rw [aG] at hg;split at hg
     ·rename_i u
      have hg:u=v:=hg;subst hg;obtain ⟨w,rfl,h8⟩:=h7.dX;have hlen:n=1:=by
       obtain ⟨e,hle⟩:=Qe h3;have:=congrArg List.length e;rw [kU,Nat.min_eq_left hle] at this;simpa using this.symm
      subst hlen;exact ⟨w,by simp [Md,loadAt,ha,St.Aa,cL,Cd,h4,h6],h8⟩
     ·exact hg.elim
   ·exact hg.elim
  ·exact hg.elim
 ·rename_i T Tc i k es acc
  obtain ⟨y,rfl,h1⟩:=hv.dX;obtain ⟨hc,hg⟩:=hg.cond;have hg:N5 (aQ P t).agg (leaves (acc i) (aQ P t).ks k)=v:=hg;subst hg;obtain ⟨ht,bh,h2,hi,hw,b,off,r,rfl,h4,h5⟩:=h1.MA;have aoX:=ht.acc i hi;have hei:es[i]? = some (acc i):=by rw [aoX]; simp [List.getD,hi]
  obtain ⟨u,h6,h7⟩:=h2.get hei;obtain ⟨dP,qJ⟩:=h5 i u h6;exact ZP (h.z b r h4) hc hw (gE ht.typed hei) h7 dP qJ
 ·rename_i T Tc b i k
  obtain ⟨y,rfl,h1⟩:=hv.dX;split at hg
  ·rename_i T' m N es acc hA
   obtain ⟨hc,hg⟩:=hg.cond;have hg:N5 (aQ P t).agg (leaves (acc i) (aQ P t).ks k)=v:=hg;subst hg;simp only [ao] at hc;have:=aK hc.1;subst this;obtain ⟨x,L,N',h2,hw,hi,rfl⟩:=h1.JE;obtain ⟨T2,N2,o9,aw,CJ,ht,h1s,cs,e,own,bL,bh,h3,h4,h5,h6,_⟩:=h.Kq hA h2;simp only [KV.ts.injEq] at CJ;obtain ⟨rfl,rfl,rfl,rfl,rfl⟩:=CJ;have bj:i < es.length:=by rw [<- ht.len,<- h3]; exact hi
   have hei:es[i]? = some (acc i):=by rw [ht.acc i (by rw [ht.len]; exact bj)]; simp [List.getD,bj]
   obtain ⟨u,h7,h8⟩:=h5.get hei;obtain ⟨dP,qJ⟩:=h6 i u h7;rw [ba] at qJ;exact ZP h4 hc.2 hw (gE ht.typed hei) h8 dP qJ
  ·exact hg.elim
 ·exact hg.elim
end Go.K
end
section
namespace Go.K
open Go Go.aI
variable {P:Program} {E:Env}
theorem VK.ak8 {T:TypeId} {m:Mk} {n:Nat} {es:List KV} {acc:Nat->KV} {u:Value} (h:VK P E (.ts T m n es acc) u):VK P E (.ts T .any n es acc) u:=by
 obtain ⟨ht,bh,h1,a,cap,rfl,h2,h3,_⟩:=h.kY;simp only [VK];exact ⟨ht,bh,h1,a,cap,rfl,h2,h3,trivial⟩
theorem VK.ahc {T:TypeId} {acc:Nat->KV} : VK P E (.ts T .any 0 [] acc) (.slice none 0 0):=by
 simp only [VK];exact ⟨⟨rfl,fun i h=>by omega,rfl⟩,[],.nil,none,0,rfl,aB _,.inl ⟨rfl,rfl⟩,trivial⟩
theorem VK.aoa {b:Bool} {v:KV} {u:Value} (h:VK P E v u):VK P E (cond b v .bf) u:=by
 cases b with
 | false=>exact .vm
 | true=>exact h
theorem VK.nK {c:CK} {v:KV} {u:Value} (h:VK P E v u):VK P E (nK c v) u:=by
 unfold K.nK;split
 ·have:=h.pb; subst this; exact .ahc
 ·rename_i t t' m n es acc
  cases hb:Nat.beq t t' with
  | false=>exact .vm
  | true=>
   have:=aK hb;subst this;exact h.ak8
 ·exact VK.aoa h
theorem aV.CO:∀ {ks:List CK} {cs:List KV} {l:List Value},aV P E cs l->cs.length=ks.length->aV P E (CO ks cs) l
 | [],[],l,h,_=>h
 | [],_::_,_,_,e=>by simp at e
 | _::_,[],_,_,e=>by simp at e
 | c::ks,v::cs,l,h,e=>by
  obtain ⟨y,ys,rfl,h1,h2⟩:=h.cons_inv;exact .cons h1.nK (aV.CO h2 (by simpa using e))
theorem VK.dJ {l:Lay} {v:KV} {u:Value} (h:VK P E v u):VK P E (dJ l v) u:=by
 unfold K.dJ;split
 ·rename_i cs
  obtain ⟨m,rfl,h1⟩:=h.kK;cases hb:(l.agg&&Nat.beq cs.length l.ks.length) with
  | false=>exact .vm
  | true=>
   simp only [ao] at hb;exact .rC (h1.CO (aK hb.2))
 ·cases l.agg with
  | true=>exact .vm
  | false=>
   rw [aG];split
   ·exact h.nK
   ·exact .vm
theorem TI (d:Nat) (v:KV):ca P (d+1) v=(match v with
 | .ts t _ n _ acc=>.ts t .any n ((List.range n).map fun i=>ik P (ca P d) t (acc i)) (fun i=>ik P (ca P d) t (acc i))
 | v=>v):=rfl
theorem abL (d:Nat) {c:CK} {v:KV} (h:kindOk c v=true):kindOk c (ca P d v)=true:=by
 cases d with
 | zero=>exact h
 | succ d=>
  rw [TI];split
  ·rename_i t m n es acc
   cases c <;> simp [kindOk] at h;cases m <;> simp at h;simp [kindOk,h]
  ·exact h
theorem HZ (d:Nat):∀ {ks:List CK} {cs:List KV},aD ks cs=true->aD ks (cs.map (ca P d))=true
 | [],[],_=>rfl
 | [],_::_,h=>by simp [aD] at h
 | _::_,[],h=>by simp [aD] at h
 | c::ks,v::cs,h=>by
  simp only [aD,ao] at h;simp only [List.map_cons,aD,ao];exact ⟨abL d h.1,HZ d h.2⟩
theorem tU:∀ {ks:List CK} {vs:List KV},aD ks vs=true->vs.length=ks.length
 | [],[],_=>rfl
 | [],_::_,h=>by simp [aD] at h
 | _::_,[],h=>by simp [aD] at h
 | k::ks,v::vs,h=>by
  simp only [aD,ao] at h;simp [tU h.2]
theorem oM {l:Lay} : ∀ {es:List KV},(∀ (i:Nat) e,es[i]? = some e->cw l e=true)->dH l es=true
 | [],_=>rfl
 | e::es,h=>by
  simp only [dH,ao];exact ⟨h 0 e rfl,oM fun i x hx=>h (i+1) x (by simpa using hx)⟩
theorem MF {l:Lay} {v:KV} (h:cw l v=true):leaves v l.ks 0=v.cells/\aD l.ks v.cells=true/\(v=N5 l.agg v.cells):=by
 have hk:aD l.ks v.cells=true/\(v=N5 l.agg v.cells):=by
  by_cases ha:∃ cs,v = .agg cs
  ·obtain ⟨cs,rfl⟩:=ha
   simp only [cw,ao] at h;refine ⟨h.2,?_⟩;rw [h.1]; rfl
  ·have h1:(!l.agg&&aD l.ks [v])=true:=by
    cases v <;> first | exact h | exact absurd ⟨_,rfl⟩ ha | simp [cw] at h
   have hc:v.cells = [v]:=by cases v <;> first | rfl | exact absurd ⟨_,rfl⟩ ha
   simp only [ao,lU] at h1;rw [hc,h1.1];exact ⟨h1.2,rfl⟩
 refine ⟨?_,hk.1,hk.2⟩;rw [Sa (e:=v) (ks:=l.ks) hk.1 (fun m c e=>by rw [ba]; exact e)];show (v.cells.drop 0).take l.ks.length=v.cells;rw [List.drop_zero,<- tU hk.1,List.take_length]
theorem ZQ {l:Lay} {cs:List KV} {v:KV} (h:cw l v=true) (hk:aD l.ks cs=true) (hlen:cs.length=v.cells.length):cw l (N5 l.agg cs)=true:=by
 by_cases ha:∃ ds,v = .agg ds
 ·obtain ⟨ds,rfl⟩:=ha
  simp only [cw,ao] at h;rw [h.1];show (l.agg&&aD l.ks cs)=true;rw [h.1,hk]; rfl
 ·have h1:(!l.agg&&aD l.ks [v])=true:=by
   cases v <;> first | exact h | exact absurd ⟨_,rfl⟩ ha | simp [cw] at h
  have hc:v.cells = [v]:=by cases v <;> first | rfl | exact absurd ⟨_,rfl⟩ ha
  simp only [ao,lU] at h1;rw [hc] at hlen
  match cs,hlen with
  | [c],_=>
   rw [h1.1];show cw l c=true;have TH:one c=true:=by
    cases qx:l.ks with
    | nil=>rw [qx] at hk; simp [aD] at hk
    | cons a aqd=>rw [qx] at hk; simp only [aD,ao] at hk; cases a <;> cases c <;> first | rfl | simp [kindOk] at hk
   cases c <;> first | (simp [one] at TH; done) | (simp only [cw,h1.1,GQ,CA]; exact hk)
mutual
theorem VK.ca:∀ (d:Nat) {v:KV} {u:Value},VK P E v u->VK P E (K.ca P d v) u
 | 0,_,_,h=>h
 | d+1,v,u,h=>by
  rw [TI];split
  ·rename_i t m n es acc
   obtain ⟨ht,bh,h1,a,cap,rfl,h2,h3,_⟩:=h.kY;simp only [VK];have CU:∀ i,i < n->∃ e e',es[i]? = some e/\bh[i]? = some e'/\acc i=e/\cw (aQ P t) e=true/\VK P E e e':=by
    intro i hi;have hl:i < es.length:=by rw [<- ht.len]; exact hi
    have e1:=cK hl;obtain ⟨e',e2,e3⟩:=h1.get e1;exact ⟨_,e',e1,e2,by rw [ht.acc i hi,fD,e1]; rfl,gE ht.typed e1,e3⟩
   have hlen:bh.length=n:=by rw [h1.length,ht.len]
   refine ⟨⟨by simp,fun i hi=>?_,?_⟩,bh,?_,a,cap,rfl,h2,h3,trivial⟩
   ·rw [fD,oW,List.getElem?_range hi]; rfl
   ·refine oM fun i e he=>?_
    rw [oW] at he;by_cases hi:i < n
    ·rw [List.getElem?_range hi] at he
     simp only [Option.map_some,bN] at he;obtain ⟨x,x',_,_,q3,q4,_⟩:=CU i hi;rw [<- he,q3,ik];obtain ⟨r1,r2,_⟩:=MF q4;rw [r1];exact ZQ q4 (HZ d r2) (by simp)
    ·rw [List.getElem?_eq_none (by simp; omega)] at he; simp at he
   ·refine aV.adu (by simp [hlen]) fun i e e' he Kl=>?_
    rw [oW] at he;by_cases hi:i < n
    ·rw [List.getElem?_range hi] at he
     simp only [Option.map_some,bN] at he;obtain ⟨x,x',_,q2,q3,q4,q5⟩:=CU i hi;rw [Kl] at q2;simp only [bN] at q2;subst q2;rw [<- he,q3];exact VK.ik d q4 q5
    ·rw [List.getElem?_eq_none (by simp; omega)] at he; simp at he
  ·exact h
theorem VK.ik (d:Nat) {t:TypeId} {v:KV} {u:Value} (hk:cw (aQ P t) v=true) (h:VK P E v u):VK P E (K.ik P (K.ca P d) t v) u:=by
 obtain ⟨r1,r2,r3⟩:=MF hk;rw [K.ik,r1];by_cases ha:∃ cs,v = .agg cs
 ·obtain ⟨cs,rfl⟩:=ha
  obtain ⟨l,rfl,h1⟩:=h.kK;have BI:(aQ P t).agg=true:=by simp only [cw,ao] at hk; exact hk.1
  rw [BI];exact .rC (aV.ae1 d h1)
 ·have hc:v.cells = [v]:=by cases v <;> first | rfl | exact absurd ⟨_,rfl⟩ ha
  have BI:(aQ P t).agg=false:=by
   cases v <;> first | (simp only [cw,ao,lU] at hk; exact hk.1) | exact absurd ⟨_,rfl⟩ ha | simp [cw] at hk
  rw [BI,hc];exact VK.ca d h
theorem aV.ae1 (d:Nat):∀ {cs:List KV} {l:List Value},aV P E cs l->aV P E (cs.map (K.ca P d)) l
 | [],l,h=>h
 | c::cs,l,h=>by
  obtain ⟨y,ys,rfl,h1,h2⟩:=h.cons_inv;exact .cons (VK.ca d h1) (aV.ae1 d h2)
end
theorem ae2 {c:CK} {v:KV} (h:kindOk c v=true):one v=true:=by
 cases c <;> cases v <;> simp [kindOk] at h <;> rfl
theorem G3:∀ {ks:List CK} {cs:List KV},aD ks cs=true->gC cs=true
 | [],[],_=>rfl
 | [],_::_,h=>by simp [aD] at h
 | _::_,[],h=>by simp [aD] at h
 | c::ks,v::cs,h=>by
  simp only [aD,ao] at h;simp [gC,ae2 h.1,G3 h.2]
def bA:List Value->List Value
 | []=>[]
 | v::vs=>v.cells.toList++bA vs
theorem gX {n:Nat} : ∀ {es:List Value},(∀ v∈es,v.cells.size=n)->(bA es).length=es.length * n
 | [],_=>by simp [bA]
 | v::es,h=>by
  simp only [bA,kx,qI];rw [gX fun u hu=>h u (by simp [hu])];have:=h v (by simp);simp only [Array.length_toList,this,Nat.succ_mul];omega
theorem lK {n:Nat} : ∀ {es:List Value},(∀ v∈es,v.cells.size=n)->qB n 0 (bA es) es
 | [],_,i,x,h=>by simp at h
 | v::es,hs,i,x,h=>by
  have hv:=hs v (by simp);cases i with
  | zero=>
   simp at h;subst h;refine ⟨hv,fun k y hy=>?_⟩;simp only [bA,Nat.zero_mul,ba];have bj:k < v.cells.size:=(rS.1 hy).1;rw [qH (by simpa using bj)];simpa using hy
  | succ i=>
   obtain ⟨h1,h2⟩:=lK (es:=es) (fun u hu=>hs u (by simp [hu])) i x (by simpa using h);refine ⟨h1,fun k y hy=>?_⟩;have:=h2 k y hy;simp only [bA];rw [tH (by simp [hv,Nat.succ_mul]; omega)];rw [<- this];congr 1;simp [hv,Nat.succ_mul];omega
theorem AL:∀ (a b:List Value),bA (a++b)=bA a++bA b
 | [],b=>rfl
 | v::a,b=>by simp [bA,AL a b]
theorem AO:∀ {es:List Value},(∀ v∈es,∀ c∈v.cells.toList,scalar c=true)->∀ c∈bA es,scalar c=true
 | [],_,c,h=>by simp [bA] at h
 | v::es,hs,c,h=>by
  simp only [bA,jJ] at h;rcases h with h | h
  ·exact hs v (by simp) c h
  ·exact AO (fun u hu=>hs u (by simp [hu])) c h
theorem Xg {n:Nat} : ∀ {es:List Value} {i:Nat} {v:Value},(∀ u∈es,u.cells.size=n)->v.cells.size=n->i < es.length->gx (i * n) (bA es) v.cells.toList=some (bA (es.set i v))
 | [],i,v,_,_,h=>by simp at h
 | u::es,0,v,hs,hv,_=>by
  simp only [Nat.zero_mul,bA,List.set_cons_zero];have key:∀ (a b r:List Value),a.length=b.length->gx 0 (a++r) b=some (b++r):=by
   intro a
   induction a with
   | nil=>intro b r h; cases b <;> simp_all [BF]
   | cons x a ih=>
    intro b r h;cases b with
    | nil=>simp at h
    | cons y b=>rw [List.cons_append,yu,ih b r (by simpa using h)]; rfl
  exact key _ _ _ (by simp [hs u (by simp),hv])
 | u::es,i+1,v,hs,hv,h=>by
  have ih:=Xg (es:=es) (i:=i) (fun w hw=>hs w (by simp [hw])) hv (by simpa using h);simp only [bA,List.set_cons_succ];have key:∀ (a r vs q:List Value) (m:Nat),gx m r vs=some q->gx (a.length+m) (a++r) vs=some (a++q):=by
   intro a
   induction a with
   | nil=>intro r vs q m h; simpa using h
   | cons x a ih=>
    intro r vs q m h;rw [qI,show a.length+1+m=(a.length+m)+1 by omega,List.cons_append,ux,ih r vs q m h];rfl
  have:=key u.cells.toList _ _ _ _ ih;rw [show u.cells.toList.length+i * n=(i+1) * n by simp [hs u (by simp),Nat.succ_mul]; omega] at this;exact this
def r8 (es:List Value):List (Nat×Value)->List Value
 | []=>es
 | (i,v)::rest=>r8 (es.set i v) rest
theorem Ku:∀ (ps:List (Nat×Value)) (es:List Value),(r8 es ps).length=es.length
 | [],_=>rfl
 | p::ps,es=>by simp [r8,Ku ps]
theorem Sb {n:Nat} (hn:1<=n):∀ {ps:List (Nat×Value)} {es:List Value},(∀ u∈es,u.cells.size=n)->(∀ p∈ps,p.2.cells.size=n/\p.1 < es.length)->
  CC (Ce n) (bA es) ps=some (bA (r8 es ps))/\∀ u∈r8 es ps,u.cells.size=n
 | [],es,hs,_=>⟨rfl,hs⟩
 | (i,v)::ps,es,hs,hp=>by
  obtain ⟨h1,h2⟩:=hp (i,v) (by simp);have h3:=Xg hs h1 h2;have NB:∀ u∈es.set i v,u.cells.size=n:=by
   intro u hu;rcases List.mem_or_eq_of_mem_set hu with h | h
   ·exact hs u h
   ·subst h; exact h1
  obtain ⟨h4,h5⟩:=Sb hn (ps:=ps) NB (fun p hq=>by have:=hp p (by simp [hq]); simpa using this);refine ⟨?_,h5⟩;simp only [CC,Ce];have e1:Nat.beq v.cells.size n=true:=by rw [h1]; simp
  have e2:Nat.ble 1 n=true:=Nat.ble_eq_true_of_le hn;rw [e1,e2];simp only [cC,aj,h3,dK];exact h4
theorem Sc {v:KV} {u:Value} (h:VK P E v u):∀ {es:List KV} {bh:List Value} (i:Nat),aV P E es bh->aV P E (setAt es i v) (bh.set i u)
 | [],bh,i,q=>by rw [q.bX]; cases i <;> exact .nil
 | x::es,bh,0,q=>by
  obtain ⟨y,ys,rfl,h1,h2⟩:=q.cons_inv;exact .cons h h2
 | x::es,bh,i+1,q=>by
  obtain ⟨y,ys,rfl,h1,h2⟩:=q.cons_inv;exact .cons h1 (Sc h i h2)
theorem Sd {l:Lay} : ∀ {is:List Nat} {vs:List KV} {us:List Value} {es:List KV} {bh:List Value},aV P E vs us->aV P E es bh->aV P E (FQ es ((zY is vs).map fun p=>(p.1,dJ l p.2))) (r8 bh (zipIdx is us))
 | [],vs,us,es,bh,_,h=>by simpa [zY,zipIdx,FQ,r8] using h
 | i::is,[],us,es,bh,hv,h=>by rw [hv.bX]; simpa [zY,zipIdx,FQ,r8] using h
 | i::is,v::vs,us,es,bh,hv,h=>by
  obtain ⟨y,ys,rfl,h1,h2⟩:=hv.cons_inv;simp only [zY,zipIdx,List.map_cons,FQ,r8];exact Sd h2 (Sc h1.dJ i h)
theorem ER:∀ (es:List KV) (i:Nat) (v:KV),(setAt es i v).length=es.length
 | [],0,_=>rfl
 | [],_+1,_=>rfl
 | _::_,0,_=>rfl
 | e::es,i+1,v=>by simp [setAt,ER es i v]
theorem Kv:∀ (ps:List (Nat×KV)) (es:List KV),(FQ es ps).length=es.length
 | [],_=>rfl
 | p::ps,es=>by simp [FQ,Kv ps,ER]
theorem adA {n:Nat} : ∀ {is:List Nat} (us:List Value),D6 n is=true->∀ p∈zipIdx is us,p.1 < n/\p.2∈us
 | [],us,_,p,h=>by simp [zipIdx] at h
 | i::is,[],_,p,h=>by simp [zipIdx] at h
 | i::is,u::us,h,p,hp=>by
  simp only [D6,ao,bG] at h;simp only [zipIdx,de] at hp;rcases hp with rfl | hp
  ·exact ⟨h.1,by simp⟩
  ·obtain ⟨h1,h2⟩:=adA us h.2 p hp
   exact ⟨h1,by simp [h2]⟩
theorem CV (z:Value):∀ n,fw z.cells.toList n=bA (List.replicate n z)
 | 0=>rfl
 | n+1=>by simp [fw,List.replicate_succ,bA,CV z n]
theorem MG {z:KV} {u:Value} (h:VK P E z u):∀ n,aV P E (dj [z] n) (List.replicate n u)
 | 0=>.nil
 | n+1=>by simpa [dj,List.replicate_succ] using aV.cons h (MG h n)
theorem ml {l:Lay} : ∀ {es:List KV} {bh:List Value},dH l es=true->aV P E es bh->∀ u∈bh,u.cells.size=l.ks.length/\∀ c∈u.cells.toList,scalar c=true
 | [],bh,_,h,u,hu=>by rw [h.bX] at hu; simp at hu
 | e::es,bh,CU,h,u,hu=>by
  obtain ⟨y,ys,rfl,h1,h2⟩:=h.cons_inv;simp only [dH,ao] at CU;rcases de.1 hu with rfl | hu
  ·obtain ⟨k1,k2⟩:=gf CU.1
   have hc:=h1.cells k2;refine ⟨?_,hc.scalar (G3 k1)⟩;have:=hc.length;have:=sv k1;simp at *;omega
  ·exact ml CU.2 h2 u hu
theorem VQ {l:Lay} : ∀ {vs:List KV} {us:List Value},aV P E vs us->aV P E (vs.map (dJ l)) us
 | [],_,h=>h
 | v::vs,us,h=>by
  obtain ⟨y,ys,rfl,h1,h2⟩:=h.cons_inv;exact .cons h1.dJ (VQ h2)
theorem abM {e:TypeId} {n len:Nat} {z:Value} {is:List Nat} (hn:(aQ P e).ks.length=n) (h1n:1<=n) (hz:z.cells.size=n) (hb:D6 len is=true) :
  ak7 P (Oz (aQ P e) e (dJ (aQ P e) (fy z)) len is) (tJ n z len is):=by
 intro E A B vs us v h hv hg;unfold Oz at hg;obtain ⟨hc,hg⟩:=aH.cond hg;simp only [ao] at hc;obtain ⟨⟨hk,hvs⟩,CU⟩:=hc;have hg:KV.ts e .exact len _ _=v:=hg;subst hg;have VS:VK P E (dJ (aQ P e) (fy z)) z:=(VK.fy z).dJ;have hrel:=Sd (l:=aQ P e) (is:=is) hv (MG VS len);have hlen:(FQ (dj [dJ (aQ P e) (fy z)] len) ((zY is vs).map fun p=>(p.1,dJ (aQ P e) p.2))).length=len:=by
  rw [Kv,Bj]; simp
 have adB:∀ p∈zipIdx is us,p.2.cells.size=n/\p.1 < (List.replicate len z).length:=by
  intro p hp;obtain ⟨h5,h6⟩:=adA us hb p hp;have hm:aV P E (vs.map (dJ (aQ P e))) us:=VQ hv;exact ⟨by rw [<- hn]; exact (ml hvs hm p.2 h6).1,by simpa using h5⟩
 obtain ⟨h3,h4⟩:=Sb h1n (ps:=zipIdx is us) (es:=List.replicate len z) (fun u hu=>by rw [(List.mem_replicate.1 hu).2]; exact hz) adB;have wm:=ml CU hrel;have qy:(bA (r8 (List.replicate len z) (zipIdx is us))).all scalar=true:=fe.2 (AO fun u hu=>(wm u hu).2);refine ⟨.row (bA (r8 (List.replicate len z) (zipIdx is us))) n true none,fun b=>.slice (some ⟨b,0,none⟩) len len,E.eI B.next ⟨_,n,true,none⟩,?_,?_,cO.ZO h⟩
 ·unfold tJ
  rw [CV,h3];simp only [dK];rw [qy,HV hv hk];rfl
 ·have ahd:=hrel.mono (cO.ZO (bM:=bA (r8 (List.replicate len z) (zipIdx is us))) (bm:=n) h).le
  have kV:(r8 (List.replicate len z) (zipIdx is us)).length=len:=by rw [Ku]; simp
  simp only [VK];refine ⟨⟨hlen.symm,fun i _=>rfl,CU⟩,_,ahd,some ⟨B.next,0,none⟩,len,rfl,aB _,.inr ⟨B.next,0,⟨bA (r8 (List.replicate len z) (zipIdx is us)),n,true,none⟩,rfl,by simp [Env.eI],hn.symm,?_⟩,rfl,fun b off hb=>?_⟩
  ·have:=lK h4
   unfold aU;rw [hn];exact this
  ·simp at hb
   obtain ⟨rfl,rfl⟩:=hb;refine ⟨⟨bA (r8 (List.replicate len z) (zipIdx is us)),n,true,none⟩,by simp [Env.eI],rfl,rfl,?_⟩;simp only [aU,hn];rw [gX h4,kV];omega
theorem adC {n len:Nat} {z:Value} {is:List Nat} (ho:gC (fy z).cells=true):ZM P (RX n (fy z).cells len is) (tJ n z len is):=by
 intro E A A' B vs us v h hv hg;unfold RX at hg;split at hg
 ·rename_i cs hf
  obtain ⟨hk,hg⟩:=aH.cond hg;simp only [ao] at hk;have hg:(KV.sl A.next 0 len len,A.new (.row cs n))=(v,A'):=hg;simp only [du] at hg;obtain ⟨rfl,rfl⟩:=hg;obtain ⟨h2,h3⟩:=ZC is hv;obtain ⟨r',e,hr⟩:=ZB h2 h3 (fun p hp=>by have:=ZD is vs p hp; exact fe.1 hk.1 _ this) (OS (D9 (P:=P) (E:=E) ho) len) hf;refine ⟨.row r' n true none,fun b=>.slice (some ⟨b,0,none⟩) len len,E.lJ A.next B.next,?_,.aiC (by simp [Env.lJ]),cO.newRow h hr⟩;unfold tJ;rw [e];simp only [dK];rw [HV hv hk.1,fe.2 (hr.scalar hk.2)];rfl
 ·exact hg.elim
theorem Fg {m cap:Nat} {lo hi:Bool} {r:List KV} {r' : List Value} {x y:Int} (h:Q8 m lo hi r=some (x,y)) (hr:aV P E r r') (h0:0<=x) (h1:x<=y) (h2:y<=(m:Int)) (hc:m<=cap) :
  v8 m cap lo hi false r' = some (x.toNat,y.toNat,cap):=by
 obtain ⟨x',rfl⟩:=Int.eq_ofNat_of_zero_le h0;obtain ⟨y',rfl⟩:=Int.eq_ofNat_of_zero_le (Int.le_trans h0 h1);have hb:∀ (k:IntKind) (i n:Nat),i<=n->X0 n (.int k (i:Int))=some i:=by
  intro k i n h;show kG (.ofNat i) (Nat.succ n)=some i;exact qM (by omega)
 match r,h with
 | [],h=>
  rw [hr.bX];cases lo <;> cases hi <;> simp [Q8] at h;obtain ⟨h3,h4⟩:=h;simp [v8];omega
 | [.int k a],h=>
  obtain ⟨u,rfl,h3⟩:=hr.dX;have:=h3.cj; subst this;cases lo <;> cases hi <;> simp [Q8] at h
  ·obtain ⟨h4,rfl⟩:=h
   simp only [v8];rw [hb k y' cap (by omega)];simp;omega
  ·obtain ⟨rfl,h4⟩:=h
   simp only [v8];rw [hb k x' m (by omega)];simp;omega
 | [.int k a,.int k' c],h=>
  obtain ⟨u,v,rfl,h3,h4⟩:=hr.j9;have:=h3.cj; subst this;have:=h4.cj; subst this;cases lo <;> cases hi <;> simp [Q8] at h;obtain ⟨rfl,rfl⟩:=h;simp only [v8];rw [hb k' y' cap (by omega)];simp only [dK];rw [hb k x' y' (by omega)];simp
theorem Ra {l:Lay} : ∀ {es:List KV} (n:Nat),dH l es=true->dH l (es.drop n)=true
 | es,0,h=>by simpa using h
 | [],n+1,_=>rfl
 | e::es,n+1,h=>by
  simp only [dH,ao] at h;simpa using Ra n h.2
theorem Rb {l:Lay} : ∀ {es:List KV} (n:Nat),dH l es=true->dH l (es.take n)=true
 | es,0,h=>rfl
 | [],n+1,_=>rfl
 | e::es,n+1,h=>by
  simp only [dH,ao] at h;simp [dH,h.1,Rb n h.2]
theorem ND {l:Lay} : ∀ {es fs:List KV},dH l es=true->dH l fs=true->dH l (es++fs)=true
 | [],fs,_,h=>h
 | e::es,fs,h,k=>by
  simp only [dH,ao] at h;simp [dH,h.1,ND h.2 k]
theorem qB.part {sz off x k:Nat} {cs es:List Value} (h:qB sz off cs es):qB sz (off+x * sz) cs ((es.drop x).take k):=by
 intro i v hv;rw [mc] at hv;split at hv
 ·rw [oV] at hv
  obtain ⟨h1,h2⟩:=h (x+i) v hv;refine ⟨h1,fun j y hj=>?_⟩;rw [<- h2 j y hj];congr 1;rw [Nat.add_mul];omega
 ·simp at hv
theorem VT {es:List KV} {i:Nat} (h:i < es.length):es[i]? = some (es.getD i .bf):=by simp [List.getD,h]
theorem ae3 {n:Nat} {lo hi:Bool} (_:1<=n):aeZ P (Vz P n lo hi) (va n lo hi false):=by
 intro E A B vs us v h hv hg;unfold Vz at hg;split at hg
 ·rename_i T mk m es acc r
  split at hg
  ·rename_i x y hb
   obtain ⟨dP,hg⟩:=hg.cond;have dP:=aK dP;obtain ⟨hc,rfl⟩:=aH.jN hg;simp only [ao,lT] at hc;obtain ⟨⟨h0,h1⟩,h2⟩:=hc;obtain ⟨u,r',rfl,h3,h4⟩:=hv.cons_inv;obtain ⟨ht,bh,h5,a,cap,rfl,h6,h7,_⟩:=h3.kY;have Km:=Fg hb h4 h0 h1 h2 h6;have hlen:=ht.len;have hle:((es.drop x.toNat).take (y.toNat - x.toNat)).length=y.toNat - x.toNat:=by simp; omega
   have hT:gW P T (y.toNat - x.toNat) ((es.drop x.toNat).take (y.toNat - x.toNat)) (fun i=>acc (x.toNat+i)):=by
    refine ⟨hle.symm,fun i hi=>?_,Rb _ (Ra _ ht.typed)⟩;rw [ht.acc _ (by omega)];simp only [List.getD];rw [mc,aE hi,oV]
   rcases h7 with ⟨rfl,hm⟩ | ⟨b,off,rr,rfl,h8,h9,pd⟩
   ·refine ⟨.slice none (y.toNat - x.toNat) (cap - x.toNat),by simp [va,Km],?_⟩
    simp only [VK];exact ⟨hT,_,(h5.drop _).take _,none,_,rfl,by omega,.inl ⟨rfl,by omega⟩,trivial⟩
   ·have fk:=h.z b rr h8
    have Tn:rr.bm=n:=by rw [h9]; exact dP
    refine ⟨.slice (some ⟨b,off+x.toNat * n,none⟩) (y.toNat - x.toNat) (cap - x.toNat),?_,?_⟩
    ·simp [va,Km,cL,CE,fk,Tn]
    ·simp only [VK]
     refine ⟨hT,_,(h5.drop _).take _,_,_,rfl,by omega,.inr ⟨b,off+x.toNat * n,rr,rfl,h8,h9,?_⟩,trivial⟩;have:aU P T=n:=dP;rw [this] at pd ⊢;exact pd.part
  ·exact hg.elim
 ·rename_i b o len cap r
  split at hg
  ·rename_i cs bm fk
   split at hg
   ·rename_i x y hb
    obtain ⟨dP,hg⟩:=hg.cond;have dP:=aK dP;obtain ⟨hc,rfl⟩:=aH.jN hg;simp only [ao,lT] at hc;obtain ⟨⟨⟨h0,h1⟩,h2⟩,h6⟩:=hc;obtain ⟨u,r',rfl,h3,h4⟩:=hv.cons_inv;obtain ⟨z,hz,rfl⟩:=h3.Qf;have Km:=Fg hb h4 h0 h1 h2 h6;obtain ⟨z',bM,e1,e2,_⟩:=h.row b cs bm fk;rw [hz] at e1;simp at e1;subst e1;refine ⟨.slice (some ⟨z,o+x.toNat * n,none⟩) (y.toNat - x.toNat) (cap - x.toNat),?_,.aiC hz⟩;simp [va,Km,cL,CE,e2,dP]
   ·exact hg.elim
  ·exact hg.elim
 ·rename_i T b o m r
  split at hg
  ·rename_i T' mk N es acc hA
   split at hg
   ·rename_i x y hb
    obtain ⟨dP,hg⟩:=hg.cond;obtain ⟨hc,rfl⟩:=aH.jN hg;simp only [ao] at dP;have hT:=aK dP.2;have anq:aU P T=n:=aK dP.1;subst hT;simp only [ao,lT] at hc;obtain ⟨⟨h0,h1⟩,h2⟩:=hc;obtain ⟨u,r',rfl,h3,h4⟩:=hv.cons_inv;rcases h3.yh with ⟨rfl,rfl,rfl⟩ | ⟨z,L,N',c,e1,rfl,e2,e3,e4⟩
    ·have Km:=Fg hb h4 h0 h1 h2 (aB _)
     have hx0:x.toNat=0:=by omega
     have hy0:y.toNat=0:=by omega
     refine ⟨.slice none (y.toNat - x.toNat) (0 - x.toNat),by simp [va,Km],.OI (.inl ⟨by omega,by omega,by rw [hx0,hy0]⟩)⟩
    ·have Km:=Fg hb h4 h0 h1 h2 e2
     obtain ⟨T2,N2,o9,aw,CJ,_,_,cs,e,own,bL,bh,_,h5,_,_,_,h7⟩:=h.Kq hA e1;simp only [KV.ts.injEq] at CJ;obtain ⟨rfl,_⟩:=CJ;refine ⟨.slice (some ⟨z,o * aU P T+x.toNat * n,none⟩) (y.toNat - x.toNat) (c - x.toNat),?_,.OI (.inr ⟨z,L,N',c - x.toNat,e1,?_,by omega,by omega,?_⟩)⟩
     ·simp [va,Km,cL,CE,h5,h7,anq]
     ·simp only [Value.slice.injEq,bN,Addr.mk.injEq,and_true,true_and]
      rw [anq,Nat.add_mul]
     ·rw [<- e4]
      congr 1;omega
   ·exact hg.elim
  ·exact hg.elim
 ·exact hg.elim
theorem adD {len n:Nat} {lo hi:Bool} : aeZ P (R0 len n lo hi) (Mh len n lo hi false):=by
 intro E A B vs us v h hv hg;unfold R0 at hg;split at hg
 ·rename_i b o r
  split at hg
  ·rename_i cs bm fk
   split at hg
   ·rename_i x y hb
    obtain ⟨dP,hg⟩:=hg.cond;simp only [ao] at dP;have yi:=aK dP.1;have hsz2:=dT dP.2;obtain ⟨hc,rfl⟩:=aH.jN hg;simp only [ao,lT] at hc;obtain ⟨⟨h0,h1⟩,h2⟩:=hc;obtain ⟨u,r',rfl,h3,h4⟩:=hv.cons_inv;obtain ⟨z,hz,rfl⟩:=h3.hO;have Km:=Fg hb h4 h0 h1 h2 (aB _);obtain ⟨z',bM,e1,e2,e3⟩:=h.row b cs bm fk;rw [hz] at e1;simp at e1;subst e1;have hlen:=e3.length;refine ⟨.slice (some ⟨z,o+x.toNat * n,none⟩) (y.toNat - x.toNat) (len - x.toNat),?_,.aiC hz⟩;have wk:Nat.ble (o+len * n) bM.length=true:=Nat.ble_eq_true_of_le (by omega);simp [Mh,Km,cL,CE,rowLen,e2,yi,wk]
    try omega
   ·exact hg.elim
  ·exact hg.elim
 ·exact hg.elim
theorem adE {lo hi:Bool} : yD P (R1 lo hi) (HH lo hi):=by
 intro E vs us v hv hg;unfold R1 at hg;split at hg
 ·rename_i s r
  split at hg
  ·rename_i x y hb
   obtain ⟨hc,rfl⟩:=aH.jN hg;simp only [ao,lT] at hc;obtain ⟨⟨h0,h1⟩,h2⟩:=hc;obtain ⟨u,r',rfl,h3,h4⟩:=hv.cons_inv;have:=h3.vl; subst this;have Km:=Fg hb h4 h0 h1 h2 (aB _);exact ⟨_,by simp [HH,Km],.mkStr⟩
  ·exact hg.elim
 ·exact hg.elim
theorem adF:aeZ P (fun _=>Mu) HJ:=by
 intro E A B vs us v h hv hg;have hg:aH (Mu vs) v:=hg;unfold Mu at hg;split at hg
 ·obtain ⟨u,rfl,h1⟩:=hv.dX
  have:=h1.pb; subst this;have hg:KV.str ⟨⟨[]⟩⟩=v:=hg;subst hg;exact ⟨_,rfl,.mkStr⟩
 ·rename_i T mk m es acc _
  obtain ⟨u,rfl,h1⟩:=hv.dX;obtain ⟨hc,rfl⟩:=aH.jN hg;obtain ⟨ht,bh,h5,a,cap,rfl,h6,h7,_⟩:=h1.kY;have hlen:=ht.len;rcases h7 with ⟨rfl,hm⟩ | ⟨b,off,rr,rfl,h8,h9,pd⟩
  ·have:es = []:=qG.1 (by omega)
   subst this;exact ⟨_,rfl,.mkStr⟩
  ·have fk:=h.z b rr h8
   have AP:∀ (i:Nat) (w:Value),bh[i]? = some w->∃ e,es[i]? = some e/\w = .int .u8 (byteOf e).toNat/\w.cells.size=1:=by
    intro i w hw;have hi:i < es.length:=by rw [<- h5.length]; exact (cH.1 hw).1
    obtain ⟨w',e1,e2⟩:=h5.get (VT hi);rw [hw] at e1;simp at e1;subst e1;have ve:=fe.1 hc _ (gi (VT hi));refine ⟨_,VT hi,?_⟩
    revert e2 ve
    generalize es.getD i .bf=e;intro e2 ve;cases e <;> simp [aiw] at ve;rename_i k q;cases k <;> simp at ve;have:=e2.cj; subst this;refine ⟨?_,rfl⟩;simp only [byteOf,Value.int.injEq,true_and];obtain ⟨p,rfl⟩:=Int.eq_ofNat_of_zero_le ve.1;have hp:p < 256:=by omega
    simp [UInt8.toNat_ofNat',Nat.mod_eq_of_lt hp]
   have aoY:bh=es.map fun e=>.int .u8 (byteOf e).toNat:=by
    apply List.ext_getElem?;intro i;cases hw:bh[i]? with
    | none=>
     have:es.length<=i:=by rw [<- h5.length]; exact Yo.1 hw
     simp [this]
    | some w=>
     obtain ⟨e,e1,e2,_⟩:=AP i w hw;simp [e1,e2]
   have yi:∀ i w,bh[i]? = some w->aU P T=1:=fun i w hw=>by
    obtain ⟨_,_,_,FV⟩:=AP i w hw;rw [<- (pd i w hw).1]; exact FV
   have FN:B.Aa ⟨b,off,none⟩ m=some bh:=by
    simp only [St.Aa,cL,Option.isNone_none,aj,Cd,fk,dK];have uN:bh.length=m:=by rw [h5.length]; exact hlen.symm
    have qJ:∀ i,i < m->rr.cs[off+i]? = bh[i]?:=by
     intro i hi;have Vd:i < bh.length:=by omega
     have hw:bh[i]? = some bh[i]:=cK Vd;have h1':=yi i _ hw;obtain ⟨h12,h13⟩:=pd i _ hw;obtain ⟨e,e1,e2,_⟩:=AP i _ hw;have:=h13 0 bh[i] (by rw [e2]; rfl);rw [h1'] at this;rw [hw,<- this];congr 1;omega
    have hle:m<=(rr.cs.drop off).length:=by
     cases hm0:m with
     | zero=>omega
     | succ q=>
      have:=qJ q (by omega);have hq:q < bh.length:=by omega
      rw [cK hq] at this;have:=(cH.1 this).1;simp;omega
    rw [vb,Lv hle];congr 1;apply List.ext_getElem?;intro i;rw [mc];split
    ·rename_i hi
     rw [oV];exact qJ i hi
    ·rename_i hi
     exact (Yo.2 (by omega)).symm
   have adk:∀ (l:List KV),Ju (l.map fun e=>.int .u8 (byteOf e).toNat)=some (l.map byteOf):=by
    intro l
    induction l with
    | nil=>rfl
    | cons e l ih=>
     have hb:=(byteOf e).toNat_lt;show cond (Nat.blt (byteOf e).toNat 256) ((Ju (l.map fun e=>.int .u8 (byteOf e).toNat)).map (UInt8.ofNat (byteOf e).toNat::·)) none=_;have:Nat.blt (byteOf e).toNat 256=true:=by rw [bG]; omega
     rw [this,aj,ih];simp
   refine ⟨.string ⟨⟨es.map byteOf⟩⟩,?_,.mkStr⟩;simp only [HJ,FN,dK];rw [aoY,adk];rfl
 ·exact hg.elim
theorem ZR {b lo hi:Nat} : ∀ {L:List Nat} {B:St},(∀ x∈L,rB (B.get x) lo hi=false)->B.kill b lo hi L=B
 | [],B,_=>rfl
 | x::L,B,h=>by
  simp only [St.kill];rw [h x (by simp),Bool.and_false,aG];exact ZR fun y hy=>h y (by simp [hy])
theorem cO.aiF {A:ae} {B:St} (sz:Nat) (h:dr P E A B):cO P E A B E (A.new (.aO 0 sz)) B:=by
 have hn:E.φ A.next=none:=by
  cases Jo:E.φ A.next with
  | none=>rfl
  | some g=>have:=h.kL _ g Jo; omega
 have hA:∀ (b:Nat) (v:KV),(A.new (.aO 0 sz)).get b=some (.arr v)->A.get b=some (.arr v):=fun b v hb=>by
  rw [ae.cq] at hb;split at hb
  ·simp at hb
  ·exact hb
 have VP:∀ (b:Nat) (v:KV),(A.new (.aO 0 sz)).get b=some (.iC v)->A.get b=some (.iC v):=fun b v hb=>by
  rw [ae.cq] at hb;split at hb
  ·simp at hb
  ·exact hb
 refine ⟨⟨?_,?_,h.z,h.apart,h.inj,h.gD.new (.inr hn),fun b x e=>?_,fun b g e=>?_,?_,h.eS,h.lD,h.il,h.fresh,h.mem,h.ar.dL (Env.le_refl _) (fun _=>rfl) hA VP (by simp) (aB _) (fun _ _=>rfl) (fun _ _ e=>.inl e) (fun _ _ e=>.inl e) (fun b g e=>.inl ⟨b,e⟩) (fun _ _=>rfl) h.mem⟩,Env.le_refl _,by simp,fun _ _ _ _=>rfl,fun _ _ e=>.inl e,fun _ _ e=>.inl e,fun _ _ e=>.inl e,fun _ _ _ _=>rfl,fun _ q=>.inl (q.of (fun _=>rfl) hA),fun _ q=>.inl (q.of (fun _=>rfl) hA fun _ _=>rfl),fun _ _ q=>.inl q,fun _ q=>.inl (q.of (fun _=>rfl) hA (fun _ _=>rfl) fun _ _=>rfl),mj fun _ _=>rfl,h.ZL⟩
 ·intro b cs bm hb
  rw [ae.cq] at hb;split at hb
  ·simp at hb
  ·exact h.row b cs bm hb
 ·intro b top FU hb
  rw [ae.cq] at hb;split at hb
  ·rename_i e
   simp at hb;refine .inl ⟨hb.1.symm,?_⟩;cases Jo:E.φ b with
   | none=>rfl
   | some g=>have:=h.kL b g Jo; omega
  ·exact h.aO b top FU hb
 ·have:=h.jM b x e; rw [ae.bR]; omega
 ·have:=h.kL b g e; rw [ae.bR]; omega
 ·intro b o hb
  rw [ae.cq] at hb;rw [ae.bR];split at hb
  ·omega
  ·have:=h.live b o hb; omega
theorem cO.grow {A:ae} {B:St} {f g top Rc sz:Nat} {c:List Value} (h:dr P E A B) (hA:A.get f=some (.aO top sz)) (hf:(E.φ f=none/\g=B.next)\/E.φ f=some g) (hc:c.length=Rc * sz) (ht:top<=Rc) (Gs:0 < Rc) :
  cO P E A B ((E.eI B.next ⟨c,sz,true,some (g,0)⟩).vq f g) (A.put f (.aO Rc sz)) (B.grow g 0 c sz):=by
 have nR:∀ x,(B.grow g 0 c sz).get x=if x=B.next then some (.row c sz true (some (g,0))) else B.get x:=fun x=>by simp [St.grow]
 have mI:∀ q,(B.grow g 0 c sz).members q=if q=g then B.next::B.members g else B.members q:=fun q=>by simp [St.grow,St.EK]
 have fU:(B.grow g 0 c sz).next=B.next+1:=rfl;have hlef:=h.live f _ hA;have hle:E.le ((E.eI B.next ⟨c,sz,true,some (g,0)⟩).vq f g):=by
  refine ⟨fun _ _ e=>e,fun _ _ e=>e,fun b r e=>?_,fun b q e=>?_⟩
  ·have:=h.lD b r e
   simp only [Env.vq,Env.eI]; rw [aa (by omega)]; exact e
  ·simp only [Env.vq,Env.eI]
   split
   ·rename_i e2
    subst e2;rcases hf with ⟨h1,_⟩ | h1
    ·rw [h1] at e; simp at e
    ·rw [h1] at e; exact e
   ·exact e
 have hg:g<=B.next:=by
  rcases hf with ⟨_,h1⟩ | h1
  ·omega
  ·have:=h.il f g h1; omega
 generalize hB' : B.grow g 0 c sz=B' at nR mI fU;have TJ:∀ (b:Nat) (v:KV),(A.put f (.aO Rc sz)).get b=some (.arr v)->A.get b=some (.arr v):=fun b v hb=>by
  rw [ae.bB] at hb;split at hb
  ·simp at hb
  ·exact hb
 have VP:∀ (b:Nat) (v:KV),(A.put f (.aO Rc sz)).get b=some (.iC v)->A.get b=some (.iC v):=fun b v hb=>by
  rw [ae.bB] at hb;split at hb
  ·simp at hb
  ·exact hb
 have BM:∀ x,x < B.next->B'.get x=B.get x:=fun x hx=>by rw [nR,aa (by omega)]
 have OQ:∀ b r,((E.eI B.next ⟨c,sz,true,some (g,0)⟩).vq f g).z b=some r->E.z b=some r\/B.next<=b:=fun b r e=>by
  simp only [Env.vq,Env.eI] at e;split at e
  ·exact .inr (by omega)
  ·exact .inl e
 have anr:∀ b q,((E.eI B.next ⟨c,sz,true,some (g,0)⟩).vq f g).φ b=some q->E.φ b=some q\/B.next<=q:=fun b q e=>by
  simp only [Env.vq,Env.eI] at e;split at e
  ·rename_i e2
   simp at e;subst e e2;rcases hf with ⟨_,h1⟩ | h1
   ·exact .inr (by omega)
   ·exact .inl h1
  ·exact .inl e
 have Se:∀ q,AF A E B q->B'.members q=B.members q:=fun q hq=>by
  rw [mI,aa];intro e2;subst e2;obtain ⟨b,v,x,L,N,cs,e,own,k,h1,h2,h3⟩:=hq;obtain ⟨h4,h5,_⟩:=h.ar.vo b v x L N cs e own q k h1 h2 h3;rcases hf with ⟨_,h1⟩ | h1
  ·omega
  ·exact h5 f h1
 have ahe:∀ q y,y∈B'.members q->y∈B.members q\/B.next<=y:=fun q y hy=>by
  rw [mI] at hy;split at hy
  ·rename_i e2
   subst e2;rcases de.1 hy with hy | hy
   ·exact .inr (by omega)
   ·exact .inl hy
  ·exact .inl hy
 refine ⟨⟨?_,?_,?_,?_,?_,?_,?_,?_,?_,?_,?_,?_,?_,?_,h.ar.dL hle (fun _=>rfl) TJ VP (aB _) (by omega) (fun x q=>BM x (h.HX q)) OQ (fun _ _ e=>.inl e) (fun b q e=>(anr b q e).imp (fun e=>⟨b,e⟩) id) Se h.mem⟩,hle,aB _,?_,fun b x e=>.inl e,fun b r e=>(OQ b r e).imp id .inr,anr,fun q hq hn _=>by
  rw [mI,aa];intro e2;subst e2;rcases hf with ⟨_,h1⟩ | h1
  ·omega
  ·exact hn f h1,fun _ q=>.inl (q.of (fun _=>rfl) TJ),fun _ q=>.inl (q.of (fun _=>rfl) TJ fun x q=>BM x (h.HX q)),ahe,fun _ q=>.inl (q.of (fun _=>rfl) TJ (fun x q=>BM x (h.HX q)) Se),mj BM,oL hA (by simp)⟩
 ·intro b cs bm hb
  rw [ae.bB] at hb;split at hb
  ·simp at hb
  ·obtain ⟨x,c2,h1,h2,h3⟩:=h.row b cs bm hb
   have:=h.eS b x h1;exact ⟨x,c2,h1,by rw [nR,aa (by omega)]; exact h2,h3.mono hle⟩
 ·intro b t FU hb
  rw [ae.bB] at hb;split at hb
  ·rename_i e
   simp at hb;obtain ⟨rfl,rfl⟩:=hb;subst e;refine .inr ⟨g,by simp [Env.vq],Gs,fun x hx cs e own q k hr=>?_⟩;rw [nR] at hr;rw [mI,aE rfl] at hx;split at hr
   ·simp at hr
    obtain ⟨rfl,rfl,_,_,rfl⟩:=hr;exact ⟨rfl,Nat.le_of_eq hc⟩
   ·rename_i cI
    rcases de.1 hx with hx | hx
    ·exact absurd hx cI
    ·rcases hf with ⟨_,h1⟩ | h1
     ·rw [h1,h.fresh _ (aB _)] at hx; simp at hx
     ·rcases h.aO b top sz hA with ⟨_,h2⟩ | ⟨g2,h2,_,h3⟩
      ·rw [h1] at h2; simp at h2
      ·rw [h1] at h2
       simp at h2;subst h2;obtain ⟨h4,h5⟩:=h3 x hx cs e own q k hr;exact ⟨h4,gS h5 (Nat.mul_le_mul_right _ ht)⟩
  ·rename_i Fh
   rcases h.aO b t FU hb with ⟨h1,h2⟩ | ⟨g2,h2,hp2,h3⟩
   ·exact .inl ⟨h1,by simp only [Env.vq,Env.eI]; rw [aa Fh]; exact h2⟩
   ·have cI:g2≠g:=by
     intro e;subst e;rcases hf with ⟨_,h1⟩ | h1
     ·have:=h.il b g2 h2; omega
     ·exact Fh (h.gD b f g2 _ _ _ _ hb hA h2 h1)
    refine .inr ⟨g2,by simp only [Env.vq,Env.eI]; rw [aa Fh]; exact h2,hp2,fun x hx cs e own q k hr=>?_⟩;rw [mI,aa cI] at hx;have:=h.mem g2 x hx;rw [nR,aa (by omega)] at hr;exact h3 x hx cs e own q k hr
 ·intro b r hb
  simp only [Env.vq,Env.eI] at hb;rw [nR];split at hb
  ·rename_i e; simp at hb; subst hb; rw [aE e]
  ·rename_i e; rw [aa e]; exact h.z b r hb
 ·intro b x hb
  have hb:E.κ b=some x:=hb;have:=h.eS b x hb;simp only [Env.vq,Env.eI];rw [aa (by omega)];exact h.apart b x hb
 ·exact h.inj
 ·intro b d q tb sb td sd lb ld hb hd
  simp only [Env.vq,Env.eI] at hb hd;rw [ae.bB] at lb ld;have key:∀ d t s,d≠f->A.get d=some (.aO t s)->E.φ d≠some g:=by
   intro d t s hd hl e;rcases hf with ⟨_,h1⟩ | h1
   ·have:=h.il d g e; omega
   ·exact hd (h.gD d f g _ _ _ _ hl hA e h1)
  by_cases e1:b=f <;> by_cases e2:d=f
  ·omega
  ·rw [aE e1] at hb; rw [aa e2] at hd ld; simp at hb; subst hb; exact absurd hd (key d _ _ e2 ld)
  ·rw [aE e2] at hd; rw [aa e1] at hb lb; simp at hd; subst hd; exact absurd hb (key b _ _ e1 lb)
  ·rw [aa e1] at hb lb; rw [aa e2] at hd ld; exact h.gD b d q _ _ _ _ lb ld hb hd
 ·exact h.jM
 ·intro b q hb
  simp only [Env.vq,Env.eI] at hb;rw [ae.ss];split at hb
  ·omega
  ·exact h.kL b q hb
 ·intro b o hb
  rw [ae.bB] at hb;rw [ae.ss];split at hb
  ·omega
  ·exact h.live b o hb
 ·intro b x hb; have:=h.eS b x hb; omega
 ·intro b r hb
  simp only [Env.vq,Env.eI] at hb;rw [fU];split at hb
  ·omega
  ·have:=h.lD b r hb; omega
 ·intro b q hb
  simp only [Env.vq,Env.eI] at hb;rw [fU];split at hb
  ·simp at hb; omega
  ·have:=h.il b q hb; omega
 ·intro q hq
  rw [fU] at hq;rw [mI,aa (by omega)];exact h.fresh q (by omega)
 ·intro q x hx
  rw [fU];rw [mI] at hx;split at hx
  ·rcases de.1 hx with hx | hx
   ·omega
   ·have:=h.mem g x hx; omega
  ·have:=h.mem q x hx; omega
 ·intro x hx _ _; rw [nR,aa (by omega)]
end Go.K
end
