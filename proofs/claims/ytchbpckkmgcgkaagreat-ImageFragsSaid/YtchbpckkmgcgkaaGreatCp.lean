/- Part of the proof of ImageFrags: the machine, shown to be the model's, and plain models. No conditions. -/
import Derived.Test.YtchbpckkmgcgkaaGreatBp
set_option linter.unusedSimpArgs false
set_option linter.unusedVariables false
section
namespace Go.K
open Go Go.aE
structure amC where
 cs:List Value
 ca:Nat
 own:Bool
 bV:Option (Nat×Nat)
structure Env where
 κ:Nat->Option Nat
 z:Nat->Option amC
 φ:Nat->Option Nat
 α:Nat->Option (Nat×Nat×Nat)
structure Env.le (E E' : Env):Prop where
 α:∀ b p,E.α b=some p->E'.α b=some p
 κ:∀ b x,E.κ b=some x->E'.κ b=some x
 z:∀ b r,E.z b=some r->E'.z b=some r
 φ:∀ b g,E.φ b=some g->E'.φ b=some g
theorem Env.le_refl (E:Env):E.le E:=⟨fun _ _ h=>h,fun _ _ h=>h,fun _ _ h=>h,fun _ _ h=>h⟩
theorem Env.le_trans {E F G:Env} (h:E.le F) (k:F.le G):E.le G:=⟨fun b p e=>k.α b p (h.α b p e),fun b x e=>k.κ b x (h.κ b x e),fun b x e=>k.z b x (h.z b x e),fun b x e=>k.φ b x (h.φ b x e)⟩
def ss (sz off:Nat) (cs es:List Value):Prop:=∀ (i:Nat) (x:Value),es[i]? = some x->x.cells.size=sz/\∀ (k:Nat) (y:Value),x.cells[k]? = some y->cs[off+i * sz+k]? = some y
def afV (E:Env) (sz:Nat) (a:Option Addr) (n:Nat) (es:List Value):Prop:=
 (a=none/\n=0)\/∃ b off r,a=some ⟨b,off,none⟩/\E.z b=some r/\r.ca=sz/\ss sz off r.cs es
def Ww (E:Env) (sz:Nat) (a:Option Addr) (n cap:Nat):Mk->Prop
 | .any=>True
 | .exact=>cap=n/\∀ b off,a=some ⟨b,off,none⟩->∃ r,E.z b=some r/\r.own=true/\r.bV=none/\off+cap * sz=r.cs.length
 | .bm f=>cap=n/\((n=0/\a=none)\/∃ b r g,a=some ⟨b,0,none⟩/\E.z b=some r/\r.own=true/\E.φ f=some g/\r.bV=some (g,0)/\r.cs.length=n * sz)
structure ku (P:Program) (T:TypeId) (n:Nat) (es:List KV) (acc:Nat->KV):Prop where
 len:n=es.length
 acc:∀ i,i < n->acc i=es.getD i .bJ
 typed:gY (bw P T) es=true
def bq (P:Program) (T:TypeId):Nat:=(bw P T).ks.length
def amD (P:Program) (E:Env) (T:TypeId) (m:Mk) (n:Nat) (bF:List Value) (v:Value):Prop:=
 ∃ a cap,v = .slice a n cap/\n<=cap/\afV E (bq P T) a n bF/\Ww E (bq P T) a n cap m
structure afW (P:Program) (T Tc:TypeId) (k:Nat):Prop where
 is:∀ m c,(bw P Tc).ks[m]? = some c->(bw P T).ks[k+m]? = some c
def amE (P:Program) (E:Env) (T Tc:TypeId) (i k:Nat) (es:List KV) (bF:List Value) (v:Value):Prop:=
 i < es.length/\afW P T Tc k/\∃ b off r,v = .pointer (some ⟨b,off+i * bq P T+k,none⟩)/\E.z b=some r/\ss (bq P T) off r.cs bF
def adZ (P:Program) (E:Env) (T:TypeId) (b o n:Nat) (v:Value):Prop:=
 (n=0/\o=0/\v = .slice none 0 0)\/∃ x L N c,E.α b=some (x,L,N)/\v = .slice (some ⟨x,o * bq P T,none⟩) n c/\n<=c/\o+n<=N/\(o+c) * bq P T=L
def ajW (P:Program) (E:Env) (T Tc:TypeId) (b i k:Nat) (v:Value):Prop:=
 ∃ x L N,E.α b=some (x,L,N)/\afW P T Tc k/\i < N/\v = .pointer (some ⟨x,i * bq P T+k,none⟩)
mutual
def VK (P:Program) (E:Env):KV->Value->Prop
 | .int k n,v=>v = .int k n
 | .bool b,v=>v = .bool b
 | .str s,v=>v = .string s
 | .agg cs,v=>∃ l,v = .agg ⟨l⟩/\bp P E cs l
 | .jd cs,v=>∃ l,v = .tuple ⟨l⟩/\bp P E cs l
 | .ts T m n es acc,v=>ku P T n es acc/\∃ bF,bp P E es bF/\amD P E T m n bF v
 | .tp T Tc i k es acc,v=>ku P T es.length es acc/\∃ bF,bp P E es bF/\amE P E T Tc i k es bF v
 | .al T b o n,v=>adZ P E T b o n v
 | .ap T Tc b i k,v=>ajW P E T Tc b i k v
 | .ptr b off,v=>∃ x,E.κ b=some x/\v = .pointer (some ⟨x,off,none⟩)
 | .sl b off n c,v=>∃ x,E.κ b=some x/\v = .slice (some ⟨x,off,none⟩) n c
 | .JW,v=>v = .pointer none
 | .nN,v=>v = .slice none 0 0
 | .EY,v=>v = .map none
 | .map b,v=>∃ x,E.κ b=some x/\v = .map (some x)
 | .fn f first cap,v=>∃ l m,v = .func f ⟨l⟩ ⟨m⟩/\bp P E first l/\bp P E cap m
 | .Lj,v=>v = .nilFunc
 | .iface t x,v=>∃ y,v = .iface t y/\VK P E x y
 | .Ll,v=>v = .nilIface
 | .bJ,_=>True
def bp (P:Program) (E:Env):List KV->List Value->Prop
 | [],l=>l = []
 | x::xs,l=>∃ y ys,l=y::ys/\VK P E x y/\bp P E xs ys
end
variable {P:Program} {E E' : Env}
theorem Ww.mono (h:E.le E') {sz:Nat} {a:Option Addr} {n cap:Nat} {m:Mk} (k:Ww E sz a n cap m):Ww E' sz a n cap m:=by
 cases m with
 | any=>trivial
 | exact=>exact ⟨k.1,fun b off e=>by obtain ⟨r,h1,h2⟩:=k.2 b off e; exact ⟨r,h.z _ _ h1,h2⟩⟩
 | bm f=>
  refine ⟨k.1,k.2.imp id ?_⟩;rintro ⟨b,r,g,h1,h2,h3,h4,h5⟩;exact ⟨b,r,g,h1,h.z _ _ h2,h3,h.φ _ _ h4,h5⟩
theorem afV.mono (h:E.le E') {sz:Nat} {a:Option Addr} {n:Nat} {es:List Value} (k:afV E sz a n es):afV E' sz a n es:=by
 refine k.imp id ?_;rintro ⟨b,off,r,h1,h2,h3⟩;exact ⟨b,off,r,h1,h.z _ _ h2,h3⟩
theorem amD.mono (h:E.le E') {T:TypeId} {m:Mk} {n:Nat} {es:List Value} {v:Value} (k:amD P E T m n es v):amD P E' T m n es v:=by
 obtain ⟨a,cap,h1,h2,h3,h4⟩:=k;exact ⟨a,cap,h1,h2,h3.mono h,h4.mono h⟩
theorem amE.mono (h:E.le E') {T Tc:TypeId} {i k:Nat} {es:List KV} {bF:List Value} {v:Value} (q:amE P E T Tc i k es bF v):amE P E' T Tc i k es bF v:=by
 obtain ⟨h1,h2,b,off,r,h3,h4,h5⟩:=q;exact ⟨h1,h2,b,off,r,h3,h.z _ _ h4,h5⟩
theorem adZ.mono (h:E.le E') {T:TypeId} {b o n:Nat} {v:Value} (q:adZ P E T b o n v):adZ P E' T b o n v:=by
 refine q.imp id ?_;rintro ⟨x,L,N,c,h1,h2⟩;exact ⟨x,L,N,c,h.α _ _ h1,h2⟩
theorem ajW.mono (h:E.le E') {T Tc:TypeId} {b i k:Nat} {v:Value} (q:ajW P E T Tc b i k v):ajW P E' T Tc b i k v:=by
 obtain ⟨x,L,N,h1,h2⟩:=q;exact ⟨x,L,N,h.α _ _ h1,h2⟩
mutual
theorem VK.mono (h:E.le E'):∀ {v:KV} {v' : Value},VK P E v v'->VK P E' v v'
 | .int k n,v,q=>q
 | .bool b,v,q=>q
 | .str s,v,q=>q
 | .agg cs,v,q=>by
  simp only [VK] at q ⊢;obtain ⟨l,e,q⟩:=q;exact ⟨l,e,bp.mono h q⟩
 | .jd cs,v,q=>by
  simp only [VK] at q ⊢;obtain ⟨l,e,q⟩:=q;exact ⟨l,e,bp.mono h q⟩
 | .ts T m n es acc,v,q=>by
  simp only [VK] at q ⊢;obtain ⟨t,l,q,k⟩:=q;exact ⟨t,l,bp.mono h q,k.mono h⟩
 | .tp T Tc i k es acc,v,q=>by
  simp only [VK] at q ⊢;obtain ⟨t,l,q,k⟩:=q;exact ⟨t,l,bp.mono h q,k.mono h⟩
 | .al T b o n,v,q=>by
  simp only [VK] at q ⊢;exact q.mono h
 | .ap T Tc b i k,v,q=>by
  simp only [VK] at q ⊢;exact q.mono h
 | .ptr b off,v,q=>by
  simp only [VK] at q ⊢;obtain ⟨x,e,q⟩:=q;exact ⟨x,h.κ _ _ e,q⟩
 | .sl b off n c,v,q=>by
  simp only [VK] at q ⊢;obtain ⟨x,e,q⟩:=q;exact ⟨x,h.κ _ _ e,q⟩
 | .JW,v,q=>q
 | .nN,v,q=>q
 | .EY,v,q=>q
 | .map b,v,q=>by
  simp only [VK] at q ⊢;obtain ⟨x,e,q⟩:=q;exact ⟨x,h.κ _ _ e,q⟩
 | .fn f first cap,v,q=>by
  simp only [VK] at q ⊢;obtain ⟨l,m,e,q1,q2⟩:=q;exact ⟨l,m,e,bp.mono h q1,bp.mono h q2⟩
 | .Lj,v,q=>q
 | .iface t x,v,q=>by
  simp only [VK] at q ⊢;obtain ⟨y,e,q⟩:=q;exact ⟨y,e,VK.mono h q⟩
 | .Ll,v,q=>q
 | .bJ,v,q=>q
theorem bp.mono (h:E.le E'):∀ {v:List KV} {v' : List Value},bp P E v v'->bp P E' v v'
 | [],_,q=>q
 | x::xs,_,q=>by
  simp only [bp] at q ⊢;obtain ⟨y,ys,e,q1,q2⟩:=q;exact ⟨y,ys,e,VK.mono h q1,bp.mono h q2⟩
end
theorem bp.nil:bp P E [] []:=by simp [bp]
theorem bp.cons {x:KV} {y:Value} {xs:List KV} {ys:List Value} (h:VK P E x y) (k:bp P E xs ys):bp P E (x::xs) (y::ys):=by
 simp only [bp]; exact ⟨y,ys,rfl,h,k⟩
theorem bp.cu {l:List Value} (h:bp P E [] l):l = []:=by simpa [bp] using h
theorem bp.cons_inv {x:KV} {xs:List KV} {l:List Value} (h:bp P E (x::xs) l):∃ y ys,l=y::ys/\VK P E x y/\bp P E xs ys:=by simpa [bp] using h
theorem bp.gi {x:KV} {l:List Value} (h:bp P E [x] l):∃ y,l = [y]/\VK P E x y:=by
 obtain ⟨y,ys,rfl,h1,h2⟩:=h.cons_inv;rw [h2.cu]; exact ⟨y,rfl,h1⟩
theorem bp.nP {x y:KV} {l:List Value} (h:bp P E [x,y] l):∃ x' y',l = [x',y']/\VK P E x x'/\VK P E y y':=by
 obtain ⟨a,ys,rfl,h1,h2⟩:=h.cons_inv;obtain ⟨b,rfl,h3⟩:=h2.gi;exact ⟨a,b,rfl,h1,h3⟩
theorem bp.YK {x y u:KV} {l:List Value} (h:bp P E [x,y,u] l):∃ x' y' u',l = [x',y',u']/\VK P E x x'/\VK P E y y'/\VK P E u u':=by
 obtain ⟨a,ys,rfl,h1,h2⟩:=h.cons_inv;obtain ⟨b,c,rfl,h3,h4⟩:=h2.nP;exact ⟨a,b,c,rfl,h1,h3,h4⟩
theorem bp.length:∀ {l:List KV} {l' : List Value},bp P E l l'->l'.length=l.length
 | [],l',h=>by rw [h.cu]; rfl
 | x::xs,l',h=>by
  obtain ⟨y,ys,rfl,_,k⟩:=h.cons_inv;simp [bp.length k]
theorem bp.get:∀ {l:List KV} {l' : List Value} {i:Nat} {v:KV},bp P E l l'->l[i]? = some v->∃ v',l'[i]? = some v'/\VK P E v v'
 | [],_,_,_,_,e=>by simp at e
 | x::xs,l',i,v,h,e=>by
  obtain ⟨y,ys,rfl,ET,k⟩:=h.cons_inv;cases i with
  | zero=>simp at e; subst e; exact ⟨y,rfl,ET⟩
  | succ i=>simp at e; simpa using bp.get k e
theorem bp.append:∀ {a:List KV} {a' : List Value} {b:List KV} {b' : List Value},bp P E a a'->bp P E b b'->bp P E (a++b) (a'++b')
 | [],a',b,b',h,k=>by rw [h.cu]; exact k
 | x::xs,a',b,b',h,k=>by
  obtain ⟨y,ys,rfl,ET,m⟩:=h.cons_inv;exact .cons ET (bp.append m k)
theorem bp.take:∀ (n:Nat) {l:List KV} {l' : List Value},bp P E l l'->bp P E (l.take n) (l'.take n)
 | 0,_,_,_=>by simp [bp.nil]
 | n+1,[],l',h=>by rw [h.cu]; simp [bp.nil]
 | n+1,x::xs,l',h=>by
  obtain ⟨y,ys,rfl,ET,k⟩:=h.cons_inv;simpa using bp.cons ET (bp.take n k)
theorem bp.drop:∀ (n:Nat) {l:List KV} {l' : List Value},bp P E l l'->bp P E (l.drop n) (l'.drop n)
 | 0,_,_,h=>by simpa using h
 | n+1,[],l',h=>by rw [h.cu]; simp [bp.nil]
 | n+1,x::xs,l',h=>by
  obtain ⟨y,ys,rfl,_,k⟩:=h.cons_inv;simpa using bp.drop n k
theorem Wx {α:Type} : ∀ {n:Nat} {l r:List α},zV n l=some r->r=l.take n/\n<=l.length
 | 0,l,r,h=>by simp [zV] at h; subst h; simp
 | n+1,[],r,h=>by simp [zV] at h
 | n+1,x::xs,r,h=>by
  simp only [zV,cZ] at h;obtain ⟨q,hq,rfl⟩:=h;obtain ⟨rfl,hn⟩:=Wx hq;exact ⟨by simp,by simpa using hn⟩
theorem PI {α:Type} : ∀ (n:Nat) (l:List α),GF n l=l.drop n
 | 0,l=>rfl
 | n+1,[]=>rfl
 | n+1,x::xs=>by simp [GF,PI n xs]
theorem PJ:∀ {n:Nat} {l:List Value},n<=l.length->takeN n l=some (l.take n)
 | 0,l,_=>rfl
 | n+1,[],h=>by simp at h
 | n+1,x::xs,h=>by rw [adN,PJ (n:=n) (l:=xs) (by simpa using h)]; rfl
theorem bp.zV {n k:Nat} {l r:List KV} {l' : List Value} (h:bp P E l l') (e:zV n (GF k l)=some r):∃ r',takeN n (K8 k l')=some r'/\bp P E r r'/\r' = (l'.drop k).take n:=by
 obtain ⟨rfl,hn⟩:=Wx e;rw [PI] at hn ⊢;have hl:=h.length;rw [wB];refine ⟨_,PJ ?_,(h.drop k).take n,rfl⟩;simp only [List.length_drop] at hn ⊢;omega
theorem bp.n5:∀ {n:Nat} {l:List KV} {l' : List Value} {vs r:List KV} {cP:List Value},n5 n l vs=some r->bp P E l l'->bp P E vs cP->∃ r',jt n l' cP=some r'/\bp P E r r'
 | 0,l,l',[],r,cP,h,hl,hv=>by simp [K.n5] at h; subst h; rw [hv.cu]; exact ⟨l',Dy l',hl⟩
 | 0,[],l',_::_,r,cP,h,hl,hv=>by simp [K.n5] at h
 | 0,x::l,l',v::vs,r,cP,h,hl,hv=>by
  obtain ⟨y,ys,rfl,_,k⟩:=hl.cons_inv;obtain ⟨u,us,rfl,h1,h2⟩:=hv.cons_inv;simp only [K.n5,cZ] at h;obtain ⟨q,hq,rfl⟩:=h;obtain ⟨r',e,hr⟩:=bp.n5 hq k h2;exact ⟨u::r',by simp [zN,e],.cons h1 hr⟩
 | n+1,[],l',[],r,cP,h,hl,hv=>by simp [K.n5] at h; subst h; rw [hl.cu,hv.cu]; exact ⟨[],rfl,.nil⟩
 | n+1,[],l',_::_,r,cP,h,hl,hv=>by simp [K.n5] at h
 | n+1,x::l,l',vs,r,cP,h,hl,hv=>by
  obtain ⟨y,ys,rfl,h1,k⟩:=hl.cons_inv;simp only [K.n5,cZ] at h;obtain ⟨q,hq,rfl⟩:=h;obtain ⟨r',e,hr⟩:=bp.n5 hq k hv;exact ⟨y::r',by simp [vF,e],.cons h1 hr⟩
theorem bp.ZQ:∀ {l:List KV} {l' : List Value},l'.length=l.length->(∀ (i:Nat) (v:KV) (v' : Value),l[i]? = some v->l'[i]? = some v'->VK P E v v')->bp P E l l'
 | [],l',h,_=>by cases l' <;> simp_all [bp.nil]
 | x::xs,l',h,k=>by
  cases l' with
  | nil=>simp at h
  | cons y ys=>exact .cons (k 0 x y rfl rfl) (bp.ZQ (by simpa using h) fun i v v' e e'=>k (i+1) v v' (by simpa using e) (by simpa using e'))
theorem VK.dP {k:IntKind} {n:Int} {v:Value} (h:VK P E (.int k n) v):v = .int k n:=by simpa [VK] using h
theorem VK.hO {b:Bool} {v:Value} (h:VK P E (.bool b) v):v = .bool b:=by simpa [VK] using h
theorem VK.wL {s:ByteArray} {v:Value} (h:VK P E (.str s) v):v = .string s:=by simpa [VK] using h
theorem VK.pC {cs:List KV} {v:Value} (h:VK P E (.agg cs) v):∃ l,v = .agg ⟨l⟩/\bp P E cs l:=by simpa [VK] using h
theorem VK.Uv {cs:List KV} {v:Value} (h:VK P E (.jd cs) v):∃ l,v = .tuple ⟨l⟩/\bp P E cs l:=by simpa [VK] using h
theorem VK.j8 {b off:Nat} {v:Value} (h:VK P E (.ptr b off) v):∃ x,E.κ b=some x/\v = .pointer (some ⟨x,off,none⟩):=by simpa [VK] using h
theorem VK.Wy {b off n c:Nat} {v:Value} (h:VK P E (.sl b off n c) v):∃ x,E.κ b=some x/\v = .slice (some ⟨x,off,none⟩) n c:=by simpa [VK] using h
theorem VK.Nf {f:Fn} {a b:List KV} {v:Value} (h:VK P E (.fn f a b) v):∃ l m,v = .func f ⟨l⟩ ⟨m⟩/\bp P E a l/\bp P E b m:=by simpa [VK] using h
theorem VK.pH {T:TypeId} {m:Mk} {n:Nat} {es:List KV} {acc:Nat->KV} {v:Value} (h:VK P E (.ts T m n es acc) v):ku P T n es acc/\∃ bF,bp P E es bF/\amD P E T m n bF v:=by simpa [VK] using h
theorem VK.Rw {T Tc:TypeId} {i k:Nat} {es:List KV} {acc:Nat->KV} {v:Value} (h:VK P E (.tp T Tc i k es acc) v):ku P T es.length es acc/\∃ bF,bp P E es bF/\amE P E T Tc i k es bF v:=by simpa [VK] using h
theorem VK.Bj {T:TypeId} {b o n:Nat} {v:Value} (h:VK P E (.al T b o n) v):adZ P E T b o n v:=by simpa [VK] using h
theorem VK.Ng {T Tc:TypeId} {b i k:Nat} {v:Value} (h:VK P E (.ap T Tc b i k) v):ajW P E T Tc b i k v:=by simpa [VK] using h
theorem VK.XD {T:TypeId} {b o n:Nat} {v:Value} (h:adZ P E T b o n v):VK P E (.al T b o n) v:=by simpa [VK] using h
theorem VK.asl {T Tc:TypeId} {b i k:Nat} {v:Value} (h:ajW P E T Tc b i k v):VK P E (.ap T Tc b i k) v:=by simpa [VK] using h
theorem adZ.slice {T:TypeId} {b o n:Nat} {v:Value} (h:adZ P E T b o n v):∃ a c,v = .slice a n c:=by
 rcases h with ⟨rfl,_,rfl⟩ | ⟨x,L,N,c,_,rfl,_⟩
 ·exact ⟨_,_,rfl⟩
 ·exact ⟨_,_,rfl⟩
theorem VK.r6 {v:Value} (h:VK P E .nN v):v = .slice none 0 0:=by simpa [VK] using h
theorem VK.Wz {v:Value} (h:VK P E .JW v):v = .pointer none:=by simpa [VK] using h
theorem VK.mkInt {k:IntKind} {n:Int} : VK P E (.int k n) (.int k n):=by simp [VK]
theorem VK.xW {b:Bool} : VK P E (.bool b) (.bool b):=by simp [VK]
theorem VK.mkStr {s:ByteArray} : VK P E (.str s) (.string s):=by simp [VK]
theorem VK.tI {cs:List KV} {l:List Value} (h:bp P E cs l):VK P E (.agg cs) (.agg ⟨l⟩):=by simp only [VK]; exact ⟨l,rfl,h⟩
theorem VK.agI {cs:List KV} {l:List Value} (h:bp P E cs l):VK P E (.jd cs) (.tuple ⟨l⟩):=by simp only [VK]; exact ⟨l,rfl,h⟩
theorem VK.DA {b x off:Nat} (h:E.κ b=some x):VK P E (.ptr b off) (.pointer (some ⟨x,off,none⟩)):=by simp only [VK]; exact ⟨x,h,rfl⟩
theorem VK.apX {b x off n c:Nat} (h:E.κ b=some x):VK P E (.sl b off n c) (.slice (some ⟨x,off,none⟩) n c):=by simp only [VK]; exact ⟨x,h,rfl⟩
theorem VK.amF {f:Fn} {a b:List KV} {l m:List Value} (h:bp P E a l) (k:bp P E b m):VK P E (.fn f a b) (.func f ⟨l⟩ ⟨m⟩):=by simp only [VK]; exact ⟨l,m,rfl,h,k⟩
theorem VK.undef:VK P E wk undef:=VK.agI .nil
theorem VK.wM {v:Value} : VK P E .bJ v:=by simp [VK]
theorem VK.cells {v:KV} {v' : Value} (h:VK P E v v') (hu:Bf v=true):bp P E v.cells v'.cells.toList:=by
 cases v with
 | agg cs=>obtain ⟨l,rfl,q⟩:=h.pC; exact q
 | int k n=>have:=h.dP; subst this; exact .cons h .nil
 | bool b=>have:=h.hO; subst this; exact .cons h .nil
 | str b=>have:=h.wL; subst this; exact .cons h .nil
 | jd cs=>have q:=h; obtain ⟨l,rfl,_⟩:=h.Uv; exact .cons q .nil
 | ts T m n es acc=>have q:=h; obtain ⟨_,_,_,a,cap,rfl,_⟩:=h.pH; exact .cons q .nil
 | tp T Tc i k es acc=>have q:=h; obtain ⟨_,_,_,_,_,b,off,r,rfl,_⟩:=h.Rw; exact .cons q .nil
 | al T b o n=>have q:=h; obtain ⟨a,c,rfl⟩:=h.Bj.slice; exact .cons q .nil
 | ap T Tc b i k=>have q:=h; obtain ⟨x,L,N,_,_,_,rfl⟩:=h.Ng; exact .cons q .nil
 | ptr b off=>have q:=h; obtain ⟨x,_,rfl⟩:=h.j8; exact .cons q .nil
 | sl b off n c=>have q:=h; obtain ⟨x,_,rfl⟩:=h.Wy; exact .cons q .nil
 | JW=>have q:=h; simp only [VK] at h; subst h; exact .cons q .nil
 | nN=>have q:=h; simp only [VK] at h; subst h; exact .cons q .nil
 | EY=>have q:=h; simp only [VK] at h; subst h; exact .cons q .nil
 | map b=>have q:=h; simp only [VK] at h; obtain ⟨x,_,rfl⟩:=h; exact .cons q .nil
 | fn f a b=>have q:=h; obtain ⟨l,m,rfl,_⟩:=h.Nf; exact .cons q .nil
 | Lj=>have q:=h; simp only [VK] at h; subst h; exact .cons q .nil
 | iface t x=>have q:=h; simp only [VK] at h; obtain ⟨y,rfl,_⟩:=h; exact .cons q .nil
 | Ll=>have q:=h; simp only [VK] at h; subst h; exact .cons q .nil
 | bJ=>simp [Bf] at hu
theorem VK.scalar {v:KV} {v' : Value} (h:VK P E v v') (ho:one v=true):aE.scalar v' = true:=by
 cases v with
 | agg cs=>simp [one] at ho
 | jd cs=>simp [one] at ho
 | bJ=>simp [one] at ho
 | int k n=>have:=h.dP; subst this; rfl
 | bool b=>have:=h.hO; subst this; rfl
 | str b=>have:=h.wL; subst this; rfl
 | ts T m n es acc=>obtain ⟨_,_,_,a,cap,rfl,_⟩:=h.pH; rfl
 | tp T Tc i k es acc=>obtain ⟨_,_,_,_,_,b,off,r,rfl,_⟩:=h.Rw; rfl
 | al T b o n=>obtain ⟨a,c,rfl⟩:=h.Bj.slice; rfl
 | ap T Tc b i k=>obtain ⟨x,L,N,_,_,_,rfl⟩:=h.Ng; rfl
 | ptr b off=>obtain ⟨x,_,rfl⟩:=h.j8; rfl
 | sl b off n c=>obtain ⟨x,_,rfl⟩:=h.Wy; rfl
 | JW=>simp only [VK] at h; subst h; rfl
 | nN=>simp only [VK] at h; subst h; rfl
 | EY=>simp only [VK] at h; subst h; rfl
 | map b=>simp only [VK] at h; obtain ⟨x,_,rfl⟩:=h; rfl
 | fn f a b=>obtain ⟨l,m,rfl,_⟩:=h.Nf; rfl
 | Lj=>simp only [VK] at h; subst h; rfl
 | iface t x=>simp only [VK] at h; obtain ⟨y,rfl,_⟩:=h; rfl
 | Ll=>simp only [VK] at h; subst h; rfl
theorem bp.scalar:∀ {l:List KV} {l' : List Value},bp P E l l'->jv l=true->∀ v∈l',aE.scalar v=true
 | [],l',h,_,v,hv=>by rw [h.cu] at hv; simp at hv
 | x::xs,l',h,ho,v,hv=>by
  obtain ⟨y,ys,rfl,h1,h2⟩:=h.cons_inv;simp only [jv,aD] at ho;rcases ff.1 hv with rfl | hv
  ·exact h1.scalar ho.1
  ·exact bp.scalar h2 ho.2 v hv
theorem CR {v:KV} (h:jv v.cells=true):Bf v=true:=by
 cases v <;> first | rfl | simp [KV.cells,jv,one] at h
mutual
theorem VK.iU:∀ (v:Value),VK P E (iU v) v
 | .bool b=>by simp [K.iU,VK]
 | .int k n=>by simp [K.iU,VK]
 | .string s=>by simp [K.iU,VK]
 | .pointer none=>by simp [K.iU,VK]
 | .pointer (some a)=>by simp [K.iU,VK]
 | .slice none 0 0=>by simp [K.iU,VK]
 | .slice none 0 (n+1)=>by simp [K.iU,VK]
 | .slice none (n+1) c=>by simp [K.iU,VK]
 | .slice (some a) n c=>by simp [K.iU,VK]
 | .map none=>by simp [K.iU,VK]
 | .map (some r)=>by simp [K.iU,VK]
 | .nilFunc=>by simp [K.iU,VK]
 | .nilIface=>by simp [K.iU,VK]
 | .agg cs=>by
  obtain ⟨l⟩:=cs;simp only [K.iU,ofA];exact .tI (bp.ofL l)
 | .tuple cs=>by
  obtain ⟨l⟩:=cs;simp only [K.iU,ofA];exact .agI (bp.ofL l)
 | .float _ _=>by simp [K.iU,VK]
 | .complex _ _ _=>by simp [K.iU,VK]
 | .chan _=>by simp [K.iU,VK]
 | .func _ _ _=>by simp [K.iU,VK]
 | .iface _ _=>by simp [K.iU,VK]
theorem bp.ofL:∀ (l:List Value),bp P E (ofL l) l
 | []=>.nil
 | v::vs=>.cons (VK.iU v) (bp.ofL vs)
end
theorem GI {z:Value} (h:jv (iU z).cells=true):bp P E (iU z).cells z.cells.toList:=(VK.iU z).cells (CR h)
def Kp (E:Env) (A:aC):Prop:=∀ b c g tb sb tc sc,A.get b=some (.bm tb sb)->A.get c=some (.bm tc sc)->E.φ b=some g->E.φ c=some g->b=c
def AR (A:aC) (E:Env) (x:Nat):Prop:=∃ b v L N,A.get b=some (.arr v)/\E.α b=some (x,L,N)
def AF (A:aC) (E:Env) (B:St) (g:Nat):Prop:=∃ b v x L N cs e own k,A.get b=some (.arr v)/\E.α b=some (x,L,N)/\B.get x=some (.row cs e own (some (g,k)))
def AT (A:aC) (E:Env) (B:St) (y:Nat):Prop:=AR A E y\/∃ g,AF A E B g/\y∈B.members g
def agJ (P:Program) (E:Env) (B:St) (b:Nat) (v:KV):Prop:=∃ T N es acc,v = .ts T .any N es acc/\ku P T N es acc/\1<=bq P T/\
 ((N=0/\E.α b=none)\/∃ x cs bV bF,E.α b=some (x,cs.length,N)/\B.get x=some (.row cs (bq P T) true bV)/\bp P E es bF/\ss (bq P T) 0 cs bF)
def aac (P:Program) (E:Env) (b:Nat) (v:KV):Prop:=∃ T N es acc,v = .ts T .any N es acc/\ku P T N es acc/\1<=bq P T/\
 ((N=0/\E.α b=none)\/∃ x r bF,E.α b=some (x,r.cs.length,N)/\E.z x=some r/\r.ca=bq P T/\bp P E es bF/\ss (bq P T) 0 r.cs bF)
theorem agJ.mono (h:E.le E') {B B' : St} {b:Nat} {v:KV} (ve:E'.α b=E.α b) (hB:∀ x L N,E.α b=some (x,L,N)->B'.get x=B.get x) (q:agJ P E B b v):agJ P E' B' b v:=by
 obtain ⟨T,N,es,acc,h1,h2,h3,h4⟩:=q;refine ⟨T,N,es,acc,h1,h2,h3,?_⟩;rcases h4 with ⟨h4,h5⟩ | ⟨x,cs,bV,bF,h4,h5,h6,h7⟩
 ·exact .inl ⟨h4,by rw [ve]; exact h5⟩
 ·exact .inr ⟨x,cs,bV,bF,by rw [ve]; exact h4,by rw [hB _ _ _ h4]; exact h5,h6.mono h,h7⟩
theorem aac.mono (h:E.le E') {b:Nat} {v:KV} (ve:E'.α b=E.α b) (q:aac P E b v):aac P E' b v:=by
 obtain ⟨T,N,es,acc,h1,h2,h3,h4⟩:=q;refine ⟨T,N,es,acc,h1,h2,h3,?_⟩;rcases h4 with ⟨h4,h5⟩ | ⟨x,r,bF,h4,h5,h6,h7,h8⟩
 ·exact .inl ⟨h4,by rw [ve]; exact h5⟩
 ·exact .inr ⟨x,r,bF,by rw [ve]; exact h4,h.z _ _ h5,h6,h7.mono h,h8⟩
structure Rx (P:Program) (E:Env) (A:aC) (B:St):Prop where
 arr:∀ b v,A.get b=some (.arr v)->agJ P E B b v
 lR:∀ b v,A.get b=some (.lR v)->aac P E b v
 z:∀ x,AR A E x->E.z x=none/\∀ c,E.κ c≠some x
 inj:∀ b c v u x L N L' N',A.get b=some (.arr v)->A.get c=some (.arr u)->E.α b=some (x,L,N)->E.α c=some (x,L',N')->b=c
 zj:∀ b c v u x y L N L' N' cs e own g k ck e' tP k',A.get b=some (.arr v)->A.get c=some (.arr u)->E.α b=some (x,L,N)->E.α c=some (y,L',N')->B.get x=some (.row cs e own (some (g,k)))->B.get y=some (.row ck e' tP (some (g,k')))->b=c
 dis:∀ b x,E.κ b=some x->E.α b=none
 ow:∀ b p,E.α b=some p->b < A.next
 jc:∀ b x L N,E.α b=some (x,L,N)->x < B.next
 xG:∀ b v x L N cs e own g k,A.get b=some (.arr v)->E.α b=some (x,L,N)->B.get x=some (.row cs e own (some (g,k)))->g < B.next/\(∀ f,E.φ f≠some g)/\∀ y∈B.members g,y≠x->E.z y=none/\¬ AR A E y/\∀ c,E.κ c≠some y
 nk:∀ b v,A.get b=some (.arr v)->b < A.next/\E.κ b=none
structure gU (P:Program) (E:Env) (A:aC) (B:St):Prop where
 row:∀ b cs ca,A.get b=some (.row cs ca)->∃ x ck,E.κ b=some x/\B.get x=some (.row ck ca true none)/\bp P E cs ck
 bm:∀ b top sz,A.get b=some (.bm top sz)->(top=0/\E.φ b=none)\/∃ g,E.φ b=some g/\0 < top/\∀ x∈B.members g,∀ cs e own f k,B.get x=some (.row cs e own (some (f,k)))->k=0/\cs.length<=top * sz
 z:∀ b r,E.z b=some r->B.get b=some (.row r.cs r.ca r.own r.bV)
 apart:∀ b x,E.κ b=some x->E.z x=none
 inj:∀ b c x,E.κ b=some x->E.κ c=some x->b=c
 lT:Kp E A
 ow:∀ b x,E.κ b=some x->b < A.next
 qD:∀ b g,E.φ b=some g->b < A.next
 live:∀ b o,A.get b=some o->b < A.next
 jc:∀ b x,E.κ b=some x->x < B.next
 qX:∀ b r,E.z b=some r->b < B.next
 mL:∀ b g,E.φ b=some g->g < B.next
 fresh:∀ g,B.next<=g->B.members g = []
 mem:∀ g x,x∈B.members g->x < B.next
 ar:Rx P E A B
structure Ev (P:Program) (base:Nat) (E:Env) (A:aC) (B:St) (ρ:a9) (w:World) (E' : Env) (A' : aC) (B' : St) (ba:a9) (w' : World):Prop where
 kW:gU P E' A' B'
 gX:pk base ρ B w ba B' w'
 le:E.le E'
 next:A.next<=A'.next
 pB:∀ x,x < B.next->(∀ b,E.κ b≠some x)->¬ AT A E B x->B'.get x=B.get x
 new:∀ b x,E'.κ b=some x->E.κ b=some x\/B.next<=x
 yw:∀ b r,E'.z b=some r->E.z b=some r\/AR A E b\/B.next<=b
 yx:∀ b g,E'.φ b=some g->(∃ c,E.φ c=some g)\/B.next<=g
 uH:∀ g,g < B.next->(∀ b,E.φ b≠some g)->¬ AF A E B g->B'.members g=B.members g
 qo:∀ x,AR A' E' x->AR A E x\/B.next<=x
 qE:∀ g,AF A' E' B' g->AF A E B g\/B.next<=g
 zZ:∀ g y,y∈B'.members g->y∈B.members g\/B.next<=y
 r7:∀ y,AT A' E' B' y->AT A E B y\/B.next<=y
 rows:∀ y,y < B.next->∀ cs e own bV,B'.get y=some (.row cs e own bV)->∃ pz,B.get y=some (.row pz e own bV)/\pz.length=cs.length
theorem Ev.refl {base:Nat} {A:aC} {B:St} {ρ:a9} {w:World} (h:gU P E A B) (s:zR ρ B base w):Ev P base E A B ρ w E A B ρ w:=
 ⟨h,.refl s,Env.le_refl _,aX _,fun _ _ _ _=>rfl,fun _ _ h=>.inl h,fun _ _ h=>.inl h,fun _ _ h=>.inl ⟨_,h⟩,fun _ _ _ _=>rfl,fun _ h=>.inl h,fun _ h=>.inl h,fun _ _ h=>.inl h,fun _ h=>.inl h,fun _ _ cs _ _ _ h=>⟨cs,h,rfl⟩⟩
theorem Ev.trans {base:Nat} {E1 E2 E3:Env} {A1 A2 A3:aC} {B1 B2 B3:St} {qd z0 ρ3:a9} {w1 w2 w3:World} (h:Ev P base E1 A1 B1 qd w1 E2 A2 B2 z0 w2) (k:Ev P base E2 A2 B2 z0 w2 E3 A3 B3 ρ3 w3) :
  Ev P base E1 A1 B1 qd w1 E3 A3 B3 ρ3 w3 where
 kW:=k.kW
 gX:=h.gX.trans k.gX
 le:=Env.le_trans h.le k.le
 next:=um h.next k.next
 pB x hx hn ha:=by
  refine (k.pB x (u3 hx h.gX.next) (fun b e=>?_) fun q=>?_).trans (h.pB x hx hn ha)
  ·rcases h.new b x e with e | e
   ·exact hn b e
   ·omega
  ·rcases h.r7 x q with e | e
   ·exact ha e
   ·omega
 new b x e:=by
  rcases k.new b x e with e | e
  ·rcases h.new b x e with e | e
   ·exact .inl e
   ·exact .inr e
  ·have:=h.gX.next; exact .inr (by omega)
 yw b r e:=by
  rcases k.yw b r e with e | e | e
  ·exact h.yw b r e
  ·exact .inr (h.qo b e)
  ·have:=h.gX.next; exact .inr (.inr (by omega))
 yx b g e:=by
  rcases k.yx b g e with ⟨c,e⟩ | e
  ·exact h.yx c g e
  ·have:=h.gX.next; exact .inr (by omega)
 uH g hg hn ha:=by
  refine (k.uH g (u3 hg h.gX.next) (fun b e=>?_) fun q=>?_).trans (h.uH g hg hn ha)
  ·rcases h.yx b g e with ⟨c,e⟩ | e
   ·exact hn c e
   ·omega
  ·rcases h.qE g q with e | e
   ·exact ha e
   ·omega
 qo x e:=by
  rcases k.qo x e with e | e
  ·exact h.qo x e
  ·have:=h.gX.next; exact .inr (by omega)
 qE g e:=by
  rcases k.qE g e with e | e
  ·exact h.qE g e
  ·have:=h.gX.next; exact .inr (by omega)
 zZ g y e:=by
  rcases k.zZ g y e with e | e
  ·exact h.zZ g y e
  ·have:=h.gX.next; exact .inr (by omega)
 r7 y e:=by
  rcases k.r7 y e with e | e
  ·exact h.r7 y e
  ·have:=h.gX.next; exact .inr (by omega)
 rows y hy cs e own bV q:=by
  obtain ⟨c1,h1,h2⟩:=k.rows y (u3 hy h.gX.next) cs e own bV q;obtain ⟨c0,h3,h4⟩:=h.rows y hy c1 e own bV h1;exact ⟨c0,h3,h4.trans h2⟩
@[simp] theorem aC.cn (A:aC) (b:Nat) (o:la) (x:Nat):(A.put b o).get x=if x=b then some o else A.get x:=by simp [aC.put,aC.get,Trie.sm]
@[simp] theorem aC.dN (A:aC) (o:la) (x:Nat):(A.new o).get x=if x=A.next then some o else A.get x:=by simp [aC.new,aC.get,Trie.sm]
@[simp] theorem aC.wC (A:aC) (b:Nat) (o:la):(A.put b o).next=A.next:=rfl
@[simp] theorem aC.cB (A:aC) (o:la):(A.new o).next=A.next+1:=rfl
theorem Kp.put {A:aC} (h:Kp E A) {b:Nat} {o:la} (ho:(∀ t s,o≠.bm t s)\/E.φ b=none):Kp E (A.put b o):=by
 intro x y g tx sx ty sy hx hy ex ey;have key:∀ {z t s},(A.put b o).get z=some (.bm t s)->E.φ z=some g->A.get z=some (.bm t s):=by
  intro z t s hz ez;rw [aC.cn] at hz;split at hz
  ·rename_i e
   simp at hz;rcases ho with ho | ho
   ·exact absurd hz (ho t s)
   ·rw [e,ho] at ez; simp at ez
  ·exact hz
 exact h x y g tx sx ty sy (key hx ex) (key hy ey) ex ey
theorem Kp.new {A:aC} (h:Kp E A) {o:la} (ho:(∀ t s,o≠.bm t s)\/E.φ A.next=none):Kp E (A.new o):=by
 intro x y g tx sx ty sy hx hy ex ey;have key:∀ {z t s},(A.new o).get z=some (.bm t s)->E.φ z=some g->A.get z=some (.bm t s):=by
  intro z t s hz ez;rw [aC.dN] at hz;split at hz
  ·rename_i e
   simp at hz;rcases ho with ho | ho
   ·exact absurd hz (ho t s)
   ·rw [e,ho] at ez; simp at ez
  ·exact hz
 exact h x y g tx sx ty sy (key hx ex) (key hy ey) ex ey
structure KJ (P:Program) (E:Env) (A:aC) (B:St) (ρ:a9) (base:Nat) (w:World):Prop where
 k:gU P E A B
 s:zR ρ B base w
theorem Ev.kj {base:Nat} {E1 E2:Env} {A1 A2:aC} {B1 B2:St} {qd z0:a9} {w1 w2:World} (h:Ev P base E1 A1 B1 qd w1 E2 A2 B2 z0 w2):KJ P E2 A2 B2 z0 base w2:=⟨h.kW,h.gX.kW⟩
def VC (P:Program) (E:Env) (ρ:a9) (v:KV) (v' : Value):Prop:=∃ u,VK P E v u/\VR ρ u v'
theorem VC.mono {ρ ba:a9} {v:KV} {v' : Value} (h:VC P E ρ v v') (k:E.le E') (m:ρ.le ba):VC P E' ba v v':=by
 obtain ⟨u,h1,h2⟩:=h;exact ⟨u,h1.mono k,h2.mono m⟩
theorem VC.bJ {ρ:a9} {v' : Value} : VC P E ρ .bJ v':=⟨.chan none,.wM,by simp [VR]⟩
theorem VC.undef {ρ:a9} : VC P E ρ wk undef:=⟨_,.undef,VR.undef⟩
end Go.K
end
section
namespace Go.K
open Go Go.aE
variable {P:Program} {E:Env}
def bf {α:Type} (r:KR α) (v:α):Prop:=
 match r with
 | .no=>False
 | .ok u=>u=v
 | .nF c u=>c=true/\u=v
 | .br c x y=>(c=true/\bf x v)\/(c=false/\bf y v)
theorem KR.Ef {α R:Type} {k:α->Option R} {x:R} : ∀ {r:KR α},r.run k=some x->∃ v,bf r v/\k v=some x:=by
 intro r h
 match r,h with
 | .no,h=>exact absurd h (by simp [KR.run])
 | .ok v,h=>exact ⟨v,rfl,h⟩
 | .nF c v,h=>
  cases c with
  | false=>exact absurd h (by simp [KR.run])
  | true=>exact ⟨v,⟨rfl,rfl⟩,h⟩
 | .br c x y,h=>
  cases c with
  | false=>obtain ⟨v,h1,h2⟩:=KR.Ef (r:=y) (k:=k) h; exact ⟨v,.inr ⟨rfl,h1⟩,h2⟩
  | true=>obtain ⟨v,h1,h2⟩:=KR.Ef (r:=x) (k:=k) h; exact ⟨v,.inl ⟨rfl,h1⟩,h2⟩
theorem bf.at {α:Type} {i:Int} {f:Nat->KR α} {v:α} : ∀ {m j:Nat},bf (apS i f m j) v->∃ k,j<=k/\k < j+m/\i=(k:Int)/\bf (f k) v
 | 0,j,h=>h.elim
 | m+1,j,h=>by
  rcases h with ⟨h1,h2⟩ | ⟨_,h2⟩
  ·exact ⟨j,aX j,by omega,rh h1,h2⟩
  ·obtain ⟨k,h3,h4,h5,h6⟩:=bf.at (m:=m) (j:=j+1) h2
   exact ⟨k,by omega,by omega,h5,h6⟩
theorem bf.of {α:Type} {o:Option α} {v:α} (h:bf (KR.of o) v):o=some v:=by
 cases o with
 | none=>exact h.elim
 | some u=>have h:u=v:=h; rw [h]
theorem bf.cond {α:Type} {c:Bool} {r:KR α} {v:α} (h:bf (cond c r .no) v):c=true/\bf r v:=by
 cases c with
 | false=>exact h.elim
 | true=>exact ⟨rfl,h⟩
theorem Ry {α:Type} {c:Bool} {r:Option α} {v:α} (h:cond c r none=some v):c=true/\r=some v:=by
 cases c with
 | false=>simp at h
 | true=>exact ⟨rfl,h⟩
def z6 (P:Program) (f:FP) (g:List Value->Option Value):Prop:=
 ∀ (E:Env) (vs:List KV) (us:List Value) (v:KV),bp P E vs us->bf (f vs) v->∃ u,g us=some u/\VK P E v u
theorem amG:z6 P akX Q3:=by
 intro E vs us v h hg
 match vs,hg with
 | [x],hg=>
  obtain ⟨y,rfl,h1⟩:=h.gi;have hg:x=v:=hg;subst hg;exact ⟨y,rfl,h1⟩
theorem aqS:z6 P akY Q3:=by
 intro E vs us v h hg
 match vs,hg with
 | [.bool b],hg=>
  obtain ⟨y,rfl,h1⟩:=h.gi;have hb:v = .bool b:=by
   rcases hg with ⟨rfl,h2⟩ | ⟨rfl,h2⟩
   ·exact (show KV.bool true=v from h2).symm
   ·exact (show KV.bool false=v from h2).symm
  subst hb;exact ⟨_,rfl,h1⟩
 | [x],hg=>
  have key:v=x:=by
   cases x <;> first | exact (show _=v from hg).symm | skip
   rcases hg with ⟨rfl,h2⟩ | ⟨rfl,h2⟩
   ·exact (show KV.bool true=v from h2).symm
   ·exact (show KV.bool false=v from h2).symm
  subst key;obtain ⟨y,rfl,h1⟩:=h.gi;exact ⟨_,rfl,h1⟩
theorem aqT {b:Bool} : z6 P (cond b akY akX) Q3:=by
 cases b with
 | true=>exact aqS
 | false=>exact amG
theorem asm:z6 P aoB akK:=by
 intro E vs us v h hg
 match vs,hg with
 | [.bool t,.bool a,.bool b],hg=>
  obtain ⟨x,y,z,rfl,h1,h2,h3⟩:=h.YK;have:=h1.hO; subst this;have:=h2.hO; subst this;have:=h3.hO; subst this;have hg:KV.bool (cond t a b)=v:=hg;subst hg;exact ⟨_,rfl,by cases t <;> exact .xW⟩
 | [.bool t,a,b],hg=>
  obtain ⟨x,y,z,rfl,h1,h2,h3⟩:=h.YK;have:=h1.hO; subst this;refine ⟨_,rfl,?_⟩;have hg:v=cond t a b\/∃ p q,a = .bool p/\b = .bool q/\v = .bool (cond t p q):=by
   unfold aoB at hg;split at hg
   ·rename_i t' a' b' e
    simp at e;obtain ⟨rfl,rfl,rfl⟩:=e;exact .inr ⟨_,_,rfl,rfl,hg.symm⟩
   ·rename_i t' a' b' _ e
    simp at e;obtain ⟨rfl,rfl,rfl⟩:=e;exact .inl hg.symm
   ·exact hg.elim
  rcases hg with rfl | ⟨p,q,rfl,rfl,rfl⟩
  ·cases t
   ·exact h3
   ·exact h2
  ·have:=h2.hO; subst this
   have:=h3.hO; subst this;cases t <;> exact .xW
theorem ack {v:KV} {u:Value} (h:VK P E v u) (hk:Bf v=true):aE.known u=true:=by
 cases v with
 | agg cs=>obtain ⟨l,rfl,q⟩:=h.pC; rfl
 | int k n=>have:=h.dP; subst this; rfl
 | bool b=>have:=h.hO; subst this; rfl
 | str b=>have:=h.wL; subst this; rfl
 | jd cs=>obtain ⟨l,rfl,_⟩:=h.Uv; rfl
 | ts T m n es acc=>obtain ⟨_,_,_,a,cap,rfl,_⟩:=h.pH; rfl
 | tp T Tc i k es acc=>obtain ⟨_,_,_,_,_,b,off,r,rfl,_⟩:=h.Rw; rfl
 | al T b o n=>obtain ⟨a,c,rfl⟩:=h.Bj.slice; rfl
 | ap T Tc b i k=>obtain ⟨x,L,N,_,_,_,rfl⟩:=h.Ng; rfl
 | ptr b off=>obtain ⟨x,_,rfl⟩:=h.j8; rfl
 | sl b off n c=>obtain ⟨x,_,rfl⟩:=h.Wy; rfl
 | JW=>simp only [VK] at h; subst h; rfl
 | nN=>simp only [VK] at h; subst h; rfl
 | EY=>simp only [VK] at h; subst h; rfl
 | map b=>simp only [VK] at h; obtain ⟨x,_,rfl⟩:=h; rfl
 | fn f a b=>obtain ⟨l,m,rfl,_⟩:=h.Nf; rfl
 | Lj=>simp only [VK] at h; subst h; rfl
 | iface t x=>simp only [VK] at h; obtain ⟨y,rfl,_⟩:=h; rfl
 | Ll=>simp only [VK] at h; subst h; rfl
 | bJ=>simp [Bf] at hk
theorem Uw {v:KV} {u:Value} (h:VK P E v u) (hk:Bf v=true):u.cells.size=v.cells.length:=by
 have:=(h.cells hk).length;simpa using this
theorem agK {place:Nat->Option (Nat×Nat)} : ∀ {ps:List (Nat×KV)} {qs:List (Nat×Value)} {cs r:List KV} {ck:List Value},ps.map (·.1)=qs.map (·.1)->bp P E (ps.map (·.2)) (qs.map (·.2))->(∀ p∈ps,Bf p.2=true)->
  bp P E cs ck->ab9 place cs ps=some r->∃ r',EO place ck qs=some r'/\bp P E r r'
 | [],[],cs,r,ck,_,_,_,h,e=>by simp [ab9] at e; subst e; exact ⟨ck,rfl,h⟩
 | [],_::_,_,_,_,e,_,_,_,_=>by simp at e
 | _::_,[],_,_,_,e,_,_,_,_=>by simp at e
 | (i,v)::ps,(j,u)::qs,cs,r,ck,e1,e2,hk,h,e=>by
  simp only [List.map_cons,List.cons.injEq] at e1;obtain ⟨rfl,e1⟩:=e1;obtain ⟨y,ys,e3,h1,h2⟩:=e2.cons_inv;simp only [List.map_cons,List.cons.injEq] at e3;obtain ⟨rfl,rfl⟩:=e3;have hkv:Bf v=true:=hk (i,v) (by simp);simp only [ab9] at e;simp only [EO];split at e
  ·rename_i off size hp
   rw [hp];obtain ⟨hc,e⟩:=Ry e;obtain ⟨sJ,e4,e5⟩:=dm.1 e;obtain ⟨r1,e6,h3⟩:=bp.n5 e4 h (h1.cells hkv);obtain ⟨r',e7,h4⟩:=agK e1 h2 (fun p hp=>hk p (by simp [hp])) h3 e5;refine ⟨r',?_,h4⟩;simp only;rw [Uw h1 hkv,hc,ai,e6];exact e7
  ·simp at e
theorem agL:∀ (is:List Nat) {vs:List KV} {us:List Value},bp P E vs us->(EZ is vs).map (·.1)=(zipIdx is us).map (·.1)/\bp P E ((EZ is vs).map (·.2)) ((zipIdx is us).map (·.2))
 | [],_,_,_=>by simp [EZ,zipIdx,bp.nil]
 | i::is,[],us,h=>by rw [h.cu]; simp [EZ,zipIdx,bp.nil]
 | i::is,v::vs,us,h=>by
  obtain ⟨y,ys,rfl,h1,h2⟩:=h.cons_inv;obtain ⟨h3,h4⟩:=agL is h2;exact ⟨by simp [EZ,zipIdx,h3],by simpa [EZ,zipIdx] using bp.cons h1 h4⟩
theorem agM:∀ (is:List Nat) (vs:List KV),∀ p∈EZ is vs,p.2∈vs
 | [],_,p,h=>by simp [EZ] at h
 | i::is,[],p,h=>by simp [EZ] at h
 | i::is,v::vs,p,h=>by
  simp only [EZ,ff] at h;rcases h with rfl | h
  ·simp
  ·simp [agM is vs p h]
theorem Rz:∀ {vs:List KV} {us:List Value},bp P E vs us->vs.all Bf=true->us.all aE.known=true
 | [],us,h,_=>by rw [h.cu]; rfl
 | v::vs,us,h,k=>by
  obtain ⟨y,ys,rfl,h1,h2⟩:=h.cons_inv;simp only [List.all_cons,aD] at k ⊢;exact ⟨ack h1 k.1,Rz h2 k.2⟩
theorem ajX {place:Nat->Option (Nat×Nat)} {z:Value} {is:List Nat} (hz:flat z=true) (h1:jv (iU z).cells=true):z6 P (Ws place (iU z).cells is) (Gy place z is):=by
 intro E vs us v h hg;unfold Ws at hg;split at hg
 ·rename_i cs hf
  obtain ⟨hk,hg⟩:=hg.cond;have hg:KV.agg cs=v:=hg;subst hg;obtain ⟨h2,h3⟩:=agL is h;obtain ⟨r',e,hr⟩:=agK h2 h3 (fun p hp=>by have:=agM is vs p hp; exact im.1 hk _ this) (GI (P:=P) (E:=E) h1) hf;refine ⟨.agg ⟨r'⟩,?_,.tI hr⟩;unfold Gy;rw [hz,Rz h hk];simp [e,tI]
 ·exact hg.elim
theorem aui:z6 P agA Q7:=by
 intro E vs us v h hg
 match vs,hg with
 | [.ptr b off],hg=>
  obtain ⟨y,rfl,h1⟩:=h.gi;have hg:KV.ptr b off=v:=hg;subst hg;have q:=h1;obtain ⟨x,e,rfl⟩:=h1.j8;exact ⟨_,rfl,q⟩
 | [.tp T Tc i k es acc],hg=>
  obtain ⟨y,rfl,h1⟩:=h.gi;have hg:KV.tp T Tc i k es acc=v:=hg;subst hg;have q:=h1;obtain ⟨_,_,_,_,_,b,off,r,rfl,_⟩:=h1.Rw;exact ⟨_,rfl,q⟩
 | [.ap T Tc b i k],hg=>
  obtain ⟨y,rfl,h1⟩:=h.gi;have hg:KV.ap T Tc b i k=v:=hg;subst hg;have q:=h1;obtain ⟨x,L,N,_,_,_,rfl⟩:=h1.Ng;exact ⟨_,rfl,q⟩
 | [.fn (.func f) a b],hg=>
  obtain ⟨y,rfl,h1⟩:=h.gi;have hg:KV.fn (.func f) a b=v:=hg;subst hg;have q:=h1;obtain ⟨l,m,rfl,_⟩:=h1.Nf;exact ⟨_,rfl,q⟩
theorem Ux {s ft:TypeId} {off:Nat} (h:afS P s off ft=true):∀ m c,(bw P ft).ks[m]? = some c->(bw P s).ks[off+m]? = some c:=by
 unfold afS at h;have key:∀ (a b:List CK),GG a b=true->a=b:=by
  intro a
  induction a with
  | nil=>intro b hb; cases b <;> simp_all [GG]
  | cons x xs ih=>
   intro b hb;cases b with
   | nil=>simp [GG] at hb
   | cons y ys=>
    simp only [GG,aD] at hb;rw [ih ys hb.2];congr 1;cases x <;> cases y <;> simp_all [ash]
 split at h
 ·rename_i l e
  obtain ⟨rfl,hl⟩:=Wx e;have:=key _ _ h;intro m c hm;rw [<- this,rf] at hm;split at hm
  ·rwa [PI,rK] at hm
  ·simp at hm
 ·simp at h
theorem ai3 {s ft:TypeId} {off:Nat} {B6:Bool} (agN:B6=afS P s off ft):z6 P (adW s off ft B6) (Uc off):=by
 intro E vs us v h hg
 match vs,hg with
 | [.ptr b o],hg=>
  obtain ⟨y,rfl,h1⟩:=h.gi;have hg:KV.ptr b (o+off)=v:=hg;subst hg;obtain ⟨x,e,rfl⟩:=h1.j8;exact ⟨_,rfl,.DA e⟩
 | [.tp T Tc i k es acc],hg=>
  obtain ⟨y,rfl,h1⟩:=h.gi;obtain ⟨hc,hg⟩:=bf.cond hg;have hg:KV.tp T ft i (k+off) es acc=v:=hg;subst hg;simp only [aD] at hc;have:=bo hc.1;subst this;obtain ⟨ht,bF,h2,hi,hw,b,o,r,rfl,h4,h5⟩:=h1.Rw;refine ⟨_,rfl,?_⟩;simp only [VK];refine ⟨ht,bF,h2,hi,⟨fun m c hm=>?_⟩,b,o,r,by simp only [Value.pointer.injEq,dE,Addr.mk.injEq,and_true,true_and]; omega,h4,h5⟩;have hp:=Ux (agN ▸ hc.2) m c hm;have:=hw.is _ _ hp;rwa [show k+(off+m)=k+off+m by omega] at this
 | [.ap T Tc b i k],hg=>
  obtain ⟨y,rfl,h1⟩:=h.gi;obtain ⟨hc,hg⟩:=bf.cond hg;have hg:KV.ap T ft b i (k+off)=v:=hg;subst hg;simp only [aD] at hc;have:=bo hc.1;subst this;obtain ⟨x,L,N,h2,hw,hi,rfl⟩:=h1.Ng;refine ⟨_,rfl,.asl ⟨x,L,N,h2,⟨fun m c hm=>?_⟩,hi,by simp only [Value.pointer.injEq,dE,Addr.mk.injEq,and_true,true_and]; omega⟩⟩;have hp:=Ux (agN ▸ hc.2) m c hm;have:=hw.is _ _ hp;rwa [show k+(off+m)=k+off+m by omega] at this
theorem amH {t:TypeId} {cs:List KV} {ck:List Value} {off:Nat} {v:KV} (h:bp P E cs ck) (e:acd P t cs off=some v):∃ u,partOf P t ck off=some u/\VK P E v u:=by
 unfold acd at e;unfold partOf;split at e
 ·rename_i ha
  rw [ha];obtain ⟨n,hn,e⟩:=dm.1 e;obtain ⟨l,hl,rfl⟩:=cZ.1 e;obtain ⟨r,hr,hv,_⟩:=h.zV hl;exact ⟨.agg ⟨r⟩,by simp [hn,hr],.tI hv⟩
 ·rename_i ha
  rw [ha];rw [PI] at e;have hd:=h.drop off;cases hc:cs.drop off with
  | nil=>rw [hc] at e; simp at e
  | cons x xs=>
   rw [hc] at e hd;simp at e;subst e;obtain ⟨y,ys,e2,h1,_⟩:=hd.cons_inv;exact ⟨y,by simp [wB,e2],h1⟩
 ·simp at e
theorem aqU {fd:Field} : z6 P (apR P fd) (akL P fd):=by
 intro E vs us v h hg
 match vs,hg with
 | [.agg cs],hg=>
  obtain ⟨y,rfl,h1⟩:=h.gi;obtain ⟨l,rfl,h2⟩:=h1.pC;exact amH h2 hg.of
theorem Eg {i:Int} {n:Nat} (h:inR i n=true):∃ m,i = .ofNat m/\m < n/\i.toNat=m:=by
 simp only [inR,aD,lz] at h;obtain ⟨m,rfl⟩:=Int.eq_ofNat_of_zero_le h.1;exact ⟨m,rfl,by omega,rfl⟩
theorem sK {m n:Nat} (h:m < n):nH (.ofNat m) n=some m:=by
 have:Nat.blt m n=true:=by rw [bX]; exact h
 simp [nH,this]
theorem bf.nF {α:Type} {c:Bool} {u v:α} (h:bf (.nF c u) v):c=true/\u=v:=h
theorem ad0 {t e:TypeId} {len n m:Nat} (hq:GG (bw P t).ks (eN (bw P e).ks len)=true) (hn:(bw P e).ks.length=n) (hm:m < len):∀ a c,(bw P e).ks[a]? = some c->(bw P t).ks[m * n+a]? = some c:=by
 intro a c ha;have key:∀ (l:List CK) (xX m a:Nat) (c:CK),m < xX->l[a]? = some c->(eN l xX)[m * l.length+a]? = some c:=by
  intro l xX
  induction xX with
  | zero=>intro m a c hm; omega
  | succ xX ih=>
   intro m a c hm hl;have bu:a < l.length:=(dB.1 hl).1;cases m with
   | zero=>simp only [eN,Nat.zero_mul,bk]; rw [uk bu]; exact hl
   | succ m=>
    simp only [eN];rw [wg (by rw [Nat.succ_mul]; omega),show (m+1) * l.length+a - l.length=m * l.length+a by rw [Nat.succ_mul]; omega];exact ih m a c (by omega) hl
 have awn:∀ (a b:List CK),GG a b=true->a=b:=by
  intro a
  induction a with
  | nil=>intro b hb; cases b <;> simp_all [GG]
  | cons x xs ih=>
   intro b hb;cases b with
   | nil=>simp [GG] at hb
   | cons y ys=>
    simp only [GG,aD] at hb;rw [ih ys hb.2];congr 1;cases x <;> cases y <;> simp_all [ash]
 have h6:=key (bw P e).ks len m a c hm ha;rw [<- awn _ _ hq,hn] at h6;exact h6
theorem ak3 {t e:TypeId} {len n:Nat} : z6 P (agB P t len n e) (Ys len n):=by
 intro E vs us v h hg
 match vs,hg with
 | [.ptr b o,.int k i],hg=>
  have hg:bf (cond (Nat.ble len 8) (apS i (fun j=>.ok (.ptr b (o+j * n))) len 0) (.nF (inR i len) (.ptr b (o+i.toNat * n)))) v:=hg;obtain ⟨x,y,rfl,h1,h2⟩:=h.nP;obtain ⟨x,e,rfl⟩:=h1.j8;have:=h2.dP; subst this;have key:∃ m:Nat,i=(m:Int)/\m < len/\v = .ptr b (o+m * n):=by
   cases hb:Nat.ble len 8 with
   | true=>rw [hb,ai] at hg; obtain ⟨m,_,h3,h4,h5⟩:=bf.at hg; exact ⟨m,h4,by omega,(show KV.ptr b (o+m * n)=v from h5).symm⟩
   | false=>rw [hb,aw] at hg; obtain ⟨hc,rfl⟩:=bf.nF hg; obtain ⟨m,rfl,hm,YL⟩:=Eg hc; exact ⟨m,rfl,hm,by rw [YL]⟩
  obtain ⟨m,rfl,hm,rfl⟩:=key;refine ⟨_,?_,.DA e⟩;show (nH (.ofNat m) len).bind _=_;rw [sK hm]; rfl
 | [.tp T Tc j k es acc,.int q i],hg=>
  obtain ⟨x,y,rfl,h1,h2⟩:=h.nP;obtain ⟨yv,hg⟩:=bf.cond hg;obtain ⟨hc,rfl⟩:=bf.nF hg;have:=h2.dP; subst this;obtain ⟨m,rfl,hm,YL⟩:=Eg hc;rw [YL];simp only [aD] at yv;have:=bo yv.1.1;subst this;have hn:(bw P e).ks.length=n:=bo yv.2;obtain ⟨ht,bF,h3,hi,hw,b,o,r,rfl,h4,h5⟩:=h1.Rw;refine ⟨_,by (show (nH (.ofNat m) len).bind _=_); rw [sK hm]; rfl,?_⟩;simp only [VK];refine ⟨ht,bF,h3,hi,⟨fun a c ha=>?_⟩,b,o,r,by simp only [Value.pointer.injEq,dE,Addr.mk.injEq,and_true,true_and]; omega,h4,h5⟩;have h6:=ad0 yv.1.2 hn hm a c ha;have:=hw.is _ _ h6;rwa [show k+(m * n+a)=k+m * n+a by omega] at this
 | [.ap T Tc b j k,.int q i],hg=>
  obtain ⟨x,y,rfl,h1,h2⟩:=h.nP;obtain ⟨yv,hg⟩:=bf.cond hg;obtain ⟨hc,rfl⟩:=bf.nF hg;have:=h2.dP; subst this;obtain ⟨m,rfl,hm,YL⟩:=Eg hc;rw [YL];simp only [aD] at yv;have:=bo yv.1.1;subst this;have hn:(bw P e).ks.length=n:=bo yv.2;obtain ⟨x,L,N,h3,hw,hi,rfl⟩:=h1.Ng;refine ⟨_,by (show (nH (.ofNat m) len).bind _=_); rw [sK hm]; rfl,.asl ⟨x,L,N,h3,⟨fun a c ha=>?_⟩,hi,by simp only [Value.pointer.injEq,dE,Addr.mk.injEq,and_true,true_and]; omega⟩⟩;have h6:=ad0 yv.1.2 hn hm a c ha;have:=hw.is _ _ h6;rwa [show k+(m * n+a)=k+m * n+a by omega] at this
theorem amI {e n:Nat} {B6:Bool} (agN:B6=Nat.beq (bw P e).ks.length n):z6 P (ajR e n B6) (abW n):=by
 intro E vs us v h hg
 match vs,hg with
 | [.sl b o len cap,.int k i],hg=>
  obtain ⟨x,y,rfl,h1,h2⟩:=h.nP;obtain ⟨hc,rfl⟩:=bf.nF hg;obtain ⟨x,e,rfl⟩:=h1.Wy;have:=h2.dP; subst this;obtain ⟨m,rfl,hm,YL⟩:=Eg hc;rw [YL];exact ⟨_,by (show (nH (.ofNat m) len).bind _=_); rw [sK hm]; rfl,.DA e⟩
 | [.ts T mk len es acc,.int q i],hg=>
  obtain ⟨x,y,rfl,h1,h2⟩:=h.nP;obtain ⟨yv,hg⟩:=bf.cond hg;obtain ⟨hc,rfl⟩:=bf.nF hg;have:=h2.dP; subst this;obtain ⟨m,rfl,hm,YL⟩:=Eg hc;rw [YL];simp only [aD] at yv;have:=bo yv.1;subst this;have hn:(bw P T).ks.length=n:=bo (agN ▸ yv.2);obtain ⟨ht,bF,h3,a,cap,rfl,h4,h5,h6⟩:=h1.pH;rcases h5 with ⟨_,h0⟩ | ⟨b,off,r,rfl,h7,h8,h9⟩
  ·omega
  ·refine ⟨_,by (show (nH (.ofNat m) len).bind _=_); rw [sK hm]; rfl,?_⟩
   have hl:=ht.len;simp only [VK];refine ⟨⟨rfl,fun i hi=>ht.acc i (by omega),ht.typed⟩,bF,h3,by omega,⟨fun a c ha=>by simpa using ha⟩,b,off,r,?_,h7,h9⟩;simp only [bq,hn,Value.pointer.injEq,dE,Addr.mk.injEq,and_true,true_and];omega
 | [.al T b o len,.int q i],hg=>
  obtain ⟨x,y,rfl,h1,h2⟩:=h.nP;obtain ⟨yv,hg⟩:=bf.cond hg;obtain ⟨hc,rfl⟩:=bf.nF hg;have:=h2.dP; subst this;obtain ⟨m,rfl,hm,YL⟩:=Eg hc;rw [YL];simp only [aD] at yv;have:=bo yv.1;subst this;have hn:(bw P T).ks.length=n:=bo (agN ▸ yv.2);rcases h1.Bj with ⟨h0,_⟩ | ⟨x,L,N,c,h3,rfl,h4,h5,h6⟩
  ·omega
  ·refine ⟨_,by (show (nH (.ofNat m) len).bind _=_); rw [sK hm]; rfl,.asl ⟨x,L,N,h3,⟨fun a c ha=>by simpa using ha⟩,by omega,?_⟩⟩
   simp only [bq,hn,Value.pointer.injEq,dE,Addr.mk.injEq,and_true,true_and];rw [Nat.add_mul]; omega
theorem ak4 {len n:Nat} {e:TypeId} : z6 P (YF P len n e) (Yt P len n e):=by
 intro E vs us v h hg
 match vs,hg with
 | [.agg cs,.int k i],hg=>
  obtain ⟨x,y,rfl,h1,h2⟩:=h.nP;obtain ⟨l,rfl,h3⟩:=h1.pC;have:=h2.dP; subst this;simp only [YF] at hg;have key:∃ m:Nat,i=(m:Int)/\m < len/\acd P e cs (m * n)=some v:=by
   cases hb:Nat.ble len 8 with
   | true=>rw [hb,ai] at hg; obtain ⟨m,_,h3,h4,h5⟩:=bf.at hg; exact ⟨m,h4,by omega,bf.of h5⟩
   | false=>
    rw [hb,aw] at hg;split at hg
    ·rename_i u hu
     obtain ⟨hc,rfl⟩:=bf.nF hg;obtain ⟨m,rfl,hm,YL⟩:=Eg hc;rw [YL] at hu;exact ⟨m,rfl,hm,hu⟩
    ·exact hg.elim
  obtain ⟨m,rfl,hm,hu⟩:=key;obtain ⟨w,h4,h5⟩:=amH h3 hu;exact ⟨w,by (show (nH (.ofNat m) len).bind _=_); rw [sK hm]; exact h4,h5⟩
theorem ak5:z6 P agC Yu:=by
 intro E vs us v h hg
 match vs,hg with
 | [.str s,.int k i],hg=>
  obtain ⟨x,y,rfl,h1,h2⟩:=h.nP;have:=h1.wL; subst this;have:=h2.dP; subst this;obtain ⟨hc,rfl⟩:=bf.nF hg;obtain ⟨m,rfl,hm,YL⟩:=Eg hc;rw [YL];have hl:m < s.data.toList.length:=by simpa using hm
  refine ⟨.int .u8 (s.data.toList.getD m 0).toNat,?_,.mkInt⟩;show (nH (.ofNat m) s.size).bind _=_;rw [sK hm];show (s.data.toList[m]?).map _=_;simp [List.getD,dD hl]
theorem agO {α:Type} : ∀ (n:Nat) (l:List α),ajS n l=l[n]?
 | n,[]=>by cases n <;> rfl
 | 0,x::_=>rfl
 | n+1,_::xs=>by simp [ajS,agO n xs]
theorem amJ {i:Nat} : z6 P (ajT i) (Pg i):=by
 intro E vs us v h hg
 match vs,hg with
 | [.jd ws],hg=>
  obtain ⟨y,rfl,h1⟩:=h.gi;obtain ⟨l,rfl,h2⟩:=h1.Uv;have:=hg.of;rw [agO] at this;obtain ⟨u,h3,h4⟩:=h2.get this;exact ⟨u,by simpa [Pg] using h3,h4⟩
theorem aqV:z6 P apT afL:=by
 intro E vs us v h hg
 match vs,hg with
 | [.ts T m n es acc],hg=>
  obtain ⟨y,rfl,h1⟩:=h.gi;obtain ⟨_,_,_,a,cap,rfl,_⟩:=h1.pH;have hg:KV.int .i64 n=v:=hg;subst hg;exact ⟨_,rfl,.mkInt⟩
 | [.sl b o n c],hg=>
  obtain ⟨y,rfl,h1⟩:=h.gi;obtain ⟨x,_,rfl⟩:=h1.Wy;have hg:KV.int .i64 n=v:=hg;subst hg;exact ⟨_,rfl,.mkInt⟩
 | [.al T b o n],hg=>
  obtain ⟨y,rfl,h1⟩:=h.gi;obtain ⟨a,c,rfl⟩:=h1.Bj.slice;have hg:KV.int .i64 n=v:=hg;subst hg;exact ⟨_,rfl,.mkInt⟩
 | [.nN],hg=>
  obtain ⟨y,rfl,h1⟩:=h.gi;have:=h1.r6; subst this;have hg:KV.int .i64 0=v:=hg;subst hg;exact ⟨_,rfl,.mkInt⟩
theorem aoF:z6 P amw ZL:=by
 intro E vs us v h hg
 match vs,hg with
 | [.str s],hg=>
  obtain ⟨y,rfl,h1⟩:=h.gi;have:=h1.wL; subst this;have hg:KV.int .i64 s.size=v:=hg;subst hg;exact ⟨_,rfl,.mkInt⟩
theorem aqW:z6 P apP age:=by
 intro E vs us v h hg
 match vs,hg with
 | [.str s],hg=>
  obtain ⟨y,rfl,h1⟩:=h.gi;have:=h1.wL; subst this;have hg:KV.str s=v:=hg;subst hg;exact ⟨_,rfl,.mkStr⟩
theorem ak6 {f:Fn} {k:Nat} : z6 P (Rs f k) (Lb f k):=by
 intro E vs us v h hg;unfold Rs at hg;split at hg
 ·rename_i l hl
  have hg:KV.fn f l (GF k vs)=v:=hg;subst hg;have tL:zV k (GF 0 vs)=some l:=hl;obtain ⟨r,h1,h2,_⟩:=h.zV tL;have h1:takeN k us=some r:=h1;refine ⟨_,by simp [Lb,h1]; rfl,.amF h2 ?_⟩;rw [PI,wB];exact h.drop k
 ·exact hg.elim
theorem aqX {src dst:TypeId} {k k' : IntKind} (h2:P.underlying dst=some (.int k)) (h3:P.underlying src=some (.int k')):z6 P (apO k) (Pf P src dst):=by
 intro E vs us v h hg
 match vs,hg with
 | [.int j n],hg=>
  obtain ⟨y,rfl,h1⟩:=h.gi;have:=h1.dP; subst this;have hg:KV.int k (k.wrap n)=v:=hg;subst hg;refine ⟨.int k (k.wrap n),?_,.mkInt⟩;simp only [Pf,h2];simp [convert,underlying,program,Bind.bind,Sem.bind,dM,h2,h3,Conv.intToInt,Pure.pure]
end Go.K
end
section
namespace Go.K
open Go Go.aE
variable {P:Program} {E:Env}
theorem gk {α β:Type} : ∀ {s:Sem α} {f:α->Sem β} {a:α},dM P s=some a->dM P (s >>= f)=dM P (f a)
 | .pure x,f,a,h=>by simp [dM] at h; subst h; rfl
 | .program k,f,a,h=>by
  have:=gk (s:=k P) (f:=f) (a:=a) (by simpa [dM] using h);exact this
 | .mark m k,f,a,h=>by
  have:=gk (s:=k) (f:=f) (a:=a) (by simpa [dM] using h);exact this
 | .load ..,_,_,h | .store ..,_,_,h | .new ..,_,_,h | .shape ..,_,_,h | .freeze ..,_,_,h | .frozen ..,_,_,h | .getObj ..,_,_,h
 | .setObj ..,_,_,h | .choose ..,_,_,h | .sys ..,_,_,h | .halt ..,_,_,h=>by simp [dM] at h
theorem Lq {α β:Type} {init stop:β} {B:α->β->Sem (ForInStep β)} {g:α->Bool} : ∀ {l:List α},(∀ x∈l,dM P (B x init)=some (if g x=true then .yield init else .done stop))->
  dM P (forIn l init B)=some (if l.all g=true then init else stop)
 | [],_=>rfl
 | x::l,h=>by
  have hx:=h x (by simp);rw [List.forIn_cons,gk hx];cases hg:g x with
  | true=>
   simp only [if_true];rw [Lq fun y hy=>h y (by simp [hy])];simp [hg]
  | false=>simp [hg]; rfl
theorem Cd {t:TypeId} {d:TypeDesc} (h:P.underlying t=some d):dM P (underlying t)=some d:=by
 simp [underlying,program,Bind.bind,Sem.bind,dM,h,Pure.pure]
theorem aad {t:TypeId} {i:TypeInfo} (h:P.info? t=some i):dM P (typeInfo t)=some i:=by
 simp [typeInfo,program,Bind.bind,Sem.bind,dM,h,Pure.pure]
theorem cE {α:Type} (a:α):dM P (pure a)=some a:=rfl
theorem S0 {t:TypeId} {i:TypeInfo} (h:P.info? t=some i):dM P (sizeOf t)=some i.size:=by
 unfold sizeOf;rw [gk (aad h)];rfl
theorem agP {n:Nat} {t:TypeId} {L:Bd} (h:lay P n t=some L):∃ d,P.underlying t=some d/\L.agg=afK d/\(L.agg=false->L.ks.length=1):=by
 cases n with
 | zero=>simp [lay] at h
 | succ n=>
  simp only [lay] at h;split at h <;> rename_i hu
  ·simp at h; subst h; exact ⟨_,hu,rfl,fun _=>rfl⟩
  ·simp at h; subst h; exact ⟨_,hu,rfl,fun _=>rfl⟩
  ·simp at h; subst h; exact ⟨_,hu,rfl,fun _=>rfl⟩
  ·simp at h; subst h; exact ⟨_,hu,rfl,fun _=>rfl⟩
  ·obtain ⟨ks,_,rfl⟩:=cZ.1 h; exact ⟨_,hu,rfl,fun h=>by simp at h⟩
  ·obtain ⟨ks,_,rfl⟩:=cZ.1 h; exact ⟨_,hu,rfl,fun h=>by simp at h⟩
  ·rename_i d h1 h2 h3 h4 h5 h6
   simp at h; subst h;refine ⟨_,hu,?_,fun _=>rfl⟩;cases d <;> first | rfl | simp_all
  ·simp at h
def E9 (agg:Bool) (l:List Value):Value:=cond agg (.agg ⟨l⟩) (l.headD undef)
theorem XE {n:Nat} {t:TypeId} {L:Bd} {i:TypeInfo} {cs:Array Value} {off:Nat} (h:lay P n t=some L) (hi:P.info? t=some i) (hs:i.size=L.ks.length) (hl:off+L.ks.length<=cs.size) :
  dM P (part t cs off)=some (E9 L.agg ((cs.toList.drop off).take L.ks.length)):=by
 obtain ⟨d,hu,ha,h1⟩:=agP h;have awo:dM P (isAgg t)=some (afK d):=by
  unfold isAgg;rw [gk (Cd hu)];cases d <;> rfl
 unfold part;rw [gk awo];cases hd:afK d with
 | true=>
  rw [hd] at ha;simp only [if_true];rw [gk (S0 hi)];simp only [cE,ha,E9,ai,hs];congr 2;apply Array.ext';simp
 | false=>
  rw [hd] at ha;have h1:=h1 ha;have bu:off < cs.size:=by omega
  simp only [xM,if_false];rw [Array.getElem?_eq_getElem bu];simp only [cE,ha,E9,aw,h1];congr 1;have:cs.toList.drop off=cs.toList[off]::cs.toList.drop (off+1):=List.drop_eq_getElem_cons (by simpa using bu);rw [this];simp
theorem aae:∀ {xs ys:List KV} {b:Bool},xE xs ys=some b->xs.length=ys.length
 | [],[],_,_=>rfl
 | [],_::_,_,h=>by simp [xE] at h
 | _::_,[],_,h=>by simp [xE] at h
 | x::xs,y::ys,b,h=>by
  simp only [xE] at h;split at h
  ·rename_i h2; simp [aae h2]
  ·simp at h
theorem Eh:∀ (n:Nat) {xs ys:List KV} {b:Bool},xE xs ys=some b->∃ b1 b2,xE (xs.take n) (ys.take n)=some b1/\xE (xs.drop n) (ys.drop n)=some b2/\b=(b1&&b2)
 | 0,xs,ys,b,h=>⟨true,b,by simp [xE],by simpa using h,by simp⟩
 | n+1,[],[],b,h=>by simp [xE] at h; subst h; exact ⟨true,true,by simp [xE],by simp [xE],rfl⟩
 | n+1,[],_::_,b,h=>by simp [xE] at h
 | n+1,_::_,[],b,h=>by simp [xE] at h
 | n+1,x::xs,y::ys,b,h=>by
  simp only [xE] at h;split at h
  ·rename_i a c h1 h2
   simp at h;obtain ⟨b1,b2,h3,h4,h5⟩:=Eh n h2;refine ⟨a&&b1,b2,by simp [xE,h1,h3],by simpa using h4,?_⟩;rw [<- h,h5,Bool.and_assoc]
  ·simp at h
def GJ (xs ys:List KV) (off n:Nat):Bool:=(xE ((xs.drop off).take n) ((ys.drop off).take n)).getD false
theorem ajY {xs ys:List KV} {b:Bool} (h:xE xs ys=some b) (off n:Nat):xE ((xs.drop off).take n) ((ys.drop off).take n)=some (GJ xs ys off n):=by
 obtain ⟨_,_,_,h2,_⟩:=Eh off h;obtain ⟨b1,_,h3,_,_⟩:=Eh n h2;unfold GJ;rw [h3]; rfl
theorem yy:∀ {a b:List CK} {xs:List KV},aO (a++b) xs=true->aO a (xs.take a.length)=true/\aO b (xs.drop a.length)=true
 | [],b,xs,h=>by simpa [aO] using h
 | c::a,b,[],h=>by simp [aO] at h
 | c::a,b,x::xs,h=>by
  simp only [List.cons_append,aO,aD] at h;obtain ⟨h1,h2⟩:=yy h.2;simp [aO,h.1,h1,h2]
theorem uO:∀ {a:List CK} {xs:List KV},aO a xs=true->xs.length=a.length
 | [],[],_=>rfl
 | [],_::_,h=>by simp [aO] at h
 | _::_,[],h=>by simp [aO] at h
 | c::a,x::xs,h=>by
  simp only [aO,aD] at h;simp [uO h.2]
theorem agQ {lf:TypeId->Option Bd} {xs ys:List KV} {b:Bool} (he:xE xs ys=some b):∀ {fs:List Field} {off:Nat} {ks:List CK},Um lf fs off=some ks->aO ks (xs.drop off)=true->aO ks (ys.drop off)=true->off+ks.length=xs.length->
  (∀ f∈fs,∃ L,lf f.type=some L/\f.offset+L.ks.length<=xs.length/\aO L.ks ((xs.drop f.offset).take L.ks.length)=true/\aO L.ks ((ys.drop f.offset).take L.ks.length)=true)/\
  xE (xs.drop off) (ys.drop off)=some (fs.all fun f=>GJ xs ys f.offset (((lf f.type).map (·.ks.length)).getD 0))
 | [],off,ks,h,_,_,hl=>by
  simp [Um] at h;subst h;have h1:xs.drop off = []:=by simp at hl; simp; omega
  have h2:ys.drop off = []:=by have:=aae he; simp at hl; simp; omega
  refine ⟨by simp,?_⟩;rw [h1,h2]; rfl
 | f::fs,off,ks,h,hk,Cc,hl=>by
  simp only [Um] at h;obtain ⟨SZ,h⟩:=Ry h;have SZ:=bo SZ;obtain ⟨L,h1,h⟩:=dm.1 h;obtain ⟨r,h2,rfl⟩:=cZ.1 h;obtain ⟨k1,k2⟩:=yy hk;obtain ⟨k1',k2'⟩:=yy Cc;rw [List.drop_drop] at k2 k2';simp only [nY] at hl;obtain ⟨h3,h4⟩:=agQ he h2 k2 k2' (by omega);refine ⟨fun g hg=>?_,?_⟩
  ·rcases ff.1 hg with rfl | hg
   ·exact ⟨L,h1,by omega,by rw [SZ]; exact k1,by rw [SZ]; exact k1'⟩
   ·exact h3 g hg
  ·obtain ⟨_,_,_,h5,_⟩:=Eh off he
   obtain ⟨c1,c2,h6,h7,h8⟩:=Eh L.ks.length h5;rw [List.drop_drop,List.drop_drop] at h7;rw [h4] at h7;simp at h7;have h9:=ajY he off L.ks.length;rw [h6] at h9;simp at h9;rw [h5,h8];simp only [List.all_cons,h1,Option.map_some,bc,SZ,<- h9];rw [<- h7]
theorem Jd {α:Type} (l:List α):∀ n,(eN l n).length=n * l.length
 | 0=>by simp [eN]
 | n+1=>by rw [eN,nY,Jd l n,Nat.succ_mul]; omega
theorem agR {xs ys:List KV} {l:List CK} : ∀ {len off:Nat} {b:Bool},xE (xs.drop off) (ys.drop off)=some b->aO (eN l len) (xs.drop off)=true->aO (eN l len) (ys.drop off)=true->
  (∀ i,i < len->aO l ((xs.drop (off+i * l.length)).take l.length)=true/\aO l ((ys.drop (off+i * l.length)).take l.length)=true)/\
  xE (xs.drop off) (ys.drop off)=some ((List.range' 0 len).all fun i=>GJ xs ys (off+i * l.length) l.length)
 | 0,off,b,h,hk,Cc=>by
  have h1:xs.drop off = []:=by have:=uO hk; simp only [eN,List.length_nil] at this; exact pq.1 this
  have h2:ys.drop off = []:=by have:=uO Cc; simp only [eN,List.length_nil] at this; exact pq.1 this
  refine ⟨fun i hi=>by omega,?_⟩;rw [h1,h2]; rfl
 | len+1,off,b,h,hk,Cc=>by
  obtain ⟨c1,c2,h1,h2,h3⟩:=Eh l.length h;rw [List.drop_drop,List.drop_drop] at h2;obtain ⟨k1,k2⟩:=yy (a:=l) (b:=eN l len) hk;obtain ⟨k1',k2'⟩:=yy (a:=l) (b:=eN l len) Cc;rw [List.drop_drop] at k2 k2';obtain ⟨h5,h4⟩:=agR (len:=len) (off:=off+l.length) h2 k2 k2';refine ⟨fun i hi=>?_,?_⟩
  ·cases i with
   | zero=>simpa using ⟨k1,k1'⟩
   | succ i=>
    have:=h5 i (by omega);rwa [show off+l.length+i * l.length=off+(i+1) * l.length by rw [Nat.succ_mul]; omega] at this
  rw [h2] at h4;simp at h4;have hw:GJ xs ys off l.length=c1:=by unfold GJ; rw [h1]; rfl
  rw [h,h3];rw [List.range'_succ];simp only [List.all_cons,Nat.zero_mul,Db,hw,bk];congr 2;rw [h4];have:List.range' 1 len=(List.range' 0 len).map (1 + ·):=by rw [List.map_add_range']
  rw [this,List.all_map];apply congrArg (fun f=>List.all (List.range' 0 len) f);funext i;simp only [Function.comp];congr 1;rw [Nat.add_mul]; omega
theorem amK:∀ (n d:Nat) (t:TypeId) (L:Bd) (cx cy:List KV) (xs ys:List Value) (b:Bool),JX P n t=true->lay P n t=some L->n<=d->bp P E cx xs->bp P E cy ys->aO L.ks cx=true->aO L.ks cy=true->
  xE cx cy=some b->dM P (Op.equalIn d t (E9 L.agg xs) (E9 L.agg ys))=some b
 | 0,_,_,_,_,_,_,_,_,h,_,_,_,_,_,_,_=>by simp [JX] at h
 | n+1,0,_,_,_,_,_,_,_,_,_,h,_,_,_,_,_=>by omega
 | n+1,d+1,t,L,cx,cy,xs,ys,b,h,hL,hd,hx,hy,hkx,hky,he=>by
  have hl:=uO hkx;have hly:=uO hky;have hlx' : xs.length=L.ks.length:=by rw [hx.length,hl]
  have hly' : ys.length=L.ks.length:=by rw [hy.length,hly]
  have apY:∀ s,JX P n s=true->∃ i l,P.info? s=some i/\lay P n s=some l/\i.size=l.ks.length:=by
   intro s hs;cases n with
   | zero=>simp [JX] at hs
   | succ n=>
    simp only [JX,aD] at hs;have h1:=hs.1;split at h1
    ·rename_i i l e1 e2
     exact ⟨i,l,e1,e2,bo h1⟩
    ·simp at h1
  have S1:∀ (s:TypeId) (l:Bd) (i:TypeInfo) (off:Nat),JX P n s=true->lay P n s=some l->P.info? s=some i->i.size=l.ks.length->off+l.ks.length<=cx.length->
    aO l.ks ((cx.drop off).take l.ks.length)=true->aO l.ks ((cy.drop off).take l.ks.length)=true->
    (do
     let u <- part s ⟨xs⟩ off
     let v <- part s ⟨ys⟩ off
     Op.equalIn d s u v:Sem Bool)=(do
     let u <- part s ⟨xs⟩ off
     let v <- part s ⟨ys⟩ off
     Op.equalIn d s u v)/\dM P (part s ⟨xs⟩ off)=some (E9 l.agg ((xs.drop off).take l.ks.length))/\dM P (part s ⟨ys⟩ off)=some (E9 l.agg ((ys.drop off).take l.ks.length))/\
    dM P (Op.equalIn d s (E9 l.agg ((xs.drop off).take l.ks.length)) (E9 l.agg ((ys.drop off).take l.ks.length)))=some (GJ cx cy off l.ks.length):=by
   intro s l i off h1 h2 h3 h4 h5 h6 h7;refine ⟨rfl,?_,?_,?_⟩
   ·exact XE h2 h3 h4 (by simp; omega)
   ·exact XE h2 h3 h4 (by simp; omega)
   ·exact amK n d s l _ _ _ _ _ h1 h2 (by omega) ((hx.drop off).take _) ((hy.drop off).take _) h6 h7 (ajY he off _)
  simp only [JX,aD] at h;have h2:=h.2;obtain ⟨dd,hu,ha,h1⟩:=agP hL;rw [hu] at h2;unfold Op.equalIn;rw [gk (Cd hu)];simp only [lay,hu] at hL;have aaf:∀ c,L.ks = [c]->∃ x y u v,cx = [x]/\cy = [y]/\xs = [u]/\ys = [v]/\VK P E x u/\VK P E y v/\eqK x y=some b/\kindOk c x=true/\kindOk c y=true:=by
   intro c hc;rw [hc] at hl hly hkx hky
   match cx,cy,hl,hly with
   | [x],[y],_,_=>
    obtain ⟨u,rfl,h2⟩:=hx.gi;obtain ⟨v,rfl,h3⟩:=hy.gi;refine ⟨x,y,u,v,rfl,rfl,rfl,rfl,h2,h3,?_,by simpa [aO] using hkx,by simpa [aO] using hky⟩;simp only [xE] at he;split at he
    ·rename_i a c h4 h5
     simp at h5;subst h5;simpa [h4] using he
    ·simp at he
  cases dd with
  | int k=>
   simp at hL;subst hL;obtain ⟨x,y,u,v,rfl,rfl,rfl,rfl,h3,h4,h5,h6,h7⟩:=aaf _ rfl;cases x <;> simp [kindOk] at h6;cases y <;> simp [kindOk] at h7;subst h6 h7;have:=h3.dP; subst this;have:=h4.dP; subst this;simp [eqK] at h5;subst h5;simp [E9,cE]
  | bool=>
   simp at hL;subst hL;obtain ⟨x,y,u,v,rfl,rfl,rfl,rfl,h3,h4,h5,h6,h7⟩:=aaf _ rfl;cases x <;> simp [kindOk] at h6;cases y <;> simp [kindOk] at h7;have:=h3.hO; subst this;have:=h4.hO; subst this;simp [eqK] at h5;subst h5;simp [E9,cE]
  | string=>
   simp at hL;subst hL;obtain ⟨x,y,u,v,rfl,rfl,rfl,rfl,h3,h4,h5,h6,h7⟩:=aaf _ rfl;cases x <;> simp [kindOk] at h6;cases y <;> simp [kindOk] at h7;have:=h3.wL; subst this;have:=h4.wL; subst this;simp [eqK] at h5;subst h5;simp [E9,cE]
  | struct fs=>
   simp only [cZ] at hL;obtain ⟨ks,wG,rfl⟩:=hL;simp only [aD,nz] at h2;obtain ⟨h3,h4⟩:=agQ he wG (by simpa using hkx) (by simpa using hky) (by simpa using hl.symm);simp only [List.drop_zero] at h4;rw [he] at h4;simp only [dE] at h4;simp only [E9,ai];rw [gk (a:=P) (by simp [program,dM])];simp only [h2.1,xM,if_false];rw [<- Array.forIn_toList];rw [gk (Lq (g:=fun f=>GJ cx cy f.offset (((lay P n f.type).map (·.ks.length)).getD 0)) (stop:=(some false,())) fun f hf=>?_)]
   ·rw [h4]
    cases (fs.toList.all fun f=>GJ cx cy f.offset (((lay P n f.type).map (·.ks.length)).getD 0)) <;> rfl
   ·have h5:=im.1 h2.2 f hf
    simp only [aD,nz,beq_eq_false_iff_ne] at h5;rw [aW h5.1];obtain ⟨l,h6,h7,h8,h9⟩:=h3 f hf;obtain ⟨i,l',e1,e2,e3⟩:=apY _ h5.2;rw [h6] at e2;simp at e2;subst e2;obtain ⟨_,w1,w2,w3⟩:=S1 _ l i f.offset h5.2 h6 e1 e3 h7 h8 h9;rw [gk w1,gk w2,gk w3];simp only [h6,Option.map_some,bc];cases GJ cx cy f.offset l.ks.length <;> rfl
  | array len e=>
   simp only [cZ] at hL;obtain ⟨l,Ui,rfl⟩:=hL;obtain ⟨h3,h4⟩:=agR (xs:=cx) (ys:=cy) (l:=l.ks) (len:=len) (off:=0) (by simpa using he) (by simpa using hkx) (by simpa using hky);simp only [List.drop_zero,bk] at h3 h4;rw [he] at h4;simp only [dE] at h4;obtain ⟨i,l',e1,e2,e3⟩:=apY _ h2;rw [Ui] at e2;simp at e2;subst e2;simp only [E9,ai];rw [gk (S0 e1)];rw [Std.Legacy.Range.forIn_eq_forIn_range'];rw [show List.range' [:len].start [:len].size [:len].step=List.range' 0 len from by simp [Std.Legacy.Range.size]];rw [gk (Lq (g:=fun i=>GJ cx cy (i * l.ks.length) l.ks.length) (stop:=(some false,())) fun j hj=>?_)]
   ·rw [h4]
    cases ((List.range' 0 len).all fun i=>GJ cx cy (i * l.ks.length) l.ks.length) <;> rfl
   ·have fw:j < len:=by simpa using hj
    obtain ⟨k1,k2⟩:=h3 j fw;have hle:j * l.ks.length+l.ks.length<=cx.length:=by
     rw [hl];simp only [Jd];rw [<- Nat.succ_mul];exact Nat.mul_le_mul_right _ fw
    obtain ⟨_,w1,w2,w3⟩:=S1 _ l i (j * l.ks.length) h2 Ui e1 e3 hle k1 k2;rw [e3];rw [gk w1,gk w2,gk w3];cases GJ cx cy (j * l.ks.length) l.ks.length <;> rfl
  | _=>simp at h2
theorem Uy:∀ {ks:List CK} {cs:List KV} {l:List Value},aO ks cs=true->bp P E cs l->(∀ t,CK.slice t ∉ ks)->zO l=true
 | [],[],l,_,h,_=>by rw [h.cu]; rfl
 | [],_::_,_,h,_,_=>by simp [aO] at h
 | _::_,[],_,h,_,_=>by simp [aO] at h
 | c::ks,v::cs,l,h,hv,hn=>by
  obtain ⟨y,ys,rfl,h1,h2⟩:=hv.cons_inv;simp only [aO,aD] at h;have:=Uy h.2 h2 (fun t ht=>hn t (by simp [ht]));simp only [zO,this,Bool.and_true];cases c with
  | int k=>cases v <;> simp [kindOk] at h; have:=h1.dP; subst this; rfl
  | bool=>cases v <;> simp [kindOk] at h; have:=h1.hO; subst this; rfl
  | str=>cases v <;> simp [kindOk] at h; have:=h1.wL; subst this; rfl
  | slice t=>exact absurd (by simp) (hn t)
  | other=>cases v <;> simp [kindOk] at h
theorem Uz:∀ (n:Nat) (t:TypeId) (L:Bd),JX P n t=true->lay P n t=some L->∀ u,CK.slice u ∉ L.ks
 | 0,_,_,h,_,_=>by simp [JX] at h
 | n+1,t,L,h,hL,u=>by
  simp only [JX,aD] at h;have h2:=h.2;obtain ⟨dd,hu,_,_⟩:=agP hL;rw [hu] at h2;simp only [lay,hu] at hL;cases dd with
  | int k=>simp at hL; subst hL; simp
  | bool=>simp at hL; subst hL; simp
  | string=>simp at hL; subst hL; simp
  | struct fs=>
   simp only [cZ] at hL;obtain ⟨ks,wG,rfl⟩:=hL;simp only [aD,im] at h2;have key:∀ (l:List Field) (off:Nat) (ks:List CK),Um (lay P n) l off=some ks->(∀ f∈l,JX P n f.type=true)->CK.slice u ∉ ks:=by
    intro l
    induction l with
    | nil=>intro off ks h _; simp [Um] at h; subst h; simp
    | cons f l ih=>
     intro off ks h hf;simp only [Um] at h;obtain ⟨_,h⟩:=Ry h;obtain ⟨L',h5,h⟩:=dm.1 h;obtain ⟨r,h6,rfl⟩:=cZ.1 h;rw [mJ];rintro (h7 | h7)
     ·exact Uz n _ _ (hf f (by simp)) h5 u h7
     ·exact ih _ _ h6 (fun g hg=>hf g (by simp [hg])) h7
   exact key _ _ _ wG fun f hf=>(h2.2 f hf).2
  | array len e=>
   simp only [cZ] at hL;obtain ⟨l,Ui,rfl⟩:=hL;have:=Uz n e l h2 Ui u;have key:∀ m,CK.slice u ∉ eN l.ks m:=by
    intro m
    induction m with
    | zero=>simp [eN]
    | succ m ih=>simp only [eN,mJ,not_or]; exact ⟨this,ih⟩
   exact key _
  | _=>simp at h2
theorem aoG {t:TypeId} (h:JX P 12 t=true):lay P 12 t=some (bw P t):=by
 simp only [JX,aD] at h;have h1:=h.1;unfold bw;split at h1
 ·rename_i i l e1 e2; rw [e2]; rfl
 ·simp at h1
theorem amL {t:TypeId} {x y:KV} {b:Bool} {lit:Bool} {u v:Value} (hx:VK P E x u) (hy:VK P E y v) (h:asf P t x y=some b):u5 P t lit u v=some b:=by
 unfold asf at h;split at h
 ·rename_i xs ys
  obtain ⟨hc,h⟩:=Ry h;simp only [aD,nz] at hc;obtain ⟨⟨⟨⟨ha,h1⟩,h2⟩,h3⟩,h4⟩:=hc;obtain ⟨l,rfl,hl⟩:=hx.pC;obtain ⟨m,rfl,hm⟩:=hy.pC;have hL:=aoG h1;have hns:=Uz 12 t _ h1 hL;have hfx:flat (.agg ⟨l⟩)=true:=Uy h3 hl hns;have hfy:flat (.agg ⟨m⟩)=true:=Uy h4 hm hns;have hs:=amK 12 Op.maxDepth t (bw P t) xs ys l m b h1 hL (by unfold Op.maxDepth; omega) hl hm h3 h4 h;rw [ha] at hs;have hs:dM P (Op.equal t (.agg ⟨l⟩) (.agg ⟨m⟩))=some b:=hs;unfold u5;simp only [mK,De,h2,sE,bC,ai];unfold eqV;split <;> simp_all
 ·rename_i a c
  split at h
  ·rename_i hu
   simp at h;subst h;have:=hx.hO; subst this;have:=hy.hO; subst this;have:dM P (Op.equal t (.bool a) (.bool c))=some (a==c):=by
    unfold Op.equal Op.maxDepth Op.equalIn;rw [gk (Cd hu)];rfl
   unfold u5;simp only [mK,De,bC,ai];unfold eqV;split <;> simp_all [flat]
  ·simp at h
 ·split at h
  ·rename_i e hu
   simp at h;subst h;have:=hx.r6; subst this;have:=hy.r6; subst this;simp [u5,mK,De,eqV,hu]
  ·simp at h
 ·rename_i T m n es acc
  split at h
  ·rename_i e hu
   cases hn:Nat.beq n 0 with
   | true=>rw [hn] at h; simp at h
   | false=>
    rw [hn] at h;simp at h;subst h;have:=hy.r6; subst this;obtain ⟨_,bF,_,a,cap,rfl,_,hb,_⟩:=hx.pH;rcases hb with ⟨_,h0⟩ | ⟨b,off,r,rfl,_⟩
    ·subst h0; simp at hn
    ·simp [u5,mK,De,eqV,hu]
  ·simp at h
 ·rename_i T m n es acc
  split at h
  ·rename_i e hu
   cases hn:Nat.beq n 0 with
   | true=>rw [hn] at h; simp at h
   | false=>
    rw [hn] at h;simp at h;subst h;have:=hx.r6; subst this;obtain ⟨_,bF,_,a,cap,rfl,_,hb,_⟩:=hy.pH;rcases hb with ⟨_,h0⟩ | ⟨b,off,r,rfl,_⟩
    ·subst h0; simp at hn
    ·simp [u5,mK,De,eqV,hu]
  ·simp at h
 ·split at h
  ·rename_i e hu
   simp at h;subst h;have:=hx.Wz; subst this;have:=hy.Wz; subst this;simp [u5,mK,De,eqV,hu]
  ·simp at h
 ·split at h
  ·rename_i e hu
   simp at h;subst h;have:=hy.Wz; subst this;obtain ⟨x,_,rfl⟩:=hx.j8;simp [u5,mK,De,eqV,hu]
  ·simp at h
 ·split at h
  ·rename_i e hu
   simp at h;subst h;have:=hx.Wz; subst this;obtain ⟨x,_,rfl⟩:=hy.j8;simp [u5,mK,De,eqV,hu]
  ·simp at h
 ·simp at h
theorem auj {op:BinOp} {t:TypeId} {lit:Bool} : z6 P (asg P op t) (wz P op t lit):=by
 intro E vs us w h hg;unfold asg at hg;split at hg
 ·rename_i j a k b
  obtain ⟨x,y,rfl,h1,h2⟩:=h.nP;have:=h1.dP; subst this;have:=h2.dP; subst this;cases hs:amv op with
  | true=>
   rw [hs,ai] at hg;cases op <;> simp [amv] at hs
   ·obtain ⟨hc,rfl⟩:=bf.nF hg
    simp only [nz,decide_eq_false_iff_not] at hc;exact ⟨_,by simp [wz,binOp,Op.shift,hc,cE],.mkInt⟩
   ·obtain ⟨hc,rfl⟩:=bf.nF hg
    simp only [nz,decide_eq_false_iff_not] at hc;exact ⟨_,by simp [wz,binOp,Op.shift,hc,cE],.mkInt⟩
  | false=>
   rw [hs,aw] at hg;obtain ⟨hjk,hz⟩:=hg.cond;clear hg;simp only [lz] at hjk;subst hjk;cases op with
   | shl=>simp [amv] at hs
   | shr=>simp [amv] at hs
   | quo=>
    obtain ⟨hc,rfl⟩:=bf.nF hz;simp only [nz,decide_eq_false_iff_not] at hc;exact ⟨_,by simp [wz,binOp,Op.intDiv,hc,cE],.mkInt⟩
   | rem=>
    obtain ⟨hc,rfl⟩:=bf.nF hz;simp only [nz,decide_eq_false_iff_not] at hc;exact ⟨_,by simp [wz,binOp,Op.intDiv,hc,cE],.mkInt⟩
   | add=>have hz:KV.int _ _=w:=hz; subst hz; exact ⟨_,by simp [wz,binOp,Op.intArith,cE],.mkInt⟩
   | sub=>have hz:KV.int _ _=w:=hz; subst hz; exact ⟨_,by simp [wz,binOp,Op.intArith,cE],.mkInt⟩
   | mul=>have hz:KV.int _ _=w:=hz; subst hz; exact ⟨_,by simp [wz,binOp,Op.intArith,cE],.mkInt⟩
   | and=>have hz:KV.int _ _=w:=hz; subst hz; exact ⟨_,by simp [wz,binOp,Op.intBits,cE],.mkInt⟩
   | or=>have hz:KV.int _ _=w:=hz; subst hz; exact ⟨_,by simp [wz,binOp,Op.intBits,cE],.mkInt⟩
   | xor=>have hz:KV.int _ _=w:=hz; subst hz; exact ⟨_,by simp [wz,binOp,Op.intBits,cE],.mkInt⟩
   | andNot=>have hz:KV.int _ _=w:=hz; subst hz; exact ⟨_,by simp [wz,binOp,Op.intBits,cE],.mkInt⟩
   | eql=>have hz:KV.bool _=w:=hz; subst hz; exact ⟨_,by simp [wz,binOp,Op.intCmp,cE],.xW⟩
   | neq=>have hz:KV.bool _=w:=hz; subst hz; exact ⟨_,by simp [wz,binOp,Op.intCmp,cE],.xW⟩
   | lss=>have hz:KV.bool _=w:=hz; subst hz; exact ⟨_,by simp [wz,binOp,Op.intCmp,cE],.xW⟩
   | leq=>have hz:KV.bool _=w:=hz; subst hz; exact ⟨_,by simp [wz,binOp,Op.intCmp,cE],.xW⟩
   | gtr=>have hz:KV.bool _=w:=hz; subst hz; exact ⟨_,by simp [wz,binOp,Op.intCmp,cE],.xW⟩
   | geq=>have hz:KV.bool _=w:=hz; subst hz; exact ⟨_,by simp [wz,binOp,Op.intCmp,cE],.xW⟩
 ·rename_i a b
  obtain ⟨x,y,rfl,h1,h2⟩:=h.nP;have:=h1.wL; subst this;have:=h2.wL; subst this;split at hg
  ·have hg:KV.bool _=w:=hg; subst hg; exact ⟨_,by simp [wz,binOp,Op.stringOp,cE],.xW⟩
  ·have hg:KV.bool _=w:=hg; subst hg; exact ⟨_,by simp [wz,binOp,Op.stringOp,cE],.xW⟩
  ·have hg:KV.bool _=w:=hg; subst hg; exact ⟨_,by simp [wz,binOp,Op.stringOp,cE],.xW⟩
  ·obtain ⟨hc,rfl⟩:=bf.nF hg
   have hc:=gD hc;have hn : ¬ (((a.size+b.size:Nat):Int) > IntKind.i64.max):=by
    have:IntKind.i64.max=9223372036854775807:=by decide
    rw [this]; omega
   refine ⟨.string (a++b),?_,.mkStr⟩;simp only [wz,binOp,Op.stringOp];rw [aB hn];rfl
  ·exact hg.elim
 ·rename_i x y hn1 hn2
  obtain ⟨u,v,rfl,h1,h2⟩:=h.nP;split at hg
  ·rename_i b he
   have hg:KV.bool b=w:=hg;subst hg;have:=amL (lit:=lit) h1 h2 he;refine ⟨.bool b,?_,.xW⟩;unfold wz;split
   ·rename_i e; simp at e; obtain ⟨rfl,rfl⟩:=e; simp [u5,mK] at this
   ·rename_i e; simp at e; obtain ⟨rfl,rfl⟩:=e; simp [u5,mK] at this
   ·rename_i e; simp at e; obtain ⟨rfl,rfl⟩:=e; simp [this]
   ·rename_i e; exact absurd rfl (e _ _)
  ·rename_i b he
   have hg:KV.bool (!b)=w:=hg;subst hg;have:=amL (lit:=lit) h1 h2 he;refine ⟨.bool !b,?_,.xW⟩;unfold wz;split
   ·rename_i e; simp at e; obtain ⟨rfl,rfl⟩:=e; simp [u5,mK] at this
   ·rename_i e; simp at e; obtain ⟨rfl,rfl⟩:=e; simp [u5,mK] at this
   ·rename_i e; simp at e; obtain ⟨rfl,rfl⟩:=e; simp [this]
   ·rename_i e; exact absurd rfl (e _ _)
  ·exact hg.elim
 ·exact hg.elim
theorem avD {op:UnOp} : z6 P (kUn op) (fUn P op):=by
 intro E vs us w h hg;unfold kUn at hg;split at hg
 ·rename_i b
  obtain ⟨y,rfl,h1⟩:=h.gi;have:=h1.hO; subst this;split at hg
  ·have hg:KV.bool (!b)=w:=hg
   subst hg;exact ⟨_,by simp [fUn,Op.unary,cE],.xW⟩
  ·exact hg.elim
 ·rename_i k n
  obtain ⟨y,rfl,h1⟩:=h.gi;have:=h1.dP; subst this;split at hg
  ·have hg:KV.int _ _=w:=hg
   subst hg;exact ⟨.int k (k.wrap (0 - n)),by simp [fUn,Op.unary,Op.intArith,cE],.mkInt⟩
  ·have hg:KV.int _ _=w:=hg
   subst hg;exact ⟨_,by simp [fUn,Op.unary,Op.intBits,cE],.mkInt⟩
  ·exact hg.elim
 ·exact hg.elim
theorem agS {mx:Bool} : z6 P (Py mx) (Q8 P fun vs=>cond mx (Builtin.max_ #[] 0 ⟨vs⟩) (Builtin.min_ #[] 0 ⟨vs⟩)):=by
 intro E vs us w h hg;unfold Py at hg;split at hg
 ·rename_i j a k b
  obtain ⟨x,y,rfl,h1,h2⟩:=h.nP;have:=h1.dP; subst this;have:=h2.dP; subst this;obtain ⟨hjk,hz⟩:=hg.cond;clear hg;simp only [lz] at hjk;subst hjk;have hz:KV.int _ _=w:=hz;subst hz;refine ⟨_,?_,.mkInt⟩;cases mx
  ·simp [Q8,zO,flat,Builtin.min_,Builtin.min2,cE]
   omega
  ·simp [Q8,zO,flat,Builtin.max_,Builtin.max2,cE]
   omega
 ·rename_i j a k b l c
  obtain ⟨x,y,z,rfl,h1,h2,h3⟩:=h.YK;have:=h1.dP; subst this;have:=h2.dP; subst this;have:=h3.dP; subst this;obtain ⟨hjk,hz⟩:=hg.cond;clear hg;simp only [aD,lz] at hjk;obtain ⟨rfl,rfl⟩:=hjk;have hz:KV.int _ _=w:=hz;subst hz;refine ⟨_,?_,.mkInt⟩;cases mx
  ·show some (Value.int j (if c < (if b < a then b else a) then c else (if b < a then b else a)))=some (Value.int j (min (min a b) c))
   congr 2;split <;> split at * <;> omega
  ·show some (Value.int j (if c > (if b > a then b else a) then c else (if b > a then b else a)))=some (Value.int j (max (max a b) c))
   congr 2;split <;> split at * <;> omega
 ·exact hg.elim
end Go.K
end
section
namespace Go.K
open Go Go.aE
variable {P:Program} {E:Env}
theorem AR.of {E' : Env} {A A' : aC} {x:Nat} (ve:∀ b,E'.α b=E.α b) (ha:∀ b v,A'.get b=some (.arr v)->A.get b=some (.arr v)) (h:AR A' E' x):AR A E x:=by
 obtain ⟨b,v,L,N,h1,h2⟩:=h;exact ⟨b,v,L,N,ha _ _ h1,by rw [<- ve]; exact h2⟩
theorem AF.of {E' : Env} {A A' : aC} {B B' : St} {g:Nat} (ve:∀ b,E'.α b=E.α b) (ha:∀ b v,A'.get b=some (.arr v)->A.get b=some (.arr v)) (hB:∀ x,AR A E x->B'.get x=B.get x) (h:AF A' E' B' g):AF A E B g:=by
 obtain ⟨b,v,x,L,N,cs,e,own,k,h1,h2,h3⟩:=h;have Lg:E.α b=some (x,L,N):=by rw [<- ve]; exact h2
 exact ⟨b,v,x,L,N,cs,e,own,k,ha _ _ h1,Lg,by rw [<- hB x ⟨b,v,L,N,ha _ _ h1,Lg⟩]; exact h3⟩
theorem AT.of {E' : Env} {A A' : aC} {B B' : St} {y:Nat} (ve:∀ b,E'.α b=E.α b) (ha:∀ b v,A'.get b=some (.arr v)->A.get b=some (.arr v)) (hB:∀ x,AR A E x->B'.get x=B.get x) (hm:∀ g,AF A E B g->B'.members g=B.members g) (h:AT A' E' B' y):AT A E B y:=by
 rcases h with h | ⟨g,h1,h2⟩
 ·exact .inl (h.of ve ha)
 ·have:=h1.of ve ha hB
  exact .inr ⟨g,this,by rw [<- hm g this]; exact h2⟩
theorem qF {B B' : St} (h:∀ x,x < B.next->B'.get x=B.get x):∀ y,y < B.next->∀ cs e own bV,B'.get y=some (.row cs e own bV)->∃ pz,B.get y=some (.row pz e own bV)/\pz.length=cs.length:=
 fun y hy cs _ _ _ q=>⟨cs,by rw [<- h y hy]; exact q,rfl⟩
theorem agT {B:St} {o:dr} : ∀ x,x < B.next->(B.new o).get x=B.get x:=fun x hx=>by rw [St.dN,aB (by omega)]
theorem Rx.pB {E' : Env} {A A' : aC} {B B' : St} (h:Rx P E A B) (hle:E.le E') (ve:∀ b,E'.α b=E.α b) (ha:∀ b v,A'.get b=some (.arr v)->A.get b=some (.arr v)) (hf:∀ b v,A'.get b=some (.lR v)->A.get b=some (.lR v))
  (hn:A.next<=A'.next) (W4:B.next<=B'.next) (hB:∀ x,AR A E x->B'.get x=B.get x) (hz:∀ b r,E'.z b=some r->E.z b=some r\/B.next<=b) (MW:∀ b x,E'.κ b=some x->E.κ b=some x\/(A.next<=b/\B.next<=x))
  (Ot:∀ b g,E'.φ b=some g->(∃ c,E.φ c=some g)\/B.next<=g) (hm:∀ g,AF A E B g->B'.members g=B.members g) (mem:∀ g x,x∈B.members g->x < B.next):Rx P E' A' B' where
 arr b v hb:=(h.arr b v (ha _ _ hb)).mono hle (ve b) fun x L N e=>hB x ⟨b,v,L,N,ha _ _ hb,e⟩
 lR b v hb:=(h.lR b v (hf _ _ hb)).mono hle (ve b)
 z x hx:=by
  have hx':=AR.of ve ha hx;obtain ⟨b,v,L,N,h1,h2⟩:=hx';have bu:=h.jc _ _ _ _ h2;obtain ⟨h3,h4⟩:=h.z x (AR.of ve ha hx);refine ⟨?_,fun c e=>?_⟩
  ·cases hz' : E'.z x with
   | none=>rfl
   | some r=>
    rcases hz x r hz' with e | e
    ·rw [h3] at e; simp at e
    ·omega
  ·rcases MW c x e with e | ⟨_,e⟩
   ·exact h4 c e
   ·omega
 inj b c v u x L N L' N' h1 h2 h3 h4:=h.inj b c v u x L N L' N' (ha _ _ h1) (ha _ _ h2) (by rw [<- ve]; exact h3) (by rw [<- ve]; exact h4)
 zj b c v u x y L N L' N' cs e own g k ck e' tP k' h1 h2 h3 h4 h5 h6:=by
  rw [ve] at h3 h4;rw [hB x ⟨b,v,L,N,ha _ _ h1,h3⟩] at h5;rw [hB y ⟨c,u,L',N',ha _ _ h2,h4⟩] at h6;exact h.zj b c v u x y L N L' N' cs e own g k ck e' tP k' (ha _ _ h1) (ha _ _ h2) h3 h4 h5 h6
 dis b x e:=by
  rw [ve];rcases MW b x e with e | ⟨e,_⟩
  ·exact h.dis b x e
  ·cases hb:E.α b with
   | none=>rfl
   | some p=>have:=h.ow b p hb; omega
 nk b v hb:=by
  obtain ⟨h1,h2⟩:=h.nk b v (ha _ _ hb);refine ⟨u3 h1 hn,?_⟩;cases e:E'.κ b with
  | none=>rfl
  | some x=>
   rcases MW b x e with e | ⟨e,_⟩
   ·rw [h2] at e; simp at e
   ·omega
 ow b p e:=by rw [ve] at e; have:=h.ow b p e; omega
 jc b x L N e:=by rw [ve] at e; have:=h.jc b x L N e; omega
 xG b v x L N cs e own g k h1 h2 h3:=by
  rw [ve] at h2;have hA:=ha _ _ h1;rw [hB x ⟨b,v,L,N,hA,h2⟩] at h3;obtain ⟨h4,h5,h6⟩:=h.xG b v x L N cs e own g k hA h2 h3;refine ⟨by omega,fun f e=>?_,fun y hy eU=>?_⟩
  ·rcases Ot f g e with ⟨c,e⟩ | e
   ·exact h5 c e
   ·omega
  ·rw [hm g ⟨b,v,x,L,N,cs,_,own,k,hA,h2,h3⟩] at hy
   have bu:=mem g y hy;obtain ⟨h7,h8,h9⟩:=h6 y hy eU;refine ⟨?_,fun q=>h8 (AR.of ve ha q),fun c e=>?_⟩
   ·cases hz' : E'.z y with
    | none=>rfl
    | some r=>
     rcases hz y r hz' with e | e
     ·rw [h7] at e; simp at e
     ·omega
   ·rcases MW c y e with e | ⟨_,e⟩
    ·exact h9 c e
    ·omega
theorem gU.Nh {A:aC} {B:St} (h:gU P E A B) {x:Nat} (q:AR A E x):x < B.next:=by
 obtain ⟨b,v,L,N,_,h2⟩:=q;exact h.ar.jc _ _ _ _ h2
structure eT (P:Program) (E:Env) (A:aC) (B:St) (E' : Env) (A' : aC) (B' : St):Prop where
 kW:gU P E' A' B'
 le:E.le E'
 next:A.next<=A'.next
 pB:∀ x,x < B.next->(∀ b,E.κ b≠some x)->¬ AT A E B x->B'.get x=B.get x
 new:∀ b x,E'.κ b=some x->E.κ b=some x\/B.next<=x
 yw:∀ b r,E'.z b=some r->E.z b=some r\/AR A E b\/B.next<=b
 yx:∀ b g,E'.φ b=some g->E.φ b=some g\/B.next<=g
 uH:∀ g,g < B.next->(∀ b,E.φ b≠some g)->¬ AF A E B g->B'.members g=B.members g
 qo:∀ x,AR A' E' x->AR A E x\/B.next<=x
 qE:∀ g,AF A' E' B' g->AF A E B g\/B.next<=g
 zZ:∀ g y,y∈B'.members g->y∈B.members g\/B.next<=y
 r7:∀ y,AT A' E' B' y->AT A E B y\/B.next<=y
 rows:∀ y,y < B.next->∀ cs e own bV,B'.get y=some (.row cs e own bV)->∃ pz,B.get y=some (.row pz e own bV)/\pz.length=cs.length
theorem eT.ev {base:Nat} {E' : Env} {A A' : aC} {B B' : St} {ρ ba:a9} {w w' : World} (h:eT P E A B E' A' B') (g:pk base ρ B w ba B' w'):Ev P base E A B ρ w E' A' B' ba w':=
 ⟨h.kW,g,h.le,h.next,h.pB,h.new,h.yw,fun b g e=>(h.yx b g e).imp (fun e=>⟨b,e⟩) id,h.uH,h.qo,h.qE,h.zZ,h.r7,h.rows⟩
def Ou (P:Program) (o:Oper):vd->Prop
 | .pure f xs=>∀ (E:Env) (ρ:a9) (ev:Operand->KV) (da:Operand->Value) (v:KV),(∀ x∈xs,VC P E ρ (ev x) (da x))->bf (f (xs.map ev)) v->∃ v',VC P E ρ v v'/\∀ w,(execOp da o).run P w = .ok (.value v') w
 | .read f xs=>∀ (E:Env) (A:aC) (B:St) (ρ:a9) (base:Nat) (w:World) (ev:Operand->KV) (da:Operand->Value) (v:KV),KJ P E A B ρ base w->(∀ x∈xs,VC P E ρ (ev x) (da x))->bf (f A (xs.map ev)) v->
   ∃ v',VC P E ρ v v'/\(execOp da o).run P w = .ok (.value v') w
 | .look f xs=>∀ (E:Env) (A:aC) (B:St) (ρ:a9) (base:Nat) (w:World) (ev:Operand->KV) (da:Operand->Value) (v:KV),KJ P E A B ρ base w->(∀ x∈xs,VC P E ρ (ev x) (da x))->bf (f (xs.map ev)) v->
   ∃ E' B' ba v' nx w',(execOp da o).run P w = .ok nx w'/\aos v' nx/\VC P E' ba v v'/\Ev P base E A B ρ w E' A B' ba w'
 | .act f xs=>∀ (E:Env) (A A' : aC) (B:St) (ρ:a9) (base:Nat) (w:World) (ev:Operand->KV) (da:Operand->Value) (v:KV),KJ P E A B ρ base w->(∀ x∈xs,VC P E ρ (ev x) (da x))->bf (f A (xs.map ev)) (v,A')->
   ∃ E' B' ba v' nx w',(execOp da o).run P w = .ok nx w'/\aos v' nx/\VC P E' ba v v'/\Ev P base E A B ρ w E' A' B' ba w'
 | _=>True
theorem cI {ρ:a9} {ev:Operand->KV} {da:Operand->Value} {xs:List Operand} (h:∀ x∈xs,VC P E ρ (ev x) (da x)) :
  ∃ em:Operand->Value,bp P E (xs.map ev) (xs.map em)/\B5 ρ em da xs:=by
 classical
 refine ⟨fun x=>if hx:VC P E ρ (ev x) (da x) then hx.choose else undef,?_,?_⟩
 ·induction xs with
  | nil=>exact .nil
  | cons x xs ih=>
   refine .cons ?_ (ih fun y hy=>h y (by simp [hy]));have hx:=h x (by simp);simp only [dif_pos hx];exact hx.choose_spec.1
 ·intro x hx
  have hx:=h x hx;simp only [dif_pos hx];exact hx.choose_spec.2
theorem lift_pure {o:Oper} {f:FP} {g:List Value->Option Value} {xs:List Operand} (hc:compile P o.op = .pure g xs) (hs:z6 P f g):Ou P o (.pure f xs):=by
 intro E ρ ev da v hv hg;obtain ⟨em,h1,h2⟩:=cI hv;obtain ⟨u,h3,h4⟩:=hs E _ _ v h1 hg;have cm:=u7 P o;rw [hc] at cm;obtain ⟨v',h5,h6⟩:=cm ρ em da u h2 h3;exact ⟨v',⟨u,h4,h5⟩,h6⟩
def amM (P:Program) (f:FR) (g:St->List Value->Option Value):Prop:=
 ∀ (E:Env) (A:aC) (B:St) (vs:List KV) (us:List Value) (v:KV),gU P E A B->bp P E vs us->bf (f A vs) v->∃ u,g B us=some u/\VK P E v u
theorem RA {o:Oper} {f:FR} {g:St->List Value->Option Value} {xs:List Operand} (hc:compile P o.op = .read g xs) (hs:amM P f g):Ou P o (.read f xs):=by
 intro E A B ρ base w ev da v hj hv hg;obtain ⟨em,h1,h2⟩:=cI hv;obtain ⟨u,h3,h4⟩:=hs E A B _ _ v hj.k h1 hg;have cm:=u7 P o;rw [hc] at cm;obtain ⟨v',h5,h6⟩:=cm ρ B base w em da u hj.s.rel h2 h3;exact ⟨v',⟨u,h4,h5⟩,h6⟩
def apZ (P:Program) (f:FA) (g:St->List Value->Option (Value×St)):Prop:=
 ∀ (E:Env) (A A' : aC) (B:St) (vs:List KV) (us:List Value) (v:KV),gU P E A B->bp P E vs us->bf (f A vs) (v,A')->∃ u B' E',g B us=some (u,B')/\VK P E' v u/\eT P E A B E' A' B'
theorem acm {o:Oper} {f:FA} {g:St->List Value->Option (Value×St)} {xs:List Operand} (hc:compile P o.op = .act g xs) (hs:apZ P f g):Ou P o (.act f xs):=by
 intro E A A' B ρ base w ev da v hj hv hg;obtain ⟨em,h1,h2⟩:=cI hv;obtain ⟨u,B',E',h3,h4,h5⟩:=hs E A A' B _ _ v hj.k h1 hg;have cm:=u7 P o;rw [hc] at cm;obtain ⟨ba,v',nx,w',h6,h7,h8,h9⟩:=cm ρ B B' base w em da u hj.s h2 h3;exact ⟨E',B',ba,v',nx,w',h6,h7,⟨u,h4,h8⟩,h5.ev h9⟩
def auZ (P:Program) (f:FP) (g:St->List Value->Option (Value×St)):Prop:=
 ∀ (E:Env) (A:aC) (B:St) (vs:List KV) (us:List Value) (v:KV),gU P E A B->bp P E vs us->bf (f vs) v->∃ u B' E',g B us=some (u,B')/\VK P E' v u/\eT P E A B E' A B'
theorem aoH {o:Oper} {f:FP} {g:St->List Value->Option (Value×St)} {xs:List Operand} (hc:compile P o.op = .act g xs) (hs:auZ P f g):Ou P o (.look f xs):=by
 intro E A B ρ base w ev da v hj hv hg;obtain ⟨em,h1,h2⟩:=cI hv;obtain ⟨u,B',E',h3,h4,h5⟩:=hs E A B _ _ v hj.k h1 hg;have cm:=u7 P o;rw [hc] at cm;obtain ⟨ba,v',nx,w',h6,h7,h8,h9⟩:=cm ρ B B' base w em da u hj.s h2 h3;exact ⟨E',B',ba,v',nx,w',h6,h7,⟨u,h4,h8⟩,h5.ev h9⟩
theorem acn {o:Oper} {g:List Value->Option (dr×(Nat->Value))} {xs:List Operand} (hc:compile P o.op = .make g xs) {ρ:a9} {B:St} {base:Nat} {w:World} {em da:Operand->Value} {obj:dr} {mk:Nat->Value} (hs:zR ρ B base w)
  (h2:B5 ρ em da xs) (h3:g (xs.map em)=some (obj,mk)):∃ ba v' w',(execOp da o).run P w = .ok (.value v') w'/\VR ba (mk B.next) v'/\pk base ρ B w ba (B.new obj) w':=by
 have cm:=u7 P o;rw [hc] at cm;obtain ⟨c,mk',h4,h5,h6⟩:=cm ρ em da obj mk h2 h3;exact ⟨_,_,_,h5 w,h6 _ _ _ (a9.uM _ _ _),h4.gX hs⟩
def ajZ (P:Program) (f:FA) (g:List Value->Option (dr×(Nat->Value))):Prop:=
 ∀ (E:Env) (A A' : aC) (B:St) (vs:List KV) (us:List Value) (v:KV),gU P E A B->bp P E vs us->bf (f A vs) (v,A')->∃ obj mk E',g us=some (obj,mk)/\VK P E' v (mk B.next)/\eT P E A B E' A' (B.new obj)
theorem Lr {o:Oper} {f:FA} {g:List Value->Option (dr×(Nat->Value))} {xs:List Operand} (hc:compile P o.op = .make g xs) (hs:ajZ P f g):Ou P o (.act f xs):=by
 intro E A A' B ρ base w ev da v hj hv hg;obtain ⟨em,h1,h2⟩:=cI hv;obtain ⟨obj,mk,E',h3,h4,h5⟩:=hs E A A' B _ _ v hj.k h1 hg;obtain ⟨ba,v',w',h6,h7,h8⟩:=acn hc hj.s h2 h3;exact ⟨E',B.new obj,ba,v',_,w',h6,rfl,⟨_,h4,h7⟩,h5.ev h8⟩
def asn (P:Program) (f:FP) (g:List Value->Option (dr×(Nat->Value))):Prop:=
 ∀ (E:Env) (A:aC) (B:St) (vs:List KV) (us:List Value) (v:KV),gU P E A B->bp P E vs us->bf (f vs) v->∃ obj mk E',g us=some (obj,mk)/\VK P E' v (mk B.next)/\eT P E A B E' A (B.new obj)
theorem aj0 {o:Oper} {f:FP} {g:List Value->Option (dr×(Nat->Value))} {xs:List Operand} (hc:compile P o.op = .make g xs) (hs:asn P f g):Ou P o (.look f xs):=by
 intro E A B ρ base w ev da v hj hv hg;obtain ⟨em,h1,h2⟩:=cI hv;obtain ⟨obj,mk,E',h3,h4,h5⟩:=hs E A B _ _ v hj.k h1 hg;obtain ⟨ba,v',w',h6,h7,h8⟩:=acn hc hj.s h2 h3;exact ⟨E',B.new obj,ba,v',_,w',h6,rfl,⟨_,h4,h7⟩,h5.ev h8⟩
def Env.oG (E:Env) (b x:Nat):Env:={ E with κ:=fun c=>if c=b then some x else E.κ c }
def Env.ir (E:Env) (b:Nat) (r:amC):Env:={ E with z:=fun c=>if c=b then some r else E.z c }
def Env.wN (E:Env) (b g:Nat):Env:={ E with φ:=fun c=>if c=b then some g else E.φ c }
theorem eT.newRow {A:aC} {B:St} {cs:List KV} {ck:List Value} {ca:Nat} (h:gU P E A B) (hv:bp P E cs ck):eT P E A B (E.oG A.next B.next) (A.new (.row cs ca)) (B.new (.row ck ca true none)):=by
 have hle:E.le (E.oG A.next B.next):=⟨fun _ _ e=>e,fun b x e=>by
  have:=h.ow b x e;simp only [Env.oG]; rw [aB (by omega)]; exact e,fun _ _ e=>e,fun _ _ e=>e⟩
 have hA:∀ (b:Nat) (v:KV),(A.new (.row cs ca)).get b=some (.arr v)->A.get b=some (.arr v):=fun b v hb=>by
  rw [aC.dN] at hb;split at hb
  ·simp at hb
  ·exact hb
 have hfz:∀ (b:Nat) (v:KV),(A.new (.row cs ca)).get b=some (.lR v)->A.get b=some (.lR v):=fun b v hb=>by
  rw [aC.dN] at hb;split at hb
  ·simp at hb
  ·exact hb
 have DE:∀ x,AR A E x->(B.new (.row ck ca true none)).get x=B.get x:=fun x q=>by have:=h.Nh q; rw [St.dN,aB (by omega)]
 refine ⟨⟨?_,?_,?_,?_,?_,?_,?_,?_,?_,?_,?_,?_,?_,?_,h.ar.pB hle (fun _=>rfl) hA hfz (by simp) (by simp) DE (fun _ _ e=>.inl e) (fun b x e=>?_) (fun b g e=>.inl ⟨b,e⟩) (fun _ _=>by simp) h.mem⟩,hle,by simp,?_,?_,fun _ _ e=>.inl e,fun _ _ e=>.inl e,fun _ _ _ _=>by simp,fun _ q=>.inl (q.of (fun _=>rfl) hA),fun _ q=>.inl (q.of (fun _=>rfl) hA DE),fun _ _ q=>.inl (by simpa using q),fun _ q=>.inl (q.of (fun _=>rfl) hA DE fun _ _=>by simp),qF agT⟩
 ·intro b pz UA hb
  rw [aC.dN] at hb;split at hb
  ·rename_i e
   simp at hb;obtain ⟨rfl,rfl⟩:=hb;exact ⟨B.next,ck,by simp [Env.oG,e],by simp,hv.mono hle⟩
  ·obtain ⟨x,c,h1,h2,h3⟩:=h.row b pz UA hb
   have:=h.jc b x h1;exact ⟨x,c,hle.κ _ _ h1,by rw [St.dN,aB (by omega)]; exact h2,h3.mono hle⟩
 ·intro b top Ls hb
  rw [aC.dN] at hb;split at hb
  ·simp at hb
  ·rcases h.bm b top Ls hb with h1 | ⟨g,h1,hp0,h2⟩
   ·exact .inl h1
   ·refine .inr ⟨g,h1,hp0,fun x hx c e own f k hg=>?_⟩
    rw [St.dN] at hg;split at hg
    ·simp at hg
    ·exact h2 x (by simpa using hx) c e own f k hg
 ·intro b r hb
  have:=h.qX b r hb;rw [St.dN,aB (by omega)];exact h.z b r hb
 ·intro b x hb
  simp only [Env.oG] at hb ⊢;split at hb
  ·simp at hb
   subst hb;cases hz:E.z B.next with
   | none=>rfl
   | some r=>have:=h.qX _ r hz; omega
  ·exact h.apart b x hb
 ·intro b c x hb hc
  simp only [Env.oG] at hb hc;split at hb <;> split at hc
  ·omega
  ·simp at hb; subst hb; have:=h.jc c _ hc; omega
  ·simp at hc; subst hc; have:=h.jc b _ hb; omega
  ·exact h.inj b c x hb hc
 ·exact Kp.new (E:=E.oG A.next B.next) (fun x y g a b c d e f hx hy=>h.lT x y g a b c d e f hx hy) (.inl fun _ _=>by simp)
 ·intro b x hb
  simp only [Env.oG] at hb;rw [aC.cB];split at hb
  ·omega
  ·have:=h.ow b x hb; omega
 ·intro b g hb; have:=h.qD b g hb; rw [aC.cB]; omega
 ·intro b o hb
  rw [aC.dN] at hb;rw [aC.cB];split at hb
  ·omega
  ·have:=h.live b o hb; omega
 ·intro b x hb
  simp only [Env.oG] at hb;rw [St.cB];split at hb
  ·simp at hb; omega
  ·have:=h.jc b x hb; omega
 ·intro b r hb; have:=h.qX b r hb; rw [St.cB]; omega
 ·intro b g hb; have:=h.mL b g hb; rw [St.cB]; omega
 ·intro g hg; rw [St.cB] at hg; rw [St.n3]; exact h.fresh g (by omega)
 ·intro g x hx; rw [St.n3] at hx; rw [St.cB]; have:=h.mem g x hx; omega
 ·simp only [Env.oG] at e
  split at e
  ·simp at e; exact .inr (by omega)
  ·exact .inl e
 ·intro x hx _ _; rw [St.dN,aB (by omega)]
 ·intro b x hb
  simp only [Env.oG] at hb;split at hb
  ·simp at hb; exact .inr (by omega)
  ·exact .inl hb
theorem eT.ap0 {A:aC} {B:St} {ck:List Value} {ca:Nat} (h:gU P E A B):eT P E A B (E.ir B.next ⟨ck,ca,true,none⟩) A (B.new (.row ck ca true none)):=by
 have hle:E.le (E.ir B.next ⟨ck,ca,true,none⟩):=⟨fun _ _ e=>e,fun _ _ e=>e,fun b r e=>by
  have:=h.qX b r e;simp only [Env.ir]; rw [aB (by omega)]; exact e,fun _ _ e=>e⟩
 have DE:∀ x,AR A E x->(B.new (.row ck ca true none)).get x=B.get x:=fun x q=>by have:=h.Nh q; rw [St.dN,aB (by omega)]
 have MX:∀ b r,(E.ir B.next ⟨ck,ca,true,none⟩).z b=some r->E.z b=some r\/B.next<=b:=fun b r e=>by
  simp only [Env.ir] at e;split at e
  ·exact .inr (by omega)
  ·exact .inl e
 refine ⟨⟨?_,?_,?_,?_,?_,?_,?_,?_,?_,?_,?_,?_,?_,?_,h.ar.pB hle (fun _=>rfl) (fun _ _ e=>e) (fun _ _ e=>e) (aX _) (by simp) DE MX (fun _ _ e=>.inl e) (fun b g e=>.inl ⟨b,e⟩) (fun _ _=>by simp) h.mem⟩,hle,aX _,?_,?_,fun b r e=>(MX b r e).imp id .inr,fun _ _ e=>.inl e,fun _ _ _ _=>by simp,fun _ q=>.inl q,fun _ q=>.inl (q.of (fun _=>rfl) (fun _ _ e=>e) DE),fun _ _ q=>.inl (by simpa using q),fun _ q=>.inl (q.of (fun _=>rfl) (fun _ _ e=>e) DE fun _ _=>by simp),qF agT⟩
 ·intro b pz UA hb
  obtain ⟨x,c,h1,h2,h3⟩:=h.row b pz UA hb;have:=h.jc b x h1;exact ⟨x,c,hle.κ _ _ h1,by rw [St.dN,aB (by omega)]; exact h2,h3.mono hle⟩
 ·intro b top Ls hb
  rcases h.bm b top Ls hb with h1 | ⟨g,h1,hp0,h2⟩
  ·exact .inl h1
  ·refine .inr ⟨g,h1,hp0,fun x hx c e own f k hg=>?_⟩
   rw [St.dN] at hg;split at hg
   ·simp at hg
   ·exact h2 x (by simpa using hx) c e own f k hg
 ·intro b r hb
  simp only [Env.ir] at hb;split at hb
  ·rename_i e
   simp at hb;subst hb e;simp
  ·have:=h.qX b r hb
   rw [St.dN,aB (by omega)];exact h.z b r hb
 ·intro b x hb
  have:=h.jc b x hb;simp only [Env.ir];rw [aB (by omega)];exact h.apart b x hb
 ·exact h.inj
 ·exact h.lT
 ·exact h.ow
 ·exact h.qD
 ·exact h.live
 ·intro b x hb; have:=h.jc b x hb; rw [St.cB]; omega
 ·intro b r hb
  simp only [Env.ir] at hb;rw [St.cB];split at hb
  ·omega
  ·have:=h.qX b r hb; omega
 ·intro b g hb; have:=h.mL b g hb; rw [St.cB]; omega
 ·intro g hg; rw [St.cB] at hg; rw [St.n3]; exact h.fresh g (by omega)
 ·intro g x hx; rw [St.n3] at hx; rw [St.cB]; have:=h.mem g x hx; omega
 ·intro x hx _ _; rw [St.dN,aB (by omega)]
 ·intro b x hb; exact .inl hb
theorem eT.auk {A:aC} {B:St} {b x ca:Nat} {cs:List KV} {ck:List Value} (h:gU P E A B) (hb:∃ pz e,A.get b=some (.row pz e)) (hx:E.κ b=some x) (hold:∃ pz,B.get x=some (.row pz ca true none)/\pz.length=ck.length) (hv:bp P E cs ck):eT P E A B E (A.put b (.row cs ca)) (B.put x (.row ck ca true none)):=by
 have hA:∀ (c:Nat) (v:KV),(A.put b (.row cs ca)).get c=some (.arr v)->A.get c=some (.arr v):=fun c v hb=>by
  rw [aC.cn] at hb;split at hb
  ·simp at hb
  ·exact hb
 have hfz:∀ (c:Nat) (v:KV),(A.put b (.row cs ca)).get c=some (.lR v)->A.get c=some (.lR v):=fun c v hb=>by
  rw [aC.cn] at hb;split at hb
  ·simp at hb
  ·exact hb
 have DE:∀ y,AR A E y->(B.put x (.row ck ca true none)).get y=B.get y:=fun y q=>by
  rw [St.cn,aB];intro e;subst e;exact (h.ar.z _ q).2 b hx
 refine ⟨⟨?_,?_,?_,h.apart,h.inj,h.lT.put (.inl fun _ _=>by simp),h.ow,h.qD,?_,h.jc,h.qX,h.mL,?_,?_,h.ar.pB (Env.le_refl _) (fun _=>rfl) hA hfz (aX _) (aX _) DE (fun _ _ e=>.inl e) (fun _ _ e=>.inl e) (fun b g e=>.inl ⟨b,e⟩) (fun _ _=>by simp) h.mem⟩,Env.le_refl _,aX _,?_,fun _ _ e=>.inl e,fun _ _ e=>.inl e,fun _ _ e=>.inl e,fun _ _ _ _=>by simp,fun _ q=>.inl (q.of (fun _=>rfl) hA),fun _ q=>.inl (q.of (fun _=>rfl) hA DE),fun _ _ q=>.inl (by simpa using q),fun _ q=>.inl (q.of (fun _=>rfl) hA DE fun _ _=>by simp),fun y _ c e own bV q=>by
  rw [St.cn] at q;split at q
  ·rename_i e2
   simp at q;obtain ⟨rfl,rfl,rfl,rfl⟩:=q;obtain ⟨c0,h1,h2⟩:=hold;exact ⟨c0,by rw [e2]; exact h1,h2⟩
  ·exact ⟨c,q,rfl⟩⟩
 ·intro c pz UA hc
  rw [aC.cn] at hc;split at hc
  ·rename_i e
   simp at hc;obtain ⟨rfl,rfl⟩:=hc;exact ⟨x,ck,by rw [e]; exact hx,by simp,hv⟩
  ·rename_i eU
   obtain ⟨y,d,h1,h2,h3⟩:=h.row c pz UA hc;refine ⟨y,d,h1,?_,h3⟩;rw [St.cn,aB (fun e=>eU (h.inj c b x (by rw [<- e]; exact h1) hx))];exact h2
 ·intro c top Ls hc
  rw [aC.cn] at hc;split at hc
  ·simp at hc
  ·rcases h.bm c top Ls hc with h1 | ⟨g,h1,hp0,h2⟩
   ·exact .inl h1
   ·refine .inr ⟨g,h1,hp0,fun y hy d e own f k hg=>?_⟩
    rw [St.cn] at hg;split at hg
    ·simp at hg
    ·exact h2 y (by simpa using hy) d e own f k hg
 ·intro c r hc
  rw [St.cn,aB]
  ·exact h.z c r hc
  ·intro e
   have:=h.apart b x hx;rw [<- e,hc] at this;simp at this
 ·intro c o hc
  rw [aC.cn] at hc;rw [aC.wC];split at hc
  ·rename_i e
   obtain ⟨pz,e0,hb⟩:=hb;rw [e]; exact h.live b _ hb
  ·exact h.live c o hc
 ·intro g hg; rw [St.xO]; exact h.fresh g hg
 ·intro g y hy; rw [St.xO] at hy; exact h.mem g y hy
 ·intro y hy hn _
  rw [St.cn,aB (fun e=>hn b (by rw [e]; exact hx))]
theorem aul {n:Nat} : ajZ P (Iu n) (amh n):=by
 intro E A A' B vs us v h hv hg;unfold Iu at hg;split at hg
 ·rename_i x
  obtain ⟨y,rfl,h1⟩:=hv.gi;obtain ⟨ho,hg⟩:=hg.cond;have hg:(KV.ptr A.next 0,A.new (.row x.cells n))=(v,A'):=hg;simp only [gF] at hg;obtain ⟨rfl,rfl⟩:=hg;have hc:=h1.cells (CR ho);have hsc:y.cells.toList.all scalar=true:=im.2 (hc.scalar ho);exact ⟨Kk n y,K9,E.oG A.next B.next,by simp [amh,hsc],.DA (by simp [Env.oG]),eT.newRow h hc⟩
 ·exact hg.elim
theorem aqY {t:TypeId} {z:Value} (hz:sF P t=some z) (hf:flat z=true) (hsc:z.cells.toList.all scalar=true) (ho:jv (iU z).cells=true):ajZ P (adV (rv P t) (iU z).cells) (Q5 P t):=by
 intro E A A' B vs us v h hv hg;have hg:(KV.ptr A.next 0,A.new (.row (iU z).cells (rv P t)))=(v,A'):=hg;simp only [gF] at hg;obtain ⟨rfl,rfl⟩:=hg;exact ⟨Kk (rv P t) z,K9,E.oG A.next B.next,by simp only [Q5,hz,gE,hf,hsc,bC,ai],.DA (by simp [Env.oG]),eT.newRow h (GI ho)⟩
theorem UB {cs:List KV} {l:List Value} (h:bp P E cs l):∀ n,bp P E (eN cs n) (ia l n)
 | 0=>.nil
 | n+1=>bp.append h (UB h n)
theorem ai4 {n b:Nat} {z:Value} (ho:jv (iU z).cells=true):ajZ P (Ur n b (iU z).cells) (Im n b z):=by
 intro E A A' B vs us v h hv hg;unfold Ur at hg;split at hg
 ·rename_i k l k' c
  obtain ⟨x,y,rfl,h1,h2⟩:=hv.nP;have:=h1.dP; subst this;have:=h2.dP; subst this;obtain ⟨hc,hg⟩:=bf.nF hg;simp only [gF] at hg;obtain ⟨rfl,rfl⟩:=hg;simp only [aD,lz] at hc;obtain ⟨⟨h3,h4⟩,h5⟩:=hc;obtain ⟨l',rfl⟩:=Int.eq_ofNat_of_zero_le h3;obtain ⟨c',rfl⟩:=Int.eq_ofNat_of_zero_le (Int.le_trans h3 h4);have h6:Nat.ble l' c' = true:=Nat.ble_eq_true_of_le (by omega);refine ⟨.row (ia z.cells.toList c') n true none,fun k=>.slice (some ⟨k,0,none⟩) l' c',E.oG A.next B.next,?_,.apX (by simp [Env.oG]),eT.newRow h (UB (GI ho) c')⟩;have h5:Nat.ble (b * c') 281474976710656=true:=h5;show cond (Nat.ble l' c'&&Nat.ble (b * c') 281474976710656) _ _=_;rw [h6,h5];rfl
 ·exact hg.elim
theorem gU.rowAt {A:aC} {B:St} (h:gU P E A B) {b x:Nat} {cs:List KV} (hr:rowAt A b=some cs) (hx:E.κ b=some x):∃ ck ca,B.get x=some (.row ck ca true none)/\bp P E cs ck:=by
 unfold K.rowAt at hr;split at hr
 ·rename_i c e hg
  simp at hr;subst hr;obtain ⟨y,d,h1,h2,h3⟩:=h.row _ _ _ hg;rw [hx] at h1;simp at h1;subst h1;exact ⟨d,_,h2,h3⟩
 ·simp at hr
theorem UC (e:KV):∀ (cs:List CK) (k:Nat),(leaves e cs k).length=cs.length
 | [],_=>rfl
 | c::cs,k=>by simp [leaves,UC e cs]
theorem ak7 {c:CK} {v:KV} (h:kindOk c v=true):leaf c v=v:=by
 cases c with
 | int k=>cases v <;> simp [kindOk] at h; subst h; rfl
 | bool=>cases v <;> simp [kindOk] at h; rfl
 | str=>cases v <;> simp [kindOk] at h; rfl
 | slice t=>
  cases v <;> simp [kindOk] at h;rename_i T m n es acc;cases m <;> simp at h;subst h;rfl
 | other=>cases v <;> simp [kindOk] at h
theorem Fa:∀ {ks:List CK} {cs:List KV} {i:Nat} {c:CK},aO ks cs=true->ks[i]? = some c->∃ v,cs[i]? = some v/\kindOk c v=true
 | [],_,i,c,_,h=>by simp at h
 | _::_,[],_,_,h,_=>by simp [aO] at h
 | k::ks,v::cs,0,c,h,e=>by
  simp only [aO,aD] at h;simp at e;subst e;exact ⟨v,rfl,h.1⟩
 | k::ks,v::cs,i+1,c,h,e=>by
  simp only [aO,aD] at h;obtain ⟨u,h1,h2⟩:=Fa (i:=i) h.2 (by simpa using e);exact ⟨u,by simpa using h1,h2⟩
theorem lD:∀ {l:Bd} {es:List KV} {i:Nat} {e:KV},gY l es=true->es[i]? = some e->cG l e=true
 | l,[],i,e,_,h=>by simp at h
 | l,x::es,0,e,h,he=>by
  simp only [gY,aD] at h;simp at he;subst he;exact h.1
 | l,x::es,i+1,e,h,he=>by
  simp only [gY,aD] at h;exact lD h.2 (by simpa using he)
theorem jN {l:Bd} {e:KV} (h:cG l e=true):aO l.ks e.cells=true/\Bf e=true:=by
 cases e <;> simp [cG] at h <;> first | exact ⟨h.2,rfl⟩ | skip
 obtain ⟨h1,h2⟩:=h;cases hk:l.ks with
 | nil=>rw [hk] at h2; simp [aO] at h2
 | cons c cs=>rw [hk] at h2; cases c <;> simp [aO,kindOk] at h2
theorem YM {e:KV} {ks:List CK} (hk:aO ks e.cells=true):∀ {cs:List CK} {k:Nat},(∀ m c,cs[m]? = some c->ks[k+m]? = some c)->leaves e cs k=(e.cells.drop k).take cs.length
 | [],k,_=>by simp [leaves]
 | c::cs,k,h=>by
  obtain ⟨v,h1,h2⟩:=Fa hk (by simpa using h 0 c rfl);have bu:k < e.cells.length:=(dB.1 h1).1;have ih:=YM hk (cs:=cs) (k:=k+1) (fun m d hm=>by have:=h (m+1) d (by simpa using hm); rwa [show k+(m+1)=k+1+m by omega] at this);simp only [leaves];have e1:e.cells.getD k .bJ=v:=by simp [List.getD,h1]
  rw [e1,ak7 h2];rw [show Nat.succ k=k+1 from rfl,ih,List.drop_eq_getElem_cons bu];have e2:e.cells[k] = v:=by
   have:=dD bu;rw [this] at h1;simpa using h1
  simp [e2]
theorem gU.Om {A:aC} {B:St} (h:gU P E A B) {b x L N' : Nat} {v:KV} (hr:Om A b=some v) (hx:E.α b=some (x,L,N')) :
  ∃ T N es acc,v = .ts T .any N es acc/\ku P T N es acc/\1<=bq P T/\∃ cs e own bV bF,N' = N/\B.get x=some (.row cs e own bV)/\bp P E es bF/\ss (bq P T) 0 cs bF/\L=cs.length/\e=bq P T:=by
 unfold K.Om at hr;split at hr
 ·rename_i u hg
  simp at hr; subst hr;obtain ⟨T,N,es,acc,h1,h2,h3,h4⟩:=h.ar.arr b _ hg;refine ⟨T,N,es,acc,h1,h2,h3,?_⟩;rcases h4 with ⟨_,h5⟩ | ⟨y,cs,bV,bF,h4,h5,h6,h7⟩
  ·rw [hx] at h5; simp at h5
  ·rw [hx] at h4
   simp only [dE,gF] at h4;obtain ⟨rfl,rfl,rfl⟩:=h4;exact ⟨cs,_,_,bV,bF,rfl,h5,h6,h7,rfl,rfl⟩
 ·rename_i u hg
  simp at hr; subst hr;obtain ⟨T,N,es,acc,h1,h2,h3,h4⟩:=h.ar.lR b _ hg;refine ⟨T,N,es,acc,h1,h2,h3,?_⟩;rcases h4 with ⟨_,h5⟩ | ⟨y,r,bF,h4,h5,h6,h7,h8⟩
  ·rw [hx] at h5; simp at h5
  ·rw [hx] at h4
   simp only [dE,gF] at h4;obtain ⟨rfl,rfl,rfl⟩:=h4;exact ⟨r.cs,_,_,_,bF,rfl,h.z _ _ h5,h7,h8,rfl,h6⟩
 ·simp at hr
theorem agU {t T Tc:TypeId} {k x base ca:Nat} {own:Bool} {bV:Option (Nat×Nat)} {e:KV} {u:Value} {cs:List Value} {B:St} (hz:B.get x=some (.row cs ca own bV)) (hc:afR P t Tc=true) (hw:afW P T Tc k) (Iw:cG (bw P T) e=true)
  (h7:VK P E e u) (gI:u.cells.size=bq P T) (sG:∀ (m:Nat) (y:Value),u.cells[m]? = some y->cs[base+m]? = some y):∃ w,Q6 P t B [.pointer (some ⟨x,base+k,none⟩)] = some w/\VK P E (TR (bw P t).agg (leaves e (bw P t).ks k)) w:=by
 simp only [afR,aD,lz] at hc;obtain ⟨⟨⟨⟨hTc,hpl⟩,ha⟩,hn⟩,au0⟩:=hc;have:=bo hTc;subst this;obtain ⟨aum,aun⟩:=jN Iw;have hlv:=YM aum (cs:=(bw P Tc).ks) (k:=k) hw.is;rw [hlv];have Ri:=h7.cells aun;have hlen:e.cells.length=bq P T:=by have:=Ri.length; simp at this; omega
 have s4:(bw P Tc).ks.length<=e.cells.length - k:=by
  have:=congrArg List.length hlv;rw [UC] at this;simp at this;omega
 have lC:∀ m,m < (bw P Tc).ks.length->cs[base+k+m]? = u.cells.toList[k+m]?:=by
  intro m hm;have bu:k+m < u.cells.size:=by omega
  have:=sG (k+m) u.cells[k+m] (by simp [bu]);rw [show base+(k+m)=base+k+m by omega] at this;rw [this];simp [bu]
 have aoI:takeN (bw P Tc).ks.length (K8 (base+k) cs)=some ((u.cells.toList.drop k).take (bw P Tc).ks.length):=by
  have hle:(bw P Tc).ks.length<=(cs.drop (base+k)).length:=by
   cases Ui:(bw P Tc).ks.length with
   | zero=>omega
   | succ q=>
    have:=lC q (by omega);have bu:k+q < u.cells.toList.length:=by simp; omega
    rw [dD bu] at this;have:=(dB.1 this).1;simp;omega
  rw [wB,PJ hle];congr 1;apply List.ext_getElem?;intro m;rw [rf,rf];split
  ·rename_i hm
   rw [rK,rK];exact lC m hm
  ·rfl
 have Gr:bp P E (e.cells.drop k |>.take (bw P Tc).ks.length) ((u.cells.toList.drop k).take (bw P Tc).ks.length):=(Ri.drop k).take _;cases DB:(bw P Tc).agg with
 | true=>
  rw [DB] at ha;refine ⟨.agg ⟨(u.cells.toList.drop k).take (bw P Tc).ks.length⟩,?_,.tI Gr⟩;simp [Q6,loadAt,ha,hn,St.Cb,dA,Eb,hz,aoI]
 | false=>
  rw [DB] at ha;have hl1:(bw P Tc).ks.length=1:=by
   rw [DB] at au0;exact bo (by simpa using au0)
  rw [hl1] at aoI Gr;have bu:k < e.cells.length:=by omega
  rw [hl1];rw [List.drop_eq_getElem_cons bu] at Gr ⊢;simp only [List.take_succ_cons,List.take_zero] at Gr ⊢;obtain ⟨w,h8,h9⟩:=Gr.gi;refine ⟨w,?_,h9⟩;simp [Q6,loadAt,ha,St.Cb,dA,Eb,hz,aoI,h8]
theorem amN {t:TypeId} : amM P (acb P t) (Q6 P t):=by
 intro E A B vs us v h hv hg;unfold acb at hg;split at hg
 ·rename_i b off
  obtain ⟨y,rfl,h1⟩:=hv.gi;obtain ⟨x,hx,rfl⟩:=h1.j8;split at hg
  ·rename_i ag n ha hn
   split at hg
   ·rename_i l hl
    obtain ⟨cs,h2,h3⟩:=dm.1 hl;obtain ⟨ck,ca,h4,h5⟩:=h.rowAt h2 hx;obtain ⟨r,h6,h7,_⟩:=h5.zV h3;cases ag with
    | true=>
     have hg:KV.agg l=v:=hg;subst hg;refine ⟨.agg ⟨r⟩,?_,.tI h7⟩;simp [Q6,loadAt,ha,hn,St.Cb,dA,Eb,h4,h6]
    | false=>
     rw [aw] at hg;split at hg
     ·rename_i u
      have hg:u=v:=hg;subst hg;obtain ⟨w,rfl,h8⟩:=h7.gi;have hlen:n=1:=by
       obtain ⟨e,hle⟩:=Wx h3;have:=congrArg List.length e;rw [pt,Nat.min_eq_left hle] at this;simpa using this.symm
      subst hlen;exact ⟨w,by simp [Q6,loadAt,ha,St.Cb,dA,Eb,h4,h6],h8⟩
     ·exact hg.elim
   ·exact hg.elim
  ·exact hg.elim
 ·rename_i T Tc i k es acc
  obtain ⟨y,rfl,h1⟩:=hv.gi;obtain ⟨hc,hg⟩:=hg.cond;have hg:TR (bw P t).agg (leaves (acc i) (bw P t).ks k)=v:=hg;subst hg;obtain ⟨ht,bF,h2,hi,hw,b,off,r,rfl,h4,h5⟩:=h1.Rw;have awp:=ht.acc i hi;have hei:es[i]? = some (acc i):=by rw [awp]; simp [List.getD,hi]
  obtain ⟨u,h6,h7⟩:=h2.get hei;obtain ⟨gI,sG⟩:=h5 i u h6;exact agU (h.z b r h4) hc hw (lD ht.typed hei) h7 gI sG
 ·rename_i T Tc b i k
  obtain ⟨y,rfl,h1⟩:=hv.gi;split at hg
  ·rename_i T' m N es acc hA
   obtain ⟨hc,hg⟩:=hg.cond;have hg:TR (bw P t).agg (leaves (acc i) (bw P t).ks k)=v:=hg;subst hg;simp only [aD] at hc;have:=bo hc.1;subst this;obtain ⟨x,L,N',h2,hw,hi,rfl⟩:=h1.Ng;obtain ⟨T2,N2,tM,hJ,ZY,ht,h1s,cs,e,own,bV,bF,h3,h4,h5,h6,_⟩:=h.Om hA h2;simp only [KV.ts.injEq] at ZY;obtain ⟨rfl,rfl,rfl,rfl,rfl⟩:=ZY;have bu:i < es.length:=by rw [<- ht.len,<- h3]; exact hi
   have hei:es[i]? = some (acc i):=by rw [ht.acc i (by rw [ht.len]; exact bu)]; simp [List.getD,bu]
   obtain ⟨u,h7,h8⟩:=h5.get hei;obtain ⟨gI,sG⟩:=h6 i u h7;rw [bk] at sG;exact agU h4 hc.2 hw (lD ht.typed hei) h8 gI sG
  ·exact hg.elim
 ·exact hg.elim
end Go.K
end
section
namespace Go.K
open Go Go.aE
variable {P:Program} {E:Env}
theorem VK.aso {T:TypeId} {m:Mk} {n:Nat} {es:List KV} {acc:Nat->KV} {u:Value} (h:VK P E (.ts T m n es acc) u):VK P E (.ts T .any n es acc) u:=by
 obtain ⟨ht,bF,h1,a,cap,rfl,h2,h3,_⟩:=h.pH;simp only [VK];exact ⟨ht,bF,h1,a,cap,rfl,h2,h3,trivial⟩
theorem VK.aoJ {T:TypeId} {acc:Nat->KV} : VK P E (.ts T .any 0 [] acc) (.slice none 0 0):=by
 simp only [VK];exact ⟨⟨rfl,fun i h=>by omega,rfl⟩,[],.nil,none,0,rfl,aX _,.inl ⟨rfl,rfl⟩,trivial⟩
theorem VK.avE {b:Bool} {v:KV} {u:Value} (h:VK P E v u):VK P E (cond b v .bJ) u:=by
 cases b with
 | false=>exact .wM
 | true=>exact h
theorem VK.qn {c:CK} {v:KV} {u:Value} (h:VK P E v u):VK P E (qn c v) u:=by
 unfold K.qn;split
 ·have:=h.r6; subst this; exact .aoJ
 ·rename_i t t' m n es acc
  cases hb:Nat.beq t t' with
  | false=>exact .wM
  | true=>
   have:=bo hb;subst this;exact h.aso
 ·exact VK.avE h
theorem bp.E6:∀ {ks:List CK} {cs:List KV} {l:List Value},bp P E cs l->cs.length=ks.length->bp P E (E6 ks cs) l
 | [],[],l,h,_=>h
 | [],_::_,_,_,e=>by simp at e
 | _::_,[],_,_,e=>by simp at e
 | c::ks,v::cs,l,h,e=>by
  obtain ⟨y,ys,rfl,h1,h2⟩:=h.cons_inv;exact .cons h1.qn (bp.E6 h2 (by simpa using e))
theorem VK.ib {l:Bd} {v:KV} {u:Value} (h:VK P E v u):VK P E (ib l v) u:=by
 unfold K.ib;split
 ·rename_i cs
  obtain ⟨m,rfl,h1⟩:=h.pC;cases hb:(l.agg&&Nat.beq cs.length l.ks.length) with
  | false=>exact .wM
  | true=>
   simp only [aD] at hb;exact .tI (h1.E6 (bo hb.2))
 ·cases l.agg with
  | true=>exact .wM
  | false=>
   rw [aw];split
   ·exact h.qn
   ·exact .wM
theorem aag (d:Nat) (v:KV):eG P (d+1) v=(match v with
 | .ts t _ n _ acc=>.ts t .any n ((List.range n).map fun i=>vH P (eG P d) t (acc i)) (fun i=>vH P (eG P d) t (acc i))
 | v=>v):=rfl
theorem ai5 (d:Nat) {c:CK} {v:KV} (h:kindOk c v=true):kindOk c (eG P d v)=true:=by
 cases d with
 | zero=>exact h
 | succ d=>
  rw [aag];split
  ·rename_i t m n es acc
   cases c <;> simp [kindOk] at h;cases m <;> simp at h;simp [kindOk,h]
  ·exact h
theorem Lt (d:Nat):∀ {ks:List CK} {cs:List KV},aO ks cs=true->aO ks (cs.map (eG P d))=true
 | [],[],_=>rfl
 | [],_::_,h=>by simp [aO] at h
 | _::_,[],h=>by simp [aO] at h
 | c::ks,v::cs,h=>by
  simp only [aO,aD] at h;simp only [List.map_cons,aO,aD];exact ⟨ai5 d h.1,Lt d h.2⟩
theorem vf:∀ {ks:List CK} {vs:List KV},aO ks vs=true->vs.length=ks.length
 | [],[],_=>rfl
 | [],_::_,h=>by simp [aO] at h
 | _::_,[],h=>by simp [aO] at h
 | k::ks,v::vs,h=>by
  simp only [aO,aD] at h;simp [vf h.2]
theorem s6 {l:Bd} : ∀ {es:List KV},(∀ (i:Nat) e,es[i]? = some e->cG l e=true)->gY l es=true
 | [],_=>rfl
 | e::es,h=>by
  simp only [gY,aD];exact ⟨h 0 e rfl,s6 fun i x hx=>h (i+1) x (by simpa using hx)⟩
theorem RB {l:Bd} {v:KV} (h:cG l v=true):leaves v l.ks 0=v.cells/\aO l.ks v.cells=true/\(v=TR l.agg v.cells):=by
 have hk:aO l.ks v.cells=true/\(v=TR l.agg v.cells):=by
  by_cases ha:∃ cs,v = .agg cs
  ·obtain ⟨cs,rfl⟩:=ha
   simp only [cG,aD] at h;refine ⟨h.2,?_⟩;rw [h.1]; rfl
  ·have h1:(!l.agg&&aO l.ks [v])=true:=by
    cases v <;> first | exact h | exact absurd ⟨_,rfl⟩ ha | simp [cG] at h
   have hc:v.cells = [v]:=by cases v <;> first | rfl | exact absurd ⟨_,rfl⟩ ha
   simp only [aD,nz] at h1;rw [hc,h1.1];exact ⟨h1.2,rfl⟩
 refine ⟨?_,hk.1,hk.2⟩;rw [YM (e:=v) (ks:=l.ks) hk.1 (fun m c e=>by rw [bk]; exact e)];show (v.cells.drop 0).take l.ks.length=v.cells;rw [List.drop_zero,<- vf hk.1,List.take_length]
theorem agV {l:Bd} {cs:List KV} {v:KV} (h:cG l v=true) (hk:aO l.ks cs=true) (hlen:cs.length=v.cells.length):cG l (TR l.agg cs)=true:=by
 by_cases ha:∃ ds,v = .agg ds
 ·obtain ⟨ds,rfl⟩:=ha
  simp only [cG,aD] at h;rw [h.1];show (l.agg&&aO l.ks cs)=true;rw [h.1,hk]; rfl
 ·have h1:(!l.agg&&aO l.ks [v])=true:=by
   cases v <;> first | exact h | exact absurd ⟨_,rfl⟩ ha | simp [cG] at h
  have hc:v.cells = [v]:=by cases v <;> first | rfl | exact absurd ⟨_,rfl⟩ ha
  simp only [aD,nz] at h1;rw [hc] at hlen
  match cs,hlen with
  | [c],_=>
   rw [h1.1];show cG l c=true;have aaf:one c=true:=by
    cases wG:l.ks with
    | nil=>rw [wG] at hk; simp [aO] at hk
    | cons a aw5=>rw [wG] at hk; simp only [aO,aD] at hk; cases a <;> cases c <;> first | rfl | simp [kindOk] at hk
   cases c <;> first | (simp [one] at aaf; done) | (simp only [cG,h1.1,sE,M0]; exact hk)
mutual
theorem VK.eG:∀ (d:Nat) {v:KV} {u:Value},VK P E v u->VK P E (K.eG P d v) u
 | 0,_,_,h=>h
 | d+1,v,u,h=>by
  rw [aag];split
  ·rename_i t m n es acc
   obtain ⟨ht,bF,h1,a,cap,rfl,h2,h3,_⟩:=h.pH;simp only [VK];have Iw:∀ i,i < n->∃ e e',es[i]? = some e/\bF[i]? = some e'/\acc i=e/\cG (bw P t) e=true/\VK P E e e':=by
    intro i hi;have hl:i < es.length:=by rw [<- ht.len]; exact hi
    have e1:=dD hl;obtain ⟨e',e2,e3⟩:=h1.get e1;exact ⟨_,e',e1,e2,by rw [ht.acc i hi,iQ,e1]; rfl,lD ht.typed e1,e3⟩
   have hlen:bF.length=n:=by rw [h1.length,ht.len]
   refine ⟨⟨by simp,fun i hi=>?_,?_⟩,bF,?_,a,cap,rfl,h2,h3,trivial⟩
   ·rw [iQ,A5,List.getElem?_range hi]; rfl
   ·refine s6 fun i e he=>?_
    rw [A5] at he;by_cases hi:i < n
    ·rw [List.getElem?_range hi] at he
     simp only [Option.map_some,dE] at he;obtain ⟨x,x',_,_,q3,q4,_⟩:=Iw i hi;rw [<- he,q3,vH];obtain ⟨r1,r2,_⟩:=RB q4;rw [r1];exact agV q4 (Lt d r2) (by simp)
    ·rw [List.getElem?_eq_none (by simp; omega)] at he; simp at he
   ·refine bp.ZQ (by simp [hlen]) fun i e e' he Ir=>?_
    rw [A5] at he;by_cases hi:i < n
    ·rw [List.getElem?_range hi] at he
     simp only [Option.map_some,dE] at he;obtain ⟨x,x',_,q2,q3,q4,q5⟩:=Iw i hi;rw [Ir] at q2;simp only [dE] at q2;subst q2;rw [<- he,q3];exact VK.vH d q4 q5
    ·rw [List.getElem?_eq_none (by simp; omega)] at he; simp at he
  ·exact h
theorem VK.vH (d:Nat) {t:TypeId} {v:KV} {u:Value} (hk:cG (bw P t) v=true) (h:VK P E v u):VK P E (K.vH P (K.eG P d) t v) u:=by
 obtain ⟨r1,r2,r3⟩:=RB hk;rw [K.vH,r1];by_cases ha:∃ cs,v = .agg cs
 ·obtain ⟨cs,rfl⟩:=ha
  obtain ⟨l,rfl,h1⟩:=h.pC;have DB:(bw P t).agg=true:=by simp only [cG,aD] at hk; exact hk.1
  rw [DB];exact .tI (bp.amO d h1)
 ·have hc:v.cells = [v]:=by cases v <;> first | rfl | exact absurd ⟨_,rfl⟩ ha
  have DB:(bw P t).agg=false:=by
   cases v <;> first | (simp only [cG,aD,nz] at hk; exact hk.1) | exact absurd ⟨_,rfl⟩ ha | simp [cG] at hk
  rw [DB,hc];exact VK.eG d h
theorem bp.amO (d:Nat):∀ {cs:List KV} {l:List Value},bp P E cs l->bp P E (cs.map (K.eG P d)) l
 | [],l,h=>h
 | c::cs,l,h=>by
  obtain ⟨y,ys,rfl,h1,h2⟩:=h.cons_inv;exact .cons (VK.eG d h1) (bp.amO d h2)
end
theorem amP {c:CK} {v:KV} (h:kindOk c v=true):one v=true:=by
 cases c <;> cases v <;> simp [kindOk] at h <;> rfl
theorem Kq:∀ {ks:List CK} {cs:List KV},aO ks cs=true->jv cs=true
 | [],[],_=>rfl
 | [],_::_,h=>by simp [aO] at h
 | _::_,[],h=>by simp [aO] at h
 | c::ks,v::cs,h=>by
  simp only [aO,aD] at h;simp [jv,amP h.1,Kq h.2]
def bP:List Value->List Value
 | []=>[]
 | v::vs=>v.cells.toList++bP vs
theorem kX {n:Nat} : ∀ {es:List Value},(∀ v∈es,v.cells.size=n)->(bP es).length=es.length * n
 | [],_=>by simp [bP]
 | v::es,h=>by
  simp only [bP,nY,Kh];rw [kX fun u hu=>h u (by simp [hu])];have:=h v (by simp);simp only [Array.length_toList,this,Nat.succ_mul];omega
theorem qf {n:Nat} : ∀ {es:List Value},(∀ v∈es,v.cells.size=n)->ss n 0 (bP es) es
 | [],_,i,x,h=>by simp at h
 | v::es,hs,i,x,h=>by
  have hv:=hs v (by simp);cases i with
  | zero=>
   simp at h;subst h;refine ⟨hv,fun k y hy=>?_⟩;simp only [bP,Nat.zero_mul,bk];have bu:k < v.cells.size:=(EN.1 hy).1;rw [uk (by simpa using bu)];simpa using hy
  | succ i=>
   obtain ⟨h1,h2⟩:=qf (es:=es) (fun u hu=>hs u (by simp [hu])) i x (by simpa using h);refine ⟨h1,fun k y hy=>?_⟩;have:=h2 k y hy;simp only [bP];rw [wg (by simp [hv,Nat.succ_mul]; omega)];rw [<- this];congr 1;simp [hv,Nat.succ_mul];omega
theorem CS:∀ (a b:List Value),bP (a++b)=bP a++bP b
 | [],b=>rfl
 | v::a,b=>by simp [bP,CS a b]
theorem HU:∀ {es:List Value},(∀ v∈es,∀ c∈v.cells.toList,scalar c=true)->∀ c∈bP es,scalar c=true
 | [],_,c,h=>by simp [bP] at h
 | v::es,hs,c,h=>by
  simp only [bP,mJ] at h;rcases h with h | h
  ·exact hs v (by simp) c h
  ·exact HU (fun u hu=>hs u (by simp [hu])) c h
theorem ad1 {n:Nat} : ∀ {es:List Value} {i:Nat} {v:Value},(∀ u∈es,u.cells.size=n)->v.cells.size=n->i < es.length->jt (i * n) (bP es) v.cells.toList=some (bP (es.set i v))
 | [],i,v,_,_,h=>by simp at h
 | u::es,0,v,hs,hv,_=>by
  simp only [Nat.zero_mul,bP,List.set_cons_zero];have key:∀ (a b r:List Value),a.length=b.length->jt 0 (a++r) b=some (b++r):=by
   intro a
   induction a with
   | nil=>intro b r h; cases b <;> simp_all [Dy]
   | cons x a ih=>
    intro b r h;cases b with
    | nil=>simp at h
    | cons y b=>rw [List.cons_append,zN,ih b r (by simpa using h)]; rfl
  exact key _ _ _ (by simp [hs u (by simp),hv])
 | u::es,i+1,v,hs,hv,h=>by
  have ih:=ad1 (es:=es) (i:=i) (fun w hw=>hs w (by simp [hw])) hv (by simpa using h);simp only [bP,List.set_cons_succ];have key:∀ (a r vs q:List Value) (m:Nat),jt m r vs=some q->jt (a.length+m) (a++r) vs=some (a++q):=by
   intro a
   induction a with
   | nil=>intro r vs q m h; simpa using h
   | cons x a ih=>
    intro r vs q m h;rw [Kh,show a.length+1+m=(a.length+m)+1 by omega,List.cons_append,vF,ih r vs q m h];rfl
  have:=key u.cells.toList _ _ _ _ ih;rw [show u.cells.toList.length+i * n=(i+1) * n by simp [hs u (by simp),Nat.succ_mul]; omega] at this;exact this
def DF (es:List Value):List (Nat×Value)->List Value
 | []=>es
 | (i,v)::rest=>DF (es.set i v) rest
theorem XF:∀ (ps:List (Nat×Value)) (es:List Value),(DF es ps).length=es.length
 | [],_=>rfl
 | p::ps,es=>by simp [DF,XF ps]
theorem agW {n:Nat} (hn:1<=n):∀ {ps:List (Nat×Value)} {es:List Value},(∀ u∈es,u.cells.size=n)->(∀ p∈ps,p.2.cells.size=n/\p.1 < es.length)->
  EO (Ec n) (bP es) ps=some (bP (DF es ps))/\∀ u∈DF es ps,u.cells.size=n
 | [],es,hs,_=>⟨rfl,hs⟩
 | (i,v)::ps,es,hs,hp=>by
  obtain ⟨h1,h2⟩:=hp (i,v) (by simp);have h3:=ad1 hs h1 h2;have agy:∀ u∈es.set i v,u.cells.size=n:=by
   intro u hu;rcases List.mem_or_eq_of_mem_set hu with h | h
   ·exact hs u h
   ·subst h; exact h1
  obtain ⟨h4,h5⟩:=agW hn (ps:=ps) agy (fun p hq=>by have:=hp p (by simp [hq]); simpa using this);refine ⟨?_,h5⟩;simp only [EO,Ec];have e1:Nat.beq v.cells.size n=true:=by rw [h1]; simp
  have e2:Nat.ble 1 n=true:=Nat.ble_eq_true_of_le hn;rw [e1,e2];simp only [bC,ai,h3,gE];exact h4
theorem YN {v:KV} {u:Value} (h:VK P E v u):∀ {es:List KV} {bF:List Value} (i:Nat),bp P E es bF->bp P E (setAt es i v) (bF.set i u)
 | [],bF,i,q=>by rw [q.cu]; cases i <;> exact .nil
 | x::es,bF,0,q=>by
  obtain ⟨y,ys,rfl,h1,h2⟩:=q.cons_inv;exact .cons h h2
 | x::es,bF,i+1,q=>by
  obtain ⟨y,ys,rfl,h1,h2⟩:=q.cons_inv;exact .cons h1 (YN h i h2)
theorem agX {l:Bd} : ∀ {is:List Nat} {vs:List KV} {us:List Value} {es:List KV} {bF:List Value},bp P E vs us->bp P E es bF->bp P E (Rq es ((EZ is vs).map fun p=>(p.1,ib l p.2))) (DF bF (zipIdx is us))
 | [],vs,us,es,bF,_,h=>by simpa [EZ,zipIdx,Rq,DF] using h
 | i::is,[],us,es,bF,hv,h=>by rw [hv.cu]; simpa [EZ,zipIdx,Rq,DF] using h
 | i::is,v::vs,us,es,bF,hv,h=>by
  obtain ⟨y,ys,rfl,h1,h2⟩:=hv.cons_inv;simp only [EZ,zipIdx,List.map_cons,Rq,DF];exact agX h2 (YN h1.ib i h)
theorem HV:∀ (es:List KV) (i:Nat) (v:KV),(setAt es i v).length=es.length
 | [],0,_=>rfl
 | [],_+1,_=>rfl
 | _::_,0,_=>rfl
 | e::es,i+1,v=>by simp [setAt,HV es i v]
theorem XG:∀ (ps:List (Nat×KV)) (es:List KV),(Rq es ps).length=es.length
 | [],_=>rfl
 | p::ps,es=>by simp [Rq,XG ps,HV]
theorem ap1 {n:Nat} : ∀ {is:List Nat} (us:List Value),KX n is=true->∀ p∈zipIdx is us,p.1 < n/\p.2∈us
 | [],us,_,p,h=>by simp [zipIdx] at h
 | i::is,[],_,p,h=>by simp [zipIdx] at h
 | i::is,u::us,h,p,hp=>by
  simp only [KX,aD,bX] at h;simp only [zipIdx,ff] at hp;rcases hp with rfl | hp
  ·exact ⟨h.1,by simp⟩
  ·obtain ⟨h1,h2⟩:=ap1 us h.2 p hp
   exact ⟨h1,by simp [h2]⟩
theorem Kr (z:Value):∀ n,ia z.cells.toList n=bP (List.replicate n z)
 | 0=>rfl
 | n+1=>by simp [ia,List.replicate_succ,bP,Kr z n]
theorem aah {z:KV} {u:Value} (h:VK P E z u):∀ n,bp P E (eN [z] n) (List.replicate n u)
 | 0=>.nil
 | n+1=>by simpa [eN,List.replicate_succ] using bp.cons h (aah h n)
theorem sL {l:Bd} : ∀ {es:List KV} {bF:List Value},gY l es=true->bp P E es bF->∀ u∈bF,u.cells.size=l.ks.length/\∀ c∈u.cells.toList,scalar c=true
 | [],bF,_,h,u,hu=>by rw [h.cu] at hu; simp at hu
 | e::es,bF,Iw,h,u,hu=>by
  obtain ⟨y,ys,rfl,h1,h2⟩:=h.cons_inv;simp only [gY,aD] at Iw;rcases ff.1 hu with rfl | hu
  ·obtain ⟨k1,k2⟩:=jN Iw.1
   have hc:=h1.cells k2;refine ⟨?_,hc.scalar (Kq k1)⟩;have:=hc.length;have:=uO k1;simp at *;omega
  ·exact sL Iw.2 h2 u hu
theorem aj1 {l:Bd} : ∀ {vs:List KV} {us:List Value},bp P E vs us->bp P E (vs.map (ib l)) us
 | [],_,h=>h
 | v::vs,us,h=>by
  obtain ⟨y,ys,rfl,h1,h2⟩:=h.cons_inv;exact .cons h1.ib (aj1 h2)
theorem ai6 {e:TypeId} {n len:Nat} {z:Value} {is:List Nat} (hn:(bw P e).ks.length=n) (h1n:1<=n) (hz:z.cells.size=n) (hb:KX len is=true) :
  asn P (Un (bw P e) e (ib (bw P e) (iU z)) len is) (A7 n z len is):=by
 intro E A B vs us v h hv hg;unfold Un at hg;obtain ⟨hc,hg⟩:=bf.cond hg;simp only [aD] at hc;obtain ⟨⟨hk,hvs⟩,Iw⟩:=hc;have hg:KV.ts e .exact len _ _=v:=hg;subst hg;have GK:VK P E (ib (bw P e) (iU z)) z:=(VK.iU z).ib;have Gr:=agX (l:=bw P e) (is:=is) hv (aah GK len);have hlen:(Rq (eN [ib (bw P e) (iU z)] len) ((EZ is vs).map fun p=>(p.1,ib (bw P e) p.2))).length=len:=by
  rw [XG,Jd]; simp
 have auo:∀ p∈zipIdx is us,p.2.cells.size=n/\p.1 < (List.replicate len z).length:=by
  intro p hp;obtain ⟨h5,h6⟩:=ap1 us hb p hp;have hm:bp P E (vs.map (ib (bw P e))) us:=aj1 hv;exact ⟨by rw [<- hn]; exact (sL hvs hm p.2 h6).1,by simpa using h5⟩
 obtain ⟨h3,h4⟩:=agW h1n (ps:=zipIdx is us) (es:=List.replicate len z) (fun u hu=>by rw [(List.mem_replicate.1 hu).2]; exact hz) auo;have Bc:=sL Iw Gr;have qw:(bP (DF (List.replicate len z) (zipIdx is us))).all scalar=true:=im.2 (HU fun u hu=>(Bc u hu).2);refine ⟨.row (bP (DF (List.replicate len z) (zipIdx is us))) n true none,fun b=>.slice (some ⟨b,0,none⟩) len len,E.ir B.next ⟨_,n,true,none⟩,?_,?_,eT.ap0 h⟩
 ·unfold A7
  rw [Kr,h3];simp only [gE];rw [qw,Rz hv hk];rfl
 ·have aoK:=Gr.mono (eT.ap0 (ck:=bP (DF (List.replicate len z) (zipIdx is us))) (ca:=n) h).le
  have qc:(DF (List.replicate len z) (zipIdx is us)).length=len:=by rw [XF]; simp
  simp only [VK];refine ⟨⟨hlen.symm,fun i _=>rfl,Iw⟩,_,aoK,some ⟨B.next,0,none⟩,len,rfl,aX _,.inr ⟨B.next,0,⟨bP (DF (List.replicate len z) (zipIdx is us)),n,true,none⟩,rfl,by simp [Env.ir],hn.symm,?_⟩,rfl,fun b off hb=>?_⟩
  ·have:=qf h4
   unfold bq;rw [hn];exact this
  ·simp at hb
   obtain ⟨rfl,rfl⟩:=hb;refine ⟨⟨bP (DF (List.replicate len z) (zipIdx is us)),n,true,none⟩,by simp [Env.ir],rfl,rfl,?_⟩;simp only [bq,hn];rw [kX h4,qc];omega
theorem ak8 {n len:Nat} {z:Value} {is:List Nat} (ho:jv (iU z).cells=true):ajZ P (YD n (iU z).cells len is) (A7 n z len is):=by
 intro E A A' B vs us v h hv hg;unfold YD at hg;split at hg
 ·rename_i cs hf
  obtain ⟨hk,hg⟩:=bf.cond hg;simp only [aD] at hk;have hg:(KV.sl A.next 0 len len,A.new (.row cs n))=(v,A'):=hg;simp only [gF] at hg;obtain ⟨rfl,rfl⟩:=hg;obtain ⟨h2,h3⟩:=agL is hv;obtain ⟨r',e,hr⟩:=agK h2 h3 (fun p hp=>by have:=agM is vs p hp; exact im.1 hk.1 _ this) (UB (GI (P:=P) (E:=E) ho) len) hf;refine ⟨.row r' n true none,fun b=>.slice (some ⟨b,0,none⟩) len len,E.oG A.next B.next,?_,.apX (by simp [Env.oG]),eT.newRow h hr⟩;unfold A7;rw [e];simp only [gE];rw [Rz hv hk.1,im.2 (hr.scalar hk.2)];rfl
 ·exact hg.elim
theorem PK {m cap:Nat} {lo hi:Bool} {r:List KV} {r' : List Value} {x y:Int} (h:Z7 m lo hi r=some (x,y)) (hr:bp P E r r') (h0:0<=x) (h1:x<=y) (h2:y<=(m:Int)) (hc:m<=cap) :
  xD m cap lo hi false r' = some (x.toNat,y.toNat,cap):=by
 obtain ⟨x',rfl⟩:=Int.eq_ofNat_of_zero_le h0;obtain ⟨y',rfl⟩:=Int.eq_ofNat_of_zero_le (Int.le_trans h0 h1);have hb:∀ (k:IntKind) (i n:Nat),i<=n->bnd n (.int k (i:Int))=some i:=by
  intro k i n h;show nH (.ofNat i) (Nat.succ n)=some i;exact sK (by omega)
 match r,h with
 | [],h=>
  rw [hr.cu];cases lo <;> cases hi <;> simp [Z7] at h;obtain ⟨h3,h4⟩:=h;simp [xD];omega
 | [.int k a],h=>
  obtain ⟨u,rfl,h3⟩:=hr.gi;have:=h3.dP; subst this;cases lo <;> cases hi <;> simp [Z7] at h
  ·obtain ⟨h4,rfl⟩:=h
   simp only [xD];rw [hb k y' cap (by omega)];simp;omega
  ·obtain ⟨rfl,h4⟩:=h
   simp only [xD];rw [hb k x' m (by omega)];simp;omega
 | [.int k a,.int k' c],h=>
  obtain ⟨u,v,rfl,h3,h4⟩:=hr.nP;have:=h3.dP; subst this;have:=h4.dP; subst this;cases lo <;> cases hi <;> simp [Z7] at h;obtain ⟨rfl,rfl⟩:=h;simp only [xD];rw [hb k' y' cap (by omega)];simp only [gE];rw [hb k x' y' (by omega)];simp
theorem XH {l:Bd} : ∀ {es:List KV} (n:Nat),gY l es=true->gY l (es.drop n)=true
 | es,0,h=>by simpa using h
 | [],n+1,_=>rfl
 | e::es,n+1,h=>by
  simp only [gY,aD] at h;simpa using XH n h.2
theorem XI {l:Bd} : ∀ {es:List KV} (n:Nat),gY l es=true->gY l (es.take n)=true
 | es,0,h=>rfl
 | [],n+1,_=>rfl
 | e::es,n+1,h=>by
  simp only [gY,aD] at h;simp [gY,h.1,XI n h.2]
theorem S2 {l:Bd} : ∀ {es fs:List KV},gY l es=true->gY l fs=true->gY l (es++fs)=true
 | [],fs,_,h=>h
 | e::es,fs,h,k=>by
  simp only [gY,aD] at h;simp [gY,h.1,S2 h.2 k]
theorem ss.part {sz off x k:Nat} {cs es:List Value} (h:ss sz off cs es):ss sz (off+x * sz) cs ((es.drop x).take k):=by
 intro i v hv;rw [rf] at hv;split at hv
 ·rw [rK] at hv
  obtain ⟨h1,h2⟩:=h (x+i) v hv;refine ⟨h1,fun j y hj=>?_⟩;rw [<- h2 j y hj];congr 1;rw [Nat.add_mul];omega
 ·simp at hv
theorem aco {es:List KV} {i:Nat} (h:i < es.length):es[i]? = some (es.getD i .bJ):=by simp [List.getD,h]
theorem amQ {n:Nat} {lo hi:Bool} (_:1<=n):amM P (ace P n lo hi) (Ed n lo hi false):=by
 intro E A B vs us v h hv hg;unfold ace at hg;split at hg
 ·rename_i T mk m es acc r
  split at hg
  ·rename_i x y hb
   obtain ⟨gI,hg⟩:=hg.cond;have gI:=bo gI;obtain ⟨hc,rfl⟩:=bf.nF hg;simp only [aD,lz] at hc;obtain ⟨⟨h0,h1⟩,h2⟩:=hc;obtain ⟨u,r',rfl,h3,h4⟩:=hv.cons_inv;obtain ⟨ht,bF,h5,a,cap,rfl,h6,h7,_⟩:=h3.pH;have W4:=PK hb h4 h0 h1 h2 h6;have hlen:=ht.len;have hle:((es.drop x.toNat).take (y.toNat - x.toNat)).length=y.toNat - x.toNat:=by simp; omega
   have hT:ku P T (y.toNat - x.toNat) ((es.drop x.toNat).take (y.toNat - x.toNat)) (fun i=>acc (x.toNat+i)):=by
    refine ⟨hle.symm,fun i hi=>?_,XI _ (XH _ ht.typed)⟩;rw [ht.acc _ (by omega)];simp only [List.getD];rw [rf,aW hi,rK]
   rcases h7 with ⟨rfl,hm⟩ | ⟨b,off,rr,rfl,h8,h9,xY⟩
   ·refine ⟨.slice none (y.toNat - x.toNat) (cap - x.toNat),by simp [Ed,W4],?_⟩
    simp only [VK];exact ⟨hT,_,(h5.drop _).take _,none,_,rfl,by omega,.inl ⟨rfl,by omega⟩,trivial⟩
   ·have lC:=h.z b rr h8
    have ZZ:rr.ca=n:=by rw [h9]; exact gI
    refine ⟨.slice (some ⟨b,off+x.toNat * n,none⟩) (y.toNat - x.toNat) (cap - x.toNat),?_,?_⟩
    ·simp [Ed,W4,dA,HN,lC,ZZ]
    ·simp only [VK]
     refine ⟨hT,_,(h5.drop _).take _,_,_,rfl,by omega,.inr ⟨b,off+x.toNat * n,rr,rfl,h8,h9,?_⟩,trivial⟩;have:bq P T=n:=gI;rw [this] at xY ⊢;exact xY.part
  ·exact hg.elim
 ·rename_i b o len cap r
  split at hg
  ·rename_i cs ca lC
   split at hg
   ·rename_i x y hb
    obtain ⟨gI,hg⟩:=hg.cond;have gI:=bo gI;obtain ⟨hc,rfl⟩:=bf.nF hg;simp only [aD,lz] at hc;obtain ⟨⟨⟨h0,h1⟩,h2⟩,h6⟩:=hc;obtain ⟨u,r',rfl,h3,h4⟩:=hv.cons_inv;obtain ⟨z,hz,rfl⟩:=h3.Wy;have W4:=PK hb h4 h0 h1 h2 h6;obtain ⟨z',ck,e1,e2,_⟩:=h.row b cs ca lC;rw [hz] at e1;simp at e1;subst e1;refine ⟨.slice (some ⟨z,o+x.toNat * n,none⟩) (y.toNat - x.toNat) (cap - x.toNat),?_,.apX hz⟩;simp [Ed,W4,dA,HN,e2,gI]
   ·exact hg.elim
  ·exact hg.elim
 ·rename_i T b o m r
  split at hg
  ·rename_i T' mk N es acc hA
   split at hg
   ·rename_i x y hb
    obtain ⟨gI,hg⟩:=hg.cond;obtain ⟨hc,rfl⟩:=bf.nF hg;simp only [aD] at gI;have hT:=bo gI.2;have au1:bq P T=n:=bo gI.1;subst hT;simp only [aD,lz] at hc;obtain ⟨⟨h0,h1⟩,h2⟩:=hc;obtain ⟨u,r',rfl,h3,h4⟩:=hv.cons_inv;rcases h3.Bj with ⟨rfl,rfl,rfl⟩ | ⟨z,L,N',c,e1,rfl,e2,e3,e4⟩
    ·have W4:=PK hb h4 h0 h1 h2 (aX _)
     have hx0:x.toNat=0:=by omega
     have hy0:y.toNat=0:=by omega
     refine ⟨.slice none (y.toNat - x.toNat) (0 - x.toNat),by simp [Ed,W4],.XD (.inl ⟨by omega,by omega,by rw [hx0,hy0]⟩)⟩
    ·have W4:=PK hb h4 h0 h1 h2 e2
     obtain ⟨T2,N2,tM,hJ,ZY,_,_,cs,e,own,bV,bF,_,h5,_,_,_,h7⟩:=h.Om hA e1;simp only [KV.ts.injEq] at ZY;obtain ⟨rfl,_⟩:=ZY;refine ⟨.slice (some ⟨z,o * bq P T+x.toNat * n,none⟩) (y.toNat - x.toNat) (c - x.toNat),?_,.XD (.inr ⟨z,L,N',c - x.toNat,e1,?_,by omega,by omega,?_⟩)⟩
     ·simp [Ed,W4,dA,HN,h5,h7,au1]
     ·simp only [Value.slice.injEq,dE,Addr.mk.injEq,and_true,true_and]
      rw [au1,Nat.add_mul]
     ·rw [<- e4]
      congr 1;omega
   ·exact hg.elim
  ·exact hg.elim
 ·exact hg.elim
theorem ak9 {len n:Nat} {lo hi:Bool} : amM P (YG len n lo hi) (Q9 len n lo hi false):=by
 intro E A B vs us v h hv hg;unfold YG at hg;split at hg
 ·rename_i b o r
  split at hg
  ·rename_i cs ca lC
   split at hg
   ·rename_i x y hb
    obtain ⟨gI,hg⟩:=hg.cond;simp only [aD] at gI;have zk:=bo gI.1;have hsz2:=gD gI.2;obtain ⟨hc,rfl⟩:=bf.nF hg;simp only [aD,lz] at hc;obtain ⟨⟨h0,h1⟩,h2⟩:=hc;obtain ⟨u,r',rfl,h3,h4⟩:=hv.cons_inv;obtain ⟨z,hz,rfl⟩:=h3.j8;have W4:=PK hb h4 h0 h1 h2 (aX _);obtain ⟨z',ck,e1,e2,e3⟩:=h.row b cs ca lC;rw [hz] at e1;simp at e1;subst e1;have hlen:=e3.length;refine ⟨.slice (some ⟨z,o+x.toNat * n,none⟩) (y.toNat - x.toNat) (len - x.toNat),?_,.apX hz⟩;have uE:Nat.ble (o+len * n) ck.length=true:=Nat.ble_eq_true_of_le (by omega);simp [Q9,W4,dA,HN,ZM,e2,zk,uE]
    try omega
   ·exact hg.elim
  ·exact hg.elim
 ·exact hg.elim
theorem ala {lo hi:Bool} : z6 P (YH lo hi) (Lc lo hi):=by
 intro E vs us v hv hg;unfold YH at hg;split at hg
 ·rename_i s r
  split at hg
  ·rename_i x y hb
   obtain ⟨hc,rfl⟩:=bf.nF hg;simp only [aD,lz] at hc;obtain ⟨⟨h0,h1⟩,h2⟩:=hc;obtain ⟨u,r',rfl,h3,h4⟩:=hv.cons_inv;have:=h3.wL; subst this;have W4:=PK hb h4 h0 h1 h2 (aX _);exact ⟨_,by simp [Lc,W4],.mkStr⟩
  ·exact hg.elim
 ·exact hg.elim
theorem alb:amM P (fun _=>Rr) Le:=by
 intro E A B vs us v h hv hg;have hg:bf (Rr vs) v:=hg;unfold Rr at hg;split at hg
 ·obtain ⟨u,rfl,h1⟩:=hv.gi
  have:=h1.r6; subst this;have hg:KV.str ⟨⟨[]⟩⟩=v:=hg;subst hg;exact ⟨_,rfl,.mkStr⟩
 ·rename_i T mk m es acc _
  obtain ⟨u,rfl,h1⟩:=hv.gi;obtain ⟨hc,rfl⟩:=bf.nF hg;obtain ⟨ht,bF,h5,a,cap,rfl,h6,h7,_⟩:=h1.pH;have hlen:=ht.len;rcases h7 with ⟨rfl,hm⟩ | ⟨b,off,rr,rfl,h8,h9,xY⟩
  ·have:es = []:=pq.1 (by omega)
   subst this;exact ⟨_,rfl,.mkStr⟩
  ·have lC:=h.z b rr h8
   have CT:∀ (i:Nat) (w:Value),bF[i]? = some w->∃ e,es[i]? = some e/\w = .int .u8 (byteOf e).toNat/\w.cells.size=1:=by
    intro i w hw;have hi:i < es.length:=by rw [<- h5.length]; exact (dB.1 hw).1
    obtain ⟨w',e1,e2⟩:=h5.get (aco hi);rw [hw] at e1;simp at e1;subst e1;have Dz:=im.1 hc _ (ji (aco hi));refine ⟨_,aco hi,?_⟩
    revert e2 Dz
    generalize es.getD i .bJ=e;intro e2 Dz;cases e <;> simp [apQ] at Dz;rename_i k q;cases k <;> simp at Dz;have:=e2.dP; subst this;refine ⟨?_,rfl⟩;simp only [byteOf,Value.int.injEq,true_and];obtain ⟨p,rfl⟩:=Int.eq_ofNat_of_zero_le Dz.1;have hp:p < 256:=by omega
    simp [UInt8.toNat_ofNat',Nat.mod_eq_of_lt hp]
   have awq:bF=es.map fun e=>.int .u8 (byteOf e).toNat:=by
    apply List.ext_getElem?;intro i;cases hw:bF[i]? with
    | none=>
     have:es.length<=i:=by rw [<- h5.length]; exact afH.1 hw
     simp [this]
    | some w=>
     obtain ⟨e,e1,e2,_⟩:=CT i w hw;simp [e1,e2]
   have zk:∀ i w,bF[i]? = some w->bq P T=1:=fun i w hw=>by
    obtain ⟨_,_,_,MZ⟩:=CT i w hw;rw [<- (xY i w hw).1]; exact MZ
   have Jb:B.Cb ⟨b,off,none⟩ m=some bF:=by
    simp only [St.Cb,dA,Option.isNone_none,ai,Eb,lC,gE];have tL:bF.length=m:=by rw [h5.length]; exact hlen.symm
    have sG:∀ i,i < m->rr.cs[off+i]? = bF[i]?:=by
     intro i hi;have Yq:i < bF.length:=by omega
     have hw:bF[i]? = some bF[i]:=dD Yq;have h1':=zk i _ hw;obtain ⟨h12,h13⟩:=xY i _ hw;obtain ⟨e,e1,e2,_⟩:=CT i _ hw;have:=h13 0 bF[i] (by rw [e2]; rfl);rw [h1'] at this;rw [hw,<- this];congr 1;omega
    have hle:m<=(rr.cs.drop off).length:=by
     cases hm0:m with
     | zero=>omega
     | succ q=>
      have:=sG q (by omega);have hq:q < bF.length:=by omega
      rw [dD hq] at this;have:=(dB.1 this).1;simp;omega
    rw [wB,PJ hle];congr 1;apply List.ext_getElem?;intro i;rw [rf];split
    ·rename_i hi
     rw [rK];exact sG i hi
    ·rename_i hi
     exact (afH.2 (by omega)).symm
   have akV:∀ (l:List KV),M4 (l.map fun e=>.int .u8 (byteOf e).toNat)=some (l.map byteOf):=by
    intro l
    induction l with
    | nil=>rfl
    | cons e l ih=>
     have hb:=(byteOf e).toNat_lt;show cond (Nat.blt (byteOf e).toNat 256) ((M4 (l.map fun e=>.int .u8 (byteOf e).toNat)).map (UInt8.ofNat (byteOf e).toNat::·)) none=_;have:Nat.blt (byteOf e).toNat 256=true:=by rw [bX]; omega
     rw [this,ai,ih];simp
   refine ⟨.string ⟨⟨es.map byteOf⟩⟩,?_,.mkStr⟩;simp only [Le,Jb,gE];rw [awq,akV];rfl
 ·exact hg.elim
theorem agY {b lo hi:Nat} : ∀ {L:List Nat} {B:St},(∀ x∈L,vE (B.get x) lo hi=false)->B.kill b lo hi L=B
 | [],B,_=>rfl
 | x::L,B,h=>by
  simp only [St.kill];rw [h x (by simp),wj,aw];exact agY fun y hy=>h y (by simp [hy])
theorem eT.ap2 {A:aC} {B:St} (sz:Nat) (h:gU P E A B):eT P E A B E (A.new (.bm 0 sz)) B:=by
 have hn:E.φ A.next=none:=by
  cases Ot:E.φ A.next with
  | none=>rfl
  | some g=>have:=h.qD _ g Ot; omega
 have hA:∀ (b:Nat) (v:KV),(A.new (.bm 0 sz)).get b=some (.arr v)->A.get b=some (.arr v):=fun b v hb=>by
  rw [aC.dN] at hb;split at hb
  ·simp at hb
  ·exact hb
 have hfz:∀ (b:Nat) (v:KV),(A.new (.bm 0 sz)).get b=some (.lR v)->A.get b=some (.lR v):=fun b v hb=>by
  rw [aC.dN] at hb;split at hb
  ·simp at hb
  ·exact hb
 refine ⟨⟨?_,?_,h.z,h.apart,h.inj,h.lT.new (.inr hn),fun b x e=>?_,fun b g e=>?_,?_,h.jc,h.qX,h.mL,h.fresh,h.mem,h.ar.pB (Env.le_refl _) (fun _=>rfl) hA hfz (by simp) (aX _) (fun _ _=>rfl) (fun _ _ e=>.inl e) (fun _ _ e=>.inl e) (fun b g e=>.inl ⟨b,e⟩) (fun _ _=>rfl) h.mem⟩,Env.le_refl _,by simp,fun _ _ _ _=>rfl,fun _ _ e=>.inl e,fun _ _ e=>.inl e,fun _ _ e=>.inl e,fun _ _ _ _=>rfl,fun _ q=>.inl (q.of (fun _=>rfl) hA),fun _ q=>.inl (q.of (fun _=>rfl) hA fun _ _=>rfl),fun _ _ q=>.inl q,fun _ q=>.inl (q.of (fun _=>rfl) hA (fun _ _=>rfl) fun _ _=>rfl),qF fun _ _=>rfl⟩
 ·intro b cs ca hb
  rw [aC.dN] at hb;split at hb
  ·simp at hb
  ·exact h.row b cs ca hb
 ·intro b top Ls hb
  rw [aC.dN] at hb;split at hb
  ·rename_i e
   simp at hb;refine .inl ⟨hb.1.symm,?_⟩;cases Ot:E.φ b with
   | none=>rfl
   | some g=>have:=h.qD b g Ot; omega
  ·exact h.bm b top Ls hb
 ·have:=h.ow b x e; rw [aC.cB]; omega
 ·have:=h.qD b g e; rw [aC.cB]; omega
 ·intro b o hb
  rw [aC.dN] at hb;rw [aC.cB];split at hb
  ·omega
  ·have:=h.live b o hb; omega
theorem eT.grow {A:aC} {B:St} {f g top XJ sz:Nat} {c:List Value} (h:gU P E A B) (hA:A.get f=some (.bm top sz)) (hf:(E.φ f=none/\g=B.next)\/E.φ f=some g) (hc:c.length=XJ * sz) (ht:top<=XJ) (Ps:0 < XJ) :
  eT P E A B ((E.ir B.next ⟨c,sz,true,some (g,0)⟩).wN f g) (A.put f (.bm XJ sz)) (B.grow g 0 c sz):=by
 have qu:∀ x,(B.grow g 0 c sz).get x=if x=B.next then some (.row c sz true (some (g,0))) else B.get x:=fun x=>by simp [St.grow]
 have oC:∀ q,(B.grow g 0 c sz).members q=if q=g then B.next::B.members g else B.members q:=fun q=>by simp [St.grow,St.HQ]
 have kr:(B.grow g 0 c sz).next=B.next+1:=rfl;have hlef:=h.live f _ hA;have hle:E.le ((E.ir B.next ⟨c,sz,true,some (g,0)⟩).wN f g):=by
  refine ⟨fun _ _ e=>e,fun _ _ e=>e,fun b r e=>?_,fun b q e=>?_⟩
  ·have:=h.qX b r e
   simp only [Env.wN,Env.ir]; rw [aB (by omega)]; exact e
  ·simp only [Env.wN,Env.ir]
   split
   ·rename_i e2
    subst e2;rcases hf with ⟨h1,_⟩ | h1
    ·rw [h1] at e; simp at e
    ·rw [h1] at e; exact e
   ·exact e
 have hg:g<=B.next:=by
  rcases hf with ⟨_,h1⟩ | h1
  ·omega
  ·have:=h.mL f g h1; omega
 generalize hB' : B.grow g 0 c sz=B' at qu oC kr;have hAk:∀ (b:Nat) (v:KV),(A.put f (.bm XJ sz)).get b=some (.arr v)->A.get b=some (.arr v):=fun b v hb=>by
  rw [aC.cn] at hb;split at hb
  ·simp at hb
  ·exact hb
 have hfz:∀ (b:Nat) (v:KV),(A.put f (.bm XJ sz)).get b=some (.lR v)->A.get b=some (.lR v):=fun b v hb=>by
  rw [aC.cn] at hb;split at hb
  ·simp at hb
  ·exact hb
 have DE:∀ x,x < B.next->B'.get x=B.get x:=fun x hx=>by rw [qu,aB (by omega)]
 have MX:∀ b r,((E.ir B.next ⟨c,sz,true,some (g,0)⟩).wN f g).z b=some r->E.z b=some r\/B.next<=b:=fun b r e=>by
  simp only [Env.wN,Env.ir] at e;split at e
  ·exact .inr (by omega)
  ·exact .inl e
 have au2:∀ b q,((E.ir B.next ⟨c,sz,true,some (g,0)⟩).wN f g).φ b=some q->E.φ b=some q\/B.next<=q:=fun b q e=>by
  simp only [Env.wN,Env.ir] at e;split at e
  ·rename_i e2
   simp at e;subst e e2;rcases hf with ⟨_,h1⟩ | h1
   ·exact .inr (by omega)
   ·exact .inl h1
  ·exact .inl e
 have hmk:∀ q,AF A E B q->B'.members q=B.members q:=fun q hq=>by
  rw [oC,aB];intro e2;subst e2;obtain ⟨b,v,x,L,N,cs,e,own,k,h1,h2,h3⟩:=hq;obtain ⟨h4,h5,_⟩:=h.ar.xG b v x L N cs e own q k h1 h2 h3;rcases hf with ⟨_,h1⟩ | h1
  ·omega
  ·exact h5 f h1
 have aoL:∀ q y,y∈B'.members q->y∈B.members q\/B.next<=y:=fun q y hy=>by
  rw [oC] at hy;split at hy
  ·rename_i e2
   subst e2;rcases ff.1 hy with hy | hy
   ·exact .inr (by omega)
   ·exact .inl hy
  ·exact .inl hy
 refine ⟨⟨?_,?_,?_,?_,?_,?_,?_,?_,?_,?_,?_,?_,?_,?_,h.ar.pB hle (fun _=>rfl) hAk hfz (aX _) (by omega) (fun x q=>DE x (h.Nh q)) MX (fun _ _ e=>.inl e) (fun b q e=>(au2 b q e).imp (fun e=>⟨b,e⟩) id) hmk h.mem⟩,hle,aX _,?_,fun b x e=>.inl e,fun b r e=>(MX b r e).imp id .inr,au2,fun q hq hn _=>by
  rw [oC,aB];intro e2;subst e2;rcases hf with ⟨_,h1⟩ | h1
  ·omega
  ·exact hn f h1,fun _ q=>.inl (q.of (fun _=>rfl) hAk),fun _ q=>.inl (q.of (fun _=>rfl) hAk fun x q=>DE x (h.Nh q)),aoL,fun _ q=>.inl (q.of (fun _=>rfl) hAk (fun x q=>DE x (h.Nh q)) hmk),qF DE⟩
 ·intro b cs ca hb
  rw [aC.cn] at hb;split at hb
  ·simp at hb
  ·obtain ⟨x,c2,h1,h2,h3⟩:=h.row b cs ca hb
   have:=h.jc b x h1;exact ⟨x,c2,h1,by rw [qu,aB (by omega)]; exact h2,h3.mono hle⟩
 ·intro b t Ls hb
  rw [aC.cn] at hb;split at hb
  ·rename_i e
   simp at hb;obtain ⟨rfl,rfl⟩:=hb;subst e;refine .inr ⟨g,by simp [Env.wN],Ps,fun x hx cs e own q k hr=>?_⟩;rw [qu] at hr;rw [oC,aW rfl] at hx;split at hr
   ·simp at hr
    obtain ⟨rfl,rfl,_,_,rfl⟩:=hr;exact ⟨rfl,Nat.le_of_eq hc⟩
   ·rename_i eU
    rcases ff.1 hx with hx | hx
    ·exact absurd hx eU
    ·rcases hf with ⟨_,h1⟩ | h1
     ·rw [h1,h.fresh _ (aX _)] at hx; simp at hx
     ·rcases h.bm b top sz hA with ⟨_,h2⟩ | ⟨g2,h2,_,h3⟩
      ·rw [h1] at h2; simp at h2
      ·rw [h1] at h2
       simp at h2;subst h2;obtain ⟨h4,h5⟩:=h3 x hx cs e own q k hr;exact ⟨h4,um h5 (Nat.mul_le_mul_right _ ht)⟩
  ·rename_i PL
   rcases h.bm b t Ls hb with ⟨h1,h2⟩ | ⟨g2,h2,hp2,h3⟩
   ·exact .inl ⟨h1,by simp only [Env.wN,Env.ir]; rw [aB PL]; exact h2⟩
   ·have eU:g2≠g:=by
     intro e;subst e;rcases hf with ⟨_,h1⟩ | h1
     ·have:=h.mL b g2 h2; omega
     ·exact PL (h.lT b f g2 _ _ _ _ hb hA h2 h1)
    refine .inr ⟨g2,by simp only [Env.wN,Env.ir]; rw [aB PL]; exact h2,hp2,fun x hx cs e own q k hr=>?_⟩;rw [oC,aB eU] at hx;have:=h.mem g2 x hx;rw [qu,aB (by omega)] at hr;exact h3 x hx cs e own q k hr
 ·intro b r hb
  simp only [Env.wN,Env.ir] at hb;rw [qu];split at hb
  ·rename_i e; simp at hb; subst hb; rw [aW e]
  ·rename_i e; rw [aB e]; exact h.z b r hb
 ·intro b x hb
  have hb:E.κ b=some x:=hb;have:=h.jc b x hb;simp only [Env.wN,Env.ir];rw [aB (by omega)];exact h.apart b x hb
 ·exact h.inj
 ·intro b d q tb sb td sd lb ld hb hd
  simp only [Env.wN,Env.ir] at hb hd;rw [aC.cn] at lb ld;have key:∀ d t s,d≠f->A.get d=some (.bm t s)->E.φ d≠some g:=by
   intro d t s hd hl e;rcases hf with ⟨_,h1⟩ | h1
   ·have:=h.mL d g e; omega
   ·exact hd (h.lT d f g _ _ _ _ hl hA e h1)
  by_cases e1:b=f <;> by_cases e2:d=f
  ·omega
  ·rw [aW e1] at hb; rw [aB e2] at hd ld; simp at hb; subst hb; exact absurd hd (key d _ _ e2 ld)
  ·rw [aW e2] at hd; rw [aB e1] at hb lb; simp at hd; subst hd; exact absurd hb (key b _ _ e1 lb)
  ·rw [aB e1] at hb lb; rw [aB e2] at hd ld; exact h.lT b d q _ _ _ _ lb ld hb hd
 ·exact h.ow
 ·intro b q hb
  simp only [Env.wN,Env.ir] at hb;rw [aC.wC];split at hb
  ·omega
  ·exact h.qD b q hb
 ·intro b o hb
  rw [aC.cn] at hb;rw [aC.wC];split at hb
  ·omega
  ·exact h.live b o hb
 ·intro b x hb; have:=h.jc b x hb; omega
 ·intro b r hb
  simp only [Env.wN,Env.ir] at hb;rw [kr];split at hb
  ·omega
  ·have:=h.qX b r hb; omega
 ·intro b q hb
  simp only [Env.wN,Env.ir] at hb;rw [kr];split at hb
  ·simp at hb; omega
  ·have:=h.mL b q hb; omega
 ·intro q hq
  rw [kr] at hq;rw [oC,aB (by omega)];exact h.fresh q (by omega)
 ·intro q x hx
  rw [kr];rw [oC] at hx;split at hx
  ·rcases ff.1 hx with hx | hx
   ·omega
   ·have:=h.mem g x hx; omega
  ·have:=h.mem q x hx; omega
 ·intro x hx _ _; rw [qu,aB (by omega)]
end Go.K
end
