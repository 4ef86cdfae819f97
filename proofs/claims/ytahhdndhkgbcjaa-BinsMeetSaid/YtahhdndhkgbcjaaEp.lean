/- Part of the proof of BinsMeet: a machine that runs the program's code over open terms, shown to be the model's, and the plain models of its functions. No conditions. -/
import Derived.Test.YtahhdndhkgbcjaaDp
section
namespace Go.K
open Go Go.aV
variable {P:Program} {E:Env}
def aE {α:Type} (r:KR α) (v:α):Prop:=
  match r with
  | .no=>False
  | .ok u=>u=v
  | .il c u=>c=true∧u=v
  | .br c x y=>(c=true∧aE x v)∨(c=false∧aE y v)
theorem KR.ss {α R:Type} {k:α→Option R} {x:R} : ∀ {r:KR α},r.run k=some x→∃ v,aE r v∧k v=some x:=by
  intro r h
  match r,h with
  | .no,h=>exact absurd h (by simp [KR.run])
  | .ok v,h=>exact ⟨v,rfl,h⟩
  | .il c v,h=>
    cases c with
    | false=>exact absurd h (by simp [KR.run])
    | true=>exact ⟨v,⟨rfl,rfl⟩,h⟩
  | .br c x y,h=>
    cases c with
    | false=>obtain ⟨v,h1,h2⟩:=KR.ss (r:=y) (k:=k) h; exact ⟨v,.inr ⟨rfl,h1⟩,h2⟩
    | true=>obtain ⟨v,h1,h2⟩:=KR.ss (r:=x) (k:=k) h; exact ⟨v,.inl ⟨rfl,h1⟩,h2⟩
theorem aE.at {α:Type} {i:Int} {f:Nat→KR α} {v:α} : ∀ {m j:Nat},aE (adq i f m j) v→∃ k,j≤k∧k < j+m∧i=(k:Int)∧aE (f k) v
  | 0,j,h=>h.elim
  | m+1,j,h=>by
    rcases h with ⟨h1,h2⟩ | ⟨_,h2⟩
    · exact ⟨j,Nat.le_refl j,by omega,of_decide_eq_true h1,h2⟩
    · obtain ⟨k,h3,h4,h5,h6⟩:=aE.at (m:=m) (j:=j+1) h2
      exact ⟨k,by omega,by omega,h5,h6⟩
theorem aE.of {α:Type} {o:Option α} {v:α} (h:aE (KR.of o) v):o=some v:=by
  cases o with
  | none=>exact h.elim
  | some u=>have h:u=v:=h; rw [h]
theorem aE.cond {α:Type} {c:Bool} {r:KR α} {v:α} (h:aE (cond c r .no) v):c=true∧aE r v:=by
  cases c with
  | false=>exact h.elim
  | true=>exact ⟨rfl,h⟩
theorem CM {α:Type} {c:Bool} {r:Option α} {v:α} (h:cond c r none=some v):c=true∧r=some v:=by
  cases c with
  | false=>simp at h
  | true=>exact ⟨rfl,h⟩
def oY (P:Program) (f:FP) (g:List Value→Option Value):Prop:=
  ∀ (E:Env) (vs:List KV) (us:List Value) (v:KV),aO P E vs us→aE (f vs) v→∃ u,g us=some u∧VK P E v u
theorem aao:oY P Yg B6:=by
  intro E vs us v h hg
  match vs,hg with
  | [x],hg=>
    obtain ⟨y,rfl,h1⟩:=h.cG
    have hg:x=v:=hg
    subst hg
    exact ⟨y,rfl,h1⟩
theorem aes:oY P Yh B6:=by
  intro E vs us v h hg
  match vs,hg with
  | [.bool b],hg=>
    obtain ⟨y,rfl,h1⟩:=h.cG
    have hb:v = .bool b:=by
      rcases hg with ⟨rfl,h2⟩ | ⟨rfl,h2⟩
      · exact (show KV.bool true=v from h2).symm
      · exact (show KV.bool false=v from h2).symm
    subst hb
    exact ⟨_,rfl,h1⟩
  | [x],hg=>
    have key:v=x:=by
      cases x <;> first | exact (show _=v from hg).symm | skip
      rcases hg with ⟨rfl,h2⟩ | ⟨rfl,h2⟩
      · exact (show KV.bool true=v from h2).symm
      · exact (show KV.bool false=v from h2).symm
    subst key
    obtain ⟨y,rfl,h1⟩:=h.cG
    exact ⟨_,rfl,h1⟩
theorem aet {b:Bool} : oY P (cond b Yh Yg) B6:=by
  cases b with
  | true=>exact aes
  | false=>exact aao
theorem afV:oY P acf Sk:=by
  intro E vs us v h hg
  match vs,hg with
  | [.bool t,.bool a,.bool b],hg=>
    obtain ⟨x,y,z,rfl,h1,h2,h3⟩:=h.JM
    have:=h1.cF; subst this
    have:=h2.cF; subst this
    have:=h3.cF; subst this
    have hg:KV.bool (cond t a b)=v:=hg
    subst hg
    exact ⟨_,rfl,by cases t <;> exact .l8⟩
  | [.bool t,a,b],hg=>
    obtain ⟨x,y,z,rfl,h1,h2,h3⟩:=h.JM
    have:=h1.cF; subst this
    refine ⟨_,rfl,?_⟩
    have hg:v=cond t a b∨∃ p q,a = .bool p∧b = .bool q∧v = .bool (cond t p q):=by
      unfold acf at hg
      split at hg
      · rename_i t' a' b' e
        simp at e
        obtain ⟨rfl,rfl,rfl⟩:=e
        exact .inr ⟨_,_,rfl,rfl,hg.symm⟩
      · rename_i t' a' b' _ e
        simp at e
        obtain ⟨rfl,rfl,rfl⟩:=e
        exact .inl hg.symm
      · exact hg.elim
    rcases hg with rfl | ⟨p,q,rfl,rfl,rfl⟩
    · cases t
      · exact h3
      · exact h2
    · have:=h2.cF; subst this
      have:=h3.cF; subst this
      cases t <;> exact .l8
theorem OD {v:KV} {u:Value} (h:VK P E v u) (hk:pw v=true):aV.known u=true:=by
  cases v with
  | agg cs=>obtain ⟨l,rfl,q⟩:=h.iQ; rfl
  | int k n=>have:=h.bW; subst this; rfl
  | bool b=>have:=h.cF; subst this; rfl
  | str b=>have:=h.mq; subst this; rfl
  | fI cs=>obtain ⟨l,rfl,_⟩:=h.Fv; rfl
  | ts T m n es acc=>obtain ⟨_,_,_,a,cap,rfl,_⟩:=h.iu; rfl
  | tp T Tc i k es acc=>obtain ⟨_,_,_,_,_,b,off,r,rfl,_⟩:=h.CJ; rfl
  | al T b o n=>obtain ⟨a,c,rfl⟩:=h.qT.slice; rfl
  | ap T Tc b i k=>obtain ⟨x,L,N,_,_,_,rfl⟩:=h.yX; rfl
  | ptr b off=>obtain ⟨x,_,rfl⟩:=h.eF; rfl
  | sl b off n c=>obtain ⟨x,_,rfl⟩:=h.Hs; rfl
  | w7=>simp only [VK] at h; subst h; rfl
  | gw=>simp only [VK] at h; subst h; rfl
  | s9=>simp only [VK] at h; subst h; rfl
  | map b=>simp only [VK] at h; obtain ⟨x,_,rfl⟩:=h; rfl
  | fn f a b=>obtain ⟨l,m,rfl,_⟩:=h.yW; rfl
  | xV=>simp only [VK] at h; subst h; rfl
  | iface t x=>simp only [VK] at h; obtain ⟨y,rfl,_⟩:=h; rfl
  | xW=>simp only [VK] at h; subst h; rfl
  | av=>simp [pw] at hk
theorem Fw {v:KV} {u:Value} (h:VK P E v u) (hk:pw v=true):u.cells.size=v.cells.length:=by
  have:=(h.cells hk).length
  simpa using this
theorem Tt {place:Nat→Option (Nat×Nat)} : ∀ {ps:List (Nat×KV)} {qs:List (Nat×Value)} {cs r:List KV} {bk:List Value},ps.map (·.1)=qs.map (·.1)→aO P E (ps.map (·.2)) (qs.map (·.2))→(∀ p ∈ ps,pw p.2=true)→
    aO P E cs bk→Ot place cs ps=some r→∃ r',sM place bk qs=some r'∧aO P E r r'
  | [],[],cs,r,bk,_,_,_,h,e=>by simp [Ot] at e; subst e; exact ⟨bk,rfl,h⟩
  | [],_ :: _,_,_,_,e,_,_,_,_=>by simp at e
  | _ :: _,[],_,_,_,e,_,_,_,_=>by simp at e
  | (i,v) :: ps,(j,u) :: qs,cs,r,bk,e1,e2,hk,h,e=>by
    simp only [List.map_cons,List.cons.injEq] at e1
    obtain ⟨rfl,e1⟩:=e1
    obtain ⟨y,ys,e3,h1,h2⟩:=e2.cons_inv
    simp only [List.map_cons,List.cons.injEq] at e3
    obtain ⟨rfl,rfl⟩:=e3
    have hkv:pw v=true:=hk (i,v) (by simp)
    simp only [Ot] at e
    simp only [sM]
    split at e
    · rename_i off size hp
      rw [hp]
      obtain ⟨hc,e⟩:=CM e
      obtain ⟨jY,e4,e5⟩:=Option.bind_eq_some_iff.1 e
      obtain ⟨r1,e6,h3⟩:=aO.gG e4 h (h1.cells hkv)
      obtain ⟨r',e7,h4⟩:=Tt e1 h2 (fun p hp=>hk p (by simp [hp])) h3 e5
      refine ⟨r',?_,h4⟩
      simp only
      rw [Fw h1 hkv,hc,cond_true,e6]
      exact e7
    · simp at e
theorem Tu:∀ (is:List Nat) {vs:List KV} {us:List Value},aO P E vs us→(ta is vs).map (·.1)=(zipIdx is us).map (·.1)∧aO P E ((ta is vs).map (·.2)) ((zipIdx is us).map (·.2))
  | [],_,_,_=>by simp [ta,zipIdx,aO.nil]
  | i :: is,[],us,h=>by rw [h.bh]; simp [ta,zipIdx,aO.nil]
  | i :: is,v :: vs,us,h=>by
    obtain ⟨y,ys,rfl,h1,h2⟩:=h.cons_inv
    obtain ⟨h3,h4⟩:=Tu is h2
    exact ⟨by simp [ta,zipIdx,h3],by simpa [ta,zipIdx] using aO.cons h1 h4⟩
theorem Tv:∀ (is:List Nat) (vs:List KV),∀ p ∈ ta is vs,p.2 ∈ vs
  | [],_,p,h=>by simp [ta] at h
  | i :: is,[],p,h=>by simp [ta] at h
  | i :: is,v :: vs,p,h=>by
    simp only [ta,List.mem_cons] at h
    rcases h with rfl | h
    · simp
    · simp [Tv is vs p h]
theorem CN:∀ {vs:List KV} {us:List Value},aO P E vs us→vs.all pw=true→us.all aV.known=true
  | [],us,h,_=>by rw [h.bh]; rfl
  | v :: vs,us,h,k=>by
    obtain ⟨y,ys,rfl,h1,h2⟩:=h.cons_inv
    simp only [List.all_cons,Bool.and_eq_true] at k ⊢
    exact ⟨OD h1 k.1,CN h2 k.2⟩
theorem W5 {place:Nat→Option (Nat×Nat)} {z:Value} {is:List Nat} (hz:flat z=true) (h1:dV (eG z).cells=true):oY P (Hl place (eG z).cells is) (uC place z is):=by
  intro E vs us v h hg
  unfold Hl at hg
  split at hg
  · rename_i cs hf
    obtain ⟨hk,hg⟩:=hg.cond
    have hg:KV.agg cs=v:=hg
    subst hg
    obtain ⟨h2,h3⟩:=Tu is h
    obtain ⟨r',e,hr⟩:=Tt h2 h3 (fun p hp=>by have:=Tv is vs p hp; exact List.all_eq_true.1 hk _ this) (uU (P:=P) (E:=E) h1) hf
    refine ⟨.agg ⟨r'⟩,?_,.kP hr⟩
    unfold uC
    rw [hz,CN h hk]
    simp [e,kP]
  · exact hg.elim
theorem ahG:oY P Th B8:=by
  intro E vs us v h hg
  match vs,hg with
  | [.ptr b off],hg=>
    obtain ⟨y,rfl,h1⟩:=h.cG
    have hg:KV.ptr b off=v:=hg
    subst hg
    have q:=h1
    obtain ⟨x,e,rfl⟩:=h1.eF
    exact ⟨_,rfl,q⟩
  | [.tp T Tc i k es acc],hg=>
    obtain ⟨y,rfl,h1⟩:=h.cG
    have hg:KV.tp T Tc i k es acc=v:=hg
    subst hg
    have q:=h1
    obtain ⟨_,_,_,_,_,b,off,r,rfl,_⟩:=h1.CJ
    exact ⟨_,rfl,q⟩
  | [.ap T Tc b i k],hg=>
    obtain ⟨y,rfl,h1⟩:=h.cG
    have hg:KV.ap T Tc b i k=v:=hg
    subst hg
    have q:=h1
    obtain ⟨x,L,N,_,_,_,rfl⟩:=h1.yX
    exact ⟨_,rfl,q⟩
  | [.fn (.func f) a b],hg=>
    obtain ⟨y,rfl,h1⟩:=h.cG
    have hg:KV.fn (.func f) a b=v:=hg
    subst hg
    have q:=h1
    obtain ⟨l,m,rfl,_⟩:=h1.yW
    exact ⟨_,rfl,q⟩
theorem Fx {s ft:TypeId} {off:Nat} (h:R8 P s off ft=true):∀ m c,(a6 P ft).ks[m]? = some c→(a6 P s).ks[off+m]? = some c:=by
  unfold R8 at h
  have key:∀ (a b:List CK),uR a b=true→a=b:=by
    intro a
    induction a with
    | nil=>intro b hb; cases b <;> simp_all [uR]
    | cons x xs ih=>
      intro b hb
      cases b with
      | nil=>simp [uR] at hb
      | cons y ys=>
        simp only [uR,Bool.and_eq_true] at hb
        rw [ih ys hb.2]
        congr 1
        cases x <;> cases y <;> simp_all [afS]
  split at h
  · rename_i l e
    obtain ⟨rfl,hl⟩:=Hr e
    have:=key _ _ h
    intro m c hm
    rw [← this,List.getElem?_take] at hm
    split at hm
    · rwa [Bm,List.getElem?_drop] at hm
    · simp at hm
  · simp at h
theorem V3 {s ft:TypeId} {off:Nat} {sn:Bool} (Tw:sn=R8 P s off ft):oY P (Qo s off ft sn) (yI off):=by
  intro E vs us v h hg
  match vs,hg with
  | [.ptr b o],hg=>
    obtain ⟨y,rfl,h1⟩:=h.cG
    have hg:KV.ptr b (o+off)=v:=hg
    subst hg
    obtain ⟨x,e,rfl⟩:=h1.eF
    exact ⟨_,rfl,.rz e⟩
  | [.tp T Tc i k es acc],hg=>
    obtain ⟨y,rfl,h1⟩:=h.cG
    obtain ⟨hc,hg⟩:=aE.cond hg
    have hg:KV.tp T ft i (k+off) es acc=v:=hg
    subst hg
    simp only [Bool.and_eq_true] at hc
    have:=Nat.eq_of_beq_eq_true hc.1
    subst this
    obtain ⟨ht,aU,h2,hi,hw,b,o,r,rfl,h4,h5⟩:=h1.CJ
    refine ⟨_,rfl,?_⟩
    simp only [VK]
    refine ⟨ht,aU,h2,hi,⟨fun m c hm=>?_⟩,b,o,r,by simp only [Value.pointer.injEq,Option.some.injEq,Addr.mk.injEq,and_true,true_and]; omega,h4,h5⟩
    have hp:=Fx (Tw ▸ hc.2) m c hm
    have:=hw.is _ _ hp
    rwa [show k+(off+m)=k+off+m by omega] at this
  | [.ap T Tc b i k],hg=>
    obtain ⟨y,rfl,h1⟩:=h.cG
    obtain ⟨hc,hg⟩:=aE.cond hg
    have hg:KV.ap T ft b i (k+off)=v:=hg
    subst hg
    simp only [Bool.and_eq_true] at hc
    have:=Nat.eq_of_beq_eq_true hc.1
    subst this
    obtain ⟨x,L,N,h2,hw,hi,rfl⟩:=h1.yX
    refine ⟨_,rfl,.afU ⟨x,L,N,h2,⟨fun m c hm=>?_⟩,hi,by simp only [Value.pointer.injEq,Option.some.injEq,Addr.mk.injEq,and_true,true_and]; omega⟩⟩
    have hp:=Fx (Tw ▸ hc.2) m c hm
    have:=hw.is _ _ hp
    rwa [show k+(off+m)=k+off+m by omega] at this
theorem aap {t:TypeId} {cs:List KV} {bk:List Value} {off:Nat} {v:KV} (h:aO P E cs bk) (e:Ow P t cs off=some v):∃ u,partOf P t bk off=some u∧VK P E v u:=by
  unfold Ow at e
  unfold partOf
  split at e
  · rename_i ha
    rw [ha]
    obtain ⟨n,hn,e⟩:=Option.bind_eq_some_iff.1 e
    obtain ⟨l,hl,rfl⟩:=Option.map_eq_some_iff.1 e
    obtain ⟨r,hr,hv,_⟩:=h.oS hl
    exact ⟨.agg ⟨r⟩,by simp [hn,hr],.kP hv⟩
  · rename_i ha
    rw [ha]
    rw [Bm] at e
    have hd:=h.drop off
    cases hc:cs.drop off with
    | nil=>rw [hc] at e; simp at e
    | cons x xs=>
      rw [hc] at e hd
      simp at e
      subst e
      obtain ⟨y,ys,e2,h1,_⟩:=hd.cons_inv
      exact ⟨y,by simp [mf,e2],h1⟩
  · simp at e
theorem aeu {fd:Field} : oY P (adp P fd) (Xy P fd):=by
  intro E vs us v h hg
  match vs,hg with
  | [.agg cs],hg=>
    obtain ⟨y,rfl,h1⟩:=h.cG
    obtain ⟨l,rfl,h2⟩:=h1.iQ
    exact aap h2 hg.of
theorem su {i:Int} {n:Nat} (h:Ti i n=true):∃ m,i = .ofNat m∧m < n∧i.toNat=m:=by
  simp only [Ti,Bool.and_eq_true,decide_eq_true_eq] at h
  obtain ⟨m,rfl⟩:=Int.eq_ofNat_of_zero_le h.1
  exact ⟨m,rfl,by omega,rfl⟩
theorem jZ {m n:Nat} (h:m < n):fL (.ofNat m) n=some m:=by
  have:Nat.blt m n=true:=by rw [Nat.blt_eq]; exact h
  simp [fL,this]
theorem aE.il {α:Type} {c:Bool} {u v:α} (h:aE (.il c u) v):c=true∧u=v:=h
theorem Qs {t e:TypeId} {len n m:Nat} (hq:uR (a6 P t).ks (cu (a6 P e).ks len)=true) (hn:(a6 P e).ks.length=n) (hm:m < len):∀ a c,(a6 P e).ks[a]? = some c→(a6 P t).ks[m * n+a]? = some c:=by
  intro a c ha
  have key:∀ (l:List CK) (cnt m a:Nat) (c:CK),m < cnt→l[a]? = some c→(cu l cnt)[m * l.length+a]? = some c:=by
    intro l cnt
    induction cnt with
    | zero=>intro m a c hm; omega
    | succ cnt ih=>
      intro m a c hm hl
      have aY:a < l.length:=(List.getElem?_eq_some_iff.1 hl).1
      cases m with
      | zero=>simp only [cu,Nat.zero_mul,Nat.zero_add]; rw [List.getElem?_append_left aY]; exact hl
      | succ m=>
        simp only [cu]
        rw [List.getElem?_append_right (by rw [Nat.succ_mul]; omega),show (m+1) * l.length+a - l.length=m * l.length+a by rw [Nat.succ_mul]; omega]
        exact ih m a c (by omega) hl
  have aj5:∀ (a b:List CK),uR a b=true→a=b:=by
    intro a
    induction a with
    | nil=>intro b hb; cases b <;> simp_all [uR]
    | cons x xs ih=>
      intro b hb
      cases b with
      | nil=>simp [uR] at hb
      | cons y ys=>
        simp only [uR,Bool.and_eq_true] at hb
        rw [ih ys hb.2]
        congr 1
        cases x <;> cases y <;> simp_all [afS]
  have h6:=key (a6 P e).ks len m a c hm ha
  rw [← aj5 _ _ hq,hn] at h6
  exact h6
theorem Ym {t e:TypeId} {len n:Nat} : oY P (Tj P t len n e) (Jm len n):=by
  intro E vs us v h hg
  match vs,hg with
  | [.ptr b o,.int k i],hg=>
    have hg:aE (cond (Nat.ble len 8) (adq i (fun j=>.ok (.ptr b (o+j * n))) len 0) (.il (Ti i len) (.ptr b (o+i.toNat * n)))) v:=hg
    obtain ⟨x,y,rfl,h1,h2⟩:=h.gW
    obtain ⟨x,e,rfl⟩:=h1.eF
    have:=h2.bW; subst this
    have key:∃ m:Nat,i=(m:Int)∧m < len∧v = .ptr b (o+m * n):=by
      cases hb:Nat.ble len 8 with
      | true=>rw [hb,cond_true] at hg; obtain ⟨m,_,h3,h4,h5⟩:=aE.at hg; exact ⟨m,h4,by omega,(show KV.ptr b (o+m * n)=v from h5).symm⟩
      | false=>rw [hb,cond_false] at hg; obtain ⟨hc,rfl⟩:=aE.il hg; obtain ⟨m,rfl,hm,JN⟩:=su hc; exact ⟨m,rfl,hm,by rw [JN]⟩
    obtain ⟨m,rfl,hm,rfl⟩:=key
    refine ⟨_,?_,.rz e⟩
    show (fL (.ofNat m) len).bind _=_
    rw [jZ hm]; rfl
  | [.tp T Tc j k es acc,.int q i],hg=>
    obtain ⟨x,y,rfl,h1,h2⟩:=h.gW
    obtain ⟨nz,hg⟩:=aE.cond hg
    obtain ⟨hc,rfl⟩:=aE.il hg
    have:=h2.bW; subst this
    obtain ⟨m,rfl,hm,JN⟩:=su hc
    rw [JN]
    simp only [Bool.and_eq_true] at nz
    have:=Nat.eq_of_beq_eq_true nz.1.1
    subst this
    have hn:(a6 P e).ks.length=n:=Nat.eq_of_beq_eq_true nz.2
    obtain ⟨ht,aU,h3,hi,hw,b,o,r,rfl,h4,h5⟩:=h1.CJ
    refine ⟨_,by (show (fL (.ofNat m) len).bind _=_); rw [jZ hm]; rfl,?_⟩
    simp only [VK]
    refine ⟨ht,aU,h3,hi,⟨fun a c ha=>?_⟩,b,o,r,by simp only [Value.pointer.injEq,Option.some.injEq,Addr.mk.injEq,and_true,true_and]; omega,h4,h5⟩
    have h6:=Qs nz.1.2 hn hm a c ha
    have:=hw.is _ _ h6
    rwa [show k+(m * n+a)=k+m * n+a by omega] at this
  | [.ap T Tc b j k,.int q i],hg=>
    obtain ⟨x,y,rfl,h1,h2⟩:=h.gW
    obtain ⟨nz,hg⟩:=aE.cond hg
    obtain ⟨hc,rfl⟩:=aE.il hg
    have:=h2.bW; subst this
    obtain ⟨m,rfl,hm,JN⟩:=su hc
    rw [JN]
    simp only [Bool.and_eq_true] at nz
    have:=Nat.eq_of_beq_eq_true nz.1.1
    subst this
    have hn:(a6 P e).ks.length=n:=Nat.eq_of_beq_eq_true nz.2
    obtain ⟨x,L,N,h3,hw,hi,rfl⟩:=h1.yX
    refine ⟨_,by (show (fL (.ofNat m) len).bind _=_); rw [jZ hm]; rfl,.afU ⟨x,L,N,h3,⟨fun a c ha=>?_⟩,hi,by simp only [Value.pointer.injEq,Option.some.injEq,Addr.mk.injEq,and_true,true_and]; omega⟩⟩
    have h6:=Qs nz.1.2 hn hm a c ha
    have:=hw.is _ _ h6
    rwa [show k+(m * n+a)=k+m * n+a by omega] at this
theorem aaq {e n:Nat} {sn:Bool} (Tw:sn=Nat.beq (a6 P e).ks.length n):oY P (WY e n sn) (G0 n):=by
  intro E vs us v h hg
  match vs,hg with
  | [.sl b o len cap,.int k i],hg=>
    obtain ⟨x,y,rfl,h1,h2⟩:=h.gW
    obtain ⟨hc,rfl⟩:=aE.il hg
    obtain ⟨x,e,rfl⟩:=h1.Hs
    have:=h2.bW; subst this
    obtain ⟨m,rfl,hm,JN⟩:=su hc
    rw [JN]
    exact ⟨_,by (show (fL (.ofNat m) len).bind _=_); rw [jZ hm]; rfl,.rz e⟩
  | [.ts T mk len es acc,.int q i],hg=>
    obtain ⟨x,y,rfl,h1,h2⟩:=h.gW
    obtain ⟨nz,hg⟩:=aE.cond hg
    obtain ⟨hc,rfl⟩:=aE.il hg
    have:=h2.bW; subst this
    obtain ⟨m,rfl,hm,JN⟩:=su hc
    rw [JN]
    simp only [Bool.and_eq_true] at nz
    have:=Nat.eq_of_beq_eq_true nz.1
    subst this
    have hn:(a6 P T).ks.length=n:=Nat.eq_of_beq_eq_true (Tw ▸ nz.2)
    obtain ⟨ht,aU,h3,a,cap,rfl,h4,h5,h6⟩:=h1.iu
    rcases h5 with ⟨_,h0⟩ | ⟨b,off,r,rfl,h7,h8,h9⟩
    · omega
    · refine ⟨_,by (show (fL (.ofNat m) len).bind _=_); rw [jZ hm]; rfl,?_⟩
      have hl:=ht.len
      simp only [VK]
      refine ⟨⟨rfl,fun i hi=>ht.acc i (by omega),ht.typed⟩,aU,h3,by omega,⟨fun a c ha=>by simpa using ha⟩,b,off,r,?_,h7,h9⟩
      simp only [aL,hn,Value.pointer.injEq,Option.some.injEq,Addr.mk.injEq,and_true,true_and]
      omega
  | [.al T b o len,.int q i],hg=>
    obtain ⟨x,y,rfl,h1,h2⟩:=h.gW
    obtain ⟨nz,hg⟩:=aE.cond hg
    obtain ⟨hc,rfl⟩:=aE.il hg
    have:=h2.bW; subst this
    obtain ⟨m,rfl,hm,JN⟩:=su hc
    rw [JN]
    simp only [Bool.and_eq_true] at nz
    have:=Nat.eq_of_beq_eq_true nz.1
    subst this
    have hn:(a6 P T).ks.length=n:=Nat.eq_of_beq_eq_true (Tw ▸ nz.2)
    rcases h1.qT with ⟨h0,_⟩ | ⟨x,L,N,c,h3,rfl,h4,h5,h6⟩
    · omega
    · refine ⟨_,by (show (fL (.ofNat m) len).bind _=_); rw [jZ hm]; rfl,.afU ⟨x,L,N,h3,⟨fun a c ha=>by simpa using ha⟩,by omega,?_⟩⟩
      simp only [aL,hn,Value.pointer.injEq,Option.some.injEq,Addr.mk.injEq,and_true,true_and]
      rw [Nat.add_mul]; omega
theorem Yn {len n:Nat} {e:TypeId} : oY P (JH P len n e) (Jn P len n e):=by
  intro E vs us v h hg
  match vs,hg with
  | [.agg cs,.int k i],hg=>
    obtain ⟨x,y,rfl,h1,h2⟩:=h.gW
    obtain ⟨l,rfl,h3⟩:=h1.iQ
    have:=h2.bW; subst this
    simp only [JH] at hg
    have key:∃ m:Nat,i=(m:Int)∧m < len∧Ow P e cs (m * n)=some v:=by
      cases hb:Nat.ble len 8 with
      | true=>rw [hb,cond_true] at hg; obtain ⟨m,_,h3,h4,h5⟩:=aE.at hg; exact ⟨m,h4,by omega,aE.of h5⟩
      | false=>
        rw [hb,cond_false] at hg
        split at hg
        · rename_i u hu
          obtain ⟨hc,rfl⟩:=aE.il hg
          obtain ⟨m,rfl,hm,JN⟩:=su hc
          rw [JN] at hu
          exact ⟨m,rfl,hm,hu⟩
        · exact hg.elim
    obtain ⟨m,rfl,hm,hu⟩:=key
    obtain ⟨w,h4,h5⟩:=aap h3 hu
    exact ⟨w,by (show (fL (.ofNat m) len).bind _=_); rw [jZ hm]; exact h4,h5⟩
theorem Yo:oY P Tk Jo:=by
  intro E vs us v h hg
  match vs,hg with
  | [.str s,.int k i],hg=>
    obtain ⟨x,y,rfl,h1,h2⟩:=h.gW
    have:=h1.mq; subst this
    have:=h2.bW; subst this
    obtain ⟨hc,rfl⟩:=aE.il hg
    obtain ⟨m,rfl,hm,JN⟩:=su hc
    rw [JN]
    have hl:m < s.data.toList.length:=by simpa using hm
    refine ⟨.int .u8 (s.data.toList.getD m 0).toNat,?_,.mkInt⟩
    show (fL (.ofNat m) s.size).bind _=_
    rw [jZ hm]
    show (s.data.toList[m]?).map _=_
    simp [List.getD,List.getElem?_eq_getElem hl]
theorem aar {α:Type} : ∀ (n:Nat) (l:List α),aad n l=l[n]?
  | n,[]=>by cases n <;> rfl
  | 0,x :: _=>rfl
  | n+1,_ :: xs=>by simp [aad,aar n xs]
theorem aas {i:Nat} : oY P (WZ i) (AB i):=by
  intro E vs us v h hg
  match vs,hg with
  | [.fI ws],hg=>
    obtain ⟨y,rfl,h1⟩:=h.cG
    obtain ⟨l,rfl,h2⟩:=h1.Fv
    have:=hg.of
    rw [aar] at this
    obtain ⟨u,h3,h4⟩:=h2.get this
    exact ⟨u,by simpa [AB] using h3,h4⟩
theorem aev:oY P adr KM:=by
  intro E vs us v h hg
  match vs,hg with
  | [.ts T m n es acc],hg=>
    obtain ⟨y,rfl,h1⟩:=h.cG
    obtain ⟨_,_,_,a,cap,rfl,_⟩:=h1.iu
    have hg:KV.int .i64 n=v:=hg
    subst hg
    exact ⟨_,rfl,.mkInt⟩
  | [.sl b o n c],hg=>
    obtain ⟨y,rfl,h1⟩:=h.cG
    obtain ⟨x,_,rfl⟩:=h1.Hs
    have hg:KV.int .i64 n=v:=hg
    subst hg
    exact ⟨_,rfl,.mkInt⟩
  | [.al T b o n],hg=>
    obtain ⟨y,rfl,h1⟩:=h.cG
    obtain ⟨a,c,rfl⟩:=h1.qT.slice
    have hg:KV.int .i64 n=v:=hg
    subst hg
    exact ⟨_,rfl,.mkInt⟩
  | [.gw],hg=>
    obtain ⟨y,rfl,h1⟩:=h.cG
    have:=h1.jI; subst this
    have hg:KV.int .i64 0=v:=hg
    subst hg
    exact ⟨_,rfl,.mkInt⟩
theorem acj:oY P aae KN:=by
  intro E vs us v h hg
  match vs,hg with
  | [.str s],hg=>
    obtain ⟨y,rfl,h1⟩:=h.cG
    have:=h1.mq; subst this
    have hg:KV.int .i64 s.size=v:=hg
    subst hg
    exact ⟨_,rfl,.mkInt⟩
theorem aew:oY P adn Sq:=by
  intro E vs us v h hg
  match vs,hg with
  | [.str s],hg=>
    obtain ⟨y,rfl,h1⟩:=h.cG
    have:=h1.mq; subst this
    have hg:KV.str s=v:=hg
    subst hg
    exact ⟨_,rfl,.mkStr⟩
theorem Yp {f:Fn} {k:Nat} : oY P (CE f k) (xL f k):=by
  intro E vs us v h hg
  unfold CE at hg
  split at hg
  · rename_i l hl
    have hg:KV.fn f l (uQ k vs)=v:=hg
    subst hg
    have gN:oS k (uQ 0 vs)=some l:=hl
    obtain ⟨r,h1,h2,_⟩:=h.oS gN
    have h1:takeN k us=some r:=h1
    refine ⟨_,by simp [xL,h1]; rfl,.aan h2 ?_⟩
    rw [Bm,mf]
    exact h.drop k
  · exact hg.elim
theorem aex {src dst:TypeId} {k k' : IntKind} (h2:P.underlying dst=some (.int k)) (h3:P.underlying src=some (.int k')):oY P (adm k) (AA P src dst):=by
  intro E vs us v h hg
  match vs,hg with
  | [.int j n],hg=>
    obtain ⟨y,rfl,h1⟩:=h.cG
    have:=h1.bW; subst this
    have hg:KV.int k (k.wrap n)=v:=hg
    subst hg
    refine ⟨.int k (k.wrap n),?_,.mkInt⟩
    simp only [AA,h2]
    simp [convert,underlying,program,Bind.bind,Sem.bind,bM,h2,h3,Conv.intToInt,Pure.pure]
end Go.K
end
section
namespace Go.K
open Go Go.aV
variable {P:Program} {E:Env}
theorem cJ {α β:Type} : ∀ {s:Sem α} {f:α→Sem β} {a:α},bM P s=some a→bM P (s >>= f)=bM P (f a)
  | .pure x,f,a,h=>by simp [bM] at h; subst h; rfl
  | .program k,f,a,h=>by
    have:=cJ (s:=k P) (f:=f) (a:=a) (by simpa [bM] using h)
    exact this
  | .mark m k,f,a,h=>by
    have:=cJ (s:=k) (f:=f) (a:=a) (by simpa [bM] using h)
    exact this
  | .load ..,_,_,h | .store ..,_,_,h | .new ..,_,_,h | .shape ..,_,_,h | .freeze ..,_,_,h | .frozen ..,_,_,h | .getObj ..,_,_,h
  | .setObj ..,_,_,h | .choose ..,_,_,h | .sys ..,_,_,h | .halt ..,_,_,h=>by simp [bM] at h
theorem xY {α β:Type} {init stop:β} {B:α→β→Sem (ForInStep β)} {g:α→Bool} : ∀ {l:List α},(∀ x ∈ l,bM P (B x init)=some (if g x=true then .yield init else .done stop))→
    bM P (forIn l init B)=some (if l.all g=true then init else stop)
  | [],_=>rfl
  | x :: l,h=>by
    have hx:=h x (by simp)
    rw [List.forIn_cons,cJ hx]
    cases hg:g x with
    | true=>
      simp only [if_true]
      rw [xY fun y hy=>h y (by simp [hy])]
      simp [hg]
    | false=>simp [hg]; rfl
theorem qf {t:TypeId} {d:TypeDesc} (h:P.underlying t=some d):bM P (underlying t)=some d:=by
  simp [underlying,program,Bind.bind,Sem.bind,bM,h,Pure.pure]
theorem LK {t:TypeId} {i:TypeInfo} (h:P.info? t=some i):bM P (typeInfo t)=some i:=by
  simp [typeInfo,program,Bind.bind,Sem.bind,bM,h,Pure.pure]
theorem bq {α:Type} (a:α):bM P (pure a)=some a:=rfl
theorem DE {t:TypeId} {i:TypeInfo} (h:P.info? t=some i):bM P (sizeOf t)=some i.size:=by
  unfold sizeOf
  rw [cJ (LK h)]
  rfl
theorem Tx {n:Nat} {t:TypeId} {L:pt} (h:lay P n t=some L):∃ d,P.underlying t=some d∧L.agg=RZ d∧(L.agg=false→L.ks.length=1):=by
  cases n with
  | zero=>simp [lay] at h
  | succ n=>
    simp only [lay] at h
    split at h <;> rename_i hu
    · simp at h; subst h; exact ⟨_,hu,rfl,fun _=>rfl⟩
    · simp at h; subst h; exact ⟨_,hu,rfl,fun _=>rfl⟩
    · simp at h; subst h; exact ⟨_,hu,rfl,fun _=>rfl⟩
    · simp at h; subst h; exact ⟨_,hu,rfl,fun _=>rfl⟩
    · obtain ⟨ks,_,rfl⟩:=Option.map_eq_some_iff.1 h; exact ⟨_,hu,rfl,fun h=>by simp at h⟩
    · obtain ⟨ks,_,rfl⟩:=Option.map_eq_some_iff.1 h; exact ⟨_,hu,rfl,fun h=>by simp at h⟩
    · rename_i d h1 h2 h3 h4 h5 h6
      simp at h; subst h
      refine ⟨_,hu,?_,fun _=>rfl⟩
      cases d <;> first | rfl | simp_all
    · simp at h
def th (agg:Bool) (l:List Value):Value:=cond agg (.agg ⟨l⟩) (l.headD undef)
theorem Ir {n:Nat} {t:TypeId} {L:pt} {i:TypeInfo} {cs:Array Value} {off:Nat} (h:lay P n t=some L) (hi:P.info? t=some i) (hs:i.size=L.ks.length) (hl:off+L.ks.length≤cs.size) :
    bM P (part t cs off)=some (th L.agg ((cs.toList.drop off).take L.ks.length)):=by
  obtain ⟨d,hu,ha,h1⟩:=Tx h
  have aj6:bM P (isAgg t)=some (RZ d):=by
    unfold isAgg
    rw [cJ (qf hu)]
    cases d <;> rfl
  unfold part
  rw [cJ aj6]
  cases hd:RZ d with
  | true=>
    rw [hd] at ha
    simp only [if_true]
    rw [cJ (DE hi)]
    simp only [bq,ha,th,cond_true,hs]
    congr 2
    apply Array.ext'
    simp
  | false=>
    rw [hd] at ha
    have h1:=h1 ha
    have aY:off < cs.size:=by omega
    simp only [Bool.false_eq_true,if_false]
    rw [Array.getElem?_eq_getElem aY]
    simp only [bq,ha,th,cond_false,h1]
    congr 1
    have:cs.toList.drop off=cs.toList[off] :: cs.toList.drop (off+1):=List.drop_eq_getElem_cons (by simpa using aY)
    rw [this]
    simp
theorem LL:∀ {xs ys:List KV} {b:Bool},mO xs ys=some b→xs.length=ys.length
  | [],[],_,_=>rfl
  | [],_ :: _,_,h=>by simp [mO] at h
  | _ :: _,[],_,h=>by simp [mO] at h
  | x :: xs,y :: ys,b,h=>by
    simp only [mO] at h
    split at h
    · rename_i h2; simp [LL h2]
    · simp at h
theorem sv:∀ (n:Nat) {xs ys:List KV} {b:Bool},mO xs ys=some b→∃ b1 b2,mO (xs.take n) (ys.take n)=some b1∧mO (xs.drop n) (ys.drop n)=some b2∧b=(b1 && b2)
  | 0,xs,ys,b,h=>⟨true,b,by simp [mO],by simpa using h,by simp⟩
  | n+1,[],[],b,h=>by simp [mO] at h; subst h; exact ⟨true,true,by simp [mO],by simp [mO],rfl⟩
  | n+1,[],_ :: _,b,h=>by simp [mO] at h
  | n+1,_ :: _,[],b,h=>by simp [mO] at h
  | n+1,x :: xs,y :: ys,b,h=>by
    simp only [mO] at h
    split at h
    · rename_i a c h1 h2
      simp at h
      obtain ⟨b1,b2,h3,h4,h5⟩:=sv n h2
      refine ⟨a && b1,b2,by simp [mO,h1,h3],by simpa using h4,?_⟩
      rw [← h,h5,Bool.and_assoc]
    · simp at h
def uW (xs ys:List KV) (off n:Nat):Bool:=(mO ((xs.drop off).take n) ((ys.drop off).take n)).getD false
theorem W6 {xs ys:List KV} {b:Bool} (h:mO xs ys=some b) (off n:Nat):mO ((xs.drop off).take n) ((ys.drop off).take n)=some (uW xs ys off n):=by
  obtain ⟨_,_,_,h2,_⟩:=sv off h
  obtain ⟨b1,_,h3,_,_⟩:=sv n h2
  unfold uW
  rw [h3]; rfl
theorem nD:∀ {a b:List CK} {xs:List KV},ax (a ++ b) xs=true→ax a (xs.take a.length)=true∧ax b (xs.drop a.length)=true
  | [],b,xs,h=>by simpa [ax] using h
  | c :: a,b,[],h=>by simp [ax] at h
  | c :: a,b,x :: xs,h=>by
    simp only [List.cons_append,ax,Bool.and_eq_true] at h
    obtain ⟨h1,h2⟩:=nD h.2
    simp [ax,h.1,h1,h2]
theorem kT:∀ {a:List CK} {xs:List KV},ax a xs=true→xs.length=a.length
  | [],[],_=>rfl
  | [],_ :: _,h=>by simp [ax] at h
  | _ :: _,[],h=>by simp [ax] at h
  | c :: a,x :: xs,h=>by
    simp only [ax,Bool.and_eq_true] at h
    simp [kT h.2]
theorem Ty {lf:TypeId→Option pt} {xs ys:List KV} {b:Bool} (he:mO xs ys=some b):∀ {fs:List Field} {off:Nat} {ks:List CK},Fk lf fs off=some ks→ax ks (xs.drop off)=true→ax ks (ys.drop off)=true→off+ks.length=xs.length→
    (∀ f ∈ fs,∃ L,lf f.type=some L∧f.offset+L.ks.length≤xs.length∧ax L.ks ((xs.drop f.offset).take L.ks.length)=true∧ax L.ks ((ys.drop f.offset).take L.ks.length)=true)∧
    mO (xs.drop off) (ys.drop off)=some (fs.all fun f=>uW xs ys f.offset (((lf f.type).map (·.ks.length)).getD 0))
  | [],off,ks,h,_,_,hl=>by
    simp [Fk] at h
    subst h
    have h1:xs.drop off = []:=by simp at hl; simp; omega
    have h2:ys.drop off = []:=by have:=LL he; simp at hl; simp; omega
    refine ⟨by simp,?_⟩
    rw [h1,h2]; rfl
  | f :: fs,off,ks,h,hk,qc,hl=>by
    simp only [Fk] at h
    obtain ⟨DB,h⟩:=CM h
    have DB:=Nat.eq_of_beq_eq_true DB
    obtain ⟨L,h1,h⟩:=Option.bind_eq_some_iff.1 h
    obtain ⟨r,h2,rfl⟩:=Option.map_eq_some_iff.1 h
    obtain ⟨k1,k2⟩:=nD hk
    obtain ⟨k1',Yq⟩:=nD qc
    rw [List.drop_drop] at k2 Yq
    simp only [List.length_append] at hl
    obtain ⟨h3,h4⟩:=Ty he h2 k2 Yq (by omega)
    refine ⟨fun g hg=>?_,?_⟩
    · rcases List.mem_cons.1 hg with rfl | hg
      · exact ⟨L,h1,by omega,by rw [DB]; exact k1,by rw [DB]; exact k1'⟩
      · exact h3 g hg
    · obtain ⟨_,_,_,h5,_⟩:=sv off he
      obtain ⟨c1,c2,h6,h7,h8⟩:=sv L.ks.length h5
      rw [List.drop_drop,List.drop_drop] at h7
      rw [h4] at h7
      simp at h7
      have h9:=W6 he off L.ks.length
      rw [h6] at h9
      simp at h9
      rw [h5,h8]
      simp only [List.all_cons,h1,Option.map_some,Option.getD_some,DB,← h9]
      rw [← h7]
theorem wP {α:Type} (l:List α):∀ n,(cu l n).length=n * l.length
  | 0=>by simp [cu]
  | n+1=>by rw [cu,List.length_append,wP l n,Nat.succ_mul]; omega
theorem Tz {xs ys:List KV} {l:List CK} : ∀ {len off:Nat} {b:Bool},mO (xs.drop off) (ys.drop off)=some b→ax (cu l len) (xs.drop off)=true→ax (cu l len) (ys.drop off)=true→
    (∀ i,i < len→ax l ((xs.drop (off+i * l.length)).take l.length)=true∧ax l ((ys.drop (off+i * l.length)).take l.length)=true)∧
    mO (xs.drop off) (ys.drop off)=some ((List.range' 0 len).all fun i=>uW xs ys (off+i * l.length) l.length)
  | 0,off,b,h,hk,qc=>by
    have h1:xs.drop off = []:=by have:=kT hk; simp only [cu,List.length_nil] at this; exact List.length_eq_zero_iff.1 this
    have h2:ys.drop off = []:=by have:=kT qc; simp only [cu,List.length_nil] at this; exact List.length_eq_zero_iff.1 this
    refine ⟨fun i hi=>by omega,?_⟩
    rw [h1,h2]; rfl
  | len+1,off,b,h,hk,qc=>by
    obtain ⟨c1,c2,h1,h2,h3⟩:=sv l.length h
    rw [List.drop_drop,List.drop_drop] at h2
    obtain ⟨k1,k2⟩:=nD (a:=l) (b:=cu l len) hk
    obtain ⟨k1',Yq⟩:=nD (a:=l) (b:=cu l len) qc
    rw [List.drop_drop] at k2 Yq
    obtain ⟨h5,h4⟩:=Tz (len:=len) (off:=off+l.length) h2 k2 Yq
    refine ⟨fun i hi=>?_,?_⟩
    · cases i with
      | zero=>simpa using ⟨k1,k1'⟩
      | succ i=>
        have:=h5 i (by omega)
        rwa [show off+l.length+i * l.length=off+(i+1) * l.length by rw [Nat.succ_mul]; omega] at this
    rw [h2] at h4
    simp at h4
    have hw:uW xs ys off l.length=c1:=by unfold uW; rw [h1]; rfl
    rw [h,h3]
    rw [List.range'_succ]
    simp only [List.all_cons,Nat.zero_mul,Nat.add_zero,hw,Nat.zero_add]
    congr 2
    rw [h4]
    have:List.range' 1 len=(List.range' 0 len).map (1 + ·):=by rw [List.map_add_range']
    rw [this,List.all_map]
    apply congrArg (fun f=>List.all (List.range' 0 len) f)
    funext i
    simp only [Function.comp]
    congr 1
    rw [Nat.add_mul]; omega
theorem aat:∀ (n d:Nat) (t:TypeId) (L:pt) (cx cy:List KV) (xs ys:List Value) (b:Bool),w8 P n t=true→lay P n t=some L→n≤d→aO P E cx xs→aO P E cy ys→ax L.ks cx=true→ax L.ks cy=true→
    mO cx cy=some b→bM P (Op.equalIn d t (th L.agg xs) (th L.agg ys))=some b
  | 0,_,_,_,_,_,_,_,_,h,_,_,_,_,_,_,_=>by simp [w8] at h
  | n+1,0,_,_,_,_,_,_,_,_,_,h,_,_,_,_,_=>by omega
  | n+1,d+1,t,L,cx,cy,xs,ys,b,h,hL,hd,hx,hy,Ya,hky,he=>by
    have hl:=kT Ya
    have hly:=kT hky
    have hlx' : xs.length=L.ks.length:=by rw [hx.length,hl]
    have hly' : ys.length=L.ks.length:=by rw [hy.length,hly]
    have adw:∀ s,w8 P n s=true→∃ i l,P.info? s=some i∧lay P n s=some l∧i.size=l.ks.length:=by
      intro s hs
      cases n with
      | zero=>simp [w8] at hs
      | succ n=>
        simp only [w8,Bool.and_eq_true] at hs
        have h1:=hs.1
        split at h1
        · rename_i i l e1 e2
          exact ⟨i,l,e1,e2,Nat.eq_of_beq_eq_true h1⟩
        · simp at h1
    have aiq:∀ (s:TypeId) (l:pt) (i:TypeInfo) (off:Nat),w8 P n s=true→lay P n s=some l→P.info? s=some i→i.size=l.ks.length→off+l.ks.length≤cx.length→
        ax l.ks ((cx.drop off).take l.ks.length)=true→ax l.ks ((cy.drop off).take l.ks.length)=true→
        (do
          let u ← part s ⟨xs⟩ off
          let v ← part s ⟨ys⟩ off
          Op.equalIn d s u v:Sem Bool)=(do
          let u ← part s ⟨xs⟩ off
          let v ← part s ⟨ys⟩ off
          Op.equalIn d s u v)∧bM P (part s ⟨xs⟩ off)=some (th l.agg ((xs.drop off).take l.ks.length))∧bM P (part s ⟨ys⟩ off)=some (th l.agg ((ys.drop off).take l.ks.length))∧
        bM P (Op.equalIn d s (th l.agg ((xs.drop off).take l.ks.length)) (th l.agg ((ys.drop off).take l.ks.length)))=some (uW cx cy off l.ks.length):=by
      intro s l i off h1 h2 h3 h4 h5 h6 h7
      refine ⟨rfl,?_,?_,?_⟩
      · exact Ir h2 h3 h4 (by simp; omega)
      · exact Ir h2 h3 h4 (by simp; omega)
      · exact aat n d s l _ _ _ _ _ h1 h2 (by omega) ((hx.drop off).take _) ((hy.drop off).take _) h6 h7 (W6 he off _)
    simp only [w8,Bool.and_eq_true] at h
    have h2:=h.2
    obtain ⟨dd,hu,ha,h1⟩:=Tx hL
    rw [hu] at h2
    unfold Op.equalIn
    rw [cJ (qf hu)]
    simp only [lay,hu] at hL
    have LM:∀ c,L.ks = [c]→∃ x y u v,cx = [x]∧cy = [y]∧xs = [u]∧ys = [v]∧VK P E x u∧VK P E y v∧eqK x y=some b∧kindOk c x=true∧kindOk c y=true:=by
      intro c hc
      rw [hc] at hl hly Ya hky
      match cx,cy,hl,hly with
      | [x],[y],_,_=>
        obtain ⟨u,rfl,h2⟩:=hx.cG
        obtain ⟨v,rfl,h3⟩:=hy.cG
        refine ⟨x,y,u,v,rfl,rfl,rfl,rfl,h2,h3,?_,by simpa [ax] using Ya,by simpa [ax] using hky⟩
        simp only [mO] at he
        split at he
        · rename_i a c h4 h5
          simp at h5
          subst h5
          simpa [h4] using he
        · simp at he
    cases dd with
    | int k=>
      simp at hL
      subst hL
      obtain ⟨x,y,u,v,rfl,rfl,rfl,rfl,h3,h4,h5,h6,h7⟩:=LM _ rfl
      cases x <;> simp [kindOk] at h6
      cases y <;> simp [kindOk] at h7
      subst h6 h7
      have:=h3.bW; subst this
      have:=h4.bW; subst this
      simp [eqK] at h5
      subst h5
      simp [th,bq]
    | bool=>
      simp at hL
      subst hL
      obtain ⟨x,y,u,v,rfl,rfl,rfl,rfl,h3,h4,h5,h6,h7⟩:=LM _ rfl
      cases x <;> simp [kindOk] at h6
      cases y <;> simp [kindOk] at h7
      have:=h3.cF; subst this
      have:=h4.cF; subst this
      simp [eqK] at h5
      subst h5
      simp [th,bq]
    | string=>
      simp at hL
      subst hL
      obtain ⟨x,y,u,v,rfl,rfl,rfl,rfl,h3,h4,h5,h6,h7⟩:=LM _ rfl
      cases x <;> simp [kindOk] at h6
      cases y <;> simp [kindOk] at h7
      have:=h3.mq; subst this
      have:=h4.mq; subst this
      simp [eqK] at h5
      subst h5
      simp [th,bq]
    | struct fs=>
      simp only [Option.map_eq_some_iff] at hL
      obtain ⟨ks,mi,rfl⟩:=hL
      simp only [Bool.and_eq_true,Bool.not_eq_true'] at h2
      obtain ⟨h3,h4⟩:=Ty he mi (by simpa using Ya) (by simpa using hky) (by simpa using hl.symm)
      simp only [List.drop_zero] at h4
      rw [he] at h4
      simp only [Option.some.injEq] at h4
      simp only [th,cond_true]
      rw [cJ (a:=P) (by simp [program,bM])]
      simp only [h2.1,Bool.false_eq_true,if_false]
      rw [← Array.forIn_toList]
      rw [cJ (xY (g:=fun f=>uW cx cy f.offset (((lay P n f.type).map (·.ks.length)).getD 0)) (stop:=(some false,())) fun f hf=>?_)]
      · rw [h4]
        cases (fs.toList.all fun f=>uW cx cy f.offset (((lay P n f.type).map (·.ks.length)).getD 0)) <;> rfl
      · have h5:=List.all_eq_true.1 h2.2 f hf
        simp only [Bool.and_eq_true,Bool.not_eq_true',beq_eq_false_iff_ne] at h5
        rw [if_pos h5.1]
        obtain ⟨l,h6,h7,h8,h9⟩:=h3 f hf
        obtain ⟨i,l',e1,e2,e3⟩:=adw _ h5.2
        rw [h6] at e2
        simp at e2
        subst e2
        obtain ⟨_,w1,w2,w3⟩:=aiq _ l i f.offset h5.2 h6 e1 e3 h7 h8 h9
        rw [cJ w1,cJ w2,cJ w3]
        simp only [h6,Option.map_some,Option.getD_some]
        cases uW cx cy f.offset l.ks.length <;> rfl
    | array len e=>
      simp only [Option.map_eq_some_iff] at hL
      obtain ⟨l,EZ,rfl⟩:=hL
      obtain ⟨h3,h4⟩:=Tz (xs:=cx) (ys:=cy) (l:=l.ks) (len:=len) (off:=0) (by simpa using he) (by simpa using Ya) (by simpa using hky)
      simp only [List.drop_zero,Nat.zero_add] at h3 h4
      rw [he] at h4
      simp only [Option.some.injEq] at h4
      obtain ⟨i,l',e1,e2,e3⟩:=adw _ h2
      rw [EZ] at e2
      simp at e2
      subst e2
      simp only [th,cond_true]
      rw [cJ (DE e1)]
      rw [Std.Legacy.Range.forIn_eq_forIn_range']
      rw [show List.range' [:len].start [:len].size [:len].step=List.range' 0 len from by simp [Std.Legacy.Range.size]]
      rw [cJ (xY (g:=fun i=>uW cx cy (i * l.ks.length) l.ks.length) (stop:=(some false,())) fun j hj=>?_)]
      · rw [h4]
        cases ((List.range' 0 len).all fun i=>uW cx cy (i * l.ks.length) l.ks.length) <;> rfl
      · have nX:j < len:=by simpa using hj
        obtain ⟨k1,k2⟩:=h3 j nX
        have hle:j * l.ks.length+l.ks.length≤cx.length:=by
          rw [hl]
          simp only [wP]
          rw [← Nat.succ_mul]
          exact Nat.mul_le_mul_right _ nX
        obtain ⟨_,w1,w2,w3⟩:=aiq _ l i (j * l.ks.length) h2 EZ e1 e3 hle k1 k2
        rw [e3]
        rw [cJ w1,cJ w2,cJ w3]
        cases uW cx cy (j * l.ks.length) l.ks.length <;> rfl
    | _=>simp at h2
theorem Fy:∀ {ks:List CK} {cs:List KV} {l:List Value},ax ks cs=true→aO P E cs l→(∀ t,CK.slice t ∉ ks)→kO l=true
  | [],[],l,_,h,_=>by rw [h.bh]; rfl
  | [],_ :: _,_,h,_,_=>by simp [ax] at h
  | _ :: _,[],_,h,_,_=>by simp [ax] at h
  | c :: ks,v :: cs,l,h,hv,hn=>by
    obtain ⟨y,ys,rfl,h1,h2⟩:=hv.cons_inv
    simp only [ax,Bool.and_eq_true] at h
    have:=Fy h.2 h2 (fun t ht=>hn t (by simp [ht]))
    simp only [kO,this,Bool.and_true]
    cases c with
    | int k=>cases v <;> simp [kindOk] at h; have:=h1.bW; subst this; rfl
    | bool=>cases v <;> simp [kindOk] at h; have:=h1.cF; subst this; rfl
    | str=>cases v <;> simp [kindOk] at h; have:=h1.mq; subst this; rfl
    | slice t=>exact absurd (by simp) (hn t)
    | other=>cases v <;> simp [kindOk] at h
theorem Fz:∀ (n:Nat) (t:TypeId) (L:pt),w8 P n t=true→lay P n t=some L→∀ u,CK.slice u ∉ L.ks
  | 0,_,_,h,_,_=>by simp [w8] at h
  | n+1,t,L,h,hL,u=>by
    simp only [w8,Bool.and_eq_true] at h
    have h2:=h.2
    obtain ⟨dd,hu,_,_⟩:=Tx hL
    rw [hu] at h2
    simp only [lay,hu] at hL
    cases dd with
    | int k=>simp at hL; subst hL; simp
    | bool=>simp at hL; subst hL; simp
    | string=>simp at hL; subst hL; simp
    | struct fs=>
      simp only [Option.map_eq_some_iff] at hL
      obtain ⟨ks,mi,rfl⟩:=hL
      simp only [Bool.and_eq_true,List.all_eq_true] at h2
      have key:∀ (l:List Field) (off:Nat) (ks:List CK),Fk (lay P n) l off=some ks→(∀ f ∈ l,w8 P n f.type=true)→CK.slice u ∉ ks:=by
        intro l
        induction l with
        | nil=>intro off ks h _; simp [Fk] at h; subst h; simp
        | cons f l ih=>
          intro off ks h hf
          simp only [Fk] at h
          obtain ⟨_,h⟩:=CM h
          obtain ⟨L',h5,h⟩:=Option.bind_eq_some_iff.1 h
          obtain ⟨r,h6,rfl⟩:=Option.map_eq_some_iff.1 h
          rw [List.mem_append]
          rintro (h7 | h7)
          · exact Fz n _ _ (hf f (by simp)) h5 u h7
          · exact ih _ _ h6 (fun g hg=>hf g (by simp [hg])) h7
      exact key _ _ _ mi fun f hf=>(h2.2 f hf).2
    | array len e=>
      simp only [Option.map_eq_some_iff] at hL
      obtain ⟨l,EZ,rfl⟩:=hL
      have:=Fz n e l h2 EZ u
      have key:∀ m,CK.slice u ∉ cu l.ks m:=by
        intro m
        induction m with
        | zero=>simp [cu]
        | succ m ih=>simp only [cu,List.mem_append,not_or]; exact ⟨this,ih⟩
      exact key _
    | _=>simp at h2
theorem ack {t:TypeId} (h:w8 P 12 t=true):lay P 12 t=some (a6 P t):=by
  simp only [w8,Bool.and_eq_true] at h
  have h1:=h.1
  unfold a6
  split at h1
  · rename_i i l e1 e2; rw [e2]; rfl
  · simp at h1
theorem aau {t:TypeId} {x y:KV} {b:Bool} {lit:Bool} {u v:Value} (hx:VK P E x u) (hy:VK P E y v) (h:afQ P t x y=some b):kX P t lit u v=some b:=by
  unfold afQ at h
  split at h
  · rename_i xs ys
    obtain ⟨hc,h⟩:=CM h
    simp only [Bool.and_eq_true,Bool.not_eq_true'] at hc
    obtain ⟨⟨⟨⟨ha,h1⟩,h2⟩,h3⟩,h4⟩:=hc
    obtain ⟨l,rfl,hl⟩:=hx.iQ
    obtain ⟨m,rfl,hm⟩:=hy.iQ
    have hL:=ack h1
    have Z3:=Fz 12 t _ h1 hL
    have hfx:flat (.agg ⟨l⟩)=true:=Fy h3 hl Z3
    have hfy:flat (.agg ⟨m⟩)=true:=Fy h4 hm Z3
    have hs:=aat 12 Op.maxDepth t (a6 P t) xs ys l m b h1 hL (by unfold Op.maxDepth; omega) hl hm h3 h4 h
    rw [ha] at hs
    have hs:bM P (Op.equal t (.agg ⟨l⟩) (.agg ⟨m⟩))=some b:=hs
    unfold kX
    simp only [fK,qN,h2,Bool.not_false,Bool.and_self,cond_true]
    unfold Sj
    split <;> simp_all
  · rename_i a c
    split at h
    · rename_i hu
      simp at h
      subst h
      have:=hx.cF; subst this
      have:=hy.cF; subst this
      have:bM P (Op.equal t (.bool a) (.bool c))=some (a == c):=by
        unfold Op.equal Op.maxDepth Op.equalIn
        rw [cJ (qf hu)]
        rfl
      unfold kX
      simp only [fK,qN,Bool.and_self,cond_true]
      unfold Sj
      split <;> simp_all [flat]
    · simp at h
  · split at h
    · rename_i e hu
      simp at h
      subst h
      have:=hx.jI; subst this
      have:=hy.jI; subst this
      simp [kX,fK,qN,Sj,hu]
    · simp at h
  · rename_i T m n es acc
    split at h
    · rename_i e hu
      cases hn:Nat.beq n 0 with
      | true=>rw [hn] at h; simp at h
      | false=>
        rw [hn] at h
        simp at h
        subst h
        have:=hy.jI; subst this
        obtain ⟨_,aU,_,a,cap,rfl,_,hb,_⟩:=hx.iu
        rcases hb with ⟨_,h0⟩ | ⟨b,off,r,rfl,_⟩
        · subst h0; simp at hn
        · simp [kX,fK,qN,Sj,hu]
    · simp at h
  · rename_i T m n es acc
    split at h
    · rename_i e hu
      cases hn:Nat.beq n 0 with
      | true=>rw [hn] at h; simp at h
      | false=>
        rw [hn] at h
        simp at h
        subst h
        have:=hx.jI; subst this
        obtain ⟨_,aU,_,a,cap,rfl,_,hb,_⟩:=hy.iu
        rcases hb with ⟨_,h0⟩ | ⟨b,off,r,rfl,_⟩
        · subst h0; simp at hn
        · simp [kX,fK,qN,Sj,hu]
    · simp at h
  · split at h
    · rename_i e hu
      simp at h
      subst h
      have:=hx.Ht; subst this
      have:=hy.Ht; subst this
      simp [kX,fK,qN,Sj,hu]
    · simp at h
  · split at h
    · rename_i e hu
      simp at h
      subst h
      have:=hy.Ht; subst this
      obtain ⟨x,_,rfl⟩:=hx.eF
      simp [kX,fK,qN,Sj,hu]
    · simp at h
  · split at h
    · rename_i e hu
      simp at h
      subst h
      have:=hx.Ht; subst this
      obtain ⟨x,_,rfl⟩:=hy.eF
      simp [kX,fK,qN,Sj,hu]
    · simp at h
  · simp at h
theorem ahH {op:BinOp} {t:TypeId} {lit:Bool} : oY P (afR P op t) (lP P op t lit):=by
  intro E vs us w h hg
  unfold afR at hg
  split at hg
  · rename_i j a k b
    obtain ⟨x,y,rfl,h1,h2⟩:=h.gW
    have:=h1.bW; subst this
    have:=h2.bW; subst this
    cases hs:aac op with
    | true=>
      rw [hs,cond_true] at hg
      cases op <;> simp [aac] at hs
      · obtain ⟨hc,rfl⟩:=aE.il hg
        simp only [Bool.not_eq_true',decide_eq_false_iff_not] at hc
        exact ⟨_,by simp [lP,binOp,Op.shift,hc,bq],.mkInt⟩
      · obtain ⟨hc,rfl⟩:=aE.il hg
        simp only [Bool.not_eq_true',decide_eq_false_iff_not] at hc
        exact ⟨_,by simp [lP,binOp,Op.shift,hc,bq],.mkInt⟩
    | false=>
      rw [hs,cond_false] at hg
      obtain ⟨hjk,hz⟩:=hg.cond
      clear hg
      simp only [decide_eq_true_eq] at hjk
      subst hjk
      cases op with
      | shl=>simp [aac] at hs
      | shr=>simp [aac] at hs
      | quo=>
        obtain ⟨hc,rfl⟩:=aE.il hz
        simp only [Bool.not_eq_true',decide_eq_false_iff_not] at hc
        exact ⟨_,by simp [lP,binOp,Op.intDiv,hc,bq],.mkInt⟩
      | rem=>
        obtain ⟨hc,rfl⟩:=aE.il hz
        simp only [Bool.not_eq_true',decide_eq_false_iff_not] at hc
        exact ⟨_,by simp [lP,binOp,Op.intDiv,hc,bq],.mkInt⟩
      | add=>have hz:KV.int _ _=w:=hz; subst hz; exact ⟨_,by simp [lP,binOp,Op.intArith,bq],.mkInt⟩
      | sub=>have hz:KV.int _ _=w:=hz; subst hz; exact ⟨_,by simp [lP,binOp,Op.intArith,bq],.mkInt⟩
      | mul=>have hz:KV.int _ _=w:=hz; subst hz; exact ⟨_,by simp [lP,binOp,Op.intArith,bq],.mkInt⟩
      | and=>have hz:KV.int _ _=w:=hz; subst hz; exact ⟨_,by simp [lP,binOp,Op.intBits,bq],.mkInt⟩
      | or=>have hz:KV.int _ _=w:=hz; subst hz; exact ⟨_,by simp [lP,binOp,Op.intBits,bq],.mkInt⟩
      | xor=>have hz:KV.int _ _=w:=hz; subst hz; exact ⟨_,by simp [lP,binOp,Op.intBits,bq],.mkInt⟩
      | andNot=>have hz:KV.int _ _=w:=hz; subst hz; exact ⟨_,by simp [lP,binOp,Op.intBits,bq],.mkInt⟩
      | eql=>have hz:KV.bool _=w:=hz; subst hz; exact ⟨_,by simp [lP,binOp,Op.intCmp,bq],.l8⟩
      | neq=>have hz:KV.bool _=w:=hz; subst hz; exact ⟨_,by simp [lP,binOp,Op.intCmp,bq],.l8⟩
      | lss=>have hz:KV.bool _=w:=hz; subst hz; exact ⟨_,by simp [lP,binOp,Op.intCmp,bq],.l8⟩
      | leq=>have hz:KV.bool _=w:=hz; subst hz; exact ⟨_,by simp [lP,binOp,Op.intCmp,bq],.l8⟩
      | gtr=>have hz:KV.bool _=w:=hz; subst hz; exact ⟨_,by simp [lP,binOp,Op.intCmp,bq],.l8⟩
      | geq=>have hz:KV.bool _=w:=hz; subst hz; exact ⟨_,by simp [lP,binOp,Op.intCmp,bq],.l8⟩
  · rename_i a b
    obtain ⟨x,y,rfl,h1,h2⟩:=h.gW
    have:=h1.mq; subst this
    have:=h2.mq; subst this
    split at hg
    · have hg:KV.bool _=w:=hg; subst hg; exact ⟨_,by simp [lP,binOp,Op.stringOp,bq],.l8⟩
    · have hg:KV.bool _=w:=hg; subst hg; exact ⟨_,by simp [lP,binOp,Op.stringOp,bq],.l8⟩
    · have hg:KV.bool _=w:=hg; subst hg; exact ⟨_,by simp [lP,binOp,Op.stringOp,bq],.l8⟩
    · obtain ⟨hc,rfl⟩:=aE.il hg
      have hc:=Nat.le_of_ble_eq_true hc
      have hn : ¬ (((a.size+b.size:Nat):Int) > IntKind.i64.max):=by
        have:IntKind.i64.max=9223372036854775807:=by decide
        rw [this]; omega
      refine ⟨.string (a ++ b),?_,.mkStr⟩
      simp only [lP,binOp,Op.stringOp]
      rw [if_neg hn]
      rfl
    · exact hg.elim
  · rename_i x y SM hn2
    obtain ⟨u,v,rfl,h1,h2⟩:=h.gW
    split at hg
    · rename_i b he
      have hg:KV.bool b=w:=hg
      subst hg
      have:=aau (lit:=lit) h1 h2 he
      refine ⟨.bool b,?_,.l8⟩
      unfold lP
      split
      · rename_i e; simp at e; obtain ⟨rfl,rfl⟩:=e; simp [kX,fK] at this
      · rename_i e; simp at e; obtain ⟨rfl,rfl⟩:=e; simp [kX,fK] at this
      · rename_i e; simp at e; obtain ⟨rfl,rfl⟩:=e; simp [this]
      · rename_i e; exact absurd rfl (e _ _)
    · rename_i b he
      have hg:KV.bool (!b)=w:=hg
      subst hg
      have:=aau (lit:=lit) h1 h2 he
      refine ⟨.bool !b,?_,.l8⟩
      unfold lP
      split
      · rename_i e; simp at e; obtain ⟨rfl,rfl⟩:=e; simp [kX,fK] at this
      · rename_i e; simp at e; obtain ⟨rfl,rfl⟩:=e; simp [kX,fK] at this
      · rename_i e; simp at e; obtain ⟨rfl,rfl⟩:=e; simp [this]
      · rename_i e; exact absurd rfl (e _ _)
    · exact hg.elim
  · exact hg.elim
theorem ai1 {op:UnOp} : oY P (kUn op) (Zw P op):=by
  intro E vs us w h hg
  unfold kUn at hg
  split at hg
  · rename_i b
    obtain ⟨y,rfl,h1⟩:=h.cG
    have:=h1.cF; subst this
    split at hg
    · have hg:KV.bool (!b)=w:=hg
      subst hg
      exact ⟨_,by simp [Zw,Op.unary,bq],.l8⟩
    · exact hg.elim
  · rename_i k n
    obtain ⟨y,rfl,h1⟩:=h.cG
    have:=h1.bW; subst this
    split at hg
    · have hg:KV.int _ _=w:=hg
      subst hg
      exact ⟨.int k (k.wrap (0 - n)),by simp [Zw,Op.unary,Op.intArith,bq],.mkInt⟩
    · have hg:KV.int _ _=w:=hg
      subst hg
      exact ⟨_,by simp [Zw,Op.unary,Op.intBits,bq],.mkInt⟩
    · exact hg.elim
  · exact hg.elim
theorem TA {mx:Bool} : oY P (Bc mx) (B9 P fun vs=>cond mx (Builtin.max_ #[] 0 ⟨vs⟩) (Builtin.min_ #[] 0 ⟨vs⟩)):=by
  intro E vs us w h hg
  unfold Bc at hg
  split at hg
  · rename_i j a k b
    obtain ⟨x,y,rfl,h1,h2⟩:=h.gW
    have:=h1.bW; subst this
    have:=h2.bW; subst this
    obtain ⟨hjk,hz⟩:=hg.cond
    clear hg
    simp only [decide_eq_true_eq] at hjk
    subst hjk
    have hz:KV.int _ _=w:=hz
    subst hz
    refine ⟨_,?_,.mkInt⟩
    cases mx
    · simp [B9,kO,flat,Builtin.min_,Builtin.min2,bq]
      omega
    · simp [B9,kO,flat,Builtin.max_,Builtin.max2,bq]
      omega
  · rename_i j a k b l c
    obtain ⟨x,y,z,rfl,h1,h2,h3⟩:=h.JM
    have:=h1.bW; subst this
    have:=h2.bW; subst this
    have:=h3.bW; subst this
    obtain ⟨hjk,hz⟩:=hg.cond
    clear hg
    simp only [Bool.and_eq_true,decide_eq_true_eq] at hjk
    obtain ⟨rfl,rfl⟩:=hjk
    have hz:KV.int _ _=w:=hz
    subst hz
    refine ⟨_,?_,.mkInt⟩
    cases mx
    · show some (Value.int j (if c < (if b < a then b else a) then c else (if b < a then b else a)))=some (Value.int j (min (min a b) c))
      congr 2
      split <;> split at * <;> omega
    · show some (Value.int j (if c > (if b > a then b else a) then c else (if b > a then b else a)))=some (Value.int j (max (max a b) c))
      congr 2
      split <;> split at * <;> omega
  · exact hg.elim
end Go.K
end
section
namespace Go.K
open Go Go.aV
variable {P:Program} {E:Env}
theorem AR.of {E' : Env} {A A' : ak} {x:Nat} (m4:∀ b,E'.α b=E.α b) (ha:∀ b v,A'.get b=some (.arr v)→A.get b=some (.arr v)) (h:AR A' E' x):AR A E x:=by
  obtain ⟨b,v,L,N,h1,h2⟩:=h
  exact ⟨b,v,L,N,ha _ _ h1,by rw [← m4]; exact h2⟩
theorem AF.of {E' : Env} {A A' : ak} {B B' : St} {g:Nat} (m4:∀ b,E'.α b=E.α b) (ha:∀ b v,A'.get b=some (.arr v)→A.get b=some (.arr v)) (hB:∀ x,AR A E x→B'.get x=B.get x) (h:AF A' E' B' g):AF A E B g:=by
  obtain ⟨b,v,x,L,N,cs,e,own,k,h1,h2,h3⟩:=h
  have AX:E.α b=some (x,L,N):=by rw [← m4]; exact h2
  exact ⟨b,v,x,L,N,cs,e,own,k,ha _ _ h1,AX,by rw [← hB x ⟨b,v,L,N,ha _ _ h1,AX⟩]; exact h3⟩
theorem AT.of {E' : Env} {A A' : ak} {B B' : St} {y:Nat} (m4:∀ b,E'.α b=E.α b) (ha:∀ b v,A'.get b=some (.arr v)→A.get b=some (.arr v)) (hB:∀ x,AR A E x→B'.get x=B.get x) (hm:∀ g,AF A E B g→B'.members g=B.members g) (h:AT A' E' B' y):AT A E B y:=by
  rcases h with h | ⟨g,h1,h2⟩
  · exact .inl (h.of m4 ha)
  · have:=h1.of m4 ha hB
    exact .inr ⟨g,this,by rw [← hm g this]; exact h2⟩
theorem iZ {B B' : St} (h:∀ x,x < B.next→B'.get x=B.get x):∀ y,y < B.next→∀ cs e own a9,B'.get y=some (.row cs e own a9)→∃ ie,B.get y=some (.row ie e own a9)∧ie.length=cs.length:=
  fun y hy cs _ _ _ q=>⟨cs,by rw [← h y hy]; exact q,rfl⟩
theorem TB {B:St} {o:bf} : ∀ x,x < B.next→(B.new o).get x=B.get x:=fun x hx=>by rw [St.bR,if_neg (by omega)]
theorem CL.eU {E' : Env} {A A' : ak} {B B' : St} (h:CL P E A B) (hle:E.le E') (m4:∀ b,E'.α b=E.α b) (ha:∀ b v,A'.get b=some (.arr v)→A.get b=some (.arr v)) (hf:∀ b v,A'.get b=some (.fB v)→A.get b=some (.fB v))
    (hn:A.next≤A'.next) (HL:B.next≤B'.next) (hB:∀ x,AR A E x→B'.get x=B.get x) (hz:∀ b r,E'.z b=some r→E.z b=some r∨B.next≤b) (TC:∀ b x,E'.κ b=some x→E.κ b=some x∨(A.next≤b∧B.next≤x))
    (zO:∀ b g,E'.φ b=some g→(∃ c,E.φ c=some g)∨B.next≤g) (hm:∀ g,AF A E B g→B'.members g=B.members g) (mem:∀ g x,x ∈ B.members g→x < B.next):CL P E' A' B' where
  arr b v hb:=(h.arr b v (ha _ _ hb)).mono hle (m4 b) fun x L N e=>hB x ⟨b,v,L,N,ha _ _ hb,e⟩
  fB b v hb:=(h.fB b v (hf _ _ hb)).mono hle (m4 b)
  z x hx:=by
    have hx':=AR.of m4 ha hx
    obtain ⟨b,v,L,N,h1,h2⟩:=hx'
    have aY:=h.dT _ _ _ _ h2
    obtain ⟨h3,h4⟩:=h.z x (AR.of m4 ha hx)
    refine ⟨?_,fun c e=>?_⟩
    · cases hz' : E'.z x with
      | none=>rfl
      | some r=>
        rcases hz x r hz' with e | e
        · rw [h3] at e; simp at e
        · omega
    · rcases TC c x e with e | ⟨_,e⟩
      · exact h4 c e
      · omega
  inj b c v u x L N L' N' h1 h2 h3 h4:=h.inj b c v u x L N L' N' (ha _ _ h1) (ha _ _ h2) (by rw [← m4]; exact h3) (by rw [← m4]; exact h4)
  oH b c v u x y L N L' N' cs e own g k bk e' k8 k' h1 h2 h3 h4 h5 h6:=by
    rw [m4] at h3 h4
    rw [hB x ⟨b,v,L,N,ha _ _ h1,h3⟩] at h5
    rw [hB y ⟨c,u,L',N',ha _ _ h2,h4⟩] at h6
    exact h.oH b c v u x y L N L' N' cs e own g k bk e' k8 k' (ha _ _ h1) (ha _ _ h2) h3 h4 h5 h6
  V2 b x e:=by
    rw [m4]
    rcases TC b x e with e | ⟨e,_⟩
    · exact h.V2 b x e
    · cases hb:E.α b with
      | none=>rfl
      | some p=>have:=h.eS b p hb; omega
  eS b p e:=by rw [m4] at e; have:=h.eS b p e; omega
  dT b x L N e:=by rw [m4] at e; have:=h.dT b x L N e; omega
  nC b v x L N cs e own g k h1 h2 h3:=by
    rw [m4] at h2
    have hA:=ha _ _ h1
    rw [hB x ⟨b,v,L,N,hA,h2⟩] at h3
    obtain ⟨h4,h5,h6⟩:=h.nC b v x L N cs e own g k hA h2 h3
    refine ⟨by omega,fun f e=>?_,fun y hy bo=>?_⟩
    · rcases zO f g e with ⟨c,e⟩ | e
      · exact h5 c e
      · omega
    · rw [hm g ⟨b,v,x,L,N,cs,_,own,k,hA,h2,h3⟩] at hy
      have aY:=mem g y hy
      obtain ⟨h7,h8,h9⟩:=h6 y hy bo
      refine ⟨?_,fun q=>h8 (AR.of m4 ha q),fun c e=>?_⟩
      · cases hz' : E'.z y with
        | none=>rfl
        | some r=>
          rcases hz y r hz' with e | e
          · rw [h7] at e; simp at e
          · omega
      · rcases TC c y e with e | ⟨_,e⟩
        · exact h9 c e
        · omega
theorem eh.yY {A:ak} {B:St} (h:eh P E A B) {x:Nat} (q:AR A E x):x < B.next:=by
  obtain ⟨b,v,L,N,_,h2⟩:=q
  exact h.ar.dT _ _ _ _ h2
structure ck (P:Program) (E:Env) (A:ak) (B:St) (E' : Env) (A' : ak) (B' : St):Prop where
  cW:eh P E' A' B'
  le:E.le E'
  next:A.next≤A'.next
  eU:∀ x,x < B.next→(∀ b,E.κ b≠some x)→¬ AT A E B x→B'.get x=B.get x
  new:∀ b x,E'.κ b=some x→E.κ b=some x∨B.next≤x
  oW:∀ b r,E'.z b=some r→E.z b=some r∨AR A E b∨B.next≤b
  oX:∀ b g,E'.φ b=some g→E.φ b=some g∨B.next≤g
  mr:∀ g,g < B.next→(∀ b,E.φ b≠some g)→¬ AF A E B g→B'.members g=B.members g
  js:∀ x,AR A' E' x→AR A E x∨B.next≤x
  jJ:∀ g,AF A' E' B' g→AF A E B g∨B.next≤g
  qC:∀ g y,y ∈ B'.members g→y ∈ B.members g∨B.next≤y
  ky:∀ y,AT A' E' B' y→AT A E B y∨B.next≤y
  rows:∀ y,y < B.next→∀ cs e own a9,B'.get y=some (.row cs e own a9)→∃ ie,B.get y=some (.row ie e own a9)∧ie.length=cs.length
theorem ck.ev {base:Nat} {E' : Env} {A A' : ak} {B B' : St} {ρ aq:aw} {w w' : World} (h:ck P E A B E' A' B') (g:b7 base ρ B w aq B' w'):Ev P base E A B ρ w E' A' B' aq w':=
  ⟨h.cW,g,h.le,h.next,h.eU,h.new,h.oW,fun b g e=>(h.oX b g e).imp (fun e=>⟨b,e⟩) id,h.mr,h.js,h.jJ,h.qC,h.ky,h.rows⟩
def zP (P:Program) (o:Oper):lT→Prop
  | .pure f xs=>∀ (E:Env) (ρ:aw) (ev:Operand→KV) (bF:Operand→Value) (v:KV),(∀ x ∈ xs,VC P E ρ (ev x) (bF x))→aE (f (xs.map ev)) v→∃ v',VC P E ρ v v'∧∀ w,(execOp bF o).run P w = .ok (.value v') w
  | .read f xs=>∀ (E:Env) (A:ak) (B:St) (ρ:aw) (base:Nat) (w:World) (ev:Operand→KV) (bF:Operand→Value) (v:KV),KJ P E A B ρ base w→(∀ x ∈ xs,VC P E ρ (ev x) (bF x))→aE (f A (xs.map ev)) v→
      ∃ v',VC P E ρ v v'∧(execOp bF o).run P w = .ok (.value v') w
  | .look f xs=>∀ (E:Env) (A:ak) (B:St) (ρ:aw) (base:Nat) (w:World) (ev:Operand→KV) (bF:Operand→Value) (v:KV),KJ P E A B ρ base w→(∀ x ∈ xs,VC P E ρ (ev x) (bF x))→aE (f (xs.map ev)) v→
      ∃ E' B' aq v' nx w',(execOp bF o).run P w = .ok nx w'∧abZ v' nx∧VC P E' aq v v'∧Ev P base E A B ρ w E' A B' aq w'
  | .act f xs=>∀ (E:Env) (A A' : ak) (B:St) (ρ:aw) (base:Nat) (w:World) (ev:Operand→KV) (bF:Operand→Value) (v:KV),KJ P E A B ρ base w→(∀ x ∈ xs,VC P E ρ (ev x) (bF x))→aE (f A (xs.map ev)) (v,A')→
      ∃ E' B' aq v' nx w',(execOp bF o).run P w = .ok nx w'∧abZ v' nx∧VC P E' aq v v'∧Ev P base E A B ρ w E' A' B' aq w'
  | _=>True
theorem Yr {ρ:aw} {ev:Operand→KV} {bF:Operand→Value} {xs:List Operand} (h:∀ x ∈ xs,VC P E ρ (ev x) (bF x)) :
    ∃ em:Operand→Value,aO P E (xs.map ev) (xs.map em)∧ny ρ em bF xs:=by
  classical
  refine ⟨fun x=>if hx:VC P E ρ (ev x) (bF x) then hx.choose else undef,?_,?_⟩
  · induction xs with
    | nil=>exact .nil
    | cons x xs ih=>
      refine .cons ?_ (ih fun y hy=>h y (by simp [hy]))
      have hx:=h x (by simp)
      simp only [dif_pos hx]
      exact hx.choose_spec.1
  · intro x hx
    have hx:=h x hx
    simp only [dif_pos hx]
    exact hx.choose_spec.2
theorem lift_pure {o:Oper} {f:FP} {g:List Value→Option Value} {xs:List Operand} (hc:compile P o.op = .pure g xs) (hs:oY P f g):zP P o (.pure f xs):=by
  intro E ρ ev bF v hv hg
  obtain ⟨em,h1,h2⟩:=Yr hv
  obtain ⟨u,h3,h4⟩:=hs E _ _ v h1 hg
  have bH:=jm P o
  rw [hc] at bH
  obtain ⟨v',h5,h6⟩:=bH ρ em bF u h2 h3
  exact ⟨v',⟨u,h4,h5⟩,h6⟩
def aav (P:Program) (f:FR) (g:St→List Value→Option Value):Prop:=
  ∀ (E:Env) (A:ak) (B:St) (vs:List KV) (us:List Value) (v:KV),eh P E A B→aO P E vs us→aE (f A vs) v→∃ u,g B us=some u∧VK P E v u
theorem CO {o:Oper} {f:FR} {g:St→List Value→Option Value} {xs:List Operand} (hc:compile P o.op = .read g xs) (hs:aav P f g):zP P o (.read f xs):=by
  intro E A B ρ base w ev bF v hj hv hg
  obtain ⟨em,h1,h2⟩:=Yr hv
  obtain ⟨u,h3,h4⟩:=hs E A B _ _ v hj.k h1 hg
  have bH:=jm P o
  rw [hc] at bH
  obtain ⟨v',h5,h6⟩:=bH ρ B base w em bF u hj.s.rel h2 h3
  exact ⟨v',⟨u,h4,h5⟩,h6⟩
def adx (P:Program) (f:FA) (g:St→List Value→Option (Value×St)):Prop:=
  ∀ (E:Env) (A A' : ak) (B:St) (vs:List KV) (us:List Value) (v:KV),eh P E A B→aO P E vs us→aE (f A vs) (v,A')→∃ u B' E',g B us=some (u,B')∧VK P E' v u∧ck P E A B E' A' B'
theorem OE {o:Oper} {f:FA} {g:St→List Value→Option (Value×St)} {xs:List Operand} (hc:compile P o.op = .act g xs) (hs:adx P f g):zP P o (.act f xs):=by
  intro E A A' B ρ base w ev bF v hj hv hg
  obtain ⟨em,h1,h2⟩:=Yr hv
  obtain ⟨u,B',E',h3,h4,h5⟩:=hs E A A' B _ _ v hj.k h1 hg
  have bH:=jm P o
  rw [hc] at bH
  obtain ⟨aq,v',nx,w',h6,h7,h8,h9⟩:=bH ρ B B' base w em bF u hj.s h2 h3
  exact ⟨E',B',aq,v',nx,w',h6,h7,⟨u,h4,h8⟩,h5.ev h9⟩
def air (P:Program) (f:FP) (g:St→List Value→Option (Value×St)):Prop:=
  ∀ (E:Env) (A:ak) (B:St) (vs:List KV) (us:List Value) (v:KV),eh P E A B→aO P E vs us→aE (f vs) v→∃ u B' E',g B us=some (u,B')∧VK P E' v u∧ck P E A B E' A B'
theorem acm {o:Oper} {f:FP} {g:St→List Value→Option (Value×St)} {xs:List Operand} (hc:compile P o.op = .act g xs) (hs:air P f g):zP P o (.look f xs):=by
  intro E A B ρ base w ev bF v hj hv hg
  obtain ⟨em,h1,h2⟩:=Yr hv
  obtain ⟨u,B',E',h3,h4,h5⟩:=hs E A B _ _ v hj.k h1 hg
  have bH:=jm P o
  rw [hc] at bH
  obtain ⟨aq,v',nx,w',h6,h7,h8,h9⟩:=bH ρ B B' base w em bF u hj.s h2 h3
  exact ⟨E',B',aq,v',nx,w',h6,h7,⟨u,h4,h8⟩,h5.ev h9⟩
theorem OG {o:Oper} {g:List Value→Option (bf×(Nat→Value))} {xs:List Operand} (hc:compile P o.op = .make g xs) {ρ:aw} {B:St} {base:Nat} {w:World} {em bF:Operand→Value} {obj:bf} {mk:Nat→Value} (hs:fU ρ B base w)
    (h2:ny ρ em bF xs) (h3:g (xs.map em)=some (obj,mk)):∃ aq v' w',(execOp bF o).run P w = .ok (.value v') w'∧VR aq (mk B.next) v'∧b7 base ρ B w aq (B.new obj) w':=by
  have bH:=jm P o
  rw [hc] at bH
  obtain ⟨c,mk',h4,h5,h6⟩:=bH ρ em bF obj mk h2 h3
  exact ⟨_,_,_,h5 w,h6 _ _ _ (aw.gk _ _ _),h4.dj hs⟩
def W7 (P:Program) (f:FA) (g:List Value→Option (bf×(Nat→Value))):Prop:=
  ∀ (E:Env) (A A' : ak) (B:St) (vs:List KV) (us:List Value) (v:KV),eh P E A B→aO P E vs us→aE (f A vs) (v,A')→∃ obj mk E',g us=some (obj,mk)∧VK P E' v (mk B.next)∧ck P E A B E' A' (B.new obj)
theorem xZ {o:Oper} {f:FA} {g:List Value→Option (bf×(Nat→Value))} {xs:List Operand} (hc:compile P o.op = .make g xs) (hs:W7 P f g):zP P o (.act f xs):=by
  intro E A A' B ρ base w ev bF v hj hv hg
  obtain ⟨em,h1,h2⟩:=Yr hv
  obtain ⟨obj,mk,E',h3,h4,h5⟩:=hs E A A' B _ _ v hj.k h1 hg
  obtain ⟨aq,v',w',h6,h7,h8⟩:=OG hc hj.s h2 h3
  exact ⟨E',B.new obj,aq,v',_,w',h6,rfl,⟨_,h4,h7⟩,h5.ev h8⟩
def ais (P:Program) (f:FP) (g:List Value→Option (bf×(Nat→Value))):Prop:=
  ∀ (E:Env) (A:ak) (B:St) (vs:List KV) (us:List Value) (v:KV),eh P E A B→aO P E vs us→aE (f vs) v→∃ obj mk E',g us=some (obj,mk)∧VK P E' v (mk B.next)∧ck P E A B E' A (B.new obj)
theorem aey {o:Oper} {f:FP} {g:List Value→Option (bf×(Nat→Value))} {xs:List Operand} (hc:compile P o.op = .make g xs) (hs:ais P f g):zP P o (.look f xs):=by
  intro E A B ρ base w ev bF v hj hv hg
  obtain ⟨em,h1,h2⟩:=Yr hv
  obtain ⟨obj,mk,E',h3,h4,h5⟩:=hs E A B _ _ v hj.k h1 hg
  obtain ⟨aq,v',w',h6,h7,h8⟩:=OG hc hj.s h2 h3
  exact ⟨E',B.new obj,aq,v',_,w',h6,rfl,⟨_,h4,h7⟩,h5.ev h8⟩
def Env.hO (E:Env) (b x:Nat):Env:={ E with κ:=fun c=>if c=b then some x else E.κ c }
def Env.dD (E:Env) (b:Nat) (r:aak):Env:={ E with z:=fun c=>if c=b then some r else E.z c }
def Env.mu (E:Env) (b g:Nat):Env:={ E with φ:=fun c=>if c=b then some g else E.φ c }
theorem ck.newRow {A:ak} {B:St} {cs:List KV} {bk:List Value} {a8:Nat} (h:eh P E A B) (hv:aO P E cs bk):ck P E A B (E.hO A.next B.next) (A.new (.row cs a8)) (B.new (.row bk a8 true none)):=by
  have hle:E.le (E.hO A.next B.next):=⟨fun _ _ e=>e,fun b x e=>by
    have:=h.eS b x e
    simp only [Env.hO]; rw [if_neg (by omega)]; exact e,fun _ _ e=>e,fun _ _ e=>e⟩
  have hA:∀ (b:Nat) (v:KV),(A.new (.row cs a8)).get b=some (.arr v)→A.get b=some (.arr v):=fun b v hb=>by
    rw [ak.bR] at hb
    split at hb
    · simp at hb
    · exact hb
  have TD:∀ (b:Nat) (v:KV),(A.new (.row cs a8)).get b=some (.fB v)→A.get b=some (.fB v):=fun b v hb=>by
    rw [ak.bR] at hb
    split at hb
    · simp at hb
    · exact hb
  have rH:∀ x,AR A E x→(B.new (.row bk a8 true none)).get x=B.get x:=fun x q=>by have:=h.yY q; rw [St.bR,if_neg (by omega)]
  refine ⟨⟨?_,?_,?_,?_,?_,?_,?_,?_,?_,?_,?_,?_,?_,?_,h.ar.eU hle (fun _=>rfl) hA TD (by simp) (by simp) rH (fun _ _ e=>.inl e) (fun b x e=>?_) (fun b g e=>.inl ⟨b,e⟩) (fun _ _=>by simp) h.mem⟩,hle,by simp,?_,?_,fun _ _ e=>.inl e,fun _ _ e=>.inl e,fun _ _ _ _=>by simp,fun _ q=>.inl (q.of (fun _=>rfl) hA),fun _ q=>.inl (q.of (fun _=>rfl) hA rH),fun _ _ q=>.inl (by simpa using q),fun _ q=>.inl (q.of (fun _=>rfl) hA rH fun _ _=>by simp),iZ TB⟩
  · intro b ie FB hb
    rw [ak.bR] at hb
    split at hb
    · rename_i e
      simp at hb
      obtain ⟨rfl,rfl⟩:=hb
      exact ⟨B.next,bk,by simp [Env.hO,e],by simp,hv.mono hle⟩
    · obtain ⟨x,c,h1,h2,h3⟩:=h.row b ie FB hb
      have:=h.dT b x h1
      exact ⟨x,c,hle.κ _ _ h1,by rw [St.bR,if_neg (by omega)]; exact h2,h3.mono hle⟩
  · intro b top x3 hb
    rw [ak.bR] at hb
    split at hb
    · simp at hb
    · rcases h.aJ b top x3 hb with h1 | ⟨g,h1,TE,h2⟩
      · exact .inl h1
      · refine .inr ⟨g,h1,TE,fun x hx c e own f k hg=>?_⟩
        rw [St.bR] at hg
        split at hg
        · simp at hg
        · exact h2 x (by simpa using hx) c e own f k hg
  · intro b r hb
    have:=h.jr b r hb
    rw [St.bR,if_neg (by omega)]
    exact h.z b r hb
  · intro b x hb
    simp only [Env.hO] at hb ⊢
    split at hb
    · simp at hb
      subst hb
      cases hz:E.z B.next with
      | none=>rfl
      | some r=>have:=h.jr _ r hz; omega
    · exact h.apart b x hb
  · intro b c x hb hc
    simp only [Env.hO] at hb hc
    split at hb <;> split at hc
    · omega
    · simp at hb; subst hb; have:=h.dT c _ hc; omega
    · simp at hc; subst hc; have:=h.dT b _ hb; omega
    · exact h.inj b c x hb hc
  · exact xl.new (E:=E.hO A.next B.next) (fun x y g a b c d e f hx hy=>h.fO x y g a b c d e f hx hy) (.inl fun _ _=>by simp)
  · intro b x hb
    simp only [Env.hO] at hb
    rw [ak.bz]
    split at hb
    · omega
    · have:=h.eS b x hb; omega
  · intro b g hb; have:=h.jq b g hb; rw [ak.bz]; omega
  · intro b o hb
    rw [ak.bR] at hb
    rw [ak.bz]
    split at hb
    · omega
    · have:=h.live b o hb; omega
  · intro b x hb
    simp only [Env.hO] at hb
    rw [St.bz]
    split at hb
    · simp at hb; omega
    · have:=h.dT b x hb; omega
  · intro b r hb; have:=h.jr b r hb; rw [St.bz]; omega
  · intro b g hb; have:=h.fV b g hb; rw [St.bz]; omega
  · intro g hg; rw [St.bz] at hg; rw [St.gF]; exact h.fresh g (by omega)
  · intro g x hx; rw [St.gF] at hx; rw [St.bz]; have:=h.mem g x hx; omega
  · simp only [Env.hO] at e
    split at e
    · simp at e; exact .inr (by omega)
    · exact .inl e
  · intro x hx _ _; rw [St.bR,if_neg (by omega)]
  · intro b x hb
    simp only [Env.hO] at hb
    split at hb
    · simp at hb; exact .inr (by omega)
    · exact .inl hb
theorem ck.ait {A:ak} {B:St} {bk:List Value} {a8:Nat} (h:eh P E A B):ck P E A B (E.dD B.next ⟨bk,a8,true,none⟩) A (B.new (.row bk a8 true none)):=by
  have hle:E.le (E.dD B.next ⟨bk,a8,true,none⟩):=⟨fun _ _ e=>e,fun _ _ e=>e,fun b r e=>by
    have:=h.jr b r e
    simp only [Env.dD]; rw [if_neg (by omega)]; exact e,fun _ _ e=>e⟩
  have rH:∀ x,AR A E x→(B.new (.row bk a8 true none)).get x=B.get x:=fun x q=>by have:=h.yY q; rw [St.bR,if_neg (by omega)]
  have CP:∀ b r,(E.dD B.next ⟨bk,a8,true,none⟩).z b=some r→E.z b=some r∨B.next≤b:=fun b r e=>by
    simp only [Env.dD] at e
    split at e
    · exact .inr (by omega)
    · exact .inl e
  refine ⟨⟨?_,?_,?_,?_,?_,?_,?_,?_,?_,?_,?_,?_,?_,?_,h.ar.eU hle (fun _=>rfl) (fun _ _ e=>e) (fun _ _ e=>e) (Nat.le_refl _) (by simp) rH CP (fun _ _ e=>.inl e) (fun b g e=>.inl ⟨b,e⟩) (fun _ _=>by simp) h.mem⟩,hle,Nat.le_refl _,?_,?_,fun b r e=>(CP b r e).imp id .inr,fun _ _ e=>.inl e,fun _ _ _ _=>by simp,fun _ q=>.inl q,fun _ q=>.inl (q.of (fun _=>rfl) (fun _ _ e=>e) rH),fun _ _ q=>.inl (by simpa using q),fun _ q=>.inl (q.of (fun _=>rfl) (fun _ _ e=>e) rH fun _ _=>by simp),iZ TB⟩
  · intro b ie FB hb
    obtain ⟨x,c,h1,h2,h3⟩:=h.row b ie FB hb
    have:=h.dT b x h1
    exact ⟨x,c,hle.κ _ _ h1,by rw [St.bR,if_neg (by omega)]; exact h2,h3.mono hle⟩
  · intro b top x3 hb
    rcases h.aJ b top x3 hb with h1 | ⟨g,h1,TE,h2⟩
    · exact .inl h1
    · refine .inr ⟨g,h1,TE,fun x hx c e own f k hg=>?_⟩
      rw [St.bR] at hg
      split at hg
      · simp at hg
      · exact h2 x (by simpa using hx) c e own f k hg
  · intro b r hb
    simp only [Env.dD] at hb
    split at hb
    · rename_i e
      simp at hb
      subst hb e
      simp
    · have:=h.jr b r hb
      rw [St.bR,if_neg (by omega)]
      exact h.z b r hb
  · intro b x hb
    have:=h.dT b x hb
    simp only [Env.dD]
    rw [if_neg (by omega)]
    exact h.apart b x hb
  · exact h.inj
  · exact h.fO
  · exact h.eS
  · exact h.jq
  · exact h.live
  · intro b x hb; have:=h.dT b x hb; rw [St.bz]; omega
  · intro b r hb
    simp only [Env.dD] at hb
    rw [St.bz]
    split at hb
    · omega
    · have:=h.jr b r hb; omega
  · intro b g hb; have:=h.fV b g hb; rw [St.bz]; omega
  · intro g hg; rw [St.bz] at hg; rw [St.gF]; exact h.fresh g (by omega)
  · intro g x hx; rw [St.gF] at hx; rw [St.bz]; have:=h.mem g x hx; omega
  · intro x hx _ _; rw [St.bR,if_neg (by omega)]
  · intro b x hb; exact .inl hb
theorem ck.ahI {A:ak} {B:St} {b x a8:Nat} {cs:List KV} {bk:List Value} (h:eh P E A B) (hb:∃ ie e,A.get b=some (.row ie e)) (hx:E.κ b=some x) (hold:∃ ie,B.get x=some (.row ie a8 true none)∧ie.length=bk.length) (hv:aO P E cs bk):ck P E A B E (A.put b (.row cs a8)) (B.put x (.row bk a8 true none)):=by
  have hA:∀ (c:Nat) (v:KV),(A.put b (.row cs a8)).get c=some (.arr v)→A.get c=some (.arr v):=fun c v hb=>by
    rw [ak.bt] at hb
    split at hb
    · simp at hb
    · exact hb
  have TD:∀ (c:Nat) (v:KV),(A.put b (.row cs a8)).get c=some (.fB v)→A.get c=some (.fB v):=fun c v hb=>by
    rw [ak.bt] at hb
    split at hb
    · simp at hb
    · exact hb
  have rH:∀ y,AR A E y→(B.put x (.row bk a8 true none)).get y=B.get y:=fun y q=>by
    rw [St.bt,if_neg]
    intro e
    subst e
    exact (h.ar.z _ q).2 b hx
  refine ⟨⟨?_,?_,?_,h.apart,h.inj,h.fO.put (.inl fun _ _=>by simp),h.eS,h.jq,?_,h.dT,h.jr,h.fV,?_,?_,h.ar.eU (Env.le_refl _) (fun _=>rfl) hA TD (Nat.le_refl _) (Nat.le_refl _) rH (fun _ _ e=>.inl e) (fun _ _ e=>.inl e) (fun b g e=>.inl ⟨b,e⟩) (fun _ _=>by simp) h.mem⟩,Env.le_refl _,Nat.le_refl _,?_,fun _ _ e=>.inl e,fun _ _ e=>.inl e,fun _ _ e=>.inl e,fun _ _ _ _=>by simp,fun _ q=>.inl (q.of (fun _=>rfl) hA),fun _ q=>.inl (q.of (fun _=>rfl) hA rH),fun _ _ q=>.inl (by simpa using q),fun _ q=>.inl (q.of (fun _=>rfl) hA rH fun _ _=>by simp),fun y _ c e own a9 q=>by
    rw [St.bt] at q
    split at q
    · rename_i e2
      simp at q
      obtain ⟨rfl,rfl,rfl,rfl⟩:=q
      obtain ⟨c0,h1,h2⟩:=hold
      exact ⟨c0,by rw [e2]; exact h1,h2⟩
    · exact ⟨c,q,rfl⟩⟩
  · intro c ie FB hc
    rw [ak.bt] at hc
    split at hc
    · rename_i e
      simp at hc
      obtain ⟨rfl,rfl⟩:=hc
      exact ⟨x,bk,by rw [e]; exact hx,by simp,hv⟩
    · rename_i bo
      obtain ⟨y,d,h1,h2,h3⟩:=h.row c ie FB hc
      refine ⟨y,d,h1,?_,h3⟩
      rw [St.bt,if_neg (fun e=>bo (h.inj c b x (by rw [← e]; exact h1) hx))]
      exact h2
  · intro c top x3 hc
    rw [ak.bt] at hc
    split at hc
    · simp at hc
    · rcases h.aJ c top x3 hc with h1 | ⟨g,h1,TE,h2⟩
      · exact .inl h1
      · refine .inr ⟨g,h1,TE,fun y hy d e own f k hg=>?_⟩
        rw [St.bt] at hg
        split at hg
        · simp at hg
        · exact h2 y (by simpa using hy) d e own f k hg
  · intro c r hc
    rw [St.bt,if_neg]
    · exact h.z c r hc
    · intro e
      have:=h.apart b x hx
      rw [← e,hc] at this
      simp at this
  · intro c o hc
    rw [ak.bt] at hc
    rw [ak.uG]
    split at hc
    · rename_i e
      obtain ⟨ie,e0,hb⟩:=hb
      rw [e]; exact h.live b _ hb
    · exact h.live c o hc
  · intro g hg; rw [St.mR]; exact h.fresh g hg
  · intro g y hy; rw [St.mR] at hy; exact h.mem g y hy
  · intro y hy hn _
    rw [St.bt,if_neg (fun e=>hn b (by rw [e]; exact hx))]
theorem ahJ {n:Nat} : W7 P (uu n) (WA n):=by
  intro E A A' B vs us v h hv hg
  unfold uu at hg
  split at hg
  · rename_i x
    obtain ⟨y,rfl,h1⟩:=hv.cG
    obtain ⟨ho,hg⟩:=hg.cond
    have hg:(KV.ptr A.next 0,A.new (.row x.cells n))=(v,A'):=hg
    simp only [Prod.mk.injEq] at hg
    obtain ⟨rfl,rfl⟩:=hg
    have hc:=h1.cells (qB ho)
    have HI:y.cells.toList.all scalar=true:=List.all_eq_true.2 (hc.scalar ho)
    exact ⟨vk n y,sN,E.hO A.next B.next,by simp [WA,HI],.rz (by simp [Env.hO]),ck.newRow h hc⟩
  · exact hg.elim
theorem aez {t:TypeId} {z:Value} (hz:kr P t=some z) (hf:flat z=true) (HI:z.cells.toList.all scalar=true) (ho:dV (eG z).cells=true):W7 P (Qn (hH P t) (eG z).cells) (B7 P t):=by
  intro E A A' B vs us v h hv hg
  have hg:(KV.ptr A.next 0,A.new (.row (eG z).cells (hH P t)))=(v,A'):=hg
  simp only [Prod.mk.injEq] at hg
  obtain ⟨rfl,rfl⟩:=hg
  exact ⟨vk (hH P t) z,sN,E.hO A.next B.next,by simp only [B7,hz,Option.bind_some,hf,HI,Bool.and_self,cond_true],.rz (by simp [Env.hO]),ck.newRow h (uU ho)⟩
theorem FC {cs:List KV} {l:List Value} (h:aO P E cs l):∀ n,aO P E (cu cs n) (dz l n)
  | 0=>.nil
  | n+1=>aO.append h (FC h n)
theorem V4 {n b:Nat} {z:Value} (ho:dV (eG z).cells=true):W7 P (Fp n b (eG z).cells) (yJ n b z):=by
  intro E A A' B vs us v h hv hg
  unfold Fp at hg
  split at hg
  · rename_i k l k' c
    obtain ⟨x,y,rfl,h1,h2⟩:=hv.gW
    have:=h1.bW; subst this
    have:=h2.bW; subst this
    obtain ⟨hc,hg⟩:=aE.il hg
    simp only [Prod.mk.injEq] at hg
    obtain ⟨rfl,rfl⟩:=hg
    simp only [Bool.and_eq_true,decide_eq_true_eq] at hc
    obtain ⟨⟨h3,h4⟩,h5⟩:=hc
    obtain ⟨l',rfl⟩:=Int.eq_ofNat_of_zero_le h3
    obtain ⟨c',rfl⟩:=Int.eq_ofNat_of_zero_le (Int.le_trans h3 h4)
    have h6:Nat.ble l' c' = true:=Nat.ble_eq_true_of_le (by omega)
    refine ⟨.row (dz z.cells.toList c') n true none,fun k=>.slice (some ⟨k,0,none⟩) l' c',E.hO A.next B.next,?_,.adv (by simp [Env.hO]),ck.newRow h (FC (uU ho) c')⟩
    have h5:Nat.ble (b * c') 281474976710656=true:=h5
    show cond (Nat.ble l' c' && Nat.ble (b * c') 281474976710656) _ _=_
    rw [h6,h5]
    rfl
  · exact hg.elim
theorem eh.rowAt {A:ak} {B:St} (h:eh P E A B) {b x:Nat} {cs:List KV} (hr:rowAt A b=some cs) (hx:E.κ b=some x):∃ bk a8,B.get x=some (.row bk a8 true none)∧aO P E cs bk:=by
  unfold K.rowAt at hr
  split at hr
  · rename_i c e hg
    simp at hr
    subst hr
    obtain ⟨y,d,h1,h2,h3⟩:=h.row _ _ _ hg
    rw [hx] at h1
    simp at h1
    subst h1
    exact ⟨d,_,h2,h3⟩
  · simp at hr
theorem FD (e:KV):∀ (cs:List CK) (k:Nat),(leaves e cs k).length=cs.length
  | [],_=>rfl
  | c :: cs,k=>by simp [leaves,FD e cs]
theorem Ys {c:CK} {v:KV} (h:kindOk c v=true):leaf c v=v:=by
  cases c with
  | int k=>cases v <;> simp [kindOk] at h; subst h; rfl
  | bool=>cases v <;> simp [kindOk] at h; rfl
  | str=>cases v <;> simp [kindOk] at h; rfl
  | slice t=>
    cases v <;> simp [kindOk] at h
    rename_i T m n es acc
    cases m <;> simp at h
    subst h
    rfl
  | other=>cases v <;> simp [kindOk] at h
theorem xm:∀ {ks:List CK} {cs:List KV} {i:Nat} {c:CK},ax ks cs=true→ks[i]? = some c→∃ v,cs[i]? = some v∧kindOk c v=true
  | [],_,i,c,_,h=>by simp at h
  | _ :: _,[],_,_,h,_=>by simp [ax] at h
  | k :: ks,v :: cs,0,c,h,e=>by
    simp only [ax,Bool.and_eq_true] at h
    simp at e
    subst e
    exact ⟨v,rfl,h.1⟩
  | k :: ks,v :: cs,i+1,c,h,e=>by
    simp only [ax,Bool.and_eq_true] at h
    obtain ⟨u,h1,h2⟩:=xm (i:=i) h.2 (by simpa using e)
    exact ⟨u,by simpa using h1,h2⟩
theorem fP:∀ {l:pt} {es:List KV} {i:Nat} {e:KV},cX l es=true→es[i]? = some e→bX l e=true
  | l,[],i,e,_,h=>by simp at h
  | l,x :: es,0,e,h,he=>by
    simp only [cX,Bool.and_eq_true] at h
    simp at he
    subst he
    exact h.1
  | l,x :: es,i+1,e,h,he=>by
    simp only [cX,Bool.and_eq_true] at h
    exact fP h.2 (by simpa using he)
theorem eB {l:pt} {e:KV} (h:bX l e=true):ax l.ks e.cells=true∧pw e=true:=by
  cases e <;> simp [bX] at h <;> first | exact ⟨h.2,rfl⟩ | skip
  obtain ⟨h1,h2⟩:=h
  cases hk:l.ks with
  | nil=>rw [hk] at h2; simp [ax] at h2
  | cons c cs=>rw [hk] at h2; cases c <;> simp [ax,kindOk] at h2
theorem JO {e:KV} {ks:List CK} (hk:ax ks e.cells=true):∀ {cs:List CK} {k:Nat},(∀ m c,cs[m]? = some c→ks[k+m]? = some c)→leaves e cs k=(e.cells.drop k).take cs.length
  | [],k,_=>by simp [leaves]
  | c :: cs,k,h=>by
    obtain ⟨v,h1,h2⟩:=xm hk (by simpa using h 0 c rfl)
    have aY:k < e.cells.length:=(List.getElem?_eq_some_iff.1 h1).1
    have ih:=JO hk (cs:=cs) (k:=k+1) (fun m d hm=>by have:=h (m+1) d (by simpa using hm); rwa [show k+(m+1)=k+1+m by omega] at this)
    simp only [leaves]
    have e1:e.cells.getD k .av=v:=by simp [List.getD,h1]
    rw [e1,Ys h2]
    rw [show Nat.succ k=k+1 from rfl,ih,List.drop_eq_getElem_cons aY]
    have e2:e.cells[k] = v:=by
      have:=List.getElem?_eq_getElem aY
      rw [this] at h1
      simpa using h1
    simp [e2]
theorem eh.zL {A:ak} {B:St} (h:eh P E A B) {b x L N' : Nat} {v:KV} (hr:zL A b=some v) (hx:E.α b=some (x,L,N')) :
    ∃ T N es acc,v = .ts T .any N es acc∧eL P T N es acc∧1≤aL P T∧∃ cs e own a9 aU,N' = N∧B.get x=some (.row cs e own a9)∧aO P E es aU∧jQ (aL P T) 0 cs aU∧L=cs.length∧e=aL P T:=by
  unfold K.zL at hr
  split at hr
  · rename_i u hg
    simp at hr; subst hr
    obtain ⟨T,N,es,acc,h1,h2,h3,h4⟩:=h.ar.arr b _ hg
    refine ⟨T,N,es,acc,h1,h2,h3,?_⟩
    rcases h4 with ⟨_,h5⟩ | ⟨y,cs,a9,aU,h4,h5,h6,h7⟩
    · rw [hx] at h5; simp at h5
    · rw [hx] at h4
      simp only [Option.some.injEq,Prod.mk.injEq] at h4
      obtain ⟨rfl,rfl,rfl⟩:=h4
      exact ⟨cs,_,_,a9,aU,rfl,h5,h6,h7,rfl,rfl⟩
  · rename_i u hg
    simp at hr; subst hr
    obtain ⟨T,N,es,acc,h1,h2,h3,h4⟩:=h.ar.fB b _ hg
    refine ⟨T,N,es,acc,h1,h2,h3,?_⟩
    rcases h4 with ⟨_,h5⟩ | ⟨y,r,aU,h4,h5,h6,h7,h8⟩
    · rw [hx] at h5; simp at h5
    · rw [hx] at h4
      simp only [Option.some.injEq,Prod.mk.injEq] at h4
      obtain ⟨rfl,rfl,rfl⟩:=h4
      exact ⟨r.cs,_,_,_,aU,rfl,h.z _ _ h5,h7,h8,rfl,h6⟩
  · simp at hr
theorem TF {t T Tc:TypeId} {k x base a8:Nat} {own:Bool} {a9:Option (Nat×Nat)} {e:KV} {u:Value} {cs:List Value} {B:St} (hz:B.get x=some (.row cs a8 own a9)) (hc:R7 P t Tc=true) (hw:Sc P T Tc k) (wb:bX (a6 P T) e=true)
    (h7:VK P E e u) (cA:u.cells.size=aL P T) (iY:∀ (m:Nat) (y:Value),u.cells[m]? = some y→cs[base+m]? = some y):∃ w,wD P t B [.pointer (some ⟨x,base+k,none⟩)] = some w∧VK P E (Ep (a6 P t).agg (leaves e (a6 P t).ks k)) w:=by
  simp only [R7,Bool.and_eq_true,decide_eq_true_eq] at hc
  obtain ⟨⟨⟨⟨hTc,hpl⟩,ha⟩,hn⟩,aiu⟩:=hc
  have:=Nat.eq_of_beq_eq_true hTc
  subst this
  obtain ⟨ahK,ahL⟩:=eB wb
  have hlv:=JO ahK (cs:=(a6 P Tc).ks) (k:=k) hw.is
  rw [hlv]
  have Cm:=h7.cells ahL
  have hlen:e.cells.length=aL P T:=by have:=Cm.length; simp at this; omega
  have j8:(a6 P Tc).ks.length≤e.cells.length - k:=by
    have:=congrArg List.length hlv
    rw [FD] at this
    simp at this
    omega
  have fa:∀ m,m < (a6 P Tc).ks.length→cs[base+k+m]? = u.cells.toList[k+m]?:=by
    intro m hm
    have aY:k+m < u.cells.size:=by omega
    have:=iY (k+m) u.cells[k+m] (by simp [aY])
    rw [show base+(k+m)=base+k+m by omega] at this
    rw [this]
    simp [aY]
  have acn:takeN (a6 P Tc).ks.length (wC (base+k) cs)=some ((u.cells.toList.drop k).take (a6 P Tc).ks.length):=by
    have hle:(a6 P Tc).ks.length≤(cs.drop (base+k)).length:=by
      cases EZ:(a6 P Tc).ks.length with
      | zero=>omega
      | succ q=>
        have:=fa q (by omega)
        have aY:k+q < u.cells.toList.length:=by simp; omega
        rw [List.getElem?_eq_getElem aY] at this
        have:=(List.getElem?_eq_some_iff.1 this).1
        simp
        omega
    rw [mf,Bn hle]
    congr 1
    apply List.ext_getElem?
    intro m
    rw [List.getElem?_take,List.getElem?_take]
    split
    · rename_i hm
      rw [List.getElem?_drop,List.getElem?_drop]
      exact fa m hm
    · rfl
  have sm:aO P E (e.cells.drop k |>.take (a6 P Tc).ks.length) ((u.cells.toList.drop k).take (a6 P Tc).ks.length):=(Cm.drop k).take _
  cases rA:(a6 P Tc).agg with
  | true=>
    rw [rA] at ha
    refine ⟨.agg ⟨(u.cells.toList.drop k).take (a6 P Tc).ks.length⟩,?_,.kP sm⟩
    simp [wD,loadAt,ha,hn,St.oJ,bA,pf,hz,acn]
  | false=>
    rw [rA] at ha
    have Cq:(a6 P Tc).ks.length=1:=by
      rw [rA] at aiu
      exact Nat.eq_of_beq_eq_true (by simpa using aiu)
    rw [Cq] at acn sm
    have aY:k < e.cells.length:=by omega
    rw [Cq]
    rw [List.drop_eq_getElem_cons aY] at sm ⊢
    simp only [List.take_succ_cons,List.take_zero] at sm ⊢
    obtain ⟨w,h8,h9⟩:=sm.cG
    refine ⟨w,?_,h9⟩
    simp [wD,loadAt,ha,St.oJ,bA,pf,hz,acn,h8]
theorem aaw {t:TypeId} : aav P (Ov P t) (wD P t):=by
  intro E A B vs us v h hv hg
  unfold Ov at hg
  split at hg
  · rename_i b off
    obtain ⟨y,rfl,h1⟩:=hv.cG
    obtain ⟨x,hx,rfl⟩:=h1.eF
    split at hg
    · rename_i ag n ha hn
      split at hg
      · rename_i l hl
        obtain ⟨cs,h2,h3⟩:=Option.bind_eq_some_iff.1 hl
        obtain ⟨bk,a8,h4,h5⟩:=h.rowAt h2 hx
        obtain ⟨r,h6,h7,_⟩:=h5.oS h3
        cases ag with
        | true=>
          have hg:KV.agg l=v:=hg
          subst hg
          refine ⟨.agg ⟨r⟩,?_,.kP h7⟩
          simp [wD,loadAt,ha,hn,St.oJ,bA,pf,h4,h6]
        | false=>
          rw [cond_false] at hg
          split at hg
          · rename_i u
            have hg:u=v:=hg
            subst hg
            obtain ⟨w,rfl,h8⟩:=h7.cG
            have hlen:n=1:=by
              obtain ⟨e,hle⟩:=Hr h3
              have:=congrArg List.length e
              rw [List.length_take,Nat.min_eq_left hle] at this
              simpa using this.symm
            subst hlen
            exact ⟨w,by simp [wD,loadAt,ha,St.oJ,bA,pf,h4,h6],h8⟩
          · exact hg.elim
      · exact hg.elim
    · exact hg.elim
  · rename_i T Tc i k es acc
    obtain ⟨y,rfl,h1⟩:=hv.cG
    obtain ⟨hc,hg⟩:=hg.cond
    have hg:Ep (a6 P t).agg (leaves (acc i) (a6 P t).ks k)=v:=hg
    subst hg
    obtain ⟨ht,aU,h2,hi,hw,b,off,r,rfl,h4,h5⟩:=h1.CJ
    have aj7:=ht.acc i hi
    have hei:es[i]? = some (acc i):=by rw [aj7]; simp [List.getD,hi]
    obtain ⟨u,h6,h7⟩:=h2.get hei
    obtain ⟨cA,iY⟩:=h5 i u h6
    exact TF (h.z b r h4) hc hw (fP ht.typed hei) h7 cA iY
  · rename_i T Tc b i k
    obtain ⟨y,rfl,h1⟩:=hv.cG
    split at hg
    · rename_i T' m N es acc hA
      obtain ⟨hc,hg⟩:=hg.cond
      have hg:Ep (a6 P t).agg (leaves (acc i) (a6 P t).ks k)=v:=hg
      subst hg
      simp only [Bool.and_eq_true] at hc
      have:=Nat.eq_of_beq_eq_true hc.1
      subst this
      obtain ⟨x,L,N',h2,hw,hi,rfl⟩:=h1.yX
      obtain ⟨T2,N2,kx,db,Ob,ht,h1s,cs,e,own,a9,aU,h3,h4,h5,h6,_⟩:=h.zL hA h2
      simp only [KV.ts.injEq] at Ob
      obtain ⟨rfl,rfl,rfl,rfl,rfl⟩:=Ob
      have aY:i < es.length:=by rw [← ht.len,← h3]; exact hi
      have hei:es[i]? = some (acc i):=by rw [ht.acc i (by rw [ht.len]; exact aY)]; simp [List.getD,aY]
      obtain ⟨u,h7,h8⟩:=h5.get hei
      obtain ⟨cA,iY⟩:=h6 i u h7
      rw [Nat.zero_add] at iY
      exact TF h4 hc.2 hw (fP ht.typed hei) h8 cA iY
    · exact hg.elim
  · exact hg.elim
end Go.K
end
section
namespace Go.K
open Go Go.aV
variable {P:Program} {E:Env}
theorem VK.afW {T:TypeId} {m:Mk} {n:Nat} {es:List KV} {acc:Nat→KV} {u:Value} (h:VK P E (.ts T m n es acc) u):VK P E (.ts T .any n es acc) u:=by
  obtain ⟨ht,aU,h1,a,cap,rfl,h2,h3,_⟩:=h.iu
  simp only [VK]
  exact ⟨ht,aU,h1,a,cap,rfl,h2,h3,trivial⟩
theorem VK.aco {T:TypeId} {acc:Nat→KV} : VK P E (.ts T .any 0 [] acc) (.slice none 0 0):=by
  simp only [VK]
  exact ⟨⟨rfl,fun i h=>by omega,rfl⟩,[],.nil,none,0,rfl,Nat.le_refl _,.inl ⟨rfl,rfl⟩,trivial⟩
theorem VK.ai2 {b:Bool} {v:KV} {u:Value} (h:VK P E v u):VK P E (cond b v .av) u:=by
  cases b with
  | false=>exact .lK
  | true=>exact h
theorem VK.iJ {c:CK} {v:KV} {u:Value} (h:VK P E v u):VK P E (iJ c v) u:=by
  unfold K.iJ
  split
  · have:=h.jI; subst this; exact .aco
  · rename_i t t' m n es acc
    cases hb:Nat.beq t t' with
    | false=>exact .lK
    | true=>
      have:=Nat.eq_of_beq_eq_true hb
      subst this
      exact h.afW
  · exact VK.ai2 h
theorem aO.te:∀ {ks:List CK} {cs:List KV} {l:List Value},aO P E cs l→cs.length=ks.length→aO P E (te ks cs) l
  | [],[],l,h,_=>h
  | [],_ :: _,_,_,e=>by simp at e
  | _ :: _,[],_,_,e=>by simp at e
  | c :: ks,v :: cs,l,h,e=>by
    obtain ⟨y,ys,rfl,h1,h2⟩:=h.cons_inv
    exact .cons h1.iJ (aO.te h2 (by simpa using e))
theorem VK.eD {l:pt} {v:KV} {u:Value} (h:VK P E v u):VK P E (eD l v) u:=by
  unfold K.eD
  split
  · rename_i cs
    obtain ⟨m,rfl,h1⟩:=h.iQ
    cases hb:(l.agg && Nat.beq cs.length l.ks.length) with
    | false=>exact .lK
    | true=>
      simp only [Bool.and_eq_true] at hb
      exact .kP (h1.te (Nat.eq_of_beq_eq_true hb.2))
  · cases l.agg with
    | true=>exact .lK
    | false=>
      rw [cond_false]
      split
      · exact h.iJ
      · exact .lK
theorem LN (d:Nat) (v:KV):ae P (d+1) v=(match v with
  | .ts t _ n _ acc=>.ts t .any n ((List.range n).map fun i=>ao P (ae P d) t (acc i)) (fun i=>ao P (ae P d) t (acc i))
  | v=>v):=rfl
theorem V5 (d:Nat) {c:CK} {v:KV} (h:kindOk c v=true):kindOk c (ae P d v)=true:=by
  cases d with
  | zero=>exact h
  | succ d=>
    rw [LN]
    split
    · rename_i t m n es acc
      cases c <;> simp [kindOk] at h
      cases m <;> simp at h
      simp [kindOk,h]
    · exact h
theorem x4 (d:Nat):∀ {ks:List CK} {cs:List KV},ax ks cs=true→ax ks (cs.map (ae P d))=true
  | [],[],_=>rfl
  | [],_ :: _,h=>by simp [ax] at h
  | _ :: _,[],h=>by simp [ax] at h
  | c :: ks,v :: cs,h=>by
    simp only [ax,Bool.and_eq_true] at h
    simp only [List.map_cons,ax,Bool.and_eq_true]
    exact ⟨V5 d h.1,x4 d h.2⟩
theorem la:∀ {ks:List CK} {vs:List KV},ax ks vs=true→vs.length=ks.length
  | [],[],_=>rfl
  | [],_ :: _,h=>by simp [ax] at h
  | _ :: _,[],h=>by simp [ax] at h
  | k :: ks,v :: vs,h=>by
    simp only [ax,Bool.and_eq_true] at h
    simp [la h.2]
theorem lg {l:pt} : ∀ {es:List KV},(∀ (i:Nat) e,es[i]? = some e→bX l e=true)→cX l es=true
  | [],_=>rfl
  | e :: es,h=>by
    simp only [cX,Bool.and_eq_true]
    exact ⟨h 0 e rfl,lg fun i x hx=>h (i+1) x (by simpa using hx)⟩
theorem CQ {l:pt} {v:KV} (h:bX l v=true):leaves v l.ks 0=v.cells∧ax l.ks v.cells=true∧(v=Ep l.agg v.cells):=by
  have hk:ax l.ks v.cells=true∧(v=Ep l.agg v.cells):=by
    by_cases ha:∃ cs,v = .agg cs
    · obtain ⟨cs,rfl⟩:=ha
      simp only [bX,Bool.and_eq_true] at h
      refine ⟨h.2,?_⟩
      rw [h.1]; rfl
    · have h1:(!l.agg && ax l.ks [v])=true:=by
        cases v <;> first | exact h | exact absurd ⟨_,rfl⟩ ha | simp [bX] at h
      have hc:v.cells = [v]:=by cases v <;> first | rfl | exact absurd ⟨_,rfl⟩ ha
      simp only [Bool.and_eq_true,Bool.not_eq_true'] at h1
      rw [hc,h1.1]
      exact ⟨h1.2,rfl⟩
  refine ⟨?_,hk.1,hk.2⟩
  rw [JO (e:=v) (ks:=l.ks) hk.1 (fun m c e=>by rw [Nat.zero_add]; exact e)]
  show (v.cells.drop 0).take l.ks.length=v.cells
  rw [List.drop_zero,← la hk.1,List.take_length]
theorem TG {l:pt} {cs:List KV} {v:KV} (h:bX l v=true) (hk:ax l.ks cs=true) (hlen:cs.length=v.cells.length):bX l (Ep l.agg cs)=true:=by
  by_cases ha:∃ ds,v = .agg ds
  · obtain ⟨ds,rfl⟩:=ha
    simp only [bX,Bool.and_eq_true] at h
    rw [h.1]
    show (l.agg && ax l.ks cs)=true
    rw [h.1,hk]; rfl
  · have h1:(!l.agg && ax l.ks [v])=true:=by
      cases v <;> first | exact h | exact absurd ⟨_,rfl⟩ ha | simp [bX] at h
    have hc:v.cells = [v]:=by cases v <;> first | rfl | exact absurd ⟨_,rfl⟩ ha
    simp only [Bool.and_eq_true,Bool.not_eq_true'] at h1
    rw [hc] at hlen
    match cs,hlen with
    | [c],_=>
      rw [h1.1]
      show bX l c=true
      have LM:one c=true:=by
        cases mi:l.ks with
        | nil=>rw [mi] at hk; simp [ax] at hk
        | cons a akK=>rw [mi] at hk; simp only [ax,Bool.and_eq_true] at hk; cases a <;> cases c <;> first | rfl | simp [kindOk] at hk
      cases c <;> first | (simp [one] at LM; done) | (simp only [bX,h1.1,Bool.not_false,Bool.true_and]; exact hk)
mutual
theorem VK.ae:∀ (d:Nat) {v:KV} {u:Value},VK P E v u→VK P E (K.ae P d v) u
  | 0,_,_,h=>h
  | d+1,v,u,h=>by
    rw [LN]
    split
    · rename_i t m n es acc
      obtain ⟨ht,aU,h1,a,cap,rfl,h2,h3,_⟩:=h.iu
      simp only [VK]
      have wb:∀ i,i < n→∃ e e',es[i]? = some e∧aU[i]? = some e'∧acc i=e∧bX (a6 P t) e=true∧VK P E e e':=by
        intro i hi
        have hl:i < es.length:=by rw [← ht.len]; exact hi
        have e1:=List.getElem?_eq_getElem hl
        obtain ⟨e',e2,e3⟩:=h1.get e1
        exact ⟨_,e',e1,e2,by rw [ht.acc i hi,List.getD_eq_getElem?_getD,e1]; rfl,fP ht.typed e1,e3⟩
      have hlen:aU.length=n:=by rw [h1.length,ht.len]
      refine ⟨⟨by simp,fun i hi=>?_,?_⟩,aU,?_,a,cap,rfl,h2,h3,trivial⟩
      · rw [List.getD_eq_getElem?_getD,List.getElem?_map,List.getElem?_range hi]; rfl
      · refine lg fun i e he=>?_
        rw [List.getElem?_map] at he
        by_cases hi:i < n
        · rw [List.getElem?_range hi] at he
          simp only [Option.map_some,Option.some.injEq] at he
          obtain ⟨x,x',_,_,q3,q4,_⟩:=wb i hi
          rw [← he,q3,ao]
          obtain ⟨r1,r2,_⟩:=CQ q4
          rw [r1]
          exact TG q4 (x4 d r2) (by simp)
        · rw [List.getElem?_eq_none (by simp; omega)] at he; simp at he
      · refine aO.KZ (by simp [hlen]) fun i e e' he wJ=>?_
        rw [List.getElem?_map] at he
        by_cases hi:i < n
        · rw [List.getElem?_range hi] at he
          simp only [Option.map_some,Option.some.injEq] at he
          obtain ⟨x,x',_,q2,q3,q4,q5⟩:=wb i hi
          rw [wJ] at q2
          simp only [Option.some.injEq] at q2
          subst q2
          rw [← he,q3]
          exact VK.ao d q4 q5
        · rw [List.getElem?_eq_none (by simp; omega)] at he; simp at he
    · exact h
theorem VK.ao (d:Nat) {t:TypeId} {v:KV} {u:Value} (hk:bX (a6 P t) v=true) (h:VK P E v u):VK P E (K.ao P (K.ae P d) t v) u:=by
  obtain ⟨r1,r2,r3⟩:=CQ hk
  rw [K.ao,r1]
  by_cases ha:∃ cs,v = .agg cs
  · obtain ⟨cs,rfl⟩:=ha
    obtain ⟨l,rfl,h1⟩:=h.iQ
    have rA:(a6 P t).agg=true:=by simp only [bX,Bool.and_eq_true] at hk; exact hk.1
    rw [rA]
    exact .kP (aO.aax d h1)
  · have hc:v.cells = [v]:=by cases v <;> first | rfl | exact absurd ⟨_,rfl⟩ ha
    have rA:(a6 P t).agg=false:=by
      cases v <;> first | (simp only [bX,Bool.and_eq_true,Bool.not_eq_true'] at hk; exact hk.1) | exact absurd ⟨_,rfl⟩ ha | simp [bX] at hk
    rw [rA,hc]
    exact VK.ae d h
theorem aO.aax (d:Nat):∀ {cs:List KV} {l:List Value},aO P E cs l→aO P E (cs.map (K.ae P d)) l
  | [],l,h=>h
  | c :: cs,l,h=>by
    obtain ⟨y,ys,rfl,h1,h2⟩:=h.cons_inv
    exact .cons (VK.ae d h1) (aO.aax d h2)
end
theorem VK.DD {t:TypeId} {v:KV} {u:Value} (h:VK P E v u):VK P E (K.DD P t v) u:=by
  unfold K.DD
  cases hb:bX (a6 P t) (K.eD (a6 P t) v) with
  | false=>exact .lK
  | true=>exact VK.ao _ hb h.eD
theorem aay {c:CK} {v:KV} (h:kindOk c v=true):one v=true:=by
  cases c <;> cases v <;> simp [kindOk] at h <;> rfl
theorem xn:∀ {ks:List CK} {cs:List KV},ax ks cs=true→dV cs=true
  | [],[],_=>rfl
  | [],_ :: _,h=>by simp [ax] at h
  | _ :: _,[],h=>by simp [ax] at h
  | c :: ks,v :: cs,h=>by
    simp only [ax,Bool.and_eq_true] at h
    simp [dV,aay h.1,xn h.2]
def bc:List Value→List Value
  | []=>[]
  | v :: vs=>v.cells.toList ++ bc vs
theorem eT {n:Nat} : ∀ {es:List Value},(∀ v ∈ es,v.cells.size=n)→(bc es).length=es.length * n
  | [],_=>by simp [bc]
  | v :: es,h=>by
    simp only [bc,List.length_append,List.length_cons]
    rw [eT fun u hu=>h u (by simp [hu])]
    have:=h v (by simp)
    simp only [Array.length_toList,this,Nat.succ_mul]
    omega
theorem jt {n:Nat} : ∀ {es:List Value},(∀ v ∈ es,v.cells.size=n)→jQ n 0 (bc es) es
  | [],_,i,x,h=>by simp at h
  | v :: es,hs,i,x,h=>by
    have hv:=hs v (by simp)
    cases i with
    | zero=>
      simp at h
      subst h
      refine ⟨hv,fun k y hy=>?_⟩
      simp only [bc,Nat.zero_mul,Nat.zero_add]
      have aY:k < v.cells.size:=(Array.getElem?_eq_some_iff.1 hy).1
      rw [List.getElem?_append_left (by simpa using aY)]
      simpa using hy
    | succ i=>
      obtain ⟨h1,h2⟩:=jt (es:=es) (fun u hu=>hs u (by simp [hu])) i x (by simpa using h)
      refine ⟨h1,fun k y hy=>?_⟩
      have:=h2 k y hy
      simp only [bc]
      rw [List.getElem?_append_right (by simp [hv,Nat.succ_mul]; omega)]
      rw [← this]
      congr 1
      simp [hv,Nat.succ_mul]
      omega
theorem qD:∀ (a b:List Value),bc (a ++ b)=bc a ++ bc b
  | [],b=>rfl
  | v :: a,b=>by simp [bc,qD a b]
theorem vw:∀ {es:List Value},(∀ v ∈ es,∀ c ∈ v.cells.toList,scalar c=true)→∀ c ∈ bc es,scalar c=true
  | [],_,c,h=>by simp [bc] at h
  | v :: es,hs,c,h=>by
    simp only [bc,List.mem_append] at h
    rcases h with h | h
    · exact hs v (by simp) c h
    · exact vw (fun u hu=>hs u (by simp [hu])) c h
theorem Qt {n:Nat} : ∀ {es:List Value} {i:Nat} {v:Value},(∀ u ∈ es,u.cells.size=n)→v.cells.size=n→i < es.length→dr (i * n) (bc es) v.cells.toList=some (bc (es.set i v))
  | [],i,v,_,_,h=>by simp at h
  | u :: es,0,v,hs,hv,_=>by
    simp only [Nat.zero_mul,bc,List.set_cons_zero]
    have key:∀ (a b r:List Value),a.length=b.length→dr 0 (a ++ r) b=some (b ++ r):=by
      intro a
      induction a with
      | nil=>intro b r h; cases b <;> simp_all [rv]
      | cons x a ih=>
        intro b r h
        cases b with
        | nil=>simp at h
        | cons y b=>rw [List.cons_append,oI,ih b r (by simpa using h)]; rfl
    exact key _ _ _ (by simp [hs u (by simp),hv])
  | u :: es,i+1,v,hs,hv,h=>by
    have ih:=Qt (es:=es) (i:=i) (fun w hw=>hs w (by simp [hw])) hv (by simpa using h)
    simp only [bc,List.set_cons_succ]
    have key:∀ (a r vs q:List Value) (m:Nat),dr m r vs=some q→dr (a.length+m) (a ++ r) vs=some (a ++ q):=by
      intro a
      induction a with
      | nil=>intro r vs q m h; simpa using h
      | cons x a ih=>
        intro r vs q m h
        rw [List.length_cons,show a.length+1+m=(a.length+m)+1 by omega,List.cons_append,kq,ih r vs q m h]
        rfl
    have:=key u.cells.toList _ _ _ _ ih
    rw [show u.cells.toList.length+i * n=(i+1) * n by simp [hs u (by simp),Nat.succ_mul]; omega] at this
    exact this
def rI (es:List Value):List (Nat×Value)→List Value
  | []=>es
  | (i,v) :: rest=>rI (es.set i v) rest
theorem Iu:∀ (ps:List (Nat×Value)) (es:List Value),(rI es ps).length=es.length
  | [],_=>rfl
  | p :: ps,es=>by simp [rI,Iu ps]
theorem TH {n:Nat} (hn:1≤n):∀ {ps:List (Nat×Value)} {es:List Value},(∀ u ∈ es,u.cells.size=n)→(∀ p ∈ ps,p.2.cells.size=n∧p.1 < es.length)→
    sM (sf n) (bc es) ps=some (bc (rI es ps))∧∀ u ∈ rI es ps,u.cells.size=n
  | [],es,hs,_=>⟨rfl,hs⟩
  | (i,v) :: ps,es,hs,hp=>by
    obtain ⟨h1,h2⟩:=hp (i,v) (by simp)
    have h3:=Qt hs h1 h2
    have SY:∀ u ∈ es.set i v,u.cells.size=n:=by
      intro u hu
      rcases List.mem_or_eq_of_mem_set hu with h | h
      · exact hs u h
      · subst h; exact h1
    obtain ⟨h4,h5⟩:=TH hn (ps:=ps) SY (fun p hq=>by have:=hp p (by simp [hq]); simpa using this)
    refine ⟨?_,h5⟩
    simp only [sM,sf]
    have e1:Nat.beq v.cells.size n=true:=by rw [h1]; simp
    have e2:Nat.ble 1 n=true:=Nat.ble_eq_true_of_le hn
    rw [e1,e2]
    simp only [Bool.and_self,cond_true,h3,Option.bind_some]
    exact h4
theorem JP {v:KV} {u:Value} (h:VK P E v u):∀ {es:List KV} {aU:List Value} (i:Nat),aO P E es aU→aO P E (setAt es i v) (aU.set i u)
  | [],aU,i,q=>by rw [q.bh]; cases i <;> exact .nil
  | x :: es,aU,0,q=>by
    obtain ⟨y,ys,rfl,h1,h2⟩:=q.cons_inv
    exact .cons h h2
  | x :: es,aU,i+1,q=>by
    obtain ⟨y,ys,rfl,h1,h2⟩:=q.cons_inv
    exact .cons h1 (JP h i h2)
theorem TI {l:pt} : ∀ {is:List Nat} {vs:List KV} {us:List Value} {es:List KV} {aU:List Value},aO P E vs us→aO P E es aU→aO P E (CB es ((ta is vs).map fun p=>(p.1,eD l p.2))) (rI aU (zipIdx is us))
  | [],vs,us,es,aU,_,h=>by simpa [ta,zipIdx,CB,rI] using h
  | i :: is,[],us,es,aU,hv,h=>by rw [hv.bh]; simpa [ta,zipIdx,CB,rI] using h
  | i :: is,v :: vs,us,es,aU,hv,h=>by
    obtain ⟨y,ys,rfl,h1,h2⟩:=hv.cons_inv
    simp only [ta,zipIdx,List.map_cons,CB,rI]
    exact TI h2 (JP h1.eD i h)
theorem vx:∀ (es:List KV) (i:Nat) (v:KV),(setAt es i v).length=es.length
  | [],0,_=>rfl
  | [],_+1,_=>rfl
  | _ :: _,0,_=>rfl
  | e :: es,i+1,v=>by simp [setAt,vx es i v]
theorem Iv:∀ (ps:List (Nat×KV)) (es:List KV),(CB es ps).length=es.length
  | [],_=>rfl
  | p :: ps,es=>by simp [CB,Iv ps,vx]
theorem ady {n:Nat} : ∀ {is:List Nat} (us:List Value),xD n is=true→∀ p ∈ zipIdx is us,p.1 < n∧p.2 ∈ us
  | [],us,_,p,h=>by simp [zipIdx] at h
  | i :: is,[],_,p,h=>by simp [zipIdx] at h
  | i :: is,u :: us,h,p,hp=>by
    simp only [xD,Bool.and_eq_true,Nat.blt_eq] at h
    simp only [zipIdx,List.mem_cons] at hp
    rcases hp with rfl | hp
    · exact ⟨h.1,by simp⟩
    · obtain ⟨h1,h2⟩:=ady us h.2 p hp
      exact ⟨h1,by simp [h2]⟩
theorem CR (z:Value):∀ n,dz z.cells.toList n=bc (List.replicate n z)
  | 0=>rfl
  | n+1=>by simp [dz,List.replicate_succ,bc,CR z n]
theorem LO {z:KV} {u:Value} (h:VK P E z u):∀ n,aO P E (cu [z] n) (List.replicate n u)
  | 0=>.nil
  | n+1=>by simpa [cu,List.replicate_succ] using aO.cons h (LO h n)
theorem j1 {l:pt} : ∀ {es:List KV} {aU:List Value},cX l es=true→aO P E es aU→∀ u ∈ aU,u.cells.size=l.ks.length∧∀ c ∈ u.cells.toList,scalar c=true
  | [],aU,_,h,u,hu=>by rw [h.bh] at hu; simp at hu
  | e :: es,aU,wb,h,u,hu=>by
    obtain ⟨y,ys,rfl,h1,h2⟩:=h.cons_inv
    simp only [cX,Bool.and_eq_true] at wb
    rcases List.mem_cons.1 hu with rfl | hu
    · obtain ⟨k1,k2⟩:=eB wb.1
      have hc:=h1.cells k2
      refine ⟨?_,hc.scalar (xn k1)⟩
      have:=hc.length
      have:=kT k1
      simp at *
      omega
    · exact j1 wb.2 h2 u hu
theorem W8 {l:pt} : ∀ {vs:List KV} {us:List Value},aO P E vs us→aO P E (vs.map (eD l)) us
  | [],_,h=>h
  | v :: vs,us,h=>by
    obtain ⟨y,ys,rfl,h1,h2⟩:=h.cons_inv
    exact .cons h1.eD (W8 h2)
theorem V6 {e:TypeId} {n len:Nat} {z:Value} {is:List Nat} (hn:(a6 P e).ks.length=n) (h1n:1≤n) (hz:z.cells.size=n) (hb:xD len is=true) :
    ais P (Fl (a6 P e) e (eD (a6 P e) (eG z)) len is) (pj n z len is):=by
  intro E A B vs us v h hv hg
  unfold Fl at hg
  obtain ⟨hc,hg⟩:=aE.cond hg
  simp only [Bool.and_eq_true] at hc
  obtain ⟨⟨hk,hvs⟩,wb⟩:=hc
  have hg:KV.ts e .exact len _ _=v:=hg
  subst hg
  have CS:VK P E (eD (a6 P e) (eG z)) z:=(VK.eG z).eD
  have sm:=TI (l:=a6 P e) (is:=is) hv (LO CS len)
  have hlen:(CB (cu [eD (a6 P e) (eG z)] len) ((ta is vs).map fun p=>(p.1,eD (a6 P e) p.2))).length=len:=by
    rw [Iv,wP]; simp
  have ahM:∀ p ∈ zipIdx is us,p.2.cells.size=n∧p.1 < (List.replicate len z).length:=by
    intro p hp
    obtain ⟨h5,h6⟩:=ady us hb p hp
    have hm:aO P E (vs.map (eD (a6 P e))) us:=W8 hv
    exact ⟨by rw [← hn]; exact (j1 hvs hm p.2 h6).1,by simpa using h5⟩
  obtain ⟨h3,h4⟩:=TH h1n (ps:=zipIdx is us) (es:=List.replicate len z) (fun u hu=>by rw [(List.mem_replicate.1 hu).2]; exact hz) ahM
  have pq:=j1 wb sm
  have eZ:(bc (rI (List.replicate len z) (zipIdx is us))).all scalar=true:=List.all_eq_true.2 (vw fun u hu=>(pq u hu).2)
  refine ⟨.row (bc (rI (List.replicate len z) (zipIdx is us))) n true none,fun b=>.slice (some ⟨b,0,none⟩) len len,E.dD B.next ⟨_,n,true,none⟩,?_,?_,ck.ait h⟩
  · unfold pj
    rw [CR,h3]
    simp only [Option.bind_some]
    rw [eZ,CN hv hk]
    rfl
  · have ai3:=sm.mono (ck.ait (bk:=bc (rI (List.replicate len z) (zipIdx is us))) (a8:=n) h).le
    have hY:(rI (List.replicate len z) (zipIdx is us)).length=len:=by rw [Iu]; simp
    simp only [VK]
    refine ⟨⟨hlen.symm,fun i _=>rfl,wb⟩,_,ai3,some ⟨B.next,0,none⟩,len,rfl,Nat.le_refl _,.inr ⟨B.next,0,⟨bc (rI (List.replicate len z) (zipIdx is us)),n,true,none⟩,rfl,by simp [Env.dD],hn.symm,?_⟩,rfl,fun b off hb=>?_⟩
    · have:=jt h4
      unfold aL
      rw [hn]
      exact this
    · simp at hb
      obtain ⟨rfl,rfl⟩:=hb
      refine ⟨⟨bc (rI (List.replicate len z) (zipIdx is us)),n,true,none⟩,by simp [Env.dD],rfl,rfl,?_⟩
      simp only [aL,hn]
      rw [eT h4,hY]
      omega
theorem Yt {n len:Nat} {z:Value} {is:List Nat} (ho:dV (eG z).cells=true):W7 P (JF n (eG z).cells len is) (pj n z len is):=by
  intro E A A' B vs us v h hv hg
  unfold JF at hg
  split at hg
  · rename_i cs hf
    obtain ⟨hk,hg⟩:=aE.cond hg
    simp only [Bool.and_eq_true] at hk
    have hg:(KV.sl A.next 0 len len,A.new (.row cs n))=(v,A'):=hg
    simp only [Prod.mk.injEq] at hg
    obtain ⟨rfl,rfl⟩:=hg
    obtain ⟨h2,h3⟩:=Tu is hv
    obtain ⟨r',e,hr⟩:=Tt h2 h3 (fun p hp=>by have:=Tv is vs p hp; exact List.all_eq_true.1 hk.1 _ this) (FC (uU (P:=P) (E:=E) ho) len) hf
    refine ⟨.row r' n true none,fun b=>.slice (some ⟨b,0,none⟩) len len,E.hO A.next B.next,?_,.adv (by simp [Env.hO]),ck.newRow h hr⟩
    unfold pj
    rw [e]
    simp only [Option.bind_some]
    rw [CN hv hk.1,List.all_eq_true.2 (hr.scalar hk.2)]
    rfl
  · exact hg.elim
theorem Bo {m cap:Nat} {lo hi:Bool} {r:List KV} {r' : List Value} {x y:Int} (h:LC m lo hi r=some (x,y)) (hr:aO P E r r') (h0:0≤x) (h1:x≤y) (h2:y≤(m:Int)) (hc:m≤cap) :
    mN m cap lo hi false r' = some (x.toNat,y.toNat,cap):=by
  obtain ⟨x',rfl⟩:=Int.eq_ofNat_of_zero_le h0
  obtain ⟨y',rfl⟩:=Int.eq_ofNat_of_zero_le (Int.le_trans h0 h1)
  have hb:∀ (k:IntKind) (i n:Nat),i≤n→Q6 n (.int k (i:Int))=some i:=by
    intro k i n h
    show fL (.ofNat i) (Nat.succ n)=some i
    exact jZ (by omega)
  match r,h with
  | [],h=>
    rw [hr.bh]
    cases lo <;> cases hi <;> simp [LC] at h
    obtain ⟨h3,h4⟩:=h
    simp [mN]
    omega
  | [.int k a],h=>
    obtain ⟨u,rfl,h3⟩:=hr.cG
    have:=h3.bW; subst this
    cases lo <;> cases hi <;> simp [LC] at h
    · obtain ⟨h4,rfl⟩:=h
      simp only [mN]
      rw [hb k y' cap (by omega)]
      simp
      omega
    · obtain ⟨rfl,h4⟩:=h
      simp only [mN]
      rw [hb k x' m (by omega)]
      simp
      omega
  | [.int k a,.int k' c],h=>
    obtain ⟨u,v,rfl,h3,h4⟩:=hr.gW
    have:=h3.bW; subst this
    have:=h4.bW; subst this
    cases lo <;> cases hi <;> simp [LC] at h
    obtain ⟨rfl,rfl⟩:=h
    simp only [mN]
    rw [hb k' y' cap (by omega)]
    simp only [Option.bind_some]
    rw [hb k x' y' (by omega)]
    simp
theorem Iw {l:pt} : ∀ {es:List KV} (n:Nat),cX l es=true→cX l (es.drop n)=true
  | es,0,h=>by simpa using h
  | [],n+1,_=>rfl
  | e :: es,n+1,h=>by
    simp only [cX,Bool.and_eq_true] at h
    simpa using Iw n h.2
theorem Ix {l:pt} : ∀ {es:List KV} (n:Nat),cX l es=true→cX l (es.take n)=true
  | es,0,h=>rfl
  | [],n+1,_=>rfl
  | e :: es,n+1,h=>by
    simp only [cX,Bool.and_eq_true] at h
    simp [cX,h.1,Ix n h.2]
theorem DF {l:pt} : ∀ {es fs:List KV},cX l es=true→cX l fs=true→cX l (es ++ fs)=true
  | [],fs,_,h=>h
  | e :: es,fs,h,k=>by
    simp only [cX,Bool.and_eq_true] at h
    simp [cX,h.1,DF h.2 k]
theorem jQ.part {sz off x k:Nat} {cs es:List Value} (h:jQ sz off cs es):jQ sz (off+x * sz) cs ((es.drop x).take k):=by
  intro i v hv
  rw [List.getElem?_take] at hv
  split at hv
  · rw [List.getElem?_drop] at hv
    obtain ⟨h1,h2⟩:=h (x+i) v hv
    refine ⟨h1,fun j y hj=>?_⟩
    rw [← h2 j y hj]
    congr 1
    rw [Nat.add_mul]
    omega
  · simp at hv
theorem OH {es:List KV} {i:Nat} (h:i < es.length):es[i]? = some (es.getD i .av):=by simp [List.getD,h]
theorem aaz {n:Nat} {lo hi:Bool} (_:1≤n):aav P (Ox P n lo hi) (sg n lo hi false):=by
  intro E A B vs us v h hv hg
  unfold Ox at hg
  split at hg
  · rename_i T mk m es acc r
    split at hg
    · rename_i x y hb
      obtain ⟨cA,hg⟩:=hg.cond
      have cA:=Nat.eq_of_beq_eq_true cA
      obtain ⟨hc,rfl⟩:=aE.il hg
      simp only [Bool.and_eq_true,decide_eq_true_eq] at hc
      obtain ⟨⟨h0,h1⟩,h2⟩:=hc
      obtain ⟨u,r',rfl,h3,h4⟩:=hv.cons_inv
      obtain ⟨ht,aU,h5,a,cap,rfl,h6,h7,_⟩:=h3.iu
      have HL:=Bo hb h4 h0 h1 h2 h6
      have hlen:=ht.len
      have hle:((es.drop x.toNat).take (y.toNat - x.toNat)).length=y.toNat - x.toNat:=by simp; omega
      have hT:eL P T (y.toNat - x.toNat) ((es.drop x.toNat).take (y.toNat - x.toNat)) (fun i=>acc (x.toNat+i)):=by
        refine ⟨hle.symm,fun i hi=>?_,Ix _ (Iw _ ht.typed)⟩
        rw [ht.acc _ (by omega)]
        simp only [List.getD]
        rw [List.getElem?_take,if_pos hi,List.getElem?_drop]
      rcases h7 with ⟨rfl,hm⟩ | ⟨b,off,rr,rfl,h8,h9,wN⟩
      · refine ⟨.slice none (y.toNat - x.toNat) (cap - x.toNat),by simp [sg,HL],?_⟩
        simp only [VK]
        exact ⟨hT,_,(h5.drop _).take _,none,_,rfl,by omega,.inl ⟨rfl,by omega⟩,trivial⟩
      · have fa:=h.z b rr h8
        have K8:rr.a8=n:=by rw [h9]; exact cA
        refine ⟨.slice (some ⟨b,off+x.toNat * n,none⟩) (y.toNat - x.toNat) (cap - x.toNat),?_,?_⟩
        · simp [sg,HL,bA,vl,fa,K8]
        · simp only [VK]
          refine ⟨hT,_,(h5.drop _).take _,_,_,rfl,by omega,.inr ⟨b,off+x.toNat * n,rr,rfl,h8,h9,?_⟩,trivial⟩
          have:aL P T=n:=cA
          rw [this] at wN ⊢
          exact wN.part
    · exact hg.elim
  · rename_i b o len cap r
    split at hg
    · rename_i cs a8 fa
      split at hg
      · rename_i x y hb
        obtain ⟨cA,hg⟩:=hg.cond
        have cA:=Nat.eq_of_beq_eq_true cA
        obtain ⟨hc,rfl⟩:=aE.il hg
        simp only [Bool.and_eq_true,decide_eq_true_eq] at hc
        obtain ⟨⟨⟨h0,h1⟩,h2⟩,h6⟩:=hc
        obtain ⟨u,r',rfl,h3,h4⟩:=hv.cons_inv
        obtain ⟨z,hz,rfl⟩:=h3.Hs
        have HL:=Bo hb h4 h0 h1 h2 h6
        obtain ⟨z',bk,e1,e2,_⟩:=h.row b cs a8 fa
        rw [hz] at e1
        simp at e1
        subst e1
        refine ⟨.slice (some ⟨z,o+x.toNat * n,none⟩) (y.toNat - x.toNat) (cap - x.toNat),?_,.adv hz⟩
        simp [sg,HL,bA,vl,e2,cA]
      · exact hg.elim
    · exact hg.elim
  · rename_i T b o m r
    split at hg
    · rename_i T' mk N es acc hA
      split at hg
      · rename_i x y hb
        obtain ⟨cA,hg⟩:=hg.cond
        obtain ⟨hc,rfl⟩:=aE.il hg
        simp only [Bool.and_eq_true] at cA
        have hT:=Nat.eq_of_beq_eq_true cA.2
        have aiv:aL P T=n:=Nat.eq_of_beq_eq_true cA.1
        subst hT
        simp only [Bool.and_eq_true,decide_eq_true_eq] at hc
        obtain ⟨⟨h0,h1⟩,h2⟩:=hc
        obtain ⟨u,r',rfl,h3,h4⟩:=hv.cons_inv
        rcases h3.qT with ⟨rfl,rfl,rfl⟩ | ⟨z,L,N',c,e1,rfl,e2,e3,e4⟩
        · have HL:=Bo hb h4 h0 h1 h2 (Nat.le_refl _)
          have hx0:x.toNat=0:=by omega
          have hy0:y.toNat=0:=by omega
          refine ⟨.slice none (y.toNat - x.toNat) (0 - x.toNat),by simp [sg,HL],.LI (.inl ⟨by omega,by omega,by rw [hx0,hy0]⟩)⟩
        · have HL:=Bo hb h4 h0 h1 h2 e2
          obtain ⟨T2,N2,kx,db,Ob,_,_,cs,e,own,a9,aU,_,h5,_,_,_,h7⟩:=h.zL hA e1
          simp only [KV.ts.injEq] at Ob
          obtain ⟨rfl,_⟩:=Ob
          refine ⟨.slice (some ⟨z,o * aL P T+x.toNat * n,none⟩) (y.toNat - x.toNat) (c - x.toNat),?_,.LI (.inr ⟨z,L,N',c - x.toNat,e1,?_,by omega,by omega,?_⟩)⟩
          · simp [sg,HL,bA,vl,h5,h7,aiv]
          · simp only [Value.slice.injEq,Option.some.injEq,Addr.mk.injEq,and_true,true_and]
            rw [aiv,Nat.add_mul]
          · rw [← e4]
            congr 1
            omega
      · exact hg.elim
    · exact hg.elim
  · exact hg.elim
theorem Yu {len n:Nat} {lo hi:Bool} : aav P (JI len n lo hi) (Ca len n lo hi false):=by
  intro E A B vs us v h hv hg
  unfold JI at hg
  split at hg
  · rename_i b o r
    split at hg
    · rename_i cs a8 fa
      split at hg
      · rename_i x y hb
        obtain ⟨cA,hg⟩:=hg.cond
        simp only [Bool.and_eq_true] at cA
        have n7:=Nat.eq_of_beq_eq_true cA.1
        have hsz2:=Nat.le_of_ble_eq_true cA.2
        obtain ⟨hc,rfl⟩:=aE.il hg
        simp only [Bool.and_eq_true,decide_eq_true_eq] at hc
        obtain ⟨⟨h0,h1⟩,h2⟩:=hc
        obtain ⟨u,r',rfl,h3,h4⟩:=hv.cons_inv
        obtain ⟨z,hz,rfl⟩:=h3.eF
        have HL:=Bo hb h4 h0 h1 h2 (Nat.le_refl _)
        obtain ⟨z',bk,e1,e2,e3⟩:=h.row b cs a8 fa
        rw [hz] at e1
        simp at e1
        subst e1
        have hlen:=e3.length
        refine ⟨.slice (some ⟨z,o+x.toNat * n,none⟩) (y.toNat - x.toNat) (len - x.toNat),?_,.adv hz⟩
        have oM:Nat.ble (o+len * n) bk.length=true:=Nat.ble_eq_true_of_le (by omega)
        simp [Ca,HL,bA,vl,KO,e2,n7,oM]
        try omega
      · exact hg.elim
    · exact hg.elim
  · exact hg.elim
theorem Yv {lo hi:Bool} : oY P (JJ lo hi) (xM lo hi):=by
  intro E vs us v hv hg
  unfold JJ at hg
  split at hg
  · rename_i s r
    split at hg
    · rename_i x y hb
      obtain ⟨hc,rfl⟩:=aE.il hg
      simp only [Bool.and_eq_true,decide_eq_true_eq] at hc
      obtain ⟨⟨h0,h1⟩,h2⟩:=hc
      obtain ⟨u,r',rfl,h3,h4⟩:=hv.cons_inv
      have:=h3.mq; subst this
      have HL:=Bo hb h4 h0 h1 h2 (Nat.le_refl _)
      exact ⟨_,by simp [xM,HL],.mkStr⟩
    · exact hg.elim
  · exact hg.elim
theorem Yw:aav P (fun _=>CC) xO:=by
  intro E A B vs us v h hv hg
  have hg:aE (CC vs) v:=hg
  unfold CC at hg
  split at hg
  · obtain ⟨u,rfl,h1⟩:=hv.cG
    have:=h1.jI; subst this
    have hg:KV.str ⟨⟨[]⟩⟩=v:=hg
    subst hg
    exact ⟨_,rfl,.mkStr⟩
  · rename_i T mk m es acc _
    obtain ⟨u,rfl,h1⟩:=hv.cG
    obtain ⟨hc,rfl⟩:=aE.il hg
    obtain ⟨ht,aU,h5,a,cap,rfl,h6,h7,_⟩:=h1.iu
    have hlen:=ht.len
    rcases h7 with ⟨rfl,hm⟩ | ⟨b,off,rr,rfl,h8,h9,wN⟩
    · have:es = []:=List.length_eq_zero_iff.1 (by omega)
      subst this
      exact ⟨_,rfl,.mkStr⟩
    · have fa:=h.z b rr h8
      have n5:∀ (i:Nat) (w:Value),aU[i]? = some w→∃ e,es[i]? = some e∧w = .int .u8 (byteOf e).toNat∧w.cells.size=1:=by
        intro i w hw
        have hi:i < es.length:=by rw [← h5.length]; exact (List.getElem?_eq_some_iff.1 hw).1
        obtain ⟨w',e1,e2⟩:=h5.get (OH hi)
        rw [hw] at e1
        simp at e1
        subst e1
        have Em:=List.all_eq_true.1 hc _ (List.mem_of_getElem? (OH hi))
        refine ⟨_,OH hi,?_⟩
        revert e2 Em
        generalize es.getD i .av=e
        intro e2 Em
        cases e <;> simp [ado] at Em
        rename_i k q
        cases k <;> simp at Em
        have:=e2.bW; subst this
        refine ⟨?_,rfl⟩
        simp only [byteOf,Value.int.injEq,true_and]
        obtain ⟨p,rfl⟩:=Int.eq_ofNat_of_zero_le Em.1
        have hp:p < 256:=by omega
        simp [UInt8.toNat_ofNat',Nat.mod_eq_of_lt hp]
      have aj8:aU=es.map fun e=>.int .u8 (byteOf e).toNat:=by
        apply List.ext_getElem?
        intro i
        cases hw:aU[i]? with
        | none=>
          have:es.length≤i:=by rw [← h5.length]; exact List.getElem?_eq_none_iff.1 hw
          simp [this]
        | some w=>
          obtain ⟨e,e1,e2,_⟩:=n5 i w hw
          simp [e1,e2]
      have n7:∀ i w,aU[i]? = some w→aL P T=1:=fun i w hw=>by
        obtain ⟨_,_,_,Yx⟩:=n5 i w hw
        rw [← (wN i w hw).1]; exact Yx
      have wL:B.oJ ⟨b,off,none⟩ m=some aU:=by
        simp only [St.oJ,bA,Option.isNone_none,cond_true,pf,fa,Option.bind_some]
        have gN:aU.length=m:=by rw [h5.length]; exact hlen.symm
        have iY:∀ i,i < m→rr.cs[off+i]? = aU[i]?:=by
          intro i hi
          have KK:i < aU.length:=by omega
          have hw:aU[i]? = some aU[i]:=List.getElem?_eq_getElem KK
          have h1':=n7 i _ hw
          obtain ⟨h12,h13⟩:=wN i _ hw
          obtain ⟨e,e1,e2,_⟩:=n5 i _ hw
          have:=h13 0 aU[i] (by rw [e2]; rfl)
          rw [h1'] at this
          rw [hw,← this]
          congr 1
          omega
        have hle:m≤(rr.cs.drop off).length:=by
          cases hm0:m with
          | zero=>omega
          | succ q=>
            have:=iY q (by omega)
            have hq:q < aU.length:=by omega
            rw [List.getElem?_eq_getElem hq] at this
            have:=(List.getElem?_eq_some_iff.1 this).1
            simp
            omega
        rw [mf,Bn hle]
        congr 1
        apply List.ext_getElem?
        intro i
        rw [List.getElem?_take]
        split
        · rename_i hi
          rw [List.getElem?_drop]
          exact iY i hi
        · rename_i hi
          exact (List.getElem?_eq_none_iff.2 (by omega)).symm
      have XY:∀ (l:List KV),yK (l.map fun e=>.int .u8 (byteOf e).toNat)=some (l.map byteOf):=by
        intro l
        induction l with
        | nil=>rfl
        | cons e l ih=>
          have hb:=(byteOf e).toNat_lt
          show cond (Nat.blt (byteOf e).toNat 256) ((yK (l.map fun e=>.int .u8 (byteOf e).toNat)).map (UInt8.ofNat (byteOf e).toNat :: ·)) none=_
          have:Nat.blt (byteOf e).toNat 256=true:=by rw [Nat.blt_eq]; omega
          rw [this,cond_true,ih]
          simp
      refine ⟨.string ⟨⟨es.map byteOf⟩⟩,?_,.mkStr⟩
      simp only [xO,wL,Option.bind_some]
      rw [aj8,XY]
      rfl
  · exact hg.elim
theorem TJ {b lo hi:Nat} : ∀ {L:List Nat} {B:St},(∀ x ∈ L,lG (B.get x) lo hi=false)→B.kill b lo hi L=B
  | [],B,_=>rfl
  | x :: L,B,h=>by
    simp only [St.kill]
    rw [h x (by simp),Bool.and_false,cond_false]
    exact TJ fun y hy=>h y (by simp [hy])
theorem ck.adz {A:ak} {B:St} (sz:Nat) (h:eh P E A B):ck P E A B E (A.new (.aJ 0 sz)) B:=by
  have hn:E.φ A.next=none:=by
    cases zO:E.φ A.next with
    | none=>rfl
    | some g=>have:=h.jq _ g zO; omega
  have hA:∀ (b:Nat) (v:KV),(A.new (.aJ 0 sz)).get b=some (.arr v)→A.get b=some (.arr v):=fun b v hb=>by
    rw [ak.bR] at hb
    split at hb
    · simp at hb
    · exact hb
  have TD:∀ (b:Nat) (v:KV),(A.new (.aJ 0 sz)).get b=some (.fB v)→A.get b=some (.fB v):=fun b v hb=>by
    rw [ak.bR] at hb
    split at hb
    · simp at hb
    · exact hb
  refine ⟨⟨?_,?_,h.z,h.apart,h.inj,h.fO.new (.inr hn),fun b x e=>?_,fun b g e=>?_,?_,h.dT,h.jr,h.fV,h.fresh,h.mem,h.ar.eU (Env.le_refl _) (fun _=>rfl) hA TD (by simp) (Nat.le_refl _) (fun _ _=>rfl) (fun _ _ e=>.inl e) (fun _ _ e=>.inl e) (fun b g e=>.inl ⟨b,e⟩) (fun _ _=>rfl) h.mem⟩,Env.le_refl _,by simp,fun _ _ _ _=>rfl,fun _ _ e=>.inl e,fun _ _ e=>.inl e,fun _ _ e=>.inl e,fun _ _ _ _=>rfl,fun _ q=>.inl (q.of (fun _=>rfl) hA),fun _ q=>.inl (q.of (fun _=>rfl) hA fun _ _=>rfl),fun _ _ q=>.inl q,fun _ q=>.inl (q.of (fun _=>rfl) hA (fun _ _=>rfl) fun _ _=>rfl),iZ fun _ _=>rfl⟩
  · intro b cs a8 hb
    rw [ak.bR] at hb
    split at hb
    · simp at hb
    · exact h.row b cs a8 hb
  · intro b top x3 hb
    rw [ak.bR] at hb
    split at hb
    · rename_i e
      simp at hb
      refine .inl ⟨hb.1.symm,?_⟩
      cases zO:E.φ b with
      | none=>rfl
      | some g=>have:=h.jq b g zO; omega
    · exact h.aJ b top x3 hb
  · have:=h.eS b x e; rw [ak.bz]; omega
  · have:=h.jq b g e; rw [ak.bz]; omega
  · intro b o hb
    rw [ak.bR] at hb
    rw [ak.bz]
    split at hb
    · omega
    · have:=h.live b o hb; omega
theorem ck.grow {A:ak} {B:St} {f g top Iy sz:Nat} {c:List Value} (h:eh P E A B) (hA:A.get f=some (.aJ top sz)) (hf:(E.φ f=none∧g=B.next)∨E.φ f=some g) (hc:c.length=Iy * sz) (ht:top≤Iy) (AZ:0 < Iy) :
    ck P E A B ((E.dD B.next ⟨c,sz,true,some (g,0)⟩).mu f g) (A.put f (.aJ Iy sz)) (B.grow g 0 c sz):=by
  have eM:∀ x,(B.grow g 0 c sz).get x=if x=B.next then some (.row c sz true (some (g,0))) else B.get x:=fun x=>by simp [St.grow]
  have ig:∀ q,(B.grow g 0 c sz).members q=if q=g then B.next :: B.members g else B.members q:=fun q=>by simp [St.grow,St.vp]
  have eN:(B.grow g 0 c sz).next=B.next+1:=rfl
  have hlef:=h.live f _ hA
  have hle:E.le ((E.dD B.next ⟨c,sz,true,some (g,0)⟩).mu f g):=by
    refine ⟨fun _ _ e=>e,fun _ _ e=>e,fun b r e=>?_,fun b q e=>?_⟩
    · have:=h.jr b r e
      simp only [Env.mu,Env.dD]; rw [if_neg (by omega)]; exact e
    · simp only [Env.mu,Env.dD]
      split
      · rename_i e2
        subst e2
        rcases hf with ⟨h1,_⟩ | h1
        · rw [h1] at e; simp at e
        · rw [h1] at e; exact e
      · exact e
  have hg:g≤B.next:=by
    rcases hf with ⟨_,h1⟩ | h1
    · omega
    · have:=h.fV f g h1; omega
  generalize hB' : B.grow g 0 c sz=B' at eM ig eN
  have Yy:∀ (b:Nat) (v:KV),(A.put f (.aJ Iy sz)).get b=some (.arr v)→A.get b=some (.arr v):=fun b v hb=>by
    rw [ak.bt] at hb
    split at hb
    · simp at hb
    · exact hb
  have TD:∀ (b:Nat) (v:KV),(A.put f (.aJ Iy sz)).get b=some (.fB v)→A.get b=some (.fB v):=fun b v hb=>by
    rw [ak.bt] at hb
    split at hb
    · simp at hb
    · exact hb
  have rH:∀ x,x < B.next→B'.get x=B.get x:=fun x hx=>by rw [eM,if_neg (by omega)]
  have CP:∀ b r,((E.dD B.next ⟨c,sz,true,some (g,0)⟩).mu f g).z b=some r→E.z b=some r∨B.next≤b:=fun b r e=>by
    simp only [Env.mu,Env.dD] at e
    split at e
    · exact .inr (by omega)
    · exact .inl e
  have aiw:∀ b q,((E.dD B.next ⟨c,sz,true,some (g,0)⟩).mu f g).φ b=some q→E.φ b=some q∨B.next≤q:=fun b q e=>by
    simp only [Env.mu,Env.dD] at e
    split at e
    · rename_i e2
      simp at e
      subst e e2
      rcases hf with ⟨_,h1⟩ | h1
      · exact .inr (by omega)
      · exact .inl h1
    · exact .inl e
  have Re:∀ q,AF A E B q→B'.members q=B.members q:=fun q hq=>by
    rw [ig,if_neg]
    intro e2
    subst e2
    obtain ⟨b,v,x,L,N,cs,e,own,k,h1,h2,h3⟩:=hq
    obtain ⟨h4,h5,_⟩:=h.ar.nC b v x L N cs e own q k h1 h2 h3
    rcases hf with ⟨_,h1⟩ | h1
    · omega
    · exact h5 f h1
  have acp:∀ q y,y ∈ B'.members q→y ∈ B.members q∨B.next≤y:=fun q y hy=>by
    rw [ig] at hy
    split at hy
    · rename_i e2
      subst e2
      rcases List.mem_cons.1 hy with hy | hy
      · exact .inr (by omega)
      · exact .inl hy
    · exact .inl hy
  refine ⟨⟨?_,?_,?_,?_,?_,?_,?_,?_,?_,?_,?_,?_,?_,?_,h.ar.eU hle (fun _=>rfl) Yy TD (Nat.le_refl _) (by omega) (fun x q=>rH x (h.yY q)) CP (fun _ _ e=>.inl e) (fun b q e=>(aiw b q e).imp (fun e=>⟨b,e⟩) id) Re h.mem⟩,hle,Nat.le_refl _,?_,fun b x e=>.inl e,fun b r e=>(CP b r e).imp id .inr,aiw,fun q hq hn _=>by
    rw [ig,if_neg]
    intro e2
    subst e2
    rcases hf with ⟨_,h1⟩ | h1
    · omega
    · exact hn f h1,fun _ q=>.inl (q.of (fun _=>rfl) Yy),fun _ q=>.inl (q.of (fun _=>rfl) Yy fun x q=>rH x (h.yY q)),acp,fun _ q=>.inl (q.of (fun _=>rfl) Yy (fun x q=>rH x (h.yY q)) Re),iZ rH⟩
  · intro b cs a8 hb
    rw [ak.bt] at hb
    split at hb
    · simp at hb
    · obtain ⟨x,c2,h1,h2,h3⟩:=h.row b cs a8 hb
      have:=h.dT b x h1
      exact ⟨x,c2,h1,by rw [eM,if_neg (by omega)]; exact h2,h3.mono hle⟩
  · intro b t x3 hb
    rw [ak.bt] at hb
    split at hb
    · rename_i e
      simp at hb
      obtain ⟨rfl,rfl⟩:=hb
      subst e
      refine .inr ⟨g,by simp [Env.mu],AZ,fun x hx cs e own q k hr=>?_⟩
      rw [eM] at hr
      rw [ig,if_pos rfl] at hx
      split at hr
      · simp at hr
        obtain ⟨rfl,rfl,_,_,rfl⟩:=hr
        exact ⟨rfl,Nat.le_of_eq hc⟩
      · rename_i bo
        rcases List.mem_cons.1 hx with hx | hx
        · exact absurd hx bo
        · rcases hf with ⟨_,h1⟩ | h1
          · rw [h1,h.fresh _ (Nat.le_refl _)] at hx; simp at hx
          · rcases h.aJ b top sz hA with ⟨_,h2⟩ | ⟨g2,h2,_,h3⟩
            · rw [h1] at h2; simp at h2
            · rw [h1] at h2
              simp at h2
              subst h2
              obtain ⟨h4,h5⟩:=h3 x hx cs e own q k hr
              exact ⟨h4,Nat.le_trans h5 (Nat.mul_le_mul_right _ ht)⟩
    · rename_i Er
      rcases h.aJ b t x3 hb with ⟨h1,h2⟩ | ⟨g2,h2,hp2,h3⟩
      · exact .inl ⟨h1,by simp only [Env.mu,Env.dD]; rw [if_neg Er]; exact h2⟩
      · have bo:g2≠g:=by
          intro e
          subst e
          rcases hf with ⟨_,h1⟩ | h1
          · have:=h.fV b g2 h2; omega
          · exact Er (h.fO b f g2 _ _ _ _ hb hA h2 h1)
        refine .inr ⟨g2,by simp only [Env.mu,Env.dD]; rw [if_neg Er]; exact h2,hp2,fun x hx cs e own q k hr=>?_⟩
        rw [ig,if_neg bo] at hx
        have:=h.mem g2 x hx
        rw [eM,if_neg (by omega)] at hr
        exact h3 x hx cs e own q k hr
  · intro b r hb
    simp only [Env.mu,Env.dD] at hb
    rw [eM]
    split at hb
    · rename_i e; simp at hb; subst hb; rw [if_pos e]
    · rename_i e; rw [if_neg e]; exact h.z b r hb
  · intro b x hb
    have hb:E.κ b=some x:=hb
    have:=h.dT b x hb
    simp only [Env.mu,Env.dD]
    rw [if_neg (by omega)]
    exact h.apart b x hb
  · exact h.inj
  · intro b d q tb sb td sd lb ld hb hd
    simp only [Env.mu,Env.dD] at hb hd
    rw [ak.bt] at lb ld
    have key:∀ d t s,d≠f→A.get d=some (.aJ t s)→E.φ d≠some g:=by
      intro d t s hd hl e
      rcases hf with ⟨_,h1⟩ | h1
      · have:=h.fV d g e; omega
      · exact hd (h.fO d f g _ _ _ _ hl hA e h1)
    by_cases e1:b=f <;> by_cases e2:d=f
    · omega
    · rw [if_pos e1] at hb; rw [if_neg e2] at hd ld; simp at hb; subst hb; exact absurd hd (key d _ _ e2 ld)
    · rw [if_pos e2] at hd; rw [if_neg e1] at hb lb; simp at hd; subst hd; exact absurd hb (key b _ _ e1 lb)
    · rw [if_neg e1] at hb lb; rw [if_neg e2] at hd ld; exact h.fO b d q _ _ _ _ lb ld hb hd
  · exact h.eS
  · intro b q hb
    simp only [Env.mu,Env.dD] at hb
    rw [ak.uG]
    split at hb
    · omega
    · exact h.jq b q hb
  · intro b o hb
    rw [ak.bt] at hb
    rw [ak.uG]
    split at hb
    · omega
    · exact h.live b o hb
  · intro b x hb; have:=h.dT b x hb; omega
  · intro b r hb
    simp only [Env.mu,Env.dD] at hb
    rw [eN]
    split at hb
    · omega
    · have:=h.jr b r hb; omega
  · intro b q hb
    simp only [Env.mu,Env.dD] at hb
    rw [eN]
    split at hb
    · simp at hb; omega
    · have:=h.fV b q hb; omega
  · intro q hq
    rw [eN] at hq
    rw [ig,if_neg (by omega)]
    exact h.fresh q (by omega)
  · intro q x hx
    rw [eN]
    rw [ig] at hx
    split at hx
    · rcases List.mem_cons.1 hx with hx | hx
      · omega
      · have:=h.mem g x hx; omega
    · have:=h.mem q x hx; omega
  · intro x hx _ _; rw [eM,if_neg (by omega)]
end Go.K
end
section
namespace Go.K
open Go Go.aV
variable {P:Program} {E:Env}
def mkE (agg:Bool) (m:List Value):Value:=cond agg (.agg ⟨m⟩) (m.headD .nilIface)
theorem TK {agg:Bool} {m:List Value} (hs:∀ v ∈ m,scalar v=true) (h:agg=true∨m.length=1):(mkE agg m).cells.toList=m:=by
  cases agg with
  | true=>rfl
  | false=>
    rcases h with h | h
    · simp at h
    · match m,h with
      | [v],_=>
        have:=hs v (by simp)
        show v.cells.toList = [v]
        cases v <;> first | rfl | simp [scalar] at this
theorem OI {l:pt} {ks:List KV} (h:ax l.ks ks=true) (ha:l.agg=true∨l.ks.length=1):bX l (Ep l.agg ks)=true:=by
  obtain ⟨agg,cs⟩:=l
  cases agg with
  | true=>simpa [Ep,bX] using h
  | false=>
    simp at ha
    match cs,ha,ks,h with
    | [c],_,[v],h=>
      have hk:kindOk c v=true:=by simpa [ax] using h
      show bX ⟨false,[c]⟩ v=true
      cases v with
      | agg cs=>cases c <;> simp [kindOk] at hk
      | fI cs=>cases c <;> simp [kindOk] at hk
      | _=>simpa [bX] using h
    | [c],_,[],h=>simp [ax] at h
    | [c],_,_ :: _ :: _,h=>simp [ax] at h
theorem TL {E:Env} {ks:List KV} {m:List Value} {agg:Bool} (h:aO P E ks m) (ha:agg=true∨m.length=1):VK P E (Ep agg ks) (mkE agg m):=by
  cases agg with
  | true=>exact .kP h
  | false=>
    rcases ha with ha | ha
    · simp at ha
    · match m,ha,ks,h with
      | [v],_,ks,h=>
        have hl:=h.length
        match ks,hl,h with
        | [k],_,h=>
          obtain ⟨y,ys,e,h1,_⟩:=h.cons_inv
          simp at e
          rw [e.1]
          exact h1
theorem CT {α:Type} : ∀ {n:Nat} {l vs r:List α},gG n l vs=some r→
    r.length=l.length∧(vs≠[]→n+vs.length≤l.length)∧∀ (i:Nat),r[i]? = if n≤i∧i < n+vs.length then vs[i - n]? else l[i]?
  | 0,l,[],r,h=>by simp [gG] at h; subst h; simp
  | 0,[],_ :: _,r,h=>by simp [gG] at h
  | 0,x :: l,v :: vs,r,h=>by
    simp only [gG,Option.map_eq_some_iff] at h
    obtain ⟨q,hq,rfl⟩:=h
    obtain ⟨h1,h2,h3⟩:=CT hq
    refine ⟨by simp [h1],?_,fun i=>?_⟩
    · intro _
      cases vs with
      | nil=>simp
      | cons u us=>have:=h2 (by simp); simp at this ⊢; omega
    · cases i with
      | zero=>simp
      | succ i=>simp [h3 i]
  | n+1,[],[],r,h=>by simp [gG] at h; subst h; simp
  | n+1,[],_ :: _,r,h=>by simp [gG] at h
  | n+1,x :: l,vs,r,h=>by
    simp only [gG,Option.map_eq_some_iff] at h
    obtain ⟨q,hq,rfl⟩:=h
    obtain ⟨h1,h2,h3⟩:=CT hq
    refine ⟨by simp [h1],?_,fun i=>?_⟩
    · intro bo
      have:=h2 bo
      simp at this ⊢
      omega
    · cases i with
      | zero=>simp
      | succ i=>
        simp only [List.getElem?_cons_succ,h3 i]
        by_cases hc:n≤i∧i < n+vs.length
        · rw [if_pos hc,if_pos (by omega),show i+1 - (n+1)=i - n by omega]
        · rw [if_neg hc,if_neg (by omega)]
theorem JQ (v:KV):∀ (es:List KV) (i j:Nat),(setAt es i v).getD j .av=if j=i∧i < es.length then v else es.getD j .av
  | [],0,j=>by simp [setAt]
  | [],_+1,j=>by simp [setAt]
  | e :: es,0,0=>by simp [setAt]
  | e :: es,0,j+1=>by simp [setAt]
  | e :: es,i+1,0=>by simp [setAt]
  | e :: es,i+1,j+1=>by
    have:=JQ v es i j
    simp only [setAt,List.getD_cons_succ,List.length_cons]
    rw [this]
    by_cases h:j=i∧i < es.length
    · rw [if_pos h,if_pos ⟨by omega,by omega⟩]
    · rw [if_neg h,if_neg (by omega)]
theorem ti:∀ (n:Nat) (l vs:List Value),n+vs.length≤l.length→∃ r,dr n l vs=some r
  | 0,l,[],_=>⟨l,rfl⟩
  | 0,[],_ :: _,h=>by simp at h
  | 0,x :: l,v :: vs,h=>by
    obtain ⟨r,hr⟩:=ti 0 l vs (by simp at h ⊢; omega)
    exact ⟨v :: r,by rw [oI,hr]; rfl⟩
  | n+1,[],[],_=>⟨[],rfl⟩
  | n+1,[],_ :: _,h=>by simp at h
  | n+1,x :: l,vs,h=>by
    obtain ⟨r,hr⟩:=ti n l vs (by simp at h ⊢; omega)
    exact ⟨x :: r,by rw [kq,hr]; rfl⟩
theorem Qu:∀ {ks:List CK} {cs:List KV},cs.length=ks.length→(∀ (i:Nat) c v,ks[i]? = some c→cs[i]? = some v→kindOk c v=true)→ax ks cs=true
  | [],[],_,_=>rfl
  | [],_ :: _,h,_=>by simp at h
  | _ :: _,[],h,_=>by simp at h
  | c :: ks,v :: cs,h,k=>by
    simp only [ax,Bool.and_eq_true]
    exact ⟨k 0 c v rfl rfl,Qu (by simpa using h) fun i d u e1 e2=>k (i+1) d u (by simpa using e1) (by simpa using e2)⟩
theorem acq {l:pt} {e:KV} (h:bX l e=true):l.agg=true∨e.cells.length=1:=by
  by_cases ha:∃ cs,e = .agg cs
  · obtain ⟨cs,rfl⟩:=ha
    simp only [bX,Bool.and_eq_true] at h
    exact .inl h.1
  · have hc:e.cells = [e]:=by cases e <;> first | rfl | exact absurd ⟨_,rfl⟩ ha
    rw [hc]
    exact .inr rfl
theorem aeA {T t:TypeId} {k:Nat} {e vn e2:KV} {u w:Value} (hw:Sc P T t k) (wb:bX (a6 P T) e=true) (hu:VK P E e u) (hvn:bX (a6 P t) vn=true) (hvw:VK P E vn w) (h:Ou P T k e vn.cells=some e2) :
    ∃ u2,VK P E e2 u2∧bX (a6 P T) e2=true∧u2.cells.size=aL P T∧e2.cells.length=e.cells.length∧(∀ m,u2.cells.toList[m]? = if k≤m∧m < k+w.cells.toList.length then w.cells.toList[m - k]? else u.cells.toList[m]?)∧(w.cells.toList≠[]→k+w.cells.toList.length≤aL P T):=by
  unfold Ou at h
  obtain ⟨l1,l2,_⟩:=CQ wb
  rw [l1] at h
  obtain ⟨gP,h1,rfl⟩:=Option.map_eq_some_iff.1 h
  obtain ⟨HK,SH⟩:=eB wb
  obtain ⟨AW,Q8⟩:=eB hvn
  have hcu:=hu.cells SH
  have hcw:=hvw.cells Q8
  obtain ⟨r,h2,h3⟩:=aO.gG h1 hcu hcw
  obtain ⟨s1,s2,s3⟩:=eJ h2
  obtain ⟨q1,q2,q3⟩:=CT h1
  have Cr:e.cells.length=aL P T:=la HK
  have rA:=acq wb
  have hlr:r.length=e.cells.length:=by rw [s1,hcu.length]
  have mi:ax (a6 P T).ks gP=true:=by
    refine Qu (by rw [q1]; exact Cr) fun i c v e1 e3=>?_
    rw [q3 i] at e3
    split at e3
    · rename_i hc
      obtain ⟨x,Et,hx2⟩:∃ d,(a6 P t).ks[i - k]? = some d∧d=c:=by
        have aY:i - k < (a6 P t).ks.length:=by rw [← la AW]; omega
        refine ⟨_,List.getElem?_eq_getElem aY,?_⟩
        have:=hw.is (i - k) _ (List.getElem?_eq_getElem aY)
        rw [show k+(i - k)=i by omega,e1] at this
        simpa using this.symm
      subst hx2
      obtain ⟨v',h4,h5⟩:=xm AW Et
      rw [e3] at h4
      simp at h4; subst h4
      exact h5
    · obtain ⟨v',h4,h5⟩:=xm HK e1
      rw [e3] at h4
      simp at h4; subst h4
      exact h5
  have aix:bX (a6 P T) (Ep (a6 P T).agg gP)=true:=OI mi (by
    rcases rA with h | h
    · exact .inl h
    · exact .inr (by rw [← la HK]; exact h))
  have HI:∀ v ∈ r,scalar v=true:=h3.scalar (xn mi)
  have pq:(mkE (a6 P T).agg r).cells.toList=r:=TK HI (rA.imp id fun h=>by rw [hlr]; exact h)
  refine ⟨mkE (a6 P T).agg r,TL h3 (rA.imp id fun h=>by rw [hlr]; exact h),aix,?_,?_,fun m=>?_,fun bo=>?_⟩
  · rw [← Array.length_toList,pq,hlr]; exact Cr
  · exact (la (eB aix).1).trans Cr.symm
  · rw [pq]; exact s3 m
  · have:=s2 bo
    rw [hcu.length] at this
    omega
theorem aeB {sz i k:Nat} {cs:List Value} {aU:List Value} {u u2:Value} {wl:List Value} (hl:jQ sz 0 cs aU) (hi:aU[i]? = some u) (hsu:u.cells.size=sz) (j8:wl≠[]→k+wl.length≤sz) (hg:∀ m,u2.cells.toList[m]? = if k≤m∧m < k+wl.length then wl[m - k]? else u.cells.toList[m]?) (fW:u2.cells.size=sz) :
    ∃ gP,dr (i * sz+k) cs wl=some gP∧jQ sz 0 gP (aU.set i u2)∧gP.length=cs.length:=by
  have hex:∃ gP,dr (i * sz+k) cs wl=some gP:=by
    cases hwl:wl with
    | nil=>exact ⟨cs,EX _ _⟩
    | cons a l=>
      have hf:=j8 (by rw [hwl]; simp)
      rw [hwl] at hf
      obtain ⟨_,hc⟩:=hl i u hi
      have aY:k+l.length < u.cells.size:=by rw [hsu]; simp at hf; omega
      have:=hc (k+l.length) u.cells[k+l.length] (by simp [aY])
      have hb:=(List.getElem?_eq_some_iff.1 this).1
      exact ti _ _ _ (by simp; omega)
  obtain ⟨gP,h1⟩:=hex
  obtain ⟨s1,s2,s3⟩:=eJ h1
  refine ⟨gP,h1,fun j x hx=>?_,s1⟩
  rw [List.getElem?_set] at hx
  split at hx
  · rename_i e
    subst e
    split at hx
    · simp at hx; subst hx
      refine ⟨fW,fun m y hy=>?_⟩
      have hy' : u2.cells.toList[m]? = some y:=by simpa using hy
      have hm:m < sz:=by rw [← fW]; exact (Array.getElem?_eq_some_iff.1 hy).1
      rw [hg m] at hy'
      rw [Nat.zero_add,s3]
      split at hy'
      · rw [if_pos (by omega),show i * sz+m - (i * sz+k)=m - k by omega]; exact hy'
      · rw [if_neg (by omega)]
        have:=(hl i u hi).2 m y (by simpa using hy')
        rwa [Nat.zero_add] at this
    · simp at hx
  · rename_i bo
    obtain ⟨h2,h3⟩:=hl j x hx
    refine ⟨h2,fun m y hy=>?_⟩
    have hm:m < sz:=by rw [← h2]; exact (Array.getElem?_eq_some_iff.1 hy).1
    rw [s3,if_neg]
    · exact h3 m y hy
    · rintro ⟨ha,hb⟩
      cases hwl:wl with
      | nil=>rw [hwl] at hb; simp at hb; omega
      | cons a l=>
        have hf:=j8 (by rw [hwl]; simp)
        rcases Nat.lt_or_gt_of_ne bo with h | h
        · have:(i+1) * sz≤j * sz:=Nat.mul_le_mul_right _ h
          rw [Nat.succ_mul] at this
          omega
        · have:(j+1) * sz≤i * sz:=Nat.mul_le_mul_right _ h
          rw [Nat.succ_mul] at this
          omega
theorem acr {T:TypeId} {N i:Nat} {es:List KV} {acc:Nat→KV} {e:KV} (ht:eL P T N es acc) (hi:i < N) (he:bX (a6 P T) e=true):eL P T N (setAt es i e) (qS acc i e) where
  len:=by rw [vx]; exact ht.len
  acc j hj:=by
    rw [JQ]
    unfold qS
    cases hb:Nat.beq j i with
    | true=>have:=Nat.eq_of_beq_eq_true hb; rw [if_pos ⟨this,by rw [← ht.len]; exact hi⟩]; rfl
    | false=>rw [if_neg (fun h=>by rw [h.1,Nat.beq_refl] at hb; simp at hb)]; exact ht.acc j hj
  typed:=lg fun j x hx=>by
    have hx' : x=(setAt es i e).getD j .av:=by rw [List.getD_eq_getElem?_getD,hx]; rfl
    rw [JQ] at hx'
    split at hx'
    · rw [hx']; exact he
    · rename_i bo
      have aY:j < es.length:=by rw [← vx es i e]; exact (List.getElem?_eq_some_iff.1 hx).1
      exact fP ht.typed (i:=j) (by rw [hx',List.getD_eq_getElem?_getD,List.getElem?_eq_getElem aY]; rfl)
theorem xo {B:St} {x y lo hi:Nat} {a9:Option (Nat×Nat)} : (B.cl x a9 lo hi).get y=B.get y∨∃ g k,a9=some (g,k)∧y ∈ B.members g∧y≠x∧(B.cl x a9 lo hi).get y=some .dead∧∃ cs e own f j,B.get y=some (.row cs e own (some (f,j))):=by
  cases a9 with
  | none=>exact .inl rfl
  | some p=>
    obtain ⟨g,k⟩:=p
    simp only [St.cl,uH]
    by_cases hc:y ∈ B.members g∧y≠x∧lG (B.get y) (k+lo) (k+hi)=true
    · refine .inr ⟨g,k,rfl,hc.1,hc.2.1,by rw [if_pos hc],?_⟩
      have hs:=hc.2.2
      unfold lG at hs
      split at hs
      · rename_i cs e own f j hy; exact ⟨cs,e,own,f,j,hy⟩
      · simp at hs
    · exact .inl (by rw [if_neg hc])
theorem Bp {B:St} {x lo hi:Nat} {a9:Option (Nat×Nat)} : (B.cl x a9 lo hi).members=B.members:=by
  cases a9 with
  | none=>rfl
  | some p=>simp [St.cl]
theorem Iz {B:St} {x lo hi:Nat} {a9:Option (Nat×Nat)} : (B.cl x a9 lo hi).next=B.next:=by
  cases a9 with
  | none=>rfl
  | some p=>simp [St.cl]
theorem ck.adA {A:ak} {B:St} {b x N lo hi:Nat} {T:TypeId} {es:List KV} {acc:Nat→KV} {aU cs ie:List Value} {a9:Option (Nat×Nat)} (h:eh P E A B) (hb:∃ v,A.get b=some (.arr v)) (hx:E.α b=some (x,ie.length,N))
    (fa:B.get x=some (.row ie (aL P T) true a9)) (hlen:cs.length=ie.length) (cA:1≤aL P T) (ht:eL P T N es acc) (OJ:aO P E es aU) (hl:jQ (aL P T) 0 cs aU) :
    ck P E A B E (A.put b (.arr (.ts T .any N es acc))) ((B.put x (.row cs (aL P T) true a9)).cl x a9 lo hi):=by
  obtain ⟨v0,hb⟩:=hb
  have m5:AR A E x:=⟨b,v0,_,_,hb,hx⟩
  have dy:((B.put x (.row cs (aL P T) true a9)).cl x a9 lo hi).get x=some (.row cs (aL P T) true a9):=by
    rcases xo (B:=B.put x (.row cs (aL P T) true a9)) (x:=x) (y:=x) (lo:=lo) (hi:=hi) (a9:=a9) with e | ⟨g,k,_,_,h3,_⟩
    · rw [e]; simp
    · exact absurd rfl h3
  have hgy:∀ y,y≠x→((B.put x (.row cs (aL P T) true a9)).cl x a9 lo hi).get y=B.get y∨(((B.put x (.row cs (aL P T) true a9)).cl x a9 lo hi).get y=some .dead∧∃ g k,a9=some (g,k)∧y ∈ B.members g):=by
    intro y hy
    rcases xo (B:=B.put x (.row cs (aL P T) true a9)) (x:=x) (y:=y) (lo:=lo) (hi:=hi) (a9:=a9) with e | ⟨g,k,h1,h2,_,h4,_⟩
    · exact .inl (by rw [e,St.bt,if_neg hy])
    · exact .inr ⟨h4,g,k,h1,by simpa using h2⟩
  have ig:((B.put x (.row cs (aL P T) true a9)).cl x a9 lo hi).members=B.members:=by rw [Bp]; simp
  have eN:((B.put x (.row cs (aL P T) true a9)).cl x a9 lo hi).next=B.next:=by rw [Iz]; simp
  generalize (B.put x (.row cs (aL P T) true a9)).cl x a9 lo hi=B' at dy hgy ig eN
  have FE:∀ y,y≠x→(E.z y≠none∨AR A E y∨∃ c,E.κ c=some y)→B'.get y=B.get y:=by
    intro y hy hs
    rcases hgy y hy with e | ⟨_,g,k,rfl,h2⟩
    · exact e
    · obtain ⟨_,_,h3⟩:=h.ar.nC b v0 x _ _ _ _ _ g k hb hx fa
      obtain ⟨h4,h5,h6⟩:=h3 y h2 hy
      rcases hs with hs | hs | ⟨c,hs⟩
      · exact absurd h4 hs
      · exact absurd hs h5
      · exact absurd hs (h6 c)
  have hA:∀ (c:Nat) (v:KV),(A.put b (.arr (.ts T .any N es acc))).get c=some (.arr v)→∃ u,A.get c=some (.arr u):=fun c v hc=>by
    rw [ak.bt] at hc
    split at hc
    · rename_i e; exact ⟨v0,by rw [e]; exact hb⟩
    · exact ⟨v,hc⟩
  have FF:∀ y,AR (A.put b (.arr (.ts T .any N es acc))) E y→AR A E y:=fun y q=>by
    obtain ⟨c,v,L,M,h1,h2⟩:=q
    obtain ⟨u,h1⟩:=hA c v h1
    exact ⟨c,u,L,M,h1,h2⟩
  have TM:∀ y,AR A E y→∀ jY e own LP,B'.get y=some (.row jY e own LP)→∃ gP,B.get y=some (.row gP e own LP)∧gP.length=jY.length:=fun y q jY e own LP hy=>by
    by_cases wc:y=x
    · subst wc
      rw [dy] at hy
      simp at hy
      obtain ⟨rfl,rfl,rfl,rfl⟩:=hy
      exact ⟨ie,fa,hlen.symm⟩
    · rw [FE y wc (.inr (.inl q))] at hy
      exact ⟨jY,hy,rfl⟩
  have aaA:∀ g,AF (A.put b (.arr (.ts T .any N es acc))) E B' g→AF A E B g:=fun g q=>by
    obtain ⟨c,v,y,L,M,jY,e,own,k,h1,h2,h3⟩:=q
    obtain ⟨u,h1⟩:=hA c v h1
    obtain ⟨gP,h3,_⟩:=TM y ⟨c,u,L,M,h1,h2⟩ _ _ _ _ h3
    exact ⟨c,u,y,L,M,gP,e,own,k,h1,h2,h3⟩
  refine ⟨⟨?_,?_,?_,h.apart,h.inj,h.fO.put (.inl fun _ _=>by simp),h.eS,h.jq,?_,fun b x e=>by rw [eN]; exact h.dT b x e,fun b r e=>by rw [eN]; exact h.jr b r e,fun b g e=>by rw [eN]; exact h.fV b g e,fun g hg=>by rw [eN] at hg; rw [ig]; exact h.fresh g hg,fun g y hy=>by rw [ig] at hy; rw [eN]; exact h.mem g y hy,?_⟩,Env.le_refl _,Nat.le_refl _,?_,fun _ _ e=>.inl e,fun _ _ e=>.inl e,fun _ _ e=>.inl e,fun _ _ _ _=>by rw [ig],fun y q=>.inl (FF y q),fun g q=>.inl (aaA g q),fun g y q=>.inl (by rw [ig] at q; exact q),fun y q=>.inl ?_,?_⟩
  · intro c jY a8 hc
    rw [ak.bt] at hc
    split at hc
    · simp at hc
    · obtain ⟨y,c1,h1,h2,h3⟩:=h.row c jY a8 hc
      have hy:y≠x:=fun e=>(h.ar.z x m5).2 c (by rw [← e]; exact h1)
      exact ⟨y,c1,h1,by rw [FE y hy (.inr (.inr ⟨c,h1⟩))]; exact h2,h3⟩
  · intro c top x3 hc
    rw [ak.bt] at hc
    split at hc
    · simp at hc
    · rcases h.aJ c top x3 hc with h1 | ⟨g,h1,h2,h3⟩
      · exact .inl h1
      · refine .inr ⟨g,h1,h2,fun y hy jY e own f k hr=>?_⟩
        rw [ig] at hy
        by_cases wc:y=x
        · subst wc
          rw [dy] at hr
          simp at hr
          obtain ⟨rfl,_,_,rfl⟩:=hr
          obtain ⟨h4,h5⟩:=h3 y hy ie _ _ f k fa
          exact ⟨h4,by rw [hlen]; exact h5⟩
        · rcases hgy y wc with e1 | ⟨e1,_⟩
          · rw [e1] at hr; exact h3 y hy jY e own f k hr
          · rw [e1] at hr; simp at hr
  · intro y r hy
    have wc:y≠x:=fun e=>by have:=(h.ar.z x m5).1; rw [← e,hy] at this; simp at this
    rw [FE y wc (.inl (by rw [hy]; simp))]
    exact h.z y r hy
  · intro c o hc
    rw [ak.bt] at hc
    split at hc
    · rename_i e; rw [e]; exact h.live b _ hb
    · exact h.live c o hc
  · refine ⟨?_,?_,fun y q=>h.ar.z y (FF y q),?_,?_,h.ar.V2,h.ar.eS,fun b x L N e=>by rw [eN]; exact h.ar.dT b x L N e,?_⟩
    · intro c v hc
      rw [ak.bt] at hc
      split at hc
      · rename_i e
        simp at hc
        subst hc e
        exact ⟨T,N,es,acc,rfl,ht,cA,.inr ⟨x,cs,a9,aU,by rw [hlen]; exact hx,dy,OJ,hl⟩⟩
      · rename_i bo
        refine (h.ar.arr c v hc).mono (Env.le_refl _) rfl fun y L M e=>?_
        have wc:y≠x:=fun e2=>bo (h.ar.inj c b v v0 x _ _ _ _ hc hb (by rw [← e2]; exact e) hx)
        exact FE y wc (.inr (.inl ⟨c,v,L,M,hc,e⟩))
    · intro c v hc
      rw [ak.bt] at hc
      split at hc
      · simp at hc
      · exact h.ar.fB c v hc
    · intro c d v u y L M L' M' h1 h2 h3 h4
      obtain ⟨v',h1⟩:=hA c v h1
      obtain ⟨u',h2⟩:=hA d u h2
      exact h.ar.inj c d v' u' y L M L' M' h1 h2 h3 h4
    · intro c d v u y w L M L' M' jY e own g k gP e' k8 k' h1 h2 h3 h4 h5 h6
      obtain ⟨v',h1⟩:=hA c v h1
      obtain ⟨u',h2⟩:=hA d u h2
      obtain ⟨_,h5,_⟩:=TM y ⟨c,v',L,M,h1,h3⟩ _ _ _ _ h5
      obtain ⟨_,h6,_⟩:=TM w ⟨d,u',L',M',h2,h4⟩ _ _ _ _ h6
      exact h.ar.oH c d v' u' y w L M L' M' _ e own g k _ e' k8 k' h1 h2 h3 h4 h5 h6
    · intro c v y L M jY e own g k h1 h2 h3
      obtain ⟨v',h1⟩:=hA c v h1
      obtain ⟨_,h3,_⟩:=TM y ⟨c,v',L,M,h1,h2⟩ _ _ _ _ h3
      obtain ⟨h4,h5,h6⟩:=h.ar.nC c v' y L M _ e own g k h1 h2 h3
      refine ⟨by rw [eN]; exact h4,h5,fun z hz bo=>?_⟩
      rw [ig] at hz
      obtain ⟨h7,h8,h9⟩:=h6 z hz bo
      exact ⟨h7,fun q=>h8 (FF z q),h9⟩
  · intro y hy hn ha
    by_cases wc:y=x
    · subst wc; exact absurd (.inl m5) ha
    · rcases hgy y wc with e | ⟨_,g,k,rfl,h2⟩
      · exact e
      · exact absurd (.inr ⟨g,⟨b,v0,x,_,_,ie,_,_,k,hb,hx,fa⟩,h2⟩) ha
  · rcases q with q | ⟨g,h1,h2⟩
    · exact .inl (FF y q)
    · exact .inr ⟨g,aaA g h1,by rw [ig] at h2; exact h2⟩
  · intro y hy jY e own LP hr
    by_cases wc:y=x
    · exact TM y (by rw [wc]; exact m5) jY e own LP hr
    · rcases hgy y wc with e1 | ⟨e1,_⟩
      · exact ⟨jY,by rw [← e1]; exact hr,rfl⟩
      · rw [e1] at hr; simp at hr
theorem aeC {t:TypeId} : adx P (LB P t) (xg P t):=by
  intro E A A' B vs us v h hv hg
  unfold LB at hg
  split at hg
  · rename_i b off x
    obtain ⟨y,z,rfl,h1,h2⟩:=hv.gW
    obtain ⟨c,hx,rfl⟩:=h1.eF
    obtain ⟨hc,hg⟩:=hg.cond
    simp only [Bool.and_eq_true,decide_eq_true_eq] at hc
    obtain ⟨cA,ho⟩:=hc
    split at hg
    · rename_i cs a8 fa
      split at hg
      · rename_i bk hw
        have hg:(mV,A.put b (.row bk a8))=(v,A'):=hg
        simp only [Prod.mk.injEq] at hg
        obtain ⟨rfl,rfl⟩:=hg
        obtain ⟨c',d,e1,e2,e3⟩:=h.row b cs a8 fa
        rw [hx] at e1
        simp at e1
        subst e1
        have Cm:=h2.cells (qB ho)
        obtain ⟨r,e4,e5⟩:=aO.gG hw e3 Cm
        have eZ:z.cells.toList.all scalar=true:=List.all_eq_true.2 (Cm.scalar ho)
        have afX:some z.cells.size=size? P t:=by rw [← cA,Fw h2 (qB ho)]
        refine ⟨undef,B.put c (.row r a8 true none),E,?_,.undef,ck.ahI h ⟨_,_,fa⟩ hx ⟨d,e2,(eJ e4).1.symm⟩ e5⟩
        simp [xg,storeAt,afX,St.pg,bA,eZ,e2,e4,St.cl]
      · exact hg.elim
    · exact hg.elim
  · rename_i T Tc b i k x
    obtain ⟨y,z,rfl,h1,h2⟩:=hv.gW
    split at hg
    · rename_i T' mk N es acc hA
      obtain ⟨hc,Bb⟩:=hg.cond
      clear hg
      simp only [Bool.and_eq_true,decide_eq_true_eq] at hc
      obtain ⟨⟨⟨hT,hTc⟩,wb⟩,cA⟩:=hc
      have:=Nat.eq_of_beq_eq_true hT
      subst this
      have:=Nat.eq_of_beq_eq_true hTc
      subst this
      split at Bb
      · rename_i e2 he2
        have hg:(mV,A.put b (.arr (adl T N i es acc e2)))=(v,A'):=Bb
        simp only [Prod.mk.injEq] at hg
        obtain ⟨rfl,rfl⟩:=hg
        obtain ⟨c,L,N',h3,hw,hi,rfl⟩:=h1.yX
        obtain ⟨T2,N2,kx,db,Ob,ht,h1s,qg⟩:=h.ar.arr b _ hA
        simp only [KV.ts.injEq] at Ob
        obtain ⟨rfl,rfl,rfl,rfl,rfl⟩:=Ob
        rcases qg with ⟨_,h4⟩ | ⟨c',cs,a9,aU,h4,h5,h6,h7⟩
        · rw [h3] at h4; simp at h4
        rw [h3] at h4
        simp only [Option.some.injEq,Prod.mk.injEq] at h4
        obtain ⟨rfl,rfl,rfl⟩:=h4
        have aY:i < es.length:=by rw [← ht.len]; exact hi
        have hei:es[i]? = some (acc i):=by rw [ht.acc i hi]; simp [List.getD,aY]
        obtain ⟨u,h8,h9⟩:=h6.get hei
        obtain ⟨hsu,iY⟩:=h7 i u h8
        rw [Nat.zero_add] at iY
        have hvn:=h2.eD (l:=a6 P Tc)
        obtain ⟨u2,p1,p2,p3,p4,p5,p6⟩:=aeA (T:=T) (t:=Tc) hw (fP ht.typed hei) h9 wb hvn he2
        obtain ⟨gP,w1,w2,w3⟩:=aeB h7 h8 hsu p6 p5 p3
        have hX:=ck.adA (lo:=i * aL P T+k) (hi:=i * aL P T+k+z.cells.toList.length) h ⟨_,hA⟩ h3 h5 (eJ w1).1 h1s (acr ht hi p2) (aU:=aU.set i u2) (JP p1 i h6) w2
        obtain ⟨HK,SH⟩:=eB wb
        have eZ:z.cells.toList.all scalar=true:=List.all_eq_true.2 ((hvn.cells SH).scalar (xn HK))
        have XU:some z.cells.size=size? P Tc:=by
          rw [cA,← la HK]
          exact congrArg some (Fw hvn SH)
        refine ⟨undef,_,E,?_,.undef,hX⟩
        simp [xg,storeAt,XU,St.pg,bA,eZ,h5,w1]
      · exact Bb.elim
    · exact hg.elim
  · exact hg.elim
end Go.K
end
