/- Part of the proof of BinsAll: a machine that runs the program's code over open terms, shown to be the model's, and the plain models of its functions. No conditions. -/
import Derived.Test.YtahhdndhkgbcjaaDp
section
namespace Go.K
open Go Go.av
variable {P:Program} {E:Env}
def aG {α:Type} (r:KR α) (v:α):Prop:=
  match r with
  | .no=>False
  | .ok u=>u=v
  | .kU c u=>c=true∧u=v
  | .br c x y=>(c=true∧aG x v)∨(c=false∧aG y v)
theorem KR.uH {α R:Type} {k:α→Option R} {x:R} : ∀ {r:KR α},r.run k=some x→∃ v,aG r v∧k v=some x:=by
  intro r h
  match r,h with
  | .no,h=>exact absurd h (by simp [KR.run])
  | .ok v,h=>exact ⟨v,rfl,h⟩
  | .kU c v,h=>
    cases c with
    | false=>exact absurd h (by simp [KR.run])
    | true=>exact ⟨v,⟨rfl,rfl⟩,h⟩
  | .br c x y,h=>
    cases c with
    | false=>obtain ⟨v,h1,h2⟩:=KR.uH (r:=y) (k:=k) h; exact ⟨v,.inr ⟨rfl,h1⟩,h2⟩
    | true=>obtain ⟨v,h1,h2⟩:=KR.uH (r:=x) (k:=k) h; exact ⟨v,.inl ⟨rfl,h1⟩,h2⟩
theorem aG.at {α:Type} {i:Int} {f:Nat→KR α} {v:α} : ∀ {m j:Nat},aG (aaN i f m j) v→∃ k,j≤k∧k < j+m∧i=(k:Int)∧aG (f k) v
  | 0,j,h=>h.elim
  | m+1,j,h=>by
    rcases h with ⟨h1,h2⟩ | ⟨_,h2⟩
    · exact ⟨j,Nat.le_refl j,by omega,of_decide_eq_true h1,h2⟩
    · obtain ⟨k,h3,h4,h5,h6⟩:=aG.at (m:=m) (j:=j+1) h2
      exact ⟨k,by omega,by omega,h5,h6⟩
theorem aG.of {α:Type} {o:Option α} {v:α} (h:aG (KR.of o) v):o=some v:=by
  cases o with
  | none=>exact h.elim
  | some u=>have h:u=v:=h; rw [h]
theorem aG.cond {α:Type} {c:Bool} {r:KR α} {v:α} (h:aG (cond c r .no) v):c=true∧aG r v:=by
  cases c with
  | false=>exact h.elim
  | true=>exact ⟨rfl,h⟩
theorem DJ {α:Type} {c:Bool} {r:Option α} {v:α} (h:cond c r none=some v):c=true∧r=some v:=by
  cases c with
  | false=>simp at h
  | true=>exact ⟨rfl,h⟩
def rL (P:Program) (f:FP) (g:List Value→Option Value):Prop:=
  ∀ (E:Env) (vs:List KV) (us:List Value) (v:KV),aP P E vs us→aG (f vs) v→∃ u,g us=some u∧VK P E v u
theorem Xz:rL P Vi C4:=by
  intro E vs us v h hg
  match vs,hg with
  | [x],hg=>
    obtain ⟨y,rfl,h1⟩:=h.dH
    have hg:x=v:=hg
    subst hg
    exact ⟨y,rfl,h1⟩
theorem abV:rL P Vj C4:=by
  intro E vs us v h hg
  match vs,hg with
  | [.bool b],hg=>
    obtain ⟨y,rfl,h1⟩:=h.dH
    have hb:v = .bool b:=by
      rcases hg with ⟨rfl,h2⟩ | ⟨rfl,h2⟩
      · exact (show KV.bool true=v from h2).symm
      · exact (show KV.bool false=v from h2).symm
    subst hb
    exact ⟨_,rfl,h1⟩
  | [x],hg=>
    have key:v=x:=by
      cases x <;> first | exact (show _=v from hg).symm | skip
      rcases hg with ⟨rfl,h2⟩ | ⟨rfl,h2⟩
      · exact (show KV.bool true=v from h2).symm
      · exact (show KV.bool false=v from h2).symm
    subst key
    obtain ⟨y,rfl,h1⟩:=h.dH
    exact ⟨_,rfl,h1⟩
theorem abW {b:Bool} : rL P (cond b Vj Vi) C4:=by
  cases b with
  | true=>exact abV
  | false=>exact Xz
theorem adx:rL P ZA PI:=by
  intro E vs us v h hg
  match vs,hg with
  | [.bool t,.bool a,.bool b],hg=>
    obtain ⟨x,y,z,rfl,h1,h2,h3⟩:=h.JD
    have:=h1.dC; subst this
    have:=h2.dC; subst this
    have:=h3.dC; subst this
    have hg:KV.bool (cond t a b)=v:=hg
    subst hg
    exact ⟨_,rfl,by cases t <;> exact .ph⟩
  | [.bool t,a,b],hg=>
    obtain ⟨x,y,z,rfl,h1,h2,h3⟩:=h.JD
    have:=h1.dC; subst this
    refine ⟨_,rfl,?_⟩
    have hg:v=cond t a b∨∃ p q,a = .bool p∧b = .bool q∧v = .bool (cond t p q):=by
      unfold ZA at hg
      split at hg
      · rename_i t' a' b' e
        simp at e
        obtain ⟨rfl,rfl,rfl⟩:=e
        exact .inr ⟨_,_,rfl,rfl,hg.symm⟩
      · rename_i t' a' b' _ e
        simp at e
        obtain ⟨rfl,rfl,rfl⟩:=e
        exact .inl hg.symm
      · exact hg.elim
    rcases hg with rfl | ⟨p,q,rfl,rfl,rfl⟩
    · cases t
      · exact h3
      · exact h2
    · have:=h2.dC; subst this
      have:=h3.dC; subst this
      cases t <;> exact .ph
theorem MX {v:KV} {u:Value} (h:VK P E v u) (hk:r8 v=true):av.known u=true:=by
  cases v with
  | agg cs=>obtain ⟨l,rfl,q⟩:=h.kT; rfl
  | int k n=>have:=h.cS; subst this; rfl
  | bool b=>have:=h.dC; subst this; rfl
  | str b=>have:=h.pz; subst this; rfl
  | pQ cs=>obtain ⟨l,rfl,_⟩:=h.FT; rfl
  | ts T m n es acc=>obtain ⟨_,_,_,a,cap,rfl,_⟩:=h.kY; rfl
  | tp T Tc i k es acc=>obtain ⟨_,_,_,_,_,b,off,r,rfl,_⟩:=h.DH; rfl
  | al T b o n=>obtain ⟨a,c,rfl⟩:=h.sf.slice; rfl
  | ap T Tc b i k=>obtain ⟨x,L,N,_,_,_,rfl⟩:=h.AJ; rfl
  | ptr b off=>obtain ⟨x,_,rfl⟩:=h.gG; rfl
  | sl b off n c=>obtain ⟨x,_,rfl⟩:=h.Ho; rfl
  | yz=>simp only [VK] at h; subst h; rfl
  | jL=>simp only [VK] at h; subst h; rfl
  | vm=>simp only [VK] at h; subst h; rfl
  | map b=>simp only [VK] at h; obtain ⟨x,_,rfl⟩:=h; rfl
  | fn f a b=>obtain ⟨l,m,rfl,_⟩:=h.AI; rfl
  | zC=>simp only [VK] at h; subst h; rfl
  | iface t x=>simp only [VK] at h; obtain ⟨y,rfl,_⟩:=h; rfl
  | zD=>simp only [VK] at h; subst h; rfl
  | aq=>simp [r8] at hk
theorem FU {v:KV} {u:Value} (h:VK P E v u) (hk:r8 v=true):u.cells.size=v.cells.length:=by
  have:=(h.cells hk).length
  simpa using this
theorem QW {place:Nat→Option (Nat×Nat)} : ∀ {ps:List (Nat×KV)} {qs:List (Nat×Value)} {cs r:List KV} {bI:List Value},ps.map (·.1)=qs.map (·.1)→aP P E (ps.map (·.2)) (qs.map (·.2))→(∀ p ∈ ps,r8 p.2=true)→
    aP P E cs bI→MM place cs ps=some r→∃ r',u3 place bI qs=some r'∧aP P E r r'
  | [],[],cs,r,bI,_,_,_,h,e=>by simp [MM] at e; subst e; exact ⟨bI,rfl,h⟩
  | [],_ :: _,_,_,_,e,_,_,_,_=>by simp at e
  | _ :: _,[],_,_,_,e,_,_,_,_=>by simp at e
  | (i,v) :: ps,(j,u) :: qs,cs,r,bI,e1,e2,hk,h,e=>by
    simp only [List.map_cons,List.cons.injEq] at e1
    obtain ⟨rfl,e1⟩:=e1
    obtain ⟨y,ys,e3,h1,h2⟩:=e2.cons_inv
    simp only [List.map_cons,List.cons.injEq] at e3
    obtain ⟨rfl,rfl⟩:=e3
    have hkv:r8 v=true:=hk (i,v) (by simp)
    simp only [MM] at e
    simp only [u3]
    split at e
    · rename_i off size hp
      rw [hp]
      obtain ⟨hc,e⟩:=DJ e
      obtain ⟨m7,e4,e5⟩:=Option.bind_eq_some_iff.1 e
      obtain ⟨r1,e6,h3⟩:=aP.jV e4 h (h1.cells hkv)
      obtain ⟨r',e7,h4⟩:=QW e1 h2 (fun p hp=>hk p (by simp [hp])) h3 e5
      refine ⟨r',?_,h4⟩
      simp only
      rw [FU h1 hkv,hc,cond_true,e6]
      exact e7
    · simp at e
theorem QX:∀ (is:List Nat) {vs:List KV} {us:List Value},aP P E vs us→(vo is vs).map (·.1)=(zipIdx is us).map (·.1)∧aP P E ((vo is vs).map (·.2)) ((zipIdx is us).map (·.2))
  | [],_,_,_=>by simp [vo,zipIdx,aP.nil]
  | i :: is,[],us,h=>by rw [h.bJ]; simp [vo,zipIdx,aP.nil]
  | i :: is,v :: vs,us,h=>by
    obtain ⟨y,ys,rfl,h1,h2⟩:=h.cons_inv
    obtain ⟨h3,h4⟩:=QX is h2
    exact ⟨by simp [vo,zipIdx,h3],by simpa [vo,zipIdx] using aP.cons h1 h4⟩
theorem QY:∀ (is:List Nat) (vs:List KV),∀ p ∈ vo is vs,p.2 ∈ vs
  | [],_,p,h=>by simp [vo] at h
  | i :: is,[],p,h=>by simp [vo] at h
  | i :: is,v :: vs,p,h=>by
    simp only [vo,List.mem_cons] at h
    rcases h with rfl | h
    · simp
    · simp [QY is vs p h]
theorem DK:∀ {vs:List KV} {us:List Value},aP P E vs us→vs.all r8=true→us.all av.known=true
  | [],us,h,_=>by rw [h.bJ]; rfl
  | v :: vs,us,h,k=>by
    obtain ⟨y,ys,rfl,h1,h2⟩:=h.cons_inv
    simp only [List.all_cons,Bool.and_eq_true] at k ⊢
    exact ⟨MX h1 k.1,DK h2 k.2⟩
theorem TW {place:Nat→Option (Nat×Nat)} {z:Value} {is:List Nat} (hz:flat z=true) (h1:fS (gH z).cells=true):rL P (Hh place (gH z).cells is) (wu place z is):=by
  intro E vs us v h hg
  unfold Hh at hg
  split at hg
  · rename_i cs hf
    obtain ⟨hk,hg⟩:=hg.cond
    have hg:KV.agg cs=v:=hg
    subst hg
    obtain ⟨h2,h3⟩:=QX is h
    obtain ⟨r',e,hr⟩:=QW h2 h3 (fun p hp=>by have:=QY is vs p hp; exact List.all_eq_true.1 hk _ this) (wN (P:=P) (E:=E) h1) hf
    refine ⟨.agg ⟨r'⟩,?_,.ny hr⟩
    unfold wu
    rw [hz,DK h hk]
    simp [e,ny]
  · exact hg.elim
theorem afb:rL P QK C6:=by
  intro E vs us v h hg
  match vs,hg with
  | [.ptr b off],hg=>
    obtain ⟨y,rfl,h1⟩:=h.dH
    have hg:KV.ptr b off=v:=hg
    subst hg
    have q:=h1
    obtain ⟨x,e,rfl⟩:=h1.gG
    exact ⟨_,rfl,q⟩
  | [.tp T Tc i k es acc],hg=>
    obtain ⟨y,rfl,h1⟩:=h.dH
    have hg:KV.tp T Tc i k es acc=v:=hg
    subst hg
    have q:=h1
    obtain ⟨_,_,_,_,_,b,off,r,rfl,_⟩:=h1.DH
    exact ⟨_,rfl,q⟩
  | [.ap T Tc b i k],hg=>
    obtain ⟨y,rfl,h1⟩:=h.dH
    have hg:KV.ap T Tc b i k=v:=hg
    subst hg
    have q:=h1
    obtain ⟨x,L,N,_,_,_,rfl⟩:=h1.AJ
    exact ⟨_,rfl,q⟩
  | [.fn (.func f) a b],hg=>
    obtain ⟨y,rfl,h1⟩:=h.dH
    have hg:KV.fn (.func f) a b=v:=hg
    subst hg
    have q:=h1
    obtain ⟨l,m,rfl,_⟩:=h1.AI
    exact ⟨_,rfl,q⟩
theorem FV {s ft:TypeId} {off:Nat} (h:Po P s off ft=true):∀ m c,(bj P ft).ks[m]? = some c→(bj P s).ks[off+m]? = some c:=by
  unfold Po at h
  have key:∀ (a b:List CK),wL a b=true→a=b:=by
    intro a
    induction a with
    | nil=>intro b hb; cases b <;> simp_all [wL]
    | cons x xs ih=>
      intro b hb
      cases b with
      | nil=>simp [wL] at hb
      | cons y ys=>
        simp only [wL,Bool.and_eq_true] at hb
        rw [ih ys hb.2]
        congr 1
        cases x <;> cases y <;> simp_all [adu]
  split at h
  · rename_i l e
    obtain ⟨rfl,hl⟩:=Hn e
    have:=key _ _ h
    intro m c hm
    rw [← this,List.getElem?_take] at hm
    split at hm
    · rwa [Cs,List.getElem?_drop] at hm
    · simp at hm
  · simp at h
theorem S5 {s ft:TypeId} {off:Nat} {sQ:Bool} (QZ:sQ=Po P s off ft):rL P (NS s off ft sQ) (Al off):=by
  intro E vs us v h hg
  match vs,hg with
  | [.ptr b o],hg=>
    obtain ⟨y,rfl,h1⟩:=h.dH
    have hg:KV.ptr b (o+off)=v:=hg
    subst hg
    obtain ⟨x,e,rfl⟩:=h1.gG
    exact ⟨_,rfl,.tU e⟩
  | [.tp T Tc i k es acc],hg=>
    obtain ⟨y,rfl,h1⟩:=h.dH
    obtain ⟨hc,hg⟩:=aG.cond hg
    have hg:KV.tp T ft i (k+off) es acc=v:=hg
    subst hg
    simp only [Bool.and_eq_true] at hc
    have:=Nat.eq_of_beq_eq_true hc.1
    subst this
    obtain ⟨ht,a7,h2,hi,hw,b,o,r,rfl,h4,h5⟩:=h1.DH
    refine ⟨_,rfl,?_⟩
    simp only [VK]
    refine ⟨ht,a7,h2,hi,⟨fun m c hm=>?_⟩,b,o,r,by simp only [Value.pointer.injEq,Option.some.injEq,Addr.mk.injEq,and_true,true_and]; omega,h4,h5⟩
    have hp:=FV (QZ ▸ hc.2) m c hm
    have:=hw.is _ _ hp
    rwa [show k+(off+m)=k+off+m by omega] at this
  | [.ap T Tc b i k],hg=>
    obtain ⟨y,rfl,h1⟩:=h.dH
    obtain ⟨hc,hg⟩:=aG.cond hg
    have hg:KV.ap T ft b i (k+off)=v:=hg
    subst hg
    simp only [Bool.and_eq_true] at hc
    have:=Nat.eq_of_beq_eq_true hc.1
    subst this
    obtain ⟨x,L,N,h2,hw,hi,rfl⟩:=h1.AJ
    refine ⟨_,rfl,.adw ⟨x,L,N,h2,⟨fun m c hm=>?_⟩,hi,by simp only [Value.pointer.injEq,Option.some.injEq,Addr.mk.injEq,and_true,true_and]; omega⟩⟩
    have hp:=FV (QZ ▸ hc.2) m c hm
    have:=hw.is _ _ hp
    rwa [show k+(off+m)=k+off+m by omega] at this
theorem XA {t:TypeId} {cs:List KV} {bI:List Value} {off:Nat} {v:KV} (h:aP P E cs bI) (e:MP P t cs off=some v):∃ u,partOf P t bI off=some u∧VK P E v u:=by
  unfold MP at e
  unfold partOf
  split at e
  · rename_i ha
    rw [ha]
    obtain ⟨n,hn,e⟩:=Option.bind_eq_some_iff.1 e
    obtain ⟨l,hl,rfl⟩:=Option.map_eq_some_iff.1 e
    obtain ⟨r,hr,hv,_⟩:=h.rH hl
    exact ⟨.agg ⟨r⟩,by simp [hn,hr],.ny hv⟩
  · rename_i ha
    rw [ha]
    rw [Cs] at e
    have hd:=h.drop off
    cases hc:cs.drop off with
    | nil=>rw [hc] at e; simp at e
    | cons x xs=>
      rw [hc] at e hd
      simp at e
      subst e
      obtain ⟨y,ys,e2,h1,_⟩:=hd.cons_inv
      exact ⟨y,by simp [pn,e2],h1⟩
  · simp at e
theorem abX {fd:Field} : rL P (aaM P fd) (Uy P fd):=by
  intro E vs us v h hg
  match vs,hg with
  | [.agg cs],hg=>
    obtain ⟨y,rfl,h1⟩:=h.dH
    obtain ⟨l,rfl,h2⟩:=h1.kT
    exact XA h2 hg.of
theorem uI {i:Int} {n:Nat} (h:QL i n=true):∃ m,i = .ofNat m∧m < n∧i.toNat=m:=by
  simp only [QL,Bool.and_eq_true,decide_eq_true_eq] at h
  obtain ⟨m,rfl⟩:=Int.eq_ofNat_of_zero_le h.1
  exact ⟨m,rfl,by omega,rfl⟩
theorem m8 {m n:Nat} (h:m < n):jd (.ofNat m) n=some m:=by
  have:Nat.blt m n=true:=by rw [Nat.blt_eq]; exact h
  simp [jd,this]
theorem aG.kU {α:Type} {c:Bool} {u v:α} (h:aG (.kU c u) v):c=true∧u=v:=h
theorem NW {t e:TypeId} {len n m:Nat} (hq:wL (bj P t).ks (dv (bj P e).ks len)=true) (hn:(bj P e).ks.length=n) (hm:m < len):∀ a c,(bj P e).ks[a]? = some c→(bj P t).ks[m * n+a]? = some c:=by
  intro a c ha
  have key:∀ (l:List CK) (lG m a:Nat) (c:CK),m < lG→l[a]? = some c→(dv l lG)[m * l.length+a]? = some c:=by
    intro l lG
    induction lG with
    | zero=>intro m a c hm; omega
    | succ lG ih=>
      intro m a c hm hl
      have aL:a < l.length:=(List.getElem?_eq_some_iff.1 hl).1
      cases m with
      | zero=>simp only [dv,Nat.zero_mul,Nat.zero_add]; rw [List.getElem?_append_left aL]; exact hl
      | succ m=>
        simp only [dv]
        rw [List.getElem?_append_right (by rw [Nat.succ_mul]; omega),show (m+1) * l.length+a - l.length=m * l.length+a by rw [Nat.succ_mul]; omega]
        exact ih m a c (by omega) hl
  have ahu:∀ (a b:List CK),wL a b=true→a=b:=by
    intro a
    induction a with
    | nil=>intro b hb; cases b <;> simp_all [wL]
    | cons x xs ih=>
      intro b hb
      cases b with
      | nil=>simp [wL] at hb
      | cons y ys=>
        simp only [wL,Bool.and_eq_true] at hb
        rw [ih ys hb.2]
        congr 1
        cases x <;> cases y <;> simp_all [adu]
  have h6:=key (bj P e).ks len m a c hm ha
  rw [← ahu _ _ hq,hn] at h6
  exact h6
theorem Vn {t e:TypeId} {len n:Nat} : rL P (QM P t len n e) (Jb len n):=by
  intro E vs us v h hg
  match vs,hg with
  | [.ptr b o,.int k i],hg=>
    have hg:aG (cond (Nat.ble len 8) (aaN i (fun j=>.ok (.ptr b (o+j * n))) len 0) (.kU (QL i len) (.ptr b (o+i.toNat * n)))) v:=hg
    obtain ⟨x,y,rfl,h1,h2⟩:=h.kp
    obtain ⟨x,e,rfl⟩:=h1.gG
    have:=h2.cS; subst this
    have key:∃ m:Nat,i=(m:Int)∧m < len∧v = .ptr b (o+m * n):=by
      cases hb:Nat.ble len 8 with
      | true=>rw [hb,cond_true] at hg; obtain ⟨m,_,h3,h4,h5⟩:=aG.at hg; exact ⟨m,h4,by omega,(show KV.ptr b (o+m * n)=v from h5).symm⟩
      | false=>rw [hb,cond_false] at hg; obtain ⟨hc,rfl⟩:=aG.kU hg; obtain ⟨m,rfl,hm,JE⟩:=uI hc; exact ⟨m,rfl,hm,by rw [JE]⟩
    obtain ⟨m,rfl,hm,rfl⟩:=key
    refine ⟨_,?_,.tU e⟩
    show (jd (.ofNat m) len).bind _=_
    rw [m8 hm]; rfl
  | [.tp T Tc j k es acc,.int q i],hg=>
    obtain ⟨x,y,rfl,h1,h2⟩:=h.kp
    obtain ⟨qu,hg⟩:=aG.cond hg
    obtain ⟨hc,rfl⟩:=aG.kU hg
    have:=h2.cS; subst this
    obtain ⟨m,rfl,hm,JE⟩:=uI hc
    rw [JE]
    simp only [Bool.and_eq_true] at qu
    have:=Nat.eq_of_beq_eq_true qu.1.1
    subst this
    have hn:(bj P e).ks.length=n:=Nat.eq_of_beq_eq_true qu.2
    obtain ⟨ht,a7,h3,hi,hw,b,o,r,rfl,h4,h5⟩:=h1.DH
    refine ⟨_,by (show (jd (.ofNat m) len).bind _=_); rw [m8 hm]; rfl,?_⟩
    simp only [VK]
    refine ⟨ht,a7,h3,hi,⟨fun a c ha=>?_⟩,b,o,r,by simp only [Value.pointer.injEq,Option.some.injEq,Addr.mk.injEq,and_true,true_and]; omega,h4,h5⟩
    have h6:=NW qu.1.2 hn hm a c ha
    have:=hw.is _ _ h6
    rwa [show k+(m * n+a)=k+m * n+a by omega] at this
  | [.ap T Tc b j k,.int q i],hg=>
    obtain ⟨x,y,rfl,h1,h2⟩:=h.kp
    obtain ⟨qu,hg⟩:=aG.cond hg
    obtain ⟨hc,rfl⟩:=aG.kU hg
    have:=h2.cS; subst this
    obtain ⟨m,rfl,hm,JE⟩:=uI hc
    rw [JE]
    simp only [Bool.and_eq_true] at qu
    have:=Nat.eq_of_beq_eq_true qu.1.1
    subst this
    have hn:(bj P e).ks.length=n:=Nat.eq_of_beq_eq_true qu.2
    obtain ⟨x,L,N,h3,hw,hi,rfl⟩:=h1.AJ
    refine ⟨_,by (show (jd (.ofNat m) len).bind _=_); rw [m8 hm]; rfl,.adw ⟨x,L,N,h3,⟨fun a c ha=>?_⟩,hi,by simp only [Value.pointer.injEq,Option.some.injEq,Addr.mk.injEq,and_true,true_and]; omega⟩⟩
    have h6:=NW qu.1.2 hn hm a c ha
    have:=hw.is _ _ h6
    rwa [show k+(m * n+a)=k+m * n+a by omega] at this
theorem XB {e n:Nat} {sQ:Bool} (QZ:sQ=Nat.beq (bj P e).ks.length n):rL P (TQ e n sQ) (GW n):=by
  intro E vs us v h hg
  match vs,hg with
  | [.sl b o len cap,.int k i],hg=>
    obtain ⟨x,y,rfl,h1,h2⟩:=h.kp
    obtain ⟨hc,rfl⟩:=aG.kU hg
    obtain ⟨x,e,rfl⟩:=h1.Ho
    have:=h2.cS; subst this
    obtain ⟨m,rfl,hm,JE⟩:=uI hc
    rw [JE]
    exact ⟨_,by (show (jd (.ofNat m) len).bind _=_); rw [m8 hm]; rfl,.tU e⟩
  | [.ts T mk len es acc,.int q i],hg=>
    obtain ⟨x,y,rfl,h1,h2⟩:=h.kp
    obtain ⟨qu,hg⟩:=aG.cond hg
    obtain ⟨hc,rfl⟩:=aG.kU hg
    have:=h2.cS; subst this
    obtain ⟨m,rfl,hm,JE⟩:=uI hc
    rw [JE]
    simp only [Bool.and_eq_true] at qu
    have:=Nat.eq_of_beq_eq_true qu.1
    subst this
    have hn:(bj P T).ks.length=n:=Nat.eq_of_beq_eq_true (QZ ▸ qu.2)
    obtain ⟨ht,a7,h3,a,cap,rfl,h4,h5,h6⟩:=h1.kY
    rcases h5 with ⟨_,h0⟩ | ⟨b,off,r,rfl,h7,h8,h9⟩
    · omega
    · refine ⟨_,by (show (jd (.ofNat m) len).bind _=_); rw [m8 hm]; rfl,?_⟩
      have hl:=ht.len
      simp only [VK]
      refine ⟨⟨rfl,fun i hi=>ht.acc i (by omega),ht.typed⟩,a7,h3,by omega,⟨fun a c ha=>by simpa using ha⟩,b,off,r,?_,h7,h9⟩
      simp only [aQ,hn,Value.pointer.injEq,Option.some.injEq,Addr.mk.injEq,and_true,true_and]
      omega
  | [.al T b o len,.int q i],hg=>
    obtain ⟨x,y,rfl,h1,h2⟩:=h.kp
    obtain ⟨qu,hg⟩:=aG.cond hg
    obtain ⟨hc,rfl⟩:=aG.kU hg
    have:=h2.cS; subst this
    obtain ⟨m,rfl,hm,JE⟩:=uI hc
    rw [JE]
    simp only [Bool.and_eq_true] at qu
    have:=Nat.eq_of_beq_eq_true qu.1
    subst this
    have hn:(bj P T).ks.length=n:=Nat.eq_of_beq_eq_true (QZ ▸ qu.2)
    rcases h1.sf with ⟨h0,_⟩ | ⟨x,L,N,c,h3,rfl,h4,h5,h6⟩
    · omega
    · refine ⟨_,by (show (jd (.ofNat m) len).bind _=_); rw [m8 hm]; rfl,.adw ⟨x,L,N,h3,⟨fun a c ha=>by simpa using ha⟩,by omega,?_⟩⟩
      simp only [aQ,hn,Value.pointer.injEq,Option.some.injEq,Addr.mk.injEq,and_true,true_and]
      rw [Nat.add_mul]; omega
theorem Vo {len n:Nat} {e:TypeId} : rL P (Jy P len n e) (Jc P len n e):=by
  intro E vs us v h hg
  match vs,hg with
  | [.agg cs,.int k i],hg=>
    obtain ⟨x,y,rfl,h1,h2⟩:=h.kp
    obtain ⟨l,rfl,h3⟩:=h1.kT
    have:=h2.cS; subst this
    simp only [Jy] at hg
    have key:∃ m:Nat,i=(m:Int)∧m < len∧MP P e cs (m * n)=some v:=by
      cases hb:Nat.ble len 8 with
      | true=>rw [hb,cond_true] at hg; obtain ⟨m,_,h3,h4,h5⟩:=aG.at hg; exact ⟨m,h4,by omega,aG.of h5⟩
      | false=>
        rw [hb,cond_false] at hg
        split at hg
        · rename_i u hu
          obtain ⟨hc,rfl⟩:=aG.kU hg
          obtain ⟨m,rfl,hm,JE⟩:=uI hc
          rw [JE] at hu
          exact ⟨m,rfl,hm,hu⟩
        · exact hg.elim
    obtain ⟨m,rfl,hm,hu⟩:=key
    obtain ⟨w,h4,h5⟩:=XA h3 hu
    exact ⟨w,by (show (jd (.ofNat m) len).bind _=_); rw [m8 hm]; exact h4,h5⟩
theorem Vp:rL P QN Jd:=by
  intro E vs us v h hg
  match vs,hg with
  | [.str s,.int k i],hg=>
    obtain ⟨x,y,rfl,h1,h2⟩:=h.kp
    have:=h1.pz; subst this
    have:=h2.cS; subst this
    obtain ⟨hc,rfl⟩:=aG.kU hg
    obtain ⟨m,rfl,hm,JE⟩:=uI hc
    rw [JE]
    have hl:m < s.data.toList.length:=by simpa using hm
    refine ⟨.int .u8 (s.data.toList.getD m 0).toNat,?_,.mkInt⟩
    show (jd (.ofNat m) s.size).bind _=_
    rw [m8 hm]
    show (s.data.toList[m]?).map _=_
    simp [List.getD,List.getElem?_eq_getElem hl]
theorem Q0 {α:Type} : ∀ (n:Nat) (l:List α),TS n l=l[n]?
  | n,[]=>by cases n <;> rfl
  | 0,x :: _=>rfl
  | n+1,_ :: xs=>by simp [TS,Q0 n xs]
theorem XC {i:Nat} : rL P (TT i) (BN i):=by
  intro E vs us v h hg
  match vs,hg with
  | [.pQ ws],hg=>
    obtain ⟨y,rfl,h1⟩:=h.dH
    obtain ⟨l,rfl,h2⟩:=h1.FT
    have:=hg.of
    rw [Q0] at this
    obtain ⟨u,h3,h4⟩:=h2.get this
    exact ⟨u,by simpa [BN] using h3,h4⟩
theorem abY:rL P aaO Kh:=by
  intro E vs us v h hg
  match vs,hg with
  | [.ts T m n es acc],hg=>
    obtain ⟨y,rfl,h1⟩:=h.dH
    obtain ⟨_,_,_,a,cap,rfl,_⟩:=h1.kY
    have hg:KV.int .i64 n=v:=hg
    subst hg
    exact ⟨_,rfl,.mkInt⟩
  | [.sl b o n c],hg=>
    obtain ⟨y,rfl,h1⟩:=h.dH
    obtain ⟨x,_,rfl⟩:=h1.Ho
    have hg:KV.int .i64 n=v:=hg
    subst hg
    exact ⟨_,rfl,.mkInt⟩
  | [.al T b o n],hg=>
    obtain ⟨y,rfl,h1⟩:=h.dH
    obtain ⟨a,c,rfl⟩:=h1.sf.slice
    have hg:KV.int .i64 n=v:=hg
    subst hg
    exact ⟨_,rfl,.mkInt⟩
  | [.jL],hg=>
    obtain ⟨y,rfl,h1⟩:=h.dH
    have:=h1.mJ; subst this
    have hg:KV.int .i64 0=v:=hg
    subst hg
    exact ⟨_,rfl,.mkInt⟩
theorem ZE:rL P Xp Ki:=by
  intro E vs us v h hg
  match vs,hg with
  | [.str s],hg=>
    obtain ⟨y,rfl,h1⟩:=h.dH
    have:=h1.pz; subst this
    have hg:KV.int .i64 s.size=v:=hg
    subst hg
    exact ⟨_,rfl,.mkInt⟩
theorem abZ:rL P aaK PM:=by
  intro E vs us v h hg
  match vs,hg with
  | [.str s],hg=>
    obtain ⟨y,rfl,h1⟩:=h.dH
    have:=h1.pz; subst this
    have hg:KV.str s=v:=hg
    subst hg
    exact ⟨_,rfl,.mkStr⟩
theorem Vq {f:Fn} {k:Nat} : rL P (DD f k) (zn f k):=by
  intro E vs us v h hg
  unfold DD at hg
  split at hg
  · rename_i l hl
    have hg:KV.fn f l (wK k vs)=v:=hg
    subst hg
    have ka:rH k (wK 0 vs)=some l:=hl
    obtain ⟨r,h1,h2,_⟩:=h.rH ka
    have h1:takeN k us=some r:=h1
    refine ⟨_,by simp [zn,h1]; rfl,.Xy h2 ?_⟩
    rw [Cs,pn]
    exact h.drop k
  · exact hg.elim
theorem ab0 {src dst:TypeId} {k k' : IntKind} (h2:P.underlying dst=some (.int k)) (h3:P.underlying src=some (.int k')):rL P (aaJ k) (BM P src dst):=by
  intro E vs us v h hg
  match vs,hg with
  | [.int j n],hg=>
    obtain ⟨y,rfl,h1⟩:=h.dH
    have:=h1.cS; subst this
    have hg:KV.int k (k.wrap n)=v:=hg
    subst hg
    refine ⟨.int k (k.wrap n),?_,.mkInt⟩
    simp only [BM,h2]
    simp [convert,underlying,program,Bind.bind,Sem.bind,cF,h2,h3,Conv.intToInt,Pure.pure]
end Go.K
end
section
namespace Go.K
open Go Go.av
variable {P:Program} {E:Env}
theorem dK {α β:Type} : ∀ {s:Sem α} {f:α→Sem β} {a:α},cF P s=some a→cF P (s >>= f)=cF P (f a)
  | .pure x,f,a,h=>by simp [cF] at h; subst h; rfl
  | .program k,f,a,h=>by
    have:=dK (s:=k P) (f:=f) (a:=a) (by simpa [cF] using h)
    exact this
  | .mark m k,f,a,h=>by
    have:=dK (s:=k) (f:=f) (a:=a) (by simpa [cF] using h)
    exact this
  | .load ..,_,_,h | .store ..,_,_,h | .new ..,_,_,h | .shape ..,_,_,h | .freeze ..,_,_,h | .frozen ..,_,_,h | .getObj ..,_,_,h
  | .setObj ..,_,_,h | .choose ..,_,_,h | .sys ..,_,_,h | .halt ..,_,_,h=>by simp [cF] at h
theorem zG {α β:Type} {init stop:β} {B:α→β→Sem (ForInStep β)} {g:α→Bool} : ∀ {l:List α},(∀ x ∈ l,cF P (B x init)=some (if g x=true then .yield init else .done stop))→
    cF P (forIn l init B)=some (if l.all g=true then init else stop)
  | [],_=>rfl
  | x :: l,h=>by
    have hx:=h x (by simp)
    rw [List.forIn_cons,dK hx]
    cases hg:g x with
    | true=>
      simp only [if_true]
      rw [zG fun y hy=>h y (by simp [hy])]
      simp [hg]
    | false=>simp [hg]; rfl
theorem sT {t:TypeId} {d:TypeDesc} (h:P.underlying t=some d):cF P (underlying t)=some d:=by
  simp [underlying,program,Bind.bind,Sem.bind,cF,h,Pure.pure]
theorem Ld {t:TypeId} {i:TypeInfo} (h:P.info? t=some i):cF P (typeInfo t)=some i:=by
  simp [typeInfo,program,Bind.bind,Sem.bind,cF,h,Pure.pure]
theorem b7 {α:Type} (a:α):cF P (pure a)=some a:=rfl
theorem Eu {t:TypeId} {i:TypeInfo} (h:P.info? t=some i):cF P (sizeOf t)=some i.size:=by
  unfold sizeOf
  rw [dK (Ld h)]
  rfl
theorem Q5 {n:Nat} {t:TypeId} {L:r7} (h:lay P n t=some L):∃ d,P.underlying t=some d∧L.agg=Ph d∧(L.agg=false→L.ks.length=1):=by
  cases n with
  | zero=>simp [lay] at h
  | succ n=>
    simp only [lay] at h
    split at h <;> rename_i hu
    · simp at h; subst h; exact ⟨_,hu,rfl,fun _=>rfl⟩
    · simp at h; subst h; exact ⟨_,hu,rfl,fun _=>rfl⟩
    · simp at h; subst h; exact ⟨_,hu,rfl,fun _=>rfl⟩
    · simp at h; subst h; exact ⟨_,hu,rfl,fun _=>rfl⟩
    · obtain ⟨ks,_,rfl⟩:=Option.map_eq_some_iff.1 h; exact ⟨_,hu,rfl,fun h=>by simp at h⟩
    · obtain ⟨ks,_,rfl⟩:=Option.map_eq_some_iff.1 h; exact ⟨_,hu,rfl,fun h=>by simp at h⟩
    · rename_i d h1 h2 h3 h4 h5 h6
      simp at h; subst h
      refine ⟨_,hu,?_,fun _=>rfl⟩
      cases d <;> first | rfl | simp_all
    · simp at h
def vu (agg:Bool) (l:List Value):Value:=cond agg (.agg ⟨l⟩) (l.headD undef)
theorem Il {n:Nat} {t:TypeId} {L:r7} {i:TypeInfo} {cs:Array Value} {off:Nat} (h:lay P n t=some L) (hi:P.info? t=some i) (hs:i.size=L.ks.length) (hl:off+L.ks.length≤cs.size) :
    cF P (part t cs off)=some (vu L.agg ((cs.toList.drop off).take L.ks.length)):=by
  obtain ⟨d,hu,ha,h1⟩:=Q5 h
  have ahv:cF P (isAgg t)=some (Ph d):=by
    unfold isAgg
    rw [dK (sT hu)]
    cases d <;> rfl
  unfold part
  rw [dK ahv]
  cases hd:Ph d with
  | true=>
    rw [hd] at ha
    simp only [if_true]
    rw [dK (Eu hi)]
    simp only [b7,ha,vu,cond_true,hs]
    congr 2
    apply Array.ext'
    simp
  | false=>
    rw [hd] at ha
    have h1:=h1 ha
    have aL:off < cs.size:=by omega
    simp only [Bool.false_eq_true,if_false]
    rw [Array.getElem?_eq_getElem aL]
    simp only [b7,ha,vu,cond_false,h1]
    congr 1
    have:cs.toList.drop off=cs.toList[off] :: cs.toList.drop (off+1):=List.drop_eq_getElem_cons (by simpa using aL)
    rw [this]
    simp
theorem Le:∀ {xs ys:List KV} {b:Bool},pS xs ys=some b→xs.length=ys.length
  | [],[],_,_=>rfl
  | [],_ :: _,_,h=>by simp [pS] at h
  | _ :: _,[],_,h=>by simp [pS] at h
  | x :: xs,y :: ys,b,h=>by
    simp only [pS] at h
    split at h
    · rename_i h2; simp [Le h2]
    · simp at h
theorem uJ:∀ (n:Nat) {xs ys:List KV} {b:Bool},pS xs ys=some b→∃ b1 b2,pS (xs.take n) (ys.take n)=some b1∧pS (xs.drop n) (ys.drop n)=some b2∧b=(b1 && b2)
  | 0,xs,ys,b,h=>⟨true,b,by simp [pS],by simpa using h,by simp⟩
  | n+1,[],[],b,h=>by simp [pS] at h; subst h; exact ⟨true,true,by simp [pS],by simp [pS],rfl⟩
  | n+1,[],_ :: _,b,h=>by simp [pS] at h
  | n+1,_ :: _,[],b,h=>by simp [pS] at h
  | n+1,x :: xs,y :: ys,b,h=>by
    simp only [pS] at h
    split at h
    · rename_i a c h1 h2
      simp at h
      obtain ⟨b1,b2,h3,h4,h5⟩:=uJ n h2
      refine ⟨a && b1,b2,by simp [pS,h1,h3],by simpa using h4,?_⟩
      rw [← h,h5,Bool.and_assoc]
    · simp at h
def wO (xs ys:List KV) (off n:Nat):Bool:=(pS ((xs.drop off).take n) ((ys.drop off).take n)).getD false
theorem TX {xs ys:List KV} {b:Bool} (h:pS xs ys=some b) (off n:Nat):pS ((xs.drop off).take n) ((ys.drop off).take n)=some (wO xs ys off n):=by
  obtain ⟨_,_,_,h2,_⟩:=uJ off h
  obtain ⟨b1,_,h3,_,_⟩:=uJ n h2
  unfold wO
  rw [h3]; rfl
theorem qB:∀ {a b:List CK} {xs:List KV},au (a ++ b) xs=true→au a (xs.take a.length)=true∧au b (xs.drop a.length)=true
  | [],b,xs,h=>by simpa [au] using h
  | c :: a,b,[],h=>by simp [au] at h
  | c :: a,b,x :: xs,h=>by
    simp only [List.cons_append,au,Bool.and_eq_true] at h
    obtain ⟨h1,h2⟩:=qB h.2
    simp [au,h.1,h1,h2]
theorem oe:∀ {a:List CK} {xs:List KV},au a xs=true→xs.length=a.length
  | [],[],_=>rfl
  | [],_ :: _,h=>by simp [au] at h
  | _ :: _,[],h=>by simp [au] at h
  | c :: a,x :: xs,h=>by
    simp only [au,Bool.and_eq_true] at h
    simp [oe h.2]
theorem Q6 {lf:TypeId→Option r7} {xs ys:List KV} {b:Bool} (he:pS xs ys=some b):∀ {fs:List Field} {off:Nat} {ks:List CK},FJ lf fs off=some ks→au ks (xs.drop off)=true→au ks (ys.drop off)=true→off+ks.length=xs.length→
    (∀ f ∈ fs,∃ L,lf f.type=some L∧f.offset+L.ks.length≤xs.length∧au L.ks ((xs.drop f.offset).take L.ks.length)=true∧au L.ks ((ys.drop f.offset).take L.ks.length)=true)∧
    pS (xs.drop off) (ys.drop off)=some (fs.all fun f=>wO xs ys f.offset (((lf f.type).map (·.ks.length)).getD 0))
  | [],off,ks,h,_,_,hl=>by
    simp [FJ] at h
    subst h
    have h1:xs.drop off = []:=by simp at hl; simp; omega
    have h2:ys.drop off = []:=by have:=Le he; simp at hl; simp; omega
    refine ⟨by simp,?_⟩
    rw [h1,h2]; rfl
  | f :: fs,off,ks,h,hk,qO,hl=>by
    simp only [FJ] at h
    obtain ⟨Et,h⟩:=DJ h
    have Et:=Nat.eq_of_beq_eq_true Et
    obtain ⟨L,h1,h⟩:=Option.bind_eq_some_iff.1 h
    obtain ⟨r,h2,rfl⟩:=Option.map_eq_some_iff.1 h
    obtain ⟨k1,k2⟩:=qB hk
    obtain ⟨ZF,Vr⟩:=qB qO
    rw [List.drop_drop] at k2 Vr
    simp only [List.length_append] at hl
    obtain ⟨h3,h4⟩:=Q6 he h2 k2 Vr (by omega)
    refine ⟨fun g hg=>?_,?_⟩
    · rcases List.mem_cons.1 hg with rfl | hg
      · exact ⟨L,h1,by omega,by rw [Et]; exact k1,by rw [Et]; exact ZF⟩
      · exact h3 g hg
    · obtain ⟨_,_,_,h5,_⟩:=uJ off he
      obtain ⟨c1,c2,h6,h7,h8⟩:=uJ L.ks.length h5
      rw [List.drop_drop,List.drop_drop] at h7
      rw [h4] at h7
      simp at h7
      have h9:=TX he off L.ks.length
      rw [h6] at h9
      simp at h9
      rw [h5,h8]
      simp only [List.all_cons,h1,Option.map_some,Option.getD_some,Et,← h9]
      rw [← h7]
theorem yl {α:Type} (l:List α):∀ n,(dv l n).length=n * l.length
  | 0=>by simp [dv]
  | n+1=>by rw [dv,List.length_append,yl l n,Nat.succ_mul]; omega
theorem Q7 {xs ys:List KV} {l:List CK} : ∀ {len off:Nat} {b:Bool},pS (xs.drop off) (ys.drop off)=some b→au (dv l len) (xs.drop off)=true→au (dv l len) (ys.drop off)=true→
    (∀ i,i < len→au l ((xs.drop (off+i * l.length)).take l.length)=true∧au l ((ys.drop (off+i * l.length)).take l.length)=true)∧
    pS (xs.drop off) (ys.drop off)=some ((List.range' 0 len).all fun i=>wO xs ys (off+i * l.length) l.length)
  | 0,off,b,h,hk,qO=>by
    have h1:xs.drop off = []:=by have:=oe hk; simp only [dv,List.length_nil] at this; exact List.length_eq_zero_iff.1 this
    have h2:ys.drop off = []:=by have:=oe qO; simp only [dv,List.length_nil] at this; exact List.length_eq_zero_iff.1 this
    refine ⟨fun i hi=>by omega,?_⟩
    rw [h1,h2]; rfl
  | len+1,off,b,h,hk,qO=>by
    obtain ⟨c1,c2,h1,h2,h3⟩:=uJ l.length h
    rw [List.drop_drop,List.drop_drop] at h2
    obtain ⟨k1,k2⟩:=qB (a:=l) (b:=dv l len) hk
    obtain ⟨ZF,Vr⟩:=qB (a:=l) (b:=dv l len) qO
    rw [List.drop_drop] at k2 Vr
    obtain ⟨h5,h4⟩:=Q7 (len:=len) (off:=off+l.length) h2 k2 Vr
    refine ⟨fun i hi=>?_,?_⟩
    · cases i with
      | zero=>simpa using ⟨k1,ZF⟩
      | succ i=>
        have:=h5 i (by omega)
        rwa [show off+l.length+i * l.length=off+(i+1) * l.length by rw [Nat.succ_mul]; omega] at this
    rw [h2] at h4
    simp at h4
    have hw:wO xs ys off l.length=c1:=by unfold wO; rw [h1]; rfl
    rw [h,h3]
    rw [List.range'_succ]
    simp only [List.all_cons,Nat.zero_mul,Nat.add_zero,hw,Nat.zero_add]
    congr 2
    rw [h4]
    have:List.range' 1 len=(List.range' 0 len).map (1 + ·):=by rw [List.map_add_range']
    rw [this,List.all_map]
    apply congrArg (fun f=>List.all (List.range' 0 len) f)
    funext i
    simp only [Function.comp]
    congr 1
    rw [Nat.add_mul]; omega
theorem XD:∀ (n d:Nat) (t:TypeId) (L:r7) (cx cy:List KV) (xs ys:List Value) (b:Bool),yA P n t=true→lay P n t=some L→n≤d→aP P E cx xs→aP P E cy ys→au L.ks cx=true→au L.ks cy=true→
    pS cx cy=some b→cF P (Op.equalIn d t (vu L.agg xs) (vu L.agg ys))=some b
  | 0,_,_,_,_,_,_,_,_,h,_,_,_,_,_,_,_=>by simp [yA] at h
  | n+1,0,_,_,_,_,_,_,_,_,_,h,_,_,_,_,_=>by omega
  | n+1,d+1,t,L,cx,cy,xs,ys,b,h,hL,hd,hx,hy,Vd,hky,he=>by
    have hl:=oe Vd
    have hly:=oe hky
    have hlx' : xs.length=L.ks.length:=by rw [hx.length,hl]
    have hly' : ys.length=L.ks.length:=by rw [hy.length,hly]
    have aaT:∀ s,yA P n s=true→∃ i l,P.info? s=some i∧lay P n s=some l∧i.size=l.ks.length:=by
      intro s hs
      cases n with
      | zero=>simp [yA] at hs
      | succ n=>
        simp only [yA,Bool.and_eq_true] at hs
        have h1:=hs.1
        split at h1
        · rename_i i l e1 e2
          exact ⟨i,l,e1,e2,Nat.eq_of_beq_eq_true h1⟩
        · simp at h1
    have afS:∀ (s:TypeId) (l:r7) (i:TypeInfo) (off:Nat),yA P n s=true→lay P n s=some l→P.info? s=some i→i.size=l.ks.length→off+l.ks.length≤cx.length→
        au l.ks ((cx.drop off).take l.ks.length)=true→au l.ks ((cy.drop off).take l.ks.length)=true→
        (do
          let u ← part s ⟨xs⟩ off
          let v ← part s ⟨ys⟩ off
          Op.equalIn d s u v:Sem Bool)=(do
          let u ← part s ⟨xs⟩ off
          let v ← part s ⟨ys⟩ off
          Op.equalIn d s u v)∧cF P (part s ⟨xs⟩ off)=some (vu l.agg ((xs.drop off).take l.ks.length))∧cF P (part s ⟨ys⟩ off)=some (vu l.agg ((ys.drop off).take l.ks.length))∧
        cF P (Op.equalIn d s (vu l.agg ((xs.drop off).take l.ks.length)) (vu l.agg ((ys.drop off).take l.ks.length)))=some (wO cx cy off l.ks.length):=by
      intro s l i off h1 h2 h3 h4 h5 h6 h7
      refine ⟨rfl,?_,?_,?_⟩
      · exact Il h2 h3 h4 (by simp; omega)
      · exact Il h2 h3 h4 (by simp; omega)
      · exact XD n d s l _ _ _ _ _ h1 h2 (by omega) ((hx.drop off).take _) ((hy.drop off).take _) h6 h7 (TX he off _)
    simp only [yA,Bool.and_eq_true] at h
    have h2:=h.2
    obtain ⟨dd,hu,ha,h1⟩:=Q5 hL
    rw [hu] at h2
    unfold Op.equalIn
    rw [dK (sT hu)]
    simp only [lay,hu] at hL
    have Lf:∀ c,L.ks = [c]→∃ x y u v,cx = [x]∧cy = [y]∧xs = [u]∧ys = [v]∧VK P E x u∧VK P E y v∧eqK x y=some b∧kindOk c x=true∧kindOk c y=true:=by
      intro c hc
      rw [hc] at hl hly Vd hky
      match cx,cy,hl,hly with
      | [x],[y],_,_=>
        obtain ⟨u,rfl,h2⟩:=hx.dH
        obtain ⟨v,rfl,h3⟩:=hy.dH
        refine ⟨x,y,u,v,rfl,rfl,rfl,rfl,h2,h3,?_,by simpa [au] using Vd,by simpa [au] using hky⟩
        simp only [pS] at he
        split at he
        · rename_i a c h4 h5
          simp at h5
          subst h5
          simpa [h4] using he
        · simp at he
    cases dd with
    | int k=>
      simp at hL
      subst hL
      obtain ⟨x,y,u,v,rfl,rfl,rfl,rfl,h3,h4,h5,h6,h7⟩:=Lf _ rfl
      cases x <;> simp [kindOk] at h6
      cases y <;> simp [kindOk] at h7
      subst h6 h7
      have:=h3.cS; subst this
      have:=h4.cS; subst this
      simp [eqK] at h5
      subst h5
      simp [vu,b7]
    | bool=>
      simp at hL
      subst hL
      obtain ⟨x,y,u,v,rfl,rfl,rfl,rfl,h3,h4,h5,h6,h7⟩:=Lf _ rfl
      cases x <;> simp [kindOk] at h6
      cases y <;> simp [kindOk] at h7
      have:=h3.dC; subst this
      have:=h4.dC; subst this
      simp [eqK] at h5
      subst h5
      simp [vu,b7]
    | string=>
      simp at hL
      subst hL
      obtain ⟨x,y,u,v,rfl,rfl,rfl,rfl,h3,h4,h5,h6,h7⟩:=Lf _ rfl
      cases x <;> simp [kindOk] at h6
      cases y <;> simp [kindOk] at h7
      have:=h3.pz; subst this
      have:=h4.pz; subst this
      simp [eqK] at h5
      subst h5
      simp [vu,b7]
    | struct fs=>
      simp only [Option.map_eq_some_iff] at hL
      obtain ⟨ks,pt,rfl⟩:=hL
      simp only [Bool.and_eq_true,Bool.not_eq_true'] at h2
      obtain ⟨h3,h4⟩:=Q6 he pt (by simpa using Vd) (by simpa using hky) (by simpa using hl.symm)
      simp only [List.drop_zero] at h4
      rw [he] at h4
      simp only [Option.some.injEq] at h4
      simp only [vu,cond_true]
      rw [dK (a:=P) (by simp [program,cF])]
      simp only [h2.1,Bool.false_eq_true,if_false]
      rw [← Array.forIn_toList]
      rw [dK (zG (g:=fun f=>wO cx cy f.offset (((lay P n f.type).map (·.ks.length)).getD 0)) (stop:=(some false,())) fun f hf=>?_)]
      · rw [h4]
        cases (fs.toList.all fun f=>wO cx cy f.offset (((lay P n f.type).map (·.ks.length)).getD 0)) <;> rfl
      · have h5:=List.all_eq_true.1 h2.2 f hf
        simp only [Bool.and_eq_true,Bool.not_eq_true',beq_eq_false_iff_ne] at h5
        rw [if_pos h5.1]
        obtain ⟨l,h6,h7,h8,h9⟩:=h3 f hf
        obtain ⟨i,l',e1,e2,e3⟩:=aaT _ h5.2
        rw [h6] at e2
        simp at e2
        subst e2
        obtain ⟨_,w1,w2,w3⟩:=afS _ l i f.offset h5.2 h6 e1 e3 h7 h8 h9
        rw [dK w1,dK w2,dK w3]
        simp only [h6,Option.map_some,Option.getD_some]
        cases wO cx cy f.offset l.ks.length <;> rfl
    | array len e=>
      simp only [Option.map_eq_some_iff] at hL
      obtain ⟨l,Fs,rfl⟩:=hL
      obtain ⟨h3,h4⟩:=Q7 (xs:=cx) (ys:=cy) (l:=l.ks) (len:=len) (off:=0) (by simpa using he) (by simpa using Vd) (by simpa using hky)
      simp only [List.drop_zero,Nat.zero_add] at h3 h4
      rw [he] at h4
      simp only [Option.some.injEq] at h4
      obtain ⟨i,l',e1,e2,e3⟩:=aaT _ h2
      rw [Fs] at e2
      simp at e2
      subst e2
      simp only [vu,cond_true]
      rw [dK (Eu e1)]
      rw [Std.Legacy.Range.forIn_eq_forIn_range']
      rw [show List.range' [:len].start [:len].size [:len].step=List.range' 0 len from by simp [Std.Legacy.Range.size]]
      rw [dK (zG (g:=fun i=>wO cx cy (i * l.ks.length) l.ks.length) (stop:=(some false,())) fun j hj=>?_)]
      · rw [h4]
        cases ((List.range' 0 len).all fun i=>wO cx cy (i * l.ks.length) l.ks.length) <;> rfl
      · have tX:j < len:=by simpa using hj
        obtain ⟨k1,k2⟩:=h3 j tX
        have hle:j * l.ks.length+l.ks.length≤cx.length:=by
          rw [hl]
          simp only [yl]
          rw [← Nat.succ_mul]
          exact Nat.mul_le_mul_right _ tX
        obtain ⟨_,w1,w2,w3⟩:=afS _ l i (j * l.ks.length) h2 Fs e1 e3 hle k1 k2
        rw [e3]
        rw [dK w1,dK w2,dK w3]
        cases wO cx cy (j * l.ks.length) l.ks.length <;> rfl
    | _=>simp at h2
theorem FW:∀ {ks:List CK} {cs:List KV} {l:List Value},au ks cs=true→aP P E cs l→(∀ t,CK.slice t ∉ ks)→n6 l=true
  | [],[],l,_,h,_=>by rw [h.bJ]; rfl
  | [],_ :: _,_,h,_,_=>by simp [au] at h
  | _ :: _,[],_,h,_,_=>by simp [au] at h
  | c :: ks,v :: cs,l,h,hv,hn=>by
    obtain ⟨y,ys,rfl,h1,h2⟩:=hv.cons_inv
    simp only [au,Bool.and_eq_true] at h
    have:=FW h.2 h2 (fun t ht=>hn t (by simp [ht]))
    simp only [n6,this,Bool.and_true]
    cases c with
    | int k=>cases v <;> simp [kindOk] at h; have:=h1.cS; subst this; rfl
    | bool=>cases v <;> simp [kindOk] at h; have:=h1.dC; subst this; rfl
    | str=>cases v <;> simp [kindOk] at h; have:=h1.pz; subst this; rfl
    | slice t=>exact absurd (by simp) (hn t)
    | other=>cases v <;> simp [kindOk] at h
theorem FX:∀ (n:Nat) (t:TypeId) (L:r7),yA P n t=true→lay P n t=some L→∀ u,CK.slice u ∉ L.ks
  | 0,_,_,h,_,_=>by simp [yA] at h
  | n+1,t,L,h,hL,u=>by
    simp only [yA,Bool.and_eq_true] at h
    have h2:=h.2
    obtain ⟨dd,hu,_,_⟩:=Q5 hL
    rw [hu] at h2
    simp only [lay,hu] at hL
    cases dd with
    | int k=>simp at hL; subst hL; simp
    | bool=>simp at hL; subst hL; simp
    | string=>simp at hL; subst hL; simp
    | struct fs=>
      simp only [Option.map_eq_some_iff] at hL
      obtain ⟨ks,pt,rfl⟩:=hL
      simp only [Bool.and_eq_true,List.all_eq_true] at h2
      have key:∀ (l:List Field) (off:Nat) (ks:List CK),FJ (lay P n) l off=some ks→(∀ f ∈ l,yA P n f.type=true)→CK.slice u ∉ ks:=by
        intro l
        induction l with
        | nil=>intro off ks h _; simp [FJ] at h; subst h; simp
        | cons f l ih=>
          intro off ks h hf
          simp only [FJ] at h
          obtain ⟨_,h⟩:=DJ h
          obtain ⟨L',h5,h⟩:=Option.bind_eq_some_iff.1 h
          obtain ⟨r,h6,rfl⟩:=Option.map_eq_some_iff.1 h
          rw [List.mem_append]
          rintro (h7 | h7)
          · exact FX n _ _ (hf f (by simp)) h5 u h7
          · exact ih _ _ h6 (fun g hg=>hf g (by simp [hg])) h7
      exact key _ _ _ pt fun f hf=>(h2.2 f hf).2
    | array len e=>
      simp only [Option.map_eq_some_iff] at hL
      obtain ⟨l,Fs,rfl⟩:=hL
      have:=FX n e l h2 Fs u
      have key:∀ m,CK.slice u ∉ dv l.ks m:=by
        intro m
        induction m with
        | zero=>simp [dv]
        | succ m ih=>simp only [dv,List.mem_append,not_or]; exact ⟨this,ih⟩
      exact key _
    | _=>simp at h2
theorem ZG {t:TypeId} (h:yA P 12 t=true):lay P 12 t=some (bj P t):=by
  simp only [yA,Bool.and_eq_true] at h
  have h1:=h.1
  unfold bj
  split at h1
  · rename_i i l e1 e2; rw [e2]; rfl
  · simp at h1
theorem XE {t:TypeId} {x y:KV} {b:Bool} {lit:Bool} {u v:Value} (hx:VK P E x u) (hy:VK P E y v) (h:ads P t x y=some b):oo P t lit u v=some b:=by
  unfold ads at h
  split at h
  · rename_i xs ys
    obtain ⟨hc,h⟩:=DJ h
    simp only [Bool.and_eq_true,Bool.not_eq_true'] at hc
    obtain ⟨⟨⟨⟨ha,h1⟩,h2⟩,h3⟩,h4⟩:=hc
    obtain ⟨l,rfl,hl⟩:=hx.kT
    obtain ⟨m,rfl,hm⟩:=hy.kT
    have hL:=ZG h1
    have Xf:=FX 12 t _ h1 hL
    have hfx:flat (.agg ⟨l⟩)=true:=FW h3 hl Xf
    have hfy:flat (.agg ⟨m⟩)=true:=FW h4 hm Xf
    have hs:=XD 12 Op.maxDepth t (bj P t) xs ys l m b h1 hL (by unfold Op.maxDepth; omega) hl hm h3 h4 h
    rw [ha] at hs
    have hs:cF P (Op.equal t (.agg ⟨l⟩) (.agg ⟨m⟩))=some b:=hs
    unfold oo
    simp only [jc,tF,h2,Bool.not_false,Bool.and_self,cond_true]
    unfold PH
    split <;> simp_all
  · rename_i a c
    split at h
    · rename_i hu
      simp at h
      subst h
      have:=hx.dC; subst this
      have:=hy.dC; subst this
      have:cF P (Op.equal t (.bool a) (.bool c))=some (a == c):=by
        unfold Op.equal Op.maxDepth Op.equalIn
        rw [dK (sT hu)]
        rfl
      unfold oo
      simp only [jc,tF,Bool.and_self,cond_true]
      unfold PH
      split <;> simp_all [flat]
    · simp at h
  · split at h
    · rename_i e hu
      simp at h
      subst h
      have:=hx.mJ; subst this
      have:=hy.mJ; subst this
      simp [oo,jc,tF,PH,hu]
    · simp at h
  · rename_i T m n es acc
    split at h
    · rename_i e hu
      cases hn:Nat.beq n 0 with
      | true=>rw [hn] at h; simp at h
      | false=>
        rw [hn] at h
        simp at h
        subst h
        have:=hy.mJ; subst this
        obtain ⟨_,a7,_,a,cap,rfl,_,hb,_⟩:=hx.kY
        rcases hb with ⟨_,h0⟩ | ⟨b,off,r,rfl,_⟩
        · subst h0; simp at hn
        · simp [oo,jc,tF,PH,hu]
    · simp at h
  · rename_i T m n es acc
    split at h
    · rename_i e hu
      cases hn:Nat.beq n 0 with
      | true=>rw [hn] at h; simp at h
      | false=>
        rw [hn] at h
        simp at h
        subst h
        have:=hx.mJ; subst this
        obtain ⟨_,a7,_,a,cap,rfl,_,hb,_⟩:=hy.kY
        rcases hb with ⟨_,h0⟩ | ⟨b,off,r,rfl,_⟩
        · subst h0; simp at hn
        · simp [oo,jc,tF,PH,hu]
    · simp at h
  · split at h
    · rename_i e hu
      simp at h
      subst h
      have:=hx.Hp; subst this
      have:=hy.Hp; subst this
      simp [oo,jc,tF,PH,hu]
    · simp at h
  · split at h
    · rename_i e hu
      simp at h
      subst h
      have:=hy.Hp; subst this
      obtain ⟨x,_,rfl⟩:=hx.gG
      simp [oo,jc,tF,PH,hu]
    · simp at h
  · split at h
    · rename_i e hu
      simp at h
      subst h
      have:=hx.Hp; subst this
      obtain ⟨x,_,rfl⟩:=hy.gG
      simp [oo,jc,tF,PH,hu]
    · simp at h
  · simp at h
theorem afc {op:BinOp} {t:TypeId} {lit:Bool} : rL P (adt P op t) (o4 P op t lit):=by
  intro E vs us w h hg
  unfold adt at hg
  split at hg
  · rename_i j a k b
    obtain ⟨x,y,rfl,h1,h2⟩:=h.kp
    have:=h1.cS; subst this
    have:=h2.cS; subst this
    cases hs:Xo op with
    | true=>
      rw [hs,cond_true] at hg
      cases op <;> simp [Xo] at hs
      · obtain ⟨hc,rfl⟩:=aG.kU hg
        simp only [Bool.not_eq_true',decide_eq_false_iff_not] at hc
        exact ⟨_,by simp [o4,binOp,Op.shift,hc,b7],.mkInt⟩
      · obtain ⟨hc,rfl⟩:=aG.kU hg
        simp only [Bool.not_eq_true',decide_eq_false_iff_not] at hc
        exact ⟨_,by simp [o4,binOp,Op.shift,hc,b7],.mkInt⟩
    | false=>
      rw [hs,cond_false] at hg
      obtain ⟨XF,hz⟩:=hg.cond
      clear hg
      simp only [decide_eq_true_eq] at XF
      subst XF
      cases op with
      | shl=>simp [Xo] at hs
      | shr=>simp [Xo] at hs
      | quo=>
        obtain ⟨hc,rfl⟩:=aG.kU hz
        simp only [Bool.not_eq_true',decide_eq_false_iff_not] at hc
        exact ⟨_,by simp [o4,binOp,Op.intDiv,hc,b7],.mkInt⟩
      | rem=>
        obtain ⟨hc,rfl⟩:=aG.kU hz
        simp only [Bool.not_eq_true',decide_eq_false_iff_not] at hc
        exact ⟨_,by simp [o4,binOp,Op.intDiv,hc,b7],.mkInt⟩
      | add=>have hz:KV.int _ _=w:=hz; subst hz; exact ⟨_,by simp [o4,binOp,Op.intArith,b7],.mkInt⟩
      | sub=>have hz:KV.int _ _=w:=hz; subst hz; exact ⟨_,by simp [o4,binOp,Op.intArith,b7],.mkInt⟩
      | mul=>have hz:KV.int _ _=w:=hz; subst hz; exact ⟨_,by simp [o4,binOp,Op.intArith,b7],.mkInt⟩
      | and=>have hz:KV.int _ _=w:=hz; subst hz; exact ⟨_,by simp [o4,binOp,Op.intBits,b7],.mkInt⟩
      | or=>have hz:KV.int _ _=w:=hz; subst hz; exact ⟨_,by simp [o4,binOp,Op.intBits,b7],.mkInt⟩
      | xor=>have hz:KV.int _ _=w:=hz; subst hz; exact ⟨_,by simp [o4,binOp,Op.intBits,b7],.mkInt⟩
      | andNot=>have hz:KV.int _ _=w:=hz; subst hz; exact ⟨_,by simp [o4,binOp,Op.intBits,b7],.mkInt⟩
      | eql=>have hz:KV.bool _=w:=hz; subst hz; exact ⟨_,by simp [o4,binOp,Op.intCmp,b7],.ph⟩
      | neq=>have hz:KV.bool _=w:=hz; subst hz; exact ⟨_,by simp [o4,binOp,Op.intCmp,b7],.ph⟩
      | lss=>have hz:KV.bool _=w:=hz; subst hz; exact ⟨_,by simp [o4,binOp,Op.intCmp,b7],.ph⟩
      | leq=>have hz:KV.bool _=w:=hz; subst hz; exact ⟨_,by simp [o4,binOp,Op.intCmp,b7],.ph⟩
      | gtr=>have hz:KV.bool _=w:=hz; subst hz; exact ⟨_,by simp [o4,binOp,Op.intCmp,b7],.ph⟩
      | geq=>have hz:KV.bool _=w:=hz; subst hz; exact ⟨_,by simp [o4,binOp,Op.intCmp,b7],.ph⟩
  · rename_i a b
    obtain ⟨x,y,rfl,h1,h2⟩:=h.kp
    have:=h1.pz; subst this
    have:=h2.pz; subst this
    split at hg
    · have hg:KV.bool _=w:=hg; subst hg; exact ⟨_,by simp [o4,binOp,Op.stringOp,b7],.ph⟩
    · have hg:KV.bool _=w:=hg; subst hg; exact ⟨_,by simp [o4,binOp,Op.stringOp,b7],.ph⟩
    · have hg:KV.bool _=w:=hg; subst hg; exact ⟨_,by simp [o4,binOp,Op.stringOp,b7],.ph⟩
    · obtain ⟨hc,rfl⟩:=aG.kU hg
      have hc:=Nat.le_of_ble_eq_true hc
      have hn : ¬ (((a.size+b.size:Nat):Int) > IntKind.i64.max):=by
        have:IntKind.i64.max=9223372036854775807:=by decide
        rw [this]; omega
      refine ⟨.string (a ++ b),?_,.mkStr⟩
      simp only [o4,binOp,Op.stringOp]
      rw [if_neg hn]
      rfl
    · exact hg.elim
  · rename_i x y Qi hn2
    obtain ⟨u,v,rfl,h1,h2⟩:=h.kp
    split at hg
    · rename_i b he
      have hg:KV.bool b=w:=hg
      subst hg
      have:=XE (lit:=lit) h1 h2 he
      refine ⟨.bool b,?_,.ph⟩
      unfold o4
      split
      · rename_i e; simp at e; obtain ⟨rfl,rfl⟩:=e; simp [oo,jc] at this
      · rename_i e; simp at e; obtain ⟨rfl,rfl⟩:=e; simp [oo,jc] at this
      · rename_i e; simp at e; obtain ⟨rfl,rfl⟩:=e; simp [this]
      · rename_i e; exact absurd rfl (e _ _)
    · rename_i b he
      have hg:KV.bool (!b)=w:=hg
      subst hg
      have:=XE (lit:=lit) h1 h2 he
      refine ⟨.bool !b,?_,.ph⟩
      unfold o4
      split
      · rename_i e; simp at e; obtain ⟨rfl,rfl⟩:=e; simp [oo,jc] at this
      · rename_i e; simp at e; obtain ⟨rfl,rfl⟩:=e; simp [oo,jc] at this
      · rename_i e; simp at e; obtain ⟨rfl,rfl⟩:=e; simp [this]
      · rename_i e; exact absurd rfl (e _ _)
    · exact hg.elim
  · exact hg.elim
theorem agw {op:UnOp} : rL P (kUn op) (WC P op):=by
  intro E vs us w h hg
  unfold kUn at hg
  split at hg
  · rename_i b
    obtain ⟨y,rfl,h1⟩:=h.dH
    have:=h1.dC; subst this
    split at hg
    · have hg:KV.bool (!b)=w:=hg
      subst hg
      exact ⟨_,by simp [WC,Op.unary,b7],.ph⟩
    · exact hg.elim
  · rename_i k n
    obtain ⟨y,rfl,h1⟩:=h.dH
    have:=h1.cS; subst this
    split at hg
    · have hg:KV.int _ _=w:=hg
      subst hg
      exact ⟨.int k (k.wrap (0 - n)),by simp [WC,Op.unary,Op.intArith,b7],.mkInt⟩
    · have hg:KV.int _ _=w:=hg
      subst hg
      exact ⟨_,by simp [WC,Op.unary,Op.intBits,b7],.mkInt⟩
    · exact hg.elim
  · exact hg.elim
theorem Q8 {mx:Bool} : rL P (Ch mx) (C7 P fun vs=>cond mx (Builtin.max_ #[] 0 ⟨vs⟩) (Builtin.min_ #[] 0 ⟨vs⟩)):=by
  intro E vs us w h hg
  unfold Ch at hg
  split at hg
  · rename_i j a k b
    obtain ⟨x,y,rfl,h1,h2⟩:=h.kp
    have:=h1.cS; subst this
    have:=h2.cS; subst this
    obtain ⟨XF,hz⟩:=hg.cond
    clear hg
    simp only [decide_eq_true_eq] at XF
    subst XF
    have hz:KV.int _ _=w:=hz
    subst hz
    refine ⟨_,?_,.mkInt⟩
    cases mx
    · simp [C7,n6,flat,Builtin.min_,Builtin.min2,b7]
      omega
    · simp [C7,n6,flat,Builtin.max_,Builtin.max2,b7]
      omega
  · rename_i j a k b l c
    obtain ⟨x,y,z,rfl,h1,h2,h3⟩:=h.JD
    have:=h1.cS; subst this
    have:=h2.cS; subst this
    have:=h3.cS; subst this
    obtain ⟨XF,hz⟩:=hg.cond
    clear hg
    simp only [Bool.and_eq_true,decide_eq_true_eq] at XF
    obtain ⟨rfl,rfl⟩:=XF
    have hz:KV.int _ _=w:=hz
    subst hz
    refine ⟨_,?_,.mkInt⟩
    cases mx
    · show some (Value.int j (if c < (if b < a then b else a) then c else (if b < a then b else a)))=some (Value.int j (min (min a b) c))
      congr 2
      split <;> split at * <;> omega
    · show some (Value.int j (if c > (if b > a then b else a) then c else (if b > a then b else a)))=some (Value.int j (max (max a b) c))
      congr 2
      split <;> split at * <;> omega
  · exact hg.elim
end Go.K
end
section
namespace Go.K
open Go Go.av
variable {P:Program} {E:Env}
theorem AR.of {E' : Env} {A A' : aj} {x:Nat} (oy:∀ b,E'.α b=E.α b) (ha:∀ b v,A'.get b=some (.arr v)→A.get b=some (.arr v)) (h:AR A' E' x):AR A E x:=by
  obtain ⟨b,v,L,N,h1,h2⟩:=h
  exact ⟨b,v,L,N,ha _ _ h1,by rw [← oy]; exact h2⟩
theorem AF.of {E' : Env} {A A' : aj} {B B' : St} {g:Nat} (oy:∀ b,E'.α b=E.α b) (ha:∀ b v,A'.get b=some (.arr v)→A.get b=some (.arr v)) (hB:∀ x,AR A E x→B'.get x=B.get x) (h:AF A' E' B' g):AF A E B g:=by
  obtain ⟨b,v,x,L,N,cs,e,own,k,h1,h2,h3⟩:=h
  have B6:E.α b=some (x,L,N):=by rw [← oy]; exact h2
  exact ⟨b,v,x,L,N,cs,e,own,k,ha _ _ h1,B6,by rw [← hB x ⟨b,v,L,N,ha _ _ h1,B6⟩]; exact h3⟩
theorem AT.of {E' : Env} {A A' : aj} {B B' : St} {y:Nat} (oy:∀ b,E'.α b=E.α b) (ha:∀ b v,A'.get b=some (.arr v)→A.get b=some (.arr v)) (hB:∀ x,AR A E x→B'.get x=B.get x) (hm:∀ g,AF A E B g→B'.members g=B.members g) (h:AT A' E' B' y):AT A E B y:=by
  rcases h with h | ⟨g,h1,h2⟩
  · exact .inl (h.of oy ha)
  · have:=h1.of oy ha hB
    exact .inr ⟨g,this,by rw [← hm g this]; exact h2⟩
theorem lO {B B' : St} (h:∀ x,x < B.next→B'.get x=B.get x):∀ y,y < B.next→∀ cs e own bo,B'.get y=some (.row cs e own bo)→∃ kR,B.get y=some (.row kR e own bo)∧kR.length=cs.length:=
  fun y hy cs _ _ _ q=>⟨cs,by rw [← h y hy]; exact q,rfl⟩
theorem Q9 {B:St} {o:bD} : ∀ x,x < B.next→(B.new o).get x=B.get x:=fun x hx=>by rw [St.cK,if_neg (by omega)]
theorem DI.gY {E' : Env} {A A' : aj} {B B' : St} (h:DI P E A B) (hle:E.le E') (oy:∀ b,E'.α b=E.α b) (ha:∀ b v,A'.get b=some (.arr v)→A.get b=some (.arr v)) (hf:∀ b v,A'.get b=some (.iD v)→A.get b=some (.iD v))
    (hn:A.next≤A'.next) (HP:B.next≤B'.next) (hB:∀ x,AR A E x→B'.get x=B.get x) (hz:∀ b r,E'.z b=some r→E.z b=some r∨B.next≤b) (Aj:∀ b x,E'.κ b=some x→E.κ b=some x∨(A.next≤b∧B.next≤x))
    (Bs:∀ b g,E'.φ b=some g→(∃ c,E.φ c=some g)∨B.next≤g) (hm:∀ g,AF A E B g→B'.members g=B.members g) (mem:∀ g x,x ∈ B.members g→x < B.next):DI P E' A' B' where
  arr b v hb:=(h.arr b v (ha _ _ hb)).mono hle (oy b) fun x L N e=>hB x ⟨b,v,L,N,ha _ _ hb,e⟩
  iD b v hb:=(h.iD b v (hf _ _ hb)).mono hle (oy b)
  z x hx:=by
    have ZH:=AR.of oy ha hx
    obtain ⟨b,v,L,N,h1,h2⟩:=ZH
    have aL:=h.fB _ _ _ _ h2
    obtain ⟨h3,h4⟩:=h.z x (AR.of oy ha hx)
    refine ⟨?_,fun c e=>?_⟩
    · cases hz' : E'.z x with
      | none=>rfl
      | some r=>
        rcases hz x r hz' with e | e
        · rw [h3] at e; simp at e
        · omega
    · rcases Aj c x e with e | ⟨_,e⟩
      · exact h4 c e
      · omega
  inj b c v u x L N L' N' h1 h2 h3 h4:=h.inj b c v u x L N L' N' (ha _ _ h1) (ha _ _ h2) (by rw [← oy]; exact h3) (by rw [← oy]; exact h4)
  qT b c v u x y L N L' N' cs e own g k bI e' nC k' h1 h2 h3 h4 h5 h6:=by
    rw [oy] at h3 h4
    rw [hB x ⟨b,v,L,N,ha _ _ h1,h3⟩] at h5
    rw [hB y ⟨c,u,L',N',ha _ _ h2,h4⟩] at h6
    exact h.qT b c v u x y L N L' N' cs e own g k bI e' nC k' (ha _ _ h1) (ha _ _ h2) h3 h4 h5 h6
  QV b x e:=by
    rw [oy]
    rcases Aj b x e with e | ⟨e,_⟩
    · exact h.QV b x e
    · cases hb:E.α b with
      | none=>rfl
      | some p=>have:=h.gk b p hb; omega
  nk b v hb:=by
    obtain ⟨h1,h2⟩:=h.nk b v (ha _ _ hb)
    refine ⟨Nat.lt_of_lt_of_le h1 hn,?_⟩
    cases e:E'.κ b with
    | none=>rfl
    | some x=>
      rcases Aj b x e with e | ⟨e,_⟩
      · rw [h2] at e; simp at e
      · omega
  gk b p e:=by rw [oy] at e; have:=h.gk b p e; omega
  fB b x L N e:=by rw [oy] at e; have:=h.fB b x L N e; omega
  pT b v x L N cs e own g k h1 h2 h3:=by
    rw [oy] at h2
    have hA:=ha _ _ h1
    rw [hB x ⟨b,v,L,N,hA,h2⟩] at h3
    obtain ⟨h4,h5,h6⟩:=h.pT b v x L N cs e own g k hA h2 h3
    refine ⟨by omega,fun f e=>?_,fun y hy bR=>?_⟩
    · rcases Bs f g e with ⟨c,e⟩ | e
      · exact h5 c e
      · omega
    · rw [hm g ⟨b,v,x,L,N,cs,_,own,k,hA,h2,h3⟩] at hy
      have aL:=mem g y hy
      obtain ⟨h7,h8,h9⟩:=h6 y hy bR
      refine ⟨?_,fun q=>h8 (AR.of oy ha q),fun c e=>?_⟩
      · cases hz' : E'.z y with
        | none=>rfl
        | some r=>
          rcases hz y r hz' with e | e
          · rw [h7] at e; simp at e
          · omega
      · rcases Aj c y e with e | ⟨_,e⟩
        · exact h9 c e
        · omega
theorem ek.AK {A:aj} {B:St} (h:ek P E A B) {x:Nat} (q:AR A E x):x < B.next:=by
  obtain ⟨b,v,L,N,_,h2⟩:=q
  exact h.ar.fB _ _ _ _ h2
structure dm (P:Program) (E:Env) (A:aj) (B:St) (E' : Env) (A' : aj) (B' : St):Prop where
  dz:ek P E' A' B'
  le:E.le E'
  next:A.next≤A'.next
  gY:∀ x,x < B.next→(∀ b,E.κ b≠some x)→¬ AT A E B x→B'.get x=B.get x
  new:∀ b x,E'.κ b=some x→E.κ b=some x∨B.next≤x
  qz:∀ b r,E'.z b=some r→E.z b=some r∨AR A E b∨B.next≤b
  qA:∀ b g,E'.φ b=some g→E.φ b=some g∨B.next≤g
  n9:∀ g,g < B.next→(∀ b,E.φ b≠some g)→¬ AF A E B g→B'.members g=B.members g
  lB:∀ x,AR A' E' x→AR A E x∨B.next≤x
  lN:∀ g,AF A' E' B' g→AF A E B g∨B.next≤g
  rK:∀ g y,y ∈ B'.members g→y ∈ B.members g∨B.next≤y
  mK:∀ y,AT A' E' B' y→AT A E B y∨B.next≤y
  rows:∀ y,y < B.next→∀ cs e own bo,B'.get y=some (.row cs e own bo)→∃ kR,B.get y=some (.row kR e own bo)∧kR.length=cs.length
theorem dm.ev {base:Nat} {E' : Env} {A A' : aj} {B B' : St} {ρ ak:ao} {w w' : World} (h:dm P E A B E' A' B') (g:da base ρ B w ak B' w'):Ev P base E A B ρ w E' A' B' ak w':=
  ⟨h.dz,g,h.le,h.next,h.gY,h.new,h.qz,fun b g e=>(h.qA b g e).imp (fun e=>⟨b,e⟩) id,h.n9,h.lB,h.lN,h.rK,h.mK,h.rows⟩
def Bt (P:Program) (o:Oper):o6→Prop
  | .pure f xs=>∀ (E:Env) (ρ:ao) (ev:Operand→KV) (cr:Operand→Value) (v:KV),(∀ x ∈ xs,VC P E ρ (ev x) (cr x))→aG (f (xs.map ev)) v→∃ v',VC P E ρ v v'∧∀ w,(execOp cr o).run P w = .ok (.value v') w
  | .read f xs=>∀ (E:Env) (A:aj) (B:St) (ρ:ao) (base:Nat) (w:World) (ev:Operand→KV) (cr:Operand→Value) (v:KV),KJ P E A B ρ base w→(∀ x ∈ xs,VC P E ρ (ev x) (cr x))→aG (f A (xs.map ev)) v→
      ∃ v',VC P E ρ v v'∧(execOp cr o).run P w = .ok (.value v') w
  | .look f xs=>∀ (E:Env) (A:aj) (B:St) (ρ:ao) (base:Nat) (w:World) (ev:Operand→KV) (cr:Operand→Value) (v:KV),KJ P E A B ρ base w→(∀ x ∈ xs,VC P E ρ (ev x) (cr x))→aG (f (xs.map ev)) v→
      ∃ E' B' ak v' nx w',(execOp cr o).run P w = .ok nx w'∧Zd v' nx∧VC P E' ak v v'∧Ev P base E A B ρ w E' A B' ak w'
  | .act f xs=>∀ (E:Env) (A A' : aj) (B:St) (ρ:ao) (base:Nat) (w:World) (ev:Operand→KV) (cr:Operand→Value) (v:KV),KJ P E A B ρ base w→(∀ x ∈ xs,VC P E ρ (ev x) (cr x))→aG (f A (xs.map ev)) (v,A')→
      ∃ E' B' ak v' nx w',(execOp cr o).run P w = .ok nx w'∧Zd v' nx∧VC P E' ak v v'∧Ev P base E A B ρ w E' A' B' ak w'
  | _=>True
theorem bS {ρ:ao} {ev:Operand→KV} {cr:Operand→Value} {xs:List Operand} (h:∀ x ∈ xs,VC P E ρ (ev x) (cr x)) :
    ∃ em:Operand→Value,aP P E (xs.map ev) (xs.map em)∧qq ρ em cr xs:=by
  classical
  refine ⟨fun x=>if hx:VC P E ρ (ev x) (cr x) then hx.choose else undef,?_,?_⟩
  · induction xs with
    | nil=>exact .nil
    | cons x xs ih=>
      refine .cons ?_ (ih fun y hy=>h y (by simp [hy]))
      have hx:=h x (by simp)
      simp only [dif_pos hx]
      exact hx.choose_spec.1
  · intro x hx
    have hx:=h x hx
    simp only [dif_pos hx]
    exact hx.choose_spec.2
theorem lift_pure {o:Oper} {f:FP} {g:List Value→Option Value} {xs:List Operand} (hc:compile P o.op = .pure g xs) (hs:rL P f g):Bt P o (.pure f xs):=by
  intro E ρ ev cr v hv hg
  obtain ⟨em,h1,h2⟩:=bS hv
  obtain ⟨u,h3,h4⟩:=hs E _ _ v h1 hg
  have bc:=mf P o
  rw [hc] at bc
  obtain ⟨v',h5,h6⟩:=bc ρ em cr u h2 h3
  exact ⟨v',⟨u,h4,h5⟩,h6⟩
def XG (P:Program) (f:FR) (g:St→List Value→Option Value):Prop:=
  ∀ (E:Env) (A:aj) (B:St) (vs:List KV) (us:List Value) (v:KV),ek P E A B→aP P E vs us→aG (f A vs) v→∃ u,g B us=some u∧VK P E v u
theorem DL {o:Oper} {f:FR} {g:St→List Value→Option Value} {xs:List Operand} (hc:compile P o.op = .read g xs) (hs:XG P f g):Bt P o (.read f xs):=by
  intro E A B ρ base w ev cr v hj hv hg
  obtain ⟨em,h1,h2⟩:=bS hv
  obtain ⟨u,h3,h4⟩:=hs E A B _ _ v hj.k h1 hg
  have bc:=mf P o
  rw [hc] at bc
  obtain ⟨v',h5,h6⟩:=bc ρ B base w em cr u hj.s.rel h2 h3
  exact ⟨v',⟨u,h4,h5⟩,h6⟩
def aaU (P:Program) (f:FA) (g:St→List Value→Option (Value×St)):Prop:=
  ∀ (E:Env) (A A' : aj) (B:St) (vs:List KV) (us:List Value) (v:KV),ek P E A B→aP P E vs us→aG (f A vs) (v,A')→∃ u B' E',g B us=some (u,B')∧VK P E' v u∧dm P E A B E' A' B'
theorem MZ {o:Oper} {f:FA} {g:St→List Value→Option (Value×St)} {xs:List Operand} (hc:compile P o.op = .act g xs) (hs:aaU P f g):Bt P o (.act f xs):=by
  intro E A A' B ρ base w ev cr v hj hv hg
  obtain ⟨em,h1,h2⟩:=bS hv
  obtain ⟨u,B',E',h3,h4,h5⟩:=hs E A A' B _ _ v hj.k h1 hg
  have bc:=mf P o
  rw [hc] at bc
  obtain ⟨ak,v',nx,w',h6,h7,h8,h9⟩:=bc ρ B B' base w em cr u hj.s h2 h3
  exact ⟨E',B',ak,v',nx,w',h6,h7,⟨u,h4,h8⟩,h5.ev h9⟩
def afT (P:Program) (f:FP) (g:St→List Value→Option (Value×St)):Prop:=
  ∀ (E:Env) (A:aj) (B:St) (vs:List KV) (us:List Value) (v:KV),ek P E A B→aP P E vs us→aG (f vs) v→∃ u B' E',g B us=some (u,B')∧VK P E' v u∧dm P E A B E' A B'
theorem ZI {o:Oper} {f:FP} {g:St→List Value→Option (Value×St)} {xs:List Operand} (hc:compile P o.op = .act g xs) (hs:afT P f g):Bt P o (.look f xs):=by
  intro E A B ρ base w ev cr v hj hv hg
  obtain ⟨em,h1,h2⟩:=bS hv
  obtain ⟨u,B',E',h3,h4,h5⟩:=hs E A B _ _ v hj.k h1 hg
  have bc:=mf P o
  rw [hc] at bc
  obtain ⟨ak,v',nx,w',h6,h7,h8,h9⟩:=bc ρ B B' base w em cr u hj.s h2 h3
  exact ⟨E',B',ak,v',nx,w',h6,h7,⟨u,h4,h8⟩,h5.ev h9⟩
theorem M0 {o:Oper} {g:List Value→Option (bD×(Nat→Value))} {xs:List Operand} (hc:compile P o.op = .make g xs) {ρ:ao} {B:St} {base:Nat} {w:World} {em cr:Operand→Value} {obj:bD} {mk:Nat→Value} (hs:jC ρ B base w)
    (h2:qq ρ em cr xs) (h3:g (xs.map em)=some (obj,mk)):∃ ak v' w',(execOp cr o).run P w = .ok (.value v') w'∧VR ak (mk B.next) v'∧da base ρ B w ak (B.new obj) w':=by
  have bc:=mf P o
  rw [hc] at bc
  obtain ⟨c,mk',h4,h5,h6⟩:=bc ρ em cr obj mk h2 h3
  exact ⟨_,_,_,h5 w,h6 _ _ _ (ao.jF _ _ _),h4.ej hs⟩
def TY (P:Program) (f:FA) (g:List Value→Option (bD×(Nat→Value))):Prop:=
  ∀ (E:Env) (A A' : aj) (B:St) (vs:List KV) (us:List Value) (v:KV),ek P E A B→aP P E vs us→aG (f A vs) (v,A')→∃ obj mk E',g us=some (obj,mk)∧VK P E' v (mk B.next)∧dm P E A B E' A' (B.new obj)
theorem zH {o:Oper} {f:FA} {g:List Value→Option (bD×(Nat→Value))} {xs:List Operand} (hc:compile P o.op = .make g xs) (hs:TY P f g):Bt P o (.act f xs):=by
  intro E A A' B ρ base w ev cr v hj hv hg
  obtain ⟨em,h1,h2⟩:=bS hv
  obtain ⟨obj,mk,E',h3,h4,h5⟩:=hs E A A' B _ _ v hj.k h1 hg
  obtain ⟨ak,v',w',h6,h7,h8⟩:=M0 hc hj.s h2 h3
  exact ⟨E',B.new obj,ak,v',_,w',h6,rfl,⟨_,h4,h7⟩,h5.ev h8⟩
def afU (P:Program) (f:FP) (g:List Value→Option (bD×(Nat→Value))):Prop:=
  ∀ (E:Env) (A:aj) (B:St) (vs:List KV) (us:List Value) (v:KV),ek P E A B→aP P E vs us→aG (f vs) v→∃ obj mk E',g us=some (obj,mk)∧VK P E' v (mk B.next)∧dm P E A B E' A (B.new obj)
theorem ab1 {o:Oper} {f:FP} {g:List Value→Option (bD×(Nat→Value))} {xs:List Operand} (hc:compile P o.op = .make g xs) (hs:afU P f g):Bt P o (.look f xs):=by
  intro E A B ρ base w ev cr v hj hv hg
  obtain ⟨em,h1,h2⟩:=bS hv
  obtain ⟨obj,mk,E',h3,h4,h5⟩:=hs E A B _ _ v hj.k h1 hg
  obtain ⟨ak,v',w',h6,h7,h8⟩:=M0 hc hj.s h2 h3
  exact ⟨E',B.new obj,ak,v',_,w',h6,rfl,⟨_,h4,h7⟩,h5.ev h8⟩
def Env.kq (E:Env) (b x:Nat):Env:={ E with κ:=fun c=>if c=b then some x else E.κ c }
def Env.fp (E:Env) (b:Nat) (r:Xv):Env:={ E with z:=fun c=>if c=b then some r else E.z c }
def Env.pB (E:Env) (b g:Nat):Env:={ E with φ:=fun c=>if c=b then some g else E.φ c }
theorem dm.newRow {A:aj} {B:St} {cs:List KV} {bI:List Value} {bm:Nat} (h:ek P E A B) (hv:aP P E cs bI):dm P E A B (E.kq A.next B.next) (A.new (.row cs bm)) (B.new (.row bI bm true none)):=by
  have hle:E.le (E.kq A.next B.next):=⟨fun _ _ e=>e,fun b x e=>by
    have:=h.gk b x e
    simp only [Env.kq]; rw [if_neg (by omega)]; exact e,fun _ _ e=>e,fun _ _ e=>e⟩
  have hA:∀ (b:Nat) (v:KV),(A.new (.row cs bm)).get b=some (.arr v)→A.get b=some (.arr v):=fun b v hb=>by
    rw [aj.cK] at hb
    split at hb
    · simp at hb
    · exact hb
  have Ra:∀ (b:Nat) (v:KV),(A.new (.row cs bm)).get b=some (.iD v)→A.get b=some (.iD v):=fun b v hb=>by
    rw [aj.cK] at hb
    split at hb
    · simp at hb
    · exact hb
  have uc:∀ x,AR A E x→(B.new (.row bI bm true none)).get x=B.get x:=fun x q=>by have:=h.AK q; rw [St.cK,if_neg (by omega)]
  refine ⟨⟨?_,?_,?_,?_,?_,?_,?_,?_,?_,?_,?_,?_,?_,?_,h.ar.gY hle (fun _=>rfl) hA Ra (by simp) (by simp) uc (fun _ _ e=>.inl e) (fun b x e=>?_) (fun b g e=>.inl ⟨b,e⟩) (fun _ _=>by simp) h.mem⟩,hle,by simp,?_,?_,fun _ _ e=>.inl e,fun _ _ e=>.inl e,fun _ _ _ _=>by simp,fun _ q=>.inl (q.of (fun _=>rfl) hA),fun _ q=>.inl (q.of (fun _=>rfl) hA uc),fun _ _ q=>.inl (by simpa using q),fun _ q=>.inl (q.of (fun _=>rfl) hA uc fun _ _=>by simp),lO Q9⟩
  · intro b kR FY hb
    rw [aj.cK] at hb
    split at hb
    · rename_i e
      simp at hb
      obtain ⟨rfl,rfl⟩:=hb
      exact ⟨B.next,bI,by simp [Env.kq,e],by simp,hv.mono hle⟩
    · obtain ⟨x,c,h1,h2,h3⟩:=h.row b kR FY hb
      have:=h.fB b x h1
      exact ⟨x,c,hle.κ _ _ h1,by rw [St.cK,if_neg (by omega)]; exact h2,h3.mono hle⟩
  · intro b top zI hb
    rw [aj.cK] at hb
    split at hb
    · simp at hb
    · rcases h.aW b top zI hb with h1 | ⟨g,h1,Rb,h2⟩
      · exact .inl h1
      · refine .inr ⟨g,h1,Rb,fun x hx c e own f k hg=>?_⟩
        rw [St.cK] at hg
        split at hg
        · simp at hg
        · exact h2 x (by simpa using hx) c e own f k hg
  · intro b r hb
    have:=h.lX b r hb
    rw [St.cK,if_neg (by omega)]
    exact h.z b r hb
  · intro b x hb
    simp only [Env.kq] at hb ⊢
    split at hb
    · simp at hb
      subst hb
      cases hz:E.z B.next with
      | none=>rfl
      | some r=>have:=h.lX _ r hz; omega
    · exact h.apart b x hb
  · intro b c x hb hc
    simp only [Env.kq] at hb hc
    split at hb <;> split at hc
    · omega
    · simp at hb; subst hb; have:=h.fB c _ hc; omega
    · simp at hc; subst hc; have:=h.fB b _ hb; omega
    · exact h.inj b c x hb hc
  · exact yP.new (E:=E.kq A.next B.next) (fun x y g a b c d e f hx hy=>h.iH x y g a b c d e f hx hy) (.inl fun _ _=>by simp)
  · intro b x hb
    simp only [Env.kq] at hb
    rw [aj.bV]
    split at hb
    · omega
    · have:=h.gk b x hb; omega
  · intro b g hb; have:=h.lM b g hb; rw [aj.bV]; omega
  · intro b o hb
    rw [aj.cK] at hb
    rw [aj.bV]
    split at hb
    · omega
    · have:=h.live b o hb; omega
  · intro b x hb
    simp only [Env.kq] at hb
    rw [St.bV]
    split at hb
    · simp at hb; omega
    · have:=h.fB b x hb; omega
  · intro b r hb; have:=h.lX b r hb; rw [St.bV]; omega
  · intro b g hb; have:=h.ji b g hb; rw [St.bV]; omega
  · intro g hg; rw [St.bV] at hg; rw [St.jT]; exact h.fresh g (by omega)
  · intro g x hx; rw [St.jT] at hx; rw [St.bV]; have:=h.mem g x hx; omega
  · simp only [Env.kq] at e
    split at e
    · simp at e; exact .inr (by omega)
    · exact .inl e
  · intro x hx _ _; rw [St.cK,if_neg (by omega)]
  · intro b x hb
    simp only [Env.kq] at hb
    split at hb
    · simp at hb; exact .inr (by omega)
    · exact .inl hb
theorem dm.afV {A:aj} {B:St} {bI:List Value} {bm:Nat} (h:ek P E A B):dm P E A B (E.fp B.next ⟨bI,bm,true,none⟩) A (B.new (.row bI bm true none)):=by
  have hle:E.le (E.fp B.next ⟨bI,bm,true,none⟩):=⟨fun _ _ e=>e,fun _ _ e=>e,fun b r e=>by
    have:=h.lX b r e
    simp only [Env.fp]; rw [if_neg (by omega)]; exact e,fun _ _ e=>e⟩
  have uc:∀ x,AR A E x→(B.new (.row bI bm true none)).get x=B.get x:=fun x q=>by have:=h.AK q; rw [St.cK,if_neg (by omega)]
  have FZ:∀ b r,(E.fp B.next ⟨bI,bm,true,none⟩).z b=some r→E.z b=some r∨B.next≤b:=fun b r e=>by
    simp only [Env.fp] at e
    split at e
    · exact .inr (by omega)
    · exact .inl e
  refine ⟨⟨?_,?_,?_,?_,?_,?_,?_,?_,?_,?_,?_,?_,?_,?_,h.ar.gY hle (fun _=>rfl) (fun _ _ e=>e) (fun _ _ e=>e) (Nat.le_refl _) (by simp) uc FZ (fun _ _ e=>.inl e) (fun b g e=>.inl ⟨b,e⟩) (fun _ _=>by simp) h.mem⟩,hle,Nat.le_refl _,?_,?_,fun b r e=>(FZ b r e).imp id .inr,fun _ _ e=>.inl e,fun _ _ _ _=>by simp,fun _ q=>.inl q,fun _ q=>.inl (q.of (fun _=>rfl) (fun _ _ e=>e) uc),fun _ _ q=>.inl (by simpa using q),fun _ q=>.inl (q.of (fun _=>rfl) (fun _ _ e=>e) uc fun _ _=>by simp),lO Q9⟩
  · intro b kR FY hb
    obtain ⟨x,c,h1,h2,h3⟩:=h.row b kR FY hb
    have:=h.fB b x h1
    exact ⟨x,c,hle.κ _ _ h1,by rw [St.cK,if_neg (by omega)]; exact h2,h3.mono hle⟩
  · intro b top zI hb
    rcases h.aW b top zI hb with h1 | ⟨g,h1,Rb,h2⟩
    · exact .inl h1
    · refine .inr ⟨g,h1,Rb,fun x hx c e own f k hg=>?_⟩
      rw [St.cK] at hg
      split at hg
      · simp at hg
      · exact h2 x (by simpa using hx) c e own f k hg
  · intro b r hb
    simp only [Env.fp] at hb
    split at hb
    · rename_i e
      simp at hb
      subst hb e
      simp
    · have:=h.lX b r hb
      rw [St.cK,if_neg (by omega)]
      exact h.z b r hb
  · intro b x hb
    have:=h.fB b x hb
    simp only [Env.fp]
    rw [if_neg (by omega)]
    exact h.apart b x hb
  · exact h.inj
  · exact h.iH
  · exact h.gk
  · exact h.lM
  · exact h.live
  · intro b x hb; have:=h.fB b x hb; rw [St.bV]; omega
  · intro b r hb
    simp only [Env.fp] at hb
    rw [St.bV]
    split at hb
    · omega
    · have:=h.lX b r hb; omega
  · intro b g hb; have:=h.ji b g hb; rw [St.bV]; omega
  · intro g hg; rw [St.bV] at hg; rw [St.jT]; exact h.fresh g (by omega)
  · intro g x hx; rw [St.jT] at hx; rw [St.bV]; have:=h.mem g x hx; omega
  · intro x hx _ _; rw [St.cK,if_neg (by omega)]
  · intro b x hb; exact .inl hb
theorem dm.afd {A:aj} {B:St} {b x bm:Nat} {cs:List KV} {bI:List Value} (h:ek P E A B) (hb:∃ kR e,A.get b=some (.row kR e)) (hx:E.κ b=some x) (hold:∃ kR,B.get x=some (.row kR bm true none)∧kR.length=bI.length) (hv:aP P E cs bI):dm P E A B E (A.put b (.row cs bm)) (B.put x (.row bI bm true none)):=by
  have hA:∀ (c:Nat) (v:KV),(A.put b (.row cs bm)).get c=some (.arr v)→A.get c=some (.arr v):=fun c v hb=>by
    rw [aj.bO] at hb
    split at hb
    · simp at hb
    · exact hb
  have Ra:∀ (c:Nat) (v:KV),(A.put b (.row cs bm)).get c=some (.iD v)→A.get c=some (.iD v):=fun c v hb=>by
    rw [aj.bO] at hb
    split at hb
    · simp at hb
    · exact hb
  have uc:∀ y,AR A E y→(B.put x (.row bI bm true none)).get y=B.get y:=fun y q=>by
    rw [St.bO,if_neg]
    intro e
    subst e
    exact (h.ar.z _ q).2 b hx
  refine ⟨⟨?_,?_,?_,h.apart,h.inj,h.iH.put (.inl fun _ _=>by simp),h.gk,h.lM,?_,h.fB,h.lX,h.ji,?_,?_,h.ar.gY (Env.le_refl _) (fun _=>rfl) hA Ra (Nat.le_refl _) (Nat.le_refl _) uc (fun _ _ e=>.inl e) (fun _ _ e=>.inl e) (fun b g e=>.inl ⟨b,e⟩) (fun _ _=>by simp) h.mem⟩,Env.le_refl _,Nat.le_refl _,?_,fun _ _ e=>.inl e,fun _ _ e=>.inl e,fun _ _ e=>.inl e,fun _ _ _ _=>by simp,fun _ q=>.inl (q.of (fun _=>rfl) hA),fun _ q=>.inl (q.of (fun _=>rfl) hA uc),fun _ _ q=>.inl (by simpa using q),fun _ q=>.inl (q.of (fun _=>rfl) hA uc fun _ _=>by simp),fun y _ c e own bo q=>by
    rw [St.bO] at q
    split at q
    · rename_i e2
      simp at q
      obtain ⟨rfl,rfl,rfl,rfl⟩:=q
      obtain ⟨c0,h1,h2⟩:=hold
      exact ⟨c0,by rw [e2]; exact h1,h2⟩
    · exact ⟨c,q,rfl⟩⟩
  · intro c kR FY hc
    rw [aj.bO] at hc
    split at hc
    · rename_i e
      simp at hc
      obtain ⟨rfl,rfl⟩:=hc
      exact ⟨x,bI,by rw [e]; exact hx,by simp,hv⟩
    · rename_i bR
      obtain ⟨y,d,h1,h2,h3⟩:=h.row c kR FY hc
      refine ⟨y,d,h1,?_,h3⟩
      rw [St.bO,if_neg (fun e=>bR (h.inj c b x (by rw [← e]; exact h1) hx))]
      exact h2
  · intro c top zI hc
    rw [aj.bO] at hc
    split at hc
    · simp at hc
    · rcases h.aW c top zI hc with h1 | ⟨g,h1,Rb,h2⟩
      · exact .inl h1
      · refine .inr ⟨g,h1,Rb,fun y hy d e own f k hg=>?_⟩
        rw [St.bO] at hg
        split at hg
        · simp at hg
        · exact h2 y (by simpa using hy) d e own f k hg
  · intro c r hc
    rw [St.bO,if_neg]
    · exact h.z c r hc
    · intro e
      have:=h.apart b x hx
      rw [← e,hc] at this
      simp at this
  · intro c o hc
    rw [aj.bO] at hc
    rw [aj.po]
    split at hc
    · rename_i e
      obtain ⟨kR,e0,hb⟩:=hb
      rw [e]; exact h.live b _ hb
    · exact h.live c o hc
  · intro g hg; rw [St.pZ]; exact h.fresh g hg
  · intro g y hy; rw [St.pZ] at hy; exact h.mem g y hy
  · intro y hy hn _
    rw [St.bO,if_neg (fun e=>hn b (by rw [e]; exact hx))]
theorem afe {n:Nat} : TY P (wg n) (Tu n):=by
  intro E A A' B vs us v h hv hg
  unfold wg at hg
  split at hg
  · rename_i x
    obtain ⟨y,rfl,h1⟩:=hv.dH
    obtain ⟨ho,hg⟩:=hg.cond
    have hg:(KV.ptr A.next 0,A.new (.row x.cells n))=(v,A'):=hg
    simp only [Prod.mk.injEq] at hg
    obtain ⟨rfl,rfl⟩:=hg
    have hc:=h1.cells (tq ho)
    have HN:y.cells.toList.all scalar=true:=List.all_eq_true.2 (hc.scalar ho)
    exact ⟨xd n y,u4,E.kq A.next B.next,by simp [Tu,HN],.tU (by simp [Env.kq]),dm.newRow h hc⟩
  · exact hg.elim
theorem ab2 {t:TypeId} {z:Value} (hz:pW P t=some z) (hf:flat z=true) (HN:z.cells.toList.all scalar=true) (ho:fS (gH z).cells=true):TY P (NR (kF P t) (gH z).cells) (C5 P t):=by
  intro E A A' B vs us v h hv hg
  have hg:(KV.ptr A.next 0,A.new (.row (gH z).cells (kF P t)))=(v,A'):=hg
  simp only [Prod.mk.injEq] at hg
  obtain ⟨rfl,rfl⟩:=hg
  exact ⟨xd (kF P t) z,u4,E.kq A.next B.next,by simp only [C5,hz,Option.bind_some,hf,HN,Bool.and_self,cond_true],.tU (by simp [Env.kq]),dm.newRow h (wN ho)⟩
theorem F1 {cs:List KV} {l:List Value} (h:aP P E cs l):∀ n,aP P E (dv cs n) (ff l n)
  | 0=>.nil
  | n+1=>aP.append h (F1 h n)
theorem S6 {n b:Nat} {z:Value} (ho:fS (gH z).cells=true):TY P (FN n b (gH z).cells) (Ao n b z):=by
  intro E A A' B vs us v h hv hg
  unfold FN at hg
  split at hg
  · rename_i k l k' c
    obtain ⟨x,y,rfl,h1,h2⟩:=hv.kp
    have:=h1.cS; subst this
    have:=h2.cS; subst this
    obtain ⟨hc,hg⟩:=aG.kU hg
    simp only [Prod.mk.injEq] at hg
    obtain ⟨rfl,rfl⟩:=hg
    simp only [Bool.and_eq_true,decide_eq_true_eq] at hc
    obtain ⟨⟨h3,h4⟩,h5⟩:=hc
    obtain ⟨l',rfl⟩:=Int.eq_ofNat_of_zero_le h3
    obtain ⟨c',rfl⟩:=Int.eq_ofNat_of_zero_le (Int.le_trans h3 h4)
    have h6:Nat.ble l' c' = true:=Nat.ble_eq_true_of_le (by omega)
    refine ⟨.row (ff z.cells.toList c') n true none,fun k=>.slice (some ⟨k,0,none⟩) l' c',E.kq A.next B.next,?_,.aaS (by simp [Env.kq]),dm.newRow h (F1 (wN ho) c')⟩
    have h5:Nat.ble (b * c') 281474976710656=true:=h5
    show cond (Nat.ble l' c' && Nat.ble (b * c') 281474976710656) _ _=_
    rw [h6,h5]
    rfl
  · exact hg.elim
theorem ek.rowAt {A:aj} {B:St} (h:ek P E A B) {b x:Nat} {cs:List KV} (hr:rowAt A b=some cs) (hx:E.κ b=some x):∃ bI bm,B.get x=some (.row bI bm true none)∧aP P E cs bI:=by
  unfold K.rowAt at hr
  split at hr
  · rename_i c e hg
    simp at hr
    subst hr
    obtain ⟨y,d,h1,h2,h3⟩:=h.row _ _ _ hg
    rw [hx] at h1
    simp at h1
    subst h1
    exact ⟨d,_,h2,h3⟩
  · simp at hr
theorem F2 (e:KV):∀ (cs:List CK) (k:Nat),(leaves e cs k).length=cs.length
  | [],_=>rfl
  | c :: cs,k=>by simp [leaves,F2 e cs]
theorem Vs {c:CK} {v:KV} (h:kindOk c v=true):leaf c v=v:=by
  cases c with
  | int k=>cases v <;> simp [kindOk] at h; subst h; rfl
  | bool=>cases v <;> simp [kindOk] at h; rfl
  | str=>cases v <;> simp [kindOk] at h; rfl
  | slice t=>
    cases v <;> simp [kindOk] at h
    rename_i T m n es acc
    cases m <;> simp at h
    subst h
    rfl
  | other=>cases v <;> simp [kindOk] at h
theorem yQ:∀ {ks:List CK} {cs:List KV} {i:Nat} {c:CK},au ks cs=true→ks[i]? = some c→∃ v,cs[i]? = some v∧kindOk c v=true
  | [],_,i,c,_,h=>by simp at h
  | _ :: _,[],_,_,h,_=>by simp [au] at h
  | k :: ks,v :: cs,0,c,h,e=>by
    simp only [au,Bool.and_eq_true] at h
    simp at e
    subst e
    exact ⟨v,rfl,h.1⟩
  | k :: ks,v :: cs,i+1,c,h,e=>by
    simp only [au,Bool.and_eq_true] at h
    obtain ⟨u,h1,h2⟩:=yQ (i:=i) h.2 (by simpa using e)
    exact ⟨u,by simpa using h1,h2⟩
theorem jj:∀ {l:r7} {es:List KV} {i:Nat} {e:KV},eo l es=true→es[i]? = some e→cZ l e=true
  | l,[],i,e,_,h=>by simp at h
  | l,x :: es,0,e,h,he=>by
    simp only [eo,Bool.and_eq_true] at h
    simp at he
    subst he
    exact h.1
  | l,x :: es,i+1,e,h,he=>by
    simp only [eo,Bool.and_eq_true] at h
    exact jj h.2 (by simpa using he)
theorem gu {l:r7} {e:KV} (h:cZ l e=true):au l.ks e.cells=true∧r8 e=true:=by
  cases e <;> simp [cZ] at h <;> first | exact ⟨h.2,rfl⟩ | skip
  obtain ⟨h1,h2⟩:=h
  cases hk:l.ks with
  | nil=>rw [hk] at h2; simp [au] at h2
  | cons c cs=>rw [hk] at h2; cases c <;> simp [au,kindOk] at h2
theorem JF {e:KV} {ks:List CK} (hk:au ks e.cells=true):∀ {cs:List CK} {k:Nat},(∀ m c,cs[m]? = some c→ks[k+m]? = some c)→leaves e cs k=(e.cells.drop k).take cs.length
  | [],k,_=>by simp [leaves]
  | c :: cs,k,h=>by
    obtain ⟨v,h1,h2⟩:=yQ hk (by simpa using h 0 c rfl)
    have aL:k < e.cells.length:=(List.getElem?_eq_some_iff.1 h1).1
    have ih:=JF hk (cs:=cs) (k:=k+1) (fun m d hm=>by have:=h (m+1) d (by simpa using hm); rwa [show k+(m+1)=k+1+m by omega] at this)
    simp only [leaves]
    have e1:e.cells.getD k .aq=v:=by simp [List.getD,h1]
    rw [e1,Vs h2]
    rw [show Nat.succ k=k+1 from rfl,ih,List.drop_eq_getElem_cons aL]
    have e2:e.cells[k] = v:=by
      have:=List.getElem?_eq_getElem aL
      rw [this] at h1
      simpa using h1
    simp [e2]
theorem ek.Bp {A:aj} {B:St} (h:ek P E A B) {b x L N' : Nat} {v:KV} (hr:Bp A b=some v) (hx:E.α b=some (x,L,N')) :
    ∃ T N es acc,v = .ts T .any N es acc∧gM P T N es acc∧1≤aQ P T∧∃ cs e own bo a7,N' = N∧B.get x=some (.row cs e own bo)∧aP P E es a7∧mU (aQ P T) 0 cs a7∧L=cs.length∧e=aQ P T:=by
  unfold K.Bp at hr
  split at hr
  · rename_i u hg
    simp at hr; subst hr
    obtain ⟨T,N,es,acc,h1,h2,h3,h4⟩:=h.ar.arr b _ hg
    refine ⟨T,N,es,acc,h1,h2,h3,?_⟩
    rcases h4 with ⟨_,h5⟩ | ⟨y,cs,bo,a7,h4,h5,h6,h7⟩
    · rw [hx] at h5; simp at h5
    · rw [hx] at h4
      simp only [Option.some.injEq,Prod.mk.injEq] at h4
      obtain ⟨rfl,rfl,rfl⟩:=h4
      exact ⟨cs,_,_,bo,a7,rfl,h5,h6,h7,rfl,rfl⟩
  · rename_i u hg
    simp at hr; subst hr
    obtain ⟨T,N,es,acc,h1,h2,h3,h4⟩:=h.ar.iD b _ hg
    refine ⟨T,N,es,acc,h1,h2,h3,?_⟩
    rcases h4 with ⟨_,h5⟩ | ⟨y,r,a7,h4,h5,h6,h7,h8⟩
    · rw [hx] at h5; simp at h5
    · rw [hx] at h4
      simp only [Option.some.injEq,Prod.mk.injEq] at h4
      obtain ⟨rfl,rfl,rfl⟩:=h4
      exact ⟨r.cs,_,_,_,a7,rfl,h.z _ _ h5,h7,h8,rfl,h6⟩
  · simp at hr
theorem Rc {t T Tc:TypeId} {k x base bm:Nat} {own:Bool} {bo:Option (Nat×Nat)} {e:KV} {u:Value} {cs:List Value} {B:St} (hz:B.get x=some (.row cs bm own bo)) (hc:Pn P t Tc=true) (hw:Ps P T Tc k) (xP:cZ (bj P T) e=true)
    (h7:VK P E e u) (du:u.cells.size=aQ P T) (lJ:∀ (m:Nat) (y:Value),u.cells[m]? = some y→cs[base+m]? = some y):∃ w,ye P t B [.pointer (some ⟨x,base+k,none⟩)] = some w∧VK P E (EN (bj P t).agg (leaves e (bj P t).ks k)) w:=by
  simp only [Pn,Bool.and_eq_true,decide_eq_true_eq] at hc
  obtain ⟨⟨⟨⟨hTc,ZJ⟩,ha⟩,hn⟩,afW⟩:=hc
  have:=Nat.eq_of_beq_eq_true hTc
  subst this
  obtain ⟨aff,afg⟩:=gu xP
  have hlv:=JF aff (cs:=(bj P Tc).ks) (k:=k) hw.is
  rw [hlv]
  have Dk:=h7.cells afg
  have hlen:e.cells.length=aQ P T:=by have:=Dk.length; simp at this; omega
  have ni:(bj P Tc).ks.length≤e.cells.length - k:=by
    have:=congrArg List.length hlv
    rw [F2] at this
    simp at this
    omega
  have iq:∀ m,m < (bj P Tc).ks.length→cs[base+k+m]? = u.cells.toList[k+m]?:=by
    intro m hm
    have aL:k+m < u.cells.size:=by omega
    have:=lJ (k+m) u.cells[k+m] (by simp [aL])
    rw [show base+(k+m)=base+k+m by omega] at this
    rw [this]
    simp [aL]
  have ZK:takeN (bj P Tc).ks.length (yd (base+k) cs)=some ((u.cells.toList.drop k).take (bj P Tc).ks.length):=by
    have hle:(bj P Tc).ks.length≤(cs.drop (base+k)).length:=by
      cases Fs:(bj P Tc).ks.length with
      | zero=>omega
      | succ q=>
        have:=iq q (by omega)
        have aL:k+q < u.cells.toList.length:=by simp; omega
        rw [List.getElem?_eq_getElem aL] at this
        have:=(List.getElem?_eq_some_iff.1 this).1
        simp
        omega
    rw [pn,Ct hle]
    congr 1
    apply List.ext_getElem?
    intro m
    rw [List.getElem?_take,List.getElem?_take]
    split
    · rename_i hm
      rw [List.getElem?_drop,List.getElem?_drop]
      exact iq m hm
    · rfl
  have uF:aP P E (e.cells.drop k |>.take (bj P Tc).ks.length) ((u.cells.toList.drop k).take (bj P Tc).ks.length):=(Dk.drop k).take _
  cases tV:(bj P Tc).agg with
  | true=>
    rw [tV] at ha
    refine ⟨.agg ⟨(u.cells.toList.drop k).take (bj P Tc).ks.length⟩,?_,.ny uF⟩
    simp [ye,loadAt,ha,hn,St.rz,ck,rT,hz,ZK]
  | false=>
    rw [tV] at ha
    have Dn:(bj P Tc).ks.length=1:=by
      rw [tV] at afW
      exact Nat.eq_of_beq_eq_true (by simpa using afW)
    rw [Dn] at ZK uF
    have aL:k < e.cells.length:=by omega
    rw [Dn]
    rw [List.drop_eq_getElem_cons aL] at uF ⊢
    simp only [List.take_succ_cons,List.take_zero] at uF ⊢
    obtain ⟨w,h8,h9⟩:=uF.dH
    refine ⟨w,?_,h9⟩
    simp [ye,loadAt,ha,St.rz,ck,rT,hz,ZK,h8]
theorem XH {t:TypeId} : XG P (MO P t) (ye P t):=by
  intro E A B vs us v h hv hg
  unfold MO at hg
  split at hg
  · rename_i b off
    obtain ⟨y,rfl,h1⟩:=hv.dH
    obtain ⟨x,hx,rfl⟩:=h1.gG
    split at hg
    · rename_i ag n ha hn
      split at hg
      · rename_i l hl
        obtain ⟨cs,h2,h3⟩:=Option.bind_eq_some_iff.1 hl
        obtain ⟨bI,bm,h4,h5⟩:=h.rowAt h2 hx
        obtain ⟨r,h6,h7,_⟩:=h5.rH h3
        cases ag with
        | true=>
          have hg:KV.agg l=v:=hg
          subst hg
          refine ⟨.agg ⟨r⟩,?_,.ny h7⟩
          simp [ye,loadAt,ha,hn,St.rz,ck,rT,h4,h6]
        | false=>
          rw [cond_false] at hg
          split at hg
          · rename_i u
            have hg:u=v:=hg
            subst hg
            obtain ⟨w,rfl,h8⟩:=h7.dH
            have hlen:n=1:=by
              obtain ⟨e,hle⟩:=Hn h3
              have:=congrArg List.length e
              rw [List.length_take,Nat.min_eq_left hle] at this
              simpa using this.symm
            subst hlen
            exact ⟨w,by simp [ye,loadAt,ha,St.rz,ck,rT,h4,h6],h8⟩
          · exact hg.elim
      · exact hg.elim
    · exact hg.elim
  · rename_i T Tc i k es acc
    obtain ⟨y,rfl,h1⟩:=hv.dH
    obtain ⟨hc,hg⟩:=hg.cond
    have hg:EN (bj P t).agg (leaves (acc i) (bj P t).ks k)=v:=hg
    subst hg
    obtain ⟨ht,a7,h2,hi,hw,b,off,r,rfl,h4,h5⟩:=h1.DH
    have ahw:=ht.acc i hi
    have XI:es[i]? = some (acc i):=by rw [ahw]; simp [List.getD,hi]
    obtain ⟨u,h6,h7⟩:=h2.get XI
    obtain ⟨du,lJ⟩:=h5 i u h6
    exact Rc (h.z b r h4) hc hw (jj ht.typed XI) h7 du lJ
  · rename_i T Tc b i k
    obtain ⟨y,rfl,h1⟩:=hv.dH
    split at hg
    · rename_i T' m N es acc hA
      obtain ⟨hc,hg⟩:=hg.cond
      have hg:EN (bj P t).agg (leaves (acc i) (bj P t).ks k)=v:=hg
      subst hg
      simp only [Bool.and_eq_true] at hc
      have:=Nat.eq_of_beq_eq_true hc.1
      subst this
      obtain ⟨x,L,N',h2,hw,hi,rfl⟩:=h1.AJ
      obtain ⟨T2,N2,nB,kZ,Jn,ht,h1s,cs,e,own,bo,a7,h3,h4,h5,h6,_⟩:=h.Bp hA h2
      simp only [KV.ts.injEq] at Jn
      obtain ⟨rfl,rfl,rfl,rfl,rfl⟩:=Jn
      have aL:i < es.length:=by rw [← ht.len,← h3]; exact hi
      have XI:es[i]? = some (acc i):=by rw [ht.acc i (by rw [ht.len]; exact aL)]; simp [List.getD,aL]
      obtain ⟨u,h7,h8⟩:=h5.get XI
      obtain ⟨du,lJ⟩:=h6 i u h7
      rw [Nat.zero_add] at lJ
      exact Rc h4 hc.2 hw (jj ht.typed XI) h8 du lJ
    · exact hg.elim
  · exact hg.elim
end Go.K
end
section
namespace Go.K
open Go Go.av
variable {P:Program} {E:Env}
theorem VK.ady {T:TypeId} {m:Mk} {n:Nat} {es:List KV} {acc:Nat→KV} {u:Value} (h:VK P E (.ts T m n es acc) u):VK P E (.ts T .any n es acc) u:=by
  obtain ⟨ht,a7,h1,a,cap,rfl,h2,h3,_⟩:=h.kY
  simp only [VK]
  exact ⟨ht,a7,h1,a,cap,rfl,h2,h3,trivial⟩
theorem VK.ZL {T:TypeId} {acc:Nat→KV} : VK P E (.ts T .any 0 [] acc) (.slice none 0 0):=by
  simp only [VK]
  exact ⟨⟨rfl,fun i h=>by omega,rfl⟩,[],.nil,none,0,rfl,Nat.le_refl _,.inl ⟨rfl,rfl⟩,trivial⟩
theorem VK.agx {b:Bool} {v:KV} {u:Value} (h:VK P E v u):VK P E (cond b v .aq) u:=by
  cases b with
  | false=>exact .pA
  | true=>exact h
theorem VK.lA {c:CK} {v:KV} {u:Value} (h:VK P E v u):VK P E (lA c v) u:=by
  unfold K.lA
  split
  · have:=h.mJ; subst this; exact .ZL
  · rename_i t t' m n es acc
    cases hb:Nat.beq t t' with
    | false=>exact .pA
    | true=>
      have:=Nat.eq_of_beq_eq_true hb
      subst this
      exact h.ady
  · exact VK.agx h
theorem aP.vp:∀ {ks:List CK} {cs:List KV} {l:List Value},aP P E cs l→cs.length=ks.length→aP P E (vp ks cs) l
  | [],[],l,h,_=>h
  | [],_ :: _,_,_,e=>by simp at e
  | _ :: _,[],_,_,e=>by simp at e
  | c :: ks,v :: cs,l,h,e=>by
    obtain ⟨y,ys,rfl,h1,h2⟩:=h.cons_inv
    exact .cons h1.lA (aP.vp h2 (by simpa using e))
theorem VK.hH {l:r7} {v:KV} {u:Value} (h:VK P E v u):VK P E (hH l v) u:=by
  unfold K.hH
  split
  · rename_i cs
    obtain ⟨m,rfl,h1⟩:=h.kT
    cases hb:(l.agg && Nat.beq cs.length l.ks.length) with
    | false=>exact .pA
    | true=>
      simp only [Bool.and_eq_true] at hb
      exact .ny (h1.vp (Nat.eq_of_beq_eq_true hb.2))
  · cases l.agg with
    | true=>exact .pA
    | false=>
      rw [cond_false]
      split
      · exact h.lA
      · exact .pA
theorem Lg (d:Nat) (v:KV):aK P (d+1) v=(match v with
  | .ts t _ n _ acc=>.ts t .any n ((List.range n).map fun i=>cf P (aK P d) t (acc i)) (fun i=>cf P (aK P d) t (acc i))
  | v=>v):=rfl
theorem S7 (d:Nat) {c:CK} {v:KV} (h:kindOk c v=true):kindOk c (aK P d v)=true:=by
  cases d with
  | zero=>exact h
  | succ d=>
    rw [Lg]
    split
    · rename_i t m n es acc
      cases c <;> simp [kindOk] at h
      cases m <;> simp at h
      simp [kindOk,h]
    · exact h
theorem zJ (d:Nat):∀ {ks:List CK} {cs:List KV},au ks cs=true→au ks (cs.map (aK P d))=true
  | [],[],_=>rfl
  | [],_ :: _,h=>by simp [au] at h
  | _ :: _,[],h=>by simp [au] at h
  | c :: ks,v :: cs,h=>by
    simp only [au,Bool.and_eq_true] at h
    simp only [List.map_cons,au,Bool.and_eq_true]
    exact ⟨S7 d h.1,zJ d h.2⟩
theorem oz:∀ {ks:List CK} {vs:List KV},au ks vs=true→vs.length=ks.length
  | [],[],_=>rfl
  | [],_ :: _,h=>by simp [au] at h
  | _ :: _,[],h=>by simp [au] at h
  | k :: ks,v :: vs,h=>by
    simp only [au,Bool.and_eq_true] at h
    simp [oz h.2]
theorem oA {l:r7} : ∀ {es:List KV},(∀ (i:Nat) e,es[i]? = some e→cZ l e=true)→eo l es=true
  | [],_=>rfl
  | e :: es,h=>by
    simp only [eo,Bool.and_eq_true]
    exact ⟨h 0 e rfl,oA fun i x hx=>h (i+1) x (by simpa using hx)⟩
theorem DM {l:r7} {v:KV} (h:cZ l v=true):leaves v l.ks 0=v.cells∧au l.ks v.cells=true∧(v=EN l.agg v.cells):=by
  have hk:au l.ks v.cells=true∧(v=EN l.agg v.cells):=by
    by_cases ha:∃ cs,v = .agg cs
    · obtain ⟨cs,rfl⟩:=ha
      simp only [cZ,Bool.and_eq_true] at h
      refine ⟨h.2,?_⟩
      rw [h.1]; rfl
    · have h1:(!l.agg && au l.ks [v])=true:=by
        cases v <;> first | exact h | exact absurd ⟨_,rfl⟩ ha | simp [cZ] at h
      have hc:v.cells = [v]:=by cases v <;> first | rfl | exact absurd ⟨_,rfl⟩ ha
      simp only [Bool.and_eq_true,Bool.not_eq_true'] at h1
      rw [hc,h1.1]
      exact ⟨h1.2,rfl⟩
  refine ⟨?_,hk.1,hk.2⟩
  rw [JF (e:=v) (ks:=l.ks) hk.1 (fun m c e=>by rw [Nat.zero_add]; exact e)]
  show (v.cells.drop 0).take l.ks.length=v.cells
  rw [List.drop_zero,← oz hk.1,List.take_length]
theorem Rd {l:r7} {cs:List KV} {v:KV} (h:cZ l v=true) (hk:au l.ks cs=true) (hlen:cs.length=v.cells.length):cZ l (EN l.agg cs)=true:=by
  by_cases ha:∃ ds,v = .agg ds
  · obtain ⟨ds,rfl⟩:=ha
    simp only [cZ,Bool.and_eq_true] at h
    rw [h.1]
    show (l.agg && au l.ks cs)=true
    rw [h.1,hk]; rfl
  · have h1:(!l.agg && au l.ks [v])=true:=by
      cases v <;> first | exact h | exact absurd ⟨_,rfl⟩ ha | simp [cZ] at h
    have hc:v.cells = [v]:=by cases v <;> first | rfl | exact absurd ⟨_,rfl⟩ ha
    simp only [Bool.and_eq_true,Bool.not_eq_true'] at h1
    rw [hc] at hlen
    match cs,hlen with
    | [c],_=>
      rw [h1.1]
      show cZ l c=true
      have Lf:one c=true:=by
        cases pt:l.ks with
        | nil=>rw [pt] at hk; simp [au] at hk
        | cons a ah7=>rw [pt] at hk; simp only [au,Bool.and_eq_true] at hk; cases a <;> cases c <;> first | rfl | simp [kindOk] at hk
      cases c <;> first | (simp [one] at Lf; done) | (simp only [cZ,h1.1,Bool.not_false,Bool.true_and]; exact hk)
mutual
theorem VK.aK:∀ (d:Nat) {v:KV} {u:Value},VK P E v u→VK P E (K.aK P d v) u
  | 0,_,_,h=>h
  | d+1,v,u,h=>by
    rw [Lg]
    split
    · rename_i t m n es acc
      obtain ⟨ht,a7,h1,a,cap,rfl,h2,h3,_⟩:=h.kY
      simp only [VK]
      have xP:∀ i,i < n→∃ e e',es[i]? = some e∧a7[i]? = some e'∧acc i=e∧cZ (bj P t) e=true∧VK P E e e':=by
        intro i hi
        have hl:i < es.length:=by rw [← ht.len]; exact hi
        have e1:=List.getElem?_eq_getElem hl
        obtain ⟨e',e2,e3⟩:=h1.get e1
        exact ⟨_,e',e1,e2,by rw [ht.acc i hi,List.getD_eq_getElem?_getD,e1]; rfl,jj ht.typed e1,e3⟩
      have hlen:a7.length=n:=by rw [h1.length,ht.len]
      refine ⟨⟨by simp,fun i hi=>?_,?_⟩,a7,?_,a,cap,rfl,h2,h3,trivial⟩
      · rw [List.getD_eq_getElem?_getD,List.getElem?_map,List.getElem?_range hi]; rfl
      · refine oA fun i e he=>?_
        rw [List.getElem?_map] at he
        by_cases hi:i < n
        · rw [List.getElem?_range hi] at he
          simp only [Option.map_some,Option.some.injEq] at he
          obtain ⟨x,x',_,_,q3,q4,_⟩:=xP i hi
          rw [← he,q3,cf]
          obtain ⟨r1,r2,_⟩:=DM q4
          rw [r1]
          exact Rd q4 (zJ d r2) (by simp)
        · rw [List.getElem?_eq_none (by simp; omega)] at he; simp at he
      · refine aP.Kr (by simp [hlen]) fun i e e' he zv=>?_
        rw [List.getElem?_map] at he
        by_cases hi:i < n
        · rw [List.getElem?_range hi] at he
          simp only [Option.map_some,Option.some.injEq] at he
          obtain ⟨x,x',_,q2,q3,q4,q5⟩:=xP i hi
          rw [zv] at q2
          simp only [Option.some.injEq] at q2
          subst q2
          rw [← he,q3]
          exact VK.cf d q4 q5
        · rw [List.getElem?_eq_none (by simp; omega)] at he; simp at he
    · exact h
theorem VK.cf (d:Nat) {t:TypeId} {v:KV} {u:Value} (hk:cZ (bj P t) v=true) (h:VK P E v u):VK P E (K.cf P (K.aK P d) t v) u:=by
  obtain ⟨r1,r2,r3⟩:=DM hk
  rw [K.cf,r1]
  by_cases ha:∃ cs,v = .agg cs
  · obtain ⟨cs,rfl⟩:=ha
    obtain ⟨l,rfl,h1⟩:=h.kT
    have tV:(bj P t).agg=true:=by simp only [cZ,Bool.and_eq_true] at hk; exact hk.1
    rw [tV]
    exact .ny (aP.XJ d h1)
  · have hc:v.cells = [v]:=by cases v <;> first | rfl | exact absurd ⟨_,rfl⟩ ha
    have tV:(bj P t).agg=false:=by
      cases v <;> first | (simp only [cZ,Bool.and_eq_true,Bool.not_eq_true'] at hk; exact hk.1) | exact absurd ⟨_,rfl⟩ ha | simp [cZ] at hk
    rw [tV,hc]
    exact VK.aK d h
theorem aP.XJ (d:Nat):∀ {cs:List KV} {l:List Value},aP P E cs l→aP P E (cs.map (K.aK P d)) l
  | [],l,h=>h
  | c :: cs,l,h=>by
    obtain ⟨y,ys,rfl,h1,h2⟩:=h.cons_inv
    exact .cons (VK.aK d h1) (aP.XJ d h2)
end
theorem XK {c:CK} {v:KV} (h:kindOk c v=true):one v=true:=by
  cases c <;> cases v <;> simp [kindOk] at h <;> rfl
theorem yR:∀ {ks:List CK} {cs:List KV},au ks cs=true→fS cs=true
  | [],[],_=>rfl
  | [],_ :: _,h=>by simp [au] at h
  | _ :: _,[],h=>by simp [au] at h
  | c :: ks,v :: cs,h=>by
    simp only [au,Bool.and_eq_true] at h
    simp [fS,XK h.1,yR h.2]
def bx:List Value→List Value
  | []=>[]
  | v :: vs=>v.cells.toList ++ bx vs
theorem hY {n:Nat} : ∀ {es:List Value},(∀ v ∈ es,v.cells.size=n)→(bx es).length=es.length * n
  | [],_=>by simp [bx]
  | v :: es,h=>by
    simp only [bx,List.length_append,List.length_cons]
    rw [hY fun u hu=>h u (by simp [hu])]
    have:=h v (by simp)
    simp only [Array.length_toList,this,Nat.succ_mul]
    omega
theorem mi {n:Nat} : ∀ {es:List Value},(∀ v ∈ es,v.cells.size=n)→mU n 0 (bx es) es
  | [],_,i,x,h=>by simp at h
  | v :: es,hs,i,x,h=>by
    have hv:=hs v (by simp)
    cases i with
    | zero=>
      simp at h
      subst h
      refine ⟨hv,fun k y hy=>?_⟩
      simp only [bx,Nat.zero_mul,Nat.zero_add]
      have aL:k < v.cells.size:=(Array.getElem?_eq_some_iff.1 hy).1
      rw [List.getElem?_append_left (by simpa using aL)]
      simpa using hy
    | succ i=>
      obtain ⟨h1,h2⟩:=mi (es:=es) (fun u hu=>hs u (by simp [hu])) i x (by simpa using h)
      refine ⟨h1,fun k y hy=>?_⟩
      have:=h2 k y hy
      simp only [bx]
      rw [List.getElem?_append_right (by simp [hv,Nat.succ_mul]; omega)]
      rw [← this]
      congr 1
      simp [hv,Nat.succ_mul]
      omega
theorem tr:∀ (a b:List Value),bx (a ++ b)=bx a ++ bx b
  | [],b=>rfl
  | v :: a,b=>by simp [bx,tr a b]
theorem xn:∀ {es:List Value},(∀ v ∈ es,∀ c ∈ v.cells.toList,scalar c=true)→∀ c ∈ bx es,scalar c=true
  | [],_,c,h=>by simp [bx] at h
  | v :: es,hs,c,h=>by
    simp only [bx,List.mem_append] at h
    rcases h with h | h
    · exact hs v (by simp) c h
    · exact xn (fun u hu=>hs u (by simp [hu])) c h
theorem NX {n:Nat} : ∀ {es:List Value} {i:Nat} {v:Value},(∀ u ∈ es,u.cells.size=n)→v.cells.size=n→i < es.length→eS (i * n) (bx es) v.cells.toList=some (bx (es.set i v))
  | [],i,v,_,_,h=>by simp at h
  | u :: es,0,v,hs,hv,_=>by
    simp only [Nat.zero_mul,bx,List.set_cons_zero]
    have key:∀ (a b r:List Value),a.length=b.length→eS 0 (a ++ r) b=some (b ++ r):=by
      intro a
      induction a with
      | nil=>intro b r h; cases b <;> simp_all [tS]
      | cons x a ih=>
        intro b r h
        cases b with
        | nil=>simp at h
        | cons y b=>rw [List.cons_append,rv,ih b r (by simpa using h)]; rfl
    exact key _ _ _ (by simp [hs u (by simp),hv])
  | u :: es,i+1,v,hs,hv,h=>by
    have ih:=NX (es:=es) (i:=i) (fun w hw=>hs w (by simp [hw])) hv (by simpa using h)
    simp only [bx,List.set_cons_succ]
    have key:∀ (a r vs q:List Value) (m:Nat),eS m r vs=some q→eS (a.length+m) (a ++ r) vs=some (a ++ q):=by
      intro a
      induction a with
      | nil=>intro r vs q m h; simpa using h
      | cons x a ih=>
        intro r vs q m h
        rw [List.length_cons,show a.length+1+m=(a.length+m)+1 by omega,List.cons_append,nw,ih r vs q m h]
        rfl
    have:=key u.cells.toList _ _ _ _ ih
    rw [show u.cells.toList.length+i * n=(i+1) * n by simp [hs u (by simp),Nat.succ_mul]; omega] at this
    exact this
def ud (es:List Value):List (Nat×Value)→List Value
  | []=>es
  | (i,v) :: rest=>ud (es.set i v) rest
theorem Im:∀ (ps:List (Nat×Value)) (es:List Value),(ud es ps).length=es.length
  | [],_=>rfl
  | p :: ps,es=>by simp [ud,Im ps]
theorem Re {n:Nat} (hn:1≤n):∀ {ps:List (Nat×Value)} {es:List Value},(∀ u ∈ es,u.cells.size=n)→(∀ p ∈ ps,p.2.cells.size=n∧p.1 < es.length)→
    u3 (uz n) (bx es) ps=some (bx (ud es ps))∧∀ u ∈ ud es ps,u.cells.size=n
  | [],es,hs,_=>⟨rfl,hs⟩
  | (i,v) :: ps,es,hs,hp=>by
    obtain ⟨h1,h2⟩:=hp (i,v) (by simp)
    have h3:=NX hs h1 h2
    have Qs:∀ u ∈ es.set i v,u.cells.size=n:=by
      intro u hu
      rcases List.mem_or_eq_of_mem_set hu with h | h
      · exact hs u h
      · subst h; exact h1
    obtain ⟨h4,h5⟩:=Re hn (ps:=ps) Qs (fun p hq=>by have:=hp p (by simp [hq]); simpa using this)
    refine ⟨?_,h5⟩
    simp only [u3,uz]
    have e1:Nat.beq v.cells.size n=true:=by rw [h1]; simp
    have e2:Nat.ble 1 n=true:=Nat.ble_eq_true_of_le hn
    rw [e1,e2]
    simp only [Bool.and_self,cond_true,h3,Option.bind_some]
    exact h4
theorem JG {v:KV} {u:Value} (h:VK P E v u):∀ {es:List KV} {a7:List Value} (i:Nat),aP P E es a7→aP P E (setAt es i v) (a7.set i u)
  | [],a7,i,q=>by rw [q.bJ]; cases i <;> exact .nil
  | x :: es,a7,0,q=>by
    obtain ⟨y,ys,rfl,h1,h2⟩:=q.cons_inv
    exact .cons h h2
  | x :: es,a7,i+1,q=>by
    obtain ⟨y,ys,rfl,h1,h2⟩:=q.cons_inv
    exact .cons h1 (JG h i h2)
theorem Rf {l:r7} : ∀ {is:List Nat} {vs:List KV} {us:List Value} {es:List KV} {a7:List Value},aP P E vs us→aP P E es a7→aP P E (DB es ((vo is vs).map fun p=>(p.1,hH l p.2))) (ud a7 (zipIdx is us))
  | [],vs,us,es,a7,_,h=>by simpa [vo,zipIdx,DB,ud] using h
  | i :: is,[],us,es,a7,hv,h=>by rw [hv.bJ]; simpa [vo,zipIdx,DB,ud] using h
  | i :: is,v :: vs,us,es,a7,hv,h=>by
    obtain ⟨y,ys,rfl,h1,h2⟩:=hv.cons_inv
    simp only [vo,zipIdx,List.map_cons,DB,ud]
    exact Rf h2 (JG h1.hH i h)
theorem xo:∀ (es:List KV) (i:Nat) (v:KV),(setAt es i v).length=es.length
  | [],0,_=>rfl
  | [],_+1,_=>rfl
  | _ :: _,0,_=>rfl
  | e :: es,i+1,v=>by simp [setAt,xo es i v]
theorem Ip:∀ (ps:List (Nat×KV)) (es:List KV),(DB es ps).length=es.length
  | [],_=>rfl
  | p :: ps,es=>by simp [DB,Ip ps,xo]
theorem aaV {n:Nat} : ∀ {is:List Nat} (us:List Value),zf n is=true→∀ p ∈ zipIdx is us,p.1 < n∧p.2 ∈ us
  | [],us,_,p,h=>by simp [zipIdx] at h
  | i :: is,[],_,p,h=>by simp [zipIdx] at h
  | i :: is,u :: us,h,p,hp=>by
    simp only [zf,Bool.and_eq_true,Nat.blt_eq] at h
    simp only [zipIdx,List.mem_cons] at hp
    rcases hp with rfl | hp
    · exact ⟨h.1,by simp⟩
    · obtain ⟨h1,h2⟩:=aaV us h.2 p hp
      exact ⟨h1,by simp [h2]⟩
theorem DN (z:Value):∀ n,ff z.cells.toList n=bx (List.replicate n z)
  | 0=>rfl
  | n+1=>by simp [ff,List.replicate_succ,bx,DN z n]
theorem Lh {z:KV} {u:Value} (h:VK P E z u):∀ n,aP P E (dv [z] n) (List.replicate n u)
  | 0=>.nil
  | n+1=>by simpa [dv,List.replicate_succ] using aP.cons h (Lh h n)
theorem m9 {l:r7} : ∀ {es:List KV} {a7:List Value},eo l es=true→aP P E es a7→∀ u ∈ a7,u.cells.size=l.ks.length∧∀ c ∈ u.cells.toList,scalar c=true
  | [],a7,_,h,u,hu=>by rw [h.bJ] at hu; simp at hu
  | e :: es,a7,xP,h,u,hu=>by
    obtain ⟨y,ys,rfl,h1,h2⟩:=h.cons_inv
    simp only [eo,Bool.and_eq_true] at xP
    rcases List.mem_cons.1 hu with rfl | hu
    · obtain ⟨k1,k2⟩:=gu xP.1
      have hc:=h1.cells k2
      refine ⟨?_,hc.scalar (yR k1)⟩
      have:=hc.length
      have:=oe k1
      simp at *
      omega
    · exact m9 xP.2 h2 u hu
theorem TZ {l:r7} : ∀ {vs:List KV} {us:List Value},aP P E vs us→aP P E (vs.map (hH l)) us
  | [],_,h=>h
  | v :: vs,us,h=>by
    obtain ⟨y,ys,rfl,h1,h2⟩:=h.cons_inv
    exact .cons h1.hH (TZ h2)
theorem S8 {e:TypeId} {n len:Nat} {z:Value} {is:List Nat} (hn:(bj P e).ks.length=n) (h1n:1≤n) (hz:z.cells.size=n) (hb:zf len is=true) :
    afU P (FK (bj P e) e (hH (bj P e) (gH z)) len is) (rW n z len is):=by
  intro E A B vs us v h hv hg
  unfold FK at hg
  obtain ⟨hc,hg⟩:=aG.cond hg
  simp only [Bool.and_eq_true] at hc
  obtain ⟨⟨hk,hvs⟩,xP⟩:=hc
  have hg:KV.ts e .exact len _ _=v:=hg
  subst hg
  have Rg:VK P E (hH (bj P e) (gH z)) z:=(VK.gH z).hH
  have uF:=Rf (l:=bj P e) (is:=is) hv (Lh Rg len)
  have hlen:(DB (dv [hH (bj P e) (gH z)] len) ((vo is vs).map fun p=>(p.1,hH (bj P e) p.2))).length=len:=by
    rw [Ip,yl]; simp
  have afh:∀ p ∈ zipIdx is us,p.2.cells.size=n∧p.1 < (List.replicate len z).length:=by
    intro p hp
    obtain ⟨h5,h6⟩:=aaV us hb p hp
    have hm:aP P E (vs.map (hH (bj P e))) us:=TZ hv
    exact ⟨by rw [← hn]; exact (m9 hvs hm p.2 h6).1,by simpa using h5⟩
  obtain ⟨h3,h4⟩:=Re h1n (ps:=zipIdx is us) (es:=List.replicate len z) (fun u hu=>by rw [(List.mem_replicate.1 hu).2]; exact hz) afh
  have r5:=m9 xP uF
  have im:(bx (ud (List.replicate len z) (zipIdx is us))).all scalar=true:=List.all_eq_true.2 (xn fun u hu=>(r5 u hu).2)
  refine ⟨.row (bx (ud (List.replicate len z) (zipIdx is us))) n true none,fun b=>.slice (some ⟨b,0,none⟩) len len,E.fp B.next ⟨_,n,true,none⟩,?_,?_,dm.afV h⟩
  · unfold rW
    rw [DN,h3]
    simp only [Option.bind_some]
    rw [im,DK hv hk]
    rfl
  · have agy:=uF.mono (dm.afV (bI:=bx (ud (List.replicate len z) (zipIdx is us))) (bm:=n) h).le
    have kK:(ud (List.replicate len z) (zipIdx is us)).length=len:=by rw [Im]; simp
    simp only [VK]
    refine ⟨⟨hlen.symm,fun i _=>rfl,xP⟩,_,agy,some ⟨B.next,0,none⟩,len,rfl,Nat.le_refl _,.inr ⟨B.next,0,⟨bx (ud (List.replicate len z) (zipIdx is us)),n,true,none⟩,rfl,by simp [Env.fp],hn.symm,?_⟩,rfl,fun b off hb=>?_⟩
    · have:=mi h4
      unfold aQ
      rw [hn]
      exact this
    · simp at hb
      obtain ⟨rfl,rfl⟩:=hb
      refine ⟨⟨bx (ud (List.replicate len z) (zipIdx is us)),n,true,none⟩,by simp [Env.fp],rfl,rfl,?_⟩
      simp only [aQ,hn]
      rw [hY h4,kK]
      omega
theorem Vt {n len:Nat} {z:Value} {is:List Nat} (ho:fS (gH z).cells=true):TY P (Jw n (gH z).cells len is) (rW n z len is):=by
  intro E A A' B vs us v h hv hg
  unfold Jw at hg
  split at hg
  · rename_i cs hf
    obtain ⟨hk,hg⟩:=aG.cond hg
    simp only [Bool.and_eq_true] at hk
    have hg:(KV.sl A.next 0 len len,A.new (.row cs n))=(v,A'):=hg
    simp only [Prod.mk.injEq] at hg
    obtain ⟨rfl,rfl⟩:=hg
    obtain ⟨h2,h3⟩:=QX is hv
    obtain ⟨r',e,hr⟩:=QW h2 h3 (fun p hp=>by have:=QY is vs p hp; exact List.all_eq_true.1 hk.1 _ this) (F1 (wN (P:=P) (E:=E) ho) len) hf
    refine ⟨.row r' n true none,fun b=>.slice (some ⟨b,0,none⟩) len len,E.kq A.next B.next,?_,.aaS (by simp [Env.kq]),dm.newRow h hr⟩
    unfold rW
    rw [e]
    simp only [Option.bind_some]
    rw [DK hv hk.1,List.all_eq_true.2 (hr.scalar hk.2)]
    rfl
  · exact hg.elim
theorem Cu {m cap:Nat} {lo hi:Bool} {r:List KV} {r' : List Value} {x y:Int} (h:K5 m lo hi r=some (x,y)) (hr:aP P E r r') (h0:0≤x) (h1:x≤y) (h2:y≤(m:Int)) (hc:m≤cap) :
    pR m cap lo hi false r' = some (x.toNat,y.toNat,cap):=by
  obtain ⟨x',rfl⟩:=Int.eq_ofNat_of_zero_le h0
  obtain ⟨y',rfl⟩:=Int.eq_ofNat_of_zero_le (Int.le_trans h0 h1)
  have hb:∀ (k:IntKind) (i n:Nat),i≤n→OD n (.int k (i:Int))=some i:=by
    intro k i n h
    show jd (.ofNat i) (Nat.succ n)=some i
    exact m8 (by omega)
  match r,h with
  | [],h=>
    rw [hr.bJ]
    cases lo <;> cases hi <;> simp [K5] at h
    obtain ⟨h3,h4⟩:=h
    simp [pR]
    omega
  | [.int k a],h=>
    obtain ⟨u,rfl,h3⟩:=hr.dH
    have:=h3.cS; subst this
    cases lo <;> cases hi <;> simp [K5] at h
    · obtain ⟨h4,rfl⟩:=h
      simp only [pR]
      rw [hb k y' cap (by omega)]
      simp
      omega
    · obtain ⟨rfl,h4⟩:=h
      simp only [pR]
      rw [hb k x' m (by omega)]
      simp
      omega
  | [.int k a,.int k' c],h=>
    obtain ⟨u,v,rfl,h3,h4⟩:=hr.kp
    have:=h3.cS; subst this
    have:=h4.cS; subst this
    cases lo <;> cases hi <;> simp [K5] at h
    obtain ⟨rfl,rfl⟩:=h
    simp only [pR]
    rw [hb k' y' cap (by omega)]
    simp only [Option.bind_some]
    rw [hb k x' y' (by omega)]
    simp
theorem Iq {l:r7} : ∀ {es:List KV} (n:Nat),eo l es=true→eo l (es.drop n)=true
  | es,0,h=>by simpa using h
  | [],n+1,_=>rfl
  | e :: es,n+1,h=>by
    simp only [eo,Bool.and_eq_true] at h
    simpa using Iq n h.2
theorem Ir {l:r7} : ∀ {es:List KV} (n:Nat),eo l es=true→eo l (es.take n)=true
  | es,0,h=>rfl
  | [],n+1,_=>rfl
  | e :: es,n+1,h=>by
    simp only [eo,Bool.and_eq_true] at h
    simp [eo,h.1,Ir n h.2]
theorem Ew {l:r7} : ∀ {es fs:List KV},eo l es=true→eo l fs=true→eo l (es ++ fs)=true
  | [],fs,_,h=>h
  | e :: es,fs,h,k=>by
    simp only [eo,Bool.and_eq_true] at h
    simp [eo,h.1,Ew h.2 k]
theorem mU.part {sz off x k:Nat} {cs es:List Value} (h:mU sz off cs es):mU sz (off+x * sz) cs ((es.drop x).take k):=by
  intro i v hv
  rw [List.getElem?_take] at hv
  split at hv
  · rw [List.getElem?_drop] at hv
    obtain ⟨h1,h2⟩:=h (x+i) v hv
    refine ⟨h1,fun j y hj=>?_⟩
    rw [← h2 j y hj]
    congr 1
    rw [Nat.add_mul]
    omega
  · simp at hv
theorem M1 {es:List KV} {i:Nat} (h:i < es.length):es[i]? = some (es.getD i .aq):=by simp [List.getD,h]
theorem XL {n:Nat} {lo hi:Bool} (_:1≤n):XG P (MQ P n lo hi) (uA n lo hi false):=by
  intro E A B vs us v h hv hg
  unfold MQ at hg
  split at hg
  · rename_i T mk m es acc r
    split at hg
    · rename_i x y hb
      obtain ⟨du,hg⟩:=hg.cond
      have du:=Nat.eq_of_beq_eq_true du
      obtain ⟨hc,rfl⟩:=aG.kU hg
      simp only [Bool.and_eq_true,decide_eq_true_eq] at hc
      obtain ⟨⟨h0,h1⟩,h2⟩:=hc
      obtain ⟨u,r',rfl,h3,h4⟩:=hv.cons_inv
      obtain ⟨ht,a7,h5,a,cap,rfl,h6,h7,_⟩:=h3.kY
      have HP:=Cu hb h4 h0 h1 h2 h6
      have hlen:=ht.len
      have hle:((es.drop x.toNat).take (y.toNat - x.toNat)).length=y.toNat - x.toNat:=by simp; omega
      have hT:gM P T (y.toNat - x.toNat) ((es.drop x.toNat).take (y.toNat - x.toNat)) (fun i=>acc (x.toNat+i)):=by
        refine ⟨hle.symm,fun i hi=>?_,Ir _ (Iq _ ht.typed)⟩
        rw [ht.acc _ (by omega)]
        simp only [List.getD]
        rw [List.getElem?_take,if_pos hi,List.getElem?_drop]
      rcases h7 with ⟨rfl,hm⟩ | ⟨b,off,rr,rfl,h8,h9,vi⟩
      · refine ⟨.slice none (y.toNat - x.toNat) (cap - x.toNat),by simp [uA,HP],?_⟩
        simp only [VK]
        exact ⟨hT,_,(h5.drop _).take _,none,_,rfl,by omega,.inl ⟨rfl,by omega⟩,trivial⟩
      · have iq:=h.z b rr h8
        have KA:rr.bm=n:=by rw [h9]; exact du
        refine ⟨.slice (some ⟨b,off+x.toNat * n,none⟩) (y.toNat - x.toNat) (cap - x.toNat),?_,?_⟩
        · simp [uA,HP,ck,xe,iq,KA]
        · simp only [VK]
          refine ⟨hT,_,(h5.drop _).take _,_,_,rfl,by omega,.inr ⟨b,off+x.toNat * n,rr,rfl,h8,h9,?_⟩,trivial⟩
          have:aQ P T=n:=du
          rw [this] at vi ⊢
          exact vi.part
    · exact hg.elim
  · rename_i b o len cap r
    split at hg
    · rename_i cs bm iq
      split at hg
      · rename_i x y hb
        obtain ⟨du,hg⟩:=hg.cond
        have du:=Nat.eq_of_beq_eq_true du
        obtain ⟨hc,rfl⟩:=aG.kU hg
        simp only [Bool.and_eq_true,decide_eq_true_eq] at hc
        obtain ⟨⟨⟨h0,h1⟩,h2⟩,h6⟩:=hc
        obtain ⟨u,r',rfl,h3,h4⟩:=hv.cons_inv
        obtain ⟨z,hz,rfl⟩:=h3.Ho
        have HP:=Cu hb h4 h0 h1 h2 h6
        obtain ⟨z',bI,e1,e2,_⟩:=h.row b cs bm iq
        rw [hz] at e1
        simp at e1
        subst e1
        refine ⟨.slice (some ⟨z,o+x.toNat * n,none⟩) (y.toNat - x.toNat) (cap - x.toNat),?_,.aaS hz⟩
        simp [uA,HP,ck,xe,e2,du]
      · exact hg.elim
    · exact hg.elim
  · rename_i T b o m r
    split at hg
    · rename_i T' mk N es acc hA
      split at hg
      · rename_i x y hb
        obtain ⟨du,hg⟩:=hg.cond
        obtain ⟨hc,rfl⟩:=aG.kU hg
        simp only [Bool.and_eq_true] at du
        have hT:=Nat.eq_of_beq_eq_true du.2
        have afX:aQ P T=n:=Nat.eq_of_beq_eq_true du.1
        subst hT
        simp only [Bool.and_eq_true,decide_eq_true_eq] at hc
        obtain ⟨⟨h0,h1⟩,h2⟩:=hc
        obtain ⟨u,r',rfl,h3,h4⟩:=hv.cons_inv
        rcases h3.sf with ⟨rfl,rfl,rfl⟩ | ⟨z,L,N',c,e1,rfl,e2,e3,e4⟩
        · have HP:=Cu hb h4 h0 h1 h2 (Nat.le_refl _)
          have hx0:x.toNat=0:=by omega
          have hy0:y.toNat=0:=by omega
          refine ⟨.slice none (y.toNat - x.toNat) (0 - x.toNat),by simp [uA,HP],.Ik (.inl ⟨by omega,by omega,by rw [hx0,hy0]⟩)⟩
        · have HP:=Cu hb h4 h0 h1 h2 e2
          obtain ⟨T2,N2,nB,kZ,Jn,_,_,cs,e,own,bo,a7,_,h5,_,_,_,h7⟩:=h.Bp hA e1
          simp only [KV.ts.injEq] at Jn
          obtain ⟨rfl,_⟩:=Jn
          refine ⟨.slice (some ⟨z,o * aQ P T+x.toNat * n,none⟩) (y.toNat - x.toNat) (c - x.toNat),?_,.Ik (.inr ⟨z,L,N',c - x.toNat,e1,?_,by omega,by omega,?_⟩)⟩
          · simp [uA,HP,ck,xe,h5,h7,afX]
          · simp only [Value.slice.injEq,Option.some.injEq,Addr.mk.injEq,and_true,true_and]
            rw [afX,Nat.add_mul]
          · rw [← e4]
            congr 1
            omega
      · exact hg.elim
    · exact hg.elim
  · exact hg.elim
theorem Vu {len n:Nat} {lo hi:Bool} : XG P (Jz len n lo hi) (C8 len n lo hi false):=by
  intro E A B vs us v h hv hg
  unfold Jz at hg
  split at hg
  · rename_i b o r
    split at hg
    · rename_i cs bm iq
      split at hg
      · rename_i x y hb
        obtain ⟨du,hg⟩:=hg.cond
        simp only [Bool.and_eq_true] at du
        have qX:=Nat.eq_of_beq_eq_true du.1
        have hsz2:=Nat.le_of_ble_eq_true du.2
        obtain ⟨hc,rfl⟩:=aG.kU hg
        simp only [Bool.and_eq_true,decide_eq_true_eq] at hc
        obtain ⟨⟨h0,h1⟩,h2⟩:=hc
        obtain ⟨u,r',rfl,h3,h4⟩:=hv.cons_inv
        obtain ⟨z,hz,rfl⟩:=h3.gG
        have HP:=Cu hb h4 h0 h1 h2 (Nat.le_refl _)
        obtain ⟨z',bI,e1,e2,e3⟩:=h.row b cs bm iq
        rw [hz] at e1
        simp at e1
        subst e1
        have hlen:=e3.length
        refine ⟨.slice (some ⟨z,o+x.toNat * n,none⟩) (y.toNat - x.toNat) (len - x.toNat),?_,.aaS hz⟩
        have rC:Nat.ble (o+len * n) bI.length=true:=Nat.ble_eq_true_of_le (by omega)
        simp [C8,HP,ck,xe,Kj,e2,qX,rC]
        try omega
      · exact hg.elim
    · exact hg.elim
  · exact hg.elim
theorem Vv {lo hi:Bool} : rL P (JA lo hi) (zo lo hi):=by
  intro E vs us v hv hg
  unfold JA at hg
  split at hg
  · rename_i s r
    split at hg
    · rename_i x y hb
      obtain ⟨hc,rfl⟩:=aG.kU hg
      simp only [Bool.and_eq_true,decide_eq_true_eq] at hc
      obtain ⟨⟨h0,h1⟩,h2⟩:=hc
      obtain ⟨u,r',rfl,h3,h4⟩:=hv.cons_inv
      have:=h3.pz; subst this
      have HP:=Cu hb h4 h0 h1 h2 (Nat.le_refl _)
      exact ⟨_,by simp [zo,HP],.mkStr⟩
    · exact hg.elim
  · exact hg.elim
theorem Vw:XG P (fun _=>DC) zq:=by
  intro E A B vs us v h hv hg
  have hg:aG (DC vs) v:=hg
  unfold DC at hg
  split at hg
  · obtain ⟨u,rfl,h1⟩:=hv.dH
    have:=h1.mJ; subst this
    have hg:KV.str ⟨⟨[]⟩⟩=v:=hg
    subst hg
    exact ⟨_,rfl,.mkStr⟩
  · rename_i T mk m es acc _
    obtain ⟨u,rfl,h1⟩:=hv.dH
    obtain ⟨hc,rfl⟩:=aG.kU hg
    obtain ⟨ht,a7,h5,a,cap,rfl,h6,h7,_⟩:=h1.kY
    have hlen:=ht.len
    rcases h7 with ⟨rfl,hm⟩ | ⟨b,off,rr,rfl,h8,h9,vi⟩
    · have:es = []:=List.length_eq_zero_iff.1 (by omega)
      subst this
      exact ⟨_,rfl,.mkStr⟩
    · have iq:=h.z b rr h8
      have qV:∀ (i:Nat) (w:Value),a7[i]? = some w→∃ e,es[i]? = some e∧w = .int .u8 (byteOf e).toNat∧w.cells.size=1:=by
        intro i w hw
        have hi:i < es.length:=by rw [← h5.length]; exact (List.getElem?_eq_some_iff.1 hw).1
        obtain ⟨w',e1,e2⟩:=h5.get (M1 hi)
        rw [hw] at e1
        simp at e1
        subst e1
        have ov:=List.all_eq_true.1 hc _ (List.mem_of_getElem? (M1 hi))
        refine ⟨_,M1 hi,?_⟩
        revert e2 ov
        generalize es.getD i .aq=e
        intro e2 ov
        cases e <;> simp [aaL] at ov
        rename_i k q
        cases k <;> simp at ov
        have:=e2.cS; subst this
        refine ⟨?_,rfl⟩
        simp only [byteOf,Value.int.injEq,true_and]
        obtain ⟨p,rfl⟩:=Int.eq_ofNat_of_zero_le ov.1
        have hp:p < 256:=by omega
        simp [UInt8.toNat_ofNat',Nat.mod_eq_of_lt hp]
      have ahx:a7=es.map fun e=>.int .u8 (byteOf e).toNat:=by
        apply List.ext_getElem?
        intro i
        cases hw:a7[i]? with
        | none=>
          have:es.length≤i:=by rw [← h5.length]; exact List.getElem?_eq_none_iff.1 hw
          simp [this]
        | some w=>
          obtain ⟨e,e1,e2,_⟩:=qV i w hw
          simp [e1,e2]
      have qX:∀ i w,a7[i]? = some w→aQ P T=1:=fun i w hw=>by
        obtain ⟨_,_,_,Vx⟩:=qV i w hw
        rw [← (vi i w hw).1]; exact Vx
      have yj:B.rz ⟨b,off,none⟩ m=some a7:=by
        simp only [St.rz,ck,Option.isNone_none,cond_true,rT,iq,Option.bind_some]
        have ka:a7.length=m:=by rw [h5.length]; exact hlen.symm
        have lJ:∀ i,i < m→rr.cs[off+i]? = a7[i]?:=by
          intro i hi
          have PE:i < a7.length:=by omega
          have hw:a7[i]? = some a7[i]:=List.getElem?_eq_getElem PE
          have h1':=qX i _ hw
          obtain ⟨h12,h13⟩:=vi i _ hw
          obtain ⟨e,e1,e2,_⟩:=qV i _ hw
          have:=h13 0 a7[i] (by rw [e2]; rfl)
          rw [h1'] at this
          rw [hw,← this]
          congr 1
          omega
        have hle:m≤(rr.cs.drop off).length:=by
          cases hm0:m with
          | zero=>omega
          | succ q=>
            have:=lJ q (by omega)
            have hq:q < a7.length:=by omega
            rw [List.getElem?_eq_getElem hq] at this
            have:=(List.getElem?_eq_some_iff.1 this).1
            simp
            omega
        rw [pn,Ct hle]
        congr 1
        apply List.ext_getElem?
        intro i
        rw [List.getElem?_take]
        split
        · rename_i hi
          rw [List.getElem?_drop]
          exact lJ i hi
        · rename_i hi
          exact (List.getElem?_eq_none_iff.2 (by omega)).symm
      have U2:∀ (l:List KV),Ap (l.map fun e=>.int .u8 (byteOf e).toNat)=some (l.map byteOf):=by
        intro l
        induction l with
        | nil=>rfl
        | cons e l ih=>
          have hb:=(byteOf e).toNat_lt
          show cond (Nat.blt (byteOf e).toNat 256) ((Ap (l.map fun e=>.int .u8 (byteOf e).toNat)).map (UInt8.ofNat (byteOf e).toNat :: ·)) none=_
          have:Nat.blt (byteOf e).toNat 256=true:=by rw [Nat.blt_eq]; omega
          rw [this,cond_true,ih]
          simp
      refine ⟨.string ⟨⟨es.map byteOf⟩⟩,?_,.mkStr⟩
      simp only [zq,yj,Option.bind_some]
      rw [ahx,U2]
      rfl
  · exact hg.elim
theorem Rh {b lo hi:Nat} : ∀ {L:List Nat} {B:St},(∀ x ∈ L,oV (B.get x) lo hi=false)→B.kill b lo hi L=B
  | [],B,_=>rfl
  | x :: L,B,h=>by
    simp only [St.kill]
    rw [h x (by simp),Bool.and_false,cond_false]
    exact Rh fun y hy=>h y (by simp [hy])
theorem dm.aaW {A:aj} {B:St} (sz:Nat) (h:ek P E A B):dm P E A B E (A.new (.aW 0 sz)) B:=by
  have hn:E.φ A.next=none:=by
    cases Bs:E.φ A.next with
    | none=>rfl
    | some g=>have:=h.lM _ g Bs; omega
  have hA:∀ (b:Nat) (v:KV),(A.new (.aW 0 sz)).get b=some (.arr v)→A.get b=some (.arr v):=fun b v hb=>by
    rw [aj.cK] at hb
    split at hb
    · simp at hb
    · exact hb
  have Ra:∀ (b:Nat) (v:KV),(A.new (.aW 0 sz)).get b=some (.iD v)→A.get b=some (.iD v):=fun b v hb=>by
    rw [aj.cK] at hb
    split at hb
    · simp at hb
    · exact hb
  refine ⟨⟨?_,?_,h.z,h.apart,h.inj,h.iH.new (.inr hn),fun b x e=>?_,fun b g e=>?_,?_,h.fB,h.lX,h.ji,h.fresh,h.mem,h.ar.gY (Env.le_refl _) (fun _=>rfl) hA Ra (by simp) (Nat.le_refl _) (fun _ _=>rfl) (fun _ _ e=>.inl e) (fun _ _ e=>.inl e) (fun b g e=>.inl ⟨b,e⟩) (fun _ _=>rfl) h.mem⟩,Env.le_refl _,by simp,fun _ _ _ _=>rfl,fun _ _ e=>.inl e,fun _ _ e=>.inl e,fun _ _ e=>.inl e,fun _ _ _ _=>rfl,fun _ q=>.inl (q.of (fun _=>rfl) hA),fun _ q=>.inl (q.of (fun _=>rfl) hA fun _ _=>rfl),fun _ _ q=>.inl q,fun _ q=>.inl (q.of (fun _=>rfl) hA (fun _ _=>rfl) fun _ _=>rfl),lO fun _ _=>rfl⟩
  · intro b cs bm hb
    rw [aj.cK] at hb
    split at hb
    · simp at hb
    · exact h.row b cs bm hb
  · intro b top zI hb
    rw [aj.cK] at hb
    split at hb
    · rename_i e
      simp at hb
      refine .inl ⟨hb.1.symm,?_⟩
      cases Bs:E.φ b with
      | none=>rfl
      | some g=>have:=h.lM b g Bs; omega
    · exact h.aW b top zI hb
  · have:=h.gk b x e; rw [aj.bV]; omega
  · have:=h.lM b g e; rw [aj.bV]; omega
  · intro b o hb
    rw [aj.cK] at hb
    rw [aj.bV]
    split at hb
    · omega
    · have:=h.live b o hb; omega
theorem dm.grow {A:aj} {B:St} {f g top Iu sz:Nat} {c:List Value} (h:ek P E A B) (hA:A.get f=some (.aW top sz)) (hf:(E.φ f=none∧g=B.next)∨E.φ f=some g) (hc:c.length=Iu * sz) (ht:top≤Iu) (B8:0 < Iu) :
    dm P E A B ((E.fp B.next ⟨c,sz,true,some (g,0)⟩).pB f g) (A.put f (.aW Iu sz)) (B.grow g 0 c sz):=by
  have gp:∀ x,(B.grow g 0 c sz).get x=if x=B.next then some (.row c sz true (some (g,0))) else B.get x:=fun x=>by simp [St.grow]
  have kS:∀ q,(B.grow g 0 c sz).members q=if q=g then B.next :: B.members g else B.members q:=fun q=>by simp [St.grow,St.xh]
  have fO:(B.grow g 0 c sz).next=B.next+1:=rfl
  have hlef:=h.live f _ hA
  have hle:E.le ((E.fp B.next ⟨c,sz,true,some (g,0)⟩).pB f g):=by
    refine ⟨fun _ _ e=>e,fun _ _ e=>e,fun b r e=>?_,fun b q e=>?_⟩
    · have:=h.lX b r e
      simp only [Env.pB,Env.fp]; rw [if_neg (by omega)]; exact e
    · simp only [Env.pB,Env.fp]
      split
      · rename_i e2
        subst e2
        rcases hf with ⟨h1,_⟩ | h1
        · rw [h1] at e; simp at e
        · rw [h1] at e; exact e
      · exact e
  have hg:g≤B.next:=by
    rcases hf with ⟨_,h1⟩ | h1
    · omega
    · have:=h.ji f g h1; omega
  generalize hB' : B.grow g 0 c sz=B' at gp kS fO
  have Vy:∀ (b:Nat) (v:KV),(A.put f (.aW Iu sz)).get b=some (.arr v)→A.get b=some (.arr v):=fun b v hb=>by
    rw [aj.bO] at hb
    split at hb
    · simp at hb
    · exact hb
  have Ra:∀ (b:Nat) (v:KV),(A.put f (.aW Iu sz)).get b=some (.iD v)→A.get b=some (.iD v):=fun b v hb=>by
    rw [aj.bO] at hb
    split at hb
    · simp at hb
    · exact hb
  have uc:∀ x,x < B.next→B'.get x=B.get x:=fun x hx=>by rw [gp,if_neg (by omega)]
  have FZ:∀ b r,((E.fp B.next ⟨c,sz,true,some (g,0)⟩).pB f g).z b=some r→E.z b=some r∨B.next≤b:=fun b r e=>by
    simp only [Env.pB,Env.fp] at e
    split at e
    · exact .inr (by omega)
    · exact .inl e
  have afY:∀ b q,((E.fp B.next ⟨c,sz,true,some (g,0)⟩).pB f g).φ b=some q→E.φ b=some q∨B.next≤q:=fun b q e=>by
    simp only [Env.pB,Env.fp] at e
    split at e
    · rename_i e2
      simp at e
      subst e e2
      rcases hf with ⟨_,h1⟩ | h1
      · exact .inr (by omega)
      · exact .inl h1
    · exact .inl e
  have OO:∀ q,AF A E B q→B'.members q=B.members q:=fun q hq=>by
    rw [kS,if_neg]
    intro e2
    subst e2
    obtain ⟨b,v,x,L,N,cs,e,own,k,h1,h2,h3⟩:=hq
    obtain ⟨h4,h5,_⟩:=h.ar.pT b v x L N cs e own q k h1 h2 h3
    rcases hf with ⟨_,h1⟩ | h1
    · omega
    · exact h5 f h1
  have ZM:∀ q y,y ∈ B'.members q→y ∈ B.members q∨B.next≤y:=fun q y hy=>by
    rw [kS] at hy
    split at hy
    · rename_i e2
      subst e2
      rcases List.mem_cons.1 hy with hy | hy
      · exact .inr (by omega)
      · exact .inl hy
    · exact .inl hy
  refine ⟨⟨?_,?_,?_,?_,?_,?_,?_,?_,?_,?_,?_,?_,?_,?_,h.ar.gY hle (fun _=>rfl) Vy Ra (Nat.le_refl _) (by omega) (fun x q=>uc x (h.AK q)) FZ (fun _ _ e=>.inl e) (fun b q e=>(afY b q e).imp (fun e=>⟨b,e⟩) id) OO h.mem⟩,hle,Nat.le_refl _,?_,fun b x e=>.inl e,fun b r e=>(FZ b r e).imp id .inr,afY,fun q hq hn _=>by
    rw [kS,if_neg]
    intro e2
    subst e2
    rcases hf with ⟨_,h1⟩ | h1
    · omega
    · exact hn f h1,fun _ q=>.inl (q.of (fun _=>rfl) Vy),fun _ q=>.inl (q.of (fun _=>rfl) Vy fun x q=>uc x (h.AK q)),ZM,fun _ q=>.inl (q.of (fun _=>rfl) Vy (fun x q=>uc x (h.AK q)) OO),lO uc⟩
  · intro b cs bm hb
    rw [aj.bO] at hb
    split at hb
    · simp at hb
    · obtain ⟨x,c2,h1,h2,h3⟩:=h.row b cs bm hb
      have:=h.fB b x h1
      exact ⟨x,c2,h1,by rw [gp,if_neg (by omega)]; exact h2,h3.mono hle⟩
  · intro b t zI hb
    rw [aj.bO] at hb
    split at hb
    · rename_i e
      simp at hb
      obtain ⟨rfl,rfl⟩:=hb
      subst e
      refine .inr ⟨g,by simp [Env.pB],B8,fun x hx cs e own q k hr=>?_⟩
      rw [gp] at hr
      rw [kS,if_pos rfl] at hx
      split at hr
      · simp at hr
        obtain ⟨rfl,rfl,_,_,rfl⟩:=hr
        exact ⟨rfl,Nat.le_of_eq hc⟩
      · rename_i bR
        rcases List.mem_cons.1 hx with hx | hx
        · exact absurd hx bR
        · rcases hf with ⟨_,h1⟩ | h1
          · rw [h1,h.fresh _ (Nat.le_refl _)] at hx; simp at hx
          · rcases h.aW b top sz hA with ⟨_,h2⟩ | ⟨g2,h2,_,h3⟩
            · rw [h1] at h2; simp at h2
            · rw [h1] at h2
              simp at h2
              subst h2
              obtain ⟨h4,h5⟩:=h3 x hx cs e own q k hr
              exact ⟨h4,Nat.le_trans h5 (Nat.mul_le_mul_right _ ht)⟩
    · rename_i EO
      rcases h.aW b t zI hb with ⟨h1,h2⟩ | ⟨g2,h2,hp2,h3⟩
      · exact .inl ⟨h1,by simp only [Env.pB,Env.fp]; rw [if_neg EO]; exact h2⟩
      · have bR:g2≠g:=by
          intro e
          subst e
          rcases hf with ⟨_,h1⟩ | h1
          · have:=h.ji b g2 h2; omega
          · exact EO (h.iH b f g2 _ _ _ _ hb hA h2 h1)
        refine .inr ⟨g2,by simp only [Env.pB,Env.fp]; rw [if_neg EO]; exact h2,hp2,fun x hx cs e own q k hr=>?_⟩
        rw [kS,if_neg bR] at hx
        have:=h.mem g2 x hx
        rw [gp,if_neg (by omega)] at hr
        exact h3 x hx cs e own q k hr
  · intro b r hb
    simp only [Env.pB,Env.fp] at hb
    rw [gp]
    split at hb
    · rename_i e; simp at hb; subst hb; rw [if_pos e]
    · rename_i e; rw [if_neg e]; exact h.z b r hb
  · intro b x hb
    have hb:E.κ b=some x:=hb
    have:=h.fB b x hb
    simp only [Env.pB,Env.fp]
    rw [if_neg (by omega)]
    exact h.apart b x hb
  · exact h.inj
  · intro b d q tb sb td sd lb ld hb hd
    simp only [Env.pB,Env.fp] at hb hd
    rw [aj.bO] at lb ld
    have key:∀ d t s,d≠f→A.get d=some (.aW t s)→E.φ d≠some g:=by
      intro d t s hd hl e
      rcases hf with ⟨_,h1⟩ | h1
      · have:=h.ji d g e; omega
      · exact hd (h.iH d f g _ _ _ _ hl hA e h1)
    by_cases e1:b=f <;> by_cases e2:d=f
    · omega
    · rw [if_pos e1] at hb; rw [if_neg e2] at hd ld; simp at hb; subst hb; exact absurd hd (key d _ _ e2 ld)
    · rw [if_pos e2] at hd; rw [if_neg e1] at hb lb; simp at hd; subst hd; exact absurd hb (key b _ _ e1 lb)
    · rw [if_neg e1] at hb lb; rw [if_neg e2] at hd ld; exact h.iH b d q _ _ _ _ lb ld hb hd
  · exact h.gk
  · intro b q hb
    simp only [Env.pB,Env.fp] at hb
    rw [aj.po]
    split at hb
    · omega
    · exact h.lM b q hb
  · intro b o hb
    rw [aj.bO] at hb
    rw [aj.po]
    split at hb
    · omega
    · exact h.live b o hb
  · intro b x hb; have:=h.fB b x hb; omega
  · intro b r hb
    simp only [Env.pB,Env.fp] at hb
    rw [fO]
    split at hb
    · omega
    · have:=h.lX b r hb; omega
  · intro b q hb
    simp only [Env.pB,Env.fp] at hb
    rw [fO]
    split at hb
    · simp at hb; omega
    · have:=h.ji b q hb; omega
  · intro q hq
    rw [fO] at hq
    rw [kS,if_neg (by omega)]
    exact h.fresh q (by omega)
  · intro q x hx
    rw [fO]
    rw [kS] at hx
    split at hx
    · rcases List.mem_cons.1 hx with hx | hx
      · omega
      · have:=h.mem g x hx; omega
    · have:=h.mem q x hx; omega
  · intro x hx _ _; rw [gp,if_neg (by omega)]
end Go.K
end
section
namespace Go.K
open Go Go.av
variable {P:Program} {E:Env}
def mkE (agg:Bool) (m:List Value):Value:=cond agg (.agg ⟨m⟩) (m.headD .nilIface)
theorem Ri {agg:Bool} {m:List Value} (hs:∀ v ∈ m,scalar v=true) (h:agg=true∨m.length=1):(mkE agg m).cells.toList=m:=by
  cases agg with
  | true=>rfl
  | false=>
    rcases h with h | h
    · simp at h
    · match m,h with
      | [v],_=>
        have:=hs v (by simp)
        show v.cells.toList = [v]
        cases v <;> first | rfl | simp [scalar] at this
theorem M3 {l:r7} {ks:List KV} (h:au l.ks ks=true) (ha:l.agg=true∨l.ks.length=1):cZ l (EN l.agg ks)=true:=by
  obtain ⟨agg,cs⟩:=l
  cases agg with
  | true=>simpa [EN,cZ] using h
  | false=>
    simp at ha
    match cs,ha,ks,h with
    | [c],_,[v],h=>
      have hk:kindOk c v=true:=by simpa [au] using h
      show cZ ⟨false,[c]⟩ v=true
      cases v with
      | agg cs=>cases c <;> simp [kindOk] at hk
      | pQ cs=>cases c <;> simp [kindOk] at hk
      | _=>simpa [cZ] using h
    | [c],_,[],h=>simp [au] at h
    | [c],_,_ :: _ :: _,h=>simp [au] at h
theorem Rj {E:Env} {ks:List KV} {m:List Value} {agg:Bool} (h:aP P E ks m) (ha:agg=true∨m.length=1):VK P E (EN agg ks) (mkE agg m):=by
  cases agg with
  | true=>exact .ny h
  | false=>
    rcases ha with ha | ha
    · simp at ha
    · match m,ha,ks,h with
      | [v],_,ks,h=>
        have hl:=h.length
        match ks,hl,h with
        | [k],_,h=>
          obtain ⟨y,ys,e,h1,_⟩:=h.cons_inv
          simp at e
          rw [e.1]
          exact h1
theorem DP {α:Type} : ∀ {n:Nat} {l vs r:List α},jV n l vs=some r→
    r.length=l.length∧(vs≠[]→n+vs.length≤l.length)∧∀ (i:Nat),r[i]? = if n≤i∧i < n+vs.length then vs[i - n]? else l[i]?
  | 0,l,[],r,h=>by simp [jV] at h; subst h; simp
  | 0,[],_ :: _,r,h=>by simp [jV] at h
  | 0,x :: l,v :: vs,r,h=>by
    simp only [jV,Option.map_eq_some_iff] at h
    obtain ⟨q,hq,rfl⟩:=h
    obtain ⟨h1,h2,h3⟩:=DP hq
    refine ⟨by simp [h1],?_,fun i=>?_⟩
    · intro _
      cases vs with
      | nil=>simp
      | cons u us=>have:=h2 (by simp); simp at this ⊢; omega
    · cases i with
      | zero=>simp
      | succ i=>simp [h3 i]
  | n+1,[],[],r,h=>by simp [jV] at h; subst h; simp
  | n+1,[],_ :: _,r,h=>by simp [jV] at h
  | n+1,x :: l,vs,r,h=>by
    simp only [jV,Option.map_eq_some_iff] at h
    obtain ⟨q,hq,rfl⟩:=h
    obtain ⟨h1,h2,h3⟩:=DP hq
    refine ⟨by simp [h1],?_,fun i=>?_⟩
    · intro bR
      have:=h2 bR
      simp at this ⊢
      omega
    · cases i with
      | zero=>simp
      | succ i=>
        simp only [List.getElem?_cons_succ,h3 i]
        by_cases hc:n≤i∧i < n+vs.length
        · rw [if_pos hc,if_pos (by omega),show i+1 - (n+1)=i - n by omega]
        · rw [if_neg hc,if_neg (by omega)]
theorem JH (v:KV):∀ (es:List KV) (i j:Nat),(setAt es i v).getD j .aq=if j=i∧i < es.length then v else es.getD j .aq
  | [],0,j=>by simp [setAt]
  | [],_+1,j=>by simp [setAt]
  | e :: es,0,0=>by simp [setAt]
  | e :: es,0,j+1=>by simp [setAt]
  | e :: es,i+1,0=>by simp [setAt]
  | e :: es,i+1,j+1=>by
    have:=JH v es i j
    simp only [setAt,List.getD_cons_succ,List.length_cons]
    rw [this]
    by_cases h:j=i∧i < es.length
    · rw [if_pos h,if_pos ⟨by omega,by omega⟩]
    · rw [if_neg h,if_neg (by omega)]
theorem vv:∀ (n:Nat) (l vs:List Value),n+vs.length≤l.length→∃ r,eS n l vs=some r
  | 0,l,[],_=>⟨l,rfl⟩
  | 0,[],_ :: _,h=>by simp at h
  | 0,x :: l,v :: vs,h=>by
    obtain ⟨r,hr⟩:=vv 0 l vs (by simp at h ⊢; omega)
    exact ⟨v :: r,by rw [rv,hr]; rfl⟩
  | n+1,[],[],_=>⟨[],rfl⟩
  | n+1,[],_ :: _,h=>by simp at h
  | n+1,x :: l,vs,h=>by
    obtain ⟨r,hr⟩:=vv n l vs (by simp at h ⊢; omega)
    exact ⟨x :: r,by rw [nw,hr]; rfl⟩
theorem NY:∀ {ks:List CK} {cs:List KV},cs.length=ks.length→(∀ (i:Nat) c v,ks[i]? = some c→cs[i]? = some v→kindOk c v=true)→au ks cs=true
  | [],[],_,_=>rfl
  | [],_ :: _,h,_=>by simp at h
  | _ :: _,[],h,_=>by simp at h
  | c :: ks,v :: cs,h,k=>by
    simp only [au,Bool.and_eq_true]
    exact ⟨k 0 c v rfl rfl,NY (by simpa using h) fun i d u e1 e2=>k (i+1) d u (by simpa using e1) (by simpa using e2)⟩
theorem ZN {l:r7} {e:KV} (h:cZ l e=true):l.agg=true∨e.cells.length=1:=by
  by_cases ha:∃ cs,e = .agg cs
  · obtain ⟨cs,rfl⟩:=ha
    simp only [cZ,Bool.and_eq_true] at h
    exact .inl h.1
  · have hc:e.cells = [e]:=by cases e <;> first | rfl | exact absurd ⟨_,rfl⟩ ha
    rw [hc]
    exact .inr rfl
theorem ab3 {T t:TypeId} {k:Nat} {e vn e2:KV} {u w:Value} (hw:Ps P T t k) (xP:cZ (bj P T) e=true) (hu:VK P E e u) (hvn:cZ (bj P t) vn=true) (hvw:VK P E vn w) (h:MN P T k e vn.cells=some e2) :
    ∃ u2,VK P E e2 u2∧cZ (bj P T) e2=true∧u2.cells.size=aQ P T∧e2.cells.length=e.cells.length∧(∀ m,u2.cells.toList[m]? = if k≤m∧m < k+w.cells.toList.length then w.cells.toList[m - k]? else u.cells.toList[m]?)∧(w.cells.toList≠[]→k+w.cells.toList.length≤aQ P T):=by
  unfold MN at h
  obtain ⟨l1,l2,_⟩:=DM xP
  rw [l1] at h
  obtain ⟨kb,h1,rfl⟩:=Option.map_eq_some_iff.1 h
  obtain ⟨B9,Qd⟩:=gu xP
  obtain ⟨zt,Jm⟩:=gu hvn
  have hcu:=hu.cells Qd
  have hcw:=hvw.cells Jm
  obtain ⟨r,h2,h3⟩:=aP.jV h1 hcu hcw
  obtain ⟨s1,s2,s3⟩:=gK h2
  obtain ⟨q1,q2,q3⟩:=DP h1
  have Dp:e.cells.length=aQ P T:=oz B9
  have tV:=ZN xP
  have hlr:r.length=e.cells.length:=by rw [s1,hcu.length]
  have pt:au (bj P T).ks kb=true:=by
    refine NY (by rw [q1]; exact Dp) fun i c v e1 e3=>?_
    rw [q3 i] at e3
    split at e3
    · rename_i hc
      obtain ⟨x,EP,Vz⟩:∃ d,(bj P t).ks[i - k]? = some d∧d=c:=by
        have aL:i - k < (bj P t).ks.length:=by rw [← oz zt]; omega
        refine ⟨_,List.getElem?_eq_getElem aL,?_⟩
        have:=hw.is (i - k) _ (List.getElem?_eq_getElem aL)
        rw [show k+(i - k)=i by omega,e1] at this
        simpa using this.symm
      subst Vz
      obtain ⟨v',h4,h5⟩:=yQ zt EP
      rw [e3] at h4
      simp at h4; subst h4
      exact h5
    · obtain ⟨v',h4,h5⟩:=yQ B9 e1
      rw [e3] at h4
      simp at h4; subst h4
      exact h5
  have afZ:cZ (bj P T) (EN (bj P T).agg kb)=true:=M3 pt (by
    rcases tV with h | h
    · exact .inl h
    · exact .inr (by rw [← oz B9]; exact h))
  have HN:∀ v ∈ r,scalar v=true:=h3.scalar (yR pt)
  have r5:(mkE (bj P T).agg r).cells.toList=r:=Ri HN (tV.imp id fun h=>by rw [hlr]; exact h)
  refine ⟨mkE (bj P T).agg r,Rj h3 (tV.imp id fun h=>by rw [hlr]; exact h),afZ,?_,?_,fun m=>?_,fun bR=>?_⟩
  · rw [← Array.length_toList,r5,hlr]; exact Dp
  · exact (oz (gu afZ).1).trans Dp.symm
  · rw [r5]; exact s3 m
  · have:=s2 bR
    rw [hcu.length] at this
    omega
theorem ab4 {sz i k:Nat} {cs:List Value} {a7:List Value} {u u2:Value} {wl:List Value} (hl:mU sz 0 cs a7) (hi:a7[i]? = some u) (hsu:u.cells.size=sz) (ni:wl≠[]→k+wl.length≤sz) (hg:∀ m,u2.cells.toList[m]? = if k≤m∧m < k+wl.length then wl[m - k]? else u.cells.toList[m]?) (jM:u2.cells.size=sz) :
    ∃ kb,eS (i * sz+k) cs wl=some kb∧mU sz 0 kb (a7.set i u2)∧kb.length=cs.length:=by
  have hex:∃ kb,eS (i * sz+k) cs wl=some kb:=by
    cases hwl:wl with
    | nil=>exact ⟨cs,Fp _ _⟩
    | cons a l=>
      have hf:=ni (by rw [hwl]; simp)
      rw [hwl] at hf
      obtain ⟨_,hc⟩:=hl i u hi
      have aL:k+l.length < u.cells.size:=by rw [hsu]; simp at hf; omega
      have:=hc (k+l.length) u.cells[k+l.length] (by simp [aL])
      have hb:=(List.getElem?_eq_some_iff.1 this).1
      exact vv _ _ _ (by simp; omega)
  obtain ⟨kb,h1⟩:=hex
  obtain ⟨s1,s2,s3⟩:=gK h1
  refine ⟨kb,h1,fun j x hx=>?_,s1⟩
  rw [List.getElem?_set] at hx
  split at hx
  · rename_i e
    subst e
    split at hx
    · simp at hx; subst hx
      refine ⟨jM,fun m y hy=>?_⟩
      have hy' : u2.cells.toList[m]? = some y:=by simpa using hy
      have hm:m < sz:=by rw [← jM]; exact (Array.getElem?_eq_some_iff.1 hy).1
      rw [hg m] at hy'
      rw [Nat.zero_add,s3]
      split at hy'
      · rw [if_pos (by omega),show i * sz+m - (i * sz+k)=m - k by omega]; exact hy'
      · rw [if_neg (by omega)]
        have:=(hl i u hi).2 m y (by simpa using hy')
        rwa [Nat.zero_add] at this
    · simp at hx
  · rename_i bR
    obtain ⟨h2,h3⟩:=hl j x hx
    refine ⟨h2,fun m y hy=>?_⟩
    have hm:m < sz:=by rw [← h2]; exact (Array.getElem?_eq_some_iff.1 hy).1
    rw [s3,if_neg]
    · exact h3 m y hy
    · rintro ⟨ha,hb⟩
      cases hwl:wl with
      | nil=>rw [hwl] at hb; simp at hb; omega
      | cons a l=>
        have hf:=ni (by rw [hwl]; simp)
        rcases Nat.lt_or_gt_of_ne bR with h | h
        · have:(i+1) * sz≤j * sz:=Nat.mul_le_mul_right _ h
          rw [Nat.succ_mul] at this
          omega
        · have:(j+1) * sz≤i * sz:=Nat.mul_le_mul_right _ h
          rw [Nat.succ_mul] at this
          omega
theorem ZO {T:TypeId} {N i:Nat} {es:List KV} {acc:Nat→KV} {e:KV} (ht:gM P T N es acc) (hi:i < N) (he:cZ (bj P T) e=true):gM P T N (setAt es i e) (vq acc i e) where
  len:=by rw [xo]; exact ht.len
  acc j hj:=by
    rw [JH]
    unfold vq
    cases hb:Nat.beq j i with
    | true=>have:=Nat.eq_of_beq_eq_true hb; rw [if_pos ⟨this,by rw [← ht.len]; exact hi⟩]; rfl
    | false=>rw [if_neg (fun h=>by rw [h.1,Nat.beq_refl] at hb; simp at hb)]; exact ht.acc j hj
  typed:=oA fun j x hx=>by
    have ZH:x=(setAt es i e).getD j .aq:=by rw [List.getD_eq_getElem?_getD,hx]; rfl
    rw [JH] at ZH
    split at ZH
    · rw [ZH]; exact he
    · rename_i bR
      have aL:j < es.length:=by rw [← xo es i e]; exact (List.getElem?_eq_some_iff.1 hx).1
      exact jj ht.typed (i:=j) (by rw [ZH,List.getD_eq_getElem?_getD,List.getElem?_eq_getElem aL]; rfl)
theorem yS {B:St} {x y lo hi:Nat} {bo:Option (Nat×Nat)} : (B.dn x bo lo hi).get y=B.get y∨∃ g k,bo=some (g,k)∧y ∈ B.members g∧y≠x∧(B.dn x bo lo hi).get y=some .dead∧∃ cs e own f j,B.get y=some (.row cs e own (some (f,j))):=by
  cases bo with
  | none=>exact .inl rfl
  | some p=>
    obtain ⟨g,k⟩:=p
    simp only [St.dn,wA]
    by_cases hc:y ∈ B.members g∧y≠x∧oV (B.get y) (k+lo) (k+hi)=true
    · refine .inr ⟨g,k,rfl,hc.1,hc.2.1,by rw [if_pos hc],?_⟩
      have hs:=hc.2.2
      unfold oV at hs
      split at hs
      · rename_i cs e own f j hy; exact ⟨cs,e,own,f,j,hy⟩
      · simp at hs
    · exact .inl (by rw [if_neg hc])
theorem Cv {B:St} {x lo hi:Nat} {bo:Option (Nat×Nat)} : (B.dn x bo lo hi).members=B.members:=by
  cases bo with
  | none=>rfl
  | some p=>simp [St.dn]
theorem Iv {B:St} {x lo hi:Nat} {bo:Option (Nat×Nat)} : (B.dn x bo lo hi).next=B.next:=by
  cases bo with
  | none=>rfl
  | some p=>simp [St.dn]
theorem dm.aaX {A:aj} {B:St} {b x N lo hi:Nat} {T:TypeId} {es:List KV} {acc:Nat→KV} {a7 cs kR:List Value} {bo:Option (Nat×Nat)} (h:ek P E A B) (hb:∃ v,A.get b=some (.arr v)) (hx:E.α b=some (x,kR.length,N))
    (iq:B.get x=some (.row kR (aQ P T) true bo)) (hlen:cs.length=kR.length) (du:1≤aQ P T) (ht:gM P T N es acc) (F3:aP P E es a7) (hl:mU (aQ P T) 0 cs a7) :
    dm P E A B E (A.put b (.arr (.ts T .any N es acc))) ((B.put x (.row cs (aQ P T) true bo)).dn x bo lo hi):=by
  obtain ⟨v0,hb⟩:=hb
  have oZ:AR A E x:=⟨b,v0,_,_,hb,hx⟩
  have fa:((B.put x (.row cs (aQ P T) true bo)).dn x bo lo hi).get x=some (.row cs (aQ P T) true bo):=by
    rcases yS (B:=B.put x (.row cs (aQ P T) true bo)) (x:=x) (y:=x) (lo:=lo) (hi:=hi) (bo:=bo) with e | ⟨g,k,_,_,h3,_⟩
    · rw [e]; simp
    · exact absurd rfl h3
  have XM:∀ y,y≠x→((B.put x (.row cs (aQ P T) true bo)).dn x bo lo hi).get y=B.get y∨(((B.put x (.row cs (aQ P T) true bo)).dn x bo lo hi).get y=some .dead∧∃ g k,bo=some (g,k)∧y ∈ B.members g):=by
    intro y hy
    rcases yS (B:=B.put x (.row cs (aQ P T) true bo)) (x:=x) (y:=y) (lo:=lo) (hi:=hi) (bo:=bo) with e | ⟨g,k,h1,h2,_,h4,_⟩
    · exact .inl (by rw [e,St.bO,if_neg hy])
    · exact .inr ⟨h4,g,k,h1,by simpa using h2⟩
  have kS:((B.put x (.row cs (aQ P T) true bo)).dn x bo lo hi).members=B.members:=by rw [Cv]; simp
  have fO:((B.put x (.row cs (aQ P T) true bo)).dn x bo lo hi).next=B.next:=by rw [Iv]; simp
  generalize (B.put x (.row cs (aQ P T) true bo)).dn x bo lo hi=B' at fa XM kS fO
  have F4:∀ y,y≠x→(E.z y≠none∨AR A E y∨∃ c,E.κ c=some y)→B'.get y=B.get y:=by
    intro y hy hs
    rcases XM y hy with e | ⟨_,g,k,rfl,h2⟩
    · exact e
    · obtain ⟨_,_,h3⟩:=h.ar.pT b v0 x _ _ _ _ _ g k hb hx iq
      obtain ⟨h4,h5,h6⟩:=h3 y h2 hy
      rcases hs with hs | hs | ⟨c,hs⟩
      · exact absurd h4 hs
      · exact absurd hs h5
      · exact absurd hs (h6 c)
  have hA:∀ (c:Nat) (v:KV),(A.put b (.arr (.ts T .any N es acc))).get c=some (.arr v)→∃ u,A.get c=some (.arr u):=fun c v hc=>by
    rw [aj.bO] at hc
    split at hc
    · rename_i e; exact ⟨v0,by rw [e]; exact hb⟩
    · exact ⟨v,hc⟩
  have F5:∀ y,AR (A.put b (.arr (.ts T .any N es acc))) E y→AR A E y:=fun y q=>by
    obtain ⟨c,v,L,M,h1,h2⟩:=q
    obtain ⟨u,h1⟩:=hA c v h1
    exact ⟨c,u,L,M,h1,h2⟩
  have Rl:∀ y,AR A E y→∀ m7 e own Li,B'.get y=some (.row m7 e own Li)→∃ kb,B.get y=some (.row kb e own Li)∧kb.length=m7.length:=fun y q m7 e own Li hy=>by
    by_cases xQ:y=x
    · subst xQ
      rw [fa] at hy
      simp at hy
      obtain ⟨rfl,rfl,rfl,rfl⟩:=hy
      exact ⟨kR,iq,hlen.symm⟩
    · rw [F4 y xQ (.inr (.inl q))] at hy
      exact ⟨m7,hy,rfl⟩
  have XN:∀ g,AF (A.put b (.arr (.ts T .any N es acc))) E B' g→AF A E B g:=fun g q=>by
    obtain ⟨c,v,y,L,M,m7,e,own,k,h1,h2,h3⟩:=q
    obtain ⟨u,h1⟩:=hA c v h1
    obtain ⟨kb,h3,_⟩:=Rl y ⟨c,u,L,M,h1,h2⟩ _ _ _ _ h3
    exact ⟨c,u,y,L,M,kb,e,own,k,h1,h2,h3⟩
  refine ⟨⟨?_,?_,?_,h.apart,h.inj,h.iH.put (.inl fun _ _=>by simp),h.gk,h.lM,?_,fun b x e=>by rw [fO]; exact h.fB b x e,fun b r e=>by rw [fO]; exact h.lX b r e,fun b g e=>by rw [fO]; exact h.ji b g e,fun g hg=>by rw [fO] at hg; rw [kS]; exact h.fresh g hg,fun g y hy=>by rw [kS] at hy; rw [fO]; exact h.mem g y hy,?_⟩,Env.le_refl _,Nat.le_refl _,?_,fun _ _ e=>.inl e,fun _ _ e=>.inl e,fun _ _ e=>.inl e,fun _ _ _ _=>by rw [kS],fun y q=>.inl (F5 y q),fun g q=>.inl (XN g q),fun g y q=>.inl (by rw [kS] at q; exact q),fun y q=>.inl ?_,?_⟩
  · intro c m7 bm hc
    rw [aj.bO] at hc
    split at hc
    · simp at hc
    · obtain ⟨y,c1,h1,h2,h3⟩:=h.row c m7 bm hc
      have hy:y≠x:=fun e=>(h.ar.z x oZ).2 c (by rw [← e]; exact h1)
      exact ⟨y,c1,h1,by rw [F4 y hy (.inr (.inr ⟨c,h1⟩))]; exact h2,h3⟩
  · intro c top zI hc
    rw [aj.bO] at hc
    split at hc
    · simp at hc
    · rcases h.aW c top zI hc with h1 | ⟨g,h1,h2,h3⟩
      · exact .inl h1
      · refine .inr ⟨g,h1,h2,fun y hy m7 e own f k hr=>?_⟩
        rw [kS] at hy
        by_cases xQ:y=x
        · subst xQ
          rw [fa] at hr
          simp at hr
          obtain ⟨rfl,_,_,rfl⟩:=hr
          obtain ⟨h4,h5⟩:=h3 y hy kR _ _ f k iq
          exact ⟨h4,by rw [hlen]; exact h5⟩
        · rcases XM y xQ with e1 | ⟨e1,_⟩
          · rw [e1] at hr; exact h3 y hy m7 e own f k hr
          · rw [e1] at hr; simp at hr
  · intro y r hy
    have xQ:y≠x:=fun e=>by have:=(h.ar.z x oZ).1; rw [← e,hy] at this; simp at this
    rw [F4 y xQ (.inl (by rw [hy]; simp))]
    exact h.z y r hy
  · intro c o hc
    rw [aj.bO] at hc
    split at hc
    · rename_i e; rw [e]; exact h.live b _ hb
    · exact h.live c o hc
  · refine ⟨?_,?_,fun y q=>h.ar.z y (F5 y q),?_,?_,h.ar.QV,h.ar.gk,fun b x L N e=>by rw [fO]; exact h.ar.fB b x L N e,?_,fun c v hc=>?_⟩
    · intro c v hc
      rw [aj.bO] at hc
      split at hc
      · rename_i e
        simp at hc
        subst hc e
        exact ⟨T,N,es,acc,rfl,ht,du,.inr ⟨x,cs,bo,a7,by rw [hlen]; exact hx,fa,F3,hl⟩⟩
      · rename_i bR
        refine (h.ar.arr c v hc).mono (Env.le_refl _) rfl fun y L M e=>?_
        have xQ:y≠x:=fun e2=>bR (h.ar.inj c b v v0 x _ _ _ _ hc hb (by rw [← e2]; exact e) hx)
        exact F4 y xQ (.inr (.inl ⟨c,v,L,M,hc,e⟩))
    · intro c v hc
      rw [aj.bO] at hc
      split at hc
      · simp at hc
      · exact h.ar.iD c v hc
    · intro c d v u y L M L' M' h1 h2 h3 h4
      obtain ⟨v',h1⟩:=hA c v h1
      obtain ⟨u',h2⟩:=hA d u h2
      exact h.ar.inj c d v' u' y L M L' M' h1 h2 h3 h4
    · intro c d v u y w L M L' M' m7 e own g k kb e' nC k' h1 h2 h3 h4 h5 h6
      obtain ⟨v',h1⟩:=hA c v h1
      obtain ⟨u',h2⟩:=hA d u h2
      obtain ⟨_,h5,_⟩:=Rl y ⟨c,v',L,M,h1,h3⟩ _ _ _ _ h5
      obtain ⟨_,h6,_⟩:=Rl w ⟨d,u',L',M',h2,h4⟩ _ _ _ _ h6
      exact h.ar.qT c d v' u' y w L M L' M' _ e own g k _ e' nC k' h1 h2 h3 h4 h5 h6
    · intro c v y L M m7 e own g k h1 h2 h3
      obtain ⟨v',h1⟩:=hA c v h1
      obtain ⟨_,h3,_⟩:=Rl y ⟨c,v',L,M,h1,h2⟩ _ _ _ _ h3
      obtain ⟨h4,h5,h6⟩:=h.ar.pT c v' y L M _ e own g k h1 h2 h3
      refine ⟨by rw [fO]; exact h4,h5,fun z hz bR=>?_⟩
      rw [kS] at hz
      obtain ⟨h7,h8,h9⟩:=h6 z hz bR
      exact ⟨h7,fun q=>h8 (F5 z q),h9⟩
    · rw [aj.bO] at hc
      rw [aj.po]
      split at hc
      · rename_i e; rw [e]; exact h.ar.nk b _ hb
      · exact h.ar.nk c v hc
  · intro y hy hn ha
    by_cases xQ:y=x
    · subst xQ; exact absurd (.inl oZ) ha
    · rcases XM y xQ with e | ⟨_,g,k,rfl,h2⟩
      · exact e
      · exact absurd (.inr ⟨g,⟨b,v0,x,_,_,kR,_,_,k,hb,hx,iq⟩,h2⟩) ha
  · rcases q with q | ⟨g,h1,h2⟩
    · exact .inl (F5 y q)
    · exact .inr ⟨g,XN g h1,by rw [kS] at h2; exact h2⟩
  · intro y hy m7 e own Li hr
    by_cases xQ:y=x
    · exact Rl y (by rw [xQ]; exact oZ) m7 e own Li hr
    · rcases XM y xQ with e1 | ⟨e1,_⟩
      · exact ⟨m7,by rw [← e1]; exact hr,rfl⟩
      · rw [e1] at hr; simp at hr
theorem ab5 {t:TypeId} : aaU P (K4 P t) (yJ P t):=by
  intro E A A' B vs us v h hv hg
  unfold K4 at hg
  split at hg
  · rename_i b off x
    obtain ⟨y,z,rfl,h1,h2⟩:=hv.kp
    obtain ⟨c,hx,rfl⟩:=h1.gG
    obtain ⟨hc,hg⟩:=hg.cond
    simp only [Bool.and_eq_true,decide_eq_true_eq] at hc
    obtain ⟨du,ho⟩:=hc
    split at hg
    · rename_i cs bm iq
      split at hg
      · rename_i bI hw
        have hg:(pg,A.put b (.row bI bm))=(v,A'):=hg
        simp only [Prod.mk.injEq] at hg
        obtain ⟨rfl,rfl⟩:=hg
        obtain ⟨c',d,e1,e2,e3⟩:=h.row b cs bm iq
        rw [hx] at e1
        simp at e1
        subst e1
        have Dk:=h2.cells (tq ho)
        obtain ⟨r,e4,e5⟩:=aP.jV hw e3 Dk
        have im:z.cells.toList.all scalar=true:=List.all_eq_true.2 (Dk.scalar ho)
        have adz:some z.cells.size=size? P t:=by rw [← du,FU h2 (tq ho)]
        refine ⟨undef,B.put c (.row r bm true none),E,?_,.undef,dm.afd h ⟨_,_,iq⟩ hx ⟨d,e2,(gK e4).1.symm⟩ e5⟩
        simp [yJ,storeAt,adz,St.rU,ck,im,e2,e4,St.dn]
      · exact hg.elim
    · exact hg.elim
  · rename_i T Tc b i k x
    obtain ⟨y,z,rfl,h1,h2⟩:=hv.kp
    split at hg
    · rename_i T' mk N es acc hA
      obtain ⟨hc,Cg⟩:=hg.cond
      clear hg
      simp only [Bool.and_eq_true,decide_eq_true_eq] at hc
      obtain ⟨⟨⟨hT,hTc⟩,xP⟩,du⟩:=hc
      have:=Nat.eq_of_beq_eq_true hT
      subst this
      have:=Nat.eq_of_beq_eq_true hTc
      subst this
      split at Cg
      · rename_i e2 he2
        have hg:(pg,A.put b (.arr (aaI T N i es acc e2)))=(v,A'):=Cg
        simp only [Prod.mk.injEq] at hg
        obtain ⟨rfl,rfl⟩:=hg
        obtain ⟨c,L,N',h3,hw,hi,rfl⟩:=h1.AJ
        obtain ⟨T2,N2,nB,kZ,Jn,ht,h1s,sU⟩:=h.ar.arr b _ hA
        simp only [KV.ts.injEq] at Jn
        obtain ⟨rfl,rfl,rfl,rfl,rfl⟩:=Jn
        rcases sU with ⟨_,h4⟩ | ⟨c',cs,bo,a7,h4,h5,h6,h7⟩
        · rw [h3] at h4; simp at h4
        rw [h3] at h4
        simp only [Option.some.injEq,Prod.mk.injEq] at h4
        obtain ⟨rfl,rfl,rfl⟩:=h4
        have aL:i < es.length:=by rw [← ht.len]; exact hi
        have XI:es[i]? = some (acc i):=by rw [ht.acc i hi]; simp [List.getD,aL]
        obtain ⟨u,h8,h9⟩:=h6.get XI
        obtain ⟨hsu,lJ⟩:=h7 i u h8
        rw [Nat.zero_add] at lJ
        have hvn:=h2.hH (l:=bj P Tc)
        obtain ⟨u2,p1,p2,p3,p4,p5,p6⟩:=ab3 (T:=T) (t:=Tc) hw (jj ht.typed XI) h9 xP hvn he2
        obtain ⟨kb,w1,w2,w3⟩:=ab4 h7 h8 hsu p6 p5 p3
        have gm:=dm.aaX (lo:=i * aQ P T+k) (hi:=i * aQ P T+k+z.cells.toList.length) h ⟨_,hA⟩ h3 h5 (gK w1).1 h1s (ZO ht hi p2) (a7:=a7.set i u2) (JG p1 i h6) w2
        obtain ⟨B9,Qd⟩:=gu xP
        have im:z.cells.toList.all scalar=true:=List.all_eq_true.2 ((hvn.cells Qd).scalar (yR B9))
        have UZ:some z.cells.size=size? P Tc:=by
          rw [du,← oz B9]
          exact congrArg some (FU hvn Qd)
        refine ⟨undef,_,E,?_,.undef,gm⟩
        simp [yJ,storeAt,UZ,St.rU,ck,im,h5,w1]
      · exact Cg.elim
    · exact hg.elim
  · exact hg.elim
end Go.K
end
