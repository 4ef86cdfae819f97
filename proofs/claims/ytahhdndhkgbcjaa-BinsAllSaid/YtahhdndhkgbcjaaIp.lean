/- Part of the proof of BinsAll: a machine that runs the program's code over open terms, shown to be the model's, and the plain models of its functions. No conditions. -/
import Derived.Test.YtahhdndhkgbcjaaHp
import Derived.OpenShut
import Derived.ChangeArms
import Derived.WideShapes
import Derived.Below
import Derived.KernelRfl
import Derived.Test.YtahhdndhkgbcjaaProg
section
namespace Go.K
open Go Go.av
variable {P:Program} {E:Env}
noncomputable section
def LD:List CD→Bool
  | []=>true
  | .aW _ :: _=>false
  | _ :: ds=>LD ds
def Pw:List (Tmp×VD)→Bool
  | []=>true
  | p :: ps=>LD p.2.ks && Pw ps
def Px:List (Tmp×List CD×Nat)→Bool
  | []=>true
  | p :: ps=>LD p.2.1 && Px ps
def aD.stays (S:aD):Bool:=Pw S.dL && Px S.rows
theorem wX:∀ {ds:List CD} {vs:List KV},LD ds=true→∀ q ∈ na P ds vs,∃ v,q = .arr v
  | [],_,_,q,hq=>by simp [na] at hq
  | d :: ds,[],_,q,hq=>by cases d <;> simp [na] at hq
  | d :: ds,v :: vs,h,q,hq=>by
    cases d <;> simp only [LD,na,List.mem_cons] at h hq
    · exact wX h q hq
    · exact wX h q hq
    · simp at h
    · rcases hq with rfl | hq
      · exact ⟨_,rfl⟩
      · exact wX h q hq
    · exact wX h q hq
theorem RP:∀ {ps:List (Tmp×VD)} {vs:List KV},Pw ps=true→∀ q ∈ sV P ps vs,∃ v,q = .arr v
  | [],_,_,q,hq=>by simp [sV] at hq
  | p :: ps,[],_,q,hq=>by simp [sV] at hq
  | p :: ps,v :: vs,h,q,hq=>by
    simp only [Pw,Bool.and_eq_true,sV,List.mem_append] at h hq
    exact hq.elim (wX h.1 q) (RP h.2 q)
theorem RQ:∀ {ps:List (Tmp×List CD×Nat)} {rs:List (List KV)},Px ps=true→∀ q ∈ uh P ps rs,∃ v,q = .arr v
  | [],_,_,q,hq=>by simp [uh] at hq
  | p :: ps,[],_,q,hq=>by simp [uh] at hq
  | p :: ps,r :: rs,h,q,hq=>by
    simp only [Px,Bool.and_eq_true,uh,List.mem_append] at h hq
    exact hq.elim (wX h.1 q) (RQ h.2 q)
theorem Uh {S:aD} (h:S.stays=true) {vs:List KV} {rs:List (List KV)} {i:Nat} {q:ia} (hq:(S.lens P vs rs)[i]? = some q):∃ v,q = .arr v:=by
  simp only [aD.stays,Bool.and_eq_true] at h
  have:=List.mem_of_getElem? hq
  simp only [aD.lens,List.mem_append] at this
  exact this.elim (RP h.1 q) (RQ h.2 q)
theorem Hx {S:aD} {vs:List KV} {rs:List (List KV)} (hv:gd S.dL vs=true) (hl:rs.length=S.rows.length) (hg:∀ (k:Nat) p r,S.rows[k]? = some p→rs[k]? = some r→c7 p.2.1 r=true):(S.lens P vs rs).length=lP S.dL+(S.rows.map fun p=>oC p.2.1).sum:=by
  rw [aD.lens,List.length_append,xu hv,BB hl hg rfl]
def aD.l8 (S:aD) (nx:Nat) (bs:List Nat) (fs:List (Option Nat)) (vs:List KV):bp:=kl (aeb fs nx (Oi nx bs S.dL vs ++ uK bs S.Og))
def aD.RR (S:aD) (P:Program) (bs:List Nat) (fs:List (Option Nat)) (vs:List KV) (rs:List (List KV)) (A:aj):aj:=yX (S.back P bs fs vs rs A) fs A.next (S.lens P vs rs)
def abj (S:aD) (E E' : Env):Prop:=∀ (i:Nat) p,E.α (S.nr+i)=some p→E'.α (S.nr+i)=some p
theorem Ui {S:aD} {t:bp} {A:aj} {B B1:St} {g:GR} {ρ hX:ao} {base N:Nat} {w w1:World} {a1:Act} {vs:List KV} {rs:List (List KV)} {E1:Env} (gm:S.stays=true) (hG:c8 P S t A g) (hk:ek P E A B)
    (ht:jw P E1 hX (S.tm S.nr S.ids vs) N a1) (hs:ek P E1 (S.mem P vs rs) B1) (lK:Co base (E.sub A g.bs g.fs S.nr) (S.mem P g.vs g.rs) B ρ w E1 (S.mem P vs rs) B1 hX w1) (Aj:∀ k,k < S.rows.length→E1.κ k=(E.sub A g.bs g.fs S.nr).κ k)
    (ZJ:abj S (E.sub A g.bs g.fs S.nr) E1)
    (hv:gd S.dL vs=true) (HO:rs.length=S.rows.length) (hrg:∀ (k:Nat) p r,S.rows[k]? = some p→rs[k]? = some r→c7 p.2.1 r=true) :
    ∃ E',jw P E' hX (S.l8 A.next g.bs g.fs vs) N a1∧Ev P base E A B ρ w E' (S.RR P g.bs g.fs vs rs A) B1 hX w1:=by
  obtain ⟨ht0,jh⟩:=Ue hG hk ht hs lK Aj hv HO hrg
  have fO:(ui (mw A g.bs S.rows (S.zY A.next g.bs rs)) g.fs).next=A.next:=by rw [AV,JQ]
  have hlen:(S.lens P vs rs).length=g.fs.length:=by
    rw [Hx hv HO hrg,hG.fs,o3,← hG.lens,Hx hG.dL hG.pE hG.sQ]
  have hold:∀ (i:Nat) f,g.fs[i]? = some (some f)→∃ u,A.get f=some (.arr u):=by
    intro i f hi
    have aL:i < (S.lens P g.vs g.rs).length:=by rw [hG.lens,← o3,← hG.fs]; exact (List.getElem?_eq_some_iff.1 hi).1
    obtain ⟨fi,_,h2,h3⟩:=hG.fact (List.getElem?_eq_getElem aL)
    rw [hi] at h2; simp at h2
    obtain ⟨u0,hu0⟩:=Uh gm (List.getElem?_eq_getElem aL)
    rcases h3 with ⟨n,sz,e,_⟩ | ⟨T,v,_,⟨h3,_⟩ | ⟨f',m,N,es,acc,h3,h4,_⟩⟩
    · rw [hu0] at e; simp at e
    · rw [h3] at h2; simp at h2
    · rw [h3] at h2; simp at h2; subst h2; exact ⟨_,h4⟩
  have nX:∀ (i f:Nat),g.fs[i]? = some (some f)→∀ p,(E.up E1 S.nr A.next).α f=some p→(E.up E1 S.nr A.next).α (A.next+i)=some p:=fun i f hi p e=>by
    obtain ⟨u,hu⟩:=hold i f hi
    rw [Env.CG (hk.live f _ hu)] at e
    rw [Env.CF]
    exact ZJ i p (by rw [Env.z0,hi]; exact e)
  have hsw:Ug (E.up E1 S.nr A.next) (S.back P g.bs g.fs vs rs A) g.fs A.next (S.lens P vs rs):=by
    refine ⟨fun i f v hi hv=>?_,fun i f hi=>?_,fun i k f h1 h2=>sk hG.Pv i k f h1 h2⟩
    · obtain ⟨u,hu⟩:=hold i f hi
      refine ⟨?_,(hk.ar.nk f u hu).2,?_,nX i f hi⟩
      · rw [aD.back,yU (by rw [fO]; exact hk.live f _ hu),zZ,if_pos (rP.2 (List.mem_of_getElem? hi))]
      · have:=Gk (A:=ui (mw A g.bs S.rows (S.zY A.next g.bs rs)) g.fs) hv
        rw [fO] at this
        exact this
    · obtain ⟨u,hu⟩:=hold i f hi
      exact hk.live f _ hu
  obtain ⟨E',q1,q2,q3,_⟩:=Nf jh.dz hsw
  refine ⟨E',?_,jh.sw q1 q2⟩
  refine jw.ad0 ht0 (Ou ⟨q2.le,fun i f hi p e=>?_⟩ _)
  have aL:i < (S.lens P vs rs).length:=by rw [hlen]; exact (List.getElem?_eq_some_iff.1 hi).1
  obtain ⟨v,Jn⟩:=Uh gm (List.getElem?_eq_getElem aL)
  rw [q3 i f v hi (by rw [List.getElem?_eq_getElem aL,Jn])]
  exact e
def aD.Uj (S:aD) (P:Program) (t:bp) (A:aj):Bool:=cond (rO (S.en P t A).bs S.ids) (cond (yW (S.en P t A).fs S.nr) (S.en P t A).ok false) false
theorem Yn {S:aD} {t:bp} {A:aj} (h:S.Uj P t A=true):rO (S.en P t A).bs S.ids=true∧yW (S.en P t A).fs S.nr=true∧(S.en P t A).ok=true:=by
  unfold aD.Uj at h
  cases h1:rO (S.en P t A).bs S.ids with
  | false=>rw [h1] at h; simp at h
  | true=>
    cases h2:yW (S.en P t A).fs S.nr with
    | false=>rw [h1,h2] at h; simp at h
    | true=>rw [h1,h2] at h; exact ⟨rfl,rfl,h⟩
def nQ (P:Program) (cfg:dQ) (L n:Nat) (f:FuncId) (p:Nat) (body:Code) (S:aD) (vs:List KV) (rs:List (List KV)):Option (ai×List KV×List (List KV)):=
  n8 P cfg (AH P cfg L n) L f body (2 * p) (fun e t A=>
    Bool.rec (motive:=fun _=>Option (ai×List KV×List (List KV))) none (some (e,(S.en P t A).vs,(S.en P t A).rs)) (S.Uj P t A)) (S.tm S.nr S.ids vs) (S.mem P vs rs)
theorem Yo {S:aD} {t:bp} {A:aj} {B0:St} {E1:Env} {g:GR} {vs:List KV} {rs:List (List KV)} (hG:c8 P S t A g) (hf:yW g.fs S.nr=true) (bc:wi P S vs rs) (hs:ek P E (S.mem P vs rs) B0) (hle:E.le E1):abj S E (E1.sub A g.bs g.fs S.nr):=fun i p e=>by
  have hd:=hs.ar.gk _ p e
  rw [aD.mem,fe,mL bc.pE,Hx bc.v bc.pE bc.sQ] at hd
  have aL:i < g.fs.length:=by
    rw [hG.fs,o3,← hG.lens,Hx hG.dL hG.pE hG.sQ]
    omega
  have h1:=List.getElem?_eq_getElem aL
  rw [Env.z0,h1,Ot hf h1]
  exact hle.α _ p e
section
variable {cfg:dQ} {L n:Nat} {f:FuncId} {S:aD} {root body:Code} {p N:Nat}
theorem Uk {t' : bp} {A1:aj} {B B1:St} {ρ hX:ao} {base:Nat} {w w1:World} {E1:Env} {vs:List KV} {rs:List (List KV)} (bc:wi P S vs rs) (hj:KJ P E (S.mem P vs rs) B ρ base w) (h4:Ev P base E (S.mem P vs rs) B ρ w E1 A1 B1 hX w1) (_:c8 P S t' A1 (S.en P t' A1)) (hi:rO (S.en P t' A1).bs S.ids=true) :
    ∀ k,k < S.rows.length→(E1.sub A1 (S.en P t' A1).bs (S.en P t' A1).fs S.nr).κ k=E.κ k:=fun k hk=>by
  have ad7:=Gm hi
  have hp:=List.getElem?_eq_getElem hk
  have vZ:=List.getElem?_eq_getElem (show k < rs.length by rw [bc.pE]; exact hk)
  obtain ⟨x,_,hx,_⟩:=hj.k.row k _ _ (mem_row bc.pE hp vZ)
  have e1:(E1.sub A1 (S.en P t' A1).bs (S.en P t' A1).fs S.nr).κ k=E1.κ k:=by
    simp only [Env.sub]
    rw [ad7,CB S k hk,Option.bind_some]
  rw [e1,hx]
  exact h4.le.κ k x hx
theorem Yp (hP:P.funcs.toList.all jf=true) (hm:P.follows .mixedOrders=true) (fT:o7 P cfg.pc) (kL:rM P cfg) {fn:Func} (hf:P.funcs[f]? = some fn) (hb:fn.body=some root) (hs:Sub root p (.loop body)) (hc:codeOk N body=true)
    {vs bP:List KV} {rs lg:List (List KV)} {e:ai} (hr:nQ P cfg L n f p body S vs rs=some (e,bP,lg)) {B:St} {ρ:ao} {base:Nat} {a:Act} {w:World} {Q:Exit→Act→World→Prop} (bc:wi P S vs rs)
    (ht:jw P E ρ (S.tm S.nr S.ids vs) N a) (hj:KJ P E (S.mem P vs rs) B ρ base w)
    (hq:∀ E' B' ak a' w',jw P E' ak (S.tm S.nr S.ids bP) N a'→a'.defers=a.defers→KJ P E' (S.mem P bP lg) B' ak base w'→Co base E (S.mem P vs rs) B ρ w E' (S.mem P bP lg) B' ak w'→(∀ k,k < S.rows.length→E'.κ k=E.κ k)→wi P S bP lg→abj S E E'→Q e.out a' w'):body.wp P Q a w:=by
  have vx:=qL (R:=ai×List KV×List (List KV)) hP hm fT kL L n
  refine la fT vx hm (kL.2 f fn root hf hb) body (2 * p) hs.loop hc _ _ _ _ E B ρ base a w Q hr ht hj fun e' t' E1 A1 B1 hX a1 w1 h1 h2 h3 h4=>?_
  cases hi:S.Uj P t' A1 with
  | false=>simp only [hi] at h1; exact absurd h1 (by simp)
  | true=>
    simp only [hi,Option.some.injEq,Prod.mk.injEq] at h1
    obtain ⟨rfl,rfl,rfl⟩:=h1
    obtain ⟨i1,i2,i3⟩:=Yn hi
    have hG:=CC i3
    exact hq _ B1 hX a1 w1 (hG.tkr h2) h3 ⟨hG.dz h4.dz,h4.ej.dz⟩ (h4.co hG) (Uk bc hj h4 hG i1) hG.Ey (Yo hG i2 bc hj.k h4.le)
theorem RS (hP:P.funcs.toList.all jf=true) (hm:P.follows .mixedOrders=true) (fT:o7 P cfg.pc) (kL:rM P cfg) {fn:Func} (hf:P.funcs[f]? = some fn) (hb:fn.body=some root) (hs:Sub root p (.loop body)) (hc:codeOk N body=true)
    {e:ai} {bP:List KV} {lg:List (List KV)} : ∀ (m:Nat) {vs:List KV} {rs:List (List KV)},uj (nQ P cfg L n f p body S) m vs rs=some (e,bP,lg)→∀ {E:Env} {B:St} {ρ:ao} {base:Nat} {a:Act} {w:World} {Q:Exit→Act→World→Prop},wi P S vs rs→
    jw P E ρ (S.tm S.nr S.ids vs) N a→KJ P E (S.mem P vs rs) B ρ base w→
    (∀ E' B' ak a' w',jw P E' ak (S.tm S.nr S.ids bP) N a'→a'.defers=a.defers→KJ P E' (S.mem P bP lg) B' ak base w'→Co base E (S.mem P vs rs) B ρ w E' (S.mem P bP lg) B' ak w'→(∀ k,k < S.rows.length→E'.κ k=E.κ k)→wi P S bP lg→abj S E E'→Q e.out a' w')→Code.rounds P body Q m a w
  | 0,vs,rs,h,E,B,ρ,base,a,w,Q,bc,ht,hj,hq=>by simp [uj] at h
  | m+1,vs,rs,h,E,B,ρ,base,a,w,Q,bc,ht,hj,hq=>by
    unfold uj at h
    split at h
    · rename_i e1 Yk rs1 hr
      rw [rounds_succ]
      refine Yp hP hm fT kL hf hb hs hc hr bc ht hj fun E' B' ak a' w' h1 h2 h3 h4 h5 h6 h7=>?_
      have fin:uL e1=false→some (e1,Yk,rs1)=some (e,bP,lg)→Q e1.out a' w':=by
        intro _ h
        simp only [Option.some.injEq,Prod.mk.injEq] at h
        obtain ⟨rfl,rfl,rfl⟩:=h
        exact hq E' B' ak a' w' h1 h2 h3 h4 h5 h6 h7
      cases e1 with
      | normal=>
        have h:uj (nQ P cfg L n f p body S) m Yk rs1=some (e,bP,lg):=h
        exact RS hP hm fT kL hf hb hs hc m h h6 h1 h3 fun zM Bv kP Dv tT q1 q2 q3 q4 q5 q6 q7=>hq zM Bv kP Dv tT q1 (q2.trans h2) q3 (h4.trans q4) (fun k hk=>(q5 k hk).trans (h5 k hk)) q6 fun i p e=>q7 i p (h7 i p e)
      | exit id=>exact fin rfl h
      | goto l=>exact fin rfl h
      | ret=>exact fin rfl h
    · simp at h
def pD.Gq (P:Program) (S:aD) (bs:List Nat) (fs:List (Option Nat)) (A:aj):pD→AG
  | .no=>.no
  | .out e vs rs=>.out e (S.l8 A.next bs fs vs) (S.RR P bs fs vs rs A)
  | .br c x y=>.br c (x.Gq P S bs fs A) (y.Gq P S bs fs A)
def aec (P:Program) (S:aD) (F:Yb):bp→aj→AG:=fun t A=>
  .br (cond S.stays (S.en P t A).ok false) ((F (S.en P t A).vs (S.en P t A).rs).Gq P S (S.en P t A).bs (S.en P t A).fs A) .no
theorem JU {R:Type} {bs:List Nat} {fs:List (Option Nat)} {A:aj} {k:KE R} {r:R} : ∀ (x:pD),(x.Gq P S bs fs A).run k=some r→∃ e bP lg,x.ev=some (e,bP,lg)∧k e (S.l8 A.next bs fs bP) (S.RR P bs fs bP lg A)=some r
  | .no,h=>absurd h (by simp [pD.Gq,AG.run])
  | .out e vs rs,h=>⟨e,vs,rs,rfl,h⟩
  | .br c x y,h=>by
    have h:Bool.rec (motive:=fun _=>Option R) ((y.Gq P S bs fs A).run k) ((x.Gq P S bs fs A).run k) c=some r:=h
    cases c with
    | true=>exact JU x h
    | false=>exact JU y h
theorem Yq (hP:P.funcs.toList.all jf=true) (hm:P.follows .mixedOrders=true) (fT:o7 P cfg.pc) (kL:rM P cfg) {fn:Func} (hf:P.funcs[f]? = some fn) (hb:fn.body=some root) (hs:Sub root p (.loop body)) (hc:codeOk N body=true) {F:Yb}
    (hF:∀ vs rs e bP lg,wi P S vs rs→(F vs rs).ev=some (e,bP,lg)→∃ m,uj (nQ P cfg L n f p body S) m vs rs=some (e,bP,lg)):M8 P N body (aec P S F):=by
  intro R k r t A E B ρ base a w Q h ht hj hq
  have h:Bool.rec (motive:=fun _=>Option R) none (((F (S.en P t A).vs (S.en P t A).rs).Gq P S (S.en P t A).bs (S.en P t A).fs A).run k) (cond S.stays (S.en P t A).ok false)=some r:=h
  cases gm:S.stays with
  | false=>rw [gm] at h; exact absurd h (by simp)
  | true=>
    rw [gm,cond_true] at h
    cases ho:(S.en P t A).ok with
    | false=>rw [ho] at h; exact absurd h (by simp)
    | true=>
      rw [ho] at h
      have hG:=CC ho
      obtain ⟨e,bP,lg,h9,vi⟩:=JU _ h
      obtain ⟨m,OG⟩:=hF _ _ e bP lg hG.Ey h9
      refine wp_loop_rounds m (RS hP hm fT kL hf hb hs hc m OG hG.Ey (hG.tkr ht) ⟨hG.dz hj.k,hj.s⟩ fun E' B' ak a' w' q1 q2 q3 q4 q5 q6 q7=>?_)
      obtain ⟨E2,r1,r2⟩:=Ui gm hG hj.k q1 q3.k q4 q5 q7 q6.v q6.pE q6.sQ
      exact hq e _ E2 _ B' ak a' w' vi r1 q2 r2
end
def VY:ai→Bool
  | .normal=>true
  | .ret=>true
  | _=>false
def BC (P:Program) (cfg:dQ) (L n:Nat) (g:FuncId) (S:aD) (vs:List KV) (rs:List (List KV)):Option (ai×List KV×List (List KV)):=
  match P.funcs.toList[g]? with
  | some fn=>match fn.body with
    | some c=>cond fn.results.toList.isEmpty (n8 P cfg (AH P cfg L n) L g c 1 (fun e t A=>
        Bool.rec (motive:=fun _=>Option (ai×List KV×List (List KV))) none (some (.ret,(S.en P t A).vs,(S.en P t A).rs)) (cond (VY e) (S.Uj P t A) false)) (S.tm S.nr S.ids vs) (S.mem P vs rs)) none
    | none=>none
  | none=>none
def pD.Gr (P:Program) (S:aD) (bs:List Nat) (fs:List (Option Nat)) (A:aj):pD→qP
  | .no=>.no
  | .out _ vs rs=>.out (.pQ []) (S.RR P bs fs vs rs A)
  | .br c x y=>.br c (x.Gr P S bs fs A) (y.Gr P S bs fs A)
def agd (P:Program) (S:aD) (F:Yb):List KV→aj→qP:=fun args A=>
  .br (cond S.stays (S.en P (mh args 0 .leaf) A).ok false) ((F (S.en P (mh args 0 .leaf) A).vs (S.en P (mh args 0 .leaf) A).rs).Gr P S (S.en P (mh args 0 .leaf) A).bs (S.en P (mh args 0 .leaf) A).fs A) .no
theorem JV {R:Type} {S:aD} {bs:List Nat} {fs:List (Option Nat)} {A:aj} {k:KV→aj→Option R} {r:R} : ∀ (x:pD),qP.run k (x.Gr P S bs fs A)=some r→∃ e bP lg,x.ev=some (e,bP,lg)∧k (.pQ []) (S.RR P bs fs bP lg A)=some r
  | .no,h=>absurd h (by simp [pD.Gr,qP.run])
  | .out e vs rs,h=>⟨e,vs,rs,rfl,h⟩
  | .br c x y,h=>by
    have h:Bool.rec (motive:=fun _=>Option R) (qP.run k (y.Gr P S bs fs A)) (qP.run k (x.Gr P S bs fs A)) c=some r:=h
    cases c with
    | true=>exact JV x h
    | false=>exact JV y h
theorem acd {ρ:ao} {args:List KV} {cL:List Value} (hv:xS P E ρ args cL) (m:Nat):jw P E ρ (mh args 0 .leaf) (max m args.length) { tmps:=cL.toArray ++ Array.replicate (m - cL.toArray.size) undef,defers:=[] }:=by
  obtain ⟨Z4,zt,Jm⟩:=hv
  have hlen:cL.length=args.length:=by rw [Jm.length,zt.length]
  have du:(cL.toArray ++ Array.replicate (m - cL.toArray.size) undef).size=max m args.length:=by
    simp [hlen]
    omega
  refine ⟨du,fun i=>?_,fun i hi=>?_⟩
  · rw [zV]
    simp only [Nat.zero_le,true_and,Nat.zero_add,Nat.sub_zero,Trie.zb]
    by_cases hi:i < args.length
    · rw [if_pos hi]
      obtain ⟨u,hu⟩:∃ u,args[i]? = some u:=⟨_,List.getElem?_eq_getElem hi⟩
      obtain ⟨m',h1,h2⟩:=zt.get hu
      obtain ⟨u',h3,h4⟩:=Jm.get h1
      rw [hu]
      have:(cL.toArray ++ Array.replicate (m - cL.toArray.size) undef).getD i undef=u':=by
        rw [Array.getD_eq_getD_getElem?,Array.getElem?_append_left (by simpa [hlen] using hi)]
        simp [h3]
      rw [this]
      exact ⟨m',h2,h4⟩
    · rw [if_neg hi]
      exact VC.aq
  · rw [zV,if_neg,Trie.zb]
    simp only [Nat.zero_le,true_and,Nat.zero_add]
    have:=Nat.le_max_right m args.length
    omega
theorem aac {cfg:dQ} {L n:Nat} {g:FuncId} {S:aD} {F:Yb} (hP:P.funcs.toList.all jf=true) (hm:P.follows .mixedOrders=true) (fT:o7 P cfg.pc) (kL:rM P cfg) (hy:Nat.blt g yB=true)
    (hF:∀ vs rs e bP lg,wi P S vs rs→(F vs rs).ev=some (e,bP,lg)→BC P cfg L n g S vs rs=some (e,bP,lg)) {R:Type} {args:List KV} {A:aj} {k:KV→aj→Option R} {r:R} (h:qP.run k (agd P S F args A)=some r):wQ P g∧
    ∀ (E:Env) (B:St) (ρ:ao) (base:Nat) (w:World) (cL:List Value),xS P E ρ args cL→KJ P E A B ρ base w→
      Calls P g cL.toArray w fun e w'=>∃ v v' E' A' B' ak,e = .returned v'∧VC P E' ak v v'∧Ev P base E A B ρ w E' A' B' ak w'∧k v A' = some r:=by
  have h:Bool.rec (motive:=fun _=>Option R) none (qP.run k ((F (S.en P (mh args 0 .leaf) A).vs (S.en P (mh args 0 .leaf) A).rs).Gr P S (S.en P (mh args 0 .leaf) A).bs (S.en P (mh args 0 .leaf) A).fs A)) (cond S.stays (S.en P (mh args 0 .leaf) A).ok false)=some r:=h
  cases gm:S.stays with
  | false=>rw [gm] at h; exact absurd h (by simp)
  | true=>
  rw [gm,cond_true] at h
  cases ho:(S.en P (mh args 0 .leaf) A).ok with
  | false=>rw [ho] at h; exact absurd h (by simp)
  | true=>
  rw [ho] at h
  have hG:=CC ho
  obtain ⟨e0,bP,lg,h9,vi⟩:=JV _ h
  have kH:=hF _ _ e0 bP lg hG.Ey h9
  unfold BC at kH
  split at kH
  · rename_i fn hf
    split at kH
    · rename_i c hc
      cases hre:fn.results.toList.isEmpty with
      | false=>rw [hre] at kH; exact absurd kH (by simp)
      | true=>
      rw [hre,cond_true] at kH
      have OM:P.funcs[g]? = some fn:=by simpa using hf
      have bc:=List.all_eq_true.1 hP fn (List.mem_of_getElem? hf)
      unfold jf at bc
      rw [hc] at bc
      simp only [Bool.and_eq_true,Bool.not_eq_true'] at bc
      refine ⟨⟨hy,fn,OM,by simp [hc],bc.2⟩,fun E B ρ base w cL hv hj=>?_⟩
      refine calls_of_wp OM hc ?_
      have ht:=acd hv fn.ntmps
      have Ij:codeOk (max fn.ntmps args.length) c=true:=jU (Nat.le_max_left _ _) c bc.1
      have vx:=qL (R:=ai×List KV×List (List KV)) hP hm fT kL L n
      refine la (L:=L) (f:=g) (N:=max fn.ntmps args.length) fT vx hm (kL.2 g fn c OM hc) c 1 .root Ij _ _ _ _ (E.sub A (S.en P (mh args 0 .leaf) A).bs (S.en P (mh args 0 .leaf) A).fs S.nr) B ρ base _ w _ kH (hG.tkr ht) ⟨hG.dz hj.k,hj.s⟩ fun e t' E1 A1 B1 hX a1 w1 h1 h2 h3 h4=>?_
      cases he:VY e with
      | false=>simp only [he,cond_false] at h1; exact absurd h1 (by simp)
      | true=>
      simp only [he,cond_true] at h1
      cases hi:S.Uj P t' A1 with
      | false=>simp only [hi] at h1; exact absurd h1 (by simp)
      | true=>
      simp only [hi,Option.some.injEq,Prod.mk.injEq] at h1
      obtain ⟨_,rfl,rfl⟩:=h1
      obtain ⟨i1,i2,i3⟩:=Yn hi
      have Yr:=CC i3
      have hj0:KJ P (E.sub A (S.en P (mh args 0 .leaf) A).bs (S.en P (mh args 0 .leaf) A).fs S.nr) (S.mem P (S.en P (mh args 0 .leaf) A).vs (S.en P (mh args 0 .leaf) A).rs) B ρ base w:=⟨hG.dz hj.k,hj.s⟩
      obtain ⟨E2,_,r2⟩:=Ui gm hG hj.k (Yr.tkr h2) (Yr.dz h4.dz) (h4.co Yr) (Uk hG.Ey hj0 h4 Yr i1) (Yo Yr i2 hG.Ey hj0.k h4.le) Yr.Ey.v Yr.Ey.pE Yr.Ey.sQ
      have ac6:fn.results.toList = []:=List.isEmpty_iff.1 hre
      have AA:(results fn a1.tmps).run P w1 = .ok (.tuple #[]) w1:=by
        rw [FH,Sem.run_bind,Array.mapM_eq_mapM_toList,Sem.run_map,ac6]
        rfl
      have zU:bodyPost P fn (fun e w'=>∃ v v' E' A' B' ak,e = .returned v'∧VC P E' ak v v'∧Ev P base E A B ρ w E' A' B' ak w'∧k v A' = some r) .ret a1 w1:=
        ⟨h3,_,AA,_,_,E2,_,B1,hX,rfl,⟨_,.QT .nil,VR.mkTuple .nil⟩,r2,vi⟩
      cases e with
      | normal=>exact zU
      | ret=>exact zU
      | exit id=>simp [VY] at he
      | goto l=>simp [VY] at he
    · simp at kH
  · simp at kH
end
end Go.K
end
section
namespace Go.K
open Go Go.av
variable {P:Program} {E:Env}
def VZ:Code→Bool→Option Code
  | .seq a _,false=>some a
  | .seq _ b,true=>some b
  | .cond _ a _,false=>some a
  | .cond _ _ b,true=>some b
  | .block _ a,false=>some a
  | .loop a,false=>some a
  | .scope a,false=>some a
  | _,_=>none
def oE:Nat→Code→Nat→Option Code
  | 0,_,_=>none
  | n+1,root,p=>cond (Nat.ble p 1) (cond (Nat.beq p 1) (some root) none) ((oE n root (p / 2)).bind fun c=>VZ c (Nat.beq (p % 2) 1))
theorem LF:∀ {n:Nat} {root c:Code} {p:Nat},oE n root p=some c→oE (n+1) root p=some c
  | 0,_,_,_,h=>by simp [oE] at h
  | n+1,root,c,p,h=>by
    unfold oE at h ⊢
    cases hp:Nat.ble p 1 with
    | true=>rw [hp] at h; exact h
    | false=>
      rw [hp] at h
      simp only [cond_false] at h ⊢
      obtain ⟨d,h1,h2⟩:=Option.bind_eq_some_iff.1 h
      exact Option.bind_eq_some_iff.2 ⟨d,LF h1,h2⟩
theorem JW {root c:Code} {p n:Nat} (h:oE n root p=some c):∀ k,oE (n+k) root p=some c
  | 0=>h
  | k+1=>LF (JW h k)
theorem Sub.pos {root c:Code} {p:Nat} (h:Sub root p c):1≤p:=by induction h <;> omega
theorem Sub.at {root c:Code} {p:Nat} (h:Sub root p c):∃ n,oE n root p=some c:=by
  have left:∀ {q n:Nat} {d:Code},1≤q→oE n root q=some d→oE (n+1) root (2 * q)=VZ d false:=by
    intro q n d hq hd
    unfold oE
    have:Nat.ble (2 * q) 1=false:=by
      cases hb:Nat.ble (2 * q) 1 with
      | false=>rfl
      | true=>have:=Nat.le_of_ble_eq_true hb; omega
    rw [this,cond_false,show 2 * q / 2=q by omega,hd,show 2 * q % 2=0 by omega]
    rfl
  have right:∀ {q n:Nat} {d:Code},1≤q→oE n root q=some d→oE (n+1) root (2 * q+1)=VZ d true:=by
    intro q n d hq hd
    unfold oE
    have:Nat.ble (2 * q+1) 1=false:=by
      cases hb:Nat.ble (2 * q+1) 1 with
      | false=>rfl
      | true=>have:=Nat.le_of_ble_eq_true hb; omega
    rw [this,cond_false,show (2 * q+1) / 2=q by omega,hd,show (2 * q+1) % 2=1 by omega]
    rfl
  induction h with
  | root=>exact ⟨1,rfl⟩
  | af4 hs ih=>obtain ⟨n,hn⟩:=ih; exact ⟨n+1,left hs.pos hn⟩
  | af5 hs ih=>obtain ⟨n,hn⟩:=ih; exact ⟨n+1,right hs.pos hn⟩
  | adQ hs ih=>obtain ⟨n,hn⟩:=ih; exact ⟨n+1,left hs.pos hn⟩
  | adR hs ih=>obtain ⟨n,hn⟩:=ih; exact ⟨n+1,right hs.pos hn⟩
  | block hs ih=>obtain ⟨n,hn⟩:=ih; exact ⟨n+1,left hs.pos hn⟩
  | loop hs ih=>obtain ⟨n,hn⟩:=ih; exact ⟨n+1,left hs.pos hn⟩
  | scope hs ih=>obtain ⟨n,hn⟩:=ih; exact ⟨n+1,left hs.pos hn⟩
theorem Sub.uniq {root c d:Code} {p n:Nat} (h:Sub root p c) (k:oE n root p=some d):c=d:=by
  obtain ⟨m,hm⟩:=h.at
  have h1:=JW hm n
  have h2:=JW k m
  rw [Nat.add_comm] at h1
  rw [h1] at h2
  simpa using h2
def fh (P:Program) (f p:Nat):Code:=
  match P.funcs.toList[f]? with
  | some fn=>match fn.body with
    | some c=>match oE 200 c p with
      | some (.loop b)=>b
      | _=>.skip
    | none=>.skip
  | none=>.skip
structure Lp where
  f:Nat
  p:Nat
  S:aD
  F:Yb
  st:Bool
noncomputable def abk (st:Bool) (P:Program) (cfg:dQ) (L n:Nat) (f:FuncId) (p:Nat) (body:Code) (S:aD) (vs:List KV) (rs:List (List KV)):Option (ai×List KV×List (List KV)):=
  cond st (nQ P cfg L n f p body S vs rs) (ky P cfg L n f p body S vs rs)
noncomputable def RT (P:Program):List Lp→FuncId→Nat→Option (bp→aj→AG)
  | [],_,_=>none
  | l :: ls,f,p=>cond (Nat.beq l.f f && Nat.beq l.p p) (some (cond l.st (aec P l.S l.F) (af8 P l.S l.F))) (RT P ls f p)
def Lp.Ok (P:Program) (l:Lp):Prop:=∃ cfg L n,o7 P cfg.pc∧rM P cfg∧
  ∀ vs rs e bP lg,wi P l.S vs rs→(l.F vs rs).ev=some (e,bP,lg)→∃ m,uj (abk l.st P cfg L n l.f l.p (fh P l.f l.p) l.S) m vs rs=some (e,bP,lg)
def cH (P:Program) (f p:Nat):Bool:=
  match P.funcs.toList[f]? with
  | some fn=>match fn.body with
    | some c=>match oE 200 c p with
      | some (.loop _)=>true
      | _=>false
    | none=>false
  | none=>false
theorem abl (hP:P.funcs.toList.all jf=true) (hm:P.follows .mixedOrders=true) {pc:FuncId→Option (List KV→KR KV)} {x:Xq} : ∀ {ls:List Lp},(∀ l ∈ ls,Lp.Ok P l∧cH P l.f l.p=true)→∀ f fn c,P.funcs[f]? = some fn→fn.body=some c→aba P ⟨pc,RT P ls,x⟩ f c
  | [],_=>fun f fn c hf hb p F body h=>by simp [RT] at h
  | l :: ls,hl=>fun f fn c hf hb p F body h hs N hc=>by
    have h:RT P (l :: ls) f p=some F:=h
    unfold RT at h
    cases hk:(Nat.beq l.f f && Nat.beq l.p p) with
    | false=>
      rw [hk] at h
      exact abl hP hm (pc:=pc) (x:=x) (fun l' ka=>hl l' (List.mem_cons_of_mem _ ka)) f fn c hf hb p F body h hs N hc
    | true=>
      rw [hk] at h
      simp only [cond_true,Option.some.injEq] at h
      subst h
      simp only [Bool.and_eq_true] at hk
      have e1:=Nat.eq_of_beq_eq_true hk.1
      have e2:=Nat.eq_of_beq_eq_true hk.2
      obtain ⟨⟨cfg,L,n,fT,kL,hF⟩,hth⟩:=hl l (by simp)
      rw [e1,e2] at hF hth
      have OM:P.funcs.toList[f]? = some fn:=by simpa using hf
      have Zy:fh P f p=body:=by
        unfold cH at hth
        unfold fh
        simp only [OM,hb] at hth ⊢
        split at hth
        · rename_i b tW
          have:=hs.uniq tW
          simp at this
          exact this.symm
        · simp at hth
      rw [Zy] at hF
      cases gm:l.st with
      | true=>
        rw [gm] at hF
        exact Yq hP hm fT kL hf hb hs hc hF
      | false=>
        rw [gm] at hF
        exact aaa hP hm fT kL hf hb hs hc hF
theorem Hy (hP:P.funcs.toList.all jf=true) (hm:P.follows .mixedOrders=true) {pc:FuncId→Option (List KV→KR KV)} {x:Xq} (hx:T7 P x.ac) {ls:List Lp} (hl:∀ l ∈ ls,Lp.Ok P l∧cH P l.f l.p=true):rM P ⟨pc,RT P ls,x⟩:=
  ⟨hx,abl hP hm hl⟩
structure Fc where
  g:Nat
  S:aD
  F:Yb
noncomputable def Ul (P:Program):List Fc→FuncId→Option (List KV→aj→qP)
  | [],_=>none
  | c :: cs,g=>cond (Nat.beq c.g g) (some (agd P c.S c.F)) (Ul P cs g)
def Fc.Ok (P:Program) (c:Fc):Prop:=Nat.blt c.g yB=true∧∃ cfg L n,o7 P cfg.pc∧rM P cfg∧
  ∀ vs rs e bP lg,wi P c.S vs rs→(c.F vs rs).ev=some (e,bP,lg)→BC P cfg L n c.g c.S vs rs=some (e,bP,lg)
theorem Hz (hP:P.funcs.toList.all jf=true) (hm:P.follows .mixedOrders=true):∀ {cs:List Fc},(∀ c ∈ cs,Fc.Ok P c)→T7 P (Ul P cs)
  | [],_=>fun g F h=>by simp [Ul] at h
  | c :: cs,hc=>fun g F h=>by
    have h:Ul P (c :: cs) g=some F:=h
    unfold Ul at h
    cases hk:Nat.beq c.g g with
    | false=>
      rw [hk] at h
      intro R args A k r hr
      exact Hz hP hm (fun c' Zj=>hc c' (List.mem_cons_of_mem _ Zj)) g F h args A k r hr
    | true=>
      rw [hk] at h
      simp only [cond_true,Option.some.injEq] at h
      subst h
      have e1:=Nat.eq_of_beq_eq_true hk
      subst e1
      obtain ⟨hy,cfg,L,n,fT,kL,hF⟩:=hc c (by simp)
      intro R args A k r hr
      exact aac hP hm fT kL hy hF hr
end Go.K
end
section
namespace Go.K
open Go Go.av
mutual
def wfK:KV→Prop
  | .int k n=>(Lit.int k n).wf=true
  | .str s=>s.size≤maxLen
  | .ts _ _ n es _=>n≤maxLen∧CI es
  | .agg cs=>CI cs
  | _=>True
def CI:List KV→Prop
  | []=>True
  | v :: vs=>wfK v∧CI vs
end
theorem yY:∀ {a b:List KV},CI a→CI b→CI (a ++ b)
  | [],_,_,h=>h
  | x :: a,b,h,k=>by
    simp only [CI] at h
    exact ⟨h.1,yY h.2 k⟩
structure HR (P:Program) (W:World) (E:Env) (B:St) (ρ:ao):Prop where
  dz:jC ρ B W.heap.size W
  k:ek P E .empty B
  κ:∀ b,E.κ b=none
  nA:∀ b o,B.get b=some o→o.cG=false∧o.jb=none
  α:∀ b,E.α b=none
def Env.none:Env:=⟨fun _=>.none,fun _=>.none,fun _=>.none,fun _=>.none⟩
theorem DI.empty {P:Program} {E:Env} {B:St} (oy:∀ b,E.α b=none):DI P E .empty B:=by
  have hn:∀ b o,¬ aj.empty.get b=some o:=fun b o hb=>by simp [aj.empty,aj.get] at hb
  exact ⟨fun b v hb=>(hn b _ hb).elim,fun b v hb=>(hn b _ hb).elim,fun x ⟨b,v,_,_,hb,_⟩=>(hn b _ hb).elim,fun b c v u x L N L' N' hb=>(hn b _ hb).elim,fun b c v u x y L N L' N' cs e own g k bI e' nC k' hb=>(hn b _ hb).elim,fun b x _=>oy b,fun b p e=>by rw [oy b] at e; simp at e,fun b x L N e=>by rw [oy b] at e; simp at e,fun b v x L N cs e own g k hb=>(hn b _ hb).elim,fun b v hb=>(hn b _ hb).elim⟩
theorem HR.start (P:Program) (W:World):HR P W .none .empty (zB []):=by
  refine ⟨jC.empty W,⟨?_,?_,?_,?_,?_,?_,?_,?_,?_,?_,?_,?_,?_,?_,.empty fun _=>rfl⟩,fun _=>rfl,fun b o h=>by simp [St.get,St.empty] at h,fun _=>rfl⟩
  · intro b cs bm h; simp [aj.empty,aj.get] at h
  · intro b cs bm h; simp [aj.empty,aj.get] at h
  · intro b r h; simp [Env.none] at h
  · intro b r h; simp [Env.none] at h
  · intro b c r h; simp [Env.none] at h
  · intro b c r _ _ _ _ _ _ h; simp [Env.none] at h
  · intro b r h; simp [Env.none] at h
  · intro b r h; simp [Env.none] at h
  · intro b o h; simp [aj.empty,aj.get] at h
  · intro b r h; simp [Env.none] at h
  · intro b r h; simp [Env.none] at h
  · intro b r h; simp [Env.none] at h
  · intro g _; simp [St.members,St.empty]
  · intro g x h; simp [St.members,St.empty] at h
theorem HR.add {P:Program} {W:World} {E:Env} {B:St} {ρ:ao} (h:HR P W E B ρ) {cs:List Value} {l:av.Loc}
    (hc:∀ (i:Nat) (v:Value),cs[i]? = some v→∃ v',W.cell? ⟨l.cb,l.dh+i,.none⟩=some v'∧VR ρ v v'∧scalar v=true) (hl:l.cb < W.heap.size) (hf:l.dh+cs.length≤l.vc) :
    HR P W (E.fp B.next ⟨cs,l.bm,false,.none⟩) (B.new (.row cs l.bm false .none)) (ρ.set B.next l)∧E.le (E.fp B.next ⟨cs,l.bm,false,.none⟩)∧ρ.le (ρ.set B.next l):=by
  have hle:E.le (E.fp B.next ⟨cs,l.bm,false,.none⟩):=⟨fun _ _ e=>e,fun _ _ e=>e,fun b r e=>by
    have:=h.k.lX b r e
    simp only [Env.fp]; rw [if_neg (by omega)]; exact e,fun _ _ e=>e⟩
  have gL:=h.dz.yK l
  have gp:∀ b o,(B.new (.row cs l.bm false .none)).get b=some o→(b=B.next∧o = .row cs l.bm false .none)∨(b≠B.next∧B.get b=some o):=by
    intro b o hb
    rw [St.cK] at hb
    split at hb
    · rename_i e; simp at hb; exact .inl ⟨e,hb.symm⟩
    · rename_i e; exact .inr ⟨e,hb⟩
  have Um:∀ b o,(B.new (.row cs l.bm false .none)).get b=some o→o.cG=false∧o.jb = .none:=by
    intro b o hb
    rcases gp b o hb with ⟨_,rfl⟩ | ⟨_,hb⟩
    · exact ⟨rfl,rfl⟩
    · exact h.nA b o hb
  refine ⟨⟨⟨⟨?_,?_,?_,?_,?_,?_⟩,?_,h.dz.size,h.dz.mS.mono gL⟩,?_,h.κ,Um,h.α⟩,hle,gL⟩
  · intro b kR bm own bo hb
    rcases gp b _ hb with ⟨rfl,e⟩ | ⟨bR,hb⟩
    · simp only [bD.row.injEq] at e
      obtain ⟨rfl,rfl,rfl,rfl⟩:=e
      refine ⟨l,by simp [ao.set],⟨fun i v hi=>?_,fun _=>hl,fun e=>by simp at e,fun e=>by simp at e,hf,fun e=>by simp at e,rfl,hl,fun e=>by simp at e⟩⟩
      obtain ⟨v',h1,h2,h3⟩:=hc i v hi
      exact ⟨v',h1,h2.mono gL,h3⟩
    · obtain ⟨l',h1,h2⟩:=h.dz.rel.row b kR bm own bo hb
      exact ⟨l',gL _ _ h1,⟨fun i v hi=>by obtain ⟨v',q1,q2,q3⟩:=h2.cells i v hi; exact ⟨v',q1,q2.mono gL,q3⟩,h2.nA,h2.cG,h2.there,h2.fits,h2.ends,h2.bm,h2.j7,h2.mark⟩⟩
  · intro b es hb
    have:=(Um b _ hb).1
    simp [bD.cG] at this
  · intro b s pos hb
    have:=(Um b _ hb).1
    simp [bD.cG] at this
  · intro b st e t ps a c hb
    have:=(Um b _ hb).1
    simp [bD.cG] at this
  · intro b1 b2 o1 o2 l1 l2 _ h1 _ h3
    have:=(Um b1 _ h1).1
    rw [h3] at this; simp at this
  · intro b o aW f hb hk
    have:=(Um b _ hb).2
    rw [hk] at this; simp at this
  · intro b l' hb
    rw [St.bV]
    simp only [ao.set] at hb
    split at hb
    · omega
    · have:=h.dz.gk b l' hb; omega
  · refine ⟨?_,?_,?_,?_,?_,?_,?_,?_,?_,?_,?_,?_,?_,?_,.empty h.α⟩
    · intro b cs bm h; simp [aj.empty,aj.get] at h
    · intro b cs bm h; simp [aj.empty,aj.get] at h
    · intro b r hb
      simp only [Env.fp] at hb
      split at hb
      · rename_i e
        simp at hb
        subst hb e
        simp
      · have:=h.k.lX b r hb
        rw [St.cK,if_neg (by omega)]
        exact h.k.z b r hb
    · intro b x hb; have hb:E.κ b=some x:=hb; rw [h.κ b] at hb; simp at hb
    · exact h.k.inj
    · exact h.k.iH
    · exact h.k.gk
    · exact h.k.lM
    · exact h.k.live
    · intro b x hb; have:=h.k.fB b x hb; rw [St.bV]; omega
    · intro b r hb
      simp only [Env.fp] at hb
      rw [St.bV]
      split at hb
      · omega
      · have:=h.k.lX b r hb; omega
    · intro b g hb; have:=h.k.ji b g hb; rw [St.bV]; omega
    · intro g hg; rw [St.bV] at hg; rw [St.jT]; exact h.k.fresh g (by omega)
    · intro g x hx; rw [St.jT] at hx; rw [St.bV]; have:=h.k.mem g x hx; omega
def RU (P:Program):Nat→List Field→Option Nat
  | off,[]=>some off
  | off,f :: fs=>cond (Nat.beq f.offset off) (RU P (off+P.cellsOf f.type) fs) .none
def vC (P:Program):Nat→TypeId→Bool
  | 0,_=>false
  | n+1,t=>match P.underlying t with
    | some (.int _) | some .bool | some .string=>true
    | some (.slice e)=>Nat.ble 1 (P.cellsOf e) && vC P n e && (match lay P 12 e with
      | some l=>Nat.beq l.ks.length (P.cellsOf e) && (l.agg || Nat.beq l.ks.length 1)
      | .none=>false)
    | some (.struct fs)=>fs.toList.all (fun f=>vC P n f.type) && (match RU P 0 fs.toList with
      | some k=>Nat.beq k (P.cellsOf t)
      | .none=>false)
    | some (.array len e)=>vC P n e && Nat.beq (P.cellsOf t) (len * P.cellsOf e)
    | _=>false
def RW (W:World) (cs:List Value):Prop:=∀ a n c,Value.slice (some a) n c ∈ cs→0 < W.heap.size
def Got (P:Program) (W:World) (E:Env) (_:St) (ρ:ao) (cs:List Value) (K:List KV→Prop):Prop:=
  ∃ E' B' ak ks,HR P W E' B' ak∧E.le E'∧ρ.le ak∧xS P E' ak ks cs∧CI ks∧K ks
def Py {H:Type} (enc:TypeId×Value→H) (P:Program) (W:World) (n:Nat):Prop:=
  ∀ t,vC P n t=true→∀ (fuel:Nat) (cs:List Value) (x:DataW H×List MemPlace) (E:Env) (B:St) (ρ:ao),DataW.trod enc P W 0 (fun _=>true) true fuel t cs=some x→RW W cs→HR P W E B ρ→
    Got P W E B ρ cs fun ks=>∀ m l,lay P m t=some l→au l.ks ks=true
section
variable {H:Type} {enc:TypeId×Value→H} {P:Program} {W:World} {E:Env} {B:St} {ρ:ao}
theorem xS.append {E:Env} {ρ:ao} {a b:List KV} {a' b' : List Value} (h:xS P E ρ a a') (k:xS P E ρ b b'):xS P E ρ (a ++ b) (a' ++ b'):=by
  obtain ⟨m,h1,h2⟩:=h
  obtain ⟨l,h3,h4⟩:=k
  exact ⟨m ++ l,h1.append h3,h2.append h4⟩
theorem xS.mono {E E' : Env} {ρ ak:ao} {a:List KV} {a' : List Value} (h:xS P E ρ a a') (hE:E.le E') (gL:ρ.le ak):xS P E' ak a a':=by
  obtain ⟨m,h1,h2⟩:=h
  exact ⟨m,h1.mono hE,h2.mono gL⟩
theorem xS.len {E:Env} {ρ:ao} {a:List KV} {a' : List Value} (h:xS P E ρ a a'):a'.length=a.length:=by
  obtain ⟨m,h1,h2⟩:=h
  rw [h2.length,h1.length]
theorem BD:∀ {ks:List CK} {vs:List KV},au ks vs=true→vs.length=ks.length
  | [],[],_=>rfl
  | [],_ :: _,h=>by simp [au] at h
  | _ :: _,[],h=>by simp [au] at h
  | k :: ks,v :: vs,h=>by
    simp only [au,Bool.and_eq_true] at h
    simp [BD h.2]
theorem BF:∀ {ks ls:List CK} {vs us:List KV},au ks vs=true→au ls us=true→au (ks ++ ls) (vs ++ us)=true
  | [],_,[],_,_,h=>h
  | [],_,_ :: _,_,h,_=>by simp [au] at h
  | _ :: _,_,[],_,h,_=>by simp [au] at h
  | k :: ks,ls,v :: vs,us,h,h'=>by
    simp only [au,Bool.and_eq_true] at h
    simp only [List.cons_append,au,Bool.and_eq_true]
    exact ⟨h.1,BF h.2 h'⟩
theorem RW.sub {W:World} {cs ds:List Value} (h:RW W cs) (k:∀ v ∈ ds,v ∈ cs):RW W ds:=fun a n c hm=>h a n c (k _ hm)
theorem RX {cs:List Value} {i n:Nat} : ∀ v ∈ (cs.drop i).take n,v ∈ cs:=fun _ h=>List.mem_of_mem_drop (List.mem_of_mem_take h)
theorem Ov (cs:List Value) (i m n:Nat):(cs.drop i).take m ++ (cs.drop (i+m)).take n=(cs.drop i).take (m+n):=by
  rw [List.take_add,List.drop_drop]
theorem LG {n:Nat} (IH:Py enc P W n) {fuel:Nat} {cs:List Value} (hp:RW W cs):∀ (fs:List Field) (off k:Nat) (E:Env) (B:St) (ρ:ao),HR P W E B ρ→RU P off fs=some k→k≤cs.length→(∀ f ∈ fs,vC P n f.type=true)→
    (∀ f ∈ fs,∃ x,DataW.trod enc P W 0 (fun _=>true) true fuel f.type ((cs.drop f.offset).take (P.cellsOf f.type))=some x)→
    off≤k∧Got P W E B ρ ((cs.drop off).take (k - off)) fun ks=>∀ m l,FJ (lay P m) fs off=some l→au l ks=true
  | [],off,k,E,B,ρ,hi,ht,hk,_,_=>by
    simp [RU] at ht; subst ht
    refine ⟨Nat.le_refl _,E,B,ρ,[],hi,Env.le_refl _,ao.le_refl _,?_,trivial,?_⟩
    · rw [Nat.sub_self,List.take_zero]; exact ⟨[],.nil,.nil⟩
    · intro m l h; simp [FJ] at h; subst h; rfl
  | f :: fs,off,k,E,B,ρ,hi,ht,hk,he,hx=>by
    unfold RU at ht
    cases hb:Nat.beq f.offset off with
    | false=>rw [hb] at ht; simp at ht
    | true=>
      rw [hb,cond_true] at ht
      have Et:=Nat.eq_of_beq_eq_true hb
      obtain ⟨x,EP⟩:=hx f (by simp)
      obtain ⟨E1,B1,hX,ks1,h1,h2,h3,h4,h5,h6⟩:=IH f.type (he f (by simp)) fuel _ x E B ρ EP (hp.sub RX) hi
      obtain ⟨hle,E2,B2,kc,ks2,q1,q2,q3,q4,q5,q6⟩:=LG IH hp fs (off+P.cellsOf f.type) k E1 B1 hX h1 ht hk (fun g hg=>he g (by simp [hg])) (fun g hg=>hx g (by simp [hg]))
      have hlen:ks1.length=P.cellsOf f.type:=by
        rw [← h4.len,List.length_take,List.length_drop,Et]
        omega
      refine ⟨by omega,E2,B2,kc,ks1 ++ ks2,q1,Env.le_trans h2 q2,ao.le_trans h3 q3,?_,yY h5 q5,?_⟩
      · have:=(h4.mono q2 q3).append q4
        rw [Et,Ov] at this
        rw [show k - off=P.cellsOf f.type+(k - (off+P.cellsOf f.type)) by omega]
        exact this
      · intro m l hl
        unfold FJ at hl
        rw [hb,cond_true] at hl
        obtain ⟨l1,Dn,hl⟩:=Option.bind_eq_some_iff.1 hl
        obtain ⟨l2,kK,rfl⟩:=Option.map_eq_some_iff.1 hl
        have B9:=h6 m l1 Dn
        have ahY:=BD B9
        rw [← ahY,hlen] at kK
        exact BF B9 (q6 m l2 kK)
theorem Ow {n:Nat} (IH:Py enc P W n) {fuel len c:Nat} {e:TypeId} {cs:List Value} (hp:RW W cs) (he:vC P n e=true) (hc:P.cellsOf e=c) (hk:len * c≤cs.length) (hx:∀ i,i < len→∃ x,DataW.trod enc P W 0 (fun _=>true) true fuel e ((cs.drop (i * c)).take c)=some x) (hi:HR P W E B ρ):∀ j,j≤len→
    Got P W E B ρ (cs.take (j * c)) fun ks=>∀ m l,lay P m e=some l→au (dv l.ks j) ks=true
  | 0,_=>by
    refine ⟨E,B,ρ,[],hi,Env.le_refl _,ao.le_refl _,?_,trivial,fun m l _=>rfl⟩
    rw [Nat.zero_mul,List.take_zero]; exact ⟨[],.nil,.nil⟩
  | j+1,hj=>by
    obtain ⟨E1,B1,hX,ks1,h1,h2,h3,h4,h5,h6⟩:=Ow IH hp he hc hk hx hi j (by omega)
    obtain ⟨x,EP⟩:=hx j (by omega)
    obtain ⟨E2,B2,kc,ks2,q1,q2,q3,q4,q5,q6⟩:=IH e he fuel _ x E1 B1 hX EP (hp.sub RX) h1
    refine ⟨E2,B2,kc,ks1 ++ ks2,q1,Env.le_trans h2 q2,ao.le_trans h3 q3,?_,yY h5 q5,?_⟩
    · have:=(h4.mono q2 q3).append q4
      have e:=Ov cs 0 (j * c) c
      simp only [List.drop_zero,Nat.zero_add] at e
      rw [e] at this
      rw [show (j+1) * c=j * c+c by rw [Nat.succ_mul]]
      exact this
    · intro m l hl
      have:dv l.ks (j+1)=dv l.ks j ++ l.ks:=by
        have comm:∀ n,l.ks ++ dv l.ks n=dv l.ks n ++ l.ks:=by
          intro n
          induction n with
          | zero=>simp [dv]
          | succ n ih=>simp only [dv,List.append_assoc]; rw [ih]
        rw [← comm]; rfl
      rw [this]
      exact BF (h6 m l hl) (q6 m l hl)
theorem LH {a:Addr} {i k:Nat} {v:Value} (h:W.cell? ((a.add i).add k)=some v):W.cell? ⟨a.block,a.off+i+k,.none⟩=some v∧a.block < W.heap.size∧(i+k=0→a.spot = .none):=by
  have hb:((a.add i).add k).block=a.block:=by unfold Addr.add; split <;> split <;> rfl
  have ho:((a.add i).add k).off=a.off+i+k:=by
    unfold Addr.add
    split <;> split <;> simp_all
  have hs:((a.add i).add k).spot = .none:=by
    unfold World.cell? at h
    split at h
    · split at h
      · simp at h
      · rename_i hs; simpa using hs
    · simp at h
  have he:(a.add i).add k=⟨a.block,a.off+i+k,.none⟩:=by
    generalize (a.add i).add k=p at hb ho hs
    obtain ⟨b,o,s⟩:=p
    simp at hb ho hs
    simp [hb,ho,hs]
  refine ⟨he ▸ h,?_,fun e=>?_⟩
  · rw [he] at h
    unfold World.cell? at h
    split at h
    · rename_i heq
      exact (Array.getElem?_eq_some_iff.1 heq).1
    · simp at h
  · have h1:i=0:=by omega
    have h2:k=0:=by omega
    subst h1 h2
    simpa [Addr.add] using hs
theorem RY {a:Addr} {n:Nat} {cs:List Value} (h:W.cells? 0 a n=some cs):cs.length=n∧∀ (k:Nat) (v:Value),cs[k]? = some v→W.cell? (a.add k)=some v:=by
  unfold World.cells? at h
  rw [if_pos (Nat.zero_le _)] at h
  have hl:=mapM_some_length h
  simp at hl
  refine ⟨hl,fun k v hv=>?_⟩
  have hk:k < n:=by rw [← hl]; exact (List.getElem?_eq_some_iff.1 hv).1
  rw [mapM_some_get h k k (by simp [hk])]
  exact hv
theorem abm {ks:List KV} {agg:Bool} (h:CI ks):wfK (EN agg ks):=by
  cases agg with
  | true=>exact h
  | false=>
    match ks,h with
    | [],_=>exact trivial
    | v :: vs,h=>exact h.1
theorem IE {E:Env} {ρ:ao} : ∀ {ks:List CK} {vs:List KV} {m:List Value},au ks vs=true→aP P E vs m→∀ v ∈ m,scalar v=true
  | [],[],m,_,h,v,hv=>by rw [h.bJ] at hv; simp at hv
  | [],_ :: _,_,h,_,_,_=>by simp [au] at h
  | _ :: _,[],_,h,_,_,_=>by simp [au] at h
  | k :: ks,u :: vs,m,h,hm,v,hv=>by
    simp only [au,Bool.and_eq_true] at h
    obtain ⟨y,ys,rfl,h1,h2⟩:=hm.cons_inv
    rcases List.mem_cons.1 hv with rfl | hv
    · refine h1.scalar ?_
      have:=h.1
      cases u <;> first | rfl | (cases k <;> simp [kindOk] at this)
    · exact IE (ρ:=ρ) h.2 h2 v hv
theorem Ox {n:Nat} (IH:Py enc P W n) {fuel len c:Nat} {e:TypeId} {l:r7} {a:Addr} (he:vC P n e=true) (hl:lay P 12 e=some l) (Dm:l.ks.length=c) (ha:l.agg=true∨l.ks.length=1) (hc:P.cellsOf e=c) (hc1:1≤c)
    (hx:∀ i,i < len→∃ x,(W.cells? 0 (a.add (i * c)) c).bind (DataW.trod enc P W 0 (fun _=>true) true fuel e)=some x) (hi:HR P W E B ρ):∀ j,j≤len→
    ∃ E' B' ak es us fl,HR P W E' B' ak∧E.le E'∧ρ.le ak∧es.length=j∧aP P E' es us∧eo l es=true∧CI es∧fl.length=j * c∧mU c 0 fl us∧
      (∀ (i:Nat) (v:Value),fl[i]? = some v→∃ v',W.cell? ⟨a.block,a.off+i,.none⟩=some v'∧VR ak v v'∧scalar v=true)∧(0 < j→a.block < W.heap.size∧a.spot = .none)
  | 0,_=>⟨E,B,ρ,[],[],[],hi,Env.le_refl _,ao.le_refl _,rfl,.nil,rfl,trivial,by simp,fun i x h=>by simp at h,fun i v h=>by simp at h,fun h=>by omega⟩
  | j+1,hj=>by
    obtain ⟨E1,B1,hX,es,us,fl,h1,h2,h3,h4,h5,h6,h7,h8,h9,vi,Vx⟩:=Ox IH he hl Dm ha hc hc1 hx hi j (by omega)
    obtain ⟨x,EP⟩:=hx j (by omega)
    obtain ⟨cs,Dk,Vz⟩:=Option.bind_eq_some_iff.1 EP
    obtain ⟨hlen,gp⟩:=RY Dk
    have B8:a.block < W.heap.size:=by
      have h0:0 < cs.length:=by rw [hlen]; omega
      exact (LH (gp 0 _ (List.getElem?_eq_getElem h0))).2.1
    obtain ⟨E2,B2,kc,ks,q1,q2,q3,⟨m,q4,q4'⟩,q5,q6⟩:=IH e he fuel cs x E1 B1 hX Vz (fun _ _ _ _=>by omega) h1
    have hk:=q6 12 l hl
    have W7:m.length=c:=by rw [q4.length,BD hk,Dm]
    have tV:l.agg=true∨m.length=1:=by rw [W7,← Dm]; exact ha
    have HN:=IE (ρ:=ρ) hk q4
    have lJ:=Ri HN tV
    have hul:us.length=j:=by rw [h5.length,h4]
    refine ⟨E2,B2,kc,es ++ [EN l.agg ks],us ++ [mkE l.agg m],fl ++ m,q1,Env.le_trans h2 q2,ao.le_trans h3 q3,by simp [h4],(h5.mono q2).append (.cons (Rj q4 tV) .nil),?_,yY h7 ⟨abm q5,trivial⟩,?_,?_,?_,fun _=>⟨B8,?_⟩⟩
    · have:∀ {es:List KV},eo l es=true→eo l (es ++ [EN l.agg ks])=true:=by
        intro es
        induction es with
        | nil=>intro _; simp [eo,M3 hk ha]
        | cons e es ih=>
          intro h
          simp only [eo,Bool.and_eq_true] at h
          simp only [List.cons_append,eo,Bool.and_eq_true]
          exact ⟨h.1,ih h.2⟩
      exact this h6
    · rw [List.length_append,h8,W7,Nat.succ_mul]
    · intro i y hy
      by_cases hi:i < j
      · rw [List.getElem?_append_left (by omega)] at hy
        obtain ⟨r1,r2⟩:=h9 i y hy
        refine ⟨r1,fun k z hz=>?_⟩
        have:=r2 k z hz
        rw [List.getElem?_append_left (List.getElem?_eq_some_iff.1 this).1]
        exact this
      · rw [List.getElem?_append_right (by omega),hul] at hy
        have hij:i=j:=by
          have:=(List.getElem?_eq_some_iff.1 hy).1
          simp at this
          omega
        subst hij
        simp at hy
        subst hy
        have du:(mkE l.agg m).cells.size=c:=by rw [← Array.length_toList,lJ,W7]
        refine ⟨du,fun k z hz=>?_⟩
        rw [← Array.getElem?_toList,lJ] at hz
        rw [List.getElem?_append_right (by rw [h8]; omega),h8,show 0+i * c+k - i * c=k by omega]
        exact hz
    · intro i v hv
      by_cases hi:i < fl.length
      · rw [List.getElem?_append_left hi] at hv
        obtain ⟨v',r1,r2,r3⟩:=vi i v hv
        exact ⟨v',r1,r2.mono q3,r3⟩
      · rw [List.getElem?_append_right (by omega)] at hv
        obtain ⟨v',r1,r2⟩:=q4'.get hv
        refine ⟨v',?_,r2,HN v (List.mem_of_getElem? hv)⟩
        have:=(LH (gp _ _ r1)).1
        rw [h8] at this
        rw [h8] at hi
        rw [show a.off+i=a.off+j * c+(i - j * c) by omega]
        exact this
    · by_cases h0:j=0
      · subst h0
        have h0:0 < cs.length:=by rw [hlen]; omega
        exact (LH (gp 0 _ (List.getElem?_eq_getElem h0))).2.2 (by omega)
      · exact (Vx (by omega)).2
theorem Ys:∀ n,Py enc P W n
  | 0=>fun t ht=>by simp [vC] at ht
  | n+1=>by
    have IH:=Ys n
    intro t ht fuel cs x E B ρ hx hp hi
    have hn:∀ {m l},lay P m t=some l→∃ m',m=m' + 1:=by
      intro m l h
      cases m with
      | zero=>simp [lay] at h
      | succ m=>exact ⟨m,rfl⟩
    unfold vC at ht
    split at ht
    · rename_i k hu
      obtain ⟨i,rfl,_,hw⟩:=DataW.trod_int hu hx
      refine ⟨E,B,ρ,[.int k i],hi,Env.le_refl _,ao.le_refl _,⟨_,.cons .mkInt .nil,.cons (by simp [VR]) .nil⟩,⟨hw,trivial⟩,fun m l h=>?_⟩
      obtain ⟨m',rfl⟩:=hn h
      simp only [lay,hu,Option.some.injEq] at h
      subst h
      simp [au,kindOk]
    · rename_i hu
      obtain ⟨b,rfl,_⟩:=DataW.trod_bool hu hx
      refine ⟨E,B,ρ,[.bool b],hi,Env.le_refl _,ao.le_refl _,⟨_,.cons .ph .nil,.cons (by simp [VR]) .nil⟩,⟨trivial,trivial⟩,fun m l h=>?_⟩
      obtain ⟨m',rfl⟩:=hn h
      simp only [lay,hu,Option.some.injEq] at h
      subst h
      simp [au,kindOk]
    · rename_i hu
      obtain ⟨s,rfl,_,hw⟩:=DataW.trod_string hu hx
      refine ⟨E,B,ρ,[.str s],hi,Env.le_refl _,ao.le_refl _,⟨_,.cons .mkStr .nil,.cons (by simp [VR]) .nil⟩,⟨hw,trivial⟩,fun m l h=>?_⟩
      obtain ⟨m',rfl⟩:=hn h
      simp only [lay,hu,Option.some.injEq] at h
      subst h
      simp [au,kindOk]
    · rename_i e hu
      simp only [Bool.and_eq_true] at ht
      obtain ⟨⟨rG,yO⟩,ht3⟩:=ht
      have hc1:=Nat.le_of_ble_eq_true rG
      split at ht3
      · rename_i l hl
        simp only [Bool.and_eq_true,Bool.or_eq_true] at ht3
        have Dm:=Nat.eq_of_beq_eq_true ht3.1
        have tV:l.agg=true∨l.ks.length=1:=ht3.2.imp id Nat.eq_of_beq_eq_true
        have hlF:bj P e=l:=by simp [bj,hl]
        have du:aQ P e=P.cellsOf e:=by rw [aQ,hlF,Dm]
        have fin:∀ {ks:List KV} {m:Nat} {l' : r7} {mk:Mk} {nn:Nat} {es:List KV} {acc:Nat→KV},mk = .any→lay P m t=some l'→ks = [.ts e mk nn es acc]→au l'.ks ks=true:=by
          intro ks m l' mk nn es acc OO h pt
          obtain ⟨m',rfl⟩:=hn h
          simp only [lay,hu,Option.some.injEq] at h
          subst h pt OO
          simp [au,kindOk]
        rcases DataW.trod_slice hu hx with ⟨rfl,_⟩ | ⟨a,len,cap,elems,rest,fu,_,rfl,_,_,hle,ac3,xP,hE,hR,_⟩
        · refine ⟨E,B,ρ,[.ts e .any 0 [] mT],hi,Env.le_refl _,ao.le_refl _,⟨[.slice .none 0 0],.cons ?_ .nil,.cons (by simp [VR]) .nil⟩,⟨⟨Nat.zero_le _,trivial⟩,trivial⟩,fun m l h=>fin rfl h rfl⟩
          simp only [VK]
          exact ⟨⟨rfl,fun i h=>by omega,rfl⟩,[],.nil,.none,0,rfl,Nat.le_refl _,.inl ⟨rfl,rfl⟩,trivial⟩
        · have hxs:∀ i,i < len→∃ x,(W.cells? 0 (a.add (i * P.cellsOf e)) (P.cellsOf e)).bind (DataW.trod enc P W 0 (fun _=>true) true fu e)=some x:=by
            intro i h
            rw [hE i h]
            exact ⟨_,List.getElem?_eq_getElem (by rw [xP]; exact h)⟩
          obtain ⟨E1,B1,hX,es,us,fl,h1,h2,h3,h4,h5,h6,h7,h8,h9,vi,Vx⟩:=Ox IH yO hl Dm tV rfl hc1 hxs hi len (Nat.le_refl _)
          have qt:0 < cap→a.block < W.heap.size∧a.spot = .none:=by
            intro h0
            by_cases Fs:0 < len
            · exact Vx Fs
            · have Fs:len=0:=by omega
              subst Fs
              obtain ⟨Qt,n7⟩:=hR rfl
              have hr3:=n7 0 (by omega)
              rw [List.getElem?_eq_getElem (by rw [Qt]; omega)] at hr3
              obtain ⟨bI,ac8,_⟩:=Option.bind_eq_some_iff.1 hr3
              obtain ⟨hlen,gp⟩:=RY ac8
              have h0:0 < bI.length:=by rw [hlen]; omega
              have:=LH (gp 0 _ (List.getElem?_eq_getElem h0))
              exact ⟨this.2.1,this.2.2 (by omega)⟩
          have hh:0 < W.heap.size:=hp a len cap (by simp)
          have hlenes:us.length=len:=by rw [h5.length,h4]
          have aaA:∃ lc:av.Loc,lc.bm=P.cellsOf e∧lc.cb < W.heap.size∧lc.dh+fl.length≤lc.vc∧(cap≠0→a=⟨lc.cb,lc.dh,.none⟩)∧lc.dh+cap * lc.bm≤lc.vc∧
              (∀ (i:Nat) (v:Value),fl[i]? = some v→∃ v',W.cell? ⟨lc.cb,lc.dh+i,.none⟩=some v'∧VR hX v v'∧scalar v=true):=by
            by_cases h0:cap=0
            · subst h0
              have Fs:len=0:=by omega
              subst Fs
              refine ⟨⟨0,0,0,P.cellsOf e⟩,rfl,hh,by simp [h8],fun h=>absurd rfl h,by simp,fun i v hv=>?_⟩
              have:fl = []:=by apply List.eq_nil_of_length_eq_zero; simp [h8]
              rw [this] at hv; simp at hv
            · obtain ⟨p1,p2⟩:=qt (by omega)
              refine ⟨⟨a.block,a.off,a.off+cap * P.cellsOf e,P.cellsOf e⟩,rfl,p1,?_,fun _=>?_,Nat.le_refl _,vi⟩
              · rw [h8]; exact Nat.add_le_add_left (Nat.mul_le_mul_right _ hle) _
              · obtain ⟨b,o,s⟩:=a
                simp at p2
                simp [p2]
          obtain ⟨lc,l1,l2,l3,l4,l5,l6⟩:=aaA
          obtain ⟨i1,i2,i3⟩:=h1.add l6 l2 l3
          refine ⟨_,_,_,[.ts e .any len es (DA es)],i1,Env.le_trans h2 i2,ao.le_trans h3 i3,⟨[.slice (some ⟨B1.next,0,.none⟩) len len],.cons ?_ .nil,.cons ?_ .nil⟩,⟨⟨by omega,h7⟩,trivial⟩,fun m l h=>fin rfl h rfl⟩
          · simp only [VK]
            refine ⟨⟨h4.symm,fun i _=>rfl,by rw [hlF]; exact h6⟩,us,h5.mono i2,some ⟨B1.next,0,.none⟩,len,rfl,Nat.le_refl _,.inr ⟨B1.next,0,⟨fl,lc.bm,false,.none⟩,rfl,by simp [Env.fp],by rw [l1,du],?_⟩,trivial⟩
            rw [du]
            exact h9
          · simp only [VR]
            exact ⟨trivial,Nat.le_refl _,lc,a,cap,by simp [ao.set],hle,fun h=>by simpa using l4 h,by simpa using l5,rfl⟩
      · simp at ht3
    · rename_i fs hu
      simp only [Bool.and_eq_true,List.all_eq_true] at ht
      split at ht
      · rename_i k hk
        have hkc:=Nat.eq_of_beq_eq_true ht.2
        obtain ⟨xs,fu,_,_,hlen,hxs,hf⟩:=DataW.trod_struct hu hx
        have hff:∀ f ∈ fs.toList,∃ x,DataW.trod enc P W 0 (fun _=>true) true fu f.type ((cs.drop f.offset).take (P.cellsOf f.type))=some x:=by
          intro f hm
          obtain ⟨i,PE⟩:=List.getElem?_of_mem hm
          have Yt:fs[i]? = some f:=by simpa using PE
          have aL:i < xs.length:=by rw [hxs]; exact (Array.getElem?_eq_some_iff.1 Yt).1
          exact ⟨xs[i],by rw [hf i f Yt]; exact List.getElem?_eq_getElem aL⟩
        obtain ⟨_,E1,B1,hX,ks,h1,h2,h3,h4,h5,h6⟩:=LG IH hp fs.toList 0 k E B ρ hi hk (by rw [hkc,hlen]; exact Nat.le_refl _) ht.1 hff
        refine ⟨E1,B1,hX,ks,h1,h2,h3,?_,h5,fun m l h=>?_⟩
        · have e:(cs.drop 0).take (k - 0)=cs:=by rw [List.drop_zero,Nat.sub_zero,hkc,← hlen,List.take_length]
          rw [e] at h4
          exact h4
        · obtain ⟨m',rfl⟩:=hn h
          simp only [lay,hu,Option.map_eq_some_iff] at h
          obtain ⟨l',ka,rfl⟩:=h
          exact h6 m' l' ka
      · simp at ht
    · rename_i len e hu
      simp only [Bool.and_eq_true] at ht
      have hkc:=Nat.eq_of_beq_eq_true ht.2
      obtain ⟨xs,fu,_,_,hlen,hxs,hf⟩:=DataW.trod_array hu hx
      have hff:∀ i,i < len→∃ x,DataW.trod enc P W 0 (fun _=>true) true fu e ((cs.drop (i * P.cellsOf e)).take (P.cellsOf e))=some x:=by
        intro i h
        exact ⟨xs[i],by rw [hf i h]; exact List.getElem?_eq_getElem (by rw [hxs]; exact h)⟩
      obtain ⟨E1,B1,hX,ks,h1,h2,h3,h4,h5,h6⟩:=Ow IH hp ht.1 rfl (by rw [hlen,hkc]; exact Nat.le_refl _) hff hi len (Nat.le_refl _)
      refine ⟨E1,B1,hX,ks,h1,h2,h3,?_,h5,fun m l h=>?_⟩
      · rw [← hkc,← hlen,List.take_length] at h4
        exact h4
      · obtain ⟨m',rfl⟩:=hn h
        simp only [lay,hu,Option.map_eq_some_iff] at h
        obtain ⟨l',ka,rfl⟩:=h
        exact h6 m' l' ka
    · simp at ht
end
end Go.K
end
section
namespace Go.K
open Go Go.av Go.WideShapes
mutual
def aed (P:Program):KV→Prop
  | .ts T _ n es acc=>gM P T n es acc∧D9 P es
  | .agg cs=>D9 P cs
  | _=>True
def D9 (P:Program):List KV→Prop
  | []=>True
  | v :: vs=>aed P v∧D9 P vs
end
mutual
theorem VK.deep {P:Program} {E:Env} : ∀ {v:KV} {u:Value},VK P E v u→aed P v
  | .ts T m n es acc,u,h=>by
    obtain ⟨h1,us,h2,_⟩:=h.kY
    exact ⟨h1,aP.deep h2⟩
  | .agg cs,u,h=>by
    obtain ⟨l,_,h1⟩:=h.kT
    exact aP.deep (vs:=cs) h1
  | .int _ _,_,_ | .bool _,_,_ | .str _,_,_ | .pQ _,_,_ | .tp ..,_,_ | .ptr ..,_,_ | .al ..,_,_ | .ap ..,_,_ | .sl ..,_,_ | .yz,_,_ | .jL,_,_ | .vm,_,_ | .map _,_,_ | .fn ..,_,_ | .zC,_,_ | .iface ..,_,_ | .zD,_,_ | .aq,_,_=>trivial
theorem aP.deep {P:Program} {E:Env} : ∀ {vs:List KV} {us:List Value},aP P E vs us→D9 P vs
  | [],_,_=>trivial
  | v :: vs,us,h=>by
    simp only [aP] at h
    obtain ⟨y,ys,_,h1,h2⟩:=h
    exact ⟨VK.deep h1,aP.deep h2⟩
end
def nc (P:Program):List TypeId→List KV→Bool
  | [],[]=>true
  | t :: ts,v :: vs=>cZ (bj P t) v && nc P ts vs
  | _,_=>false
theorem Oy {P:Program} : ∀ {ts:List TypeId} {ah7:List KV},nc P ts ah7=true→ah7.length=ts.length
  | [],[],_=>rfl
  | [],_ :: _,h=>by simp [nc] at h
  | _ :: _,[],h=>by simp [nc] at h
  | t :: ts,v :: vs,h=>by
    simp only [nc,Bool.and_eq_true] at h
    simp [Oy h.2]
def LI (P:Program) (t:TypeId):Bool:=vC P 30 t && (match lay P 12 t with
  | some l=>Nat.beq l.ks.length (P.cellsOf t)
  | .none=>false)
section
variable {H:Type} {enc:TypeId×Value→H} {P:Program} {W:World}
theorem V0 {r:Reach} {base:Nat} {t:TypeId} {v:Value} (h:Value.okWide P W r base t v):RW W v.cells.toList:=by
  intro a n c hm
  have cell:∀ u,Cell.okWide P W r base u (.slice (some a) n c)→0 < W.heap.size:=by
    intro u hu
    unfold Cell.okWide at hu
    split at hu <;> try (rename_i heq; simp at heq; done)
    unfold Cell.ok at hu
    split at hu <;> try (rename_i heq; simp at heq; done)
    · rename_i e heq
      simp at heq
      obtain ⟨rfl,rfl,rfl⟩:=heq
      obtain ⟨_,_,_,_,row,cells,hs,_⟩:=hu
      unfold World.shape? at hs
      split at hs
      · rename_i hh
        have:=(Array.getElem?_eq_some_iff.1 hh).1
        omega
      · simp at hs
    · exact hu.elim
  unfold Value.okWide at h
  split at h
  · obtain ⟨cs,rfl,_,ts,_,_,hc⟩:=h
    obtain ⟨i,hi⟩:=List.getElem?_of_mem hm
    obtain ⟨u,_,hu⟩:=hc i _ (by simpa [Value.cells] using hi)
    exact cell u hu
  · obtain ⟨cs,rfl,_,ts,_,_,hc⟩:=h
    obtain ⟨i,hi⟩:=List.getElem?_of_mem hm
    obtain ⟨u,_,hu⟩:=hc i _ (by simpa [Value.cells] using hi)
    exact cell u hu
  · have hv:v.cells.toList = [v]∨∃ cs,v = .agg cs:=by cases v <;> first | exact .inl rfl | exact .inr ⟨_,rfl⟩
    rcases hv with hv | ⟨cs,rfl⟩
    · rw [hv] at hm
      simp at hm
      subst hm
      exact cell t h
    · exfalso
      unfold Cell.okWide at h
      split at h <;> try (rename_i heq; simp at heq; done)
      unfold Cell.ok at h
      split at h <;> first | (rename_i heq; simp at heq; done) | exact h.elim
theorem ace {E:Env} {B:St} {ρ:ao} {t:TypeId} {v:Value} {d:DataW H} {ps:List MemPlace} {r:Reach} {base:Nat} (ht:LI P t=true) (hd:DataW.Trod enc P W 0 (fun _=>true) true t v d ps) (hw:Value.okWide P W r base t v) (hi:HR P W E B ρ) :
    ∃ E' B' ak a,HR P W E' B' ak∧E.le E'∧ρ.le ak∧VC P E' ak a v∧cZ (bj P t) a=true∧wfK a:=by
  unfold LI at ht
  simp only [Bool.and_eq_true] at ht
  obtain ⟨rG,yO⟩:=ht
  split at yO
  · rename_i l hl
    obtain ⟨fuel,hf⟩:=hd
    obtain ⟨E1,B1,hX,ks,h1,h2,h3,⟨m,h4,h4'⟩,h5,h6⟩:=Ys 30 t rG fuel _ _ E B ρ hf (V0 hw) hi
    have hk:=h6 12 l hl
    have hlF:bj P t=l:=by simp [bj,hl]
    have abn:(l.agg=true∧∃ cs:Array Value,v = .agg cs)∨(l.agg=false∧l.ks.length=1∧v.cells.toList = [v]):=by
      unfold vC at rG
      split at rG
      · rename_i k hu
        obtain ⟨n,rfl⟩:=okWide_int hu hw
        simp only [lay,hu,Option.some.injEq] at hl
        subst hl; exact .inr ⟨rfl,rfl,rfl⟩
      · rename_i hu
        obtain ⟨n,rfl⟩:=okWide_bool hu hw
        simp only [lay,hu,Option.some.injEq] at hl
        subst hl; exact .inr ⟨rfl,rfl,rfl⟩
      · rename_i hu
        obtain ⟨n,rfl⟩:=okWide_string hu hw
        simp only [lay,hu,Option.some.injEq] at hl
        subst hl; exact .inr ⟨rfl,rfl,rfl⟩
      · rename_i e hu
        obtain ⟨a,n,c,rfl⟩:=okWide_slice hu hw
        simp only [lay,hu,Option.some.injEq] at hl
        subst hl; exact .inr ⟨rfl,rfl,rfl⟩
      · rename_i fs hu
        simp only [lay,hu,Option.map_eq_some_iff] at hl
        obtain ⟨_,_,rfl⟩:=hl
        unfold Value.okWide at hw
        rw [hu] at hw
        obtain ⟨cs,rfl,_⟩:=hw
        exact .inl ⟨rfl,cs,rfl⟩
      · rename_i len e hu
        simp only [lay,hu,Option.map_eq_some_iff] at hl
        obtain ⟨_,_,rfl⟩:=hl
        unfold Value.okWide at hw
        rw [hu] at hw
        obtain ⟨cs,rfl,_⟩:=hw
        exact .inl ⟨rfl,cs,rfl⟩
      · simp at rG
    refine ⟨E1,B1,hX,EN l.agg ks,h1,h2,h3,?_,?_,abm h5⟩
    · rcases abn with ⟨ha,cs,rfl⟩ | ⟨ha,hlen,hv⟩
      · rw [ha]
        exact ⟨.agg ⟨m⟩,.ny h4,VR.ny (l':=cs.toList) h4'⟩
      · rw [ha]
        rw [hv] at h4'
        have W7:m.length=1:=by have:=h4'.length; simpa using this.symm
        have:=Rj (agg:=false) h4 (.inr W7)
        match m,W7,h4',this with
        | [y],_,h4',this=>
          obtain ⟨z,zs,e,q1,_⟩:=h4'.cons_inv
          simp at e
          refine ⟨y,this,?_⟩
          rw [e.1]; exact q1
    · rw [hlF]
      exact M3 hk (abn.imp (·.1) (·.2.1))
  · simp at yO
theorem RZ {r:Reach} {base:Nat} : ∀ {ts:List TypeId} {vs:List Value} {ds:List (DataW H)} {ps:List MemPlace} {E:Env} {B:St} {ρ:ao},(∀ t ∈ ts,LI P t=true)→DataW.TrodAll enc P W 0 (fun _=>true) true ts vs ds ps→
    (∀ (j:Nat) t v,ts[j]? = some t→vs[j]? = some v→Value.okWide P W r base t v)→HR P W E B ρ→∃ E' B' ak ah7,HR P W E' B' ak∧E.le E'∧ρ.le ak∧xS P E' ak ah7 vs∧nc P ts ah7=true∧CI ah7
  | [],vs,ds,ps,E,B,ρ,_,h,_,hi=>by
    obtain ⟨rfl,_,_⟩:=Go.ChangeShapes.trodAll_nil h
    exact ⟨E,B,ρ,[],hi,Env.le_refl _,ao.le_refl _,⟨[],.nil,.nil⟩,rfl,trivial⟩
  | t :: ts,vs,ds,ps,E,B,ρ,ht,h,hw,hi=>by
    obtain ⟨v,Yk,d,ds1,a,b,rfl,rfl,rfl,h1,h2⟩:=Go.ChangeShapes.trodAll_cons h
    obtain ⟨E1,B1,hX,x,q1,q2,q3,⟨u,q4,q4'⟩,q5,q6⟩:=ace (ht t (by simp)) h1 (hw 0 t v rfl rfl) hi
    obtain ⟨E2,B2,kc,xs,p1,p2,p3,⟨m,p4,p4'⟩,p5,p6⟩:=RZ (fun t' h'=>ht t' (by simp [h'])) h2 (fun j t' v' h3 h4=>hw (j+1) t' v' (by simpa using h3) (by simpa using h4)) q1
    exact ⟨E2,B2,kc,x :: xs,p1,Env.le_trans q2 p2,ao.le_trans q3 p3,⟨u :: m,.cons (q4.mono p2) p4,.cons (q4'.mono p3) p4'⟩,by simp [nc,q5,p5],⟨q6,p6⟩⟩
theorem afu (hP:P.funcs.toList.all jf=true) (hm:P.follows .mixedOrders=true) {cfg:dQ} (fT:o7 P cfg.pc) (kL:rM P cfg) {L n:Nat} {f:FuncId} {ts:List TypeId} (hts:ts.all (LI P)=true)
    (im:∀ ah7,nc P ts ah7=true→CI ah7→D9 P ah7→lL P cfg L n f (normArgs P ts ah7)=some (.bool true)) {args:Array Value} {ds:List (DataW H)} {ps:List MemPlace} {r:Reach} {base:Nat}
    (hd:DataW.TrodAll enc P W 0 (fun _=>true) true ts args.toList ds ps) (hw:∀ (j:Nat) t v,ts[j]? = some t→args.toList[j]? = some v→Value.okWide P W r base t v) :
    Calls P f args W fun e w'=>e = .returned (.bool true)∧RowKit.Below W.heap.size W w':=by
  obtain ⟨E,B,ρ,ah7,h1,_,_,h4,h5,h6⟩:=RZ (List.all_eq_true.1 hts) hd hw (HR.start P W)
  have agK:D9 P ah7:=by obtain ⟨m,q,_⟩:=h4; exact q.deep
  have kH:=im ah7 h5 h6 agK
  have h4:xS P E ρ (normArgs P ts ah7) args.toList:=by
    obtain ⟨m,q,q'⟩:=h4
    exact ⟨m,aP.RF rfl q (Oy h5),q'⟩
  have vx:=qL (R:=KV) hP hm fT kL L n
  obtain ⟨fn,c,hf,hc,bc,Xc,kH⟩:=Gg hP kH
  have:=DY fT vx hm L hf hc bc (kL.2 f fn c hf hc) kH h4 (base:=W.heap.size) (w:=W) ⟨h1.k,h1.dz⟩
  refine this.mono ?_
  rintro e w' ⟨vs,bP,E1,A1,B1,hX,rfl,⟨m,q1,q1'⟩,q2,q3⟩
  have q3:Bool.rec (motive:=fun _=>Option KV) .none (some (zF (se P (py P f) (wh A1 vs).1))) (Nat.beq vs.length (py P f).length)=some (.bool true):=q3
  obtain ⟨E2,_,q1⟩:=AL q2.dz q1
  cases hb:Nat.beq vs.length (py P f).length with
  | false=>rw [hb] at q3; exact absurd q3 (by simp)
  | true=>
    rw [hb] at q3
    have q3:some (zF (se P (py P f) (wh A1 vs).1))=some (.bool true):=q3
    simp only [Option.some.injEq] at q3
    have hv:VC P E2 hX (zF (se P (py P f) (wh A1 vs).1)) (VT bP):=Gf ⟨m,by rw [zW]; exact aP.RF rfl q1 ((DS A1 vs).trans (Nat.eq_of_beq_eq_true hb)),q1'⟩
    rw [q3] at hv
    have hg:=q2.ej
    refine ⟨by rw [hv.dC],hg.kept.os,hg.kept.tape,hg.kept.output,hg.kept.size,fun k hk=>hg.kept.block k hk ?_⟩
    rintro ⟨b,o,l,ho,vh,_⟩
    rw [(h1.nA b o ho).1] at vh
    simp at vh
end
noncomputable def Un:List (Nat×(List KV→KR KV))→FuncId→Option (List KV→KR KV)
  | [],_=>.none
  | p :: ps,g=>cond (Nat.beq p.1 g) (some p.2) (Un ps g)
theorem abo {P:Program} : ∀ {ps:List (Nat×(List KV→KR KV))},(∀ p ∈ ps,gN P p.1 p.2)→o7 P (Un ps)
  | [],_=>fun g F h=>by simp [Un] at h
  | p :: ps,h=>fun g F hF=>by
    unfold Un at hF
    cases hb:Nat.beq p.1 g with
    | true=>
      rw [hb] at hF
      simp only [cond_true,Option.some.injEq] at hF
      have:=Nat.eq_of_beq_eq_true hb
      subst this hF
      exact h p (by simp)
    | false=>
      rw [hb] at hF
      exact abo (fun q hq=>h q (List.mem_cons_of_mem _ hq)) g F hF
theorem Yu (l:r7):cZ l .aq=false:=by
  show (!l.agg && au l.ks [.aq])=false
  cases l.ks with
  | nil=>simp [au]
  | cons c cs=>cases c <;> simp [au,kindOk]
theorem aad {P:Program} {t:TypeId} {v:KV} (h:cZ (bj P t) (K7 P t v)=true):∃ w,K7 P t v=cf P (aK P a6) t w:=by
  unfold K7 at h ⊢
  cases hb:cZ (bj P t) (hH (bj P t) v) with
  | false=>rw [hb,cond_false,Yu] at h; simp at h
  | true=>exact ⟨hH (bj P t) v,rfl⟩
theorem Ea:∀ {ks:List CK} {cs:List KV},au ks cs=true→vp ks cs=cs
  | [],[],_=>rfl
  | [],_ :: _,h=>by simp [au] at h
  | _ :: _,[],h=>by simp [au] at h
  | k :: ks,v :: vs,h=>by
    simp only [au,Bool.and_eq_true] at h
    have e:lA k v=v:=by
      unfold lA
      split
      · simp [kindOk] at h
      · rename_i t t' m n es acc
        cases m <;> simp [kindOk] at h
        obtain ⟨rfl,_⟩:=h
        rw [Nat.beq_refl,cond_true]
      · rw [h.1]; rfl
    rw [vp,e,Ea h.2]
theorem Yv {l:r7} {v:KV} (h:cZ l v=true):hH l v=v:=by
  by_cases ha:∃ cs,v = .agg cs
  · obtain ⟨cs,rfl⟩:=ha
    simp only [cZ,Bool.and_eq_true] at h
    show cond (l.agg && Nat.beq cs.length l.ks.length) (KV.agg (vp l.ks cs)) .aq=_
    rw [h.1,oz h.2,Ea h.2]
    simp
  · have h1:(!l.agg && au l.ks [v])=true:=by
      cases v <;> first | exact h | exact absurd ⟨_,rfl⟩ ha | simp [cZ] at h
    simp only [Bool.and_eq_true,Bool.not_eq_true'] at h1
    have e:hH l v=cond l.agg .aq (match l.ks with | [c]=>lA c v | _=>.aq):=by
      cases v <;> first | rfl | exact absurd ⟨_,rfl⟩ ha
    rw [e,h1.1,cond_false]
    match hk:l.ks,h1.2 with
    | [c],h2=>
      have:=Ea h2
      simpa [vp] using this
    | [],h2=>simp [au] at h2
    | _ :: _ :: _,h2=>simp [au] at h2
theorem aae {P:Program} {t:TypeId} {v:KV} (h:cZ (bj P t) v=true):K7 P t v=cf P (aK P a6) t v:=by
  unfold K7
  rw [Yv h,h,cond_true]
noncomputable def iC (P:Program):List TypeId→(Nat→KV)→Nat→List KV
  | [],_,_=>[]
  | t :: ts,w,k=>cf P (aK P a6) t (w k) :: iC P ts w (Nat.succ k)
theorem LJ {P:Program} : ∀ {ts:List TypeId} {w w' : Nat→KV} {k:Nat},(∀ i,k≤i→w i=w' i)→iC P ts w k=iC P ts w' k
  | [],_,_,_,_=>rfl
  | t :: ts,w,w',k,h=>by
    rw [iC,iC,h k (Nat.le_refl _),LJ fun i hi=>h i (by omega)]
theorem R4 {P:Program} : ∀ {ts:List TypeId} {ah7:List KV} (k:Nat),nc P ts (normArgs P ts ah7)=true→∃ w,normArgs P ts ah7=iC P ts w k
  | [],ah7,k,_=>⟨fun _=>.aq,by cases ah7 <;> rfl⟩
  | t :: ts,[],k,h=>by simp [normArgs,nc] at h
  | t :: ts,v :: vs,k,h=>by
    simp only [normArgs,nc,Bool.and_eq_true] at h
    obtain ⟨w,hw⟩:=aad h.1
    obtain ⟨w',hw'⟩:=R4 (k+1) h.2
    refine ⟨fun i=>if i=k then w else w' i,?_⟩
    rw [normArgs,iC,hw,hw',if_pos rfl]
    rw [LJ (w:=w') (w':=fun i=>if i=k then w else w' i) fun i hi=>by rw [if_neg (by omega)]]
theorem R5 {P:Program} : ∀ {ts:List TypeId} {ah7:List KV} (k:Nat) {w:Nat→KV},nc P ts ah7=true→(∀ i,i < ah7.length→w (k+i)=ah7.getD i .aq)→normArgs P ts ah7=iC P ts w k
  | [],[],k,_,_,_=>rfl
  | [],_ :: _,_,_,h,_=>by simp [nc] at h
  | _ :: _,[],_,_,h,_=>by simp [nc] at h
  | t :: ts,v :: vs,k,w,h,hw=>by
    simp only [nc,Bool.and_eq_true] at h
    rw [normArgs,iC,aae h.1,R5 (k+1) (w:=w) h.2 fun i hi=>by have:=hw (i+1) (by simp; omega); rw [show k+1+i=k+(i+1) by omega,this]; rfl]
    have:=hw 0 (by simp)
    rw [Nat.add_zero] at this
    rw [this]; rfl
noncomputable def kz (P:Program) (g:FuncId) (F:List KV→KR KV):List KV→KR KV:=fun ah7=>cond (nc P (bM P g) ah7) (F ah7) .no
theorem aee {P:Program} {g:FuncId} {F:List KV→KR KV} (hP:P.funcs.toList.all jf=true) (hm:P.follows .mixedOrders=true) {cfg:dQ} (fT:o7 P cfg.pc) (kL:rM P cfg) {L n:Nat}
    (h:∀ w v,aG (F (iC P (bM P g) w 0)) v→lL P cfg L n g (iC P (bM P g) w 0)=some v) (hy:Nat.blt g yB=true:=by rfl):gN P g (kz P g F):=
  adU hy hP hm fun ah7 v _ hF=>by
    unfold kz at hF
    obtain ⟨hb,hF⟩:=aG.cond hF
    obtain ⟨w,hw⟩:=R4 0 hb
    rw [hw] at hF ⊢
    exact ⟨cfg,L,n,fT,kL,h w v hF⟩
noncomputable def aef (P:Program) (d:CD) (w:KV):KV:=
  match d with
  | .k c=>aK P a6 (leaf c w)
  | .lit v=>v
  | .aW t=>aK P a6 (leaf (.slice t) w)
  | .arr t=>aK P a6 (leaf (.slice t) w)
  | .ref v=>v
noncomputable def BG (P:Program):List CD→(Nat→KV)→Nat→List KV
  | [],_,_=>[]
  | d :: ds,w,k=>aef P d (w k) :: BG P ds w (Nat.succ k)
noncomputable def V1 (P:Program) (d:VD) (w:Nat→KV):KV:=Bool.rec (motive:=fun _=>KV) ((BG P d.ks w 0).headD .aq) (.agg (BG P d.ks w 0)) d.agg
noncomputable def kA (P:Program):List (Tmp×VD)→(Nat→Nat→KV)→Nat→List KV
  | [],_,_=>[]
  | p :: ps,w,k=>V1 P p.2 (w k) :: kA P ps w (Nat.succ k)
noncomputable def kC (P:Program):List (Tmp×List CD×Nat)→(Nat→Nat→KV)→Nat→List (List KV)
  | [],_,_=>[]
  | p :: ps,w,k=>BG P p.2.1 (w k) 0 :: kC P ps w (Nat.succ k)
theorem Uo {P:Program} {A:aj} {d:CD} {v:KV} (h:iu d (dW P A d v)=true):∃ w,dW P A d v=aef P d w:=by
  cases d with
  | ref u=>exact ⟨.aq,rfl⟩
  | k c=>
    have e:dW P A (.k c) v=cond (kindOk c (lA c v)) (aK P a6 (leaf c (lA c v))) .aq:=rfl
    cases hb:kindOk c (lA c v) with
    | true=>exact ⟨lA c v,by rw [e,hb]; rfl⟩
    | false=>
      rw [e,hb] at h
      cases c <;> simp [iu,kindOk] at h
  | lit u=>
    have e:dW P A (.lit u) v=cond (rN u v) u .aq:=rfl
    cases hb:rN u v with
    | true=>exact ⟨.aq,by rw [e,hb]; rfl⟩
    | false=>
      rw [e,hb,cond_false] at h
      have h:rN u .aq=true:=h
      cases u <;> first | (simp [rN] at h; done) | (rename_i f a b; cases f <;> cases a <;> cases b <;> simp [rN] at h)
  | aW t=>
    cases v with
    | jL=>exact ⟨.ts t .any 0 [] mT,rfl⟩
    | ts t' m n es acc=>
      cases m with
      | aW f=>
        have e:dW P A (.aW t) (.ts t' (.aW f) n es acc)=cond (Nat.beq t t') (aK P a6 (.ts t .any n es acc)) .aq:=rfl
        cases hb:Nat.beq t t' with
        | true=>exact ⟨.ts t .any n es acc,by rw [e,hb]; rfl⟩
        | false=>rw [e,hb] at h; simp [iu,kindOk] at h
      | _=>simp [dW,iu,kindOk] at h
    | _=>simp [dW,iu,kindOk] at h
  | arr t=>
    rcases Nc h with rfl | ⟨b,n,m,N,es,acc,rfl,_,he⟩
    · exact ⟨.ts t .any 0 [] mT,rfl⟩
    · exact ⟨.ts t .any N es acc,he⟩
theorem LK {P:Program} : ∀ {ds:List CD} {w w' : Nat→KV} {k:Nat},(∀ i,k≤i→w i=w' i)→BG P ds w k=BG P ds w' k
  | [],_,_,_,_=>rfl
  | t :: ts,w,w',k,h=>by
    rw [BG,BG,h k (Nat.le_refl _),LK fun i hi=>h i (by omega)]
theorem Ng {P:Program} {A:aj} : ∀ {ds:List CD} {vs:List KV} (k:Nat),c7 ds (dX P A ds vs)=true→∃ w,dX P A ds vs=BG P ds w k
  | [],vs,k,_=>⟨fun _=>.aq,by cases vs <;> rfl⟩
  | d :: ds,[],k,h=>by simp [dX,c7] at h
  | d :: ds,v :: vs,k,h=>by
    simp only [dX,c7,Bool.and_eq_true] at h
    obtain ⟨w,hw⟩:=Uo h.1
    obtain ⟨w',hw'⟩:=Ng (k+1) h.2
    refine ⟨fun i=>if i=k then w else w' i,?_⟩
    rw [dX,BG,hw,hw',if_pos rfl]
    rw [LK (w:=w') (w':=fun i=>if i=k then w else w' i) fun i hi=>by rw [if_neg (by omega)]]
theorem acf {P:Program} {A:aj} {d:VD} {v:KV} (h:si d (qY P A d v)=true):∃ w,qY P A d v=V1 P d w:=by
  have tV:=tu h
  rcases tv h with ⟨cs,rfl,h1,h2,h3⟩ | ⟨h0,c,h1,h2,h3,h4,h5⟩
  · obtain ⟨w,hw⟩:=Ng 0 h3
    refine ⟨w,?_⟩
    have:d.agg=true:=by
      rcases tV with ⟨_,_,q,_⟩ | ⟨q,_⟩
      · exact q
      · exact absurd h2 (q _)
    rw [h2,hw,V1,this]
  · obtain ⟨w,hw⟩:=Uo h3
    refine ⟨fun _=>w,?_⟩
    have:d.agg=false:=by
      rcases tV with ⟨cs,q,_⟩ | ⟨_,q,_⟩
      · rw [h2] at q; exact absurd q (h5 _)
      · exact q
    rw [h2,hw,V1,this,h1]; rfl
theorem IG {P:Program} : ∀ {ps:List (Tmp×VD)} {w w' : Nat→Nat→KV} {k:Nat},(∀ i,k≤i→w i=w' i)→kA P ps w k=kA P ps w' k
  | [],_,_,_,_=>rfl
  | t :: ts,w,w',k,h=>by
    rw [kA,kA,h k (Nat.le_refl _),IG fun i hi=>h i (by omega)]
theorem R6 {P:Program} {t:bp} {A:aj} : ∀ {ps:List (Tmp×VD)} (k:Nat),gd ps (nD P t A ps)=true→∃ w,nD P t A ps=kA P ps w k
  | [],k,_=>⟨fun _ _=>.aq,rfl⟩
  | p :: ps,k,h=>by
    simp only [nD,gd,Bool.and_eq_true] at h
    obtain ⟨w,hw⟩:=acf h.1
    obtain ⟨w',hw'⟩:=R6 (k+1) h.2
    refine ⟨fun i=>if i=k then w else w' i,?_⟩
    rw [nD,kA,hw,hw',if_pos rfl]
    rw [IG (w:=w') (w':=fun i=>if i=k then w else w' i) fun i hi=>by rw [if_neg (by omega)]]
theorem II {P:Program} : ∀ {ps:List (Tmp×List CD×Nat)} {w w' : Nat→Nat→KV} {k:Nat},(∀ i,k≤i→w i=w' i)→kC P ps w k=kC P ps w' k
  | [],_,_,_,_=>rfl
  | t :: ts,w,w',k,h=>by
    rw [kC,kC,h k (Nat.le_refl _),II fun i hi=>h i (by omega)]
theorem R7 {P:Program} : ∀ {ps:List (Tmp×List CD×Nat)} {rs:List (List KV)} (k:Nat),rs.length=ps.length→(∀ (i:Nat) p r,ps[i]? = some p→rs[i]? = some r→c7 p.2.1 r=true)→
    (∀ (i:Nat) p,ps[i]? = some p→∃ A kR,rs[i]? = some (dX P A p.2.1 kR)∧kR.length=p.2.1.length)→∃ w,rs=kC P ps w k
  | [],[],k,_,_,_=>⟨fun _ _=>.aq,rfl⟩
  | [],_ :: _,_,h,_,_=>by simp at h
  | _ :: _,[],_,h,_,_=>by simp at h
  | p :: ps,r :: rs,k,hl,hg,hn=>by
    obtain ⟨A,kR,h1,_⟩:=hn 0 p rfl
    simp only [List.getElem?_cons_zero,Option.some.injEq] at h1
    have h2:=hg 0 p r rfl rfl
    rw [h1] at h2
    obtain ⟨w,hw⟩:=Ng 0 h2
    obtain ⟨w',hw'⟩:=R7 (ps:=ps) (rs:=rs) (k+1) (by simpa using hl) (fun i p r a b=>hg (i+1) p r (by simpa using a) (by simpa using b)) fun i p a=>by simpa using hn (i+1) p (by simpa using a)
    refine ⟨fun i=>if i=k then w else w' i,?_⟩
    rw [kC,h1,hw,if_pos rfl]
    congr 1
    rw [hw']
    exact II fun i hi=>by rw [if_neg (by omega)]
theorem wi.form {P:Program} {S:aD} {vs:List KV} {rs:List (List KV)} (h:wi P S vs rs):∃ wv wr,vs=kA P S.dL wv 0∧rs=kC P S.rows wr 0:=by
  obtain ⟨t,A,ht⟩:=h.vn
  have hv:=h.v
  rw [ht] at hv
  obtain ⟨wv,hwv⟩:=R6 0 hv
  obtain ⟨wr,hwr⟩:=R7 0 h.pE h.sQ h.rn
  exact ⟨wv,wr,by rw [ht,hwv],hwr⟩
inductive aE (X:Type) where
  | fail
  | next (x:X)
  | out (e:ai) (x:X)
def aE.enc {X:Type} (ev:X→List KV) (er:X→List (List KV)):aE X→Option (ai×List KV×List (List KV))
  | .fail=>.none
  | .next x=>some (.normal,ev x,er x)
  | .out e x=>some (e,ev x,er x)
theorem aE.dc {X:Type} (ev:X→List KV) (er:X→List (List KV)) (c:Bool) (a b:aE X):aE.enc ev er (cond c a b)=cond c (aE.enc ev er a) (aE.enc ev er b):=by cases c <;> rfl
def aE.go {X:Type} (step:X→aE X):Nat→X→aE X
  | 0,_=>.fail
  | n+1,x=>match step x with
    | .fail=>.fail
    | .next x=>aE.go step n x
    | .out e x=>cond (uL e) .fail (.out e x)
def dM:ai→ai→Bool
  | .normal,.normal=>true
  | .exit i,.exit j=>Nat.beq i j
  | .goto i,.goto j=>Nat.beq i j
  | .ret,.ret=>true
  | _,_=>false
theorem V2 {a b:ai} (h:dM a b=true):a=b:=by
  cases a <;> cases b <;> simp [dM] at h <;> first | rfl | (subst h; rfl)
def aE.by {X:Type} (s:aE X) (e:ai):Bool:=
  match s with
  | .out e' _=>dM e' e
  | _=>false
def aE.st {X:Type} [Inhabited X] (s:aE X):X:=
  match s with
  | .out _ x=>x
  | _=>default
theorem Yw {X:Type} {step:X→aE X} {ev:X→List KV} {er:X→List (List KV)} {rd:List KV→List (List KV)→Option (ai×List KV×List (List KV))} (h:∀ x,rd (ev x) (er x)=aE.enc ev er (step x)) :
    ∀ (n:Nat) (x:X) (e:ai) (y:X),aE.go step n x = .out e y→uj rd n (ev x) (er x)=some (e,ev y,er y)
  | 0,x,e,y,hg=>by simp [aE.go] at hg
  | n+1,x,e,y,hg=>by
    simp only [aE.go] at hg
    have hx:=h x
    cases hs:step x with
    | fail=>rw [hs] at hg; simp at hg
    | next x'=>
      rw [hs] at hg hx
      simp only [uj,hx,aE.enc,uL,cond_true]
      exact Yw h n x' e y hg
    | out e' x'=>
      rw [hs] at hg hx
      simp only at hg
      cases hn:uL e' with
      | true=>rw [hn] at hg; simp at hg
      | false=>
        rw [hn,cond_false] at hg
        simp only [aE.out.injEq] at hg
        obtain ⟨rfl,rfl⟩:=hg
        simp only [uj,hx,aE.enc,hn,cond_false]
def dt {X:Type} [Inhabited X] (ev:X→List KV) (er:X→List (List KV)) (s:aE X):List ai→pD
  | []=>.no
  | e :: es=>.br (s.by e) (.out e (ev s.st) (er s.st)) (dt ev er s es)
theorem JX {X:Type} [Inhabited X] {ev:X→List KV} {er:X→List (List KV)} {s:aE X} : ∀ {es:List ai} {e:ai} {vs:List KV} {rs:List (List KV)},(dt ev er s es).ev=some (e,vs,rs)→∃ x,s = .out e x∧vs=ev x∧rs=er x
  | [],e,vs,rs,h=>by simp [dt,pD.ev] at h
  | e' :: es,e,vs,rs,h=>by
    simp only [dt,pD.ev] at h
    cases hb:s.by e' with
    | false=>rw [hb] at h; exact JX h
    | true=>
      rw [hb,cond_true] at h
      simp only [Option.some.injEq,Prod.mk.injEq] at h
      obtain ⟨rfl,rfl,rfl⟩:=h
      cases s with
      | out e0 x=>
        have:=V2 (show dM e0 e' = true from hb)
        subst this
        exact ⟨x,rfl,rfl,rfl⟩
      | fail=>simp [aE.by] at hb
      | next x=>simp [aE.by] at hb
def mV:Nat:=1000000000000
def goN {X:Type} (step:X→aE X) (x:X):aE X:=aE.go step mV x
theorem Yx {P:Program} {l:Lp} {X:Type} [Inhabited X] {cfg:dQ} {L n:Nat} (fT:o7 P cfg.pc) (kL:rM P cfg) {step:X→aE X} {ev:X→List KV} {er:X→List (List KV)} {es:List ai} {pa:List KV→List (List KV)→X}
    (hF:∀ vs rs,l.F vs rs=dt ev er (goN step (pa vs rs)) es) (gm:∀ wv wr,ev (pa (kA P l.S.dL wv 0) (kC P l.S.rows wr 0))=kA P l.S.dL wv 0∧er (pa (kA P l.S.dL wv 0) (kC P l.S.rows wr 0))=kC P l.S.rows wr 0)
    (jv:∀ x,abk l.st P cfg L n l.f l.p (fh P l.f l.p) l.S (ev x) (er x)=aE.enc ev er (step x)):l.Ok P:=
  ⟨cfg,L,n,fT,kL,fun vs rs e bP lg bc jh=>by
    obtain ⟨wv,wr,rfl,rfl⟩:=bc.form
    obtain ⟨h1,h2⟩:=gm wv wr
    rw [hF] at jh
    obtain ⟨y,hy,rfl,rfl⟩:=JX jh
    have:=Yw jv mV _ e y hy
    rw [h1,h2] at this
    exact ⟨mV,this⟩⟩
theorem aeg {P:Program} {c:Fc} {X:Type} [Inhabited X] {cfg:dQ} {L n:Nat} (fT:o7 P cfg.pc) (kL:rM P cfg) {step:X→aE X} {ev:X→List KV} {er:X→List (List KV)} {es:List ai} {pa:List KV→List (List KV)→X} (hy:Nat.blt c.g yB=true)
    (hF:∀ vs rs,c.F vs rs=dt ev er (step (pa vs rs)) es) (gm:∀ wv wr,ev (pa (kA P c.S.dL wv 0) (kC P c.S.rows wr 0))=kA P c.S.dL wv 0∧er (pa (kA P c.S.dL wv 0) (kC P c.S.rows wr 0))=kC P c.S.rows wr 0)
    (jv:∀ x y,step x = .out .ret y→BC P cfg L n c.g c.S (ev x) (er x)=some (.ret,ev y,er y)) (F3:es = [.ret]):c.Ok P:=
  ⟨hy,cfg,L,n,fT,kL,fun vs rs e bP lg bc jh=>by
    obtain ⟨wv,wr,rfl,rfl⟩:=bc.form
    obtain ⟨h1,h2⟩:=gm wv wr
    subst F3
    rw [hF] at jh
    have he:e = .ret:=by
      simp only [dt,pD.ev] at jh
      cases hb:(step (pa (kA P c.S.dL wv 0) (kC P c.S.rows wr 0))).by ai.ret with
      | false=>rw [hb] at jh; simp at jh
      | true=>rw [hb] at jh; simp at jh; exact jh.1.symm
    subst he
    obtain ⟨y,hy,rfl,rfl⟩:=JX jh
    have:=jv _ y hy
    rw [h1,h2] at this
    exact this⟩
theorem aaf {P:Program} {c:Fc} {cfg:dQ} (fT:o7 P cfg.pc) (kL:rM P cfg) (hy:Nat.blt c.g yB=true) (hF:∀ vs rs,(c.F vs rs).ev=none):c.Ok P:=
  ⟨hy,cfg,9,9,fT,kL,fun vs rs e bP lg _ jh=>by rw [hF] at jh; simp at jh⟩
def Gs:Nat:=64
theorem VU {P:Program} {ah7:List KV} (h:nc P [] ah7=true):ah7 = []:=by
  cases ah7 with
  | nil=>rfl
  | cons a ah7=>simp [nc] at h
end Go.K
end
section
namespace Go.K
open Go Go.av
variable {P:Program} {E:Env}
theorem da.below {base:Nat} {ρ:ao} {B:St} {w w' : World} (hs:jC ρ B base w) (h:RowKit.Below w.heap.size w w'):da base ρ B w ρ B w':=by
  refine ⟨⟨.rZ (fun b o hg hd=>?_) hs.rel.apart hs.rel.ba,hs.gk,Nat.le_trans hs.size h.size,hs.mS⟩,fun _ _=>rfl,⟨h.os,h.tape,h.output,h.size,fun k hk _=>h.block k hk⟩,Nat.le_refl _,Nat.le_refl _,fun _ _ _=>rfl,fun _ _ hk=>hk⟩
  obtain ⟨l,e,ok⟩:=hs.rel.obj hg hd
  exact ⟨l,e,ok.gY (ao.le_refl _) (h.block _ (ok.lt hd)) h.size⟩
theorem Yy {g:FuncId} {F:List KV→KR KV} (hc:wQ P g)
    (h:∀ args v (E:Env) (A:aj) (B:St) (ρ:ao) (base:Nat) (w:World) (cL:List Value),aG (F (normArgs P (bM P g) args)) v→args.length=(bM P g).length→xS P E ρ args cL→KJ P E A B ρ base w→
      Calls P g cL.toArray w fun e w'=>∃ v',e = .returned v'∧VC P E ρ v v'∧RowKit.Below w.heap.size w w'):gN P g F:=
  fun args v hF hlen=>⟨hc,fun E A B ρ base w cL hv hj=>(h args v E A B ρ base w cL hF hlen hv hj).mono fun _ _ ⟨v',h1,h2,h3⟩=>
    ⟨v',E,B,ρ,h1,h2,hj.k,da.below hj.s h3,Env.le_refl _,Nat.le_refl _,fun _ _ _ _=>rfl,fun _ _ h=>.inl h,fun _ _ h=>.inl h,fun _ _ h=>.inl ⟨_,h⟩,fun _ _ _ _=>rfl,fun _ h=>.inl h,fun _ h=>.inl h,fun _ _ h=>.inl h,fun _ h=>.inl h,fun _ _ cs _ _ _ h=>⟨cs,h,rfl⟩⟩⟩
theorem V3 {g:FuncId} (hP:P.funcs.toList.all jf=true) (hm:P.follows .mixedOrders=true) {L n:Nat} (hp:bM P g = []) (h:BZ (Fj P Mv L n g [] St.empty)=true) (hy:Nat.blt g yB=true:=by rfl):gN P g fun _=>.ok (.bool true):=by
  have fo:wQ P g:=by
    unfold BZ at h
    split at h
    · rename_i b B hc
      exact ⟨hy,(AD (K3 P) hP hm L n _ _ _ _ _ hc).1 hy⟩
    · simp at h
  refine Yy fo fun args v E A B ρ base w cL hF hlen hv hj=>?_
  rw [hp] at hlen
  have:args = []:=List.length_eq_zero_iff.1 (by simpa using hlen)
  subst this
  obtain ⟨m,h1,h2⟩:=hv
  rw [h1.bJ] at h2
  rw [h2.bJ]
  have hF:KV.bool true=v:=hF
  subst hF
  exact (Xn (K3 P) hP hm h w hy).mono fun _ _ ⟨h1,h2⟩=>⟨_,h1,⟨_,.ph,by simp [VR]⟩,h2⟩
end Go.K
end
section
namespace Go.K
open Go Go.av
structure Sl (α:Type) where
  n:Nat
  get:Nat→α
instance {α:Type} [Inhabited α] : Inhabited (Sl α):=⟨⟨0,fun _=>default⟩⟩
def ij {α:Type} (T:TypeId) (k:α→KV) (s:Sl α):KV:=.ts T .any s.n ((List.range s.n).map fun i=>k (s.get i)) (fun i=>k (s.get i))
def Gu {α:Type} (p:KV→α) (n:Nat) (acc:Nat→KV):Sl α:=⟨n,fun i=>p (acc i)⟩
def hZ {α:Type} (p:KV→α) (v:KV):Sl α:=Gu p (lenOf v) (adq v)
def kI (k:IntKind) (n:Int):KV:=.int k n
def kB (b:Bool):KV:=.bool b
abbrev aB (n:Int):Int:=IntKind.wrap .i64 n
abbrev ly (n:Int):Int:=IntKind.wrap .u64 n
def Sl.push {α:Type} [Inhabited α] (s:Sl α) (v:α):Sl α:=⟨s.n+1,fun i=>cond (Nat.blt i s.n) (s.get i) (cond (Nat.beq i s.n) v default)⟩
def Sl.lit {α:Type} [Inhabited α] (l:List α):Sl α:=⟨l.length,fun i=>l.getD i default⟩
theorem aeh {α:Type} [Inhabited α] {p:KV→α} {k:α→KV} (h:∀ x,p (k x)=x) (hd:p .aq=default) (l:List α):Gu p l.length (DA (l.map k))=Sl.lit l:=by
  unfold Gu Sl.lit DA
  congr 1
  funext i
  rw [List.getD_eq_getElem?_getD,List.getD_eq_getElem?_getD,List.getElem?_map]
  cases l[i]? with
  | none=>exact hd
  | some x=>exact h x
theorem acg {α:Type} [Inhabited α] {p:KV→α} {k:α→KV} (h:∀ x,p (k x)=x) (hd:p .aq=default) (s:Sl α) (v:α):Gu p (s.n+1) (qx s.n (fun i=>k (s.get i)) (DA [k v]))=s.push v:=by
  unfold Gu Sl.push
  congr 1
  funext i
  unfold qx
  cases hb:Nat.blt i s.n with
  | true=>exact h _
  | false=>
    have hi:s.n≤i:=by
      cases Nat.lt_or_ge i s.n with
      | inl h=>rw [← Nat.blt_eq,hb] at h; simp at h
      | inr h=>exact h
    rw [cond_false,cond_false]
    cases hq:Nat.beq i s.n with
    | true=>
      have:=Nat.eq_of_beq_eq_true hq
      subst this
      rw [Nat.sub_self,cond_true]
      exact h v
    | false=>
      have bR:i≠s.n:=fun e=>by rw [e,Nat.beq_refl] at hq; simp at hq
      rw [cond_false]
      obtain ⟨j,hj⟩:∃ j,i - s.n=j+1:=⟨i - s.n - 1,by omega⟩
      rw [hj]
      exact hd
def Sl.set {α:Type} (s:Sl α) (i:Nat) (v:α):Sl α:=⟨s.n,fun j=>cond (Nat.beq j i) v (s.get j)⟩
theorem aei {α:Type} {p:KV→α} {k:α→KV} (h:∀ x,p (k x)=x) (s:Sl α) (i:Nat) (v:α):Gu p s.n (vq (fun j=>k (s.get j)) i (k v))=s.set i v:=by
  unfold Gu Sl.set
  congr 1
  funext j
  unfold vq
  cases Nat.beq j i <;> exact h _
theorem aej {α:Type} {p:KV→α} {k:α→KV} (h:∀ x,p (k x)=x) (m n' i:Nat) (acc:Nat→KV) (v:KV):Gu p m (vq (fun j=>k ((Gu p n' acc).get j)) i v)=Gu p m (vq acc i v):=by
  unfold Gu
  congr 1
  funext j
  unfold vq
  cases Nat.beq j i with
  | true=>rfl
  | false=>exact h _
theorem aek (l:List Int):Sl.lit l=Gu (fun v=>intOf (v.cells.getD 0 .aq)) l.length (DA (l.map (kI .i64))):=(aeh (fun _=>rfl) rfl l).symm
theorem jG {α β:Type} (f:α→β) (c:Bool) (a b:Option α):Option.map f (cond c a b)=cond c (Option.map f a) (Option.map f b):=by cases c <;> rfl
def aw (P:Program) (ps:List (Nat×(List KV→KR KV))):Prop:=∀ p ∈ ps,gN P p.1 p.2
theorem aw.nil {P:Program} : aw P []:=fun p hp=>by simp at hp
theorem aw.cons {P:Program} {g:Nat} {F:List KV→KR KV} {ps:List (Nat×(List KV→KR KV))} (h:gN P g F) (t:aw P ps):aw P ((g,F) :: ps):=fun p hp=>by
  rcases List.mem_cons.1 hp with rfl | hp
  · exact h
  · exact t p hp
theorem aw.pc {P:Program} {ps:List (Nat×(List KV→KR KV))} (h:aw P ps):o7 P (Un ps):=abo h
def aF (P:Program) (ls:List Lp):Prop:=∀ l ∈ ls,l.Ok P∧cH P l.f l.p=true
theorem aF.nil {P:Program} : aF P []:=fun p hp=>by simp at hp
theorem aF.cons {P:Program} {l:Lp} {ls:List Lp} (h:l.Ok P) (h' : cH P l.f l.p=true) (t:aF P ls):aF P (l :: ls):=fun p hp=>by
  rcases List.mem_cons.1 hp with rfl | hp
  · exact ⟨h,h'⟩
  · exact t p hp
def ew (P:Program) (fs:List Fc):Prop:=∀ c ∈ fs,c.Ok P
theorem ew.nil {P:Program} : ew P []:=fun p hp=>by simp at hp
theorem ew.cons {P:Program} {c:Fc} {fs:List Fc} (h:c.Ok P) (t:ew P fs):ew P (c :: fs):=fun p hp=>by
  rcases List.mem_cons.1 hp with rfl | hp
  · exact h
  · exact t p hp
noncomputable def cR (P:Program) (ps:List (Nat×(List KV→KR KV))) (ls:List Lp) (mt:TypeId→Bool:=fun _=>false) (fz:Bool:=false) (eg:Bool:=false) (fs:List Fc:=[]):dQ:=⟨Un ps,RT P ls,⟨Ul P fs,mt,fz,eg⟩⟩
noncomputable def lE {R:Type} [Inhabited R] (k:R→KV) (r:List KV→Option R):List KV→KR KV:=fun ah7=>.kU (r ah7).isSome (k ((r ah7).getD default))
theorem eG {P:Program} {R:Type} [Inhabited R] {k:R→KV} {r:List KV→Option R} {g:FuncId} (hP:P.funcs.toList.all jf=true) (hm:P.follows .mixedOrders=true) {ps:List (Nat×(List KV→KR KV))} {ls:List Lp} (fT:aw P ps) (kL:aF P ls) {L n:Nat} {mt:TypeId→Bool} {fz eg:Bool} {fs:List Fc}
    (h:∀ w,lL P (cR P ps ls mt fz eg fs) L n g (iC P (bM P g) w 0)=(r (iC P (bM P g) w 0)).map k) (hy:Nat.blt g yB=true:=by rfl) (yp:ew P fs:=by exact ew.nil):gN P g (kz P g (lE k r)):=
  aee (cfg:=cR P ps ls mt fz eg fs) hP hm fT.pc (Hy hP hm (Hz hP hm yp) kL) (hy:=hy) fun w v hv=>by
    obtain ⟨h1,h2⟩:=aG.kU hv
    rw [h w]
    cases hr:r (iC P (bM P g) w 0) with
    | none=>rw [hr] at h1; simp at h1
    | some x=>rw [hr] at h2; rw [← h2]; rfl
theorem fQ {P:Program} {l:Lp} {X:Type} [Inhabited X] (hP:P.funcs.toList.all jf=true) (hm:P.follows .mixedOrders=true) {ps:List (Nat×(List KV→KR KV))} {ls:List Lp} (fT:aw P ps) (kL:aF P ls) {L n:Nat} {mt:TypeId→Bool} {fz eg:Bool} {fs:List Fc} {step:X→aE X} {ev:X→List KV} {er:X→List (List KV)} {es:List ai} {pa:List KV→List (List KV)→X}
    (hF:l.F=fun vs rs=>dt ev er (goN step (pa vs rs)) es) (gm:∀ wv wr,ev (pa (kA P l.S.dL wv 0) (kC P l.S.rows wr 0))=kA P l.S.dL wv 0∧er (pa (kA P l.S.dL wv 0) (kC P l.S.rows wr 0))=kC P l.S.rows wr 0)
    (jv:∀ x,ky P (cR P ps ls mt fz eg fs) L n l.f l.p (fh P l.f l.p) l.S (ev x) (er x)=aE.enc ev er (step x)) (yp:ew P fs:=by exact ew.nil) (hs:l.st=false:=by rfl):l.Ok P:=
  Yx (cfg:=cR P ps ls mt fz eg fs) fT.pc (Hy hP hm (Hz hP hm yp) kL) (fun _ _=>by rw [hF]) gm (fun x=>by rw [hs]; exact jv x)
theorem jX {P:Program} {l:Lp} {X:Type} [Inhabited X] (hP:P.funcs.toList.all jf=true) (hm:P.follows .mixedOrders=true) {ps:List (Nat×(List KV→KR KV))} {ls:List Lp} (fT:aw P ps) (kL:aF P ls) {L n:Nat} {mt:TypeId→Bool} {fz eg:Bool} {fs:List Fc} {step:X→aE X} {ev:X→List KV} {er:X→List (List KV)} {es:List ai} {pa:List KV→List (List KV)→X}
    (hF:l.F=fun vs rs=>dt ev er (goN step (pa vs rs)) es) (gm:∀ wv wr,ev (pa (kA P l.S.dL wv 0) (kC P l.S.rows wr 0))=kA P l.S.dL wv 0∧er (pa (kA P l.S.dL wv 0) (kC P l.S.rows wr 0))=kC P l.S.rows wr 0)
    (jv:∀ x,nQ P (cR P ps ls mt fz eg fs) L n l.f l.p (fh P l.f l.p) l.S (ev x) (er x)=aE.enc ev er (step x)) (yp:ew P fs:=by exact ew.nil) (hs:l.st=true:=by rfl):l.Ok P:=
  Yx (cfg:=cR P ps ls mt fz eg fs) fT.pc (Hy hP hm (Hz hP hm yp) kL) (fun _ _=>by rw [hF]) gm (fun x=>by rw [hs]; exact jv x)
theorem xV {P:Program} {c:Fc} {X:Type} [Inhabited X] (hP:P.funcs.toList.all jf=true) (hm:P.follows .mixedOrders=true) {ps:List (Nat×(List KV→KR KV))} {ls:List Lp} (fT:aw P ps) (kL:aF P ls) {L n:Nat} {mt:TypeId→Bool} {fz eg:Bool} {fs:List Fc} {step:X→aE X} {ev:X→List KV} {er:X→List (List KV)} {es:List ai} {pa:List KV→List (List KV)→X}
    (hF:c.F=fun vs rs=>dt ev er (step (pa vs rs)) es) (gm:∀ wv wr,ev (pa (kA P c.S.dL wv 0) (kC P c.S.rows wr 0))=kA P c.S.dL wv 0∧er (pa (kA P c.S.dL wv 0) (kC P c.S.rows wr 0))=kC P c.S.rows wr 0)
    (jv:∀ x,BC P (cR P ps ls mt fz eg fs) L n c.g c.S (ev x) (er x)=aE.enc ev er (step x)) (hy:Nat.blt c.g yB=true:=by rfl) (F3:es = [.ret]:=by rfl) (yp:ew P fs:=by exact ew.nil):c.Ok P:=
  aeg (cfg:=cR P ps ls mt fz eg fs) fT.pc (Hy hP hm (Hz hP hm yp) kL) hy (fun _ _=>by rw [hF]) gm (fun x y h=>by rw [jv x,h]; rfl) F3
end Go.K
end
section
namespace Go.Proofs.Ytahhdndhkgbcjaa.b
open Go.K
theorem funcs:Try.prog.funcs.toList.all av.jf=true:=by kernel_rfl
theorem mixed:Try.prog.follows .mixedOrders=true:=by kernel_rfl
end Go.Proofs.Ytahhdndhkgbcjaa.b
end
section
namespace Go.Proofs.Ytahhdndhkgbcjaa.b
open Go.K
set_option linter.unusedVariables false
set_option linter.unusedSimpArgs false
noncomputable section
structure pe where
  x:Int
  y:Int
  z:Int
instance:Inhabited pe:=⟨⟨default,default,default⟩⟩
def ah1 (x:pe):List KV:=[.int .i64 x.x,.int .i64 x.y,.int .i64 x.z]
def LL (x:pe):KV:=.agg (ah1 x)
def ah2 (c:Nat→KV):pe:=⟨intOf (c 0),intOf (c 1),intOf (c 2)⟩
def Gv (v:KV):pe:=ah2 fun k=>v.cells.getD k .aq
structure Yz where
  x:Int
  y:Int
  d:Int
  u:Int
  v:Int
instance:Inhabited Yz:=⟨⟨default,default,default,default,default⟩⟩
structure xW where
  e0:Yz
  e1:Yz
  e2:Yz
instance:Inhabited xW:=⟨⟨default,default,default⟩⟩
structure jY where
  mz:Int
  t4:Bool
  t7:(Sl Int)
  t8:Int
  t9:Int
instance:Inhabited jY:=⟨⟨default,default,default,default,default⟩⟩
def xv (x:jY):List KV:=[.int .i64 x.mz,.bool x.t4,ij 3 (kI .i64) x.t7,.int .i64 x.t8,.int .i64 x.t9]
def xw (x:jY):List (List KV):=[]
def IJ (vs:List KV) (rs:List (List KV)):jY:=⟨intOf (vs.getD 0 .aq),l7 (vs.getD 1 .aq),hZ intOf (vs.getD 2 .aq),intOf (vs.getD 3 .aq),intOf (vs.getD 4 .aq)⟩
def LM:aD:=⟨[(0,⟨false,[.k (.int .i64)]⟩),(4,⟨false,[.k .bool]⟩),(7,⟨false,[.k (.slice 3)]⟩),(8,⟨false,[.k (.int .i64)]⟩),(9,⟨false,[.k (.int .i64)]⟩)],[],[]⟩
def Th:=ky Try.prog (cR Try.prog [] [] (fun _=>false)) 9 9 124 26 (fh Try.prog 124 26) LM
def mM (x:jY):aE jY:=
 (cond (decide (x.t9 < x.t8))
 (cond ((decide ((0:Int)≤x.t9)) && (decide (x.t9 < ((x.t7.n:Nat):Int))))
 (cond (decide ((x.t7.get (Int.toNat x.t9)) < (aB ((0:Int) - x.mz))))
 (.out av.ai.ret (⟨x.mz,false,x.t7,x.t8,x.t9⟩:jY))
 (cond (decide ((x.t7.get (Int.toNat x.t9)) > x.mz))
 (.out av.ai.ret (⟨x.mz,false,x.t7,x.t8,x.t9⟩:jY))
 (.next (⟨x.mz,x.t4,x.t7,x.t8,(aB (x.t9+(1:Int)))⟩:jY))))
 .fail)
 (.out (av.ai.exit 0) x))
theorem OP (x:jY):Th (xv x) (xw x)=aE.enc xv xw (mM x):=by
  unfold mM
  try simp only [aE.dc]
  kernel_rfl
def yZ:Lp:=⟨124,26,LM,fun vs rs=>dt xv xw (goN mM (IJ vs rs)) [av.ai.exit 0,av.ai.ret],false⟩
theorem Ti:yZ.Ok Try.prog:=fQ funcs mixed aw.nil aF.nil (L:=9) (n:=9) (step:=mM) (ev:=xv) (er:=xw) (pa:=IJ) rfl (fun wv wr=>⟨by kernel_rfl,by kernel_rfl⟩) OP
theorem Nh:cH Try.prog yZ.f yZ.p=true:=by kernel_rfl
def R8:List (Nat×(List KV→KR KV)):=[]
def R9:List Lp:=[yZ]
theorem V4:aw Try.prog R8:=aw.nil
theorem V5:aF Try.prog R9:=(aF.cons Ti Nh aF.nil)
def AX (mz:Int) (l:(Sl Int)):(aE jY):=(goN mM (⟨mz,false,l,((l.n:Nat):Int),(0:Int)⟩:jY))
def zk (mz:Int) (l:(Sl Int)):Option (Bool):=
 (cond ((AX mz l).by (av.ai.exit 0))
 (some (true))
 (cond ((AX mz l).by av.ai.ret)
 (some ((AX mz l).st.t4))
 none))
theorem YA (mz:Int) (l:(Sl Int)):lL Try.prog (cR Try.prog R8 R9 (fun _=>false)) 9 9 124 [(kI .i64) mz,(ij 3 (kI .i64)) l] = (zk mz l).map kB:=by
  unfold zk
  try simp only [jG]
  kernel_rfl
def Uq:List KV→KR KV:=kz Try.prog 124 (lE kB fun vs=>zk (intOf (vs.getD 0 .aq)) ((hZ intOf) (vs.getD 1 .aq)))
theorem V6 (w:Nat→KV):iC Try.prog [3,26] w 0 = [(kI .i64) (intOf (cf Try.prog (aK Try.prog a6) 3 (w 0))),(ij 3 (kI .i64)) ((hZ intOf) (cf Try.prog (aK Try.prog a6) 26 (w 1)))]:=by kernel_rfl
theorem V7:gN Try.prog 124 Uq:=eG funcs mixed V4 V5 (L:=9) (n:=9) fun w=>by
  have e:bM Try.prog 124 = [3,26]:=by kernel_rfl
  rw [e,V6]
  exact (YA (intOf (cf Try.prog (aK Try.prog a6) 3 (w 0))) ((hZ intOf) (cf Try.prog (aK Try.prog a6) 26 (w 1)))).trans (by kernel_rfl)
def IK:List (Nat×(List KV→KR KV)):=[(124,Uq)]
def IL:List Lp:=[]
theorem OQ:aw Try.prog IK:=(aw.cons V7 aw.nil)
theorem OS:aF Try.prog IL:=aF.nil
def vD (v:pe):(Option Bool):=(zk (4096:Int) (Sl.lit [v.x,v.y,v.z]))
def qh (v:pe):Option (Int):=
 (cond (vD v).isSome
 (cond (!((vD v).getD default))
 (some ((20:Int)))
 (some ((0:Int))))
 none)
theorem Sa (v:pe):lL Try.prog (cR Try.prog IK IL (fun _=>false)) 9 9 108 [LL v] = (qh v).map (kI .i64):=by
  unfold qh
  try simp only [jG,vD,aek]
  kernel_rfl
def y7:List KV→KR KV:=kz Try.prog 108 (lE (kI .i64) fun vs=>qh (Gv (vs.getD 0 .aq)))
theorem OT (w:Nat→KV):iC Try.prog [41] w 0 = [LL (Gv (cf Try.prog (aK Try.prog a6) 41 (w 0)))]:=by kernel_rfl
theorem yq:gN Try.prog 108 y7:=eG funcs mixed OQ OS (L:=9) (n:=9) fun w=>by
  have e:bM Try.prog 108 = [41]:=by kernel_rfl
  rw [e,OT]
  exact (Sa (Gv (cf Try.prog (aK Try.prog a6) 41 (w 0)))).trans (by kernel_rfl)
structure AY where
  e0:Int
  e1:Int
  e2:Int
instance:Inhabited AY:=⟨⟨default,default,default⟩⟩
def ael (x:AY):List KV:=[.int .i64 x.e0,.int .i64 x.e1,.int .i64 x.e2]
def YB (x:AY):KV:=.agg (ael x)
def aem (c:Nat→KV):AY:=⟨intOf (c 0),intOf (c 1),intOf (c 2)⟩
def YC (v:KV):AY:=aem fun k=>v.cells.getD k .aq
end
end Go.Proofs.Ytahhdndhkgbcjaa.b
end
section
namespace Go.Proofs.Ytahhdndhkgbcjaa.b
open Go.K
set_option linter.unusedVariables false
set_option linter.unusedSimpArgs false
noncomputable section
end
end Go.Proofs.Ytahhdndhkgbcjaa.b
end
section
namespace Go.Proofs.Ytahhdndhkgbcjaa.b
open Go.K
set_option linter.unusedVariables false
set_option linter.unusedSimpArgs false
noncomputable section
end
end Go.Proofs.Ytahhdndhkgbcjaa.b
end
section
namespace Go.Proofs.Ytahhdndhkgbcjaa.b
open Go.K
set_option linter.unusedVariables false
set_option linter.unusedSimpArgs false
noncomputable section
def Sb:List (Nat×(List KV→KR KV)):=[]
def Sc:List Lp:=[]
theorem V8:aw Try.prog Sb:=aw.nil
theorem V9:aF Try.prog Sc:=aF.nil
def uO (n:Int):Option (Bool):=
 (cond (decide (n ≥ (-(32768:Int))))
 (some ((decide (n≤(32768:Int)))))
 (some (false)))
theorem YD (n:Int):lL Try.prog (cR Try.prog Sb Sc (fun _=>false)) 9 9 125 [(kI .i64) n] = (uO n).map kB:=by
  unfold uO
  try simp only [jG]
  kernel_rfl
def HA:List KV→KR KV:=kz Try.prog 125 (lE kB fun vs=>uO (intOf (vs.getD 0 .aq)))
theorem Wa (w:Nat→KV):iC Try.prog [3] w 0 = [(kI .i64) (intOf (cf Try.prog (aK Try.prog a6) 3 (w 0)))]:=by kernel_rfl
theorem Eb:gN Try.prog 125 HA:=eG funcs mixed V8 V9 (L:=9) (n:=9) fun w=>by
  have e:bM Try.prog 125 = [3]:=by kernel_rfl
  rw [e,Wa]
  exact (YD (intOf (cf Try.prog (aK Try.prog a6) 3 (w 0)))).trans (by kernel_rfl)
structure uR where
  low:pe
  high:pe
instance:Inhabited uR:=⟨⟨default,default⟩⟩
def aen (x:uR):List KV:=[.int .i64 x.low.x,.int .i64 x.low.y,.int .i64 x.low.z,.int .i64 x.high.x,.int .i64 x.high.y,.int .i64 x.high.z]
def wg (x:uR):KV:=.agg (aen x)
def aeo (c:Nat→KV):uR:=⟨⟨intOf (c 0),intOf (c 1),intOf (c 2)⟩,⟨intOf (c 3),intOf (c 4),intOf (c 5)⟩⟩
def LN (v:KV):uR:=aeo fun k=>v.cells.getD k .aq
structure Span where
  low:Int
  high:Int
instance:Inhabited Span:=⟨⟨default,default⟩⟩
structure vE where
  e0:Span
  e1:Span
  e2:Span
instance:Inhabited vE:=⟨⟨default,default,default⟩⟩
def ach (x:vE):List KV:=[.int .i64 x.e0.low,.int .i64 x.e0.high,.int .i64 x.e1.low,.int .i64 x.e1.high,.int .i64 x.e2.low,.int .i64 x.e2.high]
def HB (x:vE):KV:=.agg (ach x)
def aci (c:Nat→KV):vE:=⟨⟨intOf (c 0),intOf (c 1)⟩,⟨intOf (c 2),intOf (c 3)⟩,⟨intOf (c 4),intOf (c 5)⟩⟩
def Ni (v:KV):vE:=aci fun k=>v.cells.getD k .aq
def IM:List (Nat×(List KV→KR KV)):=[]
def IP:List Lp:=[]
theorem OU:aw Try.prog IM:=aw.nil
theorem OV:aF Try.prog IP:=aF.nil
def Ec (b:uR):Option (vE):=
 (some ((⟨(⟨b.low.x,b.high.x⟩:Span),(⟨b.low.y,b.high.y⟩:Span),(⟨b.low.z,b.high.z⟩:Span)⟩:vE)))
theorem Sd (b:uR):lL Try.prog (cR Try.prog IM IP (fun _=>false)) 9 9 136 [wg b] = (Ec b).map HB:=by
  unfold Ec
  kernel_rfl
def LO:List KV→KR KV:=kz Try.prog 136 (lE HB fun vs=>Ec (LN (vs.getD 0 .aq)))
theorem OW (w:Nat→KV):iC Try.prog [43] w 0 = [wg (LN (cf Try.prog (aK Try.prog a6) 43 (w 0)))]:=by kernel_rfl
theorem OX:gN Try.prog 136 LO:=eG funcs mixed OU OV (L:=9) (n:=9) fun w=>by
  have e:bM Try.prog 136 = [43]:=by kernel_rfl
  rw [e,OW]
  exact (Sd (LN (cf Try.prog (aK Try.prog a6) 43 (w 0)))).trans (by kernel_rfl)
def IQ:List (Nat×(List KV→KR KV)):=[]
def IU:List Lp:=[]
theorem OY:aw Try.prog IQ:=aw.nil
theorem OZ:aF Try.prog IU:=aF.nil
def Ed (s:vE):Option (uR):=
 (some ((⟨(⟨s.e0.low,s.e1.low,s.e2.low⟩:pe),(⟨s.e0.high,s.e1.high,s.e2.high⟩:pe)⟩:uR)))
theorem Se (s:vE):lL Try.prog (cR Try.prog IQ IU (fun _=>false)) 9 9 137 [HB s] = (Ed s).map wg:=by
  unfold Ed
  kernel_rfl
def LP:List KV→KR KV:=kz Try.prog 137 (lE wg fun vs=>Ed (Ni (vs.getD 0 .aq)))
theorem O0 (w:Nat→KV):iC Try.prog [217] w 0 = [HB (Ni (cf Try.prog (aK Try.prog a6) 217 (w 0)))]:=by kernel_rfl
theorem O1:gN Try.prog 137 LP:=eG funcs mixed OY OZ (L:=9) (n:=9) fun w=>by
  have e:bM Try.prog 137 = [217]:=by kernel_rfl
  rw [e,O0]
  exact (Se (Ni (cf Try.prog (aK Try.prog a6) 217 (w 0)))).trans (by kernel_rfl)
def LQ:List (Nat×(List KV→KR KV)):=[(137,LP),(136,LO)]
def LR:List Lp:=[]
theorem Sf:aw Try.prog LQ:=(aw.cons O1 (aw.cons OX aw.nil))
theorem Sg:aF Try.prog LR:=aF.nil
def Gw (a:uR) (b:uR):Option (uR):=
 (some ((⟨(⟨(min a.low.x b.low.x),(min a.low.y b.low.y),(min a.low.z b.low.z)⟩:pe),(⟨(max a.high.x b.high.x),(max a.high.y b.high.y),(max a.high.z b.high.z)⟩:pe)⟩:uR)))
theorem Tj (a:uR) (b:uR):lL Try.prog (cR Try.prog LQ LR (fun _=>false)) 9 9 126 [wg a,wg b] = (Gw a b).map wg:=by
  unfold Gw
  kernel_rfl
def AZ:List KV→KR KV:=kz Try.prog 126 (lE wg fun vs=>Gw (LN (vs.getD 0 .aq)) (LN (vs.getD 1 .aq)))
theorem Sh (w:Nat→KV):iC Try.prog [43,43] w 0 = [wg (LN (cf Try.prog (aK Try.prog a6) 43 (w 0))),wg (LN (cf Try.prog (aK Try.prog a6) 43 (w 1)))]:=by kernel_rfl
theorem z9:gN Try.prog 126 AZ:=eG funcs mixed Sf Sg (L:=9) (n:=9) fun w=>by
  have e:bM Try.prog 126 = [43,43]:=by kernel_rfl
  rw [e,Sh]
  exact (Tj (LN (cf Try.prog (aK Try.prog a6) 43 (w 0))) (LN (cf Try.prog (aK Try.prog a6) 43 (w 1)))).trans (by kernel_rfl)
structure fU where
  l:(Sl pe)
  e:Int
  t17:(Sl pe)
  t18:Int
  t19:Int
  b:uR
instance:Inhabited fU:=⟨⟨default,default,default,default,default,default⟩⟩
def xx (x:fU):List KV:=[ij 41 LL x.l,.int .i64 x.e,ij 41 LL x.t17,.int .i64 x.t18,.int .i64 x.t19]
def xy (x:fU):List (List KV):=[aen x.b]
def IV (vs:List KV) (rs:List (List KV)):fU:=⟨hZ Gv (vs.getD 0 .aq),intOf (vs.getD 1 .aq),hZ Gv (vs.getD 2 .aq),intOf (vs.getD 3 .aq),intOf (vs.getD 4 .aq),aeo (fun k=>(rs.getD 0 []).getD k .aq)⟩
def LS:aD:=⟨[(0,⟨false,[.k (.slice 41)]⟩),(3,⟨false,[.k (.int .i64)]⟩),(17,⟨false,[.k (.slice 41)]⟩),(18,⟨false,[.k (.int .i64)]⟩),(19,⟨false,[.k (.int .i64)]⟩)],[(2,[.k (.int .i64),.k (.int .i64),.k (.int .i64),.k (.int .i64),.k (.int .i64),.k (.int .i64)],1)],[(2,0,0)]⟩
def Tk:=ky Try.prog (cR Try.prog [(126,AZ),(125,HA)] [] (fun _=>false)) 9 9 109 58 (fh Try.prog 109 58) LS
def vF (x:fU):(Option Bool):=(uO (x.t17.get (Int.toNat x.t19)).x)
def vG (x:fU):(Option Bool):=(uO (x.t17.get (Int.toNat x.t19)).y)
def vH (x:fU):(Option Bool):=(uO (x.t17.get (Int.toNat x.t19)).z)
def mN (x:fU):aE fU:=
 (cond (decide (x.t19 < x.t18))
 (cond ((decide ((0:Int)≤x.t19)) && (decide (x.t19 < ((x.t17.n:Nat):Int))))
 (cond (vF x).isSome
 (cond (!((vF x).getD default))
 (.out av.ai.ret (⟨x.l,(20:Int),x.t17,x.t18,x.t19,(⟨(⟨(0:Int),(0:Int),(0:Int)⟩:pe),(⟨(0:Int),(0:Int),(0:Int)⟩:pe)⟩:uR)⟩:fU))
 (cond (vG x).isSome
 (cond (!((vG x).getD default))
 (.out av.ai.ret (⟨x.l,(20:Int),x.t17,x.t18,x.t19,(⟨(⟨(0:Int),(0:Int),(0:Int)⟩:pe),(⟨(0:Int),(0:Int),(0:Int)⟩:pe)⟩:uR)⟩:fU))
 (cond (vH x).isSome
 (cond (!((vH x).getD default))
 (.out av.ai.ret (⟨x.l,(20:Int),x.t17,x.t18,x.t19,(⟨(⟨(0:Int),(0:Int),(0:Int)⟩:pe),(⟨(0:Int),(0:Int),(0:Int)⟩:pe)⟩:uR)⟩:fU))
 (.next (⟨x.l,x.e,x.t17,x.t18,(aB (x.t19+(1:Int))),x.b⟩:fU)))
 .fail))
 .fail))
 .fail)
 .fail)
 (.out (av.ai.exit 0) x))
theorem O2 (x:fU):Tk (xx x) (xy x)=aE.enc xx xy (mN x):=by
  unfold mN
  try simp only [aE.dc]
  kernel_rfl
def vI:Lp:=⟨109,58,LS,fun vs rs=>dt xx xy (goN mN (IV vs rs)) [av.ai.exit 0,av.ai.ret],false⟩
theorem IW:vI.Ok Try.prog:=fQ funcs mixed (aw.cons z9 (aw.cons Eb aw.nil)) aF.nil (L:=9) (n:=9) (step:=mN) (ev:=xx) (er:=xy) (pa:=IV) rfl (fun wv wr=>⟨by kernel_rfl,by kernel_rfl⟩) O2
theorem CJ:cH Try.prog vI.f vI.p=true:=by kernel_rfl
structure jO where
  t49:(Sl pe)
  t50:Int
  t51:Int
  b:uR
instance:Inhabited jO:=⟨⟨default,default,default,default⟩⟩
def vJ (x:jO):List KV:=[ij 41 LL x.t49,.int .i64 x.t50,.int .i64 x.t51]
def vK (x:jO):List (List KV):=[aen x.b]
def Gx (vs:List KV) (rs:List (List KV)):jO:=⟨hZ Gv (vs.getD 0 .aq),intOf (vs.getD 1 .aq),intOf (vs.getD 2 .aq),aeo (fun k=>(rs.getD 0 []).getD k .aq)⟩
def IX:aD:=⟨[(49,⟨false,[.k (.slice 41)]⟩),(50,⟨false,[.k (.int .i64)]⟩),(51,⟨false,[.k (.int .i64)]⟩)],[(2,[.k (.int .i64),.k (.int .i64),.k (.int .i64),.k (.int .i64),.k (.int .i64),.k (.int .i64)],1)],[(2,0,0)]⟩
def Si:=ky Try.prog (cR Try.prog [(126,AZ),(125,HA)] [vI] (fun _=>false)) 9 9 109 250 (fh Try.prog 109 250) IX
def ku (x:jO):aE jO:=
 (cond (decide (x.t51 < x.t50))
 (cond ((decide ((0:Int)≤x.t51)) && (decide (x.t51 < ((x.t49.n:Nat):Int))))
 (.next (⟨x.t49,x.t50,(aB (x.t51+(1:Int))),(⟨(⟨(min x.b.low.x (x.t49.get (Int.toNat x.t51)).x),(min x.b.low.y (x.t49.get (Int.toNat x.t51)).y),(min x.b.low.z (x.t49.get (Int.toNat x.t51)).z)⟩:pe),(⟨(max x.b.high.x (x.t49.get (Int.toNat x.t51)).x),(max x.b.high.y (x.t49.get (Int.toNat x.t51)).y),(max x.b.high.z (x.t49.get (Int.toNat x.t51)).z)⟩:pe)⟩:uR)⟩:jO))
 .fail)
 (.out (av.ai.exit 2) x))
theorem Nj (x:jO):Si (vJ x) (vK x)=aE.enc vJ vK (ku x):=by
  unfold ku
  try simp only [aE.dc]
  kernel_rfl
def xz:Lp:=⟨109,250,IX,fun vs rs=>dt vJ vK (goN ku (Gx vs rs)) [av.ai.exit 2],false⟩
theorem Sj:xz.Ok Try.prog:=fQ funcs mixed (aw.cons z9 (aw.cons Eb aw.nil)) (aF.cons IW CJ aF.nil) (L:=9) (n:=9) (step:=ku) (ev:=vJ) (er:=vK) (pa:=Gx) rfl (fun wv wr=>⟨by kernel_rfl,by kernel_rfl⟩) Nj
theorem LU:cH Try.prog xz.f xz.p=true:=by kernel_rfl
def Sk:List (Nat×(List KV→KR KV)):=[(126,AZ),(125,HA)]
def Sm:List Lp:=[vI,xz]
theorem Wb:aw Try.prog Sk:=(aw.cons z9 (aw.cons Eb aw.nil))
theorem Wc:aF Try.prog Sm:=(aF.cons IW CJ (aF.cons Sj LU aF.nil))
def eU (l:(Sl pe)):(aE fU):=(goN mN (⟨l,(0:Int),l,((l.n:Nat):Int),(0:Int),(⟨(⟨(0:Int),(0:Int),(0:Int)⟩:pe),(⟨(0:Int),(0:Int),(0:Int)⟩:pe)⟩:uR)⟩:fU))
def xX (l:(Sl pe)):(aE jO):=(goN ku (⟨(⟨((Int.toNat (((eU l).st.l.n:Nat):Int)) - 1),(fun i=>((eU l).st.l.get (1+i)))⟩:Sl _),((((Int.toNat (((eU l).st.l.n:Nat):Int)) - 1):Nat):Int),(0:Int),(⟨((eU l).st.l.get 0),((eU l).st.l.get 0)⟩:uR)⟩:jO))
def zl (l:(Sl pe)):Option (uR×Int):=
 (cond (((l.n:Nat):Int) == (0:Int))
 (some ((⟨(⟨(0:Int),(0:Int),(0:Int)⟩:pe),(⟨(0:Int),(0:Int),(0:Int)⟩:pe)⟩:uR),(4:Int)))
 (cond (decide (((l.n:Nat):Int) > (4096:Int)))
 (some ((⟨(⟨(0:Int),(0:Int),(0:Int)⟩:pe),(⟨(0:Int),(0:Int),(0:Int)⟩:pe)⟩:uR),(4:Int)))
 (cond ((eU l).by (av.ai.exit 0))
 (cond (decide ((0:Int) < (((eU l).st.l.n:Nat):Int)))
 (cond (decide ((0:Int) < (((eU l).st.l.n:Nat):Int)))
 (cond ((decide ((1:Int)≤(((eU l).st.l.n:Nat):Int))) && (decide ((((eU l).st.l.n:Nat):Int)≤(((eU l).st.l.n:Nat):Int))))
 (cond ((xX l).by (av.ai.exit 2))
 (some ((xX l).st.b,(0:Int)))
 none)
 none)
 none)
 none)
 (cond ((eU l).by av.ai.ret)
 (some ((eU l).st.b,(eU l).st.e))
 none))))
theorem YE (l:(Sl pe)):lL Try.prog (cR Try.prog Sk Sm (fun _=>false)) 9 9 109 [(ij 41 LL) l] = (zl l).map (fun (r:uR×Int)=>KV.pQ [wg r.1,(kI .i64) r.2]):=by
  unfold zl
  try simp only [jG]
  kernel_rfl
def HC:List KV→KR KV:=kz Try.prog 109 (lE (fun (r:uR×Int)=>KV.pQ [wg r.1,(kI .i64) r.2]) fun vs=>zl ((hZ Gv) (vs.getD 0 .aq)))
theorem Wf (w:Nat→KV):iC Try.prog [33] w 0 = [(ij 41 LL) ((hZ Gv) (cf Try.prog (aK Try.prog a6) 33 (w 0)))]:=by kernel_rfl
theorem Ee:gN Try.prog 109 HC:=eG funcs mixed Wb Wc (L:=9) (n:=9) fun w=>by
  have e:bM Try.prog 109 = [33]:=by kernel_rfl
  rw [e,Wf]
  exact (YE ((hZ Gv) (cf Try.prog (aK Try.prog a6) 33 (w 0)))).trans (by kernel_rfl)
def CL:List (Nat×(List KV→KR KV)):=[]
def CM:List Lp:=[]
theorem JY:aw Try.prog CL:=aw.nil
theorem JZ:aF Try.prog CM:=aF.nil
def mO (n:Int):Option (Bool):=
 (cond (decide (n > (0:Int)))
 (some ((decide (n≤(16:Int)))))
 (some (false)))
theorem LV (n:Int):lL Try.prog (cR Try.prog CL CM (fun _=>false)) 9 9 106 [(kI .i64) n] = (mO n).map kB:=by
  unfold mO
  try simp only [jG]
  kernel_rfl
def Ez:List KV→KR KV:=kz Try.prog 106 (lE kB fun vs=>mO (intOf (vs.getD 0 .aq)))
theorem J0 (w:Nat→KV):iC Try.prog [3] w 0 = [(kI .i64) (intOf (cf Try.prog (aK Try.prog a6) 3 (w 0)))]:=by kernel_rfl
theorem J1:gN Try.prog 106 Ez:=eG funcs mixed JY JZ (L:=9) (n:=9) fun w=>by
  have e:bM Try.prog 106 = [3]:=by kernel_rfl
  rw [e,J0]
  exact (LV (intOf (cf Try.prog (aK Try.prog a6) 3 (w 0)))).trans (by kernel_rfl)
structure Color where
  e0:Int
  e1:Int
  e2:Int
  e3:Int
instance:Inhabited Color:=⟨⟨default,default,default,default⟩⟩
def afw (x:Color):List KV:=[.int .u8 x.e0,.int .u8 x.e1,.int .u8 x.e2,.int .u8 x.e3]
def afx (x:Color):KV:=.agg (afw x)
def afy (c:Nat→KV):Color:=⟨intOf (c 0),intOf (c 1),intOf (c 2),intOf (c 3)⟩
def afz (v:KV):Color:=afy fun k=>v.cells.getD k .aq
structure jP where
  w:Int
  h:Int
  Wg:(Sl Color)
instance:Inhabited jP:=⟨⟨default,default,default⟩⟩
def acj (x:jP):List KV:=[.int .i64 x.w,.int .i64 x.h,ij 37 afx x.Wg]
def sm (x:jP):KV:=.agg (acj x)
def ack (c:Nat→KV):jP:=⟨intOf (c 0),intOf (c 1),hZ afz (c 2)⟩
def og (v:KV):jP:=ack fun k=>v.cells.getD k .aq
def A4:List (Nat×(List KV→KR KV)):=[(106,Ez)]
def A5:List Lp:=[]
theorem HS:aw Try.prog A4:=(aw.cons J1 aw.nil)
theorem HT:aF Try.prog A5:=aF.nil
def uk (t:jP):(Option Bool):=(mO t.w)
def um (t:jP):(Option Bool):=(mO t.h)
def nv (t:jP):Option (Int):=
 (cond (uk t).isSome
 (cond (!((uk t).getD default))
 (some ((8:Int)))
 (cond (um t).isSome
 (cond (!((um t).getD default))
 (some ((8:Int)))
 (cond (((t.Wg.n:Nat):Int) != (aB (t.w * t.h)))
 (some ((8:Int)))
 (some ((0:Int)))))
 none))
 none)
theorem J2 (t:jP):lL Try.prog (cR Try.prog A4 A5 (fun _=>false)) 9 9 78 [sm t] = (nv t).map (kI .i64):=by
  unfold nv
  try simp only [jG]
  kernel_rfl
def wY:List KV→KR KV:=kz Try.prog 78 (lE (kI .i64) fun vs=>nv (og (vs.getD 0 .aq)))
theorem HU (w:Nat→KV):iC Try.prog [108] w 0 = [sm (og (cf Try.prog (aK Try.prog a6) 108 (w 0)))]:=by kernel_rfl
theorem yD:gN Try.prog 78 wY:=eG funcs mixed HS HT (L:=9) (n:=9) fun w=>by
  have e:bM Try.prog 78 = [108]:=by kernel_rfl
  rw [e,HU]
  exact (J2 (og (cf Try.prog (aK Try.prog a6) 108 (w 0)))).trans (by kernel_rfl)
structure dw where
  t2:Int
  t9:(Sl jP)
  t10:Int
  t11:Int
instance:Inhabited dw:=⟨⟨default,default,default,default⟩⟩
def nR (x:dw):List KV:=[.int .i64 x.t2,ij 108 sm x.t9,.int .i64 x.t10,.int .i64 x.t11]
def nS (x:dw):List (List KV):=[]
def wj (vs:List KV) (rs:List (List KV)):dw:=⟨intOf (vs.getD 0 .aq),hZ og (vs.getD 1 .aq),intOf (vs.getD 2 .aq),intOf (vs.getD 3 .aq)⟩
def xY:aD:=⟨[(2,⟨false,[.k (.int .i64)]⟩),(9,⟨false,[.k (.slice 108)]⟩),(10,⟨false,[.k (.int .i64)]⟩),(11,⟨false,[.k (.int .i64)]⟩)],[],[]⟩
def ET:=ky Try.prog (cR Try.prog [(78,wY)] [] (fun _=>false)) 9 9 45 58 (fh Try.prog 45 58) xY
def lh (x:dw):(Option Int):=(nv (x.t9.get (Int.toNat x.t11)))
def gf (x:dw):aE dw:=
 (cond (decide (x.t11 < x.t10))
 (cond ((decide ((0:Int)≤x.t11)) && (decide (x.t11 < ((x.t9.n:Nat):Int))))
 (cond (lh x).isSome
 (cond (((lh x).getD default) != (0:Int))
 (.out av.ai.ret (⟨((lh x).getD default),x.t9,x.t10,x.t11⟩:dw))
 (.next (⟨x.t2,x.t9,x.t10,(aB (x.t11+(1:Int)))⟩:dw)))
 .fail)
 .fail)
 (.out (av.ai.exit 0) x))
theorem CN (x:dw):ET (nR x) (nS x)=aE.enc nR nS (gf x):=by
  unfold gf
  try simp only [aE.dc]
  kernel_rfl
def oG:Lp:=⟨45,58,xY,fun vs rs=>dt nR nS (goN gf (wj vs rs)) [av.ai.exit 0,av.ai.ret],false⟩
theorem EU:oG.Ok Try.prog:=fQ funcs mixed (aw.cons yD aw.nil) aF.nil (L:=9) (n:=9) (step:=gf) (ev:=nR) (er:=nS) (pa:=wj) rfl (fun wv wr=>⟨by kernel_rfl,by kernel_rfl⟩) CN
theorem BH:cH Try.prog oG.f oG.p=true:=by kernel_rfl
def Aa:List (Nat×(List KV→KR KV)):=[(78,wY)]
def Ab:List Lp:=[oG]
theorem Gy:aw Try.prog Aa:=(aw.cons yD aw.nil)
theorem Gz:aF Try.prog Ab:=(aF.cons EU BH aF.nil)
def ib (l:(Sl jP)):(aE dw):=(goN gf (⟨(0:Int),l,((l.n:Nat):Int),(0:Int)⟩:dw))
def mA (l:(Sl jP)):Option (Int):=
 (cond (decide (((l.n:Nat):Int) > (16:Int)))
 (some ((4:Int)))
 (cond ((ib l).by (av.ai.exit 0))
 (some ((0:Int)))
 (cond ((ib l).by av.ai.ret)
 (some ((ib l).st.t2))
 none)))
theorem HV (l:(Sl jP)):lL Try.prog (cR Try.prog Aa Ab (fun _=>false)) 9 9 45 [(ij 108 sm) l] = (mA l).map (kI .i64):=by
  unfold mA
  try simp only [jG]
  kernel_rfl
def vL:List KV→KR KV:=kz Try.prog 45 (lE (kI .i64) fun vs=>mA ((hZ og) (vs.getD 0 .aq)))
theorem GA (w:Nat→KV):iC Try.prog [23] w 0 = [(ij 108 sm) ((hZ og) (cf Try.prog (aK Try.prog a6) 23 (w 0)))]:=by kernel_rfl
theorem xZ:gN Try.prog 45 vL:=eG funcs mixed Gy Gz (L:=9) (n:=9) fun w=>by
  have e:bM Try.prog 45 = [23]:=by kernel_rfl
  rw [e,GA]
  exact (HV ((hZ og) (cf Try.prog (aK Try.prog a6) 23 (w 0)))).trans (by kernel_rfl)
structure LW where
  color:Color
  LX:Int
  aep:Int
  abp:Int
  cQ:Bool
  bin:Int
instance:Inhabited LW:=⟨⟨default,default,default,default,default,default⟩⟩
def agL (x:LW):List KV:=[.int .u8 x.color.e0,.int .u8 x.color.e1,.int .u8 x.color.e2,.int .u8 x.color.e3,.int .i64 x.LX,.int .u8 x.aep,.int .i64 x.abp,.bool x.cQ,.int .i64 x.bin]
def aeq (x:LW):KV:=.agg (agL x)
def agM (c:Nat→KV):LW:=⟨⟨intOf (c 0),intOf (c 1),intOf (c 2),intOf (c 3)⟩,intOf (c 4),intOf (c 5),intOf (c 6),l7 (c 7),intOf (c 8)⟩
def aag (v:KV):LW:=agM fun k=>v.cells.getD k .aq
def yE:List (Nat×(List KV→KR KV)):=[]
def yF:List Lp:=[]
theorem EV:aw Try.prog yE:=aw.nil
theorem EW:aF Try.prog yF:=aF.nil
def lQ (l:LW) (bN:Int):Option (Int):=
 (cond (decide (bN < (0:Int)))
 (some ((2:Int)))
 (cond (decide (bN > (16:Int)))
 (some ((2:Int)))
 (cond (decide (l.LX < (-(1:Int))))
 (some ((8:Int)))
 (cond (decide (l.LX ≥ bN))
 (some ((8:Int)))
 (cond (decide (l.aep > (2:Int)))
 (some ((8:Int)))
 (cond (decide (l.abp < (-(1024:Int))))
 (some ((8:Int)))
 (cond (decide (l.abp > (1024:Int)))
 (some ((8:Int)))
 (cond (decide (l.bin < (0:Int)))
 (some ((8:Int)))
 (cond (decide (l.bin > (15:Int)))
 (some ((8:Int)))
 (some ((0:Int))))))))))))
theorem GB (l:LW) (bN:Int):lL Try.prog (cR Try.prog yE yF (fun _=>false)) 9 9 46 [aeq l,(kI .i64) bN] = (lQ l bN).map (kI .i64):=by
  unfold lQ
  try simp only [jG]
  kernel_rfl
def qi:List KV→KR KV:=kz Try.prog 46 (lE (kI .i64) fun vs=>lQ (aag (vs.getD 0 .aq)) (intOf (vs.getD 1 .aq)))
theorem EX (w:Nat→KV):iC Try.prog [39,3] w 0 = [aeq (aag (cf Try.prog (aK Try.prog a6) 39 (w 0))),(kI .i64) (intOf (cf Try.prog (aK Try.prog a6) 3 (w 1)))]:=by kernel_rfl
theorem qR:gN Try.prog 46 qi:=eG funcs mixed EV EW (L:=9) (n:=9) fun w=>by
  have e:bM Try.prog 46 = [39,3]:=by kernel_rfl
  rw [e,EX]
  exact (GB (aag (cf Try.prog (aK Try.prog a6) 39 (w 0))) (intOf (cf Try.prog (aK Try.prog a6) 3 (w 1)))).trans (by kernel_rfl)
structure HD where
  e0:Int
  e1:Int
instance:Inhabited HD:=⟨⟨default,default⟩⟩
def aer (x:HD):List KV:=[.int .i64 x.e0,.int .i64 x.e1]
def aes (x:HD):KV:=.agg (aer x)
def aet (c:Nat→KV):HD:=⟨intOf (c 0),intOf (c 1)⟩
def aeu (v:KV):HD:=aet fun k=>v.cells.getD k .aq
structure Item where
  hJ:(Sl pe)
  uV:(Sl HD)
  dp:(Sl AY)
  look:LW
  box:uR
instance:Inhabited Item:=⟨⟨default,default,default,default,default⟩⟩
def Wh (x:Item):List KV:=[ij 41 LL x.hJ,ij 176 aes x.uV,ij 50 YB x.dp,.int .u8 x.look.color.e0,.int .u8 x.look.color.e1,.int .u8 x.look.color.e2,.int .u8 x.look.color.e3,.int .i64 x.look.LX,.int .u8 x.look.aep,.int .i64 x.look.abp,.bool x.look.cQ,.int .i64 x.look.bin,.int .i64 x.box.low.x,.int .i64 x.box.low.y,.int .i64 x.box.low.z,.int .i64 x.box.high.x,.int .i64 x.box.high.y,.int .i64 x.box.high.z]
def Wi (x:Item):KV:=.agg (Wh x)
def Wj (c:Nat→KV):Item:=⟨hZ Gv (c 0),hZ aeu (c 1),hZ YC (c 2),⟨⟨intOf (c 3),intOf (c 4),intOf (c 5),intOf (c 6)⟩,intOf (c 7),intOf (c 8),intOf (c 9),l7 (c 10),intOf (c 11)⟩,⟨⟨intOf (c 12),intOf (c 13),intOf (c 14)⟩,⟨intOf (c 15),intOf (c 16),intOf (c 17)⟩⟩⟩
def Sn (v:KV):Item:=Wj fun k=>v.cells.getD k .aq
structure dY where
  t4:Bool
  n:Int
  t38:(Sl pe)
  t39:Int
  t40:Int
  x:Item
instance:Inhabited dY:=⟨⟨default,default,default,default,default,default⟩⟩
def ra (x:dY):List KV:=[.bool x.t4,.int .i64 x.n,ij 41 LL x.t38,.int .i64 x.t39,.int .i64 x.t40]
def rb (x:dY):List (List KV):=[Wh x.x]
def A6 (vs:List KV) (rs:List (List KV)):dY:=⟨l7 (vs.getD 0 .aq),intOf (vs.getD 1 .aq),hZ Gv (vs.getD 2 .aq),intOf (vs.getD 3 .aq),intOf (vs.getD 4 .aq),Wj (fun k=>(rs.getD 0 []).getD k .aq)⟩
def CO:aD:=⟨[(4,⟨false,[.k .bool]⟩),(5,⟨false,[.k (.int .i64)]⟩),(38,⟨false,[.k (.slice 41)]⟩),(39,⟨false,[.k (.int .i64)]⟩),(40,⟨false,[.k (.int .i64)]⟩)],[(2,[.k (.slice 41),.k (.slice 176),.k (.slice 50),.k (.int .u8),.k (.int .u8),.k (.int .u8),.k (.int .u8),.k (.int .i64),.k (.int .u8),.k (.int .i64),.k .bool,.k (.int .i64),.k (.int .i64),.k (.int .i64),.k (.int .i64),.k (.int .i64),.k (.int .i64),.k (.int .i64)],1)],[(2,0,0)]⟩
def LY:=ky Try.prog (cR Try.prog [(109,HC),(108,y7),(46,qi)] [] (fun _=>false)) 9 9 81 122 (fh Try.prog 81 122) CO
def qj (x:dY):(Option Int):=(qh (x.t38.get (Int.toNat x.t40)))
def jx (x:dY):aE dY:=
 (cond (decide (x.t40 < x.t39))
 (cond ((decide ((0:Int)≤x.t40)) && (decide (x.t40 < ((x.t38.n:Nat):Int))))
 (cond (qj x).isSome
 (cond (((qj x).getD default) != (0:Int))
 (.out av.ai.ret (⟨false,x.n,x.t38,x.t39,x.t40,x.x⟩:dY))
 (cond ((decide ((0:Int)≤x.t40)) && (decide (x.t40 < ((x.x.uV.n:Nat):Int))))
 (cond ((decide ((0:Int)≤x.t40)) && (decide (x.t40 < ((x.x.uV.n:Nat):Int))))
 (cond (decide ((min (x.x.uV.get (Int.toNat x.t40)).e0 (x.x.uV.get (Int.toNat x.t40)).e1) < (0:Int)))
 (.out av.ai.ret (⟨false,x.n,x.t38,x.t39,x.t40,x.x⟩:dY))
 (cond ((decide ((0:Int)≤x.t40)) && (decide (x.t40 < ((x.x.uV.n:Nat):Int))))
 (cond ((decide ((0:Int)≤x.t40)) && (decide (x.t40 < ((x.x.uV.n:Nat):Int))))
 (cond (decide ((max (x.x.uV.get (Int.toNat x.t40)).e0 (x.x.uV.get (Int.toNat x.t40)).e1) > (255:Int)))
 (.out av.ai.ret (⟨false,x.n,x.t38,x.t39,x.t40,x.x⟩:dY))
 (.next (⟨x.t4,x.n,x.t38,x.t39,(aB (x.t40+(1:Int))),x.x⟩:dY)))
 .fail)
 .fail))
 .fail)
 .fail))
 .fail)
 .fail)
 (.out (av.ai.exit 0) x))
theorem HW (x:dY):LY (ra x) (rb x)=aE.enc ra rb (jx x):=by
  unfold jx
  try simp only [aE.dc]
  kernel_rfl
def pF:Lp:=⟨81,122,CO,fun vs rs=>dt ra rb (goN jx (A6 vs rs)) [av.ai.exit 0,av.ai.ret],false⟩
theorem A7:pF.Ok Try.prog:=fQ funcs mixed (aw.cons Ee (aw.cons yq (aw.cons qR aw.nil))) aF.nil (L:=9) (n:=9) (step:=jx) (ev:=ra) (er:=rb) (pa:=A6) rfl (fun wv wr=>⟨by kernel_rfl,by kernel_rfl⟩) HW
theorem x1:cH Try.prog pF.f pF.p=true:=by kernel_rfl
structure eJ where
  t4:Bool
  n:Int
  t82:(Sl AY)
  t83:Int
  t84:Int
  x:Item
instance:Inhabited eJ:=⟨⟨default,default,default,default,default,default⟩⟩
def rf (x:eJ):List KV:=[.bool x.t4,.int .i64 x.n,ij 50 YB x.t82,.int .i64 x.t83,.int .i64 x.t84]
def rh (x:eJ):List (List KV):=[Wh x.x]
def A8 (vs:List KV) (rs:List (List KV)):eJ:=⟨l7 (vs.getD 0 .aq),intOf (vs.getD 1 .aq),hZ YC (vs.getD 2 .aq),intOf (vs.getD 3 .aq),intOf (vs.getD 4 .aq),Wj (fun k=>(rs.getD 0 []).getD k .aq)⟩
def CP:aD:=⟨[(4,⟨false,[.k .bool]⟩),(5,⟨false,[.k (.int .i64)]⟩),(82,⟨false,[.k (.slice 50)]⟩),(83,⟨false,[.k (.int .i64)]⟩),(84,⟨false,[.k (.int .i64)]⟩)],[(2,[.k (.slice 41),.k (.slice 176),.k (.slice 50),.k (.int .u8),.k (.int .u8),.k (.int .u8),.k (.int .u8),.k (.int .i64),.k (.int .u8),.k (.int .i64),.k .bool,.k (.int .i64),.k (.int .i64),.k (.int .i64),.k (.int .i64),.k (.int .i64),.k (.int .i64),.k (.int .i64)],1)],[(2,0,0)]⟩
def LZ:=ky Try.prog (cR Try.prog [(109,HC),(108,y7),(46,qi)] [pF] (fun _=>false)) 9 9 81 250 (fh Try.prog 81 250) CP
def ic (x:eJ):aE eJ:=
 (cond (decide (x.t84 < x.t83))
 (cond ((decide ((0:Int)≤x.t84)) && (decide (x.t84 < ((x.t82.n:Nat):Int))))
 (cond (decide ((min (min (x.t82.get (Int.toNat x.t84)).e0 (x.t82.get (Int.toNat x.t84)).e1) (x.t82.get (Int.toNat x.t84)).e2) < (0:Int)))
 (.out av.ai.ret (⟨false,x.n,x.t82,x.t83,x.t84,x.x⟩:eJ))
 (cond (decide ((max (max (x.t82.get (Int.toNat x.t84)).e0 (x.t82.get (Int.toNat x.t84)).e1) (x.t82.get (Int.toNat x.t84)).e2) ≥ x.n))
 (.out av.ai.ret (⟨false,x.n,x.t82,x.t83,x.t84,x.x⟩:eJ))
 (.next (⟨x.t4,x.n,x.t82,x.t83,(aB (x.t84+(1:Int))),x.x⟩:eJ))))
 .fail)
 (.out (av.ai.exit 2) x))
theorem HX (x:eJ):LZ (rf x) (rh x)=aE.enc rf rh (ic x):=by
  unfold ic
  try simp only [aE.dc]
  kernel_rfl
def sn:Lp:=⟨81,250,CP,fun vs rs=>dt rf rh (goN ic (A8 vs rs)) [av.ai.exit 2,av.ai.ret],false⟩
theorem L1:sn.Ok Try.prog:=fQ funcs mixed (aw.cons Ee (aw.cons yq (aw.cons qR aw.nil))) (aF.cons A7 x1 aF.nil) (L:=9) (n:=9) (step:=ic) (ev:=rf) (er:=rh) (pa:=A8) rfl (fun wv wr=>⟨by kernel_rfl,by kernel_rfl⟩) HX
theorem GC:cH Try.prog sn.f sn.p=true:=by kernel_rfl
def IY:List (Nat×(List KV→KR KV)):=[(109,HC),(108,y7),(46,qi)]
def IZ:List Lp:=[pF,sn]
theorem O3:aw Try.prog IY:=(aw.cons Ee (aw.cons yq (aw.cons qR aw.nil)))
theorem O4:aF Try.prog IZ:=(aF.cons A7 x1 (aF.cons L1 GC aF.nil))
def vM (x:Item) (bN:Int):(Option Int):=(lQ x.look bN)
def eO (x:Item) (bN:Int):(aE dY):=(goN jx (⟨false,((x.hJ.n:Nat):Int),x.hJ,((x.hJ.n:Nat):Int),(0:Int),x⟩:dY))
def dR (x:Item) (bN:Int):(aE eJ):=(goN ic (⟨(eO x bN).st.t4,(eO x bN).st.n,(eO x bN).st.x.dp,(((eO x bN).st.x.dp.n:Nat):Int),(0:Int),(eO x bN).st.x⟩:eJ))
def lj (x:Item) (bN:Int):(Option (Prod uR Int)):=(zl (dR x bN).st.x.hJ)
def sq (x:Item) (bN:Int):Option (Bool):=
 (cond (decide (((x.hJ.n:Nat):Int) > (64:Int)))
 (some (false))
 (cond (((x.uV.n:Nat):Int) != ((x.hJ.n:Nat):Int))
 (some (false))
 (cond (decide (((x.dp.n:Nat):Int) > (64:Int)))
 (some (false))
 (cond (vM x bN).isSome
 (cond (((vM x bN).getD default) != (0:Int))
 (some (false))
 (cond ((eO x bN).by (av.ai.exit 0))
 (cond ((dR x bN).by (av.ai.exit 2))
 (cond (lj x bN).isSome
 (cond ((((lj x bN).getD default).fst.low.x == (dR x bN).st.x.box.low.x) && ((((lj x bN).getD default).fst.low.y == (dR x bN).st.x.box.low.y) && ((((lj x bN).getD default).fst.low.z == (dR x bN).st.x.box.low.z) && ((((lj x bN).getD default).fst.high.x == (dR x bN).st.x.box.high.x) && ((((lj x bN).getD default).fst.high.y == (dR x bN).st.x.box.high.y) && ((((lj x bN).getD default).fst.high.z == (dR x bN).st.x.box.high.z) && true))))))
 (cond (((lj x bN).getD default).snd == (0:Int))
 (some (true))
 (some (((dR x bN).st.n == (0:Int)))))
 (some (false)))
 none)
 (cond ((dR x bN).by av.ai.ret)
 (some ((dR x bN).st.t4))
 none))
 (cond ((eO x bN).by av.ai.ret)
 (some ((eO x bN).st.t4))
 none)))
 none))))
theorem Sp (x:Item) (bN:Int):lL Try.prog (cR Try.prog IY IZ (fun _=>false)) 9 9 81 [Wi x,(kI .i64) bN] = (sq x bN).map kB:=by
  unfold sq
  try simp only [jG]
  kernel_rfl
def Ef:List KV→KR KV:=kz Try.prog 81 (lE kB fun vs=>sq (Sn (vs.getD 0 .aq)) (intOf (vs.getD 1 .aq)))
theorem O5 (w:Nat→KV):iC Try.prog [45,3] w 0 = [Wi (Sn (cf Try.prog (aK Try.prog a6) 45 (w 0))),(kI .i64) (intOf (cf Try.prog (aK Try.prog a6) 3 (w 1)))]:=by kernel_rfl
theorem EA:gN Try.prog 81 Ef:=eG funcs mixed O3 O4 (L:=9) (n:=9) fun w=>by
  have e:bM Try.prog 81 = [45,3]:=by kernel_rfl
  rw [e,O5]
  exact (Sp (Sn (cf Try.prog (aK Try.prog a6) 45 (w 0))) (intOf (cf Try.prog (aK Try.prog a6) 3 (w 1)))).trans (by kernel_rfl)
structure Show where
  items:(Sl Item)
  bN:(Sl jP)
instance:Inhabited Show:=⟨⟨default,default⟩⟩
def lC (x:Show):List KV:=[ij 45 Wi x.items,ij 108 sm x.bN]
def yr (x:Show):KV:=.agg (lC x)
def lD (c:Nat→KV):Show:=⟨hZ Sn (c 0),hZ og (c 1)⟩
def sW (v:KV):Show:=lD fun k=>v.cells.getD k .aq
structure aX where
  s:(Sl Item)
  t4:Int
  t7:Int
  t8:Int
  YF:Show
instance:Inhabited aX:=⟨⟨default,default,default,default,default⟩⟩
def eD (x:aX):List KV:=[ij 45 Wi x.s,.fn (.func 80) [] [.ptr 0 0],.int .i64 x.t4,.int .i64 x.t7,.int .i64 x.t8]
def eE (x:aX):List (List KV):=[lC x.YF]
def lk (vs:List KV) (rs:List (List KV)):aX:=⟨hZ Sn (vs.getD 0 .aq),intOf (vs.getD 2 .aq),intOf (vs.getD 3 .aq),intOf (vs.getD 4 .aq),lD (fun k=>(rs.getD 0 []).getD k .aq)⟩
def lz:aD:=⟨[(0,⟨false,[.k (.slice 45)]⟩),(1,⟨false,[.ref (.fn (.func 80) [] [.ptr 0 0])]⟩),(4,⟨false,[.k (.int .i64)]⟩),(7,⟨false,[.k (.int .i64)]⟩),(8,⟨false,[.k (.int .i64)]⟩)],[(100001,[.k (.slice 45),.k (.slice 108)],1)],[]⟩
def qk:=ky Try.prog (cR Try.prog [(81,Ef),(45,vL)] [] (fun _=>false)) 9 9 107 26 (fh Try.prog 107 26) lz
def gF (x:aX):(Option Bool):=(sq (x.s.get (Int.toNat x.t8)) ((x.YF.bN.n:Nat):Int))
def ca (x:aX):aE aX:=
 (cond (decide (x.t8 < x.t7))
 (cond ((decide ((0:Int)≤x.t8)) && (decide (x.t8 < ((x.s.n:Nat):Int))))
 (cond (gF x).isSome
 (cond (!((gF x).getD default))
 (.out av.ai.ret (⟨x.s,x.t8,x.t7,x.t8,x.YF⟩:aX))
 (.next (⟨x.s,x.t4,x.t7,(aB (x.t8+(1:Int))),x.YF⟩:aX)))
 .fail)
 .fail)
 (.out (av.ai.exit 0) x))
theorem pG (x:aX):qk (eD x) (eE x)=aE.enc eD eE (ca x):=by
  unfold ca
  try simp only [aE.dc]
  kernel_rfl
def eK:Lp:=⟨107,26,lz,fun vs rs=>dt eD eE (goN ca (lk vs rs)) [av.ai.exit 0,av.ai.ret],false⟩
theorem ql:eK.Ok Try.prog:=fQ funcs mixed (aw.cons EA (aw.cons xZ aw.nil)) aF.nil (L:=9) (n:=9) (step:=ca) (ev:=eD) (er:=eE) (pa:=lk) rfl (fun wv wr=>⟨by kernel_rfl,by kernel_rfl⟩) pG
theorem pf:cH Try.prog eK.f eK.p=true:=by kernel_rfl
def EB:List (Nat×(List KV→KR KV)):=[(81,Ef),(45,vL)]
def EC:List Lp:=[eK]
theorem L4:aw Try.prog EB:=(aw.cons EA (aw.cons xZ aw.nil))
theorem L5:aF Try.prog EC:=(aF.cons ql pf aF.nil)
def ss (s:Show):(Option Int):=(mA s.bN)
def jk (s:Show):(aE aX):=(goN ca (⟨s.items,(0:Int),((s.items.n:Nat):Int),(0:Int),s⟩:aX))
def ll (s:Show):Option (Int):=
 (cond (decide (((s.items.n:Nat):Int) > (256:Int)))
 (some ((4:Int)))
 (cond (decide (((s.bN.n:Nat):Int) > (16:Int)))
 (some ((4:Int)))
 (cond (ss s).isSome
 (cond (((ss s).getD default) != (0:Int))
 (some ((8:Int)))
 (cond ((jk s).by (av.ai.exit 0))
 (some ((0:Int)))
 (cond ((jk s).by av.ai.ret)
 (cond (decide ((jk s).st.t4 ≥ (0:Int)))
 (some ((8:Int)))
 (some ((0:Int))))
 none)))
 none)))
theorem Nk (s:Show):lL Try.prog (cR Try.prog EB EC (fun _=>false)) 9 9 50 [yr s] = (ll s).map (kI .i64):=by
  unfold ll
  try simp only [jG]
  kernel_rfl
def nE:List KV→KR KV:=kz Try.prog 50 (lE (kI .i64) fun vs=>ll (sW (vs.getD 0 .aq)))
theorem L6 (w:Nat→KV):iC Try.prog [25] w 0 = [yr (sW (cf Try.prog (aK Try.prog a6) 25 (w 0)))]:=by kernel_rfl
theorem mB:gN Try.prog 50 nE:=eG funcs mixed L4 L5 (L:=9) (n:=9) fun w=>by
  have e:bM Try.prog 50 = [25]:=by kernel_rfl
  rw [e,L6]
  exact (Nk (sW (cf Try.prog (aK Try.prog a6) 25 (w 0)))).trans (by kernel_rfl)
end
end Go.Proofs.Ytahhdndhkgbcjaa.b
end
section
namespace Go.Proofs.Ytahhdndhkgbcjaa.b
open Go.K
set_option linter.unusedVariables false
set_option linter.unusedSimpArgs false
noncomputable section
end
end Go.Proofs.Ytahhdndhkgbcjaa.b
end
section
namespace Go.Proofs.Ytahhdndhkgbcjaa.b
open Go.K
set_option linter.unusedVariables false
set_option linter.unusedSimpArgs false
noncomputable section
structure aZ where
  item:Int
  GD:Int
instance:Inhabited aZ:=⟨⟨default,default⟩⟩
def aev (x:aZ):List KV:=[.int .i64 x.item,.int .i64 x.GD]
def fc (x:aZ):KV:=.agg (aev x)
def aew (c:Nat→KV):aZ:=⟨intOf (c 0),intOf (c 1)⟩
def fD (v:KV):aZ:=aew fun k=>v.cells.getD k .aq
theorem Sq (x:aZ):fD (fc x)=x:=rfl
theorem aex:fD .aq=default:=rfl
theorem Sr (s:Sl aZ) (v:aZ):s.push v=Gu fD (s.n+1) (qx s.n (fun i=>fc (s.get i)) (DA [fc v])):=(acg Sq aex s v).symm
theorem HF (s:Sl aZ) (i:Nat) (v:aZ):s.set i v=Gu fD s.n (vq (fun j=>fc (s.get j)) i (fc v)):=(aei Sq s i v).symm
theorem HG (m n' i:Nat) (acc:Nat→KV) (v:KV):Gu fD m (vq (fun j=>fc ((Gu fD n' acc).get j)) i v)=Gu fD m (vq acc i v):=aej Sq ..
structure iZ where
  l:(Sl jP)
  n:Int
  i:Int
instance:Inhabited iZ:=⟨⟨default,default,default⟩⟩
def su (x:iZ):List KV:=[ij 108 sm x.l,.int .i64 x.n,.int .i64 x.i]
def sv (x:iZ):List (List KV):=[]
def CQ (vs:List KV) (rs:List (List KV)):iZ:=⟨hZ og (vs.getD 0 .aq),intOf (vs.getD 1 .aq),intOf (vs.getD 2 .aq)⟩
def ED:aD:=⟨[(0,⟨false,[.k (.slice 108)]⟩),(3,⟨false,[.k (.int .i64)]⟩),(4,⟨false,[.k (.int .i64)]⟩)],[],[]⟩
def Nl:=ky Try.prog (cR Try.prog [] [] (fun _=>false)) 9 9 31 58 (fh Try.prog 31 58) ED
def ke (x:iZ):aE iZ:=
 (cond (decide (x.i < ((x.l.n:Nat):Int)))
 (cond (decide (x.i < (100:Int)))
 (cond ((decide ((0:Int)≤x.i)) && (decide (x.i < ((x.l.n:Nat):Int))))
 (.next (⟨x.l,(aB (x.n+(min (((x.l.get (Int.toNat x.i)).Wg.n:Nat):Int) (100000:Int)))),(aB (x.i+(1:Int)))⟩:iZ))
 .fail)
 (.out (av.ai.exit 0) x))
 (.out (av.ai.exit 0) x))
theorem J3 (x:iZ):Nl (su x) (sv x)=aE.enc su sv (ke x):=by
  unfold ke
  try simp only [aE.dc]
  kernel_rfl
def tN:Lp:=⟨31,58,ED,fun vs rs=>dt su sv (goN ke (CQ vs rs)) [av.ai.exit 0],false⟩
theorem Nm:tN.Ok Try.prog:=fQ funcs mixed aw.nil aF.nil (L:=9) (n:=9) (step:=ke) (ev:=su) (er:=sv) (pa:=CQ) rfl (fun wv wr=>⟨by kernel_rfl,by kernel_rfl⟩) J3
theorem HY:cH Try.prog tN.f tN.p=true:=by kernel_rfl
def I0:List (Nat×(List KV→KR KV)):=[]
def I1:List Lp:=[tN]
theorem O6:aw Try.prog I0:=aw.nil
theorem O7:aF Try.prog I1:=(aF.cons Nm HY aF.nil)
def pH (l:(Sl jP)):(aE iZ):=(goN ke (⟨l,(0:Int),(0:Int)⟩:iZ))
def sA (l:(Sl jP)):Option (Bool):=
 (cond ((pH l).by (av.ai.exit 0))
 (cond (decide ((((pH l).st.l.n:Nat):Int) > (40:Int)))
 (some (true))
 (some ((decide ((pH l).st.n > (20000:Int))))))
 none)
theorem Ss (l:(Sl jP)):lL Try.prog (cR Try.prog I0 I1 (fun _=>false)) 9 9 31 [(ij 108 sm) l] = (sA l).map kB:=by
  unfold sA
  try simp only [jG]
  kernel_rfl
def Eg:List KV→KR KV:=kz Try.prog 31 (lE kB fun vs=>sA ((hZ og) (vs.getD 0 .aq)))
theorem O8 (w:Nat→KV):iC Try.prog [23] w 0 = [(ij 108 sm) ((hZ og) (cf Try.prog (aK Try.prog a6) 23 (w 0)))]:=by kernel_rfl
theorem EE:gN Try.prog 31 Eg:=eG funcs mixed O6 O7 (L:=9) (n:=9) fun w=>by
  have e:bM Try.prog 31 = [23]:=by kernel_rfl
  rw [e,O8]
  exact (Ss ((hZ og) (cf Try.prog (aK Try.prog a6) 23 (w 0)))).trans (by kernel_rfl)
structure ja where
  n:Int
  i:Int
  s:Show
instance:Inhabited ja:=⟨⟨default,default,default⟩⟩
def sB (x:ja):List KV:=[.int .i64 x.n,.int .i64 x.i]
def sC (x:ja):List (List KV):=[lC x.s]
def CR (vs:List KV) (rs:List (List KV)):ja:=⟨intOf (vs.getD 0 .aq),intOf (vs.getD 1 .aq),lD (fun k=>(rs.getD 0 []).getD k .aq)⟩
def EF:aD:=⟨[(3,⟨false,[.k (.int .i64)]⟩),(4,⟨false,[.k (.int .i64)]⟩)],[(1,[.k (.slice 45),.k (.slice 108)],1)],[(1,0,0)]⟩
def Nn:=ky Try.prog (cR Try.prog [(31,Eg)] [] (fun _=>false)) 9 9 10 58 (fh Try.prog 10 58) EF
def kf (x:ja):aE ja:=
 (cond (decide (x.i < ((x.s.items.n:Nat):Int)))
 (cond (decide (x.i < (300:Int)))
 (cond ((decide ((0:Int)≤x.i)) && (decide (x.i < ((x.s.items.n:Nat):Int))))
 (cond ((decide ((0:Int)≤x.i)) && (decide (x.i < ((x.s.items.n:Nat):Int))))
 (cond ((decide ((0:Int)≤x.i)) && (decide (x.i < ((x.s.items.n:Nat):Int))))
 (.next (⟨(aB ((aB ((aB (x.n+(min (((x.s.items.get (Int.toNat x.i)).hJ.n:Nat):Int) (10000:Int))))+(min (((x.s.items.get (Int.toNat x.i)).uV.n:Nat):Int) (10000:Int))))+(aB ((2:Int) * (min (((x.s.items.get (Int.toNat x.i)).dp.n:Nat):Int) (10000:Int)))))),(aB (x.i+(1:Int))),x.s⟩:ja))
 .fail)
 .fail)
 .fail)
 (.out (av.ai.exit 0) x))
 (.out (av.ai.exit 0) x))
theorem J4 (x:ja):Nn (sB x) (sC x)=aE.enc sB sC (kf x):=by
  unfold kf
  try simp only [aE.dc]
  kernel_rfl
def tP:Lp:=⟨10,58,EF,fun vs rs=>dt sB sC (goN kf (CR vs rs)) [av.ai.exit 0],false⟩
theorem Np:tP.Ok Try.prog:=fQ funcs mixed (aw.cons EE aw.nil) aF.nil (L:=9) (n:=9) (step:=kf) (ev:=sB) (er:=sC) (pa:=CR) rfl (fun wv wr=>⟨by kernel_rfl,by kernel_rfl⟩) J4
theorem HZ:cH Try.prog tP.f tP.p=true:=by kernel_rfl
def I2:List (Nat×(List KV→KR KV)):=[(31,Eg)]
def I3:List Lp:=[tP]
theorem O9:aw Try.prog I2:=(aw.cons EE aw.nil)
theorem Pa:aF Try.prog I3:=(aF.cons Np HZ aF.nil)
def nF (s:Show):(aE ja):=(goN kf (⟨(0:Int),(0:Int),s⟩:ja))
def Ac (s:Show):(Option Bool):=(sA (nF s).st.s.bN)
def sD (s:Show):Option (Bool):=
 (cond ((nF s).by (av.ai.exit 0))
 (cond (decide ((((nF s).st.s.items.n:Nat):Int) > (260:Int)))
 (some (true))
 (cond (decide ((nF s).st.n > (800:Int)))
 (some (true))
 (cond (Ac s).isSome
 (some (((Ac s).getD default)))
 none)))
 none)
theorem Su (s:Show):lL Try.prog (cR Try.prog I2 I3 (fun _=>false)) 9 9 10 [yr s] = (sD s).map kB:=by
  unfold sD
  try simp only [jG]
  kernel_rfl
def sE:List KV→KR KV:=kz Try.prog 10 (lE kB fun vs=>sD (sW (vs.getD 0 .aq)))
theorem Pb (w:Nat→KV):iC Try.prog [25] w 0 = [yr (sW (cf Try.prog (aK Try.prog a6) 25 (w 0)))]:=by kernel_rfl
theorem qD:gN Try.prog 10 sE:=eG funcs mixed O9 Pa (L:=9) (n:=9) fun w=>by
  have e:bM Try.prog 10 = [25]:=by kernel_rfl
  rw [e,Pb]
  exact (Su (sW (cf Try.prog (aK Try.prog a6) 25 (w 0)))).trans (by kernel_rfl)
structure jQ where
  l:(Sl aZ)
  n:Int
  i:Int
  d:aZ
instance:Inhabited jQ:=⟨⟨default,default,default,default⟩⟩
def vN (x:jQ):List KV:=[ij 47 fc x.l,.int .i64 x.n,.int .i64 x.i]
def vO (x:jQ):List (List KV):=[aev x.d]
def GF (vs:List KV) (rs:List (List KV)):jQ:=⟨hZ fD (vs.getD 0 .aq),intOf (vs.getD 1 .aq),intOf (vs.getD 2 .aq),aew (fun k=>(rs.getD 0 []).getD k .aq)⟩
def I4:aD:=⟨[(0,⟨false,[.k (.slice 47)]⟩),(5,⟨false,[.k (.int .i64)]⟩),(6,⟨false,[.k (.int .i64)]⟩)],[(3,[.k (.int .i64),.k (.int .i64)],1)],[(3,0,0)]⟩
def Sv:=ky Try.prog (cR Try.prog [] [] (fun _=>false)) 9 9 13 58 (fh Try.prog 13 58) I4
def lR (x:jQ):aE jQ:=
 (cond (decide (x.i < ((x.l.n:Nat):Int)))
 (cond ((decide ((0:Int)≤x.i)) && (decide (x.i < ((x.l.n:Nat):Int))))
 (cond (((x.l.get (Int.toNat x.i)).item == x.d.item) && (((x.l.get (Int.toNat x.i)).GD == x.d.GD) && true))
 (.next (⟨x.l,(aB (x.n+(1:Int))),(aB (x.i+(1:Int))),x.d⟩:jQ))
 (.next (⟨x.l,x.n,(aB (x.i+(1:Int))),x.d⟩:jQ)))
 .fail)
 (.out (av.ai.exit 0) x))
theorem Nq (x:jQ):Sv (vN x) (vO x)=aE.enc vN vO (lR x):=by
  unfold lR
  try simp only [aE.dc]
  kernel_rfl
def xA:Lp:=⟨13,58,I4,fun vs rs=>dt vN vO (goN lR (GF vs rs)) [av.ai.exit 0],false⟩
theorem Sx:xA.Ok Try.prog:=fQ funcs mixed aw.nil aF.nil (L:=9) (n:=9) (step:=lR) (ev:=vN) (er:=vO) (pa:=GF) rfl (fun wv wr=>⟨by kernel_rfl,by kernel_rfl⟩) Nq
theorem L7:cH Try.prog xA.f xA.p=true:=by kernel_rfl
def Oz:List (Nat×(List KV→KR KV)):=[]
def OA:List Lp:=[xA]
theorem Tl:aw Try.prog Oz:=aw.nil
theorem Tn:aF Try.prog OA:=(aF.cons Sx L7 aF.nil)
def y8 (l:(Sl aZ)) (d:aZ):(aE jQ):=(goN lR (⟨l,(0:Int),(0:Int),d⟩:jQ))
def uo (l:(Sl aZ)) (d:aZ):Option (Int):=
 (cond ((y8 l d).by (av.ai.exit 0))
 (some ((y8 l d).st.n))
 none)
theorem Wk (l:(Sl aZ)) (d:aZ):lL Try.prog (cR Try.prog Oz OA (fun _=>false)) 9 9 13 [(ij 47 fc) l,fc d] = (uo l d).map (kI .i64):=by
  unfold uo
  try simp only [jG]
  kernel_rfl
def wZ:List KV→KR KV:=kz Try.prog 13 (lE (kI .i64) fun vs=>uo ((hZ fD) (vs.getD 0 .aq)) (fD (vs.getD 1 .aq)))
theorem Tp (w:Nat→KV):iC Try.prog [29,47] w 0 = [(ij 47 fc) ((hZ fD) (cf Try.prog (aK Try.prog a6) 29 (w 0))),fc (fD (cf Try.prog (aK Try.prog a6) 47 (w 1)))]:=by kernel_rfl
theorem tw:gN Try.prog 13 wZ:=eG funcs mixed Tl Tn (L:=9) (n:=9) fun w=>by
  have e:bM Try.prog 13 = [29,47]:=by kernel_rfl
  rw [e,Tp]
  exact (Wk ((hZ fD) (cf Try.prog (aK Try.prog a6) 29 (w 0))) (fD (cf Try.prog (aK Try.prog a6) 47 (w 1)))).trans (by kernel_rfl)
end
end Go.Proofs.Ytahhdndhkgbcjaa.b
end
section
namespace Go.Proofs.Ytahhdndhkgbcjaa.b
open Go.K
set_option linter.unusedVariables false
set_option linter.unusedSimpArgs false
noncomputable section
def CS:List (Nat×(List KV→KR KV)):=[]
def CT:List Lp:=[]
theorem J5:aw Try.prog CS:=aw.nil
theorem J6:aF Try.prog CT:=aF.nil
def oh (x:Int):Option (Bool):=
 (some ((x != x)))
theorem L8 (x:Int):lL Try.prog (cR Try.prog CS CT (fun q=>Nat.beq q 47)) 9 9 71 [(kI .i64) x] = (oh x).map kB:=by
  unfold oh
  kernel_rfl
def EG:List KV→KR KV:=kz Try.prog 71 (lE kB fun vs=>oh (intOf (vs.getD 0 .aq)))
theorem J7 (w:Nat→KV):iC Try.prog [3] w 0 = [(kI .i64) (intOf (cf Try.prog (aK Try.prog a6) 3 (w 0)))]:=by kernel_rfl
theorem J8:gN Try.prog 71 EG:=eG funcs mixed J5 J6 (L:=9) (n:=9) fun w=>by
  have e:bM Try.prog 71 = [3]:=by kernel_rfl
  rw [e,J7]
  exact (L8 (intOf (cf Try.prog (aK Try.prog a6) 3 (w 0)))).trans (by kernel_rfl)
def Ad:List (Nat×(List KV→KR KV)):=[(71,EG)]
def Ae:List Lp:=[]
theorem GG:aw Try.prog Ad:=(aw.cons J8 aw.nil)
theorem GH:aF Try.prog Ae:=aF.nil
def yG (x:Int) (y:Int):(Option Bool):=(oh x)
def sX (x:Int) (y:Int):(Option Bool):=(oh y)
def iv (x:Int) (y:Int):Option (Int):=
 (cond ((yG x y).getD default)
 (cond ((sX x y).getD default)
 (some ((0:Int)))
 (some ((-(1:Int)))))
 (cond ((sX x y).getD default)
 (some ((1:Int)))
 (cond (decide (x < y))
 (some ((-(1:Int))))
 (cond (decide (x > y))
 (some ((1:Int)))
 (some ((0:Int)))))))
theorem H0 (x:Int) (y:Int):lL Try.prog (cR Try.prog Ad Ae (fun q=>Nat.beq q 47)) 9 9 35 [(kI .i64) x,(kI .i64) y] = (iv x y).map (kI .i64):=by
  unfold iv
  try simp only [jG]
  kernel_rfl
def b6:List KV→KR KV:=kz Try.prog 35 (lE (kI .i64) fun vs=>iv (intOf (vs.getD 0 .aq)) (intOf (vs.getD 1 .aq)))
theorem GI (w:Nat→KV):iC Try.prog [3,3] w 0 = [(kI .i64) (intOf (cf Try.prog (aK Try.prog a6) 3 (w 0))),(kI .i64) (intOf (cf Try.prog (aK Try.prog a6) 3 (w 1)))]:=by kernel_rfl
theorem bF:gN Try.prog 35 b6:=eG funcs mixed GG GH (L:=9) (n:=9) fun w=>by
  have e:bM Try.prog 35 = [3,3]:=by kernel_rfl
  rw [e,GI]
  exact (H0 (intOf (cf Try.prog (aK Try.prog a6) 3 (w 0))) (intOf (cf Try.prog (aK Try.prog a6) 3 (w 1)))).trans (by kernel_rfl)
structure aY where
  data:(Sl aZ)
  a:Int
  b:Int
  n:Int
  held:Show
instance:Inhabited aY:=⟨⟨default,default,default,default,default⟩⟩
def iI (x:aY):List KV:=[ij 47 fc x.data,.int .i64 x.a,.int .i64 x.b,.int .i64 x.n,.fn (.func 34) [] [.ptr 0 0]]
def iJ (x:aY):List (List KV):=[lC x.held]
def o8 (vs:List KV) (rs:List (List KV)):aY:=⟨hZ fD (vs.getD 0 .aq),intOf (vs.getD 1 .aq),intOf (vs.getD 2 .aq),intOf (vs.getD 3 .aq),lD (fun k=>(rs.getD 0 []).getD k .aq)⟩
def pI:aD:=⟨[(0,⟨false,[.arr 47]⟩),(1,⟨false,[.k (.int .i64)]⟩),(2,⟨false,[.k (.int .i64)]⟩),(3,⟨false,[.k (.int .i64)]⟩),(4,⟨false,[.ref (.fn (.func 34) [] [.ptr 0 0])]⟩)],[(100004,[.k (.slice 45),.k (.slice 108)],1)],[]⟩
structure cg where
  data:(Sl aZ)
  a:Int
  b:Int
  n:Int
  i:Int
  dA:Show
instance:Inhabited cg:=⟨⟨default,default,default,default,default,default⟩⟩
def hM (x:cg):List KV:=[ij 47 fc x.data,.int .i64 x.a,.int .i64 x.b,.int .i64 x.n,.fn (.func 34) [] [.ptr 0 0],.int .i64 x.i]
def hO (x:cg):List (List KV):=[lC x.dA]
def nY (vs:List KV) (rs:List (List KV)):cg:=⟨hZ fD (vs.getD 0 .aq),intOf (vs.getD 1 .aq),intOf (vs.getD 2 .aq),intOf (vs.getD 3 .aq),intOf (vs.getD 5 .aq),lD (fun k=>(rs.getD 0 []).getD k .aq)⟩
def oH:aD:=⟨[(0,⟨false,[.arr 47]⟩),(1,⟨false,[.k (.int .i64)]⟩),(2,⟨false,[.k (.int .i64)]⟩),(3,⟨false,[.k (.int .i64)]⟩),(4,⟨false,[.ref (.fn (.func 34) [] [.ptr 0 0])]⟩),(10,⟨false,[.k (.int .i64)]⟩)],[(100004,[.k (.slice 45),.k (.slice 108)],1)],[]⟩
def uT:=nQ Try.prog (cR Try.prog [(35,b6)] [] (fun q=>Nat.beq q 47)) 9 9 134 6 (fh Try.prog 134 6) oH
def cE (x:cg):aE cg:=
 (cond (decide (x.i < x.n))
 (cond ((decide ((0:Int)≤(aB (x.b+x.i)))) && (decide ((aB (x.b+x.i)) < ((x.data.n:Nat):Int))))
 (cond ((decide ((0:Int)≤(aB (x.a+x.i)))) && (decide ((aB (x.a+x.i)) < ((x.data.n:Nat):Int))))
 (cond ((decide ((0:Int)≤(aB (x.a+x.i)))) && (decide ((aB (x.a+x.i)) < ((x.data.n:Nat):Int))))
 (cond ((decide ((0:Int)≤(aB (x.b+x.i)))) && (decide ((aB (x.b+x.i)) < ((x.data.n:Nat):Int))))
 (cond (ay x.data.n x.data.n)
 (.next (⟨((x.data.set (0+(Int.toNat (aB (x.a+x.i)))) (x.data.get (0+(Int.toNat (aB (x.b+x.i)))))).set (0+(Int.toNat (aB (x.b+x.i)))) (x.data.get (0+(Int.toNat (aB (x.a+x.i)))))),x.a,x.b,x.n,(aB (x.i+(1:Int))),x.dA⟩:cg))
 .fail)
 .fail)
 .fail)
 .fail)
 .fail)
 (cond (ay x.data.n x.data.n)
 (.out (av.ai.exit 0) x)
 .fail))
theorem tz (x:cg):uT (hM x) (hO x)=aE.enc hM hO (cE x):=by
  unfold cE
  try simp only [aE.dc,HG,HF]
  kernel_rfl
def iw:Lp:=⟨134,6,oH,fun vs rs=>dt hM hO (goN cE (nY vs rs)) [av.ai.exit 0],true⟩
theorem uU:iw.Ok Try.prog:=jX funcs mixed (aw.cons bF aw.nil) aF.nil (L:=9) (n:=9) (step:=cE) (ev:=hM) (er:=hO) (pa:=nY) rfl (fun wv wr=>⟨by kernel_rfl,by kernel_rfl⟩) tz
theorem sY:cH Try.prog iw.f iw.p=true:=by kernel_rfl
def v8:=BC Try.prog (cR Try.prog [(35,b6)] [iw] (fun q=>Nat.beq q 47)) 9 9 134 pI
def cD (x:aY):(aE cg):=(goN cE (⟨x.data,x.a,x.b,x.n,(0:Int),x.held⟩:cg))
def hQ (x:aY):aE aY:=
 (cond (ay x.data.n x.data.n)
 (cond ((cD x).by (av.ai.exit 0))
 (cond (ay (cD x).st.data.n (cD x).st.data.n)
 (.out av.ai.ret (⟨(cD x).st.data,(cD x).st.a,(cD x).st.b,(cD x).st.n,(cD x).st.dA⟩:aY))
 .fail)
 .fail)
 .fail)
theorem uW (x:aY):v8 (iI x) (iJ x)=aE.enc iI iJ (hQ x):=by
  unfold hQ
  try simp only [aE.dc]
  kernel_rfl
def dD (x:aY):aE aY:=hQ x
def lT:Fc:=⟨134,pI,fun vs rs=>dt iI iJ (dD (o8 vs rs)) [av.ai.ret]⟩
theorem oI:lT.Ok Try.prog:=xV funcs mixed (aw.cons bF aw.nil) (aF.cons uU sY aF.nil) (L:=9) (n:=9) (step:=dD) (ev:=iI) (er:=iJ) (pa:=o8) rfl (fun wv wr=>⟨by kernel_rfl,by kernel_rfl⟩) uW
structure bk where
  data:(Sl aZ)
  a:Int
  m:Int
  b:Int
  held:Show
instance:Inhabited bk:=⟨⟨default,default,default,default,default⟩⟩
def jZ (x:bk):List KV:=[ij 47 fc x.data,.int .i64 x.a,.int .i64 x.m,.int .i64 x.b,.fn (.func 34) [] [.ptr 0 0]]
def j6 (x:bk):List (List KV):=[lC x.held]
def qE (vs:List KV) (rs:List (List KV)):bk:=⟨hZ fD (vs.getD 0 .aq),intOf (vs.getD 1 .aq),intOf (vs.getD 2 .aq),intOf (vs.getD 3 .aq),lD (fun k=>(rs.getD 0 []).getD k .aq)⟩
def ri:aD:=⟨[(0,⟨false,[.arr 47]⟩),(1,⟨false,[.k (.int .i64)]⟩),(2,⟨false,[.k (.int .i64)]⟩),(3,⟨false,[.k (.int .i64)]⟩),(4,⟨false,[.ref (.fn (.func 34) [] [.ptr 0 0])]⟩)],[(100004,[.k (.slice 45),.k (.slice 108)],1)],[]⟩
structure bH where
  data:(Sl aZ)
  a:Int
  m:Int
  b:Int
  i:Int
  j:Int
  dA:Show
instance:Inhabited bH:=⟨⟨default,default,default,default,default,default,default⟩⟩
def iK (x:bH):List KV:=[ij 47 fc x.data,.int .i64 x.a,.int .i64 x.m,.int .i64 x.b,.fn (.func 34) [] [.ptr 0 0],.int .i64 x.i,.int .i64 x.j]
def iL (x:bH):List (List KV):=[lC x.dA]
def o9 (vs:List KV) (rs:List (List KV)):bH:=⟨hZ fD (vs.getD 0 .aq),intOf (vs.getD 1 .aq),intOf (vs.getD 2 .aq),intOf (vs.getD 3 .aq),intOf (vs.getD 5 .aq),intOf (vs.getD 6 .aq),lD (fun k=>(rs.getD 0 []).getD k .aq)⟩
def pJ:aD:=⟨[(0,⟨false,[.arr 47]⟩),(1,⟨false,[.k (.int .i64)]⟩),(2,⟨false,[.k (.int .i64)]⟩),(3,⟨false,[.k (.int .i64)]⟩),(4,⟨false,[.ref (.fn (.func 34) [] [.ptr 0 0])]⟩),(10,⟨false,[.k (.int .i64)]⟩),(11,⟨false,[.k (.int .i64)]⟩)],[(100004,[.k (.slice 45),.k (.slice 108)],1)],[]⟩
def v9:=nQ Try.prog (cR Try.prog [(35,b6)] [] (fun q=>Nat.beq q 47) false false [lT]) 9 9 121 28 (fh Try.prog 121 28) pJ
def dZ (x:bH):(aE aY):=(dD (⟨x.data,(aB (x.m - x.i)),x.m,x.j,x.dA⟩:aY))
def ef (x:bH):(aE aY):=(dD (⟨x.data,(aB (x.m - x.i)),(aB ((aB (x.m+x.j)) - x.i)),x.i,x.dA⟩:aY))
def cM (x:bH):aE bH:=
 (cond (x.i != x.j)
 (cond (decide (x.i > x.j))
 (cond (ay x.data.n x.data.n)
 (cond ((dZ x).by av.ai.ret)
 (cond (ay (dZ x).st.data.n x.data.n)
 (.next (⟨(dZ x).st.data,x.a,x.m,x.b,(aB (x.i - x.j)),x.j,(dZ x).st.held⟩:bH))
 .fail)
 .fail)
 .fail)
 (cond (ay x.data.n x.data.n)
 (cond ((ef x).by av.ai.ret)
 (cond (ay (ef x).st.data.n x.data.n)
 (.next (⟨(ef x).st.data,x.a,x.m,x.b,x.i,(aB (x.j - x.i)),(ef x).st.held⟩:bH))
 .fail)
 .fail)
 .fail))
 (cond (ay x.data.n x.data.n)
 (.out (av.ai.exit 0) x)
 .fail))
theorem uX (x:bH):v9 (iK x) (iL x)=aE.enc iK iL (cM x):=by
  unfold cM
  try simp only [aE.dc]
  kernel_rfl
def jl:Lp:=⟨121,28,pJ,fun vs rs=>dt iK iL (goN cM (o9 vs rs)) [av.ai.exit 0],true⟩
theorem wa:jl.Ok Try.prog:=jX funcs mixed (aw.cons bF aw.nil) aF.nil (L:=9) (n:=9) (step:=cM) (ev:=iK) (er:=iL) (pa:=o9) rfl (fun wv wr=>⟨by kernel_rfl,by kernel_rfl⟩) uX (yp:=(ew.cons oI ew.nil))
theorem uq:cH Try.prog jl.f jl.p=true:=by kernel_rfl
def yu:=BC Try.prog (cR Try.prog [(35,b6)] [jl] (fun q=>Nat.beq q 47) false false [lT]) 9 9 121 ri
def bf (x:bk):(aE bH):=(goN cM (⟨x.data,x.a,x.m,x.b,(aB (x.m - x.a)),(aB (x.b - x.m)),x.held⟩:bH))
def eV (x:bk):(aE aY):=(dD (⟨(bf x).st.data,(aB ((bf x).st.m - (bf x).st.i)),(bf x).st.m,(bf x).st.i,(bf x).st.dA⟩:aY))
def jm (x:bk):aE bk:=
 (cond (ay x.data.n x.data.n)
 (cond ((bf x).by (av.ai.exit 0))
 (cond (ay (bf x).st.data.n (bf x).st.data.n)
 (cond ((eV x).by av.ai.ret)
 (cond (ay (eV x).st.data.n (bf x).st.data.n)
 (.out av.ai.ret (⟨(eV x).st.data,(bf x).st.a,(bf x).st.m,(bf x).st.b,(eV x).st.held⟩:bk))
 .fail)
 .fail)
 .fail)
 .fail)
 .fail)
theorem w5 (x:bk):yu (jZ x) (j6 x)=aE.enc jZ j6 (jm x):=by
  unfold jm
  try simp only [aE.dc]
  kernel_rfl
def df (x:bk):aE bk:=jm x
def dB:Fc:=⟨121,ri,fun vs rs=>dt jZ j6 (df (qE vs rs)) [av.ai.ret]⟩
theorem dS:dB.Ok Try.prog:=xV funcs mixed (aw.cons bF aw.nil) (aF.cons wa uq aF.nil) (L:=9) (n:=9) (step:=df) (ev:=jZ) (er:=j6) (pa:=qE) rfl (fun wv wr=>⟨by kernel_rfl,by kernel_rfl⟩) w5 (yp:=(ew.cons oI ew.nil))
structure aR where
  data:(Sl aZ)
  a:Int
  b:Int
  held:Show
instance:Inhabited aR:=⟨⟨default,default,default,default⟩⟩
def gv (x:aR):List KV:=[ij 47 fc x.data,.int .i64 x.a,.int .i64 x.b,.fn (.func 34) [] [.ptr 0 0]]
def gw (x:aR):List (List KV):=[lC x.held]
def nm (vs:List KV) (rs:List (List KV)):aR:=⟨hZ fD (vs.getD 0 .aq),intOf (vs.getD 1 .aq),intOf (vs.getD 2 .aq),lD (fun k=>(rs.getD 0 []).getD k .aq)⟩
def nG:aD:=⟨[(0,⟨false,[.arr 47]⟩),(1,⟨false,[.k (.int .i64)]⟩),(2,⟨false,[.k (.int .i64)]⟩),(3,⟨false,[.ref (.fn (.func 34) [] [.ptr 0 0])]⟩)],[(100003,[.k (.slice 45),.k (.slice 108)],1)],[]⟩
structure bu where
  data:(Sl aZ)
  a:Int
  b:Int
  i:Int
  Af:Show
instance:Inhabited bu:=⟨⟨default,default,default,default,default⟩⟩
def fE (x:bu):List KV:=[ij 47 fc x.data,.int .i64 x.a,.int .i64 x.b,.fn (.func 34) [] [.ptr 0 0],.int .i64 x.i]
def fF (x:bu):List (List KV):=[lC x.Af]
def mC (vs:List KV) (rs:List (List KV)):bu:=⟨hZ fD (vs.getD 0 .aq),intOf (vs.getD 1 .aq),intOf (vs.getD 2 .aq),intOf (vs.getD 4 .aq),lD (fun k=>(rs.getD 0 []).getD k .aq)⟩
def mW:aD:=⟨[(0,⟨false,[.arr 47]⟩),(1,⟨false,[.k (.int .i64)]⟩),(2,⟨false,[.k (.int .i64)]⟩),(3,⟨false,[.ref (.fn (.func 34) [] [.ptr 0 0])]⟩),(8,⟨false,[.k (.int .i64)]⟩)],[(100003,[.k (.slice 45),.k (.slice 108)],1)],[]⟩
structure bg where
  data:(Sl aZ)
  a:Int
  b:Int
  i:Int
  j:Int
  Af:Show
instance:Inhabited bg:=⟨⟨default,default,default,default,default,default⟩⟩
def fj (x:bg):List KV:=[ij 47 fc x.data,.int .i64 x.a,.int .i64 x.b,.fn (.func 34) [] [.ptr 0 0],.int .i64 x.i,.int .i64 x.j]
def fk (x:bg):List (List KV):=[lC x.Af]
def lY (vs:List KV) (rs:List (List KV)):bg:=⟨hZ fD (vs.getD 0 .aq),intOf (vs.getD 1 .aq),intOf (vs.getD 2 .aq),intOf (vs.getD 4 .aq),intOf (vs.getD 5 .aq),lD (fun k=>(rs.getD 0 []).getD k .aq)⟩
def mj:aD:=⟨[(0,⟨false,[.arr 47]⟩),(1,⟨false,[.k (.int .i64)]⟩),(2,⟨false,[.k (.int .i64)]⟩),(3,⟨false,[.ref (.fn (.func 34) [] [.ptr 0 0])]⟩),(8,⟨false,[.k (.int .i64)]⟩),(9,⟨false,[.k (.int .i64)]⟩)],[(100003,[.k (.slice 45),.k (.slice 108)],1)],[]⟩
def rp:=nQ Try.prog (cR Try.prog [(35,b6)] [] (fun q=>Nat.beq q 47)) 9 9 102 402 (fh Try.prog 102 402) mj
def eT (x:bg):(Option Int):=(iv (x.Af.items.get (Int.toNat (x.data.get (0+(Int.toNat x.j))).item)).look.bin (x.Af.items.get (Int.toNat (x.data.get (0+(Int.toNat (aB (x.j - (1:Int)))))).item)).look.bin)
def bU (x:bg):aE bg:=
 (cond (decide (x.j > x.a))
 (cond ((decide ((0:Int)≤x.j)) && (decide (x.j < ((x.data.n:Nat):Int))))
 (cond ((decide ((0:Int)≤(aB (x.j - (1:Int))))) && (decide ((aB (x.j - (1:Int))) < ((x.data.n:Nat):Int))))
 (cond ((decide ((0:Int)≤(x.data.get (0+(Int.toNat x.j))).item)) && (decide ((x.data.get (0+(Int.toNat x.j))).item < ((x.Af.items.n:Nat):Int))))
 (cond ((decide ((0:Int)≤(x.data.get (0+(Int.toNat (aB (x.j - (1:Int)))))).item)) && (decide ((x.data.get (0+(Int.toNat (aB (x.j - (1:Int)))))).item < ((x.Af.items.n:Nat):Int))))
 (cond (eT x).isSome
 (cond (decide (((eT x).getD default) < (0:Int)))
 (cond ((decide ((0:Int)≤(aB (x.j - (1:Int))))) && (decide ((aB (x.j - (1:Int))) < ((x.data.n:Nat):Int))))
 (cond ((decide ((0:Int)≤x.j)) && (decide (x.j < ((x.data.n:Nat):Int))))
 (cond ((decide ((0:Int)≤x.j)) && (decide (x.j < ((x.data.n:Nat):Int))))
 (cond ((decide ((0:Int)≤(aB (x.j - (1:Int))))) && (decide ((aB (x.j - (1:Int))) < ((x.data.n:Nat):Int))))
 (cond (ay x.data.n x.data.n)
 (.next (⟨((x.data.set (0+(Int.toNat x.j)) (x.data.get (0+(Int.toNat (aB (x.j - (1:Int))))))).set (0+(Int.toNat (aB (x.j - (1:Int))))) (x.data.get (0+(Int.toNat x.j)))),x.a,x.b,x.i,(aB (x.j - (1:Int))),x.Af⟩:bg))
 .fail)
 .fail)
 .fail)
 .fail)
 .fail)
 (cond (ay x.data.n x.data.n)
 (.out (av.ai.exit 2) x)
 .fail))
 .fail)
 .fail)
 .fail)
 .fail)
 .fail)
 (cond (ay x.data.n x.data.n)
 (.out (av.ai.exit 2) x)
 .fail))
theorem qF (x:bg):rp (fj x) (fk x)=aE.enc fj fk (bU x):=by
  unfold bU
  try simp only [aE.dc,HG,HF]
  kernel_rfl
def dT:Lp:=⟨102,402,mj,fun vs rs=>dt fj fk (goN bU (lY vs rs)) [av.ai.exit 2],true⟩
theorem lZ:dT.Ok Try.prog:=jX funcs mixed (aw.cons bF aw.nil) aF.nil (L:=9) (n:=9) (step:=bU) (ev:=fj) (er:=fk) (pa:=lY) rfl (fun wv wr=>⟨by kernel_rfl,by kernel_rfl⟩) qF
theorem ln:cH Try.prog dT.f dT.p=true:=by kernel_rfl
def sF:=nQ Try.prog (cR Try.prog [(35,b6)] [dT] (fun q=>Nat.beq q 47)) 9 9 102 6 (fh Try.prog 102 6) mW
def bG (x:bu):(aE bg):=(goN bU (⟨x.data,x.a,x.b,x.i,x.i,x.Af⟩:bg))
def cc (x:bu):aE bu:=
 (cond (decide (x.i < x.b))
 (cond (ay x.data.n x.data.n)
 (cond ((bG x).by (av.ai.exit 2))
 (cond (ay (bG x).st.data.n (bG x).st.data.n)
 (.next (⟨(bG x).st.data,(bG x).st.a,(bG x).st.b,(aB ((bG x).st.i+(1:Int))),(bG x).st.Af⟩:bu))
 .fail)
 .fail)
 .fail)
 (cond (ay x.data.n x.data.n)
 (.out (av.ai.exit 0) x)
 .fail))
theorem rq (x:bu):sF (fE x) (fF x)=aE.enc fE fF (cc x):=by
  unfold cc
  try simp only [aE.dc]
  kernel_rfl
def fV:Lp:=⟨102,6,mW,fun vs rs=>dt fE fF (goN cc (mC vs rs)) [av.ai.exit 0],true⟩
theorem sG:fV.Ok Try.prog:=jX funcs mixed (aw.cons bF aw.nil) (aF.cons lZ ln aF.nil) (L:=9) (n:=9) (step:=cc) (ev:=fE) (er:=fF) (pa:=mC) rfl (fun wv wr=>⟨by kernel_rfl,by kernel_rfl⟩) rq
theorem qS:cH Try.prog fV.f fV.p=true:=by kernel_rfl
def tA:=BC Try.prog (cR Try.prog [(35,b6)] [dT,fV] (fun q=>Nat.beq q 47)) 9 9 102 nG
def b9 (x:aR):(aE bu):=(goN cc (⟨x.data,x.a,x.b,(aB (x.a+(1:Int))),x.held⟩:bu))
def fG (x:aR):aE aR:=
 (cond (ay x.data.n x.data.n)
 (cond ((b9 x).by (av.ai.exit 0))
 (cond (ay (b9 x).st.data.n (b9 x).st.data.n)
 (.out av.ai.ret (⟨(b9 x).st.data,(b9 x).st.a,(b9 x).st.b,(b9 x).st.Af⟩:aR))
 .fail)
 .fail)
 .fail)
theorem sH (x:aR):tA (gv x) (gw x)=aE.enc gv gw (fG x):=by
  unfold fG
  try simp only [aE.dc]
  kernel_rfl
def dE (x:aR):aE aR:=fG x
def eP:Fc:=⟨102,nG,fun vs rs=>dt gv gw (dE (nm vs rs)) [av.ai.ret]⟩
theorem fW:eP.Ok Try.prog:=xV funcs mixed (aw.cons bF aw.nil) (aF.cons lZ ln (aF.cons sG qS aF.nil)) (L:=9) (n:=9) (step:=dE) (ev:=gv) (er:=gw) (pa:=nm) rfl (fun wv wr=>⟨by kernel_rfl,by kernel_rfl⟩) sH
end
end Go.Proofs.Ytahhdndhkgbcjaa.b
end
