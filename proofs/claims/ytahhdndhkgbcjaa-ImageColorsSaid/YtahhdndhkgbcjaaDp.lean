/- Part of the proof of ImageColors: a machine that runs the program's code over open terms, shown to be the model's, and the plain models of its functions. No conditions. -/
import Derived.Test.YtahhdndhkgbcjaaCp
section
namespace Go.K
open Go Go.aE
variable {P:Program} {E:Env}
theorem AR.of {E' : Env} {A A' : ax} {x:Nat} (qa:∀ b,E'.α b=E.α b) (ha:∀ b v,A'.get b=some (.arr v)→A.get b=some (.arr v)) (h:AR A' E' x):AR A E x:=by
 obtain ⟨b,v,L,N,h1,h2⟩:=h
 exact ⟨b,v,L,N,ha _ _ h1,by rw [← qa]; exact h2⟩
theorem AF.of {E' : Env} {A A' : ax} {B B' : St} {g:Nat} (qa:∀ b,E'.α b=E.α b) (ha:∀ b v,A'.get b=some (.arr v)→A.get b=some (.arr v)) (hB:∀ x,AR A E x→B'.get x=B.get x) (h:AF A' E' B' g):AF A E B g:=by
 obtain ⟨b,v,x,L,N,cs,e,own,k,h1,h2,h3⟩:=h
 have CV:E.α b=some (x,L,N):=by rw [← qa]; exact h2
 exact ⟨b,v,x,L,N,cs,e,own,k,ha _ _ h1,CV,by rw [← hB x ⟨b,v,L,N,ha _ _ h1,CV⟩]; exact h3⟩
theorem AT.of {E' : Env} {A A' : ax} {B B' : St} {y:Nat} (qa:∀ b,E'.α b=E.α b) (ha:∀ b v,A'.get b=some (.arr v)→A.get b=some (.arr v)) (hB:∀ x,AR A E x→B'.get x=B.get x) (hm:∀ g,AF A E B g→B'.members g=B.members g) (h:AT A' E' B' y):AT A E B y:=by
 rcases h with h | ⟨g,h1,h2⟩
 ·exact .inl (h.of qa ha)
 ·have:=h1.of qa ha hB
  exact .inr ⟨g,this,by rw [← hm g this]; exact h2⟩
theorem nc {B B' : St} (h:∀ x,x < B.next→B'.get x=B.get x):∀ y,y < B.next→∀ cs e own bQ,B'.get y=some (.row cs e own bQ)→∃ mf,B.get y=some (.row mf e own bQ)∧mf.length=cs.length:=
 fun y hy cs _ _ _ q=>⟨cs,by rw [← h y hy]; exact q,rfl⟩
theorem Yg {B:St} {o:dg} : ∀ x,x < B.next→(B.new o).get x=B.get x:=fun x hx=>by rw [St.du,if_neg (by omega)]
theorem HC.mg {E' : Env} {A A' : ax} {B B' : St} (h:HC P E A B) (hle:E.le E') (qa:∀ b,E'.α b=E.α b) (ha:∀ b v,A'.get b=some (.arr v)→A.get b=some (.arr v)) (hf:∀ b v,A'.get b=some (.jH v)→A.get b=some (.jH v))
  (hn:A.next≤A'.next) (Mp:B.next≤B'.next) (hB:∀ x,AR A E x→B'.get x=B.get x) (hz:∀ b r,E'.z b=some r→E.z b=some r∨B.next≤b) (DN:∀ b x,E'.κ b=some x→E.κ b=some x∨(A.next≤b∧B.next≤x))
  (ER:∀ b g,E'.φ b=some g→(∃ c,E.φ c=some g)∨B.next≤g) (hm:∀ g,AF A E B g→B'.members g=B.members g) (mem:∀ g x,x∈B.members g→x < B.next):HC P E' A' B' where
 arr b v hb:=(h.arr b v (ha _ _ hb)).mono hle (qa b) fun x L N e=>hB x ⟨b,v,L,N,ha _ _ hb,e⟩
 jH b v hb:=(h.jH b v (hf _ _ hb)).mono hle (qa b)
 z x hx:=by
  have hx':=AR.of qa ha hx
  obtain ⟨b,v,L,N,h1,h2⟩:=hx'
  have bU:=h.gV _ _ _ _ h2
  obtain ⟨h3,h4⟩:=h.z x (AR.of qa ha hx)
  refine ⟨?_,fun c e=>?_⟩
  ·cases hz' : E'.z x with
   | none=>rfl
   | some r=>
    rcases hz x r hz' with e | e
    ·rw [h3] at e; simp at e
    ·omega
  ·rcases DN c x e with e | ⟨_,e⟩
   ·exact h4 c e
   ·omega
 inj b c v u x L N L' N' h1 h2 h3 h4:=h.inj b c v u x L N L' N' (ha _ _ h1) (ha _ _ h2) (by rw [← qa]; exact h3) (by rw [← qa]; exact h4)
 tu b c v u x y L N L' N' cs e own g k b8 e' o6 k' h1 h2 h3 h4 h5 h6:=by
  rw [qa] at h3 h4
  rw [hB x ⟨b,v,L,N,ha _ _ h1,h3⟩] at h5
  rw [hB y ⟨c,u,L',N',ha _ _ h2,h4⟩] at h6
  exact h.tu b c v u x y L N L' N' cs e own g k b8 e' o6 k' (ha _ _ h1) (ha _ _ h2) h3 h4 h5 h6
 X6 b x e:=by
  rw [qa]
  rcases DN b x e with e | ⟨e,_⟩
  ·exact h.X6 b x e
  ·cases hb:E.α b with
   | none=>rfl
   | some p=>have:=h.lE b p hb; omega
 nk b v hb:=by
  obtain ⟨h1,h2⟩:=h.nk b v (ha _ _ hb)
  refine ⟨Nat.lt_of_lt_of_le h1 hn,?_⟩
  cases e:E'.κ b with
  | none=>rfl
  | some x=>
   rcases DN b x e with e | ⟨e,_⟩
   ·rw [h2] at e; simp at e
   ·omega
 lE b p e:=by rw [qa] at e; have:=h.lE b p e; omega
 gV b x L N e:=by rw [qa] at e; have:=h.gV b x L N e; omega
 rV b v x L N cs e own g k h1 h2 h3:=by
  rw [qa] at h2
  have hA:=ha _ _ h1
  rw [hB x ⟨b,v,L,N,hA,h2⟩] at h3
  obtain ⟨h4,h5,h6⟩:=h.rV b v x L N cs e own g k hA h2 h3
  refine ⟨by omega,fun f e=>?_,fun y hy en=>?_⟩
  ·rcases ER f g e with ⟨c,e⟩ | e
   ·exact h5 c e
   ·omega
  ·rw [hm g ⟨b,v,x,L,N,cs,_,own,k,hA,h2,h3⟩] at hy
   have bU:=mem g y hy
   obtain ⟨h7,h8,h9⟩:=h6 y hy en
   refine ⟨?_,fun q=>h8 (AR.of qa ha q),fun c e=>?_⟩
   ·cases hz' : E'.z y with
    | none=>rfl
    | some r=>
     rcases hz y r hz' with e | e
     ·rw [h7] at e; simp at e
     ·omega
   ·rcases DN c y e with e | ⟨_,e⟩
    ·exact h9 c e
    ·omega
theorem fK.D9 {A:ax} {B:St} (h:fK P E A B) {x:Nat} (q:AR A E x):x < B.next:=by
 obtain ⟨b,v,L,N,_,h2⟩:=q
 exact h.ar.gV _ _ _ _ h2
structure ef (P:Program) (E:Env) (A:ax) (B:St) (E' : Env) (A' : ax) (B' : St):Prop where
 jr:fK P E' A' B'
 le:E.le E'
 next:A.next≤A'.next
 mg:∀ x,x < B.next→(∀ b,E.κ b≠some x)→¬ AT A E B x→B'.get x=B.get x
 new:∀ b x,E'.κ b=some x→E.κ b=some x∨B.next≤x
 sR:∀ b r,E'.z b=some r→E.z b=some r∨AR A E b∨B.next≤b
 sS:∀ b g,E'.φ b=some g→E.φ b=some g∨B.next≤g
 pN:∀ g,g < B.next→(∀ b,E.φ b≠some g)→¬ AF A E B g→B'.members g=B.members g
 mQ:∀ x,AR A' E' x→AR A E x∨B.next≤x
 nb:∀ g,AF A' E' B' g→AF A E B g∨B.next≤g
 uv:∀ g y,y∈B'.members g→y∈B.members g∨B.next≤y
 nY:∀ y,AT A' E' B' y→AT A E B y∨B.next≤y
 rows:∀ y,y < B.next→∀ cs e own bQ,B'.get y=some (.row cs e own bQ)→∃ mf,B.get y=some (.row mf e own bQ)∧mf.length=cs.length
theorem ef.ev {base:Nat} {E' : Env} {A A' : ax} {B B' : St} {ρ aX:aW} {w w' : World} (h:ef P E A B E' A' B') (g:l7 base ρ B w aX B' w'):Ev P base E A B ρ w E' A' B' aX w':=
 ⟨h.jr,g,h.le,h.next,h.mg,h.new,h.sR,fun b g e=>(h.sS b g e).imp (fun e=>⟨b,e⟩) id,h.pN,h.mQ,h.nb,h.uv,h.nY,h.rows⟩
def ES (P:Program) (o:Oper):p9→Prop
 | .pure f xs=>∀ (E:Env) (ρ:aW) (ev:Operand→KV) (cW:Operand→Value) (v:KV),(∀ x∈xs,VC P E ρ (ev x) (cW x))→aZ (f (xs.map ev)) v→∃ v',VC P E ρ v v'∧∀ w,(execOp cW o).run P w = .ok (.value v') w
 | .read f xs=>∀ (E:Env) (A:ax) (B:St) (ρ:aW) (base:Nat) (w:World) (ev:Operand→KV) (cW:Operand→Value) (v:KV),KJ P E A B ρ base w→(∀ x∈xs,VC P E ρ (ev x) (cW x))→aZ (f A (xs.map ev)) v→
   ∃ v',VC P E ρ v v'∧(execOp cW o).run P w = .ok (.value v') w
 | .look f xs=>∀ (E:Env) (A:ax) (B:St) (ρ:aW) (base:Nat) (w:World) (ev:Operand→KV) (cW:Operand→Value) (v:KV),KJ P E A B ρ base w→(∀ x∈xs,VC P E ρ (ev x) (cW x))→aZ (f (xs.map ev)) v→
   ∃ E' B' aX v' nx w',(execOp cW o).run P w = .ok nx w'∧afy v' nx∧VC P E' aX v v'∧Ev P base E A B ρ w E' A B' aX w'
 | .act f xs=>∀ (E:Env) (A A' : ax) (B:St) (ρ:aW) (base:Nat) (w:World) (ev:Operand→KV) (cW:Operand→Value) (v:KV),KJ P E A B ρ base w→(∀ x∈xs,VC P E ρ (ev x) (cW x))→aZ (f A (xs.map ev)) (v,A')→
   ∃ E' B' aX v' nx w',(execOp cW o).run P w = .ok nx w'∧afy v' nx∧VC P E' aX v v'∧Ev P base E A B ρ w E' A' B' aX w'
 | _=>True
theorem cl {ρ:aW} {ev:Operand→KV} {cW:Operand→Value} {xs:List Operand} (h:∀ x∈xs,VC P E ρ (ev x) (cW x)) :
  ∃ em:Operand→Value,bd P E (xs.map ev) (xs.map em)∧vO ρ em cW xs:=by
 classical
 refine ⟨fun x=>if hx:VC P E ρ (ev x) (cW x) then hx.choose else undef,?_,?_⟩
 ·induction xs with
  | nil=>exact .nil
  | cons x xs ih=>
   refine .cons ?_ (ih fun y hy=>h y (by simp [hy]))
   have hx:=h x (by simp)
   simp only [dif_pos hx]
   exact hx.choose_spec.1
 ·intro x hx
  have hx:=h x hx
  simp only [dif_pos hx]
  exact hx.choose_spec.2
theorem lift_pure {o:Oper} {f:FP} {g:List Value→Option Value} {xs:List Operand} (hc:compile P o.op = .pure g xs) (hs:ux P f g):ES P o (.pure f xs):=by
 intro E ρ ev cW v hv hg
 obtain ⟨em,h1,h2⟩:=cl hv
 obtain ⟨u,h3,h4⟩:=hs E _ _ v h1 hg
 have cg:=p0 P o
 rw [hc] at cg
 obtain ⟨v',h5,h6⟩:=cg ρ em cW u h2 h3
 exact ⟨v',⟨u,h4,h5⟩,h6⟩
def ad8 (P:Program) (f:FR) (g:St→List Value→Option Value):Prop:=
 ∀ (E:Env) (A:ax) (B:St) (vs:List KV) (us:List Value) (v:KV),fK P E A B→bd P E vs us→aZ (f A vs) v→∃ u,g B us=some u∧VK P E v u
theorem HG {o:Oper} {f:FR} {g:St→List Value→Option Value} {xs:List Operand} (hc:compile P o.op = .read g xs) (hs:ad8 P f g):ES P o (.read f xs):=by
 intro E A B ρ base w ev cW v hj hv hg
 obtain ⟨em,h1,h2⟩:=cl hv
 obtain ⟨u,h3,h4⟩:=hs E A B _ _ v hj.k h1 hg
 have cg:=p0 P o
 rw [hc] at cg
 obtain ⟨v',h5,h6⟩:=cg ρ B base w em cW u hj.s.rel h2 h3
 exact ⟨v',⟨u,h4,h5⟩,h6⟩
def agN (P:Program) (f:FA) (g:St→List Value→Option (Value×St)):Prop:=
 ∀ (E:Env) (A A' : ax) (B:St) (vs:List KV) (us:List Value) (v:KV),fK P E A B→bd P E vs us→aZ (f A vs) (v,A')→∃ u B' E',g B us=some (u,B')∧VK P E' v u∧ef P E A B E' A' B'
theorem SY {o:Oper} {f:FA} {g:St→List Value→Option (Value×St)} {xs:List Operand} (hc:compile P o.op = .act g xs) (hs:agN P f g):ES P o (.act f xs):=by
 intro E A A' B ρ base w ev cW v hj hv hg
 obtain ⟨em,h1,h2⟩:=cl hv
 obtain ⟨u,B',E',h3,h4,h5⟩:=hs E A A' B _ _ v hj.k h1 hg
 have cg:=p0 P o
 rw [hc] at cg
 obtain ⟨aX,v',nx,w',h6,h7,h8,h9⟩:=cg ρ B B' base w em cW u hj.s h2 h3
 exact ⟨E',B',aX,v',nx,w',h6,h7,⟨u,h4,h8⟩,h5.ev h9⟩
def akT (P:Program) (f:FP) (g:St→List Value→Option (Value×St)):Prop:=
 ∀ (E:Env) (A:ax) (B:St) (vs:List KV) (us:List Value) (v:KV),fK P E A B→bd P E vs us→aZ (f vs) v→∃ u B' E',g B us=some (u,B')∧VK P E' v u∧ef P E A B E' A B'
theorem afN {o:Oper} {f:FP} {g:St→List Value→Option (Value×St)} {xs:List Operand} (hc:compile P o.op = .act g xs) (hs:akT P f g):ES P o (.look f xs):=by
 intro E A B ρ base w ev cW v hj hv hg
 obtain ⟨em,h1,h2⟩:=cl hv
 obtain ⟨u,B',E',h3,h4,h5⟩:=hs E A B _ _ v hj.k h1 hg
 have cg:=p0 P o
 rw [hc] at cg
 obtain ⟨aX,v',nx,w',h6,h7,h8,h9⟩:=cg ρ B B' base w em cW u hj.s h2 h3
 exact ⟨E',B',aX,v',nx,w',h6,h7,⟨u,h4,h8⟩,h5.ev h9⟩
theorem SZ {o:Oper} {g:List Value→Option (dg×(Nat→Value))} {xs:List Operand} (hc:compile P o.op = .make g xs) {ρ:aW} {B:St} {base:Nat} {w:World} {em cW:Operand→Value} {obj:dg} {mk:Nat→Value} (hs:uj ρ B base w)
  (h2:vO ρ em cW xs) (h3:g (xs.map em)=some (obj,mk)):∃ aX v' w',(execOp cW o).run P w = .ok (.value v') w'∧VR aX (mk B.next) v'∧l7 base ρ B w aX (B.new obj) w':=by
 have cg:=p0 P o
 rw [hc] at cg
 obtain ⟨c,mk',h4,h5,h6⟩:=cg ρ em cW obj mk h2 h3
 exact ⟨_,_,_,h5 w,h6 _ _ _ (aW.pR _ _ _),h4.fN hs⟩
def abx (P:Program) (f:FA) (g:List Value→Option (dg×(Nat→Value))):Prop:=
 ∀ (E:Env) (A A' : ax) (B:St) (vs:List KV) (us:List Value) (v:KV),fK P E A B→bd P E vs us→aZ (f A vs) (v,A')→∃ obj mk E',g us=some (obj,mk)∧VK P E' v (mk B.next)∧ef P E A B E' A' (B.new obj)
theorem C4 {o:Oper} {f:FA} {g:List Value→Option (dg×(Nat→Value))} {xs:List Operand} (hc:compile P o.op = .make g xs) (hs:abx P f g):ES P o (.act f xs):=by
 intro E A A' B ρ base w ev cW v hj hv hg
 obtain ⟨em,h1,h2⟩:=cl hv
 obtain ⟨obj,mk,E',h3,h4,h5⟩:=hs E A A' B _ _ v hj.k h1 hg
 obtain ⟨aX,v',w',h6,h7,h8⟩:=SZ hc hj.s h2 h3
 exact ⟨E',B.new obj,aX,v',_,w',h6,rfl,⟨_,h4,h7⟩,h5.ev h8⟩
def aiV (P:Program) (f:FP) (g:List Value→Option (dg×(Nat→Value))):Prop:=
 ∀ (E:Env) (A:ax) (B:St) (vs:List KV) (us:List Value) (v:KV),fK P E A B→bd P E vs us→aZ (f vs) v→∃ obj mk E',g us=some (obj,mk)∧VK P E' v (mk B.next)∧ef P E A B E' A (B.new obj)
theorem aby {o:Oper} {f:FP} {g:List Value→Option (dg×(Nat→Value))} {xs:List Operand} (hc:compile P o.op = .make g xs) (hs:aiV P f g):ES P o (.look f xs):=by
 intro E A B ρ base w ev cW v hj hv hg
 obtain ⟨em,h1,h2⟩:=cl hv
 obtain ⟨obj,mk,E',h3,h4,h5⟩:=hs E A B _ _ v hj.k h1 hg
 obtain ⟨aX,v',w',h6,h7,h8⟩:=SZ hc hj.s h2 h3
 exact ⟨E',B.new obj,aX,v',_,w',h6,rfl,⟨_,h4,h7⟩,h5.ev h8⟩
def Env.lN (E:Env) (b x:Nat):Env:={ E with κ:=fun c=>if c=b then some x else E.κ c }
def Env.gx (E:Env) (b:Nat) (r:adY):Env:={ E with z:=fun c=>if c=b then some r else E.z c }
def Env.rp (E:Env) (b g:Nat):Env:={ E with φ:=fun c=>if c=b then some g else E.φ c }
theorem ef.newRow {A:ax} {B:St} {cs:List KV} {b8:List Value} {bW:Nat} (h:fK P E A B) (hv:bd P E cs b8):ef P E A B (E.lN A.next B.next) (A.new (.row cs bW)) (B.new (.row b8 bW true none)):=by
 have hle:E.le (E.lN A.next B.next):=⟨fun _ _ e=>e,fun b x e=>by
  have:=h.lE b x e
  simp only [Env.lN]; rw [if_neg (by omega)]; exact e,fun _ _ e=>e,fun _ _ e=>e⟩
 have hA:∀ (b:Nat) (v:KV),(A.new (.row cs bW)).get b=some (.arr v)→A.get b=some (.arr v):=fun b v hb=>by
  rw [ax.du] at hb
  split at hb
  ·simp at hb
  ·exact hb
 have Yh:∀ (b:Nat) (v:KV),(A.new (.row cs bW)).get b=some (.jH v)→A.get b=some (.jH v):=fun b v hb=>by
  rw [ax.du] at hb
  split at hb
  ·simp at hb
  ·exact hb
 have xu:∀ x,AR A E x→(B.new (.row b8 bW true none)).get x=B.get x:=fun x q=>by have:=h.D9 q; rw [St.du,if_neg (by omega)]
 refine ⟨⟨?_,?_,?_,?_,?_,?_,?_,?_,?_,?_,?_,?_,?_,?_,h.ar.mg hle (fun _=>rfl) hA Yh (by simp) (by simp) xu (fun _ _ e=>.inl e) (fun b x e=>?_) (fun b g e=>.inl ⟨b,e⟩) (fun _ _=>by simp) h.mem⟩,hle,by simp,?_,?_,fun _ _ e=>.inl e,fun _ _ e=>.inl e,fun _ _ _ _=>by simp,fun _ q=>.inl (q.of (fun _=>rfl) hA),fun _ q=>.inl (q.of (fun _=>rfl) hA xu),fun _ _ q=>.inl (by simpa using q),fun _ q=>.inl (q.of (fun _=>rfl) hA xu fun _ _=>by simp),nc Yg⟩
 ·intro b mf J5 hb
  rw [ax.du] at hb
  split at hb
  ·rename_i e
   simp at hb
   obtain ⟨rfl,rfl⟩:=hb
   exact ⟨B.next,b8,by simp [Env.lN,e],by simp,hv.mono hle⟩
  ·obtain ⟨x,c,h1,h2,h3⟩:=h.row b mf J5 hb
   have:=h.gV b x h1
   exact ⟨x,c,hle.κ _ _ h1,by rw [St.du,if_neg (by omega)]; exact h2,h3.mono hle⟩
 ·intro b top C5 hb
  rw [ax.du] at hb
  split at hb
  ·simp at hb
  ·rcases h.bf b top C5 hb with h1 | ⟨g,h1,Yi,h2⟩
   ·exact .inl h1
   ·refine .inr ⟨g,h1,Yi,fun x hx c e own f k hg=>?_⟩
    rw [St.du] at hg
    split at hg
    ·simp at hg
    ·exact h2 x (by simpa using hx) c e own f k hg
 ·intro b r hb
  have:=h.nm b r hb
  rw [St.du,if_neg (by omega)]
  exact h.z b r hb
 ·intro b x hb
  simp only [Env.lN] at hb ⊢
  split at hb
  ·simp at hb
   subst hb
   cases hz:E.z B.next with
   | none=>rfl
   | some r=>have:=h.nm _ r hz; omega
  ·exact h.apart b x hb
 ·intro b c x hb hc
  simp only [Env.lN] at hb hc
  split at hb <;> split at hc
  ·omega
  ·simp at hb; subst hb; have:=h.gV c _ hc; omega
  ·simp at hc; subst hc; have:=h.gV b _ hb; omega
  ·exact h.inj b c x hb hc
 ·exact Cg.new (E:=E.lN A.next B.next) (fun x y g a b c d e f hx hy=>h.jJ x y g a b c d e f hx hy) (.inl fun _ _=>by simp)
 ·intro b x hb
  simp only [Env.lN] at hb
  rw [ax.cq]
  split at hb
  ·omega
  ·have:=h.lE b x hb; omega
 ·intro b g hb; have:=h.na b g hb; rw [ax.cq]; omega
 ·intro b o hb
  rw [ax.du] at hb
  rw [ax.cq]
  split at hb
  ·omega
  ·have:=h.live b o hb; omega
 ·intro b x hb
  simp only [Env.lN] at hb
  rw [St.cq]
  split at hb
  ·simp at hb; omega
  ·have:=h.gV b x hb; omega
 ·intro b r hb; have:=h.nm b r hb; rw [St.cq]; omega
 ·intro b g hb; have:=h.kd b g hb; rw [St.cq]; omega
 ·intro g hg; rw [St.cq] at hg; rw [St.la]; exact h.fresh g (by omega)
 ·intro g x hx; rw [St.la] at hx; rw [St.cq]; have:=h.mem g x hx; omega
 ·simp only [Env.lN] at e
  split at e
  ·simp at e; exact .inr (by omega)
  ·exact .inl e
 ·intro x hx _ _; rw [St.du,if_neg (by omega)]
 ·intro b x hb
  simp only [Env.lN] at hb
  split at hb
  ·simp at hb; exact .inr (by omega)
  ·exact .inl hb
theorem ef.agO {A:ax} {B:St} {b8:List Value} {bW:Nat} (h:fK P E A B):ef P E A B (E.gx B.next ⟨b8,bW,true,none⟩) A (B.new (.row b8 bW true none)):=by
 have hle:E.le (E.gx B.next ⟨b8,bW,true,none⟩):=⟨fun _ _ e=>e,fun _ _ e=>e,fun b r e=>by
  have:=h.nm b r e
  simp only [Env.gx]; rw [if_neg (by omega)]; exact e,fun _ _ e=>e⟩
 have xu:∀ x,AR A E x→(B.new (.row b8 bW true none)).get x=B.get x:=fun x q=>by have:=h.D9 q; rw [St.du,if_neg (by omega)]
 have HH:∀ b r,(E.gx B.next ⟨b8,bW,true,none⟩).z b=some r→E.z b=some r∨B.next≤b:=fun b r e=>by
  simp only [Env.gx] at e
  split at e
  ·exact .inr (by omega)
  ·exact .inl e
 refine ⟨⟨?_,?_,?_,?_,?_,?_,?_,?_,?_,?_,?_,?_,?_,?_,h.ar.mg hle (fun _=>rfl) (fun _ _ e=>e) (fun _ _ e=>e) (Nat.le_refl _) (by simp) xu HH (fun _ _ e=>.inl e) (fun b g e=>.inl ⟨b,e⟩) (fun _ _=>by simp) h.mem⟩,hle,Nat.le_refl _,?_,?_,fun b r e=>(HH b r e).imp id .inr,fun _ _ e=>.inl e,fun _ _ _ _=>by simp,fun _ q=>.inl q,fun _ q=>.inl (q.of (fun _=>rfl) (fun _ _ e=>e) xu),fun _ _ q=>.inl (by simpa using q),fun _ q=>.inl (q.of (fun _=>rfl) (fun _ _ e=>e) xu fun _ _=>by simp),nc Yg⟩
 ·intro b mf J5 hb
  obtain ⟨x,c,h1,h2,h3⟩:=h.row b mf J5 hb
  have:=h.gV b x h1
  exact ⟨x,c,hle.κ _ _ h1,by rw [St.du,if_neg (by omega)]; exact h2,h3.mono hle⟩
 ·intro b top C5 hb
  rcases h.bf b top C5 hb with h1 | ⟨g,h1,Yi,h2⟩
  ·exact .inl h1
  ·refine .inr ⟨g,h1,Yi,fun x hx c e own f k hg=>?_⟩
   rw [St.du] at hg
   split at hg
   ·simp at hg
   ·exact h2 x (by simpa using hx) c e own f k hg
 ·intro b r hb
  simp only [Env.gx] at hb
  split at hb
  ·rename_i e
   simp at hb
   subst hb e
   simp
  ·have:=h.nm b r hb
   rw [St.du,if_neg (by omega)]
   exact h.z b r hb
 ·intro b x hb
  have:=h.gV b x hb
  simp only [Env.gx]
  rw [if_neg (by omega)]
  exact h.apart b x hb
 ·exact h.inj
 ·exact h.jJ
 ·exact h.lE
 ·exact h.na
 ·exact h.live
 ·intro b x hb; have:=h.gV b x hb; rw [St.cq]; omega
 ·intro b r hb
  simp only [Env.gx] at hb
  rw [St.cq]
  split at hb
  ·omega
  ·have:=h.nm b r hb; omega
 ·intro b g hb; have:=h.kd b g hb; rw [St.cq]; omega
 ·intro g hg; rw [St.cq] at hg; rw [St.la]; exact h.fresh g (by omega)
 ·intro g x hx; rw [St.la] at hx; rw [St.cq]; have:=h.mem g x hx; omega
 ·intro x hx _ _; rw [St.du,if_neg (by omega)]
 ·intro b x hb; exact .inl hb
theorem ef.aks {A:ax} {B:St} {b x bW:Nat} {cs:List KV} {b8:List Value} (h:fK P E A B) (hb:∃ mf e,A.get b=some (.row mf e)) (hx:E.κ b=some x) (hold:∃ mf,B.get x=some (.row mf bW true none)∧mf.length=b8.length) (hv:bd P E cs b8):ef P E A B E (A.put b (.row cs bW)) (B.put x (.row b8 bW true none)):=by
 have hA:∀ (c:Nat) (v:KV),(A.put b (.row cs bW)).get c=some (.arr v)→A.get c=some (.arr v):=fun c v hb=>by
  rw [ax.b9] at hb
  split at hb
  ·simp at hb
  ·exact hb
 have Yh:∀ (c:Nat) (v:KV),(A.put b (.row cs bW)).get c=some (.jH v)→A.get c=some (.jH v):=fun c v hb=>by
  rw [ax.b9] at hb
  split at hb
  ·simp at hb
  ·exact hb
 have xu:∀ y,AR A E y→(B.put x (.row b8 bW true none)).get y=B.get y:=fun y q=>by
  rw [St.b9,if_neg]
  intro e
  subst e
  exact (h.ar.z _ q).2 b hx
 refine ⟨⟨?_,?_,?_,h.apart,h.inj,h.jJ.put (.inl fun _ _=>by simp),h.lE,h.na,?_,h.gV,h.nm,h.kd,?_,?_,h.ar.mg (Env.le_refl _) (fun _=>rfl) hA Yh (Nat.le_refl _) (Nat.le_refl _) xu (fun _ _ e=>.inl e) (fun _ _ e=>.inl e) (fun b g e=>.inl ⟨b,e⟩) (fun _ _=>by simp) h.mem⟩,Env.le_refl _,Nat.le_refl _,?_,fun _ _ e=>.inl e,fun _ _ e=>.inl e,fun _ _ e=>.inl e,fun _ _ _ _=>by simp,fun _ q=>.inl (q.of (fun _=>rfl) hA),fun _ q=>.inl (q.of (fun _=>rfl) hA xu),fun _ _ q=>.inl (by simpa using q),fun _ q=>.inl (q.of (fun _=>rfl) hA xu fun _ _=>by simp),fun y _ c e own bQ q=>by
  rw [St.b9] at q
  split at q
  ·rename_i e2
   simp at q
   obtain ⟨rfl,rfl,rfl,rfl⟩:=q
   obtain ⟨c0,h1,h2⟩:=hold
   exact ⟨c0,by rw [e2]; exact h1,h2⟩
  ·exact ⟨c,q,rfl⟩⟩
 ·intro c mf J5 hc
  rw [ax.b9] at hc
  split at hc
  ·rename_i e
   simp at hc
   obtain ⟨rfl,rfl⟩:=hc
   exact ⟨x,b8,by rw [e]; exact hx,by simp,hv⟩
  ·rename_i en
   obtain ⟨y,d,h1,h2,h3⟩:=h.row c mf J5 hc
   refine ⟨y,d,h1,?_,h3⟩
   rw [St.b9,if_neg (fun e=>en (h.inj c b x (by rw [← e]; exact h1) hx))]
   exact h2
 ·intro c top C5 hc
  rw [ax.b9] at hc
  split at hc
  ·simp at hc
  ·rcases h.bf c top C5 hc with h1 | ⟨g,h1,Yi,h2⟩
   ·exact .inl h1
   ·refine .inr ⟨g,h1,Yi,fun y hy d e own f k hg=>?_⟩
    rw [St.b9] at hg
    split at hg
    ·simp at hg
    ·exact h2 y (by simpa using hy) d e own f k hg
 ·intro c r hc
  rw [St.b9,if_neg]
  ·exact h.z c r hc
  ·intro e
   have:=h.apart b x hx
   rw [← e,hc] at this
   simp at this
 ·intro c o hc
  rw [ax.b9] at hc
  rw [ax.qZ]
  split at hc
  ·rename_i e
   obtain ⟨mf,e0,hb⟩:=hb
   rw [e]; exact h.live b _ hb
  ·exact h.live c o hc
 ·intro g hg; rw [St.rY]; exact h.fresh g hg
 ·intro g y hy; rw [St.rY] at hy; exact h.mem g y hy
 ·intro y hy hn _
  rw [St.b9,if_neg (fun e=>hn b (by rw [e]; exact hx))]
theorem akt {n:Nat} : abx P (zC n) (adD n):=by
 intro E A A' B vs us v h hv hg
 unfold zC at hg
 split at hg
 ·rename_i x
  obtain ⟨y,rfl,h1⟩:=hv.eX
  obtain ⟨ho,hg⟩:=hg.cond
  have hg:(KV.ptr A.next 0,A.new (.row x.cells n))=(v,A'):=hg
  simp only [Prod.mk.injEq] at hg
  obtain ⟨rfl,rfl⟩:=hg
  have hc:=h1.cells (wG ho)
  have VW:y.cells.toList.all scalar=true:=List.all_eq_true.2 (hc.scalar ho)
  exact ⟨Cb n y,CP,E.lN A.next B.next,by simp [adD,VW],.xp (by simp [Env.lN]),ef.newRow h hc⟩
 ·exact hg.elim
theorem ahH {t:TypeId} {z:Value} (hz:pK P t=some z) (hf:flat z=true) (VW:z.cells.toList.all scalar=true) (ho:hZ (gP z).cells=true):abx P (UW (nA P t) (gP z).cells) (Ha P t):=by
 intro E A A' B vs us v h hv hg
 have hg:(KV.ptr A.next 0,A.new (.row (gP z).cells (nA P t)))=(v,A'):=hg
 simp only [Prod.mk.injEq] at hg
 obtain ⟨rfl,rfl⟩:=hg
 exact ⟨Cb (nA P t) z,CP,E.lN A.next B.next,by simp only [Ha,hz,Option.bind_some,hf,VW,Bool.and_self,cond_true],.xp (by simp [Env.lN]),ef.newRow h (zX ho)⟩
theorem J6 {cs:List KV} {l:List Value} (h:bd P E cs l):∀ n,bd P E (dW cs n) (gk l n)
 | 0=>.nil
 | n+1=>bd.append h (J6 h n)
theorem aaK {n b:Nat} {z:Value} (ho:hZ (gP z).cells=true):abx P (JX n b (gP z).cells) (A4 n b z):=by
 intro E A A' B vs us v h hv hg
 unfold JX at hg
 split at hg
 ·rename_i k l k' c
  obtain ⟨x,y,rfl,h1,h2⟩:=hv.kS
  have:=h1.dv; subst this
  have:=h2.dv; subst this
  obtain ⟨hc,hg⟩:=aZ.lZ hg
  simp only [Prod.mk.injEq] at hg
  obtain ⟨rfl,rfl⟩:=hg
  simp only [Bool.and_eq_true,decide_eq_true_eq] at hc
  obtain ⟨⟨h3,h4⟩,h5⟩:=hc
  obtain ⟨l',rfl⟩:=Int.eq_ofNat_of_zero_le h3
  obtain ⟨c',rfl⟩:=Int.eq_ofNat_of_zero_le (Int.le_trans h3 h4)
  have h6:Nat.ble l' c' = true:=Nat.ble_eq_true_of_le (by omega)
  refine ⟨.row (gk z.cells.toList c') n true none,fun k=>.slice (some ⟨k,0,none⟩) l' c',E.lN A.next B.next,?_,.agL (by simp [Env.lN]),ef.newRow h (J6 (zX ho) c')⟩
  have h5:Nat.ble (b * c') 281474976710656=true:=h5
  show cond (Nat.ble l' c'&&Nat.ble (b * c') 281474976710656) _ _=_
  rw [h6,h5]
  rfl
 ·exact hg.elim
theorem fK.rowAt {A:ax} {B:St} (h:fK P E A B) {b x:Nat} {cs:List KV} (hr:rowAt A b=some cs) (hx:E.κ b=some x):∃ b8 bW,B.get x=some (.row b8 bW true none)∧bd P E cs b8:=by
 unfold K.rowAt at hr
 split at hr
 ·rename_i c e hg
  simp at hr
  subst hr
  obtain ⟨y,d,h1,h2,h3⟩:=h.row _ _ _ hg
  rw [hx] at h1
  simp at h1
  subst h1
  exact ⟨d,_,h2,h3⟩
 ·simp at hr
theorem J7 (e:KV):∀ (cs:List CK) (k:Nat),(leaves e cs k).length=cs.length
 | [],_=>rfl
 | c::cs,k=>by simp [leaves,J7 e cs]
theorem acA {c:CK} {v:KV} (h:kindOk c v=true):leaf c v=v:=by
 cases c with
 | int k=>cases v <;> simp [kindOk] at h; subst h; rfl
 | bool=>cases v <;> simp [kindOk] at h; rfl
 | str=>cases v <;> simp [kindOk] at h; rfl
 | slice t=>
  cases v <;> simp [kindOk] at h
  rename_i T m n es acc
  cases m <;> simp at h
  subst h
  rfl
 | other=>cases v <;> simp [kindOk] at h
theorem Ch:∀ {ks:List CK} {cs:List KV} {i:Nat} {c:CK},aF ks cs=true→ks[i]? = some c→∃ v,cs[i]? = some v∧kindOk c v=true
 | [],_,i,c,_,h=>by simp at h
 | _::_,[],_,_,h,_=>by simp [aF] at h
 | k::ks,v::cs,0,c,h,e=>by
  simp only [aF,Bool.and_eq_true] at h
  simp at e
  subst e
  exact ⟨v,rfl,h.1⟩
 | k::ks,v::cs,i+1,c,h,e=>by
  simp only [aF,Bool.and_eq_true] at h
  obtain ⟨u,h1,h2⟩:=Ch (i:=i) h.2 (by simpa using e)
  exact ⟨u,by simpa using h1,h2⟩
theorem ke:∀ {l:u6} {es:List KV} {i:Nat} {e:KV},fO l es=true→es[i]? = some e→dx l e=true
 | l,[],i,e,_,h=>by simp at h
 | l,x::es,0,e,h,he=>by
  simp only [fO,Bool.and_eq_true] at h
  simp at he
  subst he
  exact h.1
 | l,x::es,i+1,e,h,he=>by
  simp only [fO,Bool.and_eq_true] at h
  exact ke h.2 (by simpa using he)
theorem iz {l:u6} {e:KV} (h:dx l e=true):aF l.ks e.cells=true∧u7 e=true:=by
 cases e <;> simp [dx] at h <;> first | exact ⟨h.2,rfl⟩ | skip
 obtain ⟨h1,h2⟩:=h
 cases hk:l.ks with
 | nil=>rw [hk] at h2; simp [aF] at h2
 | cons c cs=>rw [hk] at h2; cases c <;> simp [aF,kindOk] at h2
theorem Oq {e:KV} {ks:List CK} (hk:aF ks e.cells=true):∀ {cs:List CK} {k:Nat},(∀ m c,cs[m]? = some c→ks[k+m]? = some c)→leaves e cs k=(e.cells.drop k).take cs.length
 | [],k,_=>by simp [leaves]
 | c::cs,k,h=>by
  obtain ⟨v,h1,h2⟩:=Ch hk (by simpa using h 0 c rfl)
  have bU:k < e.cells.length:=(List.getElem?_eq_some_iff.1 h1).1
  have ih:=Oq hk (cs:=cs) (k:=k+1) (fun m d hm=>by have:=h (m+1) d (by simpa using hm); rwa [show k+(m+1)=k+1+m by omega] at this)
  simp only [leaves]
  have e1:e.cells.getD k .aw=v:=by simp [List.getD,h1]
  rw [e1,acA h2]
  rw [show Nat.succ k=k+1 from rfl,ih,List.drop_eq_getElem_cons bU]
  have e2:e.cells[k] = v:=by
   have:=List.getElem?_eq_getElem bU
   rw [this] at h1
   simpa using h1
  simp [e2]
theorem fK.EN {A:ax} {B:St} (h:fK P E A B) {b x L N' : Nat} {v:KV} (hr:EN A b=some v) (hx:E.α b=some (x,L,N')) :
  ∃ T N es acc,v = .ts T .any N es acc∧iX P T N es acc∧1≤bg P T∧∃ cs e own bQ bq,N' = N∧B.get x=some (.row cs e own bQ)∧bd P E es bq∧od (bg P T) 0 cs bq∧L=cs.length∧e=bg P T:=by
 unfold K.EN at hr
 split at hr
 ·rename_i u hg
  simp at hr; subst hr
  obtain ⟨T,N,es,acc,h1,h2,h3,h4⟩:=h.ar.arr b _ hg
  refine ⟨T,N,es,acc,h1,h2,h3,?_⟩
  rcases h4 with ⟨_,h5⟩ | ⟨y,cs,bQ,bq,h4,h5,h6,h7⟩
  ·rw [hx] at h5; simp at h5
  ·rw [hx] at h4
   simp only [Option.some.injEq,Prod.mk.injEq] at h4
   obtain ⟨rfl,rfl,rfl⟩:=h4
   exact ⟨cs,_,_,bQ,bq,rfl,h5,h6,h7,rfl,rfl⟩
 ·rename_i u hg
  simp at hr; subst hr
  obtain ⟨T,N,es,acc,h1,h2,h3,h4⟩:=h.ar.jH b _ hg
  refine ⟨T,N,es,acc,h1,h2,h3,?_⟩
  rcases h4 with ⟨_,h5⟩ | ⟨y,r,bq,h4,h5,h6,h7,h8⟩
  ·rw [hx] at h5; simp at h5
  ·rw [hx] at h4
   simp only [Option.some.injEq,Prod.mk.injEq] at h4
   obtain ⟨rfl,rfl,rfl⟩:=h4
   exact ⟨r.cs,_,_,_,bq,rfl,h.z _ _ h5,h7,h8,rfl,h6⟩
 ·simp at hr
theorem Yj {t T Tc:TypeId} {k x base bW:Nat} {own:Bool} {bQ:Option (Nat×Nat)} {e:KV} {u:Value} {cs:List Value} {B:St} (hz:B.get x=some (.row cs bW own bQ)) (hc:W8 P t Tc=true) (hw:Xd P T Tc k) (A8:dx (bw P T) e=true)
  (h7:VK P E e u) (fq:u.cells.size=bg P T) (oj:∀ (m:Nat) (y:Value),u.cells[m]? = some y→cs[base+m]? = some y):∃ w,Hb P t B [.pointer (some ⟨x,base+k,none⟩)] = some w∧VK P E (Jv (bw P t).agg (leaves e (bw P t).ks k)) w:=by
 simp only [W8,Bool.and_eq_true,decide_eq_true_eq] at hc
 obtain ⟨⟨⟨⟨hTc,hpl⟩,ha⟩,hn⟩,akU⟩:=hc
 have:=Nat.eq_of_beq_eq_true hTc
 subst this
 obtain ⟨aku,akv⟩:=iz A8
 have hlv:=Oq aku (cs:=(bw P Tc).ks) (k:=k) hw.is
 rw [hlv]
 have Ho:=h7.cells akv
 have hlen:e.cells.length=bg P T:=by have:=Ho.length; simp at this; omega
 have oB:(bw P Tc).ks.length≤e.cells.length - k:=by
  have:=congrArg List.length hlv
  rw [J7] at this
  simp at this
  omega
 have jz:∀ m,m < (bw P Tc).ks.length→cs[base+k+m]? = u.cells.toList[k+m]?:=by
  intro m hm
  have bU:k+m < u.cells.size:=by omega
  have:=oj (k+m) u.cells[k+m] (by simp [bU])
  rw [show base+(k+m)=base+k+m by omega] at this
  rw [this]
  simp [bU]
 have afO:takeN (bw P Tc).ks.length (CO (base+k) cs)=some ((u.cells.toList.drop k).take (bw P Tc).ks.length):=by
  have hle:(bw P Tc).ks.length≤(cs.drop (base+k)).length:=by
   cases JP:(bw P Tc).ks.length with
   | zero=>omega
   | succ q=>
    have:=jz q (by omega)
    have bU:k+q < u.cells.toList.length:=by simp; omega
    rw [List.getElem?_eq_getElem bU] at this
    have:=(List.getElem?_eq_some_iff.1 this).1
    simp
    omega
  rw [qY,FZ hle]
  congr 1
  apply List.ext_getElem?
  intro m
  rw [List.getElem?_take,List.getElem?_take]
  split
  ·rename_i hm
   rw [List.getElem?_drop,List.getElem?_drop]
   exact jz m hm
  ·rfl
 have zD:bd P E (e.cells.drop k |>.take (bw P Tc).ks.length) ((u.cells.toList.drop k).take (bw P Tc).ks.length):=(Ho.drop k).take _
 cases xq:(bw P Tc).agg with
 | true=>
  rw [xq] at ha
  refine ⟨.agg ⟨(u.cells.toList.drop k).take (bw P Tc).ks.length⟩,?_,.oX zD⟩
  simp [Hb,loadAt,ha,hn,St.vT,dm,xW,hz,afO]
 | false=>
  rw [xq] at ha
  have hl1:(bw P Tc).ks.length=1:=by
   rw [xq] at akU
   exact Nat.eq_of_beq_eq_true (by simpa using akU)
  rw [hl1] at afO zD
  have bU:k < e.cells.length:=by omega
  rw [hl1]
  rw [List.drop_eq_getElem_cons bU] at zD ⊢
  simp only [List.take_succ_cons,List.take_zero] at zD ⊢
  obtain ⟨w,h8,h9⟩:=zD.eX
  refine ⟨w,?_,h9⟩
  simp [Hb,loadAt,ha,St.vT,dm,xW,hz,afO,h8]
theorem ad9 {t:TypeId} : ad8 P (SN P t) (Hb P t):=by
 intro E A B vs us v h hv hg
 unfold SN at hg
 split at hg
 ·rename_i b off
  obtain ⟨y,rfl,h1⟩:=hv.eX
  obtain ⟨x,hx,rfl⟩:=h1.iL
  split at hg
  ·rename_i ag n ha hn
   split at hg
   ·rename_i l hl
    obtain ⟨cs,h2,h3⟩:=Option.bind_eq_some_iff.1 hl
    obtain ⟨b8,bW,h4,h5⟩:=h.rowAt h2 hx
    obtain ⟨r,h6,h7,_⟩:=h5.uq h3
    cases ag with
    | true=>
     have hg:KV.agg l=v:=hg
     subst hg
     refine ⟨.agg ⟨r⟩,?_,.oX h7⟩
     simp [Hb,loadAt,ha,hn,St.vT,dm,xW,h4,h6]
    | false=>
     rw [cond_false] at hg
     split at hg
     ·rename_i u
      have hg:u=v:=hg
      subst hg
      obtain ⟨w,rfl,h8⟩:=h7.eX
      have hlen:n=1:=by
       obtain ⟨e,hle⟩:=LS h3
       have:=congrArg List.length e
       rw [List.length_take,Nat.min_eq_left hle] at this
       simpa using this.symm
      subst hlen
      exact ⟨w,by simp [Hb,loadAt,ha,St.vT,dm,xW,h4,h6],h8⟩
     ·exact hg.elim
   ·exact hg.elim
  ·exact hg.elim
 ·rename_i T Tc i k es acc
  obtain ⟨y,rfl,h1⟩:=hv.eX
  obtain ⟨hc,hg⟩:=hg.cond
  have hg:Jv (bw P t).agg (leaves (acc i) (bw P t).ks k)=v:=hg
  subst hg
  obtain ⟨ht,bq,h2,hi,hw,b,off,r,rfl,h4,h5⟩:=h1.HB
  have al6:=ht.acc i hi
  have hei:es[i]? = some (acc i):=by rw [al6]; simp [List.getD,hi]
  obtain ⟨u,h6,h7⟩:=h2.get hei
  obtain ⟨fq,oj⟩:=h5 i u h6
  exact Yj (h.z b r h4) hc hw (ke ht.typed hei) h7 fq oj
 ·rename_i T Tc b i k
  obtain ⟨y,rfl,h1⟩:=hv.eX
  split at hg
  ·rename_i T' m N es acc hA
   obtain ⟨hc,hg⟩:=hg.cond
   have hg:Jv (bw P t).agg (leaves (acc i) (bw P t).ks k)=v:=hg
   subst hg
   simp only [Bool.and_eq_true] at hc
   have:=Nat.eq_of_beq_eq_true hc.1
   subst this
   obtain ⟨x,L,N',h2,hw,hi,rfl⟩:=h1.D8
   obtain ⟨T2,N2,o4,fT,PK,ht,h1s,cs,e,own,bQ,bq,h3,h4,h5,h6,_⟩:=h.EN hA h2
   simp only [KV.ts.injEq] at PK
   obtain ⟨rfl,rfl,rfl,rfl,rfl⟩:=PK
   have bU:i < es.length:=by rw [← ht.len,← h3]; exact hi
   have hei:es[i]? = some (acc i):=by rw [ht.acc i (by rw [ht.len]; exact bU)]; simp [List.getD,bU]
   obtain ⟨u,h7,h8⟩:=h5.get hei
   obtain ⟨fq,oj⟩:=h6 i u h7
   rw [Nat.zero_add] at oj
   exact Yj h4 hc.2 hw (ke ht.typed hei) h8 fq oj
  ·exact hg.elim
 ·exact hg.elim
end Go.K
end
section
namespace Go.K
open Go Go.aE
variable {P:Program} {E:Env}
theorem VK.aiW {T:TypeId} {m:Mk} {n:Nat} {es:List KV} {acc:Nat→KV} {u:Value} (h:VK P E (.ts T m n es acc) u):VK P E (.ts T .any n es acc) u:=by
 obtain ⟨ht,bq,h1,a,cap,rfl,h2,h3,_⟩:=h.mm
 simp only [VK]
 exact ⟨ht,bq,h1,a,cap,rfl,h2,h3,trivial⟩
theorem VK.afP {T:TypeId} {acc:Nat→KV} : VK P E (.ts T .any 0 [] acc) (.slice none 0 0):=by
 simp only [VK]
 exact ⟨⟨rfl,fun i h=>by omega,rfl⟩,[],.nil,none,0,rfl,Nat.le_refl _,.inl ⟨rfl,rfl⟩,trivial⟩
theorem VK.alr {b:Bool} {v:KV} {u:Value} (h:VK P E v u):VK P E (cond b v .aw) u:=by
 cases b with
 | false=>exact .rm
 | true=>exact h
theorem VK.mP {c:CK} {v:KV} {u:Value} (h:VK P E v u):VK P E (mP c v) u:=by
 unfold K.mP
 split
 ·have:=h.nX; subst this; exact .afP
 ·rename_i t t' m n es acc
  cases hb:Nat.beq t t' with
  | false=>exact .rm
  | true=>
   have:=Nat.eq_of_beq_eq_true hb
   subst this
   exact h.aiW
 ·exact VK.alr h
theorem bd.yE:∀ {ks:List CK} {cs:List KV} {l:List Value},bd P E cs l→cs.length=ks.length→bd P E (yE ks cs) l
 | [],[],l,h,_=>h
 | [],_::_,_,_,e=>by simp at e
 | _::_,[],_,_,e=>by simp at e
 | c::ks,v::cs,l,h,e=>by
  obtain ⟨y,ys,rfl,h1,h2⟩:=h.cons_inv
  exact .cons h1.mP (bd.yE h2 (by simpa using e))
theorem VK.gm {l:u6} {v:KV} {u:Value} (h:VK P E v u):VK P E (gm l v) u:=by
 unfold K.gm
 split
 ·rename_i cs
  obtain ⟨m,rfl,h1⟩:=h.mh
  cases hb:(l.agg&&Nat.beq cs.length l.ks.length) with
  | false=>exact .rm
  | true=>
   simp only [Bool.and_eq_true] at hb
   exact .oX (h1.yE (Nat.eq_of_beq_eq_true hb.2))
 ·cases l.agg with
  | true=>exact .rm
  | false=>
   rw [cond_false]
   split
   ·exact h.mP
   ·exact .rm
theorem Qc (d:Nat) (v:KV):ak P (d+1) v=(match v with
 | .ts t _ n _ acc=>.ts t .any n ((List.range n).map fun i=>ay P (ak P d) t (acc i)) (fun i=>ay P (ak P d) t (acc i))
 | v=>v):=rfl
theorem aaL (d:Nat) {c:CK} {v:KV} (h:kindOk c v=true):kindOk c (ak P d v)=true:=by
 cases d with
 | zero=>exact h
 | succ d=>
  rw [Qc]
  split
  ·rename_i t m n es acc
   cases c <;> simp [kindOk] at h
   cases m <;> simp at h
   simp [kindOk,h]
  ·exact h
theorem C6 (d:Nat):∀ {ks:List CK} {cs:List KV},aF ks cs=true→aF ks (cs.map (ak P d))=true
 | [],[],_=>rfl
 | [],_::_,h=>by simp [aF] at h
 | _::_,[],h=>by simp [aF] at h
 | c::ks,v::cs,h=>by
  simp only [aF,Bool.and_eq_true] at h
  simp only [List.map_cons,aF,Bool.and_eq_true]
  exact ⟨aaL d h.1,C6 d h.2⟩
theorem qb:∀ {ks:List CK} {vs:List KV},aF ks vs=true→vs.length=ks.length
 | [],[],_=>rfl
 | [],_::_,h=>by simp [aF] at h
 | _::_,[],h=>by simp [aF] at h
 | k::ks,v::vs,h=>by
  simp only [aF,Bool.and_eq_true] at h
  simp [qb h.2]
theorem oD {l:u6} : ∀ {es:List KV},(∀ (i:Nat) e,es[i]? = some e→dx l e=true)→fO l es=true
 | [],_=>rfl
 | e::es,h=>by
  simp only [fO,Bool.and_eq_true]
  exact ⟨h 0 e rfl,oD fun i x hx=>h (i+1) x (by simpa using hx)⟩
theorem HI {l:u6} {v:KV} (h:dx l v=true):leaves v l.ks 0=v.cells∧aF l.ks v.cells=true∧(v=Jv l.agg v.cells):=by
 have hk:aF l.ks v.cells=true∧(v=Jv l.agg v.cells):=by
  by_cases ha:∃ cs,v = .agg cs
  ·obtain ⟨cs,rfl⟩:=ha
   simp only [dx,Bool.and_eq_true] at h
   refine ⟨h.2,?_⟩
   rw [h.1]; rfl
  ·have h1:(!l.agg&&aF l.ks [v])=true:=by
    cases v <;> first | exact h | exact absurd ⟨_,rfl⟩ ha | simp [dx] at h
   have hc:v.cells = [v]:=by cases v <;> first | rfl | exact absurd ⟨_,rfl⟩ ha
   simp only [Bool.and_eq_true,Bool.not_eq_true'] at h1
   rw [hc,h1.1]
   exact ⟨h1.2,rfl⟩
 refine ⟨?_,hk.1,hk.2⟩
 rw [Oq (e:=v) (ks:=l.ks) hk.1 (fun m c e=>by rw [Nat.zero_add]; exact e)]
 show (v.cells.drop 0).take l.ks.length=v.cells
 rw [List.drop_zero,← qb hk.1,List.take_length]
theorem Yk {l:u6} {cs:List KV} {v:KV} (h:dx l v=true) (hk:aF l.ks cs=true) (hlen:cs.length=v.cells.length):dx l (Jv l.agg cs)=true:=by
 by_cases ha:∃ ds,v = .agg ds
 ·obtain ⟨ds,rfl⟩:=ha
  simp only [dx,Bool.and_eq_true] at h
  rw [h.1]
  show (l.agg&&aF l.ks cs)=true
  rw [h.1,hk]; rfl
 ·have h1:(!l.agg&&aF l.ks [v])=true:=by
   cases v <;> first | exact h | exact absurd ⟨_,rfl⟩ ha | simp [dx] at h
  have hc:v.cells = [v]:=by cases v <;> first | rfl | exact absurd ⟨_,rfl⟩ ha
  simp only [Bool.and_eq_true,Bool.not_eq_true'] at h1
  rw [hc] at hlen
  match cs,hlen with
  | [c],_=>
   rw [h1.1]
   show dx l c=true
   have Qb:one c=true:=by
    cases rf:l.ks with
    | nil=>rw [rf] at hk; simp [aF] at hk
    | cons a amI=>rw [rf] at hk; simp only [aF,Bool.and_eq_true] at hk; cases a <;> cases c <;> first | rfl | simp [kindOk] at hk
   cases c <;> first | (simp [one] at Qb; done) | (simp only [dx,h1.1,Bool.not_false,Bool.true_and]; exact hk)
mutual
theorem VK.ak:∀ (d:Nat) {v:KV} {u:Value},VK P E v u→VK P E (K.ak P d v) u
 | 0,_,_,h=>h
 | d+1,v,u,h=>by
  rw [Qc]
  split
  ·rename_i t m n es acc
   obtain ⟨ht,bq,h1,a,cap,rfl,h2,h3,_⟩:=h.mm
   simp only [VK]
   have A8:∀ i,i < n→∃ e e',es[i]? = some e∧bq[i]? = some e'∧acc i=e∧dx (bw P t) e=true∧VK P E e e':=by
    intro i hi
    have hl:i < es.length:=by rw [← ht.len]; exact hi
    have e1:=List.getElem?_eq_getElem hl
    obtain ⟨e',e2,e3⟩:=h1.get e1
    exact ⟨_,e',e1,e2,by rw [ht.acc i hi,List.getD_eq_getElem?_getD,e1]; rfl,ke ht.typed e1,e3⟩
   have hlen:bq.length=n:=by rw [h1.length,ht.len]
   refine ⟨⟨by simp,fun i hi=>?_,?_⟩,bq,?_,a,cap,rfl,h2,h3,trivial⟩
   ·rw [List.getD_eq_getElem?_getD,List.getElem?_map,List.getElem?_range hi]; rfl
   ·refine oD fun i e he=>?_
    rw [List.getElem?_map] at he
    by_cases hi:i < n
    ·rw [List.getElem?_range hi] at he
     simp only [Option.map_some,Option.some.injEq] at he
     obtain ⟨x,x',_,_,q3,q4,_⟩:=A8 i hi
     rw [← he,q3,ay]
     obtain ⟨r1,r2,_⟩:=HI q4
     rw [r1]
     exact Yk q4 (C6 d r2) (by simp)
    ·rw [List.getElem?_eq_none (by simp; omega)] at he; simp at he
   ·refine bd.PC (by simp [hlen]) fun i e e' he A6=>?_
    rw [List.getElem?_map] at he
    by_cases hi:i < n
    ·rw [List.getElem?_range hi] at he
     simp only [Option.map_some,Option.some.injEq] at he
     obtain ⟨x,x',_,q2,q3,q4,q5⟩:=A8 i hi
     rw [A6] at q2
     simp only [Option.some.injEq] at q2
     subst q2
     rw [← he,q3]
     exact VK.ay d q4 q5
    ·rw [List.getElem?_eq_none (by simp; omega)] at he; simp at he
  ·exact h
theorem VK.ay (d:Nat) {t:TypeId} {v:KV} {u:Value} (hk:dx (bw P t) v=true) (h:VK P E v u):VK P E (K.ay P (K.ak P d) t v) u:=by
 obtain ⟨r1,r2,r3⟩:=HI hk
 rw [K.ay,r1]
 by_cases ha:∃ cs,v = .agg cs
 ·obtain ⟨cs,rfl⟩:=ha
  obtain ⟨l,rfl,h1⟩:=h.mh
  have xq:(bw P t).agg=true:=by simp only [dx,Bool.and_eq_true] at hk; exact hk.1
  rw [xq]
  exact .oX (bd.aea d h1)
 ·have hc:v.cells = [v]:=by cases v <;> first | rfl | exact absurd ⟨_,rfl⟩ ha
  have xq:(bw P t).agg=false:=by
   cases v <;> first | (simp only [dx,Bool.and_eq_true,Bool.not_eq_true'] at hk; exact hk.1) | exact absurd ⟨_,rfl⟩ ha | simp [dx] at hk
  rw [xq,hc]
  exact VK.ak d h
theorem bd.aea (d:Nat):∀ {cs:List KV} {l:List Value},bd P E cs l→bd P E (cs.map (K.ak P d)) l
 | [],l,h=>h
 | c::cs,l,h=>by
  obtain ⟨y,ys,rfl,h1,h2⟩:=h.cons_inv
  exact .cons (VK.ak d h1) (bd.aea d h2)
end
theorem aeb {c:CK} {v:KV} (h:kindOk c v=true):one v=true:=by
 cases c <;> cases v <;> simp [kindOk] at h <;> rfl
theorem Ci:∀ {ks:List CK} {cs:List KV},aF ks cs=true→hZ cs=true
 | [],[],_=>rfl
 | [],_::_,h=>by simp [aF] at h
 | _::_,[],h=>by simp [aF] at h
 | c::ks,v::cs,h=>by
  simp only [aF,Bool.and_eq_true] at h
  simp [hZ,aeb h.1,Ci h.2]
def bH:List Value→List Value
 | []=>[]
 | v::vs=>v.cells.toList++bH vs
theorem js {n:Nat} : ∀ {es:List Value},(∀ v∈es,v.cells.size=n)→(bH es).length=es.length * n
 | [],_=>by simp [bH]
 | v::es,h=>by
  simp only [bH,List.length_append,List.length_cons]
  rw [js fun u hu=>h u (by simp [hu])]
  have:=h v (by simp)
  simp only [Array.length_toList,this,Nat.succ_mul]
  omega
theorem mK {n:Nat} : ∀ {es:List Value},(∀ v∈es,v.cells.size=n)→od n 0 (bH es) es
 | [],_,i,x,h=>by simp at h
 | v::es,hs,i,x,h=>by
  have hv:=hs v (by simp)
  cases i with
  | zero=>
   simp at h
   subst h
   refine ⟨hv,fun k y hy=>?_⟩
   simp only [bH,Nat.zero_mul,Nat.zero_add]
   have bU:k < v.cells.size:=(Array.getElem?_eq_some_iff.1 hy).1
   rw [List.getElem?_append_left (by simpa using bU)]
   simpa using hy
  | succ i=>
   obtain ⟨h1,h2⟩:=mK (es:=es) (fun u hu=>hs u (by simp [hu])) i x (by simpa using h)
   refine ⟨h1,fun k y hy=>?_⟩
   have:=h2 k y hy
   simp only [bH]
   rw [List.getElem?_append_right (by simp [hv,Nat.succ_mul]; omega)]
   rw [← this]
   congr 1
   simp [hv,Nat.succ_mul]
   omega
theorem wH:∀ (a b:List Value),bH (a++b)=bH a++bH b
 | [],b=>rfl
 | v::a,b=>by simp [bH,wH a b]
theorem AA:∀ {es:List Value},(∀ v∈es,∀ c∈v.cells.toList,scalar c=true)→∀ c∈bH es,scalar c=true
 | [],_,c,h=>by simp [bH] at h
 | v::es,hs,c,h=>by
  simp only [bH,List.mem_append] at h
  rcases h with h | h
  ·exact hs v (by simp) c h
  ·exact AA (fun u hu=>hs u (by simp [hu])) c h
theorem U4 {n:Nat} : ∀ {es:List Value} {i:Nat} {v:Value},(∀ u∈es,u.cells.size=n)→v.cells.size=n→i < es.length→hX (i * n) (bH es) v.cells.toList=some (bH (es.set i v))
 | [],i,v,_,_,h=>by simp at h
 | u::es,0,v,hs,hv,_=>by
  simp only [Nat.zero_mul,bH,List.set_cons_zero]
  have key:∀ (a b r:List Value),a.length=b.length→hX 0 (a++r) b=some (b++r):=by
   intro a
   induction a with
   | nil=>intro b r h; cases b <;> simp_all [xo]
   | cons x a ih=>
    intro b r h
    cases b with
    | nil=>simp at h
    | cons y b=>rw [List.cons_append,uf,ih b r (by simpa using h)]; rfl
  exact key _ _ _ (by simp [hs u (by simp),hv])
 | u::es,i+1,v,hs,hv,h=>by
  have ih:=U4 (es:=es) (i:=i) (fun w hw=>hs w (by simp [hw])) hv (by simpa using h)
  simp only [bH,List.set_cons_succ]
  have key:∀ (a r vs q:List Value) (m:Nat),hX m r vs=some q→hX (a.length+m) (a++r) vs=some (a++q):=by
   intro a
   induction a with
   | nil=>intro r vs q m h; simpa using h
   | cons x a ih=>
    intro r vs q m h
    rw [List.length_cons,show a.length+1+m=(a.length+m)+1 by omega,List.cons_append,qB,ih r vs q m h]
    rfl
  have:=key u.cells.toList _ _ _ _ ih
  rw [show u.cells.toList.length+i * n=(i+1) * n by simp [hs u (by simp),Nat.succ_mul]; omega] at this
  exact this
def xv (es:List Value):List (Nat×Value)→List Value
 | []=>es
 | (i,v)::rest=>xv (es.set i v) rest
theorem MZ:∀ (ps:List (Nat×Value)) (es:List Value),(xv es ps).length=es.length
 | [],_=>rfl
 | p::ps,es=>by simp [xv,MZ ps]
theorem Yl {n:Nat} (hn:1≤n):∀ {ps:List (Nat×Value)} {es:List Value},(∀ u∈es,u.cells.size=n)→(∀ p∈ps,p.2.cells.size=n∧p.1 < es.length)→
  yq (xX n) (bH es) ps=some (bH (xv es ps))∧∀ u∈xv es ps,u.cells.size=n
 | [],es,hs,_=>⟨rfl,hs⟩
 | (i,v)::ps,es,hs,hp=>by
  obtain ⟨h1,h2⟩:=hp (i,v) (by simp)
  have h3:=U4 hs h1 h2
  have XT:∀ u∈es.set i v,u.cells.size=n:=by
   intro u hu
   rcases List.mem_or_eq_of_mem_set hu with h | h
   ·exact hs u h
   ·subst h; exact h1
  obtain ⟨h4,h5⟩:=Yl hn (ps:=ps) XT (fun p hq=>by have:=hp p (by simp [hq]); simpa using this)
  refine ⟨?_,h5⟩
  simp only [yq,xX]
  have e1:Nat.beq v.cells.size n=true:=by rw [h1]; simp
  have e2:Nat.ble 1 n=true:=Nat.ble_eq_true_of_le hn
  rw [e1,e2]
  simp only [Bool.and_self,cond_true,h3,Option.bind_some]
  exact h4
theorem Ot {v:KV} {u:Value} (h:VK P E v u):∀ {es:List KV} {bq:List Value} (i:Nat),bd P E es bq→bd P E (setAt es i v) (bq.set i u)
 | [],bq,i,q=>by rw [q.ck]; cases i <;> exact .nil
 | x::es,bq,0,q=>by
  obtain ⟨y,ys,rfl,h1,h2⟩:=q.cons_inv
  exact .cons h h2
 | x::es,bq,i+1,q=>by
  obtain ⟨y,ys,rfl,h1,h2⟩:=q.cons_inv
  exact .cons h1 (Ot h i h2)
theorem Ym {l:u6} : ∀ {is:List Nat} {vs:List KV} {us:List Value} {es:List KV} {bq:List Value},bd P E vs us→bd P E es bq→bd P E (Hv es ((yD is vs).map fun p=>(p.1,gm l p.2))) (xv bq (zipIdx is us))
 | [],vs,us,es,bq,_,h=>by simpa [yD,zipIdx,Hv,xv] using h
 | i::is,[],us,es,bq,hv,h=>by rw [hv.ck]; simpa [yD,zipIdx,Hv,xv] using h
 | i::is,v::vs,us,es,bq,hv,h=>by
  obtain ⟨y,ys,rfl,h1,h2⟩:=hv.cons_inv
  simp only [yD,zipIdx,List.map_cons,Hv,xv]
  exact Ym h2 (Ot h1.gm i h)
theorem AB:∀ (es:List KV) (i:Nat) (v:KV),(setAt es i v).length=es.length
 | [],0,_=>rfl
 | [],_+1,_=>rfl
 | _::_,0,_=>rfl
 | e::es,i+1,v=>by simp [setAt,AB es i v]
theorem M0:∀ (ps:List (Nat×KV)) (es:List KV),(Hv es ps).length=es.length
 | [],_=>rfl
 | p::ps,es=>by simp [Hv,M0 ps,AB]
theorem agP {n:Nat} : ∀ {is:List Nat} (us:List Value),CF n is=true→∀ p∈zipIdx is us,p.1 < n∧p.2∈us
 | [],us,_,p,h=>by simp [zipIdx] at h
 | i::is,[],_,p,h=>by simp [zipIdx] at h
 | i::is,u::us,h,p,hp=>by
  simp only [CF,Bool.and_eq_true,Nat.blt_eq] at h
  simp only [zipIdx,List.mem_cons] at hp
  rcases hp with rfl | hp
  ·exact ⟨h.1,by simp⟩
  ·obtain ⟨h1,h2⟩:=agP us h.2 p hp
   exact ⟨h1,by simp [h2]⟩
theorem Cj (z:Value):∀ n,gk z.cells.toList n=bH (List.replicate n z)
 | 0=>rfl
 | n+1=>by simp [gk,List.replicate_succ,bH,Cj z n]
theorem Qd {z:KV} {u:Value} (h:VK P E z u):∀ n,bd P E (dW [z] n) (List.replicate n u)
 | 0=>.nil
 | n+1=>by simpa [dW,List.replicate_succ] using bd.cons h (Qd h n)
theorem ou {l:u6} : ∀ {es:List KV} {bq:List Value},fO l es=true→bd P E es bq→∀ u∈bq,u.cells.size=l.ks.length∧∀ c∈u.cells.toList,scalar c=true
 | [],bq,_,h,u,hu=>by rw [h.ck] at hu; simp at hu
 | e::es,bq,A8,h,u,hu=>by
  obtain ⟨y,ys,rfl,h1,h2⟩:=h.cons_inv
  simp only [fO,Bool.and_eq_true] at A8
  rcases List.mem_cons.1 hu with rfl | hu
  ·obtain ⟨k1,k2⟩:=iz A8.1
   have hc:=h1.cells k2
   refine ⟨?_,hc.scalar (Ci k1)⟩
   have:=hc.length
   have:=pT k1
   simp at *
   omega
  ·exact ou A8.2 h2 u hu
theorem abz {l:u6} : ∀ {vs:List KV} {us:List Value},bd P E vs us→bd P E (vs.map (gm l)) us
 | [],_,h=>h
 | v::vs,us,h=>by
  obtain ⟨y,ys,rfl,h1,h2⟩:=h.cons_inv
  exact .cons h1.gm (abz h2)
theorem aaM {e:TypeId} {n len:Nat} {z:Value} {is:List Nat} (hn:(bw P e).ks.length=n) (h1n:1≤n) (hz:z.cells.size=n) (hb:CF len is=true) :
  aiV P (JU (bw P e) e (gm (bw P e) (gP z)) len is) (uX n z len is):=by
 intro E A B vs us v h hv hg
 unfold JU at hg
 obtain ⟨hc,hg⟩:=aZ.cond hg
 simp only [Bool.and_eq_true] at hc
 obtain ⟨⟨hk,hvs⟩,A8⟩:=hc
 have hg:KV.ts e .exact len _ _=v:=hg
 subst hg
 have HJ:VK P E (gm (bw P e) (gP z)) z:=(VK.gP z).gm
 have zD:=Ym (l:=bw P e) (is:=is) hv (Qd HJ len)
 have hlen:(Hv (dW [gm (bw P e) (gP z)] len) ((yD is vs).map fun p=>(p.1,gm (bw P e) p.2))).length=len:=by
  rw [M0,BC]; simp
 have akw:∀ p∈zipIdx is us,p.2.cells.size=n∧p.1 < (List.replicate len z).length:=by
  intro p hp
  obtain ⟨h5,h6⟩:=agP us hb p hp
  have hm:bd P E (vs.map (gm (bw P e))) us:=abz hv
  exact ⟨by rw [← hn]; exact (ou hvs hm p.2 h6).1,by simpa using h5⟩
 obtain ⟨h3,h4⟩:=Yl h1n (ps:=zipIdx is us) (es:=List.replicate len z) (fun u hu=>by rw [(List.mem_replicate.1 hu).2]; exact hz) akw
 have u5:=ou A8 zD
 have o3:(bH (xv (List.replicate len z) (zipIdx is us))).all scalar=true:=List.all_eq_true.2 (AA fun u hu=>(u5 u hu).2)
 refine ⟨.row (bH (xv (List.replicate len z) (zipIdx is us))) n true none,fun b=>.slice (some ⟨b,0,none⟩) len len,E.gx B.next ⟨_,n,true,none⟩,?_,?_,ef.agO h⟩
 ·unfold uX
  rw [Cj,h3]
  simp only [Option.bind_some]
  rw [o3,HF hv hk]
  rfl
 ·have afQ:=zD.mono (ef.agO (b8:=bH (xv (List.replicate len z) (zipIdx is us))) (bW:=n) h).le
  have mH:(xv (List.replicate len z) (zipIdx is us)).length=len:=by rw [MZ]; simp
  simp only [VK]
  refine ⟨⟨hlen.symm,fun i _=>rfl,A8⟩,_,afQ,some ⟨B.next,0,none⟩,len,rfl,Nat.le_refl _,.inr ⟨B.next,0,⟨bH (xv (List.replicate len z) (zipIdx is us)),n,true,none⟩,rfl,by simp [Env.gx],hn.symm,?_⟩,rfl,fun b off hb=>?_⟩
  ·have:=mK h4
   unfold bg
   rw [hn]
   exact this
  ·simp at hb
   obtain ⟨rfl,rfl⟩:=hb
   refine ⟨⟨bH (xv (List.replicate len z) (zipIdx is us)),n,true,none⟩,by simp [Env.gx],rfl,rfl,?_⟩
   simp only [bg,hn]
   rw [js h4,mH]
   omega
theorem acB {n len:Nat} {z:Value} {is:List Nat} (ho:hZ (gP z).cells=true):abx P (Od n (gP z).cells len is) (uX n z len is):=by
 intro E A A' B vs us v h hv hg
 unfold Od at hg
 split at hg
 ·rename_i cs hf
  obtain ⟨hk,hg⟩:=aZ.cond hg
  simp only [Bool.and_eq_true] at hk
  have hg:(KV.sl A.next 0 len len,A.new (.row cs n))=(v,A'):=hg
  simp only [Prod.mk.injEq] at hg
  obtain ⟨rfl,rfl⟩:=hg
  obtain ⟨h2,h3⟩:=X8 is hv
  obtain ⟨r',e,hr⟩:=X7 h2 h3 (fun p hp=>by have:=X9 is vs p hp; exact List.all_eq_true.1 hk.1 _ this) (J6 (zX (P:=P) (E:=E) ho) len) hf
  refine ⟨.row r' n true none,fun b=>.slice (some ⟨b,0,none⟩) len len,E.lN A.next B.next,?_,.agL (by simp [Env.lN]),ef.newRow h hr⟩
  unfold uX
  rw [e]
  simp only [Option.bind_some]
  rw [HF hv hk.1,List.all_eq_true.2 (hr.scalar hk.2)]
  rfl
 ·exact hg.elim
theorem F1 {m cap:Nat} {lo hi:Bool} {r:List KV} {r' : List Value} {x y:Int} (h:PU m lo hi r=some (x,y)) (hr:bd P E r r') (h0:0≤x) (h1:x≤y) (h2:y≤(m:Int)) (hc:m≤cap) :
  rS m cap lo hi false r' = some (x.toNat,y.toNat,cap):=by
 obtain ⟨x',rfl⟩:=Int.eq_ofNat_of_zero_le h0
 obtain ⟨y',rfl⟩:=Int.eq_ofNat_of_zero_le (Int.le_trans h0 h1)
 have hb:∀ (k:IntKind) (i n:Nat),i≤n→VQ n (.int k (i:Int))=some i:=by
  intro k i n h
  show kN (.ofNat i) (Nat.succ n)=some i
  exact ot (by omega)
 match r,h with
 | [],h=>
  rw [hr.ck]
  cases lo <;> cases hi <;> simp [PU] at h
  obtain ⟨h3,h4⟩:=h
  simp [rS]
  omega
 | [.int k a],h=>
  obtain ⟨u,rfl,h3⟩:=hr.eX
  have:=h3.dv; subst this
  cases lo <;> cases hi <;> simp [PU] at h
  ·obtain ⟨h4,rfl⟩:=h
   simp only [rS]
   rw [hb k y' cap (by omega)]
   simp
   omega
  ·obtain ⟨rfl,h4⟩:=h
   simp only [rS]
   rw [hb k x' m (by omega)]
   simp
   omega
 | [.int k a,.int k' c],h=>
  obtain ⟨u,v,rfl,h3,h4⟩:=hr.kS
  have:=h3.dv; subst this
  have:=h4.dv; subst this
  cases lo <;> cases hi <;> simp [PU] at h
  obtain ⟨rfl,rfl⟩:=h
  simp only [rS]
  rw [hb k' y' cap (by omega)]
  simp only [Option.bind_some]
  rw [hb k x' y' (by omega)]
  simp
theorem M1 {l:u6} : ∀ {es:List KV} (n:Nat),fO l es=true→fO l (es.drop n)=true
 | es,0,h=>by simpa using h
 | [],n+1,_=>rfl
 | e::es,n+1,h=>by
  simp only [fO,Bool.and_eq_true] at h
  simpa using M1 n h.2
theorem M3 {l:u6} : ∀ {es:List KV} (n:Nat),fO l es=true→fO l (es.take n)=true
 | es,0,h=>rfl
 | [],n+1,_=>rfl
 | e::es,n+1,h=>by
  simp only [fO,Bool.and_eq_true] at h
  simp [fO,h.1,M3 n h.2]
theorem IJ {l:u6} : ∀ {es fs:List KV},fO l es=true→fO l fs=true→fO l (es++fs)=true
 | [],fs,_,h=>h
 | e::es,fs,h,k=>by
  simp only [fO,Bool.and_eq_true] at h
  simp [fO,h.1,IJ h.2 k]
theorem od.part {sz off x k:Nat} {cs es:List Value} (h:od sz off cs es):od sz (off+x * sz) cs ((es.drop x).take k):=by
 intro i v hv
 rw [List.getElem?_take] at hv
 split at hv
 ·rw [List.getElem?_drop] at hv
  obtain ⟨h1,h2⟩:=h (x+i) v hv
  refine ⟨h1,fun j y hj=>?_⟩
  rw [← h2 j y hj]
  congr 1
  rw [Nat.add_mul]
  omega
 ·simp at hv
theorem S0 {es:List KV} {i:Nat} (h:i < es.length):es[i]? = some (es.getD i .aw):=by simp [List.getD,h]
theorem aec {n:Nat} {lo hi:Bool} (_:1≤n):ad8 P (SQ P n lo hi) (xY n lo hi false):=by
 intro E A B vs us v h hv hg
 unfold SQ at hg
 split at hg
 ·rename_i T mk m es acc r
  split at hg
  ·rename_i x y hb
   obtain ⟨fq,hg⟩:=hg.cond
   have fq:=Nat.eq_of_beq_eq_true fq
   obtain ⟨hc,rfl⟩:=aZ.lZ hg
   simp only [Bool.and_eq_true,decide_eq_true_eq] at hc
   obtain ⟨⟨h0,h1⟩,h2⟩:=hc
   obtain ⟨u,r',rfl,h3,h4⟩:=hv.cons_inv
   obtain ⟨ht,bq,h5,a,cap,rfl,h6,h7,_⟩:=h3.mm
   have Mp:=F1 hb h4 h0 h1 h2 h6
   have hlen:=ht.len
   have hle:((es.drop x.toNat).take (y.toNat - x.toNat)).length=y.toNat - x.toNat:=by simp; omega
   have hT:iX P T (y.toNat - x.toNat) ((es.drop x.toNat).take (y.toNat - x.toNat)) (fun i=>acc (x.toNat+i)):=by
    refine ⟨hle.symm,fun i hi=>?_,M3 _ (M1 _ ht.typed)⟩
    rw [ht.acc _ (by omega)]
    simp only [List.getD]
    rw [List.getElem?_take,if_pos hi,List.getElem?_drop]
   rcases h7 with ⟨rfl,hm⟩ | ⟨b,off,rr,rfl,h8,h9,sj⟩
   ·refine ⟨.slice none (y.toNat - x.toNat) (cap - x.toNat),by simp [xY,Mp],?_⟩
    simp only [VK]
    exact ⟨hT,_,(h5.drop _).take _,none,_,rfl,by omega,.inl ⟨rfl,by omega⟩,trivial⟩
   ·have jz:=h.z b rr h8
    have PL:rr.bW=n:=by rw [h9]; exact fq
    refine ⟨.slice (some ⟨b,off+x.toNat * n,none⟩) (y.toNat - x.toNat) (cap - x.toNat),?_,?_⟩
    ·simp [xY,Mp,dm,Ar,jz,PL]
    ·simp only [VK]
     refine ⟨hT,_,(h5.drop _).take _,_,_,rfl,by omega,.inr ⟨b,off+x.toNat * n,rr,rfl,h8,h9,?_⟩,trivial⟩
     have:bg P T=n:=fq
     rw [this] at sj ⊢
     exact sj.part
  ·exact hg.elim
 ·rename_i b o len cap r
  split at hg
  ·rename_i cs bW jz
   split at hg
   ·rename_i x y hb
    obtain ⟨fq,hg⟩:=hg.cond
    have fq:=Nat.eq_of_beq_eq_true fq
    obtain ⟨hc,rfl⟩:=aZ.lZ hg
    simp only [Bool.and_eq_true,decide_eq_true_eq] at hc
    obtain ⟨⟨⟨h0,h1⟩,h2⟩,h6⟩:=hc
    obtain ⟨u,r',rfl,h3,h4⟩:=hv.cons_inv
    obtain ⟨z,hz,rfl⟩:=h3.LU
    have Mp:=F1 hb h4 h0 h1 h2 h6
    obtain ⟨z',b8,e1,e2,_⟩:=h.row b cs bW jz
    rw [hz] at e1
    simp at e1
    subst e1
    refine ⟨.slice (some ⟨z,o+x.toNat * n,none⟩) (y.toNat - x.toNat) (cap - x.toNat),?_,.agL hz⟩
    simp [xY,Mp,dm,Ar,e2,fq]
   ·exact hg.elim
  ·exact hg.elim
 ·rename_i T b o m r
  split at hg
  ·rename_i T' mk N es acc hA
   split at hg
   ·rename_i x y hb
    obtain ⟨fq,hg⟩:=hg.cond
    obtain ⟨hc,rfl⟩:=aZ.lZ hg
    simp only [Bool.and_eq_true] at fq
    have hT:=Nat.eq_of_beq_eq_true fq.2
    have akV:bg P T=n:=Nat.eq_of_beq_eq_true fq.1
    subst hT
    simp only [Bool.and_eq_true,decide_eq_true_eq] at hc
    obtain ⟨⟨h0,h1⟩,h2⟩:=hc
    obtain ⟨u,r',rfl,h3,h4⟩:=hv.cons_inv
    rcases h3.vc with ⟨rfl,rfl,rfl⟩ | ⟨z,L,N',c,e1,rfl,e2,e3,e4⟩
    ·have Mp:=F1 hb h4 h0 h1 h2 (Nat.le_refl _)
     have hx0:x.toNat=0:=by omega
     have hy0:y.toNat=0:=by omega
     refine ⟨.slice none (y.toNat - x.toNat) (0 - x.toNat),by simp [xY,Mp],.MW (.inl ⟨by omega,by omega,by rw [hx0,hy0]⟩)⟩
    ·have Mp:=F1 hb h4 h0 h1 h2 e2
     obtain ⟨T2,N2,o4,fT,PK,_,_,cs,e,own,bQ,bq,_,h5,_,_,_,h7⟩:=h.EN hA e1
     simp only [KV.ts.injEq] at PK
     obtain ⟨rfl,_⟩:=PK
     refine ⟨.slice (some ⟨z,o * bg P T+x.toNat * n,none⟩) (y.toNat - x.toNat) (c - x.toNat),?_,.MW (.inr ⟨z,L,N',c - x.toNat,e1,?_,by omega,by omega,?_⟩)⟩
     ·simp [xY,Mp,dm,Ar,h5,h7,akV]
     ·simp only [Value.slice.injEq,Option.some.injEq,Addr.mk.injEq,and_true,true_and]
      rw [akV,Nat.add_mul]
     ·rw [← e4]
      congr 1
      omega
   ·exact hg.elim
  ·exact hg.elim
 ·exact hg.elim
theorem acC {len n:Nat} {lo hi:Bool} : ad8 P (Oh len n lo hi) (Hf len n lo hi false):=by
 intro E A B vs us v h hv hg
 unfold Oh at hg
 split at hg
 ·rename_i b o r
  split at hg
  ·rename_i cs bW jz
   split at hg
   ·rename_i x y hb
    obtain ⟨fq,hg⟩:=hg.cond
    simp only [Bool.and_eq_true] at fq
    have tv:=Nat.eq_of_beq_eq_true fq.1
    have hsz2:=Nat.le_of_ble_eq_true fq.2
    obtain ⟨hc,rfl⟩:=aZ.lZ hg
    simp only [Bool.and_eq_true,decide_eq_true_eq] at hc
    obtain ⟨⟨h0,h1⟩,h2⟩:=hc
    obtain ⟨u,r',rfl,h3,h4⟩:=hv.cons_inv
    obtain ⟨z,hz,rfl⟩:=h3.iL
    have Mp:=F1 hb h4 h0 h1 h2 (Nat.le_refl _)
    obtain ⟨z',b8,e1,e2,e3⟩:=h.row b cs bW jz
    rw [hz] at e1
    simp at e1
    subst e1
    have hlen:=e3.length
    refine ⟨.slice (some ⟨z,o+x.toNat * n,none⟩) (y.toNat - x.toNat) (len - x.toNat),?_,.agL hz⟩
    have rb:Nat.ble (o+len * n) b8.length=true:=Nat.ble_eq_true_of_le (by omega)
    simp [Hf,Mp,dm,Ar,Py,e2,tv,rb]
    try omega
   ·exact hg.elim
  ·exact hg.elim
 ·exact hg.elim
theorem acD {lo hi:Bool} : ux P (Oi lo hi) (CR lo hi):=by
 intro E vs us v hv hg
 unfold Oi at hg
 split at hg
 ·rename_i s r
  split at hg
  ·rename_i x y hb
   obtain ⟨hc,rfl⟩:=aZ.lZ hg
   simp only [Bool.and_eq_true,decide_eq_true_eq] at hc
   obtain ⟨⟨h0,h1⟩,h2⟩:=hc
   obtain ⟨u,r',rfl,h3,h4⟩:=hv.cons_inv
   have:=h3.rl; subst this
   have Mp:=F1 hb h4 h0 h1 h2 (Nat.le_refl _)
   exact ⟨_,by simp [CR,Mp],.mkStr⟩
  ·exact hg.elim
 ·exact hg.elim
theorem acE:ad8 P (fun _=>Hw) CT:=by
 intro E A B vs us v h hv hg
 have hg:aZ (Hw vs) v:=hg
 unfold Hw at hg
 split at hg
 ·obtain ⟨u,rfl,h1⟩:=hv.eX
  have:=h1.nX; subst this
  have hg:KV.str ⟨⟨[]⟩⟩=v:=hg
  subst hg
  exact ⟨_,rfl,.mkStr⟩
 ·rename_i T mk m es acc _
  obtain ⟨u,rfl,h1⟩:=hv.eX
  obtain ⟨hc,rfl⟩:=aZ.lZ hg
  obtain ⟨ht,bq,h5,a,cap,rfl,h6,h7,_⟩:=h1.mm
  have hlen:=ht.len
  rcases h7 with ⟨rfl,hm⟩ | ⟨b,off,rr,rfl,h8,h9,sj⟩
  ·have:es = []:=List.length_eq_zero_iff.1 (by omega)
   subst this
   exact ⟨_,rfl,.mkStr⟩
  ·have jz:=h.z b rr h8
   have wI:∀ (i:Nat) (w:Value),bq[i]? = some w→∃ e,es[i]? = some e∧w = .int .u8 (byteOf e).toNat∧w.cells.size=1:=by
    intro i w hw
    have hi:i < es.length:=by rw [← h5.length]; exact (List.getElem?_eq_some_iff.1 hw).1
    obtain ⟨w',e1,e2⟩:=h5.get (S0 hi)
    rw [hw] at e1
    simp at e1
    subst e1
    have zu:=List.all_eq_true.1 hc _ (List.mem_of_getElem? (S0 hi))
    refine ⟨_,S0 hi,?_⟩
    revert e2 zu
    generalize es.getD i .aw=e
    intro e2 zu
    cases e <;> simp [agE] at zu
    rename_i k q
    cases k <;> simp at zu
    have:=e2.dv; subst this
    refine ⟨?_,rfl⟩
    simp only [byteOf,Value.int.injEq,true_and]
    obtain ⟨p,rfl⟩:=Int.eq_ofNat_of_zero_le zu.1
    have hp:p < 256:=by omega
    simp [UInt8.toNat_ofNat',Nat.mod_eq_of_lt hp]
   have al7:bq=es.map fun e=>.int .u8 (byteOf e).toNat:=by
    apply List.ext_getElem?
    intro i
    cases hw:bq[i]? with
    | none=>
     have:es.length≤i:=by rw [← h5.length]; exact List.getElem?_eq_none_iff.1 hw
     simp [this]
    | some w=>
     obtain ⟨e,e1,e2,_⟩:=wI i w hw
     simp [e1,e2]
   have tv:∀ i w,bq[i]? = some w→bg P T=1:=fun i w hw=>by
    obtain ⟨_,_,_,DP⟩:=wI i w hw
    rw [← (sj i w hw).1]; exact DP
   have BA:B.vT ⟨b,off,none⟩ m=some bq:=by
    simp only [St.vT,dm,Option.isNone_none,cond_true,xW,jz,Option.bind_some]
    have r5:bq.length=m:=by rw [h5.length]; exact hlen.symm
    have oj:∀ i,i < m→rr.cs[off+i]? = bq[i]?:=by
     intro i hi
     have Pu:i < bq.length:=by omega
     have hw:bq[i]? = some bq[i]:=List.getElem?_eq_getElem Pu
     have h1':=tv i _ hw
     obtain ⟨h12,h13⟩:=sj i _ hw
     obtain ⟨e,e1,e2,_⟩:=wI i _ hw
     have:=h13 0 bq[i] (by rw [e2]; rfl)
     rw [h1'] at this
     rw [hw,← this]
     congr 1
     omega
    have hle:m≤(rr.cs.drop off).length:=by
     cases hm0:m with
     | zero=>omega
     | succ q=>
      have:=oj q (by omega)
      have hq:q < bq.length:=by omega
      rw [List.getElem?_eq_getElem hq] at this
      have:=(List.getElem?_eq_some_iff.1 this).1
      simp
      omega
    rw [qY,FZ hle]
    congr 1
    apply List.ext_getElem?
    intro i
    rw [List.getElem?_take]
    split
    ·rename_i hi
     rw [List.getElem?_drop]
     exact oj i hi
    ·rename_i hi
     exact (List.getElem?_eq_none_iff.2 (by omega)).symm
   have acn:∀ (l:List KV),DT (l.map fun e=>.int .u8 (byteOf e).toNat)=some (l.map byteOf):=by
    intro l
    induction l with
    | nil=>rfl
    | cons e l ih=>
     have hb:=(byteOf e).toNat_lt
     show cond (Nat.blt (byteOf e).toNat 256) ((DT (l.map fun e=>.int .u8 (byteOf e).toNat)).map (UInt8.ofNat (byteOf e).toNat::·)) none=_
     have:Nat.blt (byteOf e).toNat 256=true:=by rw [Nat.blt_eq]; omega
     rw [this,cond_true,ih]
     simp
   refine ⟨.string ⟨⟨es.map byteOf⟩⟩,?_,.mkStr⟩
   simp only [CT,BA,Option.bind_some]
   rw [al7,acn]
   rfl
 ·exact hg.elim
theorem Yn {b lo hi:Nat} : ∀ {L:List Nat} {B:St},(∀ x∈L,qA (B.get x) lo hi=false)→B.kill b lo hi L=B
 | [],B,_=>rfl
 | x::L,B,h=>by
  simp only [St.kill]
  rw [h x (by simp),Bool.and_false,cond_false]
  exact Yn fun y hy=>h y (by simp [hy])
theorem ef.agQ {A:ax} {B:St} (sz:Nat) (h:fK P E A B):ef P E A B E (A.new (.bf 0 sz)) B:=by
 have hn:E.φ A.next=none:=by
  cases ER:E.φ A.next with
  | none=>rfl
  | some g=>have:=h.na _ g ER; omega
 have hA:∀ (b:Nat) (v:KV),(A.new (.bf 0 sz)).get b=some (.arr v)→A.get b=some (.arr v):=fun b v hb=>by
  rw [ax.du] at hb
  split at hb
  ·simp at hb
  ·exact hb
 have Yh:∀ (b:Nat) (v:KV),(A.new (.bf 0 sz)).get b=some (.jH v)→A.get b=some (.jH v):=fun b v hb=>by
  rw [ax.du] at hb
  split at hb
  ·simp at hb
  ·exact hb
 refine ⟨⟨?_,?_,h.z,h.apart,h.inj,h.jJ.new (.inr hn),fun b x e=>?_,fun b g e=>?_,?_,h.gV,h.nm,h.kd,h.fresh,h.mem,h.ar.mg (Env.le_refl _) (fun _=>rfl) hA Yh (by simp) (Nat.le_refl _) (fun _ _=>rfl) (fun _ _ e=>.inl e) (fun _ _ e=>.inl e) (fun b g e=>.inl ⟨b,e⟩) (fun _ _=>rfl) h.mem⟩,Env.le_refl _,by simp,fun _ _ _ _=>rfl,fun _ _ e=>.inl e,fun _ _ e=>.inl e,fun _ _ e=>.inl e,fun _ _ _ _=>rfl,fun _ q=>.inl (q.of (fun _=>rfl) hA),fun _ q=>.inl (q.of (fun _=>rfl) hA fun _ _=>rfl),fun _ _ q=>.inl q,fun _ q=>.inl (q.of (fun _=>rfl) hA (fun _ _=>rfl) fun _ _=>rfl),nc fun _ _=>rfl⟩
 ·intro b cs bW hb
  rw [ax.du] at hb
  split at hb
  ·simp at hb
  ·exact h.row b cs bW hb
 ·intro b top C5 hb
  rw [ax.du] at hb
  split at hb
  ·rename_i e
   simp at hb
   refine .inl ⟨hb.1.symm,?_⟩
   cases ER:E.φ b with
   | none=>rfl
   | some g=>have:=h.na b g ER; omega
  ·exact h.bf b top C5 hb
 ·have:=h.lE b x e; rw [ax.cq]; omega
 ·have:=h.na b g e; rw [ax.cq]; omega
 ·intro b o hb
  rw [ax.du] at hb
  rw [ax.cq]
  split at hb
  ·omega
  ·have:=h.live b o hb; omega
theorem ef.grow {A:ax} {B:St} {f g top M4 sz:Nat} {c:List Value} (h:fK P E A B) (hA:A.get f=some (.bf top sz)) (hf:(E.φ f=none∧g=B.next)∨E.φ f=some g) (hc:c.length=M4 * sz) (ht:top≤M4) (FF:0 < M4) :
  ef P E A B ((E.gx B.next ⟨c,sz,true,some (g,0)⟩).rp f g) (A.put f (.bf M4 sz)) (B.grow g 0 c sz):=by
 have mZ:∀ x,(B.grow g 0 c sz).get x=if x=B.next then some (.row c sz true (some (g,0))) else B.get x:=fun x=>by simp [St.grow]
 have kJ:∀ q,(B.grow g 0 c sz).members q=if q=g then B.next::B.members g else B.members q:=fun q=>by simp [St.grow,St.Aw]
 have iW:(B.grow g 0 c sz).next=B.next+1:=rfl
 have hlef:=h.live f _ hA
 have hle:E.le ((E.gx B.next ⟨c,sz,true,some (g,0)⟩).rp f g):=by
  refine ⟨fun _ _ e=>e,fun _ _ e=>e,fun b r e=>?_,fun b q e=>?_⟩
  ·have:=h.nm b r e
   simp only [Env.rp,Env.gx]; rw [if_neg (by omega)]; exact e
  ·simp only [Env.rp,Env.gx]
   split
   ·rename_i e2
    subst e2
    rcases hf with ⟨h1,_⟩ | h1
    ·rw [h1] at e; simp at e
    ·rw [h1] at e; exact e
   ·exact e
 have hg:g≤B.next:=by
  rcases hf with ⟨_,h1⟩ | h1
  ·omega
  ·have:=h.kd f g h1; omega
 generalize hB' : B.grow g 0 c sz=B' at mZ kJ iW
 have hAk:∀ (b:Nat) (v:KV),(A.put f (.bf M4 sz)).get b=some (.arr v)→A.get b=some (.arr v):=fun b v hb=>by
  rw [ax.b9] at hb
  split at hb
  ·simp at hb
  ·exact hb
 have Yh:∀ (b:Nat) (v:KV),(A.put f (.bf M4 sz)).get b=some (.jH v)→A.get b=some (.jH v):=fun b v hb=>by
  rw [ax.b9] at hb
  split at hb
  ·simp at hb
  ·exact hb
 have xu:∀ x,x < B.next→B'.get x=B.get x:=fun x hx=>by rw [mZ,if_neg (by omega)]
 have HH:∀ b r,((E.gx B.next ⟨c,sz,true,some (g,0)⟩).rp f g).z b=some r→E.z b=some r∨B.next≤b:=fun b r e=>by
  simp only [Env.rp,Env.gx] at e
  split at e
  ·exact .inr (by omega)
  ·exact .inl e
 have akW:∀ b q,((E.gx B.next ⟨c,sz,true,some (g,0)⟩).rp f g).φ b=some q→E.φ b=some q∨B.next≤q:=fun b q e=>by
  simp only [Env.rp,Env.gx] at e
  split at e
  ·rename_i e2
   simp at e
   subst e e2
   rcases hf with ⟨_,h1⟩ | h1
   ·exact .inr (by omega)
   ·exact .inl h1
  ·exact .inl e
 have VX:∀ q,AF A E B q→B'.members q=B.members q:=fun q hq=>by
  rw [kJ,if_neg]
  intro e2
  subst e2
  obtain ⟨b,v,x,L,N,cs,e,own,k,h1,h2,h3⟩:=hq
  obtain ⟨h4,h5,_⟩:=h.ar.rV b v x L N cs e own q k h1 h2 h3
  rcases hf with ⟨_,h1⟩ | h1
  ·omega
  ·exact h5 f h1
 have afR:∀ q y,y∈B'.members q→y∈B.members q∨B.next≤y:=fun q y hy=>by
  rw [kJ] at hy
  split at hy
  ·rename_i e2
   subst e2
   rcases List.mem_cons.1 hy with hy | hy
   ·exact .inr (by omega)
   ·exact .inl hy
  ·exact .inl hy
 refine ⟨⟨?_,?_,?_,?_,?_,?_,?_,?_,?_,?_,?_,?_,?_,?_,h.ar.mg hle (fun _=>rfl) hAk Yh (Nat.le_refl _) (by omega) (fun x q=>xu x (h.D9 q)) HH (fun _ _ e=>.inl e) (fun b q e=>(akW b q e).imp (fun e=>⟨b,e⟩) id) VX h.mem⟩,hle,Nat.le_refl _,?_,fun b x e=>.inl e,fun b r e=>(HH b r e).imp id .inr,akW,fun q hq hn _=>by
  rw [kJ,if_neg]
  intro e2
  subst e2
  rcases hf with ⟨_,h1⟩ | h1
  ·omega
  ·exact hn f h1,fun _ q=>.inl (q.of (fun _=>rfl) hAk),fun _ q=>.inl (q.of (fun _=>rfl) hAk fun x q=>xu x (h.D9 q)),afR,fun _ q=>.inl (q.of (fun _=>rfl) hAk (fun x q=>xu x (h.D9 q)) VX),nc xu⟩
 ·intro b cs bW hb
  rw [ax.b9] at hb
  split at hb
  ·simp at hb
  ·obtain ⟨x,c2,h1,h2,h3⟩:=h.row b cs bW hb
   have:=h.gV b x h1
   exact ⟨x,c2,h1,by rw [mZ,if_neg (by omega)]; exact h2,h3.mono hle⟩
 ·intro b t C5 hb
  rw [ax.b9] at hb
  split at hb
  ·rename_i e
   simp at hb
   obtain ⟨rfl,rfl⟩:=hb
   subst e
   refine .inr ⟨g,by simp [Env.rp],FF,fun x hx cs e own q k hr=>?_⟩
   rw [mZ] at hr
   rw [kJ,if_pos rfl] at hx
   split at hr
   ·simp at hr
    obtain ⟨rfl,rfl,_,_,rfl⟩:=hr
    exact ⟨rfl,Nat.le_of_eq hc⟩
   ·rename_i en
    rcases List.mem_cons.1 hx with hx | hx
    ·exact absurd hx en
    ·rcases hf with ⟨_,h1⟩ | h1
     ·rw [h1,h.fresh _ (Nat.le_refl _)] at hx; simp at hx
     ·rcases h.bf b top sz hA with ⟨_,h2⟩ | ⟨g2,h2,_,h3⟩
      ·rw [h1] at h2; simp at h2
      ·rw [h1] at h2
       simp at h2
       subst h2
       obtain ⟨h4,h5⟩:=h3 x hx cs e own q k hr
       exact ⟨h4,Nat.le_trans h5 (Nat.mul_le_mul_right _ ht)⟩
  ·rename_i Jw
   rcases h.bf b t C5 hb with ⟨h1,h2⟩ | ⟨g2,h2,hp2,h3⟩
   ·exact .inl ⟨h1,by simp only [Env.rp,Env.gx]; rw [if_neg Jw]; exact h2⟩
   ·have en:g2≠g:=by
     intro e
     subst e
     rcases hf with ⟨_,h1⟩ | h1
     ·have:=h.kd b g2 h2; omega
     ·exact Jw (h.jJ b f g2 _ _ _ _ hb hA h2 h1)
    refine .inr ⟨g2,by simp only [Env.rp,Env.gx]; rw [if_neg Jw]; exact h2,hp2,fun x hx cs e own q k hr=>?_⟩
    rw [kJ,if_neg en] at hx
    have:=h.mem g2 x hx
    rw [mZ,if_neg (by omega)] at hr
    exact h3 x hx cs e own q k hr
 ·intro b r hb
  simp only [Env.rp,Env.gx] at hb
  rw [mZ]
  split at hb
  ·rename_i e; simp at hb; subst hb; rw [if_pos e]
  ·rename_i e; rw [if_neg e]; exact h.z b r hb
 ·intro b x hb
  have hb:E.κ b=some x:=hb
  have:=h.gV b x hb
  simp only [Env.rp,Env.gx]
  rw [if_neg (by omega)]
  exact h.apart b x hb
 ·exact h.inj
 ·intro b d q tb sb td sd lb ld hb hd
  simp only [Env.rp,Env.gx] at hb hd
  rw [ax.b9] at lb ld
  have key:∀ d t s,d≠f→A.get d=some (.bf t s)→E.φ d≠some g:=by
   intro d t s hd hl e
   rcases hf with ⟨_,h1⟩ | h1
   ·have:=h.kd d g e; omega
   ·exact hd (h.jJ d f g _ _ _ _ hl hA e h1)
  by_cases e1:b=f <;> by_cases e2:d=f
  ·omega
  ·rw [if_pos e1] at hb; rw [if_neg e2] at hd ld; simp at hb; subst hb; exact absurd hd (key d _ _ e2 ld)
  ·rw [if_pos e2] at hd; rw [if_neg e1] at hb lb; simp at hd; subst hd; exact absurd hb (key b _ _ e1 lb)
  ·rw [if_neg e1] at hb lb; rw [if_neg e2] at hd ld; exact h.jJ b d q _ _ _ _ lb ld hb hd
 ·exact h.lE
 ·intro b q hb
  simp only [Env.rp,Env.gx] at hb
  rw [ax.qZ]
  split at hb
  ·omega
  ·exact h.na b q hb
 ·intro b o hb
  rw [ax.b9] at hb
  rw [ax.qZ]
  split at hb
  ·omega
  ·exact h.live b o hb
 ·intro b x hb; have:=h.gV b x hb; omega
 ·intro b r hb
  simp only [Env.rp,Env.gx] at hb
  rw [iW]
  split at hb
  ·omega
  ·have:=h.nm b r hb; omega
 ·intro b q hb
  simp only [Env.rp,Env.gx] at hb
  rw [iW]
  split at hb
  ·simp at hb; omega
  ·have:=h.kd b q hb; omega
 ·intro q hq
  rw [iW] at hq
  rw [kJ,if_neg (by omega)]
  exact h.fresh q (by omega)
 ·intro q x hx
  rw [iW]
  rw [kJ] at hx
  split at hx
  ·rcases List.mem_cons.1 hx with hx | hx
   ·omega
   ·have:=h.mem g x hx; omega
  ·have:=h.mem q x hx; omega
 ·intro x hx _ _; rw [mZ,if_neg (by omega)]
end Go.K
end
section
namespace Go.K
open Go Go.aE
variable {P:Program} {E:Env}
def mkE (agg:Bool) (m:List Value):Value:=cond agg (.agg ⟨m⟩) (m.headD .nilIface)
theorem Yo {agg:Bool} {m:List Value} (hs:∀ v∈m,scalar v=true) (h:agg=true∨m.length=1):(mkE agg m).cells.toList=m:=by
 cases agg with
 | true=>rfl
 | false=>
  rcases h with h | h
  ·simp at h
  ·match m,h with
   | [v],_=>
    have:=hs v (by simp)
    show v.cells.toList = [v]
    cases v <;> first | rfl | simp [scalar] at this
theorem S9 {l:u6} {ks:List KV} (h:aF l.ks ks=true) (ha:l.agg=true∨l.ks.length=1):dx l (Jv l.agg ks)=true:=by
 obtain ⟨agg,cs⟩:=l
 cases agg with
 | true=>simpa [Jv,dx] using h
 | false=>
  simp at ha
  match cs,ha,ks,h with
  | [c],_,[v],h=>
   have hk:kindOk c v=true:=by simpa [aF] using h
   show dx ⟨false,[c]⟩ v=true
   cases v with
   | agg cs=>cases c <;> simp [kindOk] at hk
   | jI cs=>cases c <;> simp [kindOk] at hk
   | _=>simpa [dx] using h
  | [c],_,[],h=>simp [aF] at h
  | [c],_,_::_::_,h=>simp [aF] at h
theorem Yp {E:Env} {ks:List KV} {m:List Value} {agg:Bool} (h:bd P E ks m) (ha:agg=true∨m.length=1):VK P E (Jv agg ks) (mkE agg m):=by
 cases agg with
 | true=>exact .oX h
 | false=>
  rcases ha with ha | ha
  ·simp at ha
  ·match m,ha,ks,h with
   | [v],_,ks,h=>
    have hl:=h.length
    match ks,hl,h with
    | [k],_,h=>
     obtain ⟨y,ys,e,h1,_⟩:=h.cons_inv
     simp at e
     rw [e.1]
     exact h1
theorem HK {α:Type} : ∀ {n:Nat} {l vs r:List α},lh n l vs=some r→
  r.length=l.length∧(vs≠[]→n+vs.length≤l.length)∧∀ (i:Nat),r[i]? = if n≤i∧i < n+vs.length then vs[i - n]? else l[i]?
 | 0,l,[],r,h=>by simp [lh] at h; subst h; simp
 | 0,[],_::_,r,h=>by simp [lh] at h
 | 0,x::l,v::vs,r,h=>by
  simp only [lh,Option.map_eq_some_iff] at h
  obtain ⟨q,hq,rfl⟩:=h
  obtain ⟨h1,h2,h3⟩:=HK hq
  refine ⟨by simp [h1],?_,fun i=>?_⟩
  ·intro _
   cases vs with
   | nil=>simp
   | cons u us=>have:=h2 (by simp); simp at this ⊢; omega
  ·cases i with
   | zero=>simp
   | succ i=>simp [h3 i]
 | n+1,[],[],r,h=>by simp [lh] at h; subst h; simp
 | n+1,[],_::_,r,h=>by simp [lh] at h
 | n+1,x::l,vs,r,h=>by
  simp only [lh,Option.map_eq_some_iff] at h
  obtain ⟨q,hq,rfl⟩:=h
  obtain ⟨h1,h2,h3⟩:=HK hq
  refine ⟨by simp [h1],?_,fun i=>?_⟩
  ·intro en
   have:=h2 en
   simp at this ⊢
   omega
  ·cases i with
   | zero=>simp
   | succ i=>
    simp only [List.getElem?_cons_succ,h3 i]
    by_cases hc:n≤i∧i < n+vs.length
    ·rw [if_pos hc,if_pos (by omega),show i+1 - (n+1)=i - n by omega]
    ·rw [if_neg hc,if_neg (by omega)]
theorem Ou (v:KV):∀ (es:List KV) (i j:Nat),(setAt es i v).getD j .aw=if j=i∧i < es.length then v else es.getD j .aw
 | [],0,j=>by simp [setAt]
 | [],_+1,j=>by simp [setAt]
 | e::es,0,0=>by simp [setAt]
 | e::es,0,j+1=>by simp [setAt]
 | e::es,i+1,0=>by simp [setAt]
 | e::es,i+1,j+1=>by
  have:=Ou v es i j
  simp only [setAt,List.getD_cons_succ,List.length_cons]
  rw [this]
  by_cases h:j=i∧i < es.length
  ·rw [if_pos h,if_pos ⟨by omega,by omega⟩]
  ·rw [if_neg h,if_neg (by omega)]
theorem yI:∀ (n:Nat) (l vs:List Value),n+vs.length≤l.length→∃ r,hX n l vs=some r
 | 0,l,[],_=>⟨l,rfl⟩
 | 0,[],_::_,h=>by simp at h
 | 0,x::l,v::vs,h=>by
  obtain ⟨r,hr⟩:=yI 0 l vs (by simp at h ⊢; omega)
  exact ⟨v::r,by rw [uf,hr]; rfl⟩
 | n+1,[],[],_=>⟨[],rfl⟩
 | n+1,[],_::_,h=>by simp at h
 | n+1,x::l,vs,h=>by
  obtain ⟨r,hr⟩:=yI n l vs (by simp at h ⊢; omega)
  exact ⟨x::r,by rw [qB,hr]; rfl⟩
theorem U5:∀ {ks:List CK} {cs:List KV},cs.length=ks.length→(∀ (i:Nat) c v,ks[i]? = some c→cs[i]? = some v→kindOk c v=true)→aF ks cs=true
 | [],[],_,_=>rfl
 | [],_::_,h,_=>by simp at h
 | _::_,[],h,_=>by simp at h
 | c::ks,v::cs,h,k=>by
  simp only [aF,Bool.and_eq_true]
  exact ⟨k 0 c v rfl rfl,U5 (by simpa using h) fun i d u e1 e2=>k (i+1) d u (by simpa using e1) (by simpa using e2)⟩
theorem afS {l:u6} {e:KV} (h:dx l e=true):l.agg=true∨e.cells.length=1:=by
 by_cases ha:∃ cs,e = .agg cs
 ·obtain ⟨cs,rfl⟩:=ha
  simp only [dx,Bool.and_eq_true] at h
  exact .inl h.1
 ·have hc:e.cells = [e]:=by cases e <;> first | rfl | exact absurd ⟨_,rfl⟩ ha
  rw [hc]
  exact .inr rfl
theorem ahI {T t:TypeId} {k:Nat} {e vn e2:KV} {u w:Value} (hw:Xd P T t k) (A8:dx (bw P T) e=true) (hu:VK P E e u) (hvn:dx (bw P t) vn=true) (hvw:VK P E vn w) (h:SM P T k e vn.cells=some e2) :
  ∃ u2,VK P E e2 u2∧dx (bw P T) e2=true∧u2.cells.size=bg P T∧e2.cells.length=e.cells.length∧(∀ m,u2.cells.toList[m]? = if k≤m∧m < k+w.cells.toList.length then w.cells.toList[m - k]? else u.cells.toList[m]?)∧(w.cells.toList≠[]→k+w.cells.toList.length≤bg P T):=by
 unfold SM at h
 obtain ⟨l1,l2,_⟩:=HI A8
 rw [l1] at h
 obtain ⟨lF,h1,rfl⟩:=Option.map_eq_some_iff.1 h
 obtain ⟨FG,hk2⟩:=iz A8
 obtain ⟨PH,N9⟩:=iz hvn
 have hcu:=hu.cells hk2
 have hcw:=hvw.cells N9
 obtain ⟨r,h2,h3⟩:=bd.lh h1 hcu hcw
 obtain ⟨s1,s2,s3⟩:=iV h2
 obtain ⟨q1,q2,q3⟩:=HK h1
 have Hq:e.cells.length=bg P T:=qb FG
 have xq:=afS A8
 have hlr:r.length=e.cells.length:=by rw [s1,hcu.length]
 have rf:aF (bw P T).ks lF=true:=by
  refine U5 (by rw [q1]; exact Hq) fun i c v e1 e3=>?_
  rw [q3 i] at e3
  split at e3
  ·rename_i hc
   obtain ⟨x,Ck,hx2⟩:∃ d,(bw P t).ks[i - k]? = some d∧d=c:=by
    have bU:i - k < (bw P t).ks.length:=by rw [← qb PH]; omega
    refine ⟨_,List.getElem?_eq_getElem bU,?_⟩
    have:=hw.is (i - k) _ (List.getElem?_eq_getElem bU)
    rw [show k+(i - k)=i by omega,e1] at this
    simpa using this.symm
   subst hx2
   obtain ⟨v',h4,h5⟩:=Ch PH Ck
   rw [e3] at h4
   simp at h4; subst h4
   exact h5
  ·obtain ⟨v',h4,h5⟩:=Ch FG e1
   rw [e3] at h4
   simp at h4; subst h4
   exact h5
 have akX:dx (bw P T) (Jv (bw P T).agg lF)=true:=S9 rf (by
  rcases xq with h | h
  ·exact .inl h
  ·exact .inr (by rw [← qb FG]; exact h))
 have VW:∀ v∈r,scalar v=true:=h3.scalar (Ci rf)
 have u5:(mkE (bw P T).agg r).cells.toList=r:=Yo VW (xq.imp id fun h=>by rw [hlr]; exact h)
 refine ⟨mkE (bw P T).agg r,Yp h3 (xq.imp id fun h=>by rw [hlr]; exact h),akX,?_,?_,fun m=>?_,fun en=>?_⟩
 ·rw [← Array.length_toList,u5,hlr]; exact Hq
 ·exact (qb (iz akX).1).trans Hq.symm
 ·rw [u5]; exact s3 m
 ·have:=s2 en
  rw [hcu.length] at this
  omega
theorem ahJ {sz i k:Nat} {cs:List Value} {bq:List Value} {u u2:Value} {wl:List Value} (hl:od sz 0 cs bq) (hi:bq[i]? = some u) (hsu:u.cells.size=sz) (oB:wl≠[]→k+wl.length≤sz) (hg:∀ m,u2.cells.toList[m]? = if k≤m∧m < k+wl.length then wl[m - k]? else u.cells.toList[m]?) (kf:u2.cells.size=sz) :
  ∃ lF,hX (i * sz+k) cs wl=some lF∧od sz 0 lF (bq.set i u2)∧lF.length=cs.length:=by
 have hex:∃ lF,hX (i * sz+k) cs wl=some lF:=by
  cases hwl:wl with
  | nil=>exact ⟨cs,JN _ _⟩
  | cons a l=>
   have hf:=oB (by rw [hwl]; simp)
   rw [hwl] at hf
   obtain ⟨_,hc⟩:=hl i u hi
   have bU:k+l.length < u.cells.size:=by rw [hsu]; simp at hf; omega
   have:=hc (k+l.length) u.cells[k+l.length] (by simp [bU])
   have hb:=(List.getElem?_eq_some_iff.1 this).1
   exact yI _ _ _ (by simp; omega)
 obtain ⟨lF,h1⟩:=hex
 obtain ⟨s1,s2,s3⟩:=iV h1
 refine ⟨lF,h1,fun j x hx=>?_,s1⟩
 rw [List.getElem?_set] at hx
 split at hx
 ·rename_i e
  subst e
  split at hx
  ·simp at hx; subst hx
   refine ⟨kf,fun m y hy=>?_⟩
   have hy' : u2.cells.toList[m]? = some y:=by simpa using hy
   have hm:m < sz:=by rw [← kf]; exact (Array.getElem?_eq_some_iff.1 hy).1
   rw [hg m] at hy'
   rw [Nat.zero_add,s3]
   split at hy'
   ·rw [if_pos (by omega),show i * sz+m - (i * sz+k)=m - k by omega]; exact hy'
   ·rw [if_neg (by omega)]
    have:=(hl i u hi).2 m y (by simpa using hy')
    rwa [Nat.zero_add] at this
  ·simp at hx
 ·rename_i en
  obtain ⟨h2,h3⟩:=hl j x hx
  refine ⟨h2,fun m y hy=>?_⟩
  have hm:m < sz:=by rw [← h2]; exact (Array.getElem?_eq_some_iff.1 hy).1
  rw [s3,if_neg]
  ·exact h3 m y hy
  ·rintro ⟨ha,hb⟩
   cases hwl:wl with
   | nil=>rw [hwl] at hb; simp at hb; omega
   | cons a l=>
    have hf:=oB (by rw [hwl]; simp)
    rcases Nat.lt_or_gt_of_ne en with h | h
    ·have:(i+1) * sz≤j * sz:=Nat.mul_le_mul_right _ h
     rw [Nat.succ_mul] at this
     omega
    ·have:(j+1) * sz≤i * sz:=Nat.mul_le_mul_right _ h
     rw [Nat.succ_mul] at this
     omega
theorem afT {T:TypeId} {N i:Nat} {es:List KV} {acc:Nat→KV} {e:KV} (ht:iX P T N es acc) (hi:i < N) (he:dx (bw P T) e=true):iX P T N (setAt es i e) (r9 acc i e) where
 len:=by rw [AB]; exact ht.len
 acc j hj:=by
  rw [Ou]
  unfold r9
  cases hb:Nat.beq j i with
  | true=>have:=Nat.eq_of_beq_eq_true hb; rw [if_pos ⟨this,by rw [← ht.len]; exact hi⟩]; rfl
  | false=>rw [if_neg (fun h=>by rw [h.1,Nat.beq_refl] at hb; simp at hb)]; exact ht.acc j hj
 typed:=oD fun j x hx=>by
  have hx' : x=(setAt es i e).getD j .aw:=by rw [List.getD_eq_getElem?_getD,hx]; rfl
  rw [Ou] at hx'
  split at hx'
  ·rw [hx']; exact he
  ·rename_i en
   have bU:j < es.length:=by rw [← AB es i e]; exact (List.getElem?_eq_some_iff.1 hx).1
   exact ke ht.typed (i:=j) (by rw [hx',List.getD_eq_getElem?_getD,List.getElem?_eq_getElem bU]; rfl)
theorem Cl {B:St} {x y lo hi:Nat} {bQ:Option (Nat×Nat)} : (B.eH x bQ lo hi).get y=B.get y∨∃ g k,bQ=some (g,k)∧y∈B.members g∧y≠x∧(B.eH x bQ lo hi).get y=some .dead∧∃ cs e own f j,B.get y=some (.row cs e own (some (f,j))):=by
 cases bQ with
 | none=>exact .inl rfl
 | some p=>
  obtain ⟨g,k⟩:=p
  simp only [St.eH,zP]
  by_cases hc:y∈B.members g∧y≠x∧qA (B.get y) (k+lo) (k+hi)=true
  ·refine .inr ⟨g,k,rfl,hc.1,hc.2.1,by rw [if_pos hc],?_⟩
   have hs:=hc.2.2
   unfold qA at hs
   split at hs
   ·rename_i cs e own f j hy; exact ⟨cs,e,own,f,j,hy⟩
   ·simp at hs
  ·exact .inl (by rw [if_neg hc])
theorem F2 {B:St} {x lo hi:Nat} {bQ:Option (Nat×Nat)} : (B.eH x bQ lo hi).members=B.members:=by
 cases bQ with
 | none=>rfl
 | some p=>simp [St.eH]
theorem M5 {B:St} {x lo hi:Nat} {bQ:Option (Nat×Nat)} : (B.eH x bQ lo hi).next=B.next:=by
 cases bQ with
 | none=>rfl
 | some p=>simp [St.eH]
theorem ef.agR {A:ax} {B:St} {b x N lo hi:Nat} {T:TypeId} {es:List KV} {acc:Nat→KV} {bq cs mf:List Value} {bQ:Option (Nat×Nat)} (h:fK P E A B) (hb:∃ v,A.get b=some (.arr v)) (hx:E.α b=some (x,mf.length,N))
  (jz:B.get x=some (.row mf (bg P T) true bQ)) (hlen:cs.length=mf.length) (fq:1≤bg P T) (ht:iX P T N es acc) (J8:bd P E es bq) (hl:od (bg P T) 0 cs bq) :
  ef P E A B E (A.put b (.arr (.ts T .any N es acc))) ((B.put x (.row cs (bg P T) true bQ)).eH x bQ lo hi):=by
 obtain ⟨v0,hb⟩:=hb
 have qC:AR A E x:=⟨b,v0,_,_,hb,hx⟩
 have jx:((B.put x (.row cs (bg P T) true bQ)).eH x bQ lo hi).get x=some (.row cs (bg P T) true bQ):=by
  rcases Cl (B:=B.put x (.row cs (bg P T) true bQ)) (x:=x) (y:=x) (lo:=lo) (hi:=hi) (bQ:=bQ) with e | ⟨g,k,_,_,h3,_⟩
  ·rw [e]; simp
  ·exact absurd rfl h3
 have hgy:∀ y,y≠x→((B.put x (.row cs (bg P T) true bQ)).eH x bQ lo hi).get y=B.get y∨(((B.put x (.row cs (bg P T) true bQ)).eH x bQ lo hi).get y=some .dead∧∃ g k,bQ=some (g,k)∧y∈B.members g):=by
  intro y hy
  rcases Cl (B:=B.put x (.row cs (bg P T) true bQ)) (x:=x) (y:=y) (lo:=lo) (hi:=hi) (bQ:=bQ) with e | ⟨g,k,h1,h2,_,h4,_⟩
  ·exact .inl (by rw [e,St.b9,if_neg hy])
  ·exact .inr ⟨h4,g,k,h1,by simpa using h2⟩
 have kJ:((B.put x (.row cs (bg P T) true bQ)).eH x bQ lo hi).members=B.members:=by rw [F2]; simp
 have iW:((B.put x (.row cs (bg P T) true bQ)).eH x bQ lo hi).next=B.next:=by rw [M5]; simp
 generalize (B.put x (.row cs (bg P T) true bQ)).eH x bQ lo hi=B' at jx hgy kJ iW
 have J9:∀ y,y≠x→(E.z y≠none∨AR A E y∨∃ c,E.κ c=some y)→B'.get y=B.get y:=by
  intro y hy hs
  rcases hgy y hy with e | ⟨_,g,k,rfl,h2⟩
  ·exact e
  ·obtain ⟨_,_,h3⟩:=h.ar.rV b v0 x _ _ _ _ _ g k hb hx jz
   obtain ⟨h4,h5,h6⟩:=h3 y h2 hy
   rcases hs with hs | hs | ⟨c,hs⟩
   ·exact absurd h4 hs
   ·exact absurd hs h5
   ·exact absurd hs (h6 c)
 have hA:∀ (c:Nat) (v:KV),(A.put b (.arr (.ts T .any N es acc))).get c=some (.arr v)→∃ u,A.get c=some (.arr u):=fun c v hc=>by
  rw [ax.b9] at hc
  split at hc
  ·rename_i e; exact ⟨v0,by rw [e]; exact hb⟩
  ·exact ⟨v,hc⟩
 have Ka:∀ y,AR (A.put b (.arr (.ts T .any N es acc))) E y→AR A E y:=fun y q=>by
  obtain ⟨c,v,L,M,h1,h2⟩:=q
  obtain ⟨u,h1⟩:=hA c v h1
  exact ⟨c,u,L,M,h1,h2⟩
 have Yq:∀ y,AR A E y→∀ oq e own Qe,B'.get y=some (.row oq e own Qe)→∃ lF,B.get y=some (.row lF e own Qe)∧lF.length=oq.length:=fun y q oq e own Qe hy=>by
  by_cases A9:y=x
  ·subst A9
   rw [jx] at hy
   simp at hy
   obtain ⟨rfl,rfl,rfl,rfl⟩:=hy
   exact ⟨mf,jz,hlen.symm⟩
  ·rw [J9 y A9 (.inr (.inl q))] at hy
   exact ⟨oq,hy,rfl⟩
 have aed:∀ g,AF (A.put b (.arr (.ts T .any N es acc))) E B' g→AF A E B g:=fun g q=>by
  obtain ⟨c,v,y,L,M,oq,e,own,k,h1,h2,h3⟩:=q
  obtain ⟨u,h1⟩:=hA c v h1
  obtain ⟨lF,h3,_⟩:=Yq y ⟨c,u,L,M,h1,h2⟩ _ _ _ _ h3
  exact ⟨c,u,y,L,M,lF,e,own,k,h1,h2,h3⟩
 refine ⟨⟨?_,?_,?_,h.apart,h.inj,h.jJ.put (.inl fun _ _=>by simp),h.lE,h.na,?_,fun b x e=>by rw [iW]; exact h.gV b x e,fun b r e=>by rw [iW]; exact h.nm b r e,fun b g e=>by rw [iW]; exact h.kd b g e,fun g hg=>by rw [iW] at hg; rw [kJ]; exact h.fresh g hg,fun g y hy=>by rw [kJ] at hy; rw [iW]; exact h.mem g y hy,?_⟩,Env.le_refl _,Nat.le_refl _,?_,fun _ _ e=>.inl e,fun _ _ e=>.inl e,fun _ _ e=>.inl e,fun _ _ _ _=>by rw [kJ],fun y q=>.inl (Ka y q),fun g q=>.inl (aed g q),fun g y q=>.inl (by rw [kJ] at q; exact q),fun y q=>.inl ?_,?_⟩
 ·intro c oq bW hc
  rw [ax.b9] at hc
  split at hc
  ·simp at hc
  ·obtain ⟨y,c1,h1,h2,h3⟩:=h.row c oq bW hc
   have hy:y≠x:=fun e=>(h.ar.z x qC).2 c (by rw [← e]; exact h1)
   exact ⟨y,c1,h1,by rw [J9 y hy (.inr (.inr ⟨c,h1⟩))]; exact h2,h3⟩
 ·intro c top C5 hc
  rw [ax.b9] at hc
  split at hc
  ·simp at hc
  ·rcases h.bf c top C5 hc with h1 | ⟨g,h1,h2,h3⟩
   ·exact .inl h1
   ·refine .inr ⟨g,h1,h2,fun y hy oq e own f k hr=>?_⟩
    rw [kJ] at hy
    by_cases A9:y=x
    ·subst A9
     rw [jx] at hr
     simp at hr
     obtain ⟨rfl,_,_,rfl⟩:=hr
     obtain ⟨h4,h5⟩:=h3 y hy mf _ _ f k jz
     exact ⟨h4,by rw [hlen]; exact h5⟩
    ·rcases hgy y A9 with e1 | ⟨e1,_⟩
     ·rw [e1] at hr; exact h3 y hy oq e own f k hr
     ·rw [e1] at hr; simp at hr
 ·intro y r hy
  have A9:y≠x:=fun e=>by have:=(h.ar.z x qC).1; rw [← e,hy] at this; simp at this
  rw [J9 y A9 (.inl (by rw [hy]; simp))]
  exact h.z y r hy
 ·intro c o hc
  rw [ax.b9] at hc
  split at hc
  ·rename_i e; rw [e]; exact h.live b _ hb
  ·exact h.live c o hc
 ·refine ⟨?_,?_,fun y q=>h.ar.z y (Ka y q),?_,?_,h.ar.X6,h.ar.lE,fun b x L N e=>by rw [iW]; exact h.ar.gV b x L N e,?_,fun c v hc=>?_⟩
  ·intro c v hc
   rw [ax.b9] at hc
   split at hc
   ·rename_i e
    simp at hc
    subst hc e
    exact ⟨T,N,es,acc,rfl,ht,fq,.inr ⟨x,cs,bQ,bq,by rw [hlen]; exact hx,jx,J8,hl⟩⟩
   ·rename_i en
    refine (h.ar.arr c v hc).mono (Env.le_refl _) rfl fun y L M e=>?_
    have A9:y≠x:=fun e2=>en (h.ar.inj c b v v0 x _ _ _ _ hc hb (by rw [← e2]; exact e) hx)
    exact J9 y A9 (.inr (.inl ⟨c,v,L,M,hc,e⟩))
  ·intro c v hc
   rw [ax.b9] at hc
   split at hc
   ·simp at hc
   ·exact h.ar.jH c v hc
  ·intro c d v u y L M L' M' h1 h2 h3 h4
   obtain ⟨v',h1⟩:=hA c v h1
   obtain ⟨u',h2⟩:=hA d u h2
   exact h.ar.inj c d v' u' y L M L' M' h1 h2 h3 h4
  ·intro c d v u y w L M L' M' oq e own g k lF e' o6 k' h1 h2 h3 h4 h5 h6
   obtain ⟨v',h1⟩:=hA c v h1
   obtain ⟨u',h2⟩:=hA d u h2
   obtain ⟨_,h5,_⟩:=Yq y ⟨c,v',L,M,h1,h3⟩ _ _ _ _ h5
   obtain ⟨_,h6,_⟩:=Yq w ⟨d,u',L',M',h2,h4⟩ _ _ _ _ h6
   exact h.ar.tu c d v' u' y w L M L' M' _ e own g k _ e' o6 k' h1 h2 h3 h4 h5 h6
  ·intro c v y L M oq e own g k h1 h2 h3
   obtain ⟨v',h1⟩:=hA c v h1
   obtain ⟨_,h3,_⟩:=Yq y ⟨c,v',L,M,h1,h2⟩ _ _ _ _ h3
   obtain ⟨h4,h5,h6⟩:=h.ar.rV c v' y L M _ e own g k h1 h2 h3
   refine ⟨by rw [iW]; exact h4,h5,fun z hz en=>?_⟩
   rw [kJ] at hz
   obtain ⟨h7,h8,h9⟩:=h6 z hz en
   exact ⟨h7,fun q=>h8 (Ka z q),h9⟩
  ·rw [ax.b9] at hc
   rw [ax.qZ]
   split at hc
   ·rename_i e; rw [e]; exact h.ar.nk b _ hb
   ·exact h.ar.nk c v hc
 ·intro y hy hn ha
  by_cases A9:y=x
  ·subst A9; exact absurd (.inl qC) ha
  ·rcases hgy y A9 with e | ⟨_,g,k,rfl,h2⟩
   ·exact e
   ·exact absurd (.inr ⟨g,⟨b,v0,x,_,_,mf,_,_,k,hb,hx,jz⟩,h2⟩) ha
 ·rcases q with q | ⟨g,h1,h2⟩
  ·exact .inl (Ka y q)
  ·exact .inr ⟨g,aed g h1,by rw [kJ] at h2; exact h2⟩
 ·intro y hy oq e own Qe hr
  by_cases A9:y=x
  ·exact Yq y (by rw [A9]; exact qC) oq e own Qe hr
  ·rcases hgy y A9 with e1 | ⟨e1,_⟩
   ·exact ⟨oq,by rw [← e1]; exact hr,rfl⟩
   ·rw [e1] at hr; simp at hr
theorem ahK {t:TypeId} : agN P (PT P t) (DS P t):=by
 intro E A A' B vs us v h hv hg
 unfold PT at hg
 split at hg
 ·rename_i b off x
  obtain ⟨y,z,rfl,h1,h2⟩:=hv.kS
  obtain ⟨c,hx,rfl⟩:=h1.iL
  obtain ⟨hc,hg⟩:=hg.cond
  simp only [Bool.and_eq_true,decide_eq_true_eq] at hc
  obtain ⟨fq,ho⟩:=hc
  split at hg
  ·rename_i cs bW jz
   split at hg
   ·rename_i b8 hw
    have hg:(qS,A.put b (.row b8 bW))=(v,A'):=hg
    simp only [Prod.mk.injEq] at hg
    obtain ⟨rfl,rfl⟩:=hg
    obtain ⟨c',d,e1,e2,e3⟩:=h.row b cs bW jz
    rw [hx] at e1
    simp at e1
    subst e1
    have Ho:=h2.cells (wG ho)
    obtain ⟨r,e4,e5⟩:=bd.lh hw e3 Ho
    have o3:z.cells.toList.all scalar=true:=List.all_eq_true.2 (Ho.scalar ho)
    have aiX:some z.cells.size=size? P t:=by rw [← fq,J1 h2 (wG ho)]
    refine ⟨undef,B.put c (.row r bW true none),E,?_,.undef,ef.aks h ⟨_,_,jz⟩ hx ⟨d,e2,(iV e4).1.symm⟩ e5⟩
    simp [DS,storeAt,aiX,St.wY,dm,o3,e2,e4,St.eH]
   ·exact hg.elim
  ·exact hg.elim
 ·rename_i T Tc b i k x
  obtain ⟨y,z,rfl,h1,h2⟩:=hv.kS
  split at hg
  ·rename_i T' mk N es acc hA
   obtain ⟨hc,Yr⟩:=hg.cond
   clear hg
   simp only [Bool.and_eq_true,decide_eq_true_eq] at hc
   obtain ⟨⟨⟨hT,hTc⟩,A8⟩,fq⟩:=hc
   have:=Nat.eq_of_beq_eq_true hT
   subst this
   have:=Nat.eq_of_beq_eq_true hTc
   subst this
   split at Yr
   ·rename_i e2 he2
    have hg:(qS,A.put b (.arr (agB T N i es acc e2)))=(v,A'):=Yr
    simp only [Prod.mk.injEq] at hg
    obtain ⟨rfl,rfl⟩:=hg
    obtain ⟨c,L,N',h3,hw,hi,rfl⟩:=h1.D8
    obtain ⟨T2,N2,o4,fT,PK,ht,h1s,vW⟩:=h.ar.arr b _ hA
    simp only [KV.ts.injEq] at PK
    obtain ⟨rfl,rfl,rfl,rfl,rfl⟩:=PK
    rcases vW with ⟨_,h4⟩ | ⟨c',cs,bQ,bq,h4,h5,h6,h7⟩
    ·rw [h3] at h4; simp at h4
    rw [h3] at h4
    simp only [Option.some.injEq,Prod.mk.injEq] at h4
    obtain ⟨rfl,rfl,rfl⟩:=h4
    have bU:i < es.length:=by rw [← ht.len]; exact hi
    have hei:es[i]? = some (acc i):=by rw [ht.acc i hi]; simp [List.getD,bU]
    obtain ⟨u,h8,h9⟩:=h6.get hei
    obtain ⟨hsu,oj⟩:=h7 i u h8
    rw [Nat.zero_add] at oj
    have hvn:=h2.gm (l:=bw P Tc)
    obtain ⟨u2,p1,p2,p3,p4,p5,p6⟩:=ahI (T:=T) (t:=Tc) hw (ke ht.typed hei) h9 A8 hvn he2
    obtain ⟨lF,w1,w2,w3⟩:=ahJ h7 h8 hsu p6 p5 p3
    have iM:=ef.agR (lo:=i * bg P T+k) (hi:=i * bg P T+k+z.cells.toList.length) h ⟨_,hA⟩ h3 h5 (iV w1).1 h1s (afT ht hi p2) (bq:=bq.set i u2) (Ot p1 i h6) w2
    obtain ⟨FG,hk2⟩:=iz A8
    have o3:z.cells.toList.all scalar=true:=List.all_eq_true.2 ((hvn.cells hk2).scalar (Ci FG))
    have hzs:some z.cells.size=size? P Tc:=by
     rw [fq,← qb FG]
     exact congrArg some (J1 hvn hk2)
    refine ⟨undef,_,E,?_,.undef,iM⟩
    simp [DS,storeAt,hzs,St.wY,dm,o3,h5,w1]
   ·exact Yr.elim
  ·exact hg.elim
 ·exact hg.elim
end Go.K
end
section
namespace Go.K
open Go Go.aE
variable {P:Program} {E:Env}
def Env.B6 (E:Env) (b:Nat) (p:Nat×Nat×Nat):Env:={ E with α:=fun c=>if c=b then some p else E.α c }
theorem Env.aiY {A:ax} {B:St} {p:Nat×Nat×Nat} (h:fK P E A B):E.le (E.B6 A.next p):=⟨fun b q e=>by
 have:=h.ar.lE b q e
 simp only [Env.B6]; rw [if_neg (by omega)]; exact e,fun _ _ e=>e,fun _ _ e=>e,fun _ _ e=>e⟩
theorem Env.zZ {b:Nat} {p:Nat×Nat×Nat} : (E.B6 b p).α b=some p:=by simp [Env.B6]
theorem Env.F3 {b c:Nat} {p:Nat×Nat×Nat} (h:c≠b):(E.B6 b p).α c=E.α c:=by simp [Env.B6,h]
theorem ef.Qf {A A1:ax} {B B' : St} {X G:Nat→Prop} {y2 N2:Nat} {T:TypeId} {o4:List KV} {fT:Nat→KV} {BZ lF:List Value} {ra:Option (Nat×Nat)} (h:fK P E A B)
  (sk:A1.next=A.next) (HL:∀ c o,A1.get c=some o→A.get c=some o∨(o = .dead∧c < A.next))
  (f1:∀ c v,A1.get c=some (.arr v)→∀ y L N,E.α c=some (y,L,N)→¬ X y∧∀ cs e own g k,B.get y=some (.row cs e own (some (g,k)))→¬ G g)
  (f2:∀ y,X y→AR A E y) (f3:∀ g,G g→AF A E B g∧g < B.next∧(∀ f,E.φ f≠some g)∧∀ y∈B.members g,¬ X y→E.z y=none∧¬ AR A E y∧∀ c,E.κ c≠some y)
  (n1:X y2∨B.next≤y2) (n1' : y2 < B'.next) (aee:B'.get y2=some (.row lF (bg P T) true ra)) (n2:∀ g k,ra=some (g,k)→G g∨(B.next≤g∧g < B'.next))
  (b1:∀ y,y < B.next→¬ X y→B'.get y=B.get y∨(B'.get y=some .dead∧∃ g,G g∧y∈B.members g))
  (b2:∀ y,X y→∀ cs e own bQ,B'.get y=some (.row cs e own bQ)→∃ c,B.get y=some (.row c e own bQ)∧c.length=cs.length)
  (b3:∀ q y,y∈B'.members q→y∈B.members q∨(y=y2∧B.next≤y2∧∃ k,ra=some (q,k))) (b3' : ∀ q,(∀ k,ra≠some (q,k))→B'.members q=B.members q)
  (b4:B.next≤B'.next) (b4' : ∀ g,B'.next≤g→B'.members g = []) (al8:∀ g y,y∈B'.members g→y < B'.next)
  (fq:1≤bg P T) (ht:iX P T N2 o4 fT) (J8:bd P E o4 BZ) (hl:od (bg P T) 0 lF BZ) :
  ef P E A B (E.B6 A.next (y2,lF.length,N2)) (A1.new (.arr (.ts T .any N2 o4 fT))) B':=by
 have hle:=Env.aiY (p:=(y2,lF.length,N2)) h
 have aiZ:E.α A.next=none:=by
  cases hq:E.α A.next with
  | none=>rfl
  | some p=>have:=h.ar.lE _ p hq; omega
 have hXlt:∀ y,X y→y < B.next:=fun y hy=>h.D9 (f2 y hy)
 have J9:∀ y,y < B.next→¬ X y→(E.z y≠none∨AR A E y∨∃ c,E.κ c=some y)→B'.get y=B.get y:=by
  intro y bU hy hs
  rcases b1 y bU hy with e | ⟨_,g,hg,h2⟩
  ·exact e
  ·obtain ⟨_,_,_,h3⟩:=f3 g hg
   obtain ⟨h4,h5,h6⟩:=h3 y h2 hy
   rcases hs with hs | hs | ⟨c,hs⟩
   ·exact absurd h4 hs
   ·exact absurd hs h5
   ·exact absurd hs (h6 c)
 have hXz:∀ y,X y→E.z y=none∧∀ c,E.κ c≠some y:=fun y hy=>h.ar.z y (f2 y hy)
 have jV:∀ c o,(A1.new (.arr (.ts T .any N2 o4 fT))).get c=some o→(c=A.next∧o = .arr (.ts T .any N2 o4 fT))∨(c≠A.next∧A1.get c=some o):=fun c o hc=>by
  rw [ax.du,sk] at hc
  split at hc
  ·rename_i e; simp at hc; exact .inl ⟨e,hc.symm⟩
  ·rename_i e; exact .inr ⟨e,hc⟩
 have hold:∀ c o,A1.get c=some o→o≠.dead→A.get c=some o:=fun c o hc hd=>by
  rcases HL c o hc with e | ⟨e,_⟩
  ·exact e
  ·exact absurd e hd
 have uy:∀ c v,(A1.new (.arr (.ts T .any N2 o4 fT))).get c=some (.arr v)→(c=A.next∧v = .ts T .any N2 o4 fT∧(E.B6 A.next (y2,lF.length,N2)).α c=some (y2,lF.length,N2))∨(c≠A.next∧A1.get c=some (.arr v)∧A.get c=some (.arr v)∧(E.B6 A.next (y2,lF.length,N2)).α c=E.α c):=fun c v hc=>by
  rcases jV c _ hc with ⟨e,e2⟩ | ⟨e,e2⟩
  ·simp at e2
   exact .inl ⟨e,e2,by rw [e]; exact Env.zZ⟩
  ·exact .inr ⟨e,e2,hold c _ e2 (by simp),Env.F3 e⟩
 have Cm:∀ c v y L N,A1.get c=some (.arr v)→E.α c=some (y,L,N)→AR A E y∧¬ X y∧y < B.next∧B'.get y=B.get y:=fun c v y L N h1 h2=>by
  have h3:AR A E y:=⟨c,v,L,N,hold c _ h1 (by simp),h2⟩
  obtain ⟨h4,_⟩:=f1 c v h1 y L N h2
  have h5:=h.D9 h3
  exact ⟨h3,h4,h5,J9 y h5 h4 (.inr (.inl h3))⟩
 have Ka:∀ y,AR (A1.new (.arr (.ts T .any N2 o4 fT))) (E.B6 A.next (y2,lF.length,N2)) y→y=y2∨(AR A E y∧¬ X y):=fun y q=>by
  obtain ⟨c,v,L,M,h1,h2⟩:=q
  rcases uy c v h1 with ⟨_,_,e⟩ | ⟨_,e1,e2,e⟩
  ·rw [e] at h2; simp at h2; exact .inl h2.1.symm
  ·rw [e] at h2
   obtain ⟨h3,h4,_⟩:=Cm c v y L M e1 h2
   exact .inr ⟨h3,h4⟩
 have ai0:∀ y,y=y2→AR A E y∨B.next≤y:=fun y e=>by
  subst e
  exact n1.imp (f2 y) id
 have aed:∀ g,AF (A1.new (.arr (.ts T .any N2 o4 fT))) (E.B6 A.next (y2,lF.length,N2)) B' g→(∃ k,ra=some (g,k))∨(AF A E B g∧¬ G g∧g < B.next):=fun g q=>by
  obtain ⟨c,v,y,L,M,oq,e,own,k,h1,h2,h3⟩:=q
  rcases uy c v h1 with ⟨_,_,e⟩ | ⟨_,e1,e2,e⟩
  ·rw [e] at h2
   simp at h2
   rw [← h2.1,aee] at h3
   simp at h3
   exact .inl ⟨k,h3.2.2.2⟩
  ·rw [e] at h2
   obtain ⟨_,_,_,h4⟩:=Cm c v y L M e1 h2
   rw [h4] at h3
   refine .inr ⟨⟨c,v,y,L,M,oq,_,own,k,e2,h2,h3⟩,(f1 c v e1 y L M h2).2 _ _ _ _ _ h3,(h.ar.rV c v y L M _ _ _ g k e2 h2 h3).1⟩
 have akY:∀ g,(∃ k,ra=some (g,k))→AF A E B g∨B.next≤g:=fun g ⟨k,e⟩=>by
  rcases n2 g k e with hg | ⟨hg,_⟩
  ·exact .inl (f3 g hg).1
  ·exact .inr hg
 refine ⟨⟨?_,?_,?_,h.apart,h.inj,?_,fun b x e=>by rw [ax.cq,sk]; have:=h.lE b x e; omega,fun b g e=>by rw [ax.cq,sk]; have:=h.na b g e; omega,?_,fun b x e=>by have:=h.gV b x e; omega,fun b r e=>by have:=h.nm b r e; omega,fun b g e=>by have:=h.kd b g e; omega,b4',al8,?_⟩,hle,by rw [ax.cq,sk]; omega,?_,fun _ _ e=>.inl e,fun _ _ e=>.inl e,fun _ _ e=>.inl e,?_,fun y q=>?_,fun g q=>?_,fun g y q=>?_,fun y q=>?_,?_⟩
 ·intro c oq bW hc
  rcases jV c _ hc with ⟨_,e⟩ | ⟨_,e⟩
  ·simp at e
  ·obtain ⟨y,c1,h1,h2,h3⟩:=h.row c oq bW (hold c _ e (by simp))
   have hy : ¬ X y:=fun e=>(hXz y e).2 c h1
   exact ⟨y,c1,h1,by rw [J9 y (h.gV c y h1) hy (.inr (.inr ⟨c,h1⟩))]; exact h2,h3.mono hle⟩
 ·intro c top C5 hc
  rcases jV c _ hc with ⟨_,e⟩ | ⟨_,e⟩
  ·simp at e
  ·rcases h.bf c top C5 (hold c _ e (by simp)) with h1 | ⟨g,h1,h2,h3⟩
   ·exact .inl h1
   ·refine .inr ⟨g,h1,h2,fun y hy oq e own f k hr=>?_⟩
    have hgG:∀ k,ra≠some (g,k):=fun k e=>by
     rcases n2 g k e with hg | ⟨hg,_⟩
     ·exact (f3 g hg).2.2.1 c h1
     ·have:=h.kd c g h1; omega
    rw [b3' g hgG] at hy
    have bU:=h.mem g y hy
    by_cases A9:X y
    ·obtain ⟨c0,h4,h5⟩:=b2 y A9 _ _ _ _ hr
     obtain ⟨h6,h7⟩:=h3 y hy c0 _ _ f k h4
     exact ⟨h6,by rw [← h5]; exact h7⟩
    ·rcases b1 y bU A9 with e1 | ⟨e1,_⟩
     ·rw [e1] at hr; exact h3 y hy oq _ own f k hr
     ·rw [e1] at hr; simp at hr
 ·intro y r hy
  have hy:E.z y=some r:=hy
  have A9 : ¬ X y:=fun e=>by have:=(hXz y e).1; rw [hy] at this; simp at this
  rw [J9 y (h.nm y r hy) A9 (.inl (by rw [hy]; simp))]
  exact h.z y r hy
 ·intro b c g tb sb tc sc hb hc e1 e2
  rcases jV b _ hb with ⟨_,e⟩ | ⟨_,hb⟩
  ·simp at e
  rcases jV c _ hc with ⟨_,e⟩ | ⟨_,hc⟩
  ·simp at e
  exact h.jJ b c g _ _ _ _ (hold b _ hb (by simp)) (hold c _ hc (by simp)) e1 e2
 ·intro c o hc
  rw [ax.cq,sk]
  rcases jV c _ hc with ⟨e,_⟩ | ⟨_,e⟩
  ·omega
  ·rcases HL c o e with e | ⟨_,e⟩
   ·have:=h.live c o e; omega
   ·omega
 ·refine ⟨?_,?_,?_,?_,?_,?_,?_,?_,?_,?_⟩
  ·intro c v hc
   rcases uy c v hc with ⟨_,rfl,e⟩ | ⟨_,e1,e2,e⟩
   ·exact ⟨T,N2,o4,fT,rfl,ht,fq,.inr ⟨y2,lF,ra,BZ,e,aee,J8.mono hle,hl⟩⟩
   ·exact (h.ar.arr c v e2).mono hle e fun y L M hy=>(Cm c v y L M e1 hy).2.2.2
  ·intro c v hc
   rcases jV c _ hc with ⟨_,e⟩ | ⟨en,e⟩
   ·simp at e
   ·exact (h.ar.jH c v (hold c _ e (by simp))).mono hle (Env.F3 en)
  ·intro y q
   rcases Ka y q with e | ⟨e,_⟩
   ·subst e
    rcases n1 with hx | hx
    ·exact hXz y hx
    ·refine ⟨?_,fun c e=>by have:=h.gV c y e; omega⟩
     cases hz:E.z y with
     | none=>exact hz
     | some r=>have:=h.nm y r hz; omega
   ·exact h.ar.z y e
  ·intro c d v u y L M L' M' h1 h2 h3 h4
   rcases uy c v h1 with ⟨e1,_,e⟩ | ⟨_,p1,p2,e⟩ <;> rcases uy d u h2 with ⟨e2,_,e'⟩ | ⟨_,q1,q2,e'⟩
   ·omega
   ·rw [e] at h3; rw [e'] at h4
    simp at h3
    obtain ⟨_,h5,h6,_⟩:=Cm d u y L' M' q1 h4
    rw [← h3.1] at h5 h6
    rcases n1 with hx | hx
    ·exact absurd hx h5
    ·omega
   ·rw [e] at h3; rw [e'] at h4
    simp at h4
    obtain ⟨_,h5,h6,_⟩:=Cm c v y L M p1 h3
    rw [← h4.1] at h5 h6
    rcases n1 with hx | hx
    ·exact absurd hx h5
    ·omega
   ·rw [e] at h3; rw [e'] at h4
    exact h.ar.inj c d v u y L M L' M' p2 q2 h3 h4
  ·intro c d v u y w L M L' M' oq e own g k cs3 e' o6 k' h1 h2 h3 h4 h5 h6
   have C7:∀ {c v y L M oq e own k k2},A1.get c=some (.arr v)→E.α c=some (y,L,M)→B'.get y=some (.row oq e own (some (g,k)))→ra=some (g,k2)→False:=by
    intro c v y L M oq e own k k2 q1 q2 q3 q4
    obtain ⟨r1,r2,r3,r4⟩:=Cm c v y L M q1 q2
    rw [r4] at q3
    rcases n2 g k2 q4 with hg | ⟨hg,_⟩
    ·exact (f1 c v q1 y L M q2).2 _ _ _ _ _ q3 hg
    ·have:=(h.ar.rV c v y L M _ _ _ g k (hold c _ q1 (by simp)) q2 q3).1; omega
   rcases uy c v h1 with ⟨e1,_,ea⟩ | ⟨_,p1,p2,ea⟩ <;> rcases uy d u h2 with ⟨e2,_,eb⟩ | ⟨_,q1,q2,eb⟩
   ·omega
   ·rw [ea] at h3; rw [eb] at h4
    simp at h3
    rw [← h3.1,aee] at h5
    simp at h5
    exact (C7 q1 h4 h6 h5.2.2.2).elim
   ·rw [ea] at h3; rw [eb] at h4
    simp at h4
    rw [← h4.1,aee] at h6
    simp at h6
    exact (C7 p1 h3 h5 h6.2.2.2).elim
   ·rw [ea] at h3; rw [eb] at h4
    rw [(Cm c v y L M p1 h3).2.2.2] at h5
    rw [(Cm d u w L' M' q1 h4).2.2.2] at h6
    exact h.ar.tu c d v u y w L M L' M' _ _ _ g k _ _ _ k' p2 q2 h3 h4 h5 h6
  ·intro b x e
   have hb:=h.lE b x e
   rw [Env.F3 (by omega)]
   exact h.ar.X6 b x e
  ·intro b p e
   rw [ax.cq,sk]
   by_cases hb:b=A.next
   ·omega
   ·rw [Env.F3 hb] at e; have:=h.ar.lE b p e; omega
  ·intro b x L N e
   by_cases hb:b=A.next
   ·subst hb; rw [Env.zZ] at e; simp at e; omega
   ·rw [Env.F3 hb] at e; have:=h.ar.gV b x L N e; omega
  ·intro c v y L M oq e own g k h1 h2 h3
   rcases uy c v h1 with ⟨_,_,ea⟩ | ⟨_,p1,p2,ea⟩
   ·rw [ea] at h2
    simp at h2
    obtain ⟨rfl,_⟩:=h2
    rw [aee] at h3
    simp at h3
    have hk:=h3.2.2.2
    refine ⟨?_,fun f e=>?_,fun z hz en=>?_⟩
    ·rcases n2 g k hk with hg | ⟨_,hg⟩
     ·have:=(f3 g hg).2.1; omega
     ·exact hg
    ·rcases n2 g k hk with hg | ⟨hg,_⟩
     ·exact (f3 g hg).2.2.1 f e
     ·have:=h.kd f g e; omega
    ·rcases b3 g z hz with hz | ⟨e,_⟩
     ·rcases n2 g k hk with hg | ⟨hg,_⟩
      ·by_cases agS:X z
       ·exact ⟨(hXz z agS).1,fun q=>by
         rcases Ka z q with e | ⟨_,e⟩
         ·exact en e
         ·exact e agS,(hXz z agS).2⟩
       ·obtain ⟨h7,h8,h9⟩:=(f3 g hg).2.2.2 z hz agS
        refine ⟨h7,fun q=>?_,h9⟩
        rcases Ka z q with e | ⟨e,_⟩
        ·exact en e
        ·exact h8 e
      ·rw [h.fresh g hg] at hz; simp at hz
     ·exact absurd e en
   ·rw [ea] at h2
    obtain ⟨r1,r2,r3,r4⟩:=Cm c v y L M p1 h2
    rw [r4] at h3
    obtain ⟨h4,h5,h6⟩:=h.ar.rV c v y L M _ _ _ g k p2 h2 h3
    refine ⟨by omega,h5,fun z hz en=>?_⟩
    have hnG:=(f1 c v p1 y L M h2).2 _ _ _ _ _ h3
    rw [b3' g (fun k e=>by
     rcases n2 g k e with hg | ⟨hg,_⟩
     ·exact hnG hg
     ·omega)] at hz
    obtain ⟨h7,h8,h9⟩:=h6 z hz en
    refine ⟨h7,fun q=>?_,h9⟩
    rcases Ka z q with e | ⟨e,_⟩
    ·subst e
     rcases n1 with hx | hx
     ·exact h8 (f2 z hx)
     ·have:=h.mem g z hz; omega
    ·exact h8 e
  ·intro c v hc
   rw [ax.cq,sk]
   rcases uy c v hc with ⟨e1,_,_⟩ | ⟨_,_,e2,_⟩
   ·subst e1
    refine ⟨Nat.lt_succ_self _,?_⟩
    show E.κ A.next=none
    cases hk:E.κ A.next with
    | none=>rfl
    | some x=>have:=h.lE _ x hk; omega
   ·obtain ⟨q1,q2⟩:=h.ar.nk c v e2
    exact ⟨by omega,q2⟩
 ·intro y hy hn ha
  by_cases A9:X y
  ·exact absurd (.inl (f2 y A9)) ha
  ·rcases b1 y hy A9 with e | ⟨_,g,hg,h2⟩
   ·exact e
   ·exact absurd (.inr ⟨g,(f3 g hg).1,h2⟩) ha
 ·intro g hg hn ha
  refine b3' g fun k e=>?_
  rcases n2 g k e with hg' | ⟨hg',_⟩
  ·exact ha (f3 g hg').1
  ·omega
 ·rcases Ka y q with e | ⟨e,_⟩
  ·exact ai0 y e
  ·exact .inl e
 ·rcases aed g q with e | ⟨e,_⟩
  ·exact akY g e
  ·exact .inl e
 ·rcases b3 g y q with e | ⟨e,e2,_⟩
  ·exact .inl e
  ·exact .inr (by omega)
 ·rcases q with q | ⟨g,h1,h2⟩
  ·rcases Ka y q with e | ⟨e,_⟩
   ·rcases ai0 y e with e | e
    ·exact .inl (.inl e)
    ·exact .inr e
   ·exact .inl (.inl e)
  ·rcases b3 g y h2 with e | ⟨e,e2,_⟩
   ·rcases aed g h1 with e1 | ⟨e1,_⟩
    ·rcases akY g e1 with e2 | e2
     ·exact .inl (.inr ⟨g,e2,e⟩)
     ·rw [h.fresh g e2] at e; simp at e
    ·exact .inl (.inr ⟨g,e1,e⟩)
   ·exact .inr (by omega)
 ·intro y hy oq e own Qe hr
  by_cases A9:X y
  ·exact b2 y A9 oq e own Qe hr
  ·rcases b1 y hy A9 with e1 | ⟨e1,_⟩
   ·exact ⟨oq,by rw [← e1]; exact hr,rfl⟩
   ·rw [e1] at hr; simp at hr
end Go.K
end
section
namespace Go.K
open Go Go.aE
variable {P:Program} {E:Env}
theorem ef.als {A:ax} {B:St} {c:List Value} {n:Nat} (h:fK P E A B):ef P E A B (E.gx B.next ⟨c,n,true,some (B.next,0)⟩) A (B.grow B.next 0 c n):=by
 have mZ:∀ x,(B.grow B.next 0 c n).get x=if x=B.next then some (.row c n true (some (B.next,0))) else B.get x:=fun x=>by simp [St.grow]
 have kJ:∀ q,(B.grow B.next 0 c n).members q=if q=B.next then B.next::B.members B.next else B.members q:=fun q=>by simp [St.grow,St.Aw]
 have iW:(B.grow B.next 0 c n).next=B.next+1:=rfl
 have hle:E.le (E.gx B.next ⟨c,n,true,some (B.next,0)⟩):=⟨fun _ _ e=>e,fun _ _ e=>e,fun b r e=>by
  have:=h.nm b r e
  simp only [Env.gx]; rw [if_neg (by omega)]; exact e,fun _ _ e=>e⟩
 generalize B.grow B.next 0 c n=B' at mZ kJ iW
 have xu:∀ x,x < B.next→B'.get x=B.get x:=fun x hx=>by rw [mZ,if_neg (by omega)]
 have HH:∀ b r,(E.gx B.next ⟨c,n,true,some (B.next,0)⟩).z b=some r→E.z b=some r∨B.next≤b:=fun b r e=>by
  simp only [Env.gx] at e
  split at e
  ·exact .inr (by omega)
  ·exact .inl e
 have VX:∀ q,AF A E B q→B'.members q=B.members q:=fun q hq=>by
  rw [kJ,if_neg]
  intro e2
  obtain ⟨b,v,x,L,N,cs,e,own,k,h1,h2,h3⟩:=hq
  obtain ⟨h4,h5,_⟩:=h.ar.rV b v x L N cs e own q k h1 h2 h3
  omega
 have afR:∀ q y,y∈B'.members q→y∈B.members q∨B.next≤y:=fun q y hy=>by
  rw [kJ] at hy
  split at hy
  ·rename_i e2
   subst e2
   rcases List.mem_cons.1 hy with hy | hy
   ·exact .inr (by omega)
   ·exact .inl hy
  ·exact .inl hy
 refine ⟨⟨?_,?_,?_,?_,h.inj,h.jJ,h.lE,h.na,h.live,?_,?_,?_,?_,?_,h.ar.mg hle (fun _=>rfl) (fun _ _ e=>e) (fun _ _ e=>e) (Nat.le_refl _) (by omega) (fun x q=>xu x (h.D9 q)) HH (fun _ _ e=>.inl e) (fun b q e=>.inl ⟨b,e⟩) VX h.mem⟩,hle,Nat.le_refl _,?_,fun b x e=>.inl e,fun b r e=>(HH b r e).imp id .inr,fun b q e=>.inl e,fun q hq hn _=>by rw [kJ,if_neg (by omega)],fun _ q=>.inl q,fun _ q=>.inl (q.of (fun _=>rfl) (fun _ _ e=>e) fun x q=>xu x (h.D9 q)),afR,fun _ q=>.inl (q.of (fun _=>rfl) (fun _ _ e=>e) (fun x q=>xu x (h.D9 q)) VX),nc xu⟩
 ·intro b mf J5 hb
  obtain ⟨x,d,h1,h2,h3⟩:=h.row b mf J5 hb
  have:=h.gV b x h1
  exact ⟨x,d,h1,by rw [mZ,if_neg (by omega)]; exact h2,h3.mono hle⟩
 ·intro b top C5 hb
  rcases h.bf b top C5 hb with h1 | ⟨g,h1,Yi,h2⟩
  ·exact .inl h1
  ·have hg:=h.kd b g h1
   refine .inr ⟨g,h1,Yi,fun x hx d e own f k hr=>?_⟩
   rw [kJ,if_neg (by omega)] at hx
   have:=h.mem g x hx
   rw [mZ,if_neg (by omega)] at hr
   exact h2 x hx d e own f k hr
 ·intro b r hb
  simp only [Env.gx] at hb
  rw [mZ]
  split at hb
  ·rename_i e; simp at hb; subst hb; rw [if_pos e]
  ·rename_i e; rw [if_neg e]; exact h.z b r hb
 ·intro b x hb
  have:=h.gV b x hb
  simp only [Env.gx]
  rw [if_neg (by omega)]
  exact h.apart b x hb
 ·intro b x hb; have:=h.gV b x hb; omega
 ·intro b r hb
  simp only [Env.gx] at hb
  rw [iW]
  split at hb
  ·omega
  ·have:=h.nm b r hb; omega
 ·intro b g hb; have:=h.kd b g hb; omega
 ·intro g hg
  rw [iW] at hg
  rw [kJ,if_neg (by omega)]
  exact h.fresh g (by omega)
 ·intro g x hx
  rw [iW]
  rw [kJ] at hx
  split at hx
  ·rcases List.mem_cons.1 hx with hx | hx
   ·omega
   ·have:=h.mem _ x hx; omega
  ·have:=h.mem g x hx; omega
 ·intro x hx _ _; rw [mZ,if_neg (by omega)]
theorem ef.after {A A1 A2:ax} {B B2:St} {E2:Env} (h:ef P E A B E A1 B) (k:ef P E A1 B E2 A2 B2):ef P E A B E2 A2 B2 where
 jr:=k.jr
 le:=k.le
 next:=Nat.le_trans h.next k.next
 mg x hx hn ha:=k.mg x hx hn fun q=>(h.nY x q).elim ha fun e=>by omega
 new:=k.new
 sR b r e:=by
  rcases k.sR b r e with e | e | e
  ·exact .inl e
  ·exact .inr (h.mQ b e)
  ·exact .inr (.inr e)
 sS:=k.sS
 pN g hg hn ha:=k.pN g hg hn fun q=>(h.nb g q).elim ha fun e=>by omega
 mQ x q:=(k.mQ x q).elim (h.mQ x) .inr
 nb g q:=(k.nb g q).elim (h.nb g) .inr
 uv:=k.uv
 nY y q:=(k.nY y q).elim (h.nY y) .inr
 rows:=k.rows
theorem ef.agT {A:ax} {B:St} {f t:Nat} (sz:Nat) (h:fK P E A B) {C5:Nat} (hA:A.get f=some (.bf t C5)) (ER:E.φ f=none):ef P E A B E (A.put f (.bf 0 sz)) B:=by
 have hAk:∀ (b:Nat) (v:KV),(A.put f (.bf 0 sz)).get b=some (.arr v)→A.get b=some (.arr v):=fun b v hb=>by
  rw [ax.b9] at hb
  split at hb
  ·simp at hb
  ·exact hb
 have Yh:∀ (b:Nat) (v:KV),(A.put f (.bf 0 sz)).get b=some (.jH v)→A.get b=some (.jH v):=fun b v hb=>by
  rw [ax.b9] at hb
  split at hb
  ·simp at hb
  ·exact hb
 refine ⟨⟨fun b cs bW hb=>?_,fun b top C5 hb=>?_,h.z,h.apart,h.inj,h.jJ.put (.inr ER),h.lE,h.na,fun b o hb=>?_,h.gV,h.nm,h.kd,h.fresh,h.mem,h.ar.mg (Env.le_refl _) (fun _=>rfl) hAk Yh (Nat.le_refl _) (Nat.le_refl _) (fun _ _=>rfl) (fun _ _ e=>.inl e) (fun _ _ e=>.inl e) (fun b g e=>.inl ⟨b,e⟩) (fun _ _=>rfl) h.mem⟩,Env.le_refl _,Nat.le_refl _,fun _ _ _ _=>rfl,fun _ _ e=>.inl e,fun _ _ e=>.inl e,fun _ _ e=>.inl e,fun _ _ _ _=>rfl,fun _ q=>.inl (q.of (fun _=>rfl) hAk),fun _ q=>.inl (q.of (fun _=>rfl) hAk fun _ _=>rfl),fun _ _ q=>.inl q,fun _ q=>.inl (q.of (fun _=>rfl) hAk (fun _ _=>rfl) fun _ _=>rfl),nc fun _ _=>rfl⟩
 ·rw [ax.b9] at hb
  split at hb
  ·simp at hb
  ·exact h.row b cs bW hb
 ·rw [ax.b9] at hb
  split at hb
  ·rename_i e2; simp at hb; exact .inl ⟨hb.1.symm,by rw [e2]; exact ER⟩
  ·exact h.bf b top C5 hb
 ·rw [ax.b9] at hb
  split at hb
  ·rename_i e2; rw [e2]; exact h.live f _ hA
  ·exact h.live b o hb
theorem ai1 {t:TypeId} (hu:P.underlying t=some (.int .u8)):bw P t=⟨false,[.int .u8]⟩:=by
 unfold bw
 rw [lay,hu]
 rfl
theorem acF {e:TypeId} (he:isByte P e=true):akT P (Oe e) Hj:=by
 intro E A B vs us v h hv hg
 unfold Oe at hg
 split at hg
 ·rename_i s
  obtain ⟨u,rfl,h1⟩:=hv.eX
  have:=h1.rl; subst this
  have hg:KV.ts e .any s.size _ _=v:=hg
  subst hg
  have hu:P.underlying e=some (.int .u8):=by
   unfold isByte at he
   split at he
   ·assumption
   ·simp at he
  have akZ:bw P e=⟨false,[.int .u8]⟩:=ai1 hu
  refine ⟨_,_,_,rfl,?_,ef.als h⟩
  simp only [VK]
  have fq:bg P e=1:=by unfold bg; rw [akZ]; rfl
  refine ⟨⟨by simp,fun i hi=>?_,?_⟩,kO s.data.toList,?_,some ⟨B.next,0,none⟩,s.size,rfl,Nat.le_refl _,.inr ⟨B.next,0,⟨kO s.data.toList,1,true,some (B.next,0)⟩,rfl,by simp [Env.gx],fq.symm,?_⟩,trivial⟩
  ·have Pu:i < s.data.toList.length:=by simpa using hi
   simp only [List.getD,List.getElem?_map,List.getElem?_eq_getElem Pu,Option.map_some,Option.getD_some]
  ·rw [akZ]
   induction s.data.toList with
   | nil=>rfl
   | cons b l ih=>simp [fO,dx,aF,kindOk,ih]
  ·generalize E.gx B.next _=E'
   induction s.data.toList with
   | nil=>exact .nil
   | cons b l ih=>exact .cons .mkInt ih
  ·rw [fq]
   intro i x hx
   obtain ⟨b,_,rfl⟩:∃ b,s.data.toList[i]? = some b∧x = .int .u8 b.toNat:=by
    simp only [kO,List.getElem?_map,Option.map_eq_some_iff] at hx
    obtain ⟨b,h1,h2⟩:=hx
    exact ⟨b,h1,h2.symm⟩
   refine ⟨rfl,fun k y hy=>?_⟩
   have hk:k=0:=by
    have:=(Array.getElem?_eq_some_iff.1 hy).1
    simp [Value.cells] at this
    exact this
   subst hk
   simp [Value.cells] at hy
   subst hy
   simpa using hx
 ·exact hg.elim
theorem HM {B:St} {b off n sz:Nat} {r:adY} {bq:List Value} (hr:B.get b=some (.row r.cs r.bW r.own r.bQ)) (hl:od sz off r.cs bq) (hn:bq.length=n) (fq:1≤sz) :
  B.vT ⟨b,off,none⟩ (n * sz)=some (bH bq):=by
 have hs:∀ v∈bq,v.cells.size=sz:=fun v hv=>by
  obtain ⟨i,hi⟩:=List.getElem?_of_mem hv
  exact (hl i v hi).1
 have hlen:=js hs
 have FE:=mK hs
 have oj:∀ j,j < n * sz→r.cs[off+j]? = (bH bq)[j]?:=by
  intro j hj
  have hi:j / sz < bq.length:=by rw [hn]; exact Nat.div_lt_of_lt_mul (by rw [Nat.mul_comm]; exact hj)
  have hv:bq[j / sz]? = some bq[j / sz]:=List.getElem?_eq_getElem hi
  have hk:j % sz < bq[j / sz].cells.size:=by rw [hs _ (List.getElem_mem hi)]; exact Nat.mod_lt _ fq
  have hy:bq[j / sz].cells[j % sz]? = some (bq[j / sz].cells[j % sz]):=by simp [hk]
  have h1:=(hl _ _ hv).2 _ _ hy
  have h2:=(FE _ _ hv).2 _ _ hy
  have HN:j / sz * sz+j % sz=j:=by rw [Nat.mul_comm]; exact Nat.div_add_mod j sz
  rw [Nat.add_assoc,HN] at h1
  rw [Nat.zero_add,HN] at h2
  rw [h1,h2]
 simp only [St.vT,dm,Option.isNone_none,cond_true,xW,hr,Option.bind_some]
 rw [hn] at hlen
 have hle:n * sz≤(r.cs.drop off).length:=by
  cases hm:n * sz with
  | zero=>omega
  | succ q=>
   have:=oj q (by omega)
   rw [List.getElem?_eq_getElem (show q < (bH bq).length by omega)] at this
   have h7:=(List.getElem?_eq_some_iff.1 this).1
   rw [List.length_drop]
   omega
 rw [qY,FZ hle]
 congr 1
 apply List.ext_getElem?
 intro i
 rw [List.getElem?_take]
 split
 ·rename_i hi
  rw [List.getElem?_drop]
  exact oj i hi
 ·exact (List.getElem?_eq_none_iff.2 (by omega)).symm
theorem Ys {T:TypeId} {m:Mk} {n:Nat} {es:List KV} {acc:Nat→KV} {u:Value} {A:ax} {B:St} (h:fK P E A B) (hv:VK P E (.ts T m n es acc) u) (fq:1≤bg P T) :
  ∃ bq,bd P E es bq∧UM u=some n∧uY B (bg P T) n u=some (bH bq)∧(∀ v∈bq,v.cells.size=bg P T)∧bq.length=n∧es.length=n∧fO (bw P T) es=true:=by
 obtain ⟨ht,bq,h1,a,cap,rfl,h2,h3,_⟩:=hv.mm
 have hlen:=ht.len
 have r5:bq.length=n:=by rw [h1.length]; exact hlen.symm
 have hs:=ou ht.typed h1
 refine ⟨bq,h1,rfl,?_,fun v hv=>(hs v hv).1,r5,hlen.symm,ht.typed⟩
 rcases h3 with ⟨rfl,h0⟩ | ⟨b,off,r,rfl,h4,h5,h6⟩
 ·have:bq = []:=List.length_eq_zero_iff.1 (by omega)
  subst this
  simp [uY,h0,bH]
 ·exact HM (h.z b r h4) h6 r5 fq
theorem iX.join {T:TypeId} {n m:Nat} {es fs:List KV} {f g:Nat→KV} (h:iX P T n es f) (k:iX P T m fs g):iX P T (n+m) (es++fs) (fw n f g) where
 len:=by rw [List.length_append,← h.len,← k.len]
 acc i hi:=by
  unfold fw
  by_cases hn:i < n
  ·have:Nat.blt i n=true:=by rw [Nat.blt_eq]; exact hn
   rw [this,cond_true,h.acc i hn,List.getD_eq_getElem?_getD,List.getD_eq_getElem?_getD,List.getElem?_append_left (by rw [← h.len]; exact hn)]
  ·have:Nat.blt i n=false:=by
    cases hb:Nat.blt i n with
    | false=>rfl
    | true=>rw [Nat.blt_eq] at hb; omega
   rw [this,cond_false,k.acc (i - n) (by omega),List.getD_eq_getElem?_getD,List.getD_eq_getElem?_getD,List.getElem?_append_right (by rw [← h.len]; omega),← h.len]
 typed:=IJ h.typed k.typed
theorem iX.none {T:TypeId} {g:Nat→KV} : iX P T 0 [] g:=⟨rfl,fun i h=>by omega,rfl⟩
structure Src (P:Program) (E:Env) (B:St) (T:TypeId) (n:Nat) (es:List KV) (acc:Nat→KV) (u:Value) (bq:List Value):Prop where
 tree:iX P T n es acc
 rel:bd P E es bq
 len:UM u=some n
 size:∀ v∈bq,v.cells.size=bg P T
 length:bq.length=n
 first:∀ k,k≤n→uY B (bg P T) k u=some (bH (bq.take k))
theorem Src.all {B:St} {T:TypeId} {n:Nat} {es:List KV} {acc:Nat→KV} {u:Value} {bq:List Value} (h:Src P E B T n es acc u bq):uY B (bg P T) n u=some (bH bq):=by
 rw [h.first n (Nat.le_refl _),List.take_of_length_le (Nat.le_of_eq h.length)]
theorem od.take {sz off:Nat} {cs es:List Value} (h:od sz off cs es) (k:Nat):od sz off cs (es.take k):=fun i x hi=>h i x (by
 rw [List.getElem?_take] at hi
 split at hi
 ·exact hi
 ·simp at hi)
theorem od.drop {sz off:Nat} {cs es:List Value} (h:od sz off cs es) (o:Nat):od sz (off+o * sz) cs (es.drop o):=fun i x hi=>by
 rw [List.getElem?_drop] at hi
 obtain ⟨h1,h2⟩:=h (o+i) x hi
 refine ⟨h1,fun k y hy=>?_⟩
 rw [← h2 k y hy,Nat.add_mul]
 congr 1
 omega
theorem akx {T:TypeId} {m:Mk} {n:Nat} {es:List KV} {acc:Nat→KV} {u:Value} {A:ax} {B:St} (h:fK P E A B) (hv:VK P E (.ts T m n es acc) u) (fq:1≤bg P T):∃ bq,Src P E B T n es acc u bq:=by
 obtain ⟨ht,bq,h1,a,cap,rfl,h2,h3,_⟩:=hv.mm
 have r5:bq.length=n:=by rw [h1.length]; exact ht.len.symm
 have hs:=ou ht.typed h1
 refine ⟨bq,ht,h1,rfl,fun v hv=>(hs v hv).1,r5,fun k hk=>?_⟩
 rcases h3 with ⟨rfl,h0⟩ | ⟨b,off,r,rfl,h4,h5,h6⟩
 ·have:bq = []:=List.length_eq_zero_iff.1 (by omega)
  subst this
  have:k=0:=by omega
  subst this
  simp [uY,bH]
 ·exact HM (h.z b r h4) (h6.take k) (by rw [List.length_take]; omega) fq
theorem aky {T:TypeId} {m:Mk} {b o n N:Nat} {es:List KV} {acc:Nat→KV} {u:Value} {A:ax} {B:St} (h:fK P E A B) (hv:VK P E (.al T b o n) u) (ha:EN A b=some (.ts T m N es acc)) (fq:1≤bg P T) :
  ∃ bq,Src P E B T n ((es.drop o).take n) (fun i=>acc (o+i)) u bq:=by
 have row:∀ {x:Nat} {r:adY} {bq:List Value} {c:Nat},u = .slice (some ⟨x,o * bg P T,none⟩) n c→o+n≤N→iX P T N es acc→B.get x=some (.row r.cs r.bW r.own r.bQ)→bd P E es bq→od (bg P T) 0 r.cs bq→∃ bq,Src P E B T n ((es.drop o).take n) (fun i=>acc (o+i)) u bq:=by
  intro x r bq c hu hon ht hr J8 hl
  subst hu
  have afU:bq.length=N:=by rw [J8.length]; exact ht.len.symm
  have afV:((es.drop o).take n).length=n:=by rw [List.length_take,List.length_drop,← ht.len]; omega
  have ai2:((bq.drop o).take n).length=n:=by rw [List.length_take,List.length_drop,afU]; omega
  have hs:=ou ht.typed J8
  refine ⟨(bq.drop o).take n,⟨afV.symm,fun i hi=>?_,oD fun i x hi=>?_⟩,(J8.drop o).take n,rfl,fun v hv=>(hs v (List.mem_of_mem_drop (List.mem_of_mem_take hv))).1,ai2,fun k hk=>?_⟩
  ·rw [ht.acc (o+i) (by omega),List.getD_eq_getElem?_getD,List.getD_eq_getElem?_getD,List.getElem?_take,if_pos hi,List.getElem?_drop]
  ·rw [List.getElem?_take] at hi
   split at hi
   ·rw [List.getElem?_drop] at hi; exact ke ht.typed hi
   ·simp at hi
  ·have mH:=((hl.drop o).take n).take k
   rw [Nat.zero_add] at mH
   exact HM hr mH (by rw [List.length_take,ai2]; omega) fq
 rcases hv.vc with ⟨rfl,rfl,rfl⟩ | ⟨x,L,N0,c,h1,h2,h3,h4,h5⟩
 ·refine ⟨[],⟨by simp,fun i hi=>by omega,rfl⟩,by simpa using bd.nil,rfl,by simp,rfl,fun k hk=>?_⟩
  have:k=0:=by omega
  subst this
  simp [uY,bH]
 ·unfold EN at ha
  split at ha
  ·rename_i v hb
   simp only [Option.some.injEq] at ha
   subst ha
   obtain ⟨T2,N2,o4,fT,e,ht,_,vW⟩:=h.ar.arr b _ hb
   simp only [KV.ts.injEq] at e
   obtain ⟨rfl,rfl,rfl,rfl,rfl⟩:=e
   rcases vW with ⟨_,e⟩ | ⟨x2,cs,bQ,bq,e,h6,h7,h8⟩
   ·rw [h1] at e; simp at e
   ·rw [h1] at e
    simp only [Option.some.injEq,Prod.mk.injEq] at e
    obtain ⟨rfl,rfl,rfl⟩:=e
    exact row (r:=⟨cs,bg P T,true,bQ⟩) h2 h4 ht h6 h7 h8
  ·rename_i v hb
   simp only [Option.some.injEq] at ha
   subst ha
   obtain ⟨T2,N2,o4,fT,e,ht,_,vW⟩:=h.ar.jH b _ hb
   simp only [KV.ts.injEq] at e
   obtain ⟨rfl,rfl,rfl,rfl,rfl⟩:=e
   rcases vW with ⟨_,e⟩ | ⟨x2,r,bq,e,h6,h6',h7,h8⟩
   ·rw [h1] at e; simp at e
   ·rw [h1] at e
    simp only [Option.some.injEq,Prod.mk.injEq] at e
    obtain ⟨rfl,rfl,rfl⟩:=e
    exact row h2 h4 ht (h.z _ _ h6) h7 h8
  ·simp at ha
theorem agU {A:ax} {B:St} {y:KV} {u:Value} {T:TypeId} {m:Mk} {n:Nat} {es:List KV} {acc:Nat→KV} (h:fK P E A B) (hv:VK P E y u) (hs:JW A y=some (.ts T m n es acc)) (fq:1≤bg P T):∃ bq,Src P E B T n es acc u bq:=by
 unfold JW at hs
 split at hs
 ·rename_i T' b o k
  unfold acr at hs
  split at hs
  ·rename_i T2 _ _ o4 fT ha
   cases hb:Nat.beq T' T2 with
   | false=>rw [hb] at hs; simp at hs
   | true=>
    have:=Nat.eq_of_beq_eq_true hb
    subst this
    rw [hb,cond_true] at hs
    simp only [Option.some.injEq,KV.ts.injEq] at hs
    obtain ⟨rfl,rfl,rfl,rfl,rfl⟩:=hs
    exact aky h hv ha fq
  ·simp at hs
 ·simp only [Option.some.injEq,KV.ts.injEq] at hs
  obtain ⟨rfl,rfl,rfl,rfl,rfl⟩:=hs
  exact akx h hv fq
 ·simp at hs
theorem afW {e n b:Nat} (hn:bg P e=n) (h1n:1≤n) {E:Env} {A A' : ax} {B:St} {x v:KV} {u w:Value} {e' : TypeId} {mk:Mk} {k:Nat} {new:List KV} {acc:Nat→KV} (h:fK P E A B) (h1:VK P E x u)
  (hsr:Nat.beq e e' = true→∃ bq,Src P E B e' k new acc w bq) (hg:aZ (JV e n b A [x,.ts e' mk k new acc]) (v,A')):∃ r B' E',ma n b B [u,w] = some (r,B')∧VK P E' v r∧ef P E A B E' A' B':=by
 have tv:1≤bg P e:=by omega
 have put:∀ (E1:Env) (A1:ax) (m f k:Nat) (base new:List KV) (ab an:Nat→KV) (more:Bool) (A2:ax) (v:KV),aZ (PV e n b m base ab A1 f k new an more) (v,A2)→
   (more=true∧Nat.ble ((m+k+512) * b) 17592186044416=true∧Nat.ble (m+k) 17592186044416=true∧(m=0∨0 < k))∧v = .ts e (.bf f) (m+k) (base++new) (fw m ab an)∧A2=A1.put f (.bf (m+k) n):=by
  intro E1 A1 m f k base new ab an more A2 v hp
  obtain ⟨hc,hp⟩:=aZ.lZ hp
  simp only [fI,Bool.and_eq_true] at hc
  simp only [Prod.mk.injEq] at hp
  refine ⟨⟨hc.1,hc.2.1.1,hc.2.1.2,?_⟩,hp.1.symm,hp.2.symm⟩
  have:=hc.2.2
  simp only [Bool.or_eq_true,Nat.blt_eq] at this
  exact this.symm.imp (fun h=>Nat.eq_of_beq_eq_true h) id
 unfold JV at hg
 split at hg
 ·
  rename_i e9 mk9 k9 agV agW heq
  simp only [List.cons.injEq,KV.ts.injEq,and_true] at heq
  obtain ⟨rfl,rfl,rfl,rfl,rfl,rfl⟩:=heq
  have:=h1.nX; subst this
  obtain ⟨he,HJ⟩:=hg.cond
  clear hg
  obtain ⟨cJ,kf⟩:=hsr he
  have:=Nat.eq_of_beq_eq_true he
  subst this
  obtain ⟨⟨_,zR,rb,ai3⟩,rfl,rfl⟩:=put E _ _ _ _ _ _ _ _ _ _ _ HJ
  have F4:=kf.tree
  have h3:=kf.rel
  have h4:=kf.len
  have h5:=kf.all
  have h6:=kf.size
  have h7:=kf.length
  have h8:=F4.len.symm
  rw [hn] at h5 h6
  have yz:=ef.agQ n h
  have hAf:(A.new (.bf 0 n)).get A.next=some (.bf 0 n):=by simp
  have ER:E.φ A.next=none:=by
   cases hq:E.φ A.next with
   | none=>rfl
   | some g=>have:=h.na _ g hq; omega
  cases k with
  | zero=>
   have m4:new = []:=List.length_eq_zero_iff.1 h8
   have Yt:cJ = []:=List.length_eq_zero_iff.1 h7
   subst m4 Yt
   refine ⟨.slice none 0 0,B,E,?_,?_,?_⟩
   ·simp only [ma,h4,Option.bind_some]
    rw [h5]
    rfl
   ·simp only [VK]
    exact ⟨⟨rfl,fun i hi=>by omega,rfl⟩,[],.nil,none,0,rfl,Nat.le_refl _,.inl ⟨rfl,rfl⟩,rfl,.inl ⟨rfl,rfl⟩⟩
   ·exact yz.after (ef.agT n yz.jr hAf ER)
  | succ k=>
   have Ta:=ef.grow (c:=bH cJ) (top:=0) (M4:=k+1) (sz:=n) (g:=B.next) (f:=A.next) yz.jr hAf (.inl ⟨ER,rfl⟩) (by rw [js h6,h7]) (by omega) (by omega)
   refine ⟨.slice (some ⟨B.next,0,none⟩) (k+1) (k+1),B.grow B.next 0 (bH cJ) n,_,?_,?_,yz.after (by simpa using Ta)⟩
   ·simp only [Nat.zero_add] at zR rb
    simp only [ma,h4,Option.bind_some,Nat.zero_add]
    rw [show Nat.ble (k+1) 0=false from rfl,cond_false,zR,rb,h5]
    rfl
   ·simp only [VK,Nat.zero_add,List.nil_append]
    have Yt:=h3.mono (Env.le_trans yz.le Ta.le)
    have hl:=mK h6
    refine ⟨by have:=iX.none (P:=P) (T:=e) (g:=ob) |>.join F4; simpa using this,cJ,Yt,_,_,rfl,Nat.le_refl _,.inr ⟨B.next,0,⟨bH cJ,n,true,some (B.next,0)⟩,rfl,by simp [Env.rp,Env.gx],hn.symm,by rw [hn]; exact hl⟩,rfl,.inr ⟨B.next,⟨bH cJ,n,true,some (B.next,0)⟩,B.next,rfl,by simp [Env.rp,Env.gx],rfl,by simp [Env.rp],rfl,?_⟩⟩
    rw [hn]
    simp only
    rw [js h6,h7]
 ·
  rename_i e1 m es ak0 e9 mk9 k9 agV agW heq
  simp only [List.cons.injEq,KV.ts.injEq,and_true] at heq
  obtain ⟨rfl,rfl,rfl,rfl,rfl,rfl⟩:=heq
  obtain ⟨he,HJ⟩:=hg.cond
  clear hg
  simp only [Bool.and_eq_true] at he
  obtain ⟨cJ,kf⟩:=hsr he.1
  have:=Nat.eq_of_beq_eq_true he.1
  subst this
  have:=Nat.eq_of_beq_eq_true he.2
  subst this
  obtain ⟨⟨hk,zR,rb,ai3⟩,rfl,rfl⟩:=put E _ _ _ _ _ _ _ _ _ _ _ HJ
  have hk:0 < k:=by rwa [Nat.blt_eq] at hk
  have vX:=h1.mm.1
  have F4:=kf.tree
  have h3:=kf.rel
  have h4:=kf.len
  have h5:=kf.all
  have h6:=kf.size
  have h7:=kf.length
  have h8:=F4.len.symm
  obtain ⟨qJ,h3b,h4b,h5b,h6b,h7b,h8b,h9b⟩:=Ys h h1 tv
  rw [hn] at h5 h6 h5b h6b
  obtain ⟨_,agA,um,a,cap,rfl,aiD,Yu,afX⟩:=h1.mm
  obtain ⟨rfl,VX⟩:=afX
  have yz:=ef.agQ n h
  have hAf:(A.new (.bf 0 n)).get A.next=some (.bf 0 n):=by simp
  have ER:E.φ A.next=none:=by
   cases hq:E.φ A.next with
   | none=>rfl
   | some g=>have:=h.na _ g hq; omega
  have hs:∀ v∈qJ++cJ,v.cells.size=n:=fun v hv=>by
   rcases List.mem_append.1 hv with hv | hv
   ·exact h6b v hv
   ·exact h6 v hv
  have hlen:(bH (qJ++cJ)).length=(cap+k) * n:=by rw [js hs,List.length_append,h7b,h7]
  have Ta:=ef.grow (c:=bH (qJ++cJ)) (top:=0) (M4:=cap+k) (sz:=n) (g:=B.next) (f:=A.next) yz.jr hAf (.inl ⟨ER,rfl⟩) hlen (by omega) (by omega)
  refine ⟨.slice (some ⟨B.next,0,none⟩) (cap+k) (cap+k),B.grow B.next 0 (bH (qJ++cJ)) n,_,?_,?_,yz.after Ta⟩
  ·simp only [ma,h4,Option.bind_some]
   have hnb:Nat.ble (cap+k) cap=false:=by
    cases hq:Nat.ble (cap+k) cap with
    | false=>rfl
    | true=>have:=Nat.le_of_ble_eq_true hq; omega
   rw [hnb,cond_false,zR,rb]
   rcases Yu with ⟨rfl,h0⟩ | ⟨b',off,r,rfl,hz,he2,mH⟩
   ·subst h0
    have:qJ = []:=List.length_eq_zero_iff.1 h7b
    subst this
    simp only [s6,Bool.true_and,Bool.and_self]
    rw [show Nat.beq 0 0=true from rfl,cond_true,h5]
    simp [CS]
   ·obtain ⟨r2,Bx,ho,agX,ak1⟩:=VX b' off rfl
    rw [hz] at Bx
    simp at Bx
    subst Bx
    have jz:=h.z b' r hz
    have hex:s6 B n cap (some ⟨b',off,none⟩)=true:=by
     simp only [s6,jz,agX]
     rw [hn] at ak1
     simp [ak1]
    rw [hex]
    simp only [Bool.and_self,cond_true,h5,Option.bind_some]
    simp only [uY] at h5b
    have PL:Nat.beq r.bW n=true:=by rw [he2,hn]; simp
    simp only [CS,dm,Option.isNone_none,cond_true,h5b,Option.bind_some,jz,PL,agX,ho]
    rw [← wH]
  ·simp only [VK]
   have zD:=(h3b.append h3).mono (Env.le_trans yz.le Ta.le)
   have hl:=mK hs
   refine ⟨vX.join F4,qJ++cJ,zD,_,_,rfl,Nat.le_refl _,.inr ⟨B.next,0,⟨bH (qJ++cJ),n,true,some (B.next,0)⟩,rfl,by simp [Env.rp,Env.gx],hn.symm,by rw [hn]; exact hl⟩,rfl,.inr ⟨B.next,⟨bH (qJ++cJ),n,true,some (B.next,0)⟩,B.next,rfl,by simp [Env.rp,Env.gx],rfl,by simp [Env.rp],rfl,?_⟩⟩
   rw [hn]
   exact hlen
 ·
  rename_i e1 f m es ak0 e9 mk9 k9 agV agW heq
  simp only [List.cons.injEq,KV.ts.injEq,and_true] at heq
  obtain ⟨rfl,rfl,rfl,rfl,rfl,rfl⟩:=heq
  split at hg
  ·rename_i top sz' Yv
   obtain ⟨he,HJ⟩:=hg.cond
   clear hg
   simp only [Bool.and_eq_true] at he
   obtain ⟨cJ,kf⟩:=hsr he.1.1
   have:=Nat.eq_of_beq_eq_true he.1.1
   subst this
   have:=Nat.eq_of_beq_eq_true he.1.2
   subst this
   have aiX:=Nat.eq_of_beq_eq_true he.2
   rw [aiX] at Yv
   obtain ⟨⟨Mq,zR,rb,ai3⟩,rfl,rfl⟩:=put E _ _ _ _ _ _ _ _ _ _ _ HJ
   have:=Nat.eq_of_beq_eq_true Mq
   subst this
   have vX:=h1.mm.1
   have F4:=kf.tree
   have h3:=kf.rel
   have h4:=kf.len
   have h5:=kf.all
   have h6:=kf.size
   have h7:=kf.length
   have h8:=F4.len.symm
   obtain ⟨qJ,h3b,h4b,h5b,h6b,h7b,h8b,h9b⟩:=Ys h h1 tv
   rw [hn] at h5 h6 h5b h6b
   obtain ⟨_,agA,um,a,cap,rfl,aiD,Yu,afX⟩:=h1.mm
   obtain ⟨rfl,VX⟩:=afX
   have hs:∀ v∈qJ++cJ,v.cells.size=n:=fun v hv=>by
    rcases List.mem_append.1 hv with hv | hv
    ·exact h6b v hv
    ·exact h6 v hv
   have hlen:(bH (qJ++cJ)).length=(cap+k) * n:=by rw [js hs,List.length_append,h7b,h7]
   have alu:=h3b.append h3
   have hl:=mK hs
   have fin:∀ (E2:Env) (x g:Nat),E.le E2→E2.z x=some ⟨bH (qJ++cJ),n,true,some (g,0)⟩→E2.φ f=some g→VK P E2 (.ts e (.bf f) (cap+k) (es++new) (fw cap ak0 acc)) (.slice (some ⟨x,0,none⟩) (cap+k) (cap+k)):=by
    intro E2 x g hle hzx al9
    simp only [VK]
    refine ⟨vX.join F4,qJ++cJ,alu.mono hle,_,_,rfl,Nat.le_refl _,.inr ⟨x,0,_,rfl,hzx,hn.symm,by rw [hn]; exact hl⟩,rfl,.inr ⟨x,_,g,rfl,hzx,rfl,al9,rfl,?_⟩⟩
    rw [hn]
    exact hlen
   rcases VX with ⟨rfl,rfl⟩ | ⟨b',r,g,rfl,hz,ho,ER,agX,hcl⟩
   ·
    have hold:es = []:=List.length_eq_zero_iff.1 h8b
    have acG:qJ = []:=List.length_eq_zero_iff.1 h7b
    subst hold acG
    have ER:E.φ f=none:=by
     rcases h.bf f 0 n Yv with ⟨_,CV⟩ | ⟨g2,_,CV,_⟩
     ·exact CV
     ·omega
    cases k with
    | zero=>
     have m4:new = []:=List.length_eq_zero_iff.1 h8
     have Yt:cJ = []:=List.length_eq_zero_iff.1 h7
     subst m4 Yt
     refine ⟨.slice none 0 0,B,E,?_,?_,ef.agT n h Yv ER⟩
     ·simp only [ma,h4,Option.bind_some]
      rw [h5]
      rfl
     ·simp only [VK]
      exact ⟨⟨rfl,fun i hi=>by omega,rfl⟩,[],.nil,none,0,rfl,Nat.le_refl _,.inl ⟨rfl,rfl⟩,rfl,.inl ⟨rfl,rfl⟩⟩
    | succ k=>
     have Ta:=ef.grow (c:=bH ([]++cJ)) (top:=0) (M4:=0+(k+1)) (sz:=n) (g:=B.next) (f:=f) h Yv (.inl ⟨ER,rfl⟩) hlen (by omega) (by omega)
     refine ⟨.slice (some ⟨B.next,0,none⟩) (0+(k+1)) (0+(k+1)),B.grow B.next 0 (bH ([]++cJ)) n,_,?_,fin _ B.next B.next Ta.le (by simp [Env.rp,Env.gx]) (by simp [Env.rp]),Ta⟩
     simp only [Nat.zero_add] at zR rb
     simp only [ma,h4,Option.bind_some,Nat.zero_add,List.nil_append]
     rw [show Nat.ble (k+1) 0=false from rfl,cond_false,zR,rb,h5]
     rfl
   ·
    have alv:0 < cap+k∧0 < k:=by
     rcases ai3 with h0 | h0
     ·subst h0
      rcases h.bf f 0 n Yv with ⟨_,CV⟩ | ⟨g2,_,CV,_⟩
      ·rw [ER] at CV; simp at CV
      ·omega
     ·exact ⟨by omega,h0⟩
    have jz:=h.z b' r hz
    rw [ho,agX] at jz
    have PL:r.bW=n:=by
     rcases Yu with ⟨h0,_⟩ | ⟨b2,ai4,r2,e2,Bx,he2,_⟩
     ·simp at h0
     ·simp at e2
      obtain ⟨rfl,rfl⟩:=e2
      rw [hz] at Bx
      simp at Bx
      subst Bx
      rw [he2,hn]
    have alw:B.kill B.next (0+(0+cap * n)) (0+(0+cap * n)+(bH cJ).length) (B.members g)=B:=by
     refine Yn fun y hy=>?_
     rcases h.bf f cap n Yv with ⟨_,CV⟩ | ⟨g2,CV,_,h3'⟩
     ·rw [ER] at CV; simp at CV
     ·rw [ER] at CV
      simp at CV
      subst CV
      cases hy2:B.get y with
      | none=>rfl
      | some o=>cases o with
       | row lF e2 DV ra=>
        cases ra with
        | none=>rfl
        | some p=>
         obtain ⟨f2,k2⟩:=p
         obtain ⟨rfl,hle2⟩:=h3' y hy lF e2 DV f2 k2 hy2
         simp only [qA,meets,Nat.zero_add]
         have:Nat.blt (cap * n) lF.length=false:=by
          cases hq:Nat.blt (cap * n) lF.length with
          | false=>rfl
          | true=>rw [Nat.blt_eq] at hq; omega
         rw [this,Bool.false_and]
       | _=>rfl
    have Ta:=ef.grow (c:=bH (qJ++cJ)) (top:=cap) (M4:=cap+k) (sz:=n) (g:=g) (f:=f) h Yv (.inr ER) hlen (by omega) alv.1
    refine ⟨.slice (some ⟨B.next,0,none⟩) (cap+k) (cap+k),B.grow g 0 (bH (qJ++cJ)) n,_,?_,fin _ B.next g Ta.le (by simp [Env.rp,Env.gx]) (by simp [Env.rp]),Ta⟩
    have hnb:Nat.ble (cap+k) cap=false:=by
     cases hq:Nat.ble (cap+k) cap with
     | false=>rfl
     | true=>have:=Nat.le_of_ble_eq_true hq; omega
    have hex:s6 B n cap (some ⟨b',0,none⟩)=true:=by simp only [s6,jz]
    simp only [ma,h4,Option.bind_some,hnb,cond_false,zR,rb,hex,Bool.and_self,cond_true,h5]
    simp only [uY] at h5b
    have ama:Nat.beq r.bW n=true:=by rw [PL]; simp
    simp only [CS,dm,Option.isNone_none,cond_true,h5b,Option.bind_some,jz,ama,alw,← wH]
  ·exact hg.elim
 ·exact hg.elim
end Go.K
end
