/- Part of the proof of ImageWins: a machine that runs the program's code over open terms, shown to be the model's, and the plain models of its functions. No conditions. -/
import Derived.Test.YtahhdndhkgbcjaaCp
section
namespace Go.K
open Go Go.aG
variable {P:Program} {E:Env}
theorem AR.of {E' : Env} {A A' : az} {x:Nat} (qf:∀ b,E'.α b=E.α b) (ha:∀ b v,A'.get b=some (.arr v)→A.get b=some (.arr v)) (h:AR A' E' x):AR A E x:=by
 obtain ⟨b,v,L,N,h1,h2⟩:=h
 exact ⟨b,v,L,N,ha _ _ h1,by rw [← qf]; exact h2⟩
theorem AF.of {E' : Env} {A A' : az} {B B' : St} {g:Nat} (qf:∀ b,E'.α b=E.α b) (ha:∀ b v,A'.get b=some (.arr v)→A.get b=some (.arr v)) (hB:∀ x,AR A E x→B'.get x=B.get x) (h:AF A' E' B' g):AF A E B g:=by
 obtain ⟨b,v,x,L,N,cs,e,own,k,h1,h2,h3⟩:=h
 have CQ:E.α b=some (x,L,N):=by rw [← qf]; exact h2
 exact ⟨b,v,x,L,N,cs,e,own,k,ha _ _ h1,CQ,by rw [← hB x ⟨b,v,L,N,ha _ _ h1,CQ⟩]; exact h3⟩
theorem AT.of {E' : Env} {A A' : az} {B B' : St} {y:Nat} (qf:∀ b,E'.α b=E.α b) (ha:∀ b v,A'.get b=some (.arr v)→A.get b=some (.arr v)) (hB:∀ x,AR A E x→B'.get x=B.get x) (hm:∀ g,AF A E B g→B'.members g=B.members g) (h:AT A' E' B' y):AT A E B y:=by
 rcases h with h | ⟨g,h1,h2⟩
 ·exact .inl (h.of qf ha)
 ·have:=h1.of qf ha hB
  exact .inr ⟨g,this,by rw [← hm g this]; exact h2⟩
theorem mZ {B B' : St} (h:∀ x,x < B.next→B'.get x=B.get x):∀ y,y < B.next→∀ cs e own bQ,B'.get y=some (.row cs e own bQ)→∃ ma,B.get y=some (.row ma e own bQ)∧ma.length=cs.length:=
 fun y hy cs _ _ _ q=>⟨cs,by rw [← h y hy]; exact q,rfl⟩
theorem Yz {B:St} {o:dh} : ∀ x,x < B.next→(B.new o).get x=B.get x:=fun x hx=>by rw [St.dt,if_neg (by omega)]
theorem HH.mb {E' : Env} {A A' : az} {B B' : St} (h:HH P E A B) (hle:E.le E') (qf:∀ b,E'.α b=E.α b) (ha:∀ b v,A'.get b=some (.arr v)→A.get b=some (.arr v)) (hf:∀ b v,A'.get b=some (.jK v)→A.get b=some (.jK v))
  (hn:A.next≤A'.next) (PY:B.next≤B'.next) (hB:∀ x,AR A E x→B'.get x=B.get x) (hz:∀ b r,E'.z b=some r→E.z b=some r∨B.next≤b) (DI:∀ b x,E'.κ b=some x→E.κ b=some x∨(A.next≤b∧B.next≤x))
  (EO:∀ b g,E'.φ b=some g→(∃ c,E.φ c=some g)∨B.next≤g) (hm:∀ g,AF A E B g→B'.members g=B.members g) (mem:∀ g x,x∈B.members g→x < B.next):HH P E' A' B' where
 arr b v hb:=(h.arr b v (ha _ _ hb)).mono hle (qf b) fun x L N e=>hB x ⟨b,v,L,N,ha _ _ hb,e⟩
 jK b v hb:=(h.jK b v (hf _ _ hb)).mono hle (qf b)
 z x hx:=by
  have hx':=AR.of qf ha hx
  obtain ⟨b,v,L,N,h1,h2⟩:=hx'
  have bX:=h.gY _ _ _ _ h2
  obtain ⟨h3,h4⟩:=h.z x (AR.of qf ha hx)
  refine ⟨?_,fun c e=>?_⟩
  ·cases hz' : E'.z x with
   | none=>rfl
   | some r=>
    rcases hz x r hz' with e | e
    ·rw [h3] at e; simp at e
    ·omega
  ·rcases DI c x e with e | ⟨_,e⟩
   ·exact h4 c e
   ·omega
 inj b c v u x L N L' N' h1 h2 h3 h4:=h.inj b c v u x L N L' N' (ha _ _ h1) (ha _ _ h2) (by rw [← qf]; exact h3) (by rw [← qf]; exact h4)
 tq b c v u x y L N L' N' cs e own g k b8 e' o7 k' h1 h2 h3 h4 h5 h6:=by
  rw [qf] at h3 h4
  rw [hB x ⟨b,v,L,N,ha _ _ h1,h3⟩] at h5
  rw [hB y ⟨c,u,L',N',ha _ _ h2,h4⟩] at h6
  exact h.tq b c v u x y L N L' N' cs e own g k b8 e' o7 k' (ha _ _ h1) (ha _ _ h2) h3 h4 h5 h6
 Yp b x e:=by
  rw [qf]
  rcases DI b x e with e | ⟨e,_⟩
  ·exact h.Yp b x e
  ·cases hb:E.α b with
   | none=>rfl
   | some p=>have:=h.lD b p hb; omega
 nk b v hb:=by
  obtain ⟨h1,h2⟩:=h.nk b v (ha _ _ hb)
  refine ⟨Nat.lt_of_lt_of_le h1 hn,?_⟩
  cases e:E'.κ b with
  | none=>rfl
  | some x=>
   rcases DI b x e with e | ⟨e,_⟩
   ·rw [h2] at e; simp at e
   ·omega
 lD b p e:=by rw [qf] at e; have:=h.lD b p e; omega
 gY b x L N e:=by rw [qf] at e; have:=h.gY b x L N e; omega
 rZ b v x L N cs e own g k h1 h2 h3:=by
  rw [qf] at h2
  have hA:=ha _ _ h1
  rw [hB x ⟨b,v,L,N,hA,h2⟩] at h3
  obtain ⟨h4,h5,h6⟩:=h.rZ b v x L N cs e own g k hA h2 h3
  refine ⟨by omega,fun f e=>?_,fun y hy dT=>?_⟩
  ·rcases EO f g e with ⟨c,e⟩ | e
   ·exact h5 c e
   ·omega
  ·rw [hm g ⟨b,v,x,L,N,cs,_,own,k,hA,h2,h3⟩] at hy
   have bX:=mem g y hy
   obtain ⟨h7,h8,h9⟩:=h6 y hy dT
   refine ⟨?_,fun q=>h8 (AR.of qf ha q),fun c e=>?_⟩
   ·cases hz' : E'.z y with
    | none=>rfl
    | some r=>
     rcases hz y r hz' with e | e
     ·rw [h7] at e; simp at e
     ·omega
   ·rcases DI c y e with e | ⟨_,e⟩
    ·exact h9 c e
    ·omega
theorem fI.DZ {A:az} {B:St} (h:fI P E A B) {x:Nat} (q:AR A E x):x < B.next:=by
 obtain ⟨b,v,L,N,_,h2⟩:=q
 exact h.ar.gY _ _ _ _ h2
structure ee (P:Program) (E:Env) (A:az) (B:St) (E' : Env) (A' : az) (B' : St):Prop where
 jv:fI P E' A' B'
 le:E.le E'
 next:A.next≤A'.next
 mb:∀ x,x < B.next→(∀ b,E.κ b≠some x)→¬ AT A E B x→B'.get x=B.get x
 new:∀ b x,E'.κ b=some x→E.κ b=some x∨B.next≤x
 sS:∀ b r,E'.z b=some r→E.z b=some r∨AR A E b∨B.next≤b
 sT:∀ b g,E'.φ b=some g→E.φ b=some g∨B.next≤g
 pT:∀ g,g < B.next→(∀ b,E.φ b≠some g)→¬ AF A E B g→B'.members g=B.members g
 mK:∀ x,AR A' E' x→AR A E x∨B.next≤x
 mX:∀ g,AF A' E' B' g→AF A E B g∨B.next≤g
 uk:∀ g y,y∈B'.members g→y∈B.members g∨B.next≤y
 nR:∀ y,AT A' E' B' y→AT A E B y∨B.next≤y
 rows:∀ y,y < B.next→∀ cs e own bQ,B'.get y=some (.row cs e own bQ)→∃ ma,B.get y=some (.row ma e own bQ)∧ma.length=cs.length
theorem ee.ev {base:Nat} {E' : Env} {A A' : az} {B B' : St} {ρ aY:aW} {w w' : World} (h:ee P E A B E' A' B') (g:lW base ρ B w aY B' w'):Ev P base E A B ρ w E' A' B' aY w':=
 ⟨h.jv,g,h.le,h.next,h.mb,h.new,h.sS,fun b g e=>(h.sT b g e).imp (fun e=>⟨b,e⟩) id,h.pT,h.mK,h.mX,h.uk,h.nR,h.rows⟩
def EP (P:Program) (o:Oper):qe→Prop
 | .pure f xs=>∀ (E:Env) (ρ:aW) (ev:Operand→KV) (cZ:Operand→Value) (v:KV),(∀ x∈xs,VC P E ρ (ev x) (cZ x))→a5 (f (xs.map ev)) v→∃ v',VC P E ρ v v'∧∀ w,(execOp cZ o).run P w = .ok (.value v') w
 | .read f xs=>∀ (E:Env) (A:az) (B:St) (ρ:aW) (base:Nat) (w:World) (ev:Operand→KV) (cZ:Operand→Value) (v:KV),KJ P E A B ρ base w→(∀ x∈xs,VC P E ρ (ev x) (cZ x))→a5 (f A (xs.map ev)) v→
   ∃ v',VC P E ρ v v'∧(execOp cZ o).run P w = .ok (.value v') w
 | .look f xs=>∀ (E:Env) (A:az) (B:St) (ρ:aW) (base:Nat) (w:World) (ev:Operand→KV) (cZ:Operand→Value) (v:KV),KJ P E A B ρ base w→(∀ x∈xs,VC P E ρ (ev x) (cZ x))→a5 (f (xs.map ev)) v→
   ∃ E' B' aY v' nx w',(execOp cZ o).run P w = .ok nx w'∧afY v' nx∧VC P E' aY v v'∧Ev P base E A B ρ w E' A B' aY w'
 | .act f xs=>∀ (E:Env) (A A' : az) (B:St) (ρ:aW) (base:Nat) (w:World) (ev:Operand→KV) (cZ:Operand→Value) (v:KV),KJ P E A B ρ base w→(∀ x∈xs,VC P E ρ (ev x) (cZ x))→a5 (f A (xs.map ev)) (v,A')→
   ∃ E' B' aY v' nx w',(execOp cZ o).run P w = .ok nx w'∧afY v' nx∧VC P E' aY v v'∧Ev P base E A B ρ w E' A' B' aY w'
 | _=>True
theorem cl {ρ:aW} {ev:Operand→KV} {cZ:Operand→Value} {xs:List Operand} (h:∀ x∈xs,VC P E ρ (ev x) (cZ x)) :
  ∃ em:Operand→Value,bf P E (xs.map ev) (xs.map em)∧vJ ρ em cZ xs:=by
 classical
 refine ⟨fun x=>if hx:VC P E ρ (ev x) (cZ x) then hx.choose else undef,?_,?_⟩
 ·induction xs with
  | nil=>exact .nil
  | cons x xs ih=>
   refine .cons ?_ (ih fun y hy=>h y (by simp [hy]))
   have hx:=h x (by simp)
   simp only [dif_pos hx]
   exact hx.choose_spec.1
 ·intro x hx
  have hx:=h x hx
  simp only [dif_pos hx]
  exact hx.choose_spec.2
theorem lift_pure {o:Oper} {f:FP} {g:List Value→Option Value} {xs:List Operand} (hc:compile P o.op = .pure g xs) (hs:uo P f g):EP P o (.pure f xs):=by
 intro E ρ ev cZ v hv hg
 obtain ⟨em,h1,h2⟩:=cl hv
 obtain ⟨u,h3,h4⟩:=hs E _ _ v h1 hg
 have ch:=qc P o
 rw [hc] at ch
 obtain ⟨v',h5,h6⟩:=ch ρ em cZ u h2 h3
 exact ⟨v',⟨u,h4,h5⟩,h6⟩
def aeu (P:Program) (f:FR) (g:St→List Value→Option Value):Prop:=
 ∀ (E:Env) (A:az) (B:St) (vs:List KV) (us:List Value) (v:KV),fI P E A B→bf P E vs us→a5 (f A vs) v→∃ u,g B us=some u∧VK P E v u
theorem HK {o:Oper} {f:FR} {g:St→List Value→Option Value} {xs:List Operand} (hc:compile P o.op = .read g xs) (hs:aeu P f g):EP P o (.read f xs):=by
 intro E A B ρ base w ev cZ v hj hv hg
 obtain ⟨em,h1,h2⟩:=cl hv
 obtain ⟨u,h3,h4⟩:=hs E A B _ _ v hj.k h1 hg
 have ch:=qc P o
 rw [hc] at ch
 obtain ⟨v',h5,h6⟩:=ch ρ B base w em cZ u hj.s.rel h2 h3
 exact ⟨v',⟨u,h4,h5⟩,h6⟩
def ahc (P:Program) (f:FA) (g:St→List Value→Option (Value×St)):Prop:=
 ∀ (E:Env) (A A' : az) (B:St) (vs:List KV) (us:List Value) (v:KV),fI P E A B→bf P E vs us→a5 (f A vs) (v,A')→∃ u B' E',g B us=some (u,B')∧VK P E' v u∧ee P E A B E' A' B'
theorem Tn {o:Oper} {f:FA} {g:St→List Value→Option (Value×St)} {xs:List Operand} (hc:compile P o.op = .act g xs) (hs:ahc P f g):EP P o (.act f xs):=by
 intro E A A' B ρ base w ev cZ v hj hv hg
 obtain ⟨em,h1,h2⟩:=cl hv
 obtain ⟨u,B',E',h3,h4,h5⟩:=hs E A A' B _ _ v hj.k h1 hg
 have ch:=qc P o
 rw [hc] at ch
 obtain ⟨aY,v',nx,w',h6,h7,h8,h9⟩:=ch ρ B B' base w em cZ u hj.s h2 h3
 exact ⟨E',B',aY,v',nx,w',h6,h7,⟨u,h4,h8⟩,h5.ev h9⟩
def ald (P:Program) (f:FP) (g:St→List Value→Option (Value×St)):Prop:=
 ∀ (E:Env) (A:az) (B:St) (vs:List KV) (us:List Value) (v:KV),fI P E A B→bf P E vs us→a5 (f vs) v→∃ u B' E',g B us=some (u,B')∧VK P E' v u∧ee P E A B E' A B'
theorem agd {o:Oper} {f:FP} {g:St→List Value→Option (Value×St)} {xs:List Operand} (hc:compile P o.op = .act g xs) (hs:ald P f g):EP P o (.look f xs):=by
 intro E A B ρ base w ev cZ v hj hv hg
 obtain ⟨em,h1,h2⟩:=cl hv
 obtain ⟨u,B',E',h3,h4,h5⟩:=hs E A B _ _ v hj.k h1 hg
 have ch:=qc P o
 rw [hc] at ch
 obtain ⟨aY,v',nx,w',h6,h7,h8,h9⟩:=ch ρ B B' base w em cZ u hj.s h2 h3
 exact ⟨E',B',aY,v',nx,w',h6,h7,⟨u,h4,h8⟩,h5.ev h9⟩
theorem Tp {o:Oper} {g:List Value→Option (dh×(Nat→Value))} {xs:List Operand} (hc:compile P o.op = .make g xs) {ρ:aW} {B:St} {base:Nat} {w:World} {em cZ:Operand→Value} {obj:dh} {mk:Nat→Value} (hs:ud ρ B base w)
  (h2:vJ ρ em cZ xs) (h3:g (xs.map em)=some (obj,mk)):∃ aY v' w',(execOp cZ o).run P w = .ok (.value v') w'∧VR aY (mk B.next) v'∧lW base ρ B w aY (B.new obj) w':=by
 have ch:=qc P o
 rw [hc] at ch
 obtain ⟨c,mk',h4,h5,h6⟩:=ch ρ em cZ obj mk h2 h3
 exact ⟨_,_,_,h5 w,h6 _ _ _ (aW.pW _ _ _),h4.fL hs⟩
def abN (P:Program) (f:FA) (g:List Value→Option (dh×(Nat→Value))):Prop:=
 ∀ (E:Env) (A A' : az) (B:St) (vs:List KV) (us:List Value) (v:KV),fI P E A B→bf P E vs us→a5 (f A vs) (v,A')→∃ obj mk E',g us=some (obj,mk)∧VK P E' v (mk B.next)∧ee P E A B E' A' (B.new obj)
theorem C0 {o:Oper} {f:FA} {g:List Value→Option (dh×(Nat→Value))} {xs:List Operand} (hc:compile P o.op = .make g xs) (hs:abN P f g):EP P o (.act f xs):=by
 intro E A A' B ρ base w ev cZ v hj hv hg
 obtain ⟨em,h1,h2⟩:=cl hv
 obtain ⟨obj,mk,E',h3,h4,h5⟩:=hs E A A' B _ _ v hj.k h1 hg
 obtain ⟨aY,v',w',h6,h7,h8⟩:=Tp hc hj.s h2 h3
 exact ⟨E',B.new obj,aY,v',_,w',h6,rfl,⟨_,h4,h7⟩,h5.ev h8⟩
def ajf (P:Program) (f:FP) (g:List Value→Option (dh×(Nat→Value))):Prop:=
 ∀ (E:Env) (A:az) (B:St) (vs:List KV) (us:List Value) (v:KV),fI P E A B→bf P E vs us→a5 (f vs) v→∃ obj mk E',g us=some (obj,mk)∧VK P E' v (mk B.next)∧ee P E A B E' A (B.new obj)
theorem abO {o:Oper} {f:FP} {g:List Value→Option (dh×(Nat→Value))} {xs:List Operand} (hc:compile P o.op = .make g xs) (hs:ajf P f g):EP P o (.look f xs):=by
 intro E A B ρ base w ev cZ v hj hv hg
 obtain ⟨em,h1,h2⟩:=cl hv
 obtain ⟨obj,mk,E',h3,h4,h5⟩:=hs E A B _ _ v hj.k h1 hg
 obtain ⟨aY,v',w',h6,h7,h8⟩:=Tp hc hj.s h2 h3
 exact ⟨E',B.new obj,aY,v',_,w',h6,rfl,⟨_,h4,h7⟩,h5.ev h8⟩
def Env.lM (E:Env) (b x:Nat):Env:={ E with κ:=fun c=>if c=b then some x else E.κ c }
def Env.gA (E:Env) (b:Nat) (r:aek):Env:={ E with z:=fun c=>if c=b then some r else E.z c }
def Env.rA (E:Env) (b g:Nat):Env:={ E with φ:=fun c=>if c=b then some g else E.φ c }
theorem ee.newRow {A:az} {B:St} {cs:List KV} {b8:List Value} {bU:Nat} (h:fI P E A B) (hv:bf P E cs b8):ee P E A B (E.lM A.next B.next) (A.new (.row cs bU)) (B.new (.row b8 bU true none)):=by
 have hle:E.le (E.lM A.next B.next):=⟨fun _ _ e=>e,fun b x e=>by
  have:=h.lD b x e
  simp only [Env.lM]; rw [if_neg (by omega)]; exact e,fun _ _ e=>e,fun _ _ e=>e⟩
 have hA:∀ (b:Nat) (v:KV),(A.new (.row cs bU)).get b=some (.arr v)→A.get b=some (.arr v):=fun b v hb=>by
  rw [az.dt] at hb
  split at hb
  ·simp at hb
  ·exact hb
 have YA:∀ (b:Nat) (v:KV),(A.new (.row cs bU)).get b=some (.jK v)→A.get b=some (.jK v):=fun b v hb=>by
  rw [az.dt] at hb
  split at hb
  ·simp at hb
  ·exact hb
 have xm:∀ x,AR A E x→(B.new (.row b8 bU true none)).get x=B.get x:=fun x q=>by have:=h.DZ q; rw [St.dt,if_neg (by omega)]
 refine ⟨⟨?_,?_,?_,?_,?_,?_,?_,?_,?_,?_,?_,?_,?_,?_,h.ar.mb hle (fun _=>rfl) hA YA (by simp) (by simp) xm (fun _ _ e=>.inl e) (fun b x e=>?_) (fun b g e=>.inl ⟨b,e⟩) (fun _ _=>by simp) h.mem⟩,hle,by simp,?_,?_,fun _ _ e=>.inl e,fun _ _ e=>.inl e,fun _ _ _ _=>by simp,fun _ q=>.inl (q.of (fun _=>rfl) hA),fun _ q=>.inl (q.of (fun _=>rfl) hA xm),fun _ _ q=>.inl (by simpa using q),fun _ q=>.inl (q.of (fun _=>rfl) hA xm fun _ _=>by simp),mZ Yz⟩
 ·intro b ma Ki hb
  rw [az.dt] at hb
  split at hb
  ·rename_i e
   simp at hb
   obtain ⟨rfl,rfl⟩:=hb
   exact ⟨B.next,b8,by simp [Env.lM,e],by simp,hv.mono hle⟩
  ·obtain ⟨x,c,h1,h2,h3⟩:=h.row b ma Ki hb
   have:=h.gY b x h1
   exact ⟨x,c,hle.κ _ _ h1,by rw [St.dt,if_neg (by omega)]; exact h2,h3.mono hle⟩
 ·intro b top C1 hb
  rw [az.dt] at hb
  split at hb
  ·simp at hb
  ·rcases h.bb b top C1 hb with h1 | ⟨g,h1,YB,h2⟩
   ·exact .inl h1
   ·refine .inr ⟨g,h1,YB,fun x hx c e own f k hg=>?_⟩
    rw [St.dt] at hg
    split at hg
    ·simp at hg
    ·exact h2 x (by simpa using hx) c e own f k hg
 ·intro b r hb
  have:=h.m9 b r hb
  rw [St.dt,if_neg (by omega)]
  exact h.z b r hb
 ·intro b x hb
  simp only [Env.lM] at hb ⊢
  split at hb
  ·simp at hb
   subst hb
   cases hz:E.z B.next with
   | none=>rfl
   | some r=>have:=h.m9 _ r hz; omega
  ·exact h.apart b x hb
 ·intro b c x hb hc
  simp only [Env.lM] at hb hc
  split at hb <;> split at hc
  ·omega
  ·simp at hb; subst hb; have:=h.gY c _ hc; omega
  ·simp at hc; subst hc; have:=h.gY b _ hb; omega
  ·exact h.inj b c x hb hc
 ·exact Cg.new (E:=E.lM A.next B.next) (fun x y g a b c d e f hx hy=>h.jM x y g a b c d e f hx hy) (.inl fun _ _=>by simp)
 ·intro b x hb
  simp only [Env.lM] at hb
  rw [az.cq]
  split at hb
  ·omega
  ·have:=h.lD b x hb; omega
 ·intro b g hb; have:=h.mW b g hb; rw [az.cq]; omega
 ·intro b o hb
  rw [az.dt] at hb
  rw [az.cq]
  split at hb
  ·omega
  ·have:=h.live b o hb; omega
 ·intro b x hb
  simp only [Env.lM] at hb
  rw [St.cq]
  split at hb
  ·simp at hb; omega
  ·have:=h.gY b x hb; omega
 ·intro b r hb; have:=h.m9 b r hb; rw [St.cq]; omega
 ·intro b g hb; have:=h.kc b g hb; rw [St.cq]; omega
 ·intro g hg; rw [St.cq] at hg; rw [St.la]; exact h.fresh g (by omega)
 ·intro g x hx; rw [St.la] at hx; rw [St.cq]; have:=h.mem g x hx; omega
 ·simp only [Env.lM] at e
  split at e
  ·simp at e; exact .inr (by omega)
  ·exact .inl e
 ·intro x hx _ _; rw [St.dt,if_neg (by omega)]
 ·intro b x hb
  simp only [Env.lM] at hb
  split at hb
  ·simp at hb; exact .inr (by omega)
  ·exact .inl hb
theorem ee.ahd {A:az} {B:St} {b8:List Value} {bU:Nat} (h:fI P E A B):ee P E A B (E.gA B.next ⟨b8,bU,true,none⟩) A (B.new (.row b8 bU true none)):=by
 have hle:E.le (E.gA B.next ⟨b8,bU,true,none⟩):=⟨fun _ _ e=>e,fun _ _ e=>e,fun b r e=>by
  have:=h.m9 b r e
  simp only [Env.gA]; rw [if_neg (by omega)]; exact e,fun _ _ e=>e⟩
 have xm:∀ x,AR A E x→(B.new (.row b8 bU true none)).get x=B.get x:=fun x q=>by have:=h.DZ q; rw [St.dt,if_neg (by omega)]
 have HL:∀ b r,(E.gA B.next ⟨b8,bU,true,none⟩).z b=some r→E.z b=some r∨B.next≤b:=fun b r e=>by
  simp only [Env.gA] at e
  split at e
  ·exact .inr (by omega)
  ·exact .inl e
 refine ⟨⟨?_,?_,?_,?_,?_,?_,?_,?_,?_,?_,?_,?_,?_,?_,h.ar.mb hle (fun _=>rfl) (fun _ _ e=>e) (fun _ _ e=>e) (Nat.le_refl _) (by simp) xm HL (fun _ _ e=>.inl e) (fun b g e=>.inl ⟨b,e⟩) (fun _ _=>by simp) h.mem⟩,hle,Nat.le_refl _,?_,?_,fun b r e=>(HL b r e).imp id .inr,fun _ _ e=>.inl e,fun _ _ _ _=>by simp,fun _ q=>.inl q,fun _ q=>.inl (q.of (fun _=>rfl) (fun _ _ e=>e) xm),fun _ _ q=>.inl (by simpa using q),fun _ q=>.inl (q.of (fun _=>rfl) (fun _ _ e=>e) xm fun _ _=>by simp),mZ Yz⟩
 ·intro b ma Ki hb
  obtain ⟨x,c,h1,h2,h3⟩:=h.row b ma Ki hb
  have:=h.gY b x h1
  exact ⟨x,c,hle.κ _ _ h1,by rw [St.dt,if_neg (by omega)]; exact h2,h3.mono hle⟩
 ·intro b top C1 hb
  rcases h.bb b top C1 hb with h1 | ⟨g,h1,YB,h2⟩
  ·exact .inl h1
  ·refine .inr ⟨g,h1,YB,fun x hx c e own f k hg=>?_⟩
   rw [St.dt] at hg
   split at hg
   ·simp at hg
   ·exact h2 x (by simpa using hx) c e own f k hg
 ·intro b r hb
  simp only [Env.gA] at hb
  split at hb
  ·rename_i e
   simp at hb
   subst hb e
   simp
  ·have:=h.m9 b r hb
   rw [St.dt,if_neg (by omega)]
   exact h.z b r hb
 ·intro b x hb
  have:=h.gY b x hb
  simp only [Env.gA]
  rw [if_neg (by omega)]
  exact h.apart b x hb
 ·exact h.inj
 ·exact h.jM
 ·exact h.lD
 ·exact h.mW
 ·exact h.live
 ·intro b x hb; have:=h.gY b x hb; rw [St.cq]; omega
 ·intro b r hb
  simp only [Env.gA] at hb
  rw [St.cq]
  split at hb
  ·omega
  ·have:=h.m9 b r hb; omega
 ·intro b g hb; have:=h.kc b g hb; rw [St.cq]; omega
 ·intro g hg; rw [St.cq] at hg; rw [St.la]; exact h.fresh g (by omega)
 ·intro g x hx; rw [St.la] at hx; rw [St.cq]; have:=h.mem g x hx; omega
 ·intro x hx _ _; rw [St.dt,if_neg (by omega)]
 ·intro b x hb; exact .inl hb
theorem ee.akM {A:az} {B:St} {b x bU:Nat} {cs:List KV} {b8:List Value} (h:fI P E A B) (hb:∃ ma e,A.get b=some (.row ma e)) (hx:E.κ b=some x) (hold:∃ ma,B.get x=some (.row ma bU true none)∧ma.length=b8.length) (hv:bf P E cs b8):ee P E A B E (A.put b (.row cs bU)) (B.put x (.row b8 bU true none)):=by
 have hA:∀ (c:Nat) (v:KV),(A.put b (.row cs bU)).get c=some (.arr v)→A.get c=some (.arr v):=fun c v hb=>by
  rw [az.ca] at hb
  split at hb
  ·simp at hb
  ·exact hb
 have YA:∀ (c:Nat) (v:KV),(A.put b (.row cs bU)).get c=some (.jK v)→A.get c=some (.jK v):=fun c v hb=>by
  rw [az.ca] at hb
  split at hb
  ·simp at hb
  ·exact hb
 have xm:∀ y,AR A E y→(B.put x (.row b8 bU true none)).get y=B.get y:=fun y q=>by
  rw [St.ca,if_neg]
  intro e
  subst e
  exact (h.ar.z _ q).2 b hx
 refine ⟨⟨?_,?_,?_,h.apart,h.inj,h.jM.put (.inl fun _ _=>by simp),h.lD,h.mW,?_,h.gY,h.m9,h.kc,?_,?_,h.ar.mb (Env.le_refl _) (fun _=>rfl) hA YA (Nat.le_refl _) (Nat.le_refl _) xm (fun _ _ e=>.inl e) (fun _ _ e=>.inl e) (fun b g e=>.inl ⟨b,e⟩) (fun _ _=>by simp) h.mem⟩,Env.le_refl _,Nat.le_refl _,?_,fun _ _ e=>.inl e,fun _ _ e=>.inl e,fun _ _ e=>.inl e,fun _ _ _ _=>by simp,fun _ q=>.inl (q.of (fun _=>rfl) hA),fun _ q=>.inl (q.of (fun _=>rfl) hA xm),fun _ _ q=>.inl (by simpa using q),fun _ q=>.inl (q.of (fun _=>rfl) hA xm fun _ _=>by simp),fun y _ c e own bQ q=>by
  rw [St.ca] at q
  split at q
  ·rename_i e2
   simp at q
   obtain ⟨rfl,rfl,rfl,rfl⟩:=q
   obtain ⟨c0,h1,h2⟩:=hold
   exact ⟨c0,by rw [e2]; exact h1,h2⟩
  ·exact ⟨c,q,rfl⟩⟩
 ·intro c ma Ki hc
  rw [az.ca] at hc
  split at hc
  ·rename_i e
   simp at hc
   obtain ⟨rfl,rfl⟩:=hc
   exact ⟨x,b8,by rw [e]; exact hx,by simp,hv⟩
  ·rename_i dT
   obtain ⟨y,d,h1,h2,h3⟩:=h.row c ma Ki hc
   refine ⟨y,d,h1,?_,h3⟩
   rw [St.ca,if_neg (fun e=>dT (h.inj c b x (by rw [← e]; exact h1) hx))]
   exact h2
 ·intro c top C1 hc
  rw [az.ca] at hc
  split at hc
  ·simp at hc
  ·rcases h.bb c top C1 hc with h1 | ⟨g,h1,YB,h2⟩
   ·exact .inl h1
   ·refine .inr ⟨g,h1,YB,fun y hy d e own f k hg=>?_⟩
    rw [St.ca] at hg
    split at hg
    ·simp at hg
    ·exact h2 y (by simpa using hy) d e own f k hg
 ·intro c r hc
  rw [St.ca,if_neg]
  ·exact h.z c r hc
  ·intro e
   have:=h.apart b x hx
   rw [← e,hc] at this
   simp at this
 ·intro c o hc
  rw [az.ca] at hc
  rw [az.ri]
  split at hc
  ·rename_i e
   obtain ⟨ma,e0,hb⟩:=hb
   rw [e]; exact h.live b _ hb
  ·exact h.live c o hc
 ·intro g hg; rw [St.r7]; exact h.fresh g hg
 ·intro g y hy; rw [St.r7] at hy; exact h.mem g y hy
 ·intro y hy hn _
  rw [St.ca,if_neg (fun e=>hn b (by rw [e]; exact hx))]
theorem akN {n:Nat} : abN P (zC n) (ad0 n):=by
 intro E A A' B vs us v h hv hg
 unfold zC at hg
 split at hg
 ·rename_i x
  obtain ⟨y,rfl,h1⟩:=hv.eU
  obtain ⟨ho,hg⟩:=hg.cond
  have hg:(KV.ptr A.next 0,A.new (.row x.cells n))=(v,A'):=hg
  simp only [Prod.mk.injEq] at hg
  obtain ⟨rfl,rfl⟩:=hg
  have hc:=h1.cells (wA ho)
  have Wa:y.cells.toList.all scalar=true:=List.all_eq_true.2 (hc.scalar ho)
  exact ⟨Cb n y,CJ,E.lM A.next B.next,by simp [ad0,Wa],.xi (by simp [Env.lM]),ee.newRow h hc⟩
 ·exact hg.elim
theorem ah5 {t:TypeId} {z:Value} (hz:pQ P t=some z) (hf:flat z=true) (Wa:z.cells.toList.all scalar=true) (ho:ij (gS z).cells=true):abN P (Vf (nq P t) (gS z).cells) (Hf P t):=by
 intro E A A' B vs us v h hv hg
 have hg:(KV.ptr A.next 0,A.new (.row (gS z).cells (nq P t)))=(v,A'):=hg
 simp only [Prod.mk.injEq] at hg
 obtain ⟨rfl,rfl⟩:=hg
 exact ⟨Cb (nq P t) z,CJ,E.lM A.next B.next,by simp only [Hf,hz,Option.bind_some,hf,Wa,Bool.and_self,cond_true],.xi (by simp [Env.lM]),ee.newRow h (z0 ho)⟩
theorem Kj {cs:List KV} {l:List Value} (h:bf P E cs l):∀ n,bf P E (dV cs n) (gn l n)
 | 0=>.nil
 | n+1=>bf.append h (Kj h n)
theorem aa1 {n b:Nat} {z:Value} (ho:ij (gS z).cells=true):abN P (Ka n b (gS z).cells) (A7 n b z):=by
 intro E A A' B vs us v h hv hg
 unfold Ka at hg
 split at hg
 ·rename_i k l k' c
  obtain ⟨x,y,rfl,h1,h2⟩:=hv.kR
  have:=h1.du; subst this
  have:=h2.du; subst this
  obtain ⟨hc,hg⟩:=a5.lV hg
  simp only [Prod.mk.injEq] at hg
  obtain ⟨rfl,rfl⟩:=hg
  simp only [Bool.and_eq_true,decide_eq_true_eq] at hc
  obtain ⟨⟨h3,h4⟩,h5⟩:=hc
  obtain ⟨l',rfl⟩:=Int.eq_ofNat_of_zero_le h3
  obtain ⟨c',rfl⟩:=Int.eq_ofNat_of_zero_le (Int.le_trans h3 h4)
  have h6:Nat.ble l' c' = true:=Nat.ble_eq_true_of_le (by omega)
  refine ⟨.row (gn z.cells.toList c') n true none,fun k=>.slice (some ⟨k,0,none⟩) l' c',E.lM A.next B.next,?_,.aha (by simp [Env.lM]),ee.newRow h (Kj (z0 ho) c')⟩
  have h5:Nat.ble (b * c') 281474976710656=true:=h5
  show cond (Nat.ble l' c'&&Nat.ble (b * c') 281474976710656) _ _=_
  rw [h6,h5]
  rfl
 ·exact hg.elim
theorem fI.rowAt {A:az} {B:St} (h:fI P E A B) {b x:Nat} {cs:List KV} (hr:rowAt A b=some cs) (hx:E.κ b=some x):∃ b8 bU,B.get x=some (.row b8 bU true none)∧bf P E cs b8:=by
 unfold K.rowAt at hr
 split at hr
 ·rename_i c e hg
  simp at hr
  subst hr
  obtain ⟨y,d,h1,h2,h3⟩:=h.row _ _ _ hg
  rw [hx] at h1
  simp at h1
  subst h1
  exact ⟨d,_,h2,h3⟩
 ·simp at hr
theorem Kk (e:KV):∀ (cs:List CK) (k:Nat),(leaves e cs k).length=cs.length
 | [],_=>rfl
 | c::cs,k=>by simp [leaves,Kk e cs]
theorem acV {c:CK} {v:KV} (h:kindOk c v=true):leaf c v=v:=by
 cases c with
 | int k=>cases v <;> simp [kindOk] at h; subst h; rfl
 | bool=>cases v <;> simp [kindOk] at h; rfl
 | str=>cases v <;> simp [kindOk] at h; rfl
 | slice t=>
  cases v <;> simp [kindOk] at h
  rename_i T m n es acc
  cases m <;> simp at h
  subst h
  rfl
 | other=>cases v <;> simp [kindOk] at h
theorem Ch:∀ {ks:List CK} {cs:List KV} {i:Nat} {c:CK},aH ks cs=true→ks[i]? = some c→∃ v,cs[i]? = some v∧kindOk c v=true
 | [],_,i,c,_,h=>by simp at h
 | _::_,[],_,_,h,_=>by simp [aH] at h
 | k::ks,v::cs,0,c,h,e=>by
  simp only [aH,Bool.and_eq_true] at h
  simp at e
  subst e
  exact ⟨v,rfl,h.1⟩
 | k::ks,v::cs,i+1,c,h,e=>by
  simp only [aH,Bool.and_eq_true] at h
  obtain ⟨u,h1,h2⟩:=Ch (i:=i) h.2 (by simpa using e)
  exact ⟨u,by simpa using h1,h2⟩
theorem kd:∀ {l:uU} {es:List KV} {i:Nat} {e:KV},fM l es=true→es[i]? = some e→dw l e=true
 | l,[],i,e,_,h=>by simp at h
 | l,x::es,0,e,h,he=>by
  simp only [fM,Bool.and_eq_true] at h
  simp at he
  subst he
  exact h.1
 | l,x::es,i+1,e,h,he=>by
  simp only [fM,Bool.and_eq_true] at h
  exact kd h.2 (by simpa using he)
theorem iH {l:uU} {e:KV} (h:dw l e=true):aH l.ks e.cells=true∧uW e=true:=by
 cases e <;> simp [dw] at h <;> first | exact ⟨h.2,rfl⟩ | skip
 obtain ⟨h1,h2⟩:=h
 cases hk:l.ks with
 | nil=>rw [hk] at h2; simp [aH] at h2
 | cons c cs=>rw [hk] at h2; cases c <;> simp [aH,kindOk] at h2
theorem Oz {e:KV} {ks:List CK} (hk:aH ks e.cells=true):∀ {cs:List CK} {k:Nat},(∀ m c,cs[m]? = some c→ks[k+m]? = some c)→leaves e cs k=(e.cells.drop k).take cs.length
 | [],k,_=>by simp [leaves]
 | c::cs,k,h=>by
  obtain ⟨v,h1,h2⟩:=Ch hk (by simpa using h 0 c rfl)
  have bX:k < e.cells.length:=(List.getElem?_eq_some_iff.1 h1).1
  have ih:=Oz hk (cs:=cs) (k:=k+1) (fun m d hm=>by have:=h (m+1) d (by simpa using hm); rwa [show k+(m+1)=k+1+m by omega] at this)
  simp only [leaves]
  have e1:e.cells.getD k .ax=v:=by simp [List.getD,h1]
  rw [e1,acV h2]
  rw [show Nat.succ k=k+1 from rfl,ih,List.drop_eq_getElem_cons bX]
  have e2:e.cells[k] = v:=by
   have:=List.getElem?_eq_getElem bX
   rw [this] at h1
   simpa using h1
  simp [e2]
theorem fI.EL {A:az} {B:St} (h:fI P E A B) {b x L N' : Nat} {v:KV} (hr:EL A b=some v) (hx:E.α b=some (x,L,N')) :
  ∃ T N es acc,v = .ts T .any N es acc∧je P T N es acc∧1≤bg P T∧∃ cs e own bQ bq,N' = N∧B.get x=some (.row cs e own bQ)∧bf P E es bq∧n6 (bg P T) 0 cs bq∧L=cs.length∧e=bg P T:=by
 unfold K.EL at hr
 split at hr
 ·rename_i u hg
  simp at hr; subst hr
  obtain ⟨T,N,es,acc,h1,h2,h3,h4⟩:=h.ar.arr b _ hg
  refine ⟨T,N,es,acc,h1,h2,h3,?_⟩
  rcases h4 with ⟨_,h5⟩ | ⟨y,cs,bQ,bq,h4,h5,h6,h7⟩
  ·rw [hx] at h5; simp at h5
  ·rw [hx] at h4
   simp only [Option.some.injEq,Prod.mk.injEq] at h4
   obtain ⟨rfl,rfl,rfl⟩:=h4
   exact ⟨cs,_,_,bQ,bq,rfl,h5,h6,h7,rfl,rfl⟩
 ·rename_i u hg
  simp at hr; subst hr
  obtain ⟨T,N,es,acc,h1,h2,h3,h4⟩:=h.ar.jK b _ hg
  refine ⟨T,N,es,acc,h1,h2,h3,?_⟩
  rcases h4 with ⟨_,h5⟩ | ⟨y,r,bq,h4,h5,h6,h7,h8⟩
  ·rw [hx] at h5; simp at h5
  ·rw [hx] at h4
   simp only [Option.some.injEq,Prod.mk.injEq] at h4
   obtain ⟨rfl,rfl,rfl⟩:=h4
   exact ⟨r.cs,_,_,_,bq,rfl,h.z _ _ h5,h7,h8,rfl,h6⟩
 ·simp at hr
theorem YC {t T Tc:TypeId} {k x base bU:Nat} {own:Bool} {bQ:Option (Nat×Nat)} {e:KV} {u:Value} {cs:List Value} {B:St} (hz:B.get x=some (.row cs bU own bQ)) (hc:Xp P t Tc=true) (hw:Xu P T Tc k) (Ba:dw (bu P T) e=true)
  (h7:VK P E e u) (fo:u.cells.size=bg P T) (od:∀ (m:Nat) (y:Value),u.cells[m]? = some y→cs[base+m]? = some y):∃ w,Hg P t B [.pointer (some ⟨x,base+k,none⟩)] = some w∧VK P E (JJ (bu P t).agg (leaves e (bu P t).ks k)) w:=by
 simp only [Xp,Bool.and_eq_true,decide_eq_true_eq] at hc
 obtain ⟨⟨⟨⟨hTc,hpl⟩,ha⟩,hn⟩,ale⟩:=hc
 have:=Nat.eq_of_beq_eq_true hTc
 subst this
 obtain ⟨akO,akP⟩:=iH Ba
 have hlv:=Oz akO (cs:=(bu P Tc).ks) (k:=k) hw.is
 rw [hlv]
 have Hs:=h7.cells akP
 have hlen:e.cells.length=bg P T:=by have:=Hs.length; simp at this; omega
 have oA:(bu P Tc).ks.length≤e.cells.length - k:=by
  have:=congrArg List.length hlv
  rw [Kk] at this
  simp at this
  omega
 have jD:∀ m,m < (bu P Tc).ks.length→cs[base+k+m]? = u.cells.toList[k+m]?:=by
  intro m hm
  have bX:k+m < u.cells.size:=by omega
  have:=od (k+m) u.cells[k+m] (by simp [bX])
  rw [show base+(k+m)=base+k+m by omega] at this
  rw [this]
  simp [bX]
 have age:takeN (bu P Tc).ks.length (CI (base+k) cs)=some ((u.cells.toList.drop k).take (bu P Tc).ks.length):=by
  have hle:(bu P Tc).ks.length≤(cs.drop (base+k)).length:=by
   cases J2:(bu P Tc).ks.length with
   | zero=>omega
   | succ q=>
    have:=jD q (by omega)
    have bX:k+q < u.cells.toList.length:=by simp; omega
    rw [List.getElem?_eq_getElem bX] at this
    have:=(List.getElem?_eq_some_iff.1 this).1
    simp
    omega
  rw [rh,F2 hle]
  congr 1
  apply List.ext_getElem?
  intro m
  rw [List.getElem?_take,List.getElem?_take]
  split
  ·rename_i hm
   rw [List.getElem?_drop,List.getElem?_drop]
   exact jD m hm
  ·rfl
 have zD:bf P E (e.cells.drop k |>.take (bu P Tc).ks.length) ((u.cells.toList.drop k).take (bu P Tc).ks.length):=(Hs.drop k).take _
 cases xj:(bu P Tc).agg with
 | true=>
  rw [xj] at ha
  refine ⟨.agg ⟨(u.cells.toList.drop k).take (bu P Tc).ks.length⟩,?_,.oY zD⟩
  simp [Hg,loadAt,ha,hn,St.vN,dm,xR,hz,age]
 | false=>
  rw [xj] at ha
  have hl1:(bu P Tc).ks.length=1:=by
   rw [xj] at ale
   exact Nat.eq_of_beq_eq_true (by simpa using ale)
  rw [hl1] at age zD
  have bX:k < e.cells.length:=by omega
  rw [hl1]
  rw [List.drop_eq_getElem_cons bX] at zD ⊢
  simp only [List.take_succ_cons,List.take_zero] at zD ⊢
  obtain ⟨w,h8,h9⟩:=zD.eU
  refine ⟨w,?_,h9⟩
  simp [Hg,loadAt,ha,St.vN,dm,xR,hz,age,h8]
theorem aev {t:TypeId} : aeu P (Td P t) (Hg P t):=by
 intro E A B vs us v h hv hg
 unfold Td at hg
 split at hg
 ·rename_i b off
  obtain ⟨y,rfl,h1⟩:=hv.eU
  obtain ⟨x,hx,rfl⟩:=h1.iW
  split at hg
  ·rename_i ag n ha hn
   split at hg
   ·rename_i l hl
    obtain ⟨cs,h2,h3⟩:=Option.bind_eq_some_iff.1 hl
    obtain ⟨b8,bU,h4,h5⟩:=h.rowAt h2 hx
    obtain ⟨r,h6,h7,_⟩:=h5.uh h3
    cases ag with
    | true=>
     have hg:KV.agg l=v:=hg
     subst hg
     refine ⟨.agg ⟨r⟩,?_,.oY h7⟩
     simp [Hg,loadAt,ha,hn,St.vN,dm,xR,h4,h6]
    | false=>
     rw [cond_false] at hg
     split at hg
     ·rename_i u
      have hg:u=v:=hg
      subst hg
      obtain ⟨w,rfl,h8⟩:=h7.eU
      have hlen:n=1:=by
       obtain ⟨e,hle⟩:=LV h3
       have:=congrArg List.length e
       rw [List.length_take,Nat.min_eq_left hle] at this
       simpa using this.symm
      subst hlen
      exact ⟨w,by simp [Hg,loadAt,ha,St.vN,dm,xR,h4,h6],h8⟩
     ·exact hg.elim
   ·exact hg.elim
  ·exact hg.elim
 ·rename_i T Tc i k es acc
  obtain ⟨y,rfl,h1⟩:=hv.eU
  obtain ⟨hc,hg⟩:=hg.cond
  have hg:JJ (bu P t).agg (leaves (acc i) (bu P t).ks k)=v:=hg
  subst hg
  obtain ⟨ht,bq,h2,hi,hw,b,off,r,rfl,h4,h5⟩:=h1.HG
  have amq:=ht.acc i hi
  have hei:es[i]? = some (acc i):=by rw [amq]; simp [List.getD,hi]
  obtain ⟨u,h6,h7⟩:=h2.get hei
  obtain ⟨fo,od⟩:=h5 i u h6
  exact YC (h.z b r h4) hc hw (kd ht.typed hei) h7 fo od
 ·rename_i T Tc b i k
  obtain ⟨y,rfl,h1⟩:=hv.eU
  split at hg
  ·rename_i T' m N es acc hA
   obtain ⟨hc,hg⟩:=hg.cond
   have hg:JJ (bu P t).agg (leaves (acc i) (bu P t).ks k)=v:=hg
   subst hg
   simp only [Bool.and_eq_true] at hc
   have:=Nat.eq_of_beq_eq_true hc.1
   subst this
   obtain ⟨x,L,N',h2,hw,hi,rfl⟩:=h1.DY
   obtain ⟨T2,N2,o5,fT,PV,ht,h1s,cs,e,own,bQ,bq,h3,h4,h5,h6,_⟩:=h.EL hA h2
   simp only [KV.ts.injEq] at PV
   obtain ⟨rfl,rfl,rfl,rfl,rfl⟩:=PV
   have bX:i < es.length:=by rw [← ht.len,← h3]; exact hi
   have hei:es[i]? = some (acc i):=by rw [ht.acc i (by rw [ht.len]; exact bX)]; simp [List.getD,bX]
   obtain ⟨u,h7,h8⟩:=h5.get hei
   obtain ⟨fo,od⟩:=h6 i u h7
   rw [Nat.zero_add] at od
   exact YC h4 hc.2 hw (kd ht.typed hei) h8 fo od
  ·exact hg.elim
 ·exact hg.elim
end Go.K
end
section
namespace Go.K
open Go Go.aG
variable {P:Program} {E:Env}
theorem VK.ajg {T:TypeId} {m:Mk} {n:Nat} {es:List KV} {acc:Nat→KV} {u:Value} (h:VK P E (.ts T m n es acc) u):VK P E (.ts T .any n es acc) u:=by
 obtain ⟨ht,bq,h1,a,cap,rfl,h2,h3,_⟩:=h.mi
 simp only [VK]
 exact ⟨ht,bq,h1,a,cap,rfl,h2,h3,trivial⟩
theorem VK.agf {T:TypeId} {acc:Nat→KV} : VK P E (.ts T .any 0 [] acc) (.slice none 0 0):=by
 simp only [VK]
 exact ⟨⟨rfl,fun i h=>by omega,rfl⟩,[],.nil,none,0,rfl,Nat.le_refl _,.inl ⟨rfl,rfl⟩,trivial⟩
theorem VK.alM {b:Bool} {v:KV} {u:Value} (h:VK P E v u):VK P E (cond b v .ax) u:=by
 cases b with
 | false=>exact .rz
 | true=>exact h
theorem VK.mJ {c:CK} {v:KV} {u:Value} (h:VK P E v u):VK P E (mJ c v) u:=by
 unfold K.mJ
 split
 ·have:=h.nQ; subst this; exact .agf
 ·rename_i t t' m n es acc
  cases hb:Nat.beq t t' with
  | false=>exact .rz
  | true=>
   have:=Nat.eq_of_beq_eq_true hb
   subst this
   exact h.ajg
 ·exact VK.alM h
theorem bf.yx:∀ {ks:List CK} {cs:List KV} {l:List Value},bf P E cs l→cs.length=ks.length→bf P E (yx ks cs) l
 | [],[],l,h,_=>h
 | [],_::_,_,_,e=>by simp at e
 | _::_,[],_,_,e=>by simp at e
 | c::ks,v::cs,l,h,e=>by
  obtain ⟨y,ys,rfl,h1,h2⟩:=h.cons_inv
  exact .cons h1.mJ (bf.yx h2 (by simpa using e))
theorem VK.gp {l:uU} {v:KV} {u:Value} (h:VK P E v u):VK P E (gp l v) u:=by
 unfold K.gp
 split
 ·rename_i cs
  obtain ⟨m,rfl,h1⟩:=h.mc
  cases hb:(l.agg&&Nat.beq cs.length l.ks.length) with
  | false=>exact .rz
  | true=>
   simp only [Bool.and_eq_true] at hb
   exact .oY (h1.yx (Nat.eq_of_beq_eq_true hb.2))
 ·cases l.agg with
  | true=>exact .rz
  | false=>
   rw [cond_false]
   split
   ·exact h.mJ
   ·exact .rz
theorem Qn (d:Nat) (v:KV):ao P (d+1) v=(match v with
 | .ts t _ n _ acc=>.ts t .any n ((List.range n).map fun i=>ay P (ao P d) t (acc i)) (fun i=>ay P (ao P d) t (acc i))
 | v=>v):=rfl
theorem aa2 (d:Nat) {c:CK} {v:KV} (h:kindOk c v=true):kindOk c (ao P d v)=true:=by
 cases d with
 | zero=>exact h
 | succ d=>
  rw [Qn]
  split
  ·rename_i t m n es acc
   cases c <;> simp [kindOk] at h
   cases m <;> simp at h
   simp [kindOk,h]
  ·exact h
theorem C2 (d:Nat):∀ {ks:List CK} {cs:List KV},aH ks cs=true→aH ks (cs.map (ao P d))=true
 | [],[],_=>rfl
 | [],_::_,h=>by simp [aH] at h
 | _::_,[],h=>by simp [aH] at h
 | c::ks,v::cs,h=>by
  simp only [aH,Bool.and_eq_true] at h
  simp only [List.map_cons,aH,Bool.and_eq_true]
  exact ⟨aa2 d h.1,C2 d h.2⟩
theorem qg:∀ {ks:List CK} {vs:List KV},aH ks vs=true→vs.length=ks.length
 | [],[],_=>rfl
 | [],_::_,h=>by simp [aH] at h
 | _::_,[],h=>by simp [aH] at h
 | k::ks,v::vs,h=>by
  simp only [aH,Bool.and_eq_true] at h
  simp [qg h.2]
theorem oC {l:uU} : ∀ {es:List KV},(∀ (i:Nat) e,es[i]? = some e→dw l e=true)→fM l es=true
 | [],_=>rfl
 | e::es,h=>by
  simp only [fM,Bool.and_eq_true]
  exact ⟨h 0 e rfl,oC fun i x hx=>h (i+1) x (by simpa using hx)⟩
theorem HM {l:uU} {v:KV} (h:dw l v=true):leaves v l.ks 0=v.cells∧aH l.ks v.cells=true∧(v=JJ l.agg v.cells):=by
 have hk:aH l.ks v.cells=true∧(v=JJ l.agg v.cells):=by
  by_cases ha:∃ cs,v = .agg cs
  ·obtain ⟨cs,rfl⟩:=ha
   simp only [dw,Bool.and_eq_true] at h
   refine ⟨h.2,?_⟩
   rw [h.1]; rfl
  ·have h1:(!l.agg&&aH l.ks [v])=true:=by
    cases v <;> first | exact h | exact absurd ⟨_,rfl⟩ ha | simp [dw] at h
   have hc:v.cells = [v]:=by cases v <;> first | rfl | exact absurd ⟨_,rfl⟩ ha
   simp only [Bool.and_eq_true,Bool.not_eq_true'] at h1
   rw [hc,h1.1]
   exact ⟨h1.2,rfl⟩
 refine ⟨?_,hk.1,hk.2⟩
 rw [Oz (e:=v) (ks:=l.ks) hk.1 (fun m c e=>by rw [Nat.zero_add]; exact e)]
 show (v.cells.drop 0).take l.ks.length=v.cells
 rw [List.drop_zero,← qg hk.1,List.take_length]
theorem YD {l:uU} {cs:List KV} {v:KV} (h:dw l v=true) (hk:aH l.ks cs=true) (hlen:cs.length=v.cells.length):dw l (JJ l.agg cs)=true:=by
 by_cases ha:∃ ds,v = .agg ds
 ·obtain ⟨ds,rfl⟩:=ha
  simp only [dw,Bool.and_eq_true] at h
  rw [h.1]
  show (l.agg&&aH l.ks cs)=true
  rw [h.1,hk]; rfl
 ·have h1:(!l.agg&&aH l.ks [v])=true:=by
   cases v <;> first | exact h | exact absurd ⟨_,rfl⟩ ha | simp [dw] at h
  have hc:v.cells = [v]:=by cases v <;> first | rfl | exact absurd ⟨_,rfl⟩ ha
  simp only [Bool.and_eq_true,Bool.not_eq_true'] at h1
  rw [hc] at hlen
  match cs,hlen with
  | [c],_=>
   rw [h1.1]
   show dw l c=true
   have Qm:one c=true:=by
    cases rm:l.ks with
    | nil=>rw [rm] at hk; simp [aH] at hk
    | cons a am2=>rw [rm] at hk; simp only [aH,Bool.and_eq_true] at hk; cases a <;> cases c <;> first | rfl | simp [kindOk] at hk
   cases c <;> first | (simp [one] at Qm; done) | (simp only [dw,h1.1,Bool.not_false,Bool.true_and]; exact hk)
mutual
theorem VK.ao:∀ (d:Nat) {v:KV} {u:Value},VK P E v u→VK P E (K.ao P d v) u
 | 0,_,_,h=>h
 | d+1,v,u,h=>by
  rw [Qn]
  split
  ·rename_i t m n es acc
   obtain ⟨ht,bq,h1,a,cap,rfl,h2,h3,_⟩:=h.mi
   simp only [VK]
   have Ba:∀ i,i < n→∃ e e',es[i]? = some e∧bq[i]? = some e'∧acc i=e∧dw (bu P t) e=true∧VK P E e e':=by
    intro i hi
    have hl:i < es.length:=by rw [← ht.len]; exact hi
    have e1:=List.getElem?_eq_getElem hl
    obtain ⟨e',e2,e3⟩:=h1.get e1
    exact ⟨_,e',e1,e2,by rw [ht.acc i hi,List.getD_eq_getElem?_getD,e1]; rfl,kd ht.typed e1,e3⟩
   have hlen:bq.length=n:=by rw [h1.length,ht.len]
   refine ⟨⟨by simp,fun i hi=>?_,?_⟩,bq,?_,a,cap,rfl,h2,h3,trivial⟩
   ·rw [List.getD_eq_getElem?_getD,List.getElem?_map,List.getElem?_range hi]; rfl
   ·refine oC fun i e he=>?_
    rw [List.getElem?_map] at he
    by_cases hi:i < n
    ·rw [List.getElem?_range hi] at he
     simp only [Option.map_some,Option.some.injEq] at he
     obtain ⟨x,x',_,_,q3,q4,_⟩:=Ba i hi
     rw [← he,q3,ay]
     obtain ⟨r1,r2,_⟩:=HM q4
     rw [r1]
     exact YD q4 (C2 d r2) (by simp)
    ·rw [List.getElem?_eq_none (by simp; omega)] at he; simp at he
   ·refine bf.PM (by simp [hlen]) fun i e e' he CS=>?_
    rw [List.getElem?_map] at he
    by_cases hi:i < n
    ·rw [List.getElem?_range hi] at he
     simp only [Option.map_some,Option.some.injEq] at he
     obtain ⟨x,x',_,q2,q3,q4,q5⟩:=Ba i hi
     rw [CS] at q2
     simp only [Option.some.injEq] at q2
     subst q2
     rw [← he,q3]
     exact VK.ay d q4 q5
    ·rw [List.getElem?_eq_none (by simp; omega)] at he; simp at he
  ·exact h
theorem VK.ay (d:Nat) {t:TypeId} {v:KV} {u:Value} (hk:dw (bu P t) v=true) (h:VK P E v u):VK P E (K.ay P (K.ao P d) t v) u:=by
 obtain ⟨r1,r2,r3⟩:=HM hk
 rw [K.ay,r1]
 by_cases ha:∃ cs,v = .agg cs
 ·obtain ⟨cs,rfl⟩:=ha
  obtain ⟨l,rfl,h1⟩:=h.mc
  have xj:(bu P t).agg=true:=by simp only [dw,Bool.and_eq_true] at hk; exact hk.1
  rw [xj]
  exact .oY (bf.aew d h1)
 ·have hc:v.cells = [v]:=by cases v <;> first | rfl | exact absurd ⟨_,rfl⟩ ha
  have xj:(bu P t).agg=false:=by
   cases v <;> first | (simp only [dw,Bool.and_eq_true,Bool.not_eq_true'] at hk; exact hk.1) | exact absurd ⟨_,rfl⟩ ha | simp [dw] at hk
  rw [xj,hc]
  exact VK.ao d h
theorem bf.aew (d:Nat):∀ {cs:List KV} {l:List Value},bf P E cs l→bf P E (cs.map (K.ao P d)) l
 | [],l,h=>h
 | c::cs,l,h=>by
  obtain ⟨y,ys,rfl,h1,h2⟩:=h.cons_inv
  exact .cons (VK.ao d h1) (bf.aew d h2)
end
theorem aex {c:CK} {v:KV} (h:kindOk c v=true):one v=true:=by
 cases c <;> cases v <;> simp [kindOk] at h <;> rfl
theorem Ci:∀ {ks:List CK} {cs:List KV},aH ks cs=true→ij cs=true
 | [],[],_=>rfl
 | [],_::_,h=>by simp [aH] at h
 | _::_,[],h=>by simp [aH] at h
 | c::ks,v::cs,h=>by
  simp only [aH,Bool.and_eq_true] at h
  simp [ij,aex h.1,Ci h.2]
def bH:List Value→List Value
 | []=>[]
 | v::vs=>v.cells.toList++bH vs
theorem jw {n:Nat} : ∀ {es:List Value},(∀ v∈es,v.cells.size=n)→(bH es).length=es.length * n
 | [],_=>by simp [bH]
 | v::es,h=>by
  simp only [bH,List.length_append,List.length_cons]
  rw [jw fun u hu=>h u (by simp [hu])]
  have:=h v (by simp)
  simp only [Array.length_toList,this,Nat.succ_mul]
  omega
theorem mF {n:Nat} : ∀ {es:List Value},(∀ v∈es,v.cells.size=n)→n6 n 0 (bH es) es
 | [],_,i,x,h=>by simp at h
 | v::es,hs,i,x,h=>by
  have hv:=hs v (by simp)
  cases i with
  | zero=>
   simp at h
   subst h
   refine ⟨hv,fun k y hy=>?_⟩
   simp only [bH,Nat.zero_mul,Nat.zero_add]
   have bX:k < v.cells.size:=(Array.getElem?_eq_some_iff.1 hy).1
   rw [List.getElem?_append_left (by simpa using bX)]
   simpa using hy
  | succ i=>
   obtain ⟨h1,h2⟩:=mF (es:=es) (fun u hu=>hs u (by simp [hu])) i x (by simpa using h)
   refine ⟨h1,fun k y hy=>?_⟩
   have:=h2 k y hy
   simp only [bH]
   rw [List.getElem?_append_right (by simp [hv,Nat.succ_mul]; omega)]
   rw [← this]
   congr 1
   simp [hv,Nat.succ_mul]
   omega
theorem wB:∀ (a b:List Value),bH (a++b)=bH a++bH b
 | [],b=>rfl
 | v::a,b=>by simp [bH,wB a b]
theorem AE:∀ {es:List Value},(∀ v∈es,∀ c∈v.cells.toList,scalar c=true)→∀ c∈bH es,scalar c=true
 | [],_,c,h=>by simp [bH] at h
 | v::es,hs,c,h=>by
  simp only [bH,List.mem_append] at h
  rcases h with h | h
  ·exact hs v (by simp) c h
  ·exact AE (fun u hu=>hs u (by simp [hu])) c h
theorem Vl {n:Nat} : ∀ {es:List Value} {i:Nat} {v:Value},(∀ u∈es,u.cells.size=n)→v.cells.size=n→i < es.length→ie (i * n) (bH es) v.cells.toList=some (bH (es.set i v))
 | [],i,v,_,_,h=>by simp at h
 | u::es,0,v,hs,hv,_=>by
  simp only [Nat.zero_mul,bH,List.set_cons_zero]
  have key:∀ (a b r:List Value),a.length=b.length→ie 0 (a++r) b=some (b++r):=by
   intro a
   induction a with
   | nil=>intro b r h; cases b <;> simp_all [xh]
   | cons x a ih=>
    intro b r h
    cases b with
    | nil=>simp at h
    | cons y b=>rw [List.cons_append,tZ,ih b r (by simpa using h)]; rfl
  exact key _ _ _ (by simp [hs u (by simp),hv])
 | u::es,i+1,v,hs,hv,h=>by
  have ih:=Vl (es:=es) (i:=i) (fun w hw=>hs w (by simp [hw])) hv (by simpa using h)
  simp only [bH,List.set_cons_succ]
  have key:∀ (a r vs q:List Value) (m:Nat),ie m r vs=some q→ie (a.length+m) (a++r) vs=some (a++q):=by
   intro a
   induction a with
   | nil=>intro r vs q m h; simpa using h
   | cons x a ih=>
    intro r vs q m h
    rw [List.length_cons,show a.length+1+m=(a.length+m)+1 by omega,List.cons_append,qF,ih r vs q m h]
    rfl
  have:=key u.cells.toList _ _ _ _ ih
  rw [show u.cells.toList.length+i * n=(i+1) * n by simp [hs u (by simp),Nat.succ_mul]; omega] at this
  exact this
def xn (es:List Value):List (Nat×Value)→List Value
 | []=>es
 | (i,v)::rest=>xn (es.set i v) rest
theorem M7:∀ (ps:List (Nat×Value)) (es:List Value),(xn es ps).length=es.length
 | [],_=>rfl
 | p::ps,es=>by simp [xn,M7 ps]
theorem YE {n:Nat} (hn:1≤n):∀ {ps:List (Nat×Value)} {es:List Value},(∀ u∈es,u.cells.size=n)→(∀ p∈ps,p.2.cells.size=n∧p.1 < es.length)→
  yl (xS n) (bH es) ps=some (bH (xn es ps))∧∀ u∈xn es ps,u.cells.size=n
 | [],es,hs,_=>⟨rfl,hs⟩
 | (i,v)::ps,es,hs,hp=>by
  obtain ⟨h1,h2⟩:=hp (i,v) (by simp)
  have h3:=Vl hs h1 h2
  have Yc:∀ u∈es.set i v,u.cells.size=n:=by
   intro u hu
   rcases List.mem_or_eq_of_mem_set hu with h | h
   ·exact hs u h
   ·subst h; exact h1
  obtain ⟨h4,h5⟩:=YE hn (ps:=ps) Yc (fun p hq=>by have:=hp p (by simp [hq]); simpa using this)
  refine ⟨?_,h5⟩
  simp only [yl,xS]
  have e1:Nat.beq v.cells.size n=true:=by rw [h1]; simp
  have e2:Nat.ble 1 n=true:=Nat.ble_eq_true_of_le hn
  rw [e1,e2]
  simp only [Bool.and_self,cond_true,h3,Option.bind_some]
  exact h4
theorem OA {v:KV} {u:Value} (h:VK P E v u):∀ {es:List KV} {bq:List Value} (i:Nat),bf P E es bq→bf P E (setAt es i v) (bq.set i u)
 | [],bq,i,q=>by rw [q.ck]; cases i <;> exact .nil
 | x::es,bq,0,q=>by
  obtain ⟨y,ys,rfl,h1,h2⟩:=q.cons_inv
  exact .cons h h2
 | x::es,bq,i+1,q=>by
  obtain ⟨y,ys,rfl,h1,h2⟩:=q.cons_inv
  exact .cons h1 (OA h i h2)
theorem YF {l:uU} : ∀ {is:List Nat} {vs:List KV} {us:List Value} {es:List KV} {bq:List Value},bf P E vs us→bf P E es bq→bf P E (Hz es ((yw is vs).map fun p=>(p.1,gp l p.2))) (xn bq (zipIdx is us))
 | [],vs,us,es,bq,_,h=>by simpa [yw,zipIdx,Hz,xn] using h
 | i::is,[],us,es,bq,hv,h=>by rw [hv.ck]; simpa [yw,zipIdx,Hz,xn] using h
 | i::is,v::vs,us,es,bq,hv,h=>by
  obtain ⟨y,ys,rfl,h1,h2⟩:=hv.cons_inv
  simp only [yw,zipIdx,List.map_cons,Hz,xn]
  exact YF h2 (OA h1.gp i h)
theorem AG:∀ (es:List KV) (i:Nat) (v:KV),(setAt es i v).length=es.length
 | [],0,_=>rfl
 | [],_+1,_=>rfl
 | _::_,0,_=>rfl
 | e::es,i+1,v=>by simp [setAt,AG es i v]
theorem M8:∀ (ps:List (Nat×KV)) (es:List KV),(Hz es ps).length=es.length
 | [],_=>rfl
 | p::ps,es=>by simp [Hz,M8 ps,AG]
theorem ahe {n:Nat} : ∀ {is:List Nat} (us:List Value),CA n is=true→∀ p∈zipIdx is us,p.1 < n∧p.2∈us
 | [],us,_,p,h=>by simp [zipIdx] at h
 | i::is,[],_,p,h=>by simp [zipIdx] at h
 | i::is,u::us,h,p,hp=>by
  simp only [CA,Bool.and_eq_true,Nat.blt_eq] at h
  simp only [zipIdx,List.mem_cons] at hp
  rcases hp with rfl | hp
  ·exact ⟨h.1,by simp⟩
  ·obtain ⟨h1,h2⟩:=ahe us h.2 p hp
   exact ⟨h1,by simp [h2]⟩
theorem Cj (z:Value):∀ n,gn z.cells.toList n=bH (List.replicate n z)
 | 0=>rfl
 | n+1=>by simp [gn,List.replicate_succ,bH,Cj z n]
theorem Qo {z:KV} {u:Value} (h:VK P E z u):∀ n,bf P E (dV [z] n) (List.replicate n u)
 | 0=>.nil
 | n+1=>by simpa [dV,List.replicate_succ] using bf.cons h (Qo h n)
theorem om {l:uU} : ∀ {es:List KV} {bq:List Value},fM l es=true→bf P E es bq→∀ u∈bq,u.cells.size=l.ks.length∧∀ c∈u.cells.toList,scalar c=true
 | [],bq,_,h,u,hu=>by rw [h.ck] at hu; simp at hu
 | e::es,bq,Ba,h,u,hu=>by
  obtain ⟨y,ys,rfl,h1,h2⟩:=h.cons_inv
  simp only [fM,Bool.and_eq_true] at Ba
  rcases List.mem_cons.1 hu with rfl | hu
  ·obtain ⟨k1,k2⟩:=iH Ba.1
   have hc:=h1.cells k2
   refine ⟨?_,hc.scalar (Ci k1)⟩
   have:=hc.length
   have:=pY k1
   simp at *
   omega
  ·exact om Ba.2 h2 u hu
theorem abP {l:uU} : ∀ {vs:List KV} {us:List Value},bf P E vs us→bf P E (vs.map (gp l)) us
 | [],_,h=>h
 | v::vs,us,h=>by
  obtain ⟨y,ys,rfl,h1,h2⟩:=h.cons_inv
  exact .cons h1.gp (abP h2)
theorem aa3 {e:TypeId} {n len:Nat} {z:Value} {is:List Nat} (hn:(bu P e).ks.length=n) (h1n:1≤n) (hz:z.cells.size=n) (hb:CA len is=true) :
  ajf P (J7 (bu P e) e (gp (bu P e) (gS z)) len is) (uM n z len is):=by
 intro E A B vs us v h hv hg
 unfold J7 at hg
 obtain ⟨hc,hg⟩:=a5.cond hg
 simp only [Bool.and_eq_true] at hc
 obtain ⟨⟨hk,hvs⟩,Ba⟩:=hc
 have hg:KV.ts e .exact len _ _=v:=hg
 subst hg
 have HN:VK P E (gp (bu P e) (gS z)) z:=(VK.gS z).gp
 have zD:=YF (l:=bu P e) (is:=is) hv (Qo HN len)
 have hlen:(Hz (dV [gp (bu P e) (gS z)] len) ((yw is vs).map fun p=>(p.1,gp (bu P e) p.2))).length=len:=by
  rw [M8,BG]; simp
 have akQ:∀ p∈zipIdx is us,p.2.cells.size=n∧p.1 < (List.replicate len z).length:=by
  intro p hp
  obtain ⟨h5,h6⟩:=ahe us hb p hp
  have hm:bf P E (vs.map (gp (bu P e))) us:=abP hv
  exact ⟨by rw [← hn]; exact (om hvs hm p.2 h6).1,by simpa using h5⟩
 obtain ⟨h3,h4⟩:=YE h1n (ps:=zipIdx is us) (es:=List.replicate len z) (fun u hu=>by rw [(List.mem_replicate.1 hu).2]; exact hz) akQ
 have uT:=om Ba zD
 have o4:(bH (xn (List.replicate len z) (zipIdx is us))).all scalar=true:=List.all_eq_true.2 (AE fun u hu=>(uT u hu).2)
 refine ⟨.row (bH (xn (List.replicate len z) (zipIdx is us))) n true none,fun b=>.slice (some ⟨b,0,none⟩) len len,E.gA B.next ⟨_,n,true,none⟩,?_,?_,ee.ahd h⟩
 ·unfold uM
  rw [Cj,h3]
  simp only [Option.bind_some]
  rw [o4,HJ hv hk]
  rfl
 ·have agh:=zD.mono (ee.ahd (b8:=bH (xn (List.replicate len z) (zipIdx is us))) (bU:=n) h).le
  have mB:(xn (List.replicate len z) (zipIdx is us)).length=len:=by rw [M7]; simp
  simp only [VK]
  refine ⟨⟨hlen.symm,fun i _=>rfl,Ba⟩,_,agh,some ⟨B.next,0,none⟩,len,rfl,Nat.le_refl _,.inr ⟨B.next,0,⟨bH (xn (List.replicate len z) (zipIdx is us)),n,true,none⟩,rfl,by simp [Env.gA],hn.symm,?_⟩,rfl,fun b off hb=>?_⟩
  ·have:=mF h4
   unfold bg
   rw [hn]
   exact this
  ·simp at hb
   obtain ⟨rfl,rfl⟩:=hb
   refine ⟨⟨bH (xn (List.replicate len z) (zipIdx is us)),n,true,none⟩,by simp [Env.gA],rfl,rfl,?_⟩
   simp only [bg,hn]
   rw [jw h4,mB]
   omega
theorem acW {n len:Nat} {z:Value} {is:List Nat} (ho:ij (gS z).cells=true):abN P (Om n (gS z).cells len is) (uM n z len is):=by
 intro E A A' B vs us v h hv hg
 unfold Om at hg
 split at hg
 ·rename_i cs hf
  obtain ⟨hk,hg⟩:=a5.cond hg
  simp only [Bool.and_eq_true] at hk
  have hg:(KV.sl A.next 0 len len,A.new (.row cs n))=(v,A'):=hg
  simp only [Prod.mk.injEq] at hg
  obtain ⟨rfl,rfl⟩:=hg
  obtain ⟨h2,h3⟩:=Yr is hv
  obtain ⟨r',e,hr⟩:=Yq h2 h3 (fun p hp=>by have:=Ys is vs p hp; exact List.all_eq_true.1 hk.1 _ this) (Kj (z0 (P:=P) (E:=E) ho) len) hf
  refine ⟨.row r' n true none,fun b=>.slice (some ⟨b,0,none⟩) len len,E.lM A.next B.next,?_,.aha (by simp [Env.lM]),ee.newRow h hr⟩
  unfold uM
  rw [e]
  simp only [Option.bind_some]
  rw [HJ hv hk.1,List.all_eq_true.2 (hr.scalar hk.2)]
  rfl
 ·exact hg.elim
theorem F3 {m cap:Nat} {lo hi:Bool} {r:List KV} {r' : List Value} {x y:Int} (h:Qe m lo hi r=some (x,y)) (hr:bf P E r r') (h0:0≤x) (h1:x≤y) (h2:y≤(m:Int)) (hc:m≤cap) :
  rW m cap lo hi false r' = some (x.toNat,y.toNat,cap):=by
 obtain ⟨x',rfl⟩:=Int.eq_ofNat_of_zero_le h0
 obtain ⟨y',rfl⟩:=Int.eq_ofNat_of_zero_le (Int.le_trans h0 h1)
 have hb:∀ (k:IntKind) (i n:Nat),i≤n→V5 n (.int k (i:Int))=some i:=by
  intro k i n h
  show kM (.ofNat i) (Nat.succ n)=some i
  exact oj (by omega)
 match r,h with
 | [],h=>
  rw [hr.ck]
  cases lo <;> cases hi <;> simp [Qe] at h
  obtain ⟨h3,h4⟩:=h
  simp [rW]
  omega
 | [.int k a],h=>
  obtain ⟨u,rfl,h3⟩:=hr.eU
  have:=h3.du; subst this
  cases lo <;> cases hi <;> simp [Qe] at h
  ·obtain ⟨h4,rfl⟩:=h
   simp only [rW]
   rw [hb k y' cap (by omega)]
   simp
   omega
  ·obtain ⟨rfl,h4⟩:=h
   simp only [rW]
   rw [hb k x' m (by omega)]
   simp
   omega
 | [.int k a,.int k' c],h=>
  obtain ⟨u,v,rfl,h3,h4⟩:=hr.kR
  have:=h3.du; subst this
  have:=h4.du; subst this
  cases lo <;> cases hi <;> simp [Qe] at h
  obtain ⟨rfl,rfl⟩:=h
  simp only [rW]
  rw [hb k' y' cap (by omega)]
  simp only [Option.bind_some]
  rw [hb k x' y' (by omega)]
  simp
theorem M9 {l:uU} : ∀ {es:List KV} (n:Nat),fM l es=true→fM l (es.drop n)=true
 | es,0,h=>by simpa using h
 | [],n+1,_=>rfl
 | e::es,n+1,h=>by
  simp only [fM,Bool.and_eq_true] at h
  simpa using M9 n h.2
theorem Na {l:uU} : ∀ {es:List KV} (n:Nat),fM l es=true→fM l (es.take n)=true
 | es,0,h=>rfl
 | [],n+1,_=>rfl
 | e::es,n+1,h=>by
  simp only [fM,Bool.and_eq_true] at h
  simp [fM,h.1,Na n h.2]
theorem IX {l:uU} : ∀ {es fs:List KV},fM l es=true→fM l fs=true→fM l (es++fs)=true
 | [],fs,_,h=>h
 | e::es,fs,h,k=>by
  simp only [fM,Bool.and_eq_true] at h
  simp [fM,h.1,IX h.2 k]
theorem n6.part {sz off x k:Nat} {cs es:List Value} (h:n6 sz off cs es):n6 sz (off+x * sz) cs ((es.drop x).take k):=by
 intro i v hv
 rw [List.getElem?_take] at hv
 split at hv
 ·rw [List.getElem?_drop] at hv
  obtain ⟨h1,h2⟩:=h (x+i) v hv
  refine ⟨h1,fun j y hj=>?_⟩
  rw [← h2 j y hj]
  congr 1
  rw [Nat.add_mul]
  omega
 ·simp at hv
theorem Tq {es:List KV} {i:Nat} (h:i < es.length):es[i]? = some (es.getD i .ax):=by simp [List.getD,h]
theorem aey {n:Nat} {lo hi:Bool} (_:1≤n):aeu P (Tf P n lo hi) (xT n lo hi false):=by
 intro E A B vs us v h hv hg
 unfold Tf at hg
 split at hg
 ·rename_i T mk m es acc r
  split at hg
  ·rename_i x y hb
   obtain ⟨fo,hg⟩:=hg.cond
   have fo:=Nat.eq_of_beq_eq_true fo
   obtain ⟨hc,rfl⟩:=a5.lV hg
   simp only [Bool.and_eq_true,decide_eq_true_eq] at hc
   obtain ⟨⟨h0,h1⟩,h2⟩:=hc
   obtain ⟨u,r',rfl,h3,h4⟩:=hv.cons_inv
   obtain ⟨ht,bq,h5,a,cap,rfl,h6,h7,_⟩:=h3.mi
   have PY:=F3 hb h4 h0 h1 h2 h6
   have hlen:=ht.len
   have hle:((es.drop x.toNat).take (y.toNat - x.toNat)).length=y.toNat - x.toNat:=by simp; omega
   have hT:je P T (y.toNat - x.toNat) ((es.drop x.toNat).take (y.toNat - x.toNat)) (fun i=>acc (x.toNat+i)):=by
    refine ⟨hle.symm,fun i hi=>?_,Na _ (M9 _ ht.typed)⟩
    rw [ht.acc _ (by omega)]
    simp only [List.getD]
    rw [List.getElem?_take,if_pos hi,List.getElem?_drop]
   rcases h7 with ⟨rfl,hm⟩ | ⟨b,off,rr,rfl,h8,h9,sn⟩
   ·refine ⟨.slice none (y.toNat - x.toNat) (cap - x.toNat),by simp [xT,PY],?_⟩
    simp only [VK]
    exact ⟨hT,_,(h5.drop _).take _,none,_,rfl,by omega,.inl ⟨rfl,by omega⟩,trivial⟩
   ·have jD:=h.z b rr h8
    have PW:rr.bU=n:=by rw [h9]; exact fo
    refine ⟨.slice (some ⟨b,off+x.toNat * n,none⟩) (y.toNat - x.toNat) (cap - x.toNat),?_,?_⟩
    ·simp [xT,PY,dm,Aw,jD,PW]
    ·simp only [VK]
     refine ⟨hT,_,(h5.drop _).take _,_,_,rfl,by omega,.inr ⟨b,off+x.toNat * n,rr,rfl,h8,h9,?_⟩,trivial⟩
     have:bg P T=n:=fo
     rw [this] at sn ⊢
     exact sn.part
  ·exact hg.elim
 ·rename_i b o len cap r
  split at hg
  ·rename_i cs bU jD
   split at hg
   ·rename_i x y hb
    obtain ⟨fo,hg⟩:=hg.cond
    have fo:=Nat.eq_of_beq_eq_true fo
    obtain ⟨hc,rfl⟩:=a5.lV hg
    simp only [Bool.and_eq_true,decide_eq_true_eq] at hc
    obtain ⟨⟨⟨h0,h1⟩,h2⟩,h6⟩:=hc
    obtain ⟨u,r',rfl,h3,h4⟩:=hv.cons_inv
    obtain ⟨z,hz,rfl⟩:=h3.LW
    have PY:=F3 hb h4 h0 h1 h2 h6
    obtain ⟨z',b8,e1,e2,_⟩:=h.row b cs bU jD
    rw [hz] at e1
    simp at e1
    subst e1
    refine ⟨.slice (some ⟨z,o+x.toNat * n,none⟩) (y.toNat - x.toNat) (cap - x.toNat),?_,.aha hz⟩
    simp [xT,PY,dm,Aw,e2,fo]
   ·exact hg.elim
  ·exact hg.elim
 ·rename_i T b o m r
  split at hg
  ·rename_i T' mk N es acc hA
   split at hg
   ·rename_i x y hb
    obtain ⟨fo,hg⟩:=hg.cond
    obtain ⟨hc,rfl⟩:=a5.lV hg
    simp only [Bool.and_eq_true] at fo
    have hT:=Nat.eq_of_beq_eq_true fo.2
    have alf:bg P T=n:=Nat.eq_of_beq_eq_true fo.1
    subst hT
    simp only [Bool.and_eq_true,decide_eq_true_eq] at hc
    obtain ⟨⟨h0,h1⟩,h2⟩:=hc
    obtain ⟨u,r',rfl,h3,h4⟩:=hv.cons_inv
    rcases h3.u3 with ⟨rfl,rfl,rfl⟩ | ⟨z,L,N',c,e1,rfl,e2,e3,e4⟩
    ·have PY:=F3 hb h4 h0 h1 h2 (Nat.le_refl _)
     have hx0:x.toNat=0:=by omega
     have hy0:y.toNat=0:=by omega
     refine ⟨.slice none (y.toNat - x.toNat) (0 - x.toNat),by simp [xT,PY],.M5 (.inl ⟨by omega,by omega,by rw [hx0,hy0]⟩)⟩
    ·have PY:=F3 hb h4 h0 h1 h2 e2
     obtain ⟨T2,N2,o5,fT,PV,_,_,cs,e,own,bQ,bq,_,h5,_,_,_,h7⟩:=h.EL hA e1
     simp only [KV.ts.injEq] at PV
     obtain ⟨rfl,_⟩:=PV
     refine ⟨.slice (some ⟨z,o * bg P T+x.toNat * n,none⟩) (y.toNat - x.toNat) (c - x.toNat),?_,.M5 (.inr ⟨z,L,N',c - x.toNat,e1,?_,by omega,by omega,?_⟩)⟩
     ·simp [xT,PY,dm,Aw,h5,h7,alf]
     ·simp only [Value.slice.injEq,Option.some.injEq,Addr.mk.injEq,and_true,true_and]
      rw [alf,Nat.add_mul]
     ·rw [← e4]
      congr 1
      omega
   ·exact hg.elim
  ·exact hg.elim
 ·exact hg.elim
theorem acX {len n:Nat} {lo hi:Bool} : aeu P (Ot len n lo hi) (Hj len n lo hi false):=by
 intro E A B vs us v h hv hg
 unfold Ot at hg
 split at hg
 ·rename_i b o r
  split at hg
  ·rename_i cs bU jD
   split at hg
   ·rename_i x y hb
    obtain ⟨fo,hg⟩:=hg.cond
    simp only [Bool.and_eq_true] at fo
    have tr:=Nat.eq_of_beq_eq_true fo.1
    have hsz2:=Nat.le_of_ble_eq_true fo.2
    obtain ⟨hc,rfl⟩:=a5.lV hg
    simp only [Bool.and_eq_true,decide_eq_true_eq] at hc
    obtain ⟨⟨h0,h1⟩,h2⟩:=hc
    obtain ⟨u,r',rfl,h3,h4⟩:=hv.cons_inv
    obtain ⟨z,hz,rfl⟩:=h3.iW
    have PY:=F3 hb h4 h0 h1 h2 (Nat.le_refl _)
    obtain ⟨z',b8,e1,e2,e3⟩:=h.row b cs bU jD
    rw [hz] at e1
    simp at e1
    subst e1
    have hlen:=e3.length
    refine ⟨.slice (some ⟨z,o+x.toNat * n,none⟩) (y.toNat - x.toNat) (len - x.toNat),?_,.aha hz⟩
    have rl:Nat.ble (o+len * n) b8.length=true:=Nat.ble_eq_true_of_le (by omega)
    simp [Hj,PY,dm,Aw,PI,e2,tr,rl]
    try omega
   ·exact hg.elim
  ·exact hg.elim
 ·exact hg.elim
theorem acY {lo hi:Bool} : uo P (Ou lo hi) (CM lo hi):=by
 intro E vs us v hv hg
 unfold Ou at hg
 split at hg
 ·rename_i s r
  split at hg
  ·rename_i x y hb
   obtain ⟨hc,rfl⟩:=a5.lV hg
   simp only [Bool.and_eq_true,decide_eq_true_eq] at hc
   obtain ⟨⟨h0,h1⟩,h2⟩:=hc
   obtain ⟨u,r',rfl,h3,h4⟩:=hv.cons_inv
   have:=h3.rv; subst this
   have PY:=F3 hb h4 h0 h1 h2 (Nat.le_refl _)
   exact ⟨_,by simp [CM,PY],.mkStr⟩
  ·exact hg.elim
 ·exact hg.elim
theorem acZ:aeu P (fun _=>HA) CO:=by
 intro E A B vs us v h hv hg
 have hg:a5 (HA vs) v:=hg
 unfold HA at hg
 split at hg
 ·obtain ⟨u,rfl,h1⟩:=hv.eU
  have:=h1.nQ; subst this
  have hg:KV.str ⟨⟨[]⟩⟩=v:=hg
  subst hg
  exact ⟨_,rfl,.mkStr⟩
 ·rename_i T mk m es acc _
  obtain ⟨u,rfl,h1⟩:=hv.eU
  obtain ⟨hc,rfl⟩:=a5.lV hg
  obtain ⟨ht,bq,h5,a,cap,rfl,h6,h7,_⟩:=h1.mi
  have hlen:=ht.len
  rcases h7 with ⟨rfl,hm⟩ | ⟨b,off,rr,rfl,h8,h9,sn⟩
  ·have:es = []:=List.length_eq_zero_iff.1 (by omega)
   subst this
   exact ⟨_,rfl,.mkStr⟩
  ·have jD:=h.z b rr h8
   have wC:∀ (i:Nat) (w:Value),bq[i]? = some w→∃ e,es[i]? = some e∧w = .int .u8 (byteOf e).toNat∧w.cells.size=1:=by
    intro i w hw
    have hi:i < es.length:=by rw [← h5.length]; exact (List.getElem?_eq_some_iff.1 hw).1
    obtain ⟨w',e1,e2⟩:=h5.get (Tq hi)
    rw [hw] at e1
    simp at e1
    subst e1
    have zu:=List.all_eq_true.1 hc _ (List.mem_of_getElem? (Tq hi))
    refine ⟨_,Tq hi,?_⟩
    revert e2 zu
    generalize es.getD i .ax=e
    intro e2 zu
    cases e <;> simp [ag3] at zu
    rename_i k q
    cases k <;> simp at zu
    have:=e2.du; subst this
    refine ⟨?_,rfl⟩
    simp only [byteOf,Value.int.injEq,true_and]
    obtain ⟨p,rfl⟩:=Int.eq_ofNat_of_zero_le zu.1
    have hp:p < 256:=by omega
    simp [UInt8.toNat_ofNat',Nat.mod_eq_of_lt hp]
   have amr:bq=es.map fun e=>.int .u8 (byteOf e).toNat:=by
    apply List.ext_getElem?
    intro i
    cases hw:bq[i]? with
    | none=>
     have:es.length≤i:=by rw [← h5.length]; exact List.getElem?_eq_none_iff.1 hw
     simp [this]
    | some w=>
     obtain ⟨e,e1,e2,_⟩:=wC i w hw
     simp [e1,e2]
   have tr:∀ i w,bq[i]? = some w→bg P T=1:=fun i w hw=>by
    obtain ⟨_,_,_,DJ⟩:=wC i w hw
    rw [← (sn i w hw).1]; exact DJ
   have BD:B.vN ⟨b,off,none⟩ m=some bq:=by
    simp only [St.vN,dm,Option.isNone_none,cond_true,xR,jD,Option.bind_some]
    have r9:bq.length=m:=by rw [h5.length]; exact hlen.symm
    have od:∀ i,i < m→rr.cs[off+i]? = bq[i]?:=by
     intro i hi
     have PE:i < bq.length:=by omega
     have hw:bq[i]? = some bq[i]:=List.getElem?_eq_getElem PE
     have h1':=tr i _ hw
     obtain ⟨h12,h13⟩:=sn i _ hw
     obtain ⟨e,e1,e2,_⟩:=wC i _ hw
     have:=h13 0 bq[i] (by rw [e2]; rfl)
     rw [h1'] at this
     rw [hw,← this]
     congr 1
     omega
    have hle:m≤(rr.cs.drop off).length:=by
     cases hm0:m with
     | zero=>omega
     | succ q=>
      have:=od q (by omega)
      have hq:q < bq.length:=by omega
      rw [List.getElem?_eq_getElem hq] at this
      have:=(List.getElem?_eq_some_iff.1 this).1
      simp
      omega
    rw [rh,F2 hle]
    congr 1
    apply List.ext_getElem?
    intro i
    rw [List.getElem?_take]
    split
    ·rename_i hi
     rw [List.getElem?_drop]
     exact od i hi
    ·rename_i hi
     exact (List.getElem?_eq_none_iff.2 (by omega)).symm
   have acJ:∀ (l:List KV),DM (l.map fun e=>.int .u8 (byteOf e).toNat)=some (l.map byteOf):=by
    intro l
    induction l with
    | nil=>rfl
    | cons e l ih=>
     have hb:=(byteOf e).toNat_lt
     show cond (Nat.blt (byteOf e).toNat 256) ((DM (l.map fun e=>.int .u8 (byteOf e).toNat)).map (UInt8.ofNat (byteOf e).toNat::·)) none=_
     have:Nat.blt (byteOf e).toNat 256=true:=by rw [Nat.blt_eq]; omega
     rw [this,cond_true,ih]
     simp
   refine ⟨.string ⟨⟨es.map byteOf⟩⟩,?_,.mkStr⟩
   simp only [CO,BD,Option.bind_some]
   rw [amr,acJ]
   rfl
 ·exact hg.elim
theorem YG {b lo hi:Nat} : ∀ {L:List Nat} {B:St},(∀ x∈L,qE (B.get x) lo hi=false)→B.kill b lo hi L=B
 | [],B,_=>rfl
 | x::L,B,h=>by
  simp only [St.kill]
  rw [h x (by simp),Bool.and_false,cond_false]
  exact YG fun y hy=>h y (by simp [hy])
theorem ee.ahf {A:az} {B:St} (sz:Nat) (h:fI P E A B):ee P E A B E (A.new (.bb 0 sz)) B:=by
 have hn:E.φ A.next=none:=by
  cases EO:E.φ A.next with
  | none=>rfl
  | some g=>have:=h.mW _ g EO; omega
 have hA:∀ (b:Nat) (v:KV),(A.new (.bb 0 sz)).get b=some (.arr v)→A.get b=some (.arr v):=fun b v hb=>by
  rw [az.dt] at hb
  split at hb
  ·simp at hb
  ·exact hb
 have YA:∀ (b:Nat) (v:KV),(A.new (.bb 0 sz)).get b=some (.jK v)→A.get b=some (.jK v):=fun b v hb=>by
  rw [az.dt] at hb
  split at hb
  ·simp at hb
  ·exact hb
 refine ⟨⟨?_,?_,h.z,h.apart,h.inj,h.jM.new (.inr hn),fun b x e=>?_,fun b g e=>?_,?_,h.gY,h.m9,h.kc,h.fresh,h.mem,h.ar.mb (Env.le_refl _) (fun _=>rfl) hA YA (by simp) (Nat.le_refl _) (fun _ _=>rfl) (fun _ _ e=>.inl e) (fun _ _ e=>.inl e) (fun b g e=>.inl ⟨b,e⟩) (fun _ _=>rfl) h.mem⟩,Env.le_refl _,by simp,fun _ _ _ _=>rfl,fun _ _ e=>.inl e,fun _ _ e=>.inl e,fun _ _ e=>.inl e,fun _ _ _ _=>rfl,fun _ q=>.inl (q.of (fun _=>rfl) hA),fun _ q=>.inl (q.of (fun _=>rfl) hA fun _ _=>rfl),fun _ _ q=>.inl q,fun _ q=>.inl (q.of (fun _=>rfl) hA (fun _ _=>rfl) fun _ _=>rfl),mZ fun _ _=>rfl⟩
 ·intro b cs bU hb
  rw [az.dt] at hb
  split at hb
  ·simp at hb
  ·exact h.row b cs bU hb
 ·intro b top C1 hb
  rw [az.dt] at hb
  split at hb
  ·rename_i e
   simp at hb
   refine .inl ⟨hb.1.symm,?_⟩
   cases EO:E.φ b with
   | none=>rfl
   | some g=>have:=h.mW b g EO; omega
  ·exact h.bb b top C1 hb
 ·have:=h.lD b x e; rw [az.cq]; omega
 ·have:=h.mW b g e; rw [az.cq]; omega
 ·intro b o hb
  rw [az.dt] at hb
  rw [az.cq]
  split at hb
  ·omega
  ·have:=h.live b o hb; omega
theorem ee.grow {A:az} {B:St} {f g top Nb sz:Nat} {c:List Value} (h:fI P E A B) (hA:A.get f=some (.bb top sz)) (hf:(E.φ f=none∧g=B.next)∨E.φ f=some g) (hc:c.length=Nb * sz) (ht:top≤Nb) (FH:0 < Nb) :
  ee P E A B ((E.gA B.next ⟨c,sz,true,some (g,0)⟩).rA f g) (A.put f (.bb Nb sz)) (B.grow g 0 c sz):=by
 have mQ:∀ x,(B.grow g 0 c sz).get x=if x=B.next then some (.row c sz true (some (g,0))) else B.get x:=fun x=>by simp [St.grow]
 have lJ:∀ q,(B.grow g 0 c sz).members q=if q=g then B.next::B.members g else B.members q:=fun q=>by simp [St.grow,St.Az]
 have jd:(B.grow g 0 c sz).next=B.next+1:=rfl
 have hlef:=h.live f _ hA
 have hle:E.le ((E.gA B.next ⟨c,sz,true,some (g,0)⟩).rA f g):=by
  refine ⟨fun _ _ e=>e,fun _ _ e=>e,fun b r e=>?_,fun b q e=>?_⟩
  ·have:=h.m9 b r e
   simp only [Env.rA,Env.gA]; rw [if_neg (by omega)]; exact e
  ·simp only [Env.rA,Env.gA]
   split
   ·rename_i e2
    subst e2
    rcases hf with ⟨h1,_⟩ | h1
    ·rw [h1] at e; simp at e
    ·rw [h1] at e; exact e
   ·exact e
 have hg:g≤B.next:=by
  rcases hf with ⟨_,h1⟩ | h1
  ·omega
  ·have:=h.kc f g h1; omega
 generalize hB' : B.grow g 0 c sz=B' at mQ lJ jd
 have hAk:∀ (b:Nat) (v:KV),(A.put f (.bb Nb sz)).get b=some (.arr v)→A.get b=some (.arr v):=fun b v hb=>by
  rw [az.ca] at hb
  split at hb
  ·simp at hb
  ·exact hb
 have YA:∀ (b:Nat) (v:KV),(A.put f (.bb Nb sz)).get b=some (.jK v)→A.get b=some (.jK v):=fun b v hb=>by
  rw [az.ca] at hb
  split at hb
  ·simp at hb
  ·exact hb
 have xm:∀ x,x < B.next→B'.get x=B.get x:=fun x hx=>by rw [mQ,if_neg (by omega)]
 have HL:∀ b r,((E.gA B.next ⟨c,sz,true,some (g,0)⟩).rA f g).z b=some r→E.z b=some r∨B.next≤b:=fun b r e=>by
  simp only [Env.rA,Env.gA] at e
  split at e
  ·exact .inr (by omega)
  ·exact .inl e
 have alg:∀ b q,((E.gA B.next ⟨c,sz,true,some (g,0)⟩).rA f g).φ b=some q→E.φ b=some q∨B.next≤q:=fun b q e=>by
  simp only [Env.rA,Env.gA] at e
  split at e
  ·rename_i e2
   simp at e
   subst e e2
   rcases hf with ⟨_,h1⟩ | h1
   ·exact .inr (by omega)
   ·exact .inl h1
  ·exact .inl e
 have Wb:∀ q,AF A E B q→B'.members q=B.members q:=fun q hq=>by
  rw [lJ,if_neg]
  intro e2
  subst e2
  obtain ⟨b,v,x,L,N,cs,e,own,k,h1,h2,h3⟩:=hq
  obtain ⟨h4,h5,_⟩:=h.ar.rZ b v x L N cs e own q k h1 h2 h3
  rcases hf with ⟨_,h1⟩ | h1
  ·omega
  ·exact h5 f h1
 have agi:∀ q y,y∈B'.members q→y∈B.members q∨B.next≤y:=fun q y hy=>by
  rw [lJ] at hy
  split at hy
  ·rename_i e2
   subst e2
   rcases List.mem_cons.1 hy with hy | hy
   ·exact .inr (by omega)
   ·exact .inl hy
  ·exact .inl hy
 refine ⟨⟨?_,?_,?_,?_,?_,?_,?_,?_,?_,?_,?_,?_,?_,?_,h.ar.mb hle (fun _=>rfl) hAk YA (Nat.le_refl _) (by omega) (fun x q=>xm x (h.DZ q)) HL (fun _ _ e=>.inl e) (fun b q e=>(alg b q e).imp (fun e=>⟨b,e⟩) id) Wb h.mem⟩,hle,Nat.le_refl _,?_,fun b x e=>.inl e,fun b r e=>(HL b r e).imp id .inr,alg,fun q hq hn _=>by
  rw [lJ,if_neg]
  intro e2
  subst e2
  rcases hf with ⟨_,h1⟩ | h1
  ·omega
  ·exact hn f h1,fun _ q=>.inl (q.of (fun _=>rfl) hAk),fun _ q=>.inl (q.of (fun _=>rfl) hAk fun x q=>xm x (h.DZ q)),agi,fun _ q=>.inl (q.of (fun _=>rfl) hAk (fun x q=>xm x (h.DZ q)) Wb),mZ xm⟩
 ·intro b cs bU hb
  rw [az.ca] at hb
  split at hb
  ·simp at hb
  ·obtain ⟨x,c2,h1,h2,h3⟩:=h.row b cs bU hb
   have:=h.gY b x h1
   exact ⟨x,c2,h1,by rw [mQ,if_neg (by omega)]; exact h2,h3.mono hle⟩
 ·intro b t C1 hb
  rw [az.ca] at hb
  split at hb
  ·rename_i e
   simp at hb
   obtain ⟨rfl,rfl⟩:=hb
   subst e
   refine .inr ⟨g,by simp [Env.rA],FH,fun x hx cs e own q k hr=>?_⟩
   rw [mQ] at hr
   rw [lJ,if_pos rfl] at hx
   split at hr
   ·simp at hr
    obtain ⟨rfl,rfl,_,_,rfl⟩:=hr
    exact ⟨rfl,Nat.le_of_eq hc⟩
   ·rename_i dT
    rcases List.mem_cons.1 hx with hx | hx
    ·exact absurd hx dT
    ·rcases hf with ⟨_,h1⟩ | h1
     ·rw [h1,h.fresh _ (Nat.le_refl _)] at hx; simp at hx
     ·rcases h.bb b top sz hA with ⟨_,h2⟩ | ⟨g2,h2,_,h3⟩
      ·rw [h1] at h2; simp at h2
      ·rw [h1] at h2
       simp at h2
       subst h2
       obtain ⟨h4,h5⟩:=h3 x hx cs e own q k hr
       exact ⟨h4,Nat.le_trans h5 (Nat.mul_le_mul_right _ ht)⟩
  ·rename_i JK
   rcases h.bb b t C1 hb with ⟨h1,h2⟩ | ⟨g2,h2,hp2,h3⟩
   ·exact .inl ⟨h1,by simp only [Env.rA,Env.gA]; rw [if_neg JK]; exact h2⟩
   ·have dT:g2≠g:=by
     intro e
     subst e
     rcases hf with ⟨_,h1⟩ | h1
     ·have:=h.kc b g2 h2; omega
     ·exact JK (h.jM b f g2 _ _ _ _ hb hA h2 h1)
    refine .inr ⟨g2,by simp only [Env.rA,Env.gA]; rw [if_neg JK]; exact h2,hp2,fun x hx cs e own q k hr=>?_⟩
    rw [lJ,if_neg dT] at hx
    have:=h.mem g2 x hx
    rw [mQ,if_neg (by omega)] at hr
    exact h3 x hx cs e own q k hr
 ·intro b r hb
  simp only [Env.rA,Env.gA] at hb
  rw [mQ]
  split at hb
  ·rename_i e; simp at hb; subst hb; rw [if_pos e]
  ·rename_i e; rw [if_neg e]; exact h.z b r hb
 ·intro b x hb
  have hb:E.κ b=some x:=hb
  have:=h.gY b x hb
  simp only [Env.rA,Env.gA]
  rw [if_neg (by omega)]
  exact h.apart b x hb
 ·exact h.inj
 ·intro b d q tb sb td sd lb ld hb hd
  simp only [Env.rA,Env.gA] at hb hd
  rw [az.ca] at lb ld
  have key:∀ d t s,d≠f→A.get d=some (.bb t s)→E.φ d≠some g:=by
   intro d t s hd hl e
   rcases hf with ⟨_,h1⟩ | h1
   ·have:=h.kc d g e; omega
   ·exact hd (h.jM d f g _ _ _ _ hl hA e h1)
  by_cases e1:b=f <;> by_cases e2:d=f
  ·omega
  ·rw [if_pos e1] at hb; rw [if_neg e2] at hd ld; simp at hb; subst hb; exact absurd hd (key d _ _ e2 ld)
  ·rw [if_pos e2] at hd; rw [if_neg e1] at hb lb; simp at hd; subst hd; exact absurd hb (key b _ _ e1 lb)
  ·rw [if_neg e1] at hb lb; rw [if_neg e2] at hd ld; exact h.jM b d q _ _ _ _ lb ld hb hd
 ·exact h.lD
 ·intro b q hb
  simp only [Env.rA,Env.gA] at hb
  rw [az.ri]
  split at hb
  ·omega
  ·exact h.mW b q hb
 ·intro b o hb
  rw [az.ca] at hb
  rw [az.ri]
  split at hb
  ·omega
  ·exact h.live b o hb
 ·intro b x hb; have:=h.gY b x hb; omega
 ·intro b r hb
  simp only [Env.rA,Env.gA] at hb
  rw [jd]
  split at hb
  ·omega
  ·have:=h.m9 b r hb; omega
 ·intro b q hb
  simp only [Env.rA,Env.gA] at hb
  rw [jd]
  split at hb
  ·simp at hb; omega
  ·have:=h.kc b q hb; omega
 ·intro q hq
  rw [jd] at hq
  rw [lJ,if_neg (by omega)]
  exact h.fresh q (by omega)
 ·intro q x hx
  rw [jd]
  rw [lJ] at hx
  split at hx
  ·rcases List.mem_cons.1 hx with hx | hx
   ·omega
   ·have:=h.mem g x hx; omega
  ·have:=h.mem q x hx; omega
 ·intro x hx _ _; rw [mQ,if_neg (by omega)]
end Go.K
end
section
namespace Go.K
open Go Go.aG
variable {P:Program} {E:Env}
def mkE (agg:Bool) (m:List Value):Value:=cond agg (.agg ⟨m⟩) (m.headD .nilIface)
theorem YH {agg:Bool} {m:List Value} (hs:∀ v∈m,scalar v=true) (h:agg=true∨m.length=1):(mkE agg m).cells.toList=m:=by
 cases agg with
 | true=>rfl
 | false=>
  rcases h with h | h
  ·simp at h
  ·match m,h with
   | [v],_=>
    have:=hs v (by simp)
    show v.cells.toList = [v]
    cases v <;> first | rfl | simp [scalar] at this
theorem Tr {l:uU} {ks:List KV} (h:aH l.ks ks=true) (ha:l.agg=true∨l.ks.length=1):dw l (JJ l.agg ks)=true:=by
 obtain ⟨agg,cs⟩:=l
 cases agg with
 | true=>simpa [JJ,dw] using h
 | false=>
  simp at ha
  match cs,ha,ks,h with
  | [c],_,[v],h=>
   have hk:kindOk c v=true:=by simpa [aH] using h
   show dw ⟨false,[c]⟩ v=true
   cases v with
   | agg cs=>cases c <;> simp [kindOk] at hk
   | jE cs=>cases c <;> simp [kindOk] at hk
   | _=>simpa [dw] using h
  | [c],_,[],h=>simp [aH] at h
  | [c],_,_::_::_,h=>simp [aH] at h
theorem YI {E:Env} {ks:List KV} {m:List Value} {agg:Bool} (h:bf P E ks m) (ha:agg=true∨m.length=1):VK P E (JJ agg ks) (mkE agg m):=by
 cases agg with
 | true=>exact .oY h
 | false=>
  rcases ha with ha | ha
  ·simp at ha
  ·match m,ha,ks,h with
   | [v],_,ks,h=>
    have hl:=h.length
    match ks,hl,h with
    | [k],_,h=>
     obtain ⟨y,ys,e,h1,_⟩:=h.cons_inv
     simp at e
     rw [e.1]
     exact h1
theorem HO {α:Type} : ∀ {n:Nat} {l vs r:List α},lh n l vs=some r→
  r.length=l.length∧(vs≠[]→n+vs.length≤l.length)∧∀ (i:Nat),r[i]? = if n≤i∧i < n+vs.length then vs[i - n]? else l[i]?
 | 0,l,[],r,h=>by simp [lh] at h; subst h; simp
 | 0,[],_::_,r,h=>by simp [lh] at h
 | 0,x::l,v::vs,r,h=>by
  simp only [lh,Option.map_eq_some_iff] at h
  obtain ⟨q,hq,rfl⟩:=h
  obtain ⟨h1,h2,h3⟩:=HO hq
  refine ⟨by simp [h1],?_,fun i=>?_⟩
  ·intro _
   cases vs with
   | nil=>simp
   | cons u us=>have:=h2 (by simp); simp at this ⊢; omega
  ·cases i with
   | zero=>simp
   | succ i=>simp [h3 i]
 | n+1,[],[],r,h=>by simp [lh] at h; subst h; simp
 | n+1,[],_::_,r,h=>by simp [lh] at h
 | n+1,x::l,vs,r,h=>by
  simp only [lh,Option.map_eq_some_iff] at h
  obtain ⟨q,hq,rfl⟩:=h
  obtain ⟨h1,h2,h3⟩:=HO hq
  refine ⟨by simp [h1],?_,fun i=>?_⟩
  ·intro dT
   have:=h2 dT
   simp at this ⊢
   omega
  ·cases i with
   | zero=>simp
   | succ i=>
    simp only [List.getElem?_cons_succ,h3 i]
    by_cases hc:n≤i∧i < n+vs.length
    ·rw [if_pos hc,if_pos (by omega),show i+1 - (n+1)=i - n by omega]
    ·rw [if_neg hc,if_neg (by omega)]
theorem OB (v:KV):∀ (es:List KV) (i j:Nat),(setAt es i v).getD j .ax=if j=i∧i < es.length then v else es.getD j .ax
 | [],0,j=>by simp [setAt]
 | [],_+1,j=>by simp [setAt]
 | e::es,0,0=>by simp [setAt]
 | e::es,0,j+1=>by simp [setAt]
 | e::es,i+1,0=>by simp [setAt]
 | e::es,i+1,j+1=>by
  have:=OB v es i j
  simp only [setAt,List.getD_cons_succ,List.length_cons]
  rw [this]
  by_cases h:j=i∧i < es.length
  ·rw [if_pos h,if_pos ⟨by omega,by omega⟩]
  ·rw [if_neg h,if_neg (by omega)]
theorem yD:∀ (n:Nat) (l vs:List Value),n+vs.length≤l.length→∃ r,ie n l vs=some r
 | 0,l,[],_=>⟨l,rfl⟩
 | 0,[],_::_,h=>by simp at h
 | 0,x::l,v::vs,h=>by
  obtain ⟨r,hr⟩:=yD 0 l vs (by simp at h ⊢; omega)
  exact ⟨v::r,by rw [tZ,hr]; rfl⟩
 | n+1,[],[],_=>⟨[],rfl⟩
 | n+1,[],_::_,h=>by simp at h
 | n+1,x::l,vs,h=>by
  obtain ⟨r,hr⟩:=yD n l vs (by simp at h ⊢; omega)
  exact ⟨x::r,by rw [qF,hr]; rfl⟩
theorem Vm:∀ {ks:List CK} {cs:List KV},cs.length=ks.length→(∀ (i:Nat) c v,ks[i]? = some c→cs[i]? = some v→kindOk c v=true)→aH ks cs=true
 | [],[],_,_=>rfl
 | [],_::_,h,_=>by simp at h
 | _::_,[],h,_=>by simp at h
 | c::ks,v::cs,h,k=>by
  simp only [aH,Bool.and_eq_true]
  exact ⟨k 0 c v rfl rfl,Vm (by simpa using h) fun i d u e1 e2=>k (i+1) d u (by simpa using e1) (by simpa using e2)⟩
theorem agj {l:uU} {e:KV} (h:dw l e=true):l.agg=true∨e.cells.length=1:=by
 by_cases ha:∃ cs,e = .agg cs
 ·obtain ⟨cs,rfl⟩:=ha
  simp only [dw,Bool.and_eq_true] at h
  exact .inl h.1
 ·have hc:e.cells = [e]:=by cases e <;> first | rfl | exact absurd ⟨_,rfl⟩ ha
  rw [hc]
  exact .inr rfl
theorem ah6 {T t:TypeId} {k:Nat} {e vn e2:KV} {u w:Value} (hw:Xu P T t k) (Ba:dw (bu P T) e=true) (hu:VK P E e u) (hvn:dw (bu P t) vn=true) (hvw:VK P E vn w) (h:Tb P T k e vn.cells=some e2) :
  ∃ u2,VK P E e2 u2∧dw (bu P T) e2=true∧u2.cells.size=bg P T∧e2.cells.length=e.cells.length∧(∀ m,u2.cells.toList[m]? = if k≤m∧m < k+w.cells.toList.length then w.cells.toList[m - k]? else u.cells.toList[m]?)∧(w.cells.toList≠[]→k+w.cells.toList.length≤bg P T):=by
 unfold Tb at h
 obtain ⟨l1,l2,_⟩:=HM Ba
 rw [l1] at h
 obtain ⟨lE,h1,rfl⟩:=Option.map_eq_some_iff.1 h
 obtain ⟨FJ,hk2⟩:=iH Ba
 obtain ⟨PS,Oh⟩:=iH hvn
 have hcu:=hu.cells hk2
 have hcw:=hvw.cells Oh
 obtain ⟨r,h2,h3⟩:=bf.lh h1 hcu hcw
 obtain ⟨s1,s2,s3⟩:=jc h2
 obtain ⟨q1,q2,q3⟩:=HO h1
 have Hu:e.cells.length=bg P T:=qg FJ
 have xj:=agj Ba
 have hlr:r.length=e.cells.length:=by rw [s1,hcu.length]
 have rm:aH (bu P T).ks lE=true:=by
  refine Vm (by rw [q1]; exact Hu) fun i c v e1 e3=>?_
  rw [q3 i] at e3
  split at e3
  ·rename_i hc
   obtain ⟨x,Ck,hx2⟩:∃ d,(bu P t).ks[i - k]? = some d∧d=c:=by
    have bX:i - k < (bu P t).ks.length:=by rw [← qg PS]; omega
    refine ⟨_,List.getElem?_eq_getElem bX,?_⟩
    have:=hw.is (i - k) _ (List.getElem?_eq_getElem bX)
    rw [show k+(i - k)=i by omega,e1] at this
    simpa using this.symm
   subst hx2
   obtain ⟨v',h4,h5⟩:=Ch PS Ck
   rw [e3] at h4
   simp at h4; subst h4
   exact h5
  ·obtain ⟨v',h4,h5⟩:=Ch FJ e1
   rw [e3] at h4
   simp at h4; subst h4
   exact h5
 have alh:dw (bu P T) (JJ (bu P T).agg lE)=true:=Tr rm (by
  rcases xj with h | h
  ·exact .inl h
  ·exact .inr (by rw [← qg FJ]; exact h))
 have Wa:∀ v∈r,scalar v=true:=h3.scalar (Ci rm)
 have uT:(mkE (bu P T).agg r).cells.toList=r:=YH Wa (xj.imp id fun h=>by rw [hlr]; exact h)
 refine ⟨mkE (bu P T).agg r,YI h3 (xj.imp id fun h=>by rw [hlr]; exact h),alh,?_,?_,fun m=>?_,fun dT=>?_⟩
 ·rw [← Array.length_toList,uT,hlr]; exact Hu
 ·exact (qg (iH alh).1).trans Hu.symm
 ·rw [uT]; exact s3 m
 ·have:=s2 dT
  rw [hcu.length] at this
  omega
theorem ah7 {sz i k:Nat} {cs:List Value} {bq:List Value} {u u2:Value} {wl:List Value} (hl:n6 sz 0 cs bq) (hi:bq[i]? = some u) (hsu:u.cells.size=sz) (oA:wl≠[]→k+wl.length≤sz) (hg:∀ m,u2.cells.toList[m]? = if k≤m∧m < k+wl.length then wl[m - k]? else u.cells.toList[m]?) (kC:u2.cells.size=sz) :
  ∃ lE,ie (i * sz+k) cs wl=some lE∧n6 sz 0 lE (bq.set i u2)∧lE.length=cs.length:=by
 have hex:∃ lE,ie (i * sz+k) cs wl=some lE:=by
  cases hwl:wl with
  | nil=>exact ⟨cs,J0 _ _⟩
  | cons a l=>
   have hf:=oA (by rw [hwl]; simp)
   rw [hwl] at hf
   obtain ⟨_,hc⟩:=hl i u hi
   have bX:k+l.length < u.cells.size:=by rw [hsu]; simp at hf; omega
   have:=hc (k+l.length) u.cells[k+l.length] (by simp [bX])
   have hb:=(List.getElem?_eq_some_iff.1 this).1
   exact yD _ _ _ (by simp; omega)
 obtain ⟨lE,h1⟩:=hex
 obtain ⟨s1,s2,s3⟩:=jc h1
 refine ⟨lE,h1,fun j x hx=>?_,s1⟩
 rw [List.getElem?_set] at hx
 split at hx
 ·rename_i e
  subst e
  split at hx
  ·simp at hx; subst hx
   refine ⟨kC,fun m y hy=>?_⟩
   have hy' : u2.cells.toList[m]? = some y:=by simpa using hy
   have hm:m < sz:=by rw [← kC]; exact (Array.getElem?_eq_some_iff.1 hy).1
   rw [hg m] at hy'
   rw [Nat.zero_add,s3]
   split at hy'
   ·rw [if_pos (by omega),show i * sz+m - (i * sz+k)=m - k by omega]; exact hy'
   ·rw [if_neg (by omega)]
    have:=(hl i u hi).2 m y (by simpa using hy')
    rwa [Nat.zero_add] at this
  ·simp at hx
 ·rename_i dT
  obtain ⟨h2,h3⟩:=hl j x hx
  refine ⟨h2,fun m y hy=>?_⟩
  have hm:m < sz:=by rw [← h2]; exact (Array.getElem?_eq_some_iff.1 hy).1
  rw [s3,if_neg]
  ·exact h3 m y hy
  ·rintro ⟨ha,hb⟩
   cases hwl:wl with
   | nil=>rw [hwl] at hb; simp at hb; omega
   | cons a l=>
    have hf:=oA (by rw [hwl]; simp)
    rcases Nat.lt_or_gt_of_ne dT with h | h
    ·have:(i+1) * sz≤j * sz:=Nat.mul_le_mul_right _ h
     rw [Nat.succ_mul] at this
     omega
    ·have:(j+1) * sz≤i * sz:=Nat.mul_le_mul_right _ h
     rw [Nat.succ_mul] at this
     omega
theorem agk {T:TypeId} {N i:Nat} {es:List KV} {acc:Nat→KV} {e:KV} (ht:je P T N es acc) (hi:i < N) (he:dw (bu P T) e=true):je P T N (setAt es i e) (sf acc i e) where
 len:=by rw [AG]; exact ht.len
 acc j hj:=by
  rw [OB]
  unfold sf
  cases hb:Nat.beq j i with
  | true=>have:=Nat.eq_of_beq_eq_true hb; rw [if_pos ⟨this,by rw [← ht.len]; exact hi⟩]; rfl
  | false=>rw [if_neg (fun h=>by rw [h.1,Nat.beq_refl] at hb; simp at hb)]; exact ht.acc j hj
 typed:=oC fun j x hx=>by
  have hx' : x=(setAt es i e).getD j .ax:=by rw [List.getD_eq_getElem?_getD,hx]; rfl
  rw [OB] at hx'
  split at hx'
  ·rw [hx']; exact he
  ·rename_i dT
   have bX:j < es.length:=by rw [← AG es i e]; exact (List.getElem?_eq_some_iff.1 hx).1
   exact kd ht.typed (i:=j) (by rw [hx',List.getD_eq_getElem?_getD,List.getElem?_eq_getElem bX]; rfl)
theorem Cl {B:St} {x y lo hi:Nat} {bQ:Option (Nat×Nat)} : (B.eE x bQ lo hi).get y=B.get y∨∃ g k,bQ=some (g,k)∧y∈B.members g∧y≠x∧(B.eE x bQ lo hi).get y=some .dead∧∃ cs e own f j,B.get y=some (.row cs e own (some (f,j))):=by
 cases bQ with
 | none=>exact .inl rfl
 | some p=>
  obtain ⟨g,k⟩:=p
  simp only [St.eE,zS]
  by_cases hc:y∈B.members g∧y≠x∧qE (B.get y) (k+lo) (k+hi)=true
  ·refine .inr ⟨g,k,rfl,hc.1,hc.2.1,by rw [if_pos hc],?_⟩
   have hs:=hc.2.2
   unfold qE at hs
   split at hs
   ·rename_i cs e own f j hy; exact ⟨cs,e,own,f,j,hy⟩
   ·simp at hs
  ·exact .inl (by rw [if_neg hc])
theorem F4 {B:St} {x lo hi:Nat} {bQ:Option (Nat×Nat)} : (B.eE x bQ lo hi).members=B.members:=by
 cases bQ with
 | none=>rfl
 | some p=>simp [St.eE]
theorem Nc {B:St} {x lo hi:Nat} {bQ:Option (Nat×Nat)} : (B.eE x bQ lo hi).next=B.next:=by
 cases bQ with
 | none=>rfl
 | some p=>simp [St.eE]
theorem ee.ahg {A:az} {B:St} {b x N lo hi:Nat} {T:TypeId} {es:List KV} {acc:Nat→KV} {bq cs ma:List Value} {bQ:Option (Nat×Nat)} (h:fI P E A B) (hb:∃ v,A.get b=some (.arr v)) (hx:E.α b=some (x,ma.length,N))
  (jD:B.get x=some (.row ma (bg P T) true bQ)) (hlen:cs.length=ma.length) (fo:1≤bg P T) (ht:je P T N es acc) (Kl:bf P E es bq) (hl:n6 (bg P T) 0 cs bq) :
  ee P E A B E (A.put b (.arr (.ts T .any N es acc))) ((B.put x (.row cs (bg P T) true bQ)).eE x bQ lo hi):=by
 obtain ⟨v0,hb⟩:=hb
 have qG:AR A E x:=⟨b,v0,_,_,hb,hx⟩
 have jB:((B.put x (.row cs (bg P T) true bQ)).eE x bQ lo hi).get x=some (.row cs (bg P T) true bQ):=by
  rcases Cl (B:=B.put x (.row cs (bg P T) true bQ)) (x:=x) (y:=x) (lo:=lo) (hi:=hi) (bQ:=bQ) with e | ⟨g,k,_,_,h3,_⟩
  ·rw [e]; simp
  ·exact absurd rfl h3
 have hgy:∀ y,y≠x→((B.put x (.row cs (bg P T) true bQ)).eE x bQ lo hi).get y=B.get y∨(((B.put x (.row cs (bg P T) true bQ)).eE x bQ lo hi).get y=some .dead∧∃ g k,bQ=some (g,k)∧y∈B.members g):=by
  intro y hy
  rcases Cl (B:=B.put x (.row cs (bg P T) true bQ)) (x:=x) (y:=y) (lo:=lo) (hi:=hi) (bQ:=bQ) with e | ⟨g,k,h1,h2,_,h4,_⟩
  ·exact .inl (by rw [e,St.ca,if_neg hy])
  ·exact .inr ⟨h4,g,k,h1,by simpa using h2⟩
 have lJ:((B.put x (.row cs (bg P T) true bQ)).eE x bQ lo hi).members=B.members:=by rw [F4]; simp
 have jd:((B.put x (.row cs (bg P T) true bQ)).eE x bQ lo hi).next=B.next:=by rw [Nc]; simp
 generalize (B.put x (.row cs (bg P T) true bQ)).eE x bQ lo hi=B' at jB hgy lJ jd
 have Km:∀ y,y≠x→(E.z y≠none∨AR A E y∨∃ c,E.κ c=some y)→B'.get y=B.get y:=by
  intro y hy hs
  rcases hgy y hy with e | ⟨_,g,k,rfl,h2⟩
  ·exact e
  ·obtain ⟨_,_,h3⟩:=h.ar.rZ b v0 x _ _ _ _ _ g k hb hx jD
   obtain ⟨h4,h5,h6⟩:=h3 y h2 hy
   rcases hs with hs | hs | ⟨c,hs⟩
   ·exact absurd h4 hs
   ·exact absurd hs h5
   ·exact absurd hs (h6 c)
 have hA:∀ (c:Nat) (v:KV),(A.put b (.arr (.ts T .any N es acc))).get c=some (.arr v)→∃ u,A.get c=some (.arr u):=fun c v hc=>by
  rw [az.ca] at hc
  split at hc
  ·rename_i e; exact ⟨v0,by rw [e]; exact hb⟩
  ·exact ⟨v,hc⟩
 have Kn:∀ y,AR (A.put b (.arr (.ts T .any N es acc))) E y→AR A E y:=fun y q=>by
  obtain ⟨c,v,L,M,h1,h2⟩:=q
  obtain ⟨u,h1⟩:=hA c v h1
  exact ⟨c,u,L,M,h1,h2⟩
 have YJ:∀ y,AR A E y→∀ oi e own Qp,B'.get y=some (.row oi e own Qp)→∃ lE,B.get y=some (.row lE e own Qp)∧lE.length=oi.length:=fun y q oi e own Qp hy=>by
  by_cases Bb:y=x
  ·subst Bb
   rw [jB] at hy
   simp at hy
   obtain ⟨rfl,rfl,rfl,rfl⟩:=hy
   exact ⟨ma,jD,hlen.symm⟩
  ·rw [Km y Bb (.inr (.inl q))] at hy
   exact ⟨oi,hy,rfl⟩
 have aez:∀ g,AF (A.put b (.arr (.ts T .any N es acc))) E B' g→AF A E B g:=fun g q=>by
  obtain ⟨c,v,y,L,M,oi,e,own,k,h1,h2,h3⟩:=q
  obtain ⟨u,h1⟩:=hA c v h1
  obtain ⟨lE,h3,_⟩:=YJ y ⟨c,u,L,M,h1,h2⟩ _ _ _ _ h3
  exact ⟨c,u,y,L,M,lE,e,own,k,h1,h2,h3⟩
 refine ⟨⟨?_,?_,?_,h.apart,h.inj,h.jM.put (.inl fun _ _=>by simp),h.lD,h.mW,?_,fun b x e=>by rw [jd]; exact h.gY b x e,fun b r e=>by rw [jd]; exact h.m9 b r e,fun b g e=>by rw [jd]; exact h.kc b g e,fun g hg=>by rw [jd] at hg; rw [lJ]; exact h.fresh g hg,fun g y hy=>by rw [lJ] at hy; rw [jd]; exact h.mem g y hy,?_⟩,Env.le_refl _,Nat.le_refl _,?_,fun _ _ e=>.inl e,fun _ _ e=>.inl e,fun _ _ e=>.inl e,fun _ _ _ _=>by rw [lJ],fun y q=>.inl (Kn y q),fun g q=>.inl (aez g q),fun g y q=>.inl (by rw [lJ] at q; exact q),fun y q=>.inl ?_,?_⟩
 ·intro c oi bU hc
  rw [az.ca] at hc
  split at hc
  ·simp at hc
  ·obtain ⟨y,c1,h1,h2,h3⟩:=h.row c oi bU hc
   have hy:y≠x:=fun e=>(h.ar.z x qG).2 c (by rw [← e]; exact h1)
   exact ⟨y,c1,h1,by rw [Km y hy (.inr (.inr ⟨c,h1⟩))]; exact h2,h3⟩
 ·intro c top C1 hc
  rw [az.ca] at hc
  split at hc
  ·simp at hc
  ·rcases h.bb c top C1 hc with h1 | ⟨g,h1,h2,h3⟩
   ·exact .inl h1
   ·refine .inr ⟨g,h1,h2,fun y hy oi e own f k hr=>?_⟩
    rw [lJ] at hy
    by_cases Bb:y=x
    ·subst Bb
     rw [jB] at hr
     simp at hr
     obtain ⟨rfl,_,_,rfl⟩:=hr
     obtain ⟨h4,h5⟩:=h3 y hy ma _ _ f k jD
     exact ⟨h4,by rw [hlen]; exact h5⟩
    ·rcases hgy y Bb with e1 | ⟨e1,_⟩
     ·rw [e1] at hr; exact h3 y hy oi e own f k hr
     ·rw [e1] at hr; simp at hr
 ·intro y r hy
  have Bb:y≠x:=fun e=>by have:=(h.ar.z x qG).1; rw [← e,hy] at this; simp at this
  rw [Km y Bb (.inl (by rw [hy]; simp))]
  exact h.z y r hy
 ·intro c o hc
  rw [az.ca] at hc
  split at hc
  ·rename_i e; rw [e]; exact h.live b _ hb
  ·exact h.live c o hc
 ·refine ⟨?_,?_,fun y q=>h.ar.z y (Kn y q),?_,?_,h.ar.Yp,h.ar.lD,fun b x L N e=>by rw [jd]; exact h.ar.gY b x L N e,?_,fun c v hc=>?_⟩
  ·intro c v hc
   rw [az.ca] at hc
   split at hc
   ·rename_i e
    simp at hc
    subst hc e
    exact ⟨T,N,es,acc,rfl,ht,fo,.inr ⟨x,cs,bQ,bq,by rw [hlen]; exact hx,jB,Kl,hl⟩⟩
   ·rename_i dT
    refine (h.ar.arr c v hc).mono (Env.le_refl _) rfl fun y L M e=>?_
    have Bb:y≠x:=fun e2=>dT (h.ar.inj c b v v0 x _ _ _ _ hc hb (by rw [← e2]; exact e) hx)
    exact Km y Bb (.inr (.inl ⟨c,v,L,M,hc,e⟩))
  ·intro c v hc
   rw [az.ca] at hc
   split at hc
   ·simp at hc
   ·exact h.ar.jK c v hc
  ·intro c d v u y L M L' M' h1 h2 h3 h4
   obtain ⟨v',h1⟩:=hA c v h1
   obtain ⟨u',h2⟩:=hA d u h2
   exact h.ar.inj c d v' u' y L M L' M' h1 h2 h3 h4
  ·intro c d v u y w L M L' M' oi e own g k lE e' o7 k' h1 h2 h3 h4 h5 h6
   obtain ⟨v',h1⟩:=hA c v h1
   obtain ⟨u',h2⟩:=hA d u h2
   obtain ⟨_,h5,_⟩:=YJ y ⟨c,v',L,M,h1,h3⟩ _ _ _ _ h5
   obtain ⟨_,h6,_⟩:=YJ w ⟨d,u',L',M',h2,h4⟩ _ _ _ _ h6
   exact h.ar.tq c d v' u' y w L M L' M' _ e own g k _ e' o7 k' h1 h2 h3 h4 h5 h6
  ·intro c v y L M oi e own g k h1 h2 h3
   obtain ⟨v',h1⟩:=hA c v h1
   obtain ⟨_,h3,_⟩:=YJ y ⟨c,v',L,M,h1,h2⟩ _ _ _ _ h3
   obtain ⟨h4,h5,h6⟩:=h.ar.rZ c v' y L M _ e own g k h1 h2 h3
   refine ⟨by rw [jd]; exact h4,h5,fun z hz dT=>?_⟩
   rw [lJ] at hz
   obtain ⟨h7,h8,h9⟩:=h6 z hz dT
   exact ⟨h7,fun q=>h8 (Kn z q),h9⟩
  ·rw [az.ca] at hc
   rw [az.ri]
   split at hc
   ·rename_i e; rw [e]; exact h.ar.nk b _ hb
   ·exact h.ar.nk c v hc
 ·intro y hy hn ha
  by_cases Bb:y=x
  ·subst Bb; exact absurd (.inl qG) ha
  ·rcases hgy y Bb with e | ⟨_,g,k,rfl,h2⟩
   ·exact e
   ·exact absurd (.inr ⟨g,⟨b,v0,x,_,_,ma,_,_,k,hb,hx,jD⟩,h2⟩) ha
 ·rcases q with q | ⟨g,h1,h2⟩
  ·exact .inl (Kn y q)
  ·exact .inr ⟨g,aez g h1,by rw [lJ] at h2; exact h2⟩
 ·intro y hy oi e own Qp hr
  by_cases Bb:y=x
  ·exact YJ y (by rw [Bb]; exact qG) oi e own Qp hr
  ·rcases hgy y Bb with e1 | ⟨e1,_⟩
   ·exact ⟨oi,by rw [← e1]; exact hr,rfl⟩
   ·rw [e1] at hr; simp at hr
theorem ah8 {t:TypeId} : ahc P (Qd P t) (DL P t):=by
 intro E A A' B vs us v h hv hg
 unfold Qd at hg
 split at hg
 ·rename_i b off x
  obtain ⟨y,z,rfl,h1,h2⟩:=hv.kR
  obtain ⟨c,hx,rfl⟩:=h1.iW
  obtain ⟨hc,hg⟩:=hg.cond
  simp only [Bool.and_eq_true,decide_eq_true_eq] at hc
  obtain ⟨fo,ho⟩:=hc
  split at hg
  ·rename_i cs bU jD
   split at hg
   ·rename_i b8 hw
    have hg:(qU,A.put b (.row b8 bU))=(v,A'):=hg
    simp only [Prod.mk.injEq] at hg
    obtain ⟨rfl,rfl⟩:=hg
    obtain ⟨c',d,e1,e2,e3⟩:=h.row b cs bU jD
    rw [hx] at e1
    simp at e1
    subst e1
    have Hs:=h2.cells (wA ho)
    obtain ⟨r,e4,e5⟩:=bf.lh hw e3 Hs
    have o4:z.cells.toList.all scalar=true:=List.all_eq_true.2 (Hs.scalar ho)
    have ajh:some z.cells.size=size? P t:=by rw [← fo,Ke h2 (wA ho)]
    refine ⟨undef,B.put c (.row r bU true none),E,?_,.undef,ee.akM h ⟨_,_,jD⟩ hx ⟨d,e2,(jc e4).1.symm⟩ e5⟩
    simp [DL,storeAt,ajh,St.wR,dm,o4,e2,e4,St.eE]
   ·exact hg.elim
  ·exact hg.elim
 ·rename_i T Tc b i k x
  obtain ⟨y,z,rfl,h1,h2⟩:=hv.kR
  split at hg
  ·rename_i T' mk N es acc hA
   obtain ⟨hc,YK⟩:=hg.cond
   clear hg
   simp only [Bool.and_eq_true,decide_eq_true_eq] at hc
   obtain ⟨⟨⟨hT,hTc⟩,Ba⟩,fo⟩:=hc
   have:=Nat.eq_of_beq_eq_true hT
   subst this
   have:=Nat.eq_of_beq_eq_true hTc
   subst this
   split at YK
   ·rename_i e2 he2
    have hg:(qU,A.put b (.arr (ag0 T N i es acc e2)))=(v,A'):=YK
    simp only [Prod.mk.injEq] at hg
    obtain ⟨rfl,rfl⟩:=hg
    obtain ⟨c,L,N',h3,hw,hi,rfl⟩:=h1.DY
    obtain ⟨T2,N2,o5,fT,PV,ht,h1s,vQ⟩:=h.ar.arr b _ hA
    simp only [KV.ts.injEq] at PV
    obtain ⟨rfl,rfl,rfl,rfl,rfl⟩:=PV
    rcases vQ with ⟨_,h4⟩ | ⟨c',cs,bQ,bq,h4,h5,h6,h7⟩
    ·rw [h3] at h4; simp at h4
    rw [h3] at h4
    simp only [Option.some.injEq,Prod.mk.injEq] at h4
    obtain ⟨rfl,rfl,rfl⟩:=h4
    have bX:i < es.length:=by rw [← ht.len]; exact hi
    have hei:es[i]? = some (acc i):=by rw [ht.acc i hi]; simp [List.getD,bX]
    obtain ⟨u,h8,h9⟩:=h6.get hei
    obtain ⟨hsu,od⟩:=h7 i u h8
    rw [Nat.zero_add] at od
    have hvn:=h2.gp (l:=bu P Tc)
    obtain ⟨u2,p1,p2,p3,p4,p5,p6⟩:=ah6 (T:=T) (t:=Tc) hw (kd ht.typed hei) h9 Ba hvn he2
    obtain ⟨lE,w1,w2,w3⟩:=ah7 h7 h8 hsu p6 p5 p3
    have iX:=ee.ahg (lo:=i * bg P T+k) (hi:=i * bg P T+k+z.cells.toList.length) h ⟨_,hA⟩ h3 h5 (jc w1).1 h1s (agk ht hi p2) (bq:=bq.set i u2) (OA p1 i h6) w2
    obtain ⟨FJ,hk2⟩:=iH Ba
    have o4:z.cells.toList.all scalar=true:=List.all_eq_true.2 ((hvn.cells hk2).scalar (Ci FJ))
    have hzs:some z.cells.size=size? P Tc:=by
     rw [fo,← qg FJ]
     exact congrArg some (Ke hvn hk2)
    refine ⟨undef,_,E,?_,.undef,iX⟩
    simp [DL,storeAt,hzs,St.wR,dm,o4,h5,w1]
   ·exact YK.elim
  ·exact hg.elim
 ·exact hg.elim
end Go.K
end
section
namespace Go.K
open Go Go.aG
variable {P:Program} {E:Env}
def Env.B5 (E:Env) (b:Nat) (p:Nat×Nat×Nat):Env:={ E with α:=fun c=>if c=b then some p else E.α c }
theorem Env.aji {A:az} {B:St} {p:Nat×Nat×Nat} (h:fI P E A B):E.le (E.B5 A.next p):=⟨fun b q e=>by
 have:=h.ar.lD b q e
 simp only [Env.B5]; rw [if_neg (by omega)]; exact e,fun _ _ e=>e,fun _ _ e=>e,fun _ _ e=>e⟩
theorem Env.z7 {b:Nat} {p:Nat×Nat×Nat} : (E.B5 b p).α b=some p:=by simp [Env.B5]
theorem Env.F5 {b c:Nat} {p:Nat×Nat×Nat} (h:c≠b):(E.B5 b p).α c=E.α c:=by simp [Env.B5,h]
theorem ee.Qq {A A1:az} {B B' : St} {X G:Nat→Prop} {y2 N2:Nat} {T:TypeId} {o5:List KV} {fT:Nat→KV} {BX lE:List Value} {rj:Option (Nat×Nat)} (h:fI P E A B)
  (sq:A1.next=A.next) (HP:∀ c o,A1.get c=some o→A.get c=some o∨(o = .dead∧c < A.next))
  (f1:∀ c v,A1.get c=some (.arr v)→∀ y L N,E.α c=some (y,L,N)→¬ X y∧∀ cs e own g k,B.get y=some (.row cs e own (some (g,k)))→¬ G g)
  (f2:∀ y,X y→AR A E y) (f3:∀ g,G g→AF A E B g∧g < B.next∧(∀ f,E.φ f≠some g)∧∀ y∈B.members g,¬ X y→E.z y=none∧¬ AR A E y∧∀ c,E.κ c≠some y)
  (n1:X y2∨B.next≤y2) (n1' : y2 < B'.next) (aeA:B'.get y2=some (.row lE (bg P T) true rj)) (n2:∀ g k,rj=some (g,k)→G g∨(B.next≤g∧g < B'.next))
  (b1:∀ y,y < B.next→¬ X y→B'.get y=B.get y∨(B'.get y=some .dead∧∃ g,G g∧y∈B.members g))
  (b2:∀ y,X y→∀ cs e own bQ,B'.get y=some (.row cs e own bQ)→∃ c,B.get y=some (.row c e own bQ)∧c.length=cs.length)
  (b3:∀ q y,y∈B'.members q→y∈B.members q∨(y=y2∧B.next≤y2∧∃ k,rj=some (q,k))) (b3' : ∀ q,(∀ k,rj≠some (q,k))→B'.members q=B.members q)
  (b4:B.next≤B'.next) (b4' : ∀ g,B'.next≤g→B'.members g = []) (ams:∀ g y,y∈B'.members g→y < B'.next)
  (fo:1≤bg P T) (ht:je P T N2 o5 fT) (Kl:bf P E o5 BX) (hl:n6 (bg P T) 0 lE BX) :
  ee P E A B (E.B5 A.next (y2,lE.length,N2)) (A1.new (.arr (.ts T .any N2 o5 fT))) B':=by
 have hle:=Env.aji (p:=(y2,lE.length,N2)) h
 have ajj:E.α A.next=none:=by
  cases hq:E.α A.next with
  | none=>rfl
  | some p=>have:=h.ar.lD _ p hq; omega
 have hXlt:∀ y,X y→y < B.next:=fun y hy=>h.DZ (f2 y hy)
 have Km:∀ y,y < B.next→¬ X y→(E.z y≠none∨AR A E y∨∃ c,E.κ c=some y)→B'.get y=B.get y:=by
  intro y bX hy hs
  rcases b1 y bX hy with e | ⟨_,g,hg,h2⟩
  ·exact e
  ·obtain ⟨_,_,_,h3⟩:=f3 g hg
   obtain ⟨h4,h5,h6⟩:=h3 y h2 hy
   rcases hs with hs | hs | ⟨c,hs⟩
   ·exact absurd h4 hs
   ·exact absurd hs h5
   ·exact absurd hs (h6 c)
 have hXz:∀ y,X y→E.z y=none∧∀ c,E.κ c≠some y:=fun y hy=>h.ar.z y (f2 y hy)
 have jX:∀ c o,(A1.new (.arr (.ts T .any N2 o5 fT))).get c=some o→(c=A.next∧o = .arr (.ts T .any N2 o5 fT))∨(c≠A.next∧A1.get c=some o):=fun c o hc=>by
  rw [az.dt,sq] at hc
  split at hc
  ·rename_i e; simp at hc; exact .inl ⟨e,hc.symm⟩
  ·rename_i e; exact .inr ⟨e,hc⟩
 have hold:∀ c o,A1.get c=some o→o≠.dead→A.get c=some o:=fun c o hc hd=>by
  rcases HP c o hc with e | ⟨e,_⟩
  ·exact e
  ·exact absurd e hd
 have uq:∀ c v,(A1.new (.arr (.ts T .any N2 o5 fT))).get c=some (.arr v)→(c=A.next∧v = .ts T .any N2 o5 fT∧(E.B5 A.next (y2,lE.length,N2)).α c=some (y2,lE.length,N2))∨(c≠A.next∧A1.get c=some (.arr v)∧A.get c=some (.arr v)∧(E.B5 A.next (y2,lE.length,N2)).α c=E.α c):=fun c v hc=>by
  rcases jX c _ hc with ⟨e,e2⟩ | ⟨e,e2⟩
  ·simp at e2
   exact .inl ⟨e,e2,by rw [e]; exact Env.z7⟩
  ·exact .inr ⟨e,e2,hold c _ e2 (by simp),Env.F5 e⟩
 have Cm:∀ c v y L N,A1.get c=some (.arr v)→E.α c=some (y,L,N)→AR A E y∧¬ X y∧y < B.next∧B'.get y=B.get y:=fun c v y L N h1 h2=>by
  have h3:AR A E y:=⟨c,v,L,N,hold c _ h1 (by simp),h2⟩
  obtain ⟨h4,_⟩:=f1 c v h1 y L N h2
  have h5:=h.DZ h3
  exact ⟨h3,h4,h5,Km y h5 h4 (.inr (.inl h3))⟩
 have Kn:∀ y,AR (A1.new (.arr (.ts T .any N2 o5 fT))) (E.B5 A.next (y2,lE.length,N2)) y→y=y2∨(AR A E y∧¬ X y):=fun y q=>by
  obtain ⟨c,v,L,M,h1,h2⟩:=q
  rcases uq c v h1 with ⟨_,_,e⟩ | ⟨_,e1,e2,e⟩
  ·rw [e] at h2; simp at h2; exact .inl h2.1.symm
  ·rw [e] at h2
   obtain ⟨h3,h4,_⟩:=Cm c v y L M e1 h2
   exact .inr ⟨h3,h4⟩
 have ajk:∀ y,y=y2→AR A E y∨B.next≤y:=fun y e=>by
  subst e
  exact n1.imp (f2 y) id
 have aez:∀ g,AF (A1.new (.arr (.ts T .any N2 o5 fT))) (E.B5 A.next (y2,lE.length,N2)) B' g→(∃ k,rj=some (g,k))∨(AF A E B g∧¬ G g∧g < B.next):=fun g q=>by
  obtain ⟨c,v,y,L,M,oi,e,own,k,h1,h2,h3⟩:=q
  rcases uq c v h1 with ⟨_,_,e⟩ | ⟨_,e1,e2,e⟩
  ·rw [e] at h2
   simp at h2
   rw [← h2.1,aeA] at h3
   simp at h3
   exact .inl ⟨k,h3.2.2.2⟩
  ·rw [e] at h2
   obtain ⟨_,_,_,h4⟩:=Cm c v y L M e1 h2
   rw [h4] at h3
   refine .inr ⟨⟨c,v,y,L,M,oi,_,own,k,e2,h2,h3⟩,(f1 c v e1 y L M h2).2 _ _ _ _ _ h3,(h.ar.rZ c v y L M _ _ _ g k e2 h2 h3).1⟩
 have ali:∀ g,(∃ k,rj=some (g,k))→AF A E B g∨B.next≤g:=fun g ⟨k,e⟩=>by
  rcases n2 g k e with hg | ⟨hg,_⟩
  ·exact .inl (f3 g hg).1
  ·exact .inr hg
 refine ⟨⟨?_,?_,?_,h.apart,h.inj,?_,fun b x e=>by rw [az.cq,sq]; have:=h.lD b x e; omega,fun b g e=>by rw [az.cq,sq]; have:=h.mW b g e; omega,?_,fun b x e=>by have:=h.gY b x e; omega,fun b r e=>by have:=h.m9 b r e; omega,fun b g e=>by have:=h.kc b g e; omega,b4',ams,?_⟩,hle,by rw [az.cq,sq]; omega,?_,fun _ _ e=>.inl e,fun _ _ e=>.inl e,fun _ _ e=>.inl e,?_,fun y q=>?_,fun g q=>?_,fun g y q=>?_,fun y q=>?_,?_⟩
 ·intro c oi bU hc
  rcases jX c _ hc with ⟨_,e⟩ | ⟨_,e⟩
  ·simp at e
  ·obtain ⟨y,c1,h1,h2,h3⟩:=h.row c oi bU (hold c _ e (by simp))
   have hy : ¬ X y:=fun e=>(hXz y e).2 c h1
   exact ⟨y,c1,h1,by rw [Km y (h.gY c y h1) hy (.inr (.inr ⟨c,h1⟩))]; exact h2,h3.mono hle⟩
 ·intro c top C1 hc
  rcases jX c _ hc with ⟨_,e⟩ | ⟨_,e⟩
  ·simp at e
  ·rcases h.bb c top C1 (hold c _ e (by simp)) with h1 | ⟨g,h1,h2,h3⟩
   ·exact .inl h1
   ·refine .inr ⟨g,h1,h2,fun y hy oi e own f k hr=>?_⟩
    have hgG:∀ k,rj≠some (g,k):=fun k e=>by
     rcases n2 g k e with hg | ⟨hg,_⟩
     ·exact (f3 g hg).2.2.1 c h1
     ·have:=h.kc c g h1; omega
    rw [b3' g hgG] at hy
    have bX:=h.mem g y hy
    by_cases Bb:X y
    ·obtain ⟨c0,h4,h5⟩:=b2 y Bb _ _ _ _ hr
     obtain ⟨h6,h7⟩:=h3 y hy c0 _ _ f k h4
     exact ⟨h6,by rw [← h5]; exact h7⟩
    ·rcases b1 y bX Bb with e1 | ⟨e1,_⟩
     ·rw [e1] at hr; exact h3 y hy oi _ own f k hr
     ·rw [e1] at hr; simp at hr
 ·intro y r hy
  have hy:E.z y=some r:=hy
  have Bb : ¬ X y:=fun e=>by have:=(hXz y e).1; rw [hy] at this; simp at this
  rw [Km y (h.m9 y r hy) Bb (.inl (by rw [hy]; simp))]
  exact h.z y r hy
 ·intro b c g tb sb tc sc hb hc e1 e2
  rcases jX b _ hb with ⟨_,e⟩ | ⟨_,hb⟩
  ·simp at e
  rcases jX c _ hc with ⟨_,e⟩ | ⟨_,hc⟩
  ·simp at e
  exact h.jM b c g _ _ _ _ (hold b _ hb (by simp)) (hold c _ hc (by simp)) e1 e2
 ·intro c o hc
  rw [az.cq,sq]
  rcases jX c _ hc with ⟨e,_⟩ | ⟨_,e⟩
  ·omega
  ·rcases HP c o e with e | ⟨_,e⟩
   ·have:=h.live c o e; omega
   ·omega
 ·refine ⟨?_,?_,?_,?_,?_,?_,?_,?_,?_,?_⟩
  ·intro c v hc
   rcases uq c v hc with ⟨_,rfl,e⟩ | ⟨_,e1,e2,e⟩
   ·exact ⟨T,N2,o5,fT,rfl,ht,fo,.inr ⟨y2,lE,rj,BX,e,aeA,Kl.mono hle,hl⟩⟩
   ·exact (h.ar.arr c v e2).mono hle e fun y L M hy=>(Cm c v y L M e1 hy).2.2.2
  ·intro c v hc
   rcases jX c _ hc with ⟨_,e⟩ | ⟨dT,e⟩
   ·simp at e
   ·exact (h.ar.jK c v (hold c _ e (by simp))).mono hle (Env.F5 dT)
  ·intro y q
   rcases Kn y q with e | ⟨e,_⟩
   ·subst e
    rcases n1 with hx | hx
    ·exact hXz y hx
    ·refine ⟨?_,fun c e=>by have:=h.gY c y e; omega⟩
     cases hz:E.z y with
     | none=>exact hz
     | some r=>have:=h.m9 y r hz; omega
   ·exact h.ar.z y e
  ·intro c d v u y L M L' M' h1 h2 h3 h4
   rcases uq c v h1 with ⟨e1,_,e⟩ | ⟨_,p1,p2,e⟩ <;> rcases uq d u h2 with ⟨e2,_,e'⟩ | ⟨_,q1,q2,e'⟩
   ·omega
   ·rw [e] at h3; rw [e'] at h4
    simp at h3
    obtain ⟨_,h5,h6,_⟩:=Cm d u y L' M' q1 h4
    rw [← h3.1] at h5 h6
    rcases n1 with hx | hx
    ·exact absurd hx h5
    ·omega
   ·rw [e] at h3; rw [e'] at h4
    simp at h4
    obtain ⟨_,h5,h6,_⟩:=Cm c v y L M p1 h3
    rw [← h4.1] at h5 h6
    rcases n1 with hx | hx
    ·exact absurd hx h5
    ·omega
   ·rw [e] at h3; rw [e'] at h4
    exact h.ar.inj c d v u y L M L' M' p2 q2 h3 h4
  ·intro c d v u y w L M L' M' oi e own g k cs3 e' o7 k' h1 h2 h3 h4 h5 h6
   have C3:∀ {c v y L M oi e own k k2},A1.get c=some (.arr v)→E.α c=some (y,L,M)→B'.get y=some (.row oi e own (some (g,k)))→rj=some (g,k2)→False:=by
    intro c v y L M oi e own k k2 q1 q2 q3 q4
    obtain ⟨r1,r2,r3,r4⟩:=Cm c v y L M q1 q2
    rw [r4] at q3
    rcases n2 g k2 q4 with hg | ⟨hg,_⟩
    ·exact (f1 c v q1 y L M q2).2 _ _ _ _ _ q3 hg
    ·have:=(h.ar.rZ c v y L M _ _ _ g k (hold c _ q1 (by simp)) q2 q3).1; omega
   rcases uq c v h1 with ⟨e1,_,ea⟩ | ⟨_,p1,p2,ea⟩ <;> rcases uq d u h2 with ⟨e2,_,eb⟩ | ⟨_,q1,q2,eb⟩
   ·omega
   ·rw [ea] at h3; rw [eb] at h4
    simp at h3
    rw [← h3.1,aeA] at h5
    simp at h5
    exact (C3 q1 h4 h6 h5.2.2.2).elim
   ·rw [ea] at h3; rw [eb] at h4
    simp at h4
    rw [← h4.1,aeA] at h6
    simp at h6
    exact (C3 p1 h3 h5 h6.2.2.2).elim
   ·rw [ea] at h3; rw [eb] at h4
    rw [(Cm c v y L M p1 h3).2.2.2] at h5
    rw [(Cm d u w L' M' q1 h4).2.2.2] at h6
    exact h.ar.tq c d v u y w L M L' M' _ _ _ g k _ _ _ k' p2 q2 h3 h4 h5 h6
  ·intro b x e
   have hb:=h.lD b x e
   rw [Env.F5 (by omega)]
   exact h.ar.Yp b x e
  ·intro b p e
   rw [az.cq,sq]
   by_cases hb:b=A.next
   ·omega
   ·rw [Env.F5 hb] at e; have:=h.ar.lD b p e; omega
  ·intro b x L N e
   by_cases hb:b=A.next
   ·subst hb; rw [Env.z7] at e; simp at e; omega
   ·rw [Env.F5 hb] at e; have:=h.ar.gY b x L N e; omega
  ·intro c v y L M oi e own g k h1 h2 h3
   rcases uq c v h1 with ⟨_,_,ea⟩ | ⟨_,p1,p2,ea⟩
   ·rw [ea] at h2
    simp at h2
    obtain ⟨rfl,_⟩:=h2
    rw [aeA] at h3
    simp at h3
    have hk:=h3.2.2.2
    refine ⟨?_,fun f e=>?_,fun z hz dT=>?_⟩
    ·rcases n2 g k hk with hg | ⟨_,hg⟩
     ·have:=(f3 g hg).2.1; omega
     ·exact hg
    ·rcases n2 g k hk with hg | ⟨hg,_⟩
     ·exact (f3 g hg).2.2.1 f e
     ·have:=h.kc f g e; omega
    ·rcases b3 g z hz with hz | ⟨e,_⟩
     ·rcases n2 g k hk with hg | ⟨hg,_⟩
      ·by_cases ahh:X z
       ·exact ⟨(hXz z ahh).1,fun q=>by
         rcases Kn z q with e | ⟨_,e⟩
         ·exact dT e
         ·exact e ahh,(hXz z ahh).2⟩
       ·obtain ⟨h7,h8,h9⟩:=(f3 g hg).2.2.2 z hz ahh
        refine ⟨h7,fun q=>?_,h9⟩
        rcases Kn z q with e | ⟨e,_⟩
        ·exact dT e
        ·exact h8 e
      ·rw [h.fresh g hg] at hz; simp at hz
     ·exact absurd e dT
   ·rw [ea] at h2
    obtain ⟨r1,r2,r3,r4⟩:=Cm c v y L M p1 h2
    rw [r4] at h3
    obtain ⟨h4,h5,h6⟩:=h.ar.rZ c v y L M _ _ _ g k p2 h2 h3
    refine ⟨by omega,h5,fun z hz dT=>?_⟩
    have hnG:=(f1 c v p1 y L M h2).2 _ _ _ _ _ h3
    rw [b3' g (fun k e=>by
     rcases n2 g k e with hg | ⟨hg,_⟩
     ·exact hnG hg
     ·omega)] at hz
    obtain ⟨h7,h8,h9⟩:=h6 z hz dT
    refine ⟨h7,fun q=>?_,h9⟩
    rcases Kn z q with e | ⟨e,_⟩
    ·subst e
     rcases n1 with hx | hx
     ·exact h8 (f2 z hx)
     ·have:=h.mem g z hz; omega
    ·exact h8 e
  ·intro c v hc
   rw [az.cq,sq]
   rcases uq c v hc with ⟨e1,_,_⟩ | ⟨_,_,e2,_⟩
   ·subst e1
    refine ⟨Nat.lt_succ_self _,?_⟩
    show E.κ A.next=none
    cases hk:E.κ A.next with
    | none=>rfl
    | some x=>have:=h.lD _ x hk; omega
   ·obtain ⟨q1,q2⟩:=h.ar.nk c v e2
    exact ⟨by omega,q2⟩
 ·intro y hy hn ha
  by_cases Bb:X y
  ·exact absurd (.inl (f2 y Bb)) ha
  ·rcases b1 y hy Bb with e | ⟨_,g,hg,h2⟩
   ·exact e
   ·exact absurd (.inr ⟨g,(f3 g hg).1,h2⟩) ha
 ·intro g hg hn ha
  refine b3' g fun k e=>?_
  rcases n2 g k e with hg' | ⟨hg',_⟩
  ·exact ha (f3 g hg').1
  ·omega
 ·rcases Kn y q with e | ⟨e,_⟩
  ·exact ajk y e
  ·exact .inl e
 ·rcases aez g q with e | ⟨e,_⟩
  ·exact ali g e
  ·exact .inl e
 ·rcases b3 g y q with e | ⟨e,e2,_⟩
  ·exact .inl e
  ·exact .inr (by omega)
 ·rcases q with q | ⟨g,h1,h2⟩
  ·rcases Kn y q with e | ⟨e,_⟩
   ·rcases ajk y e with e | e
    ·exact .inl (.inl e)
    ·exact .inr e
   ·exact .inl (.inl e)
  ·rcases b3 g y h2 with e | ⟨e,e2,_⟩
   ·rcases aez g h1 with e1 | ⟨e1,_⟩
    ·rcases ali g e1 with e2 | e2
     ·exact .inl (.inr ⟨g,e2,e⟩)
     ·rw [h.fresh g e2] at e; simp at e
    ·exact .inl (.inr ⟨g,e1,e⟩)
   ·exact .inr (by omega)
 ·intro y hy oi e own Qp hr
  by_cases Bb:X y
  ·exact b2 y Bb oi e own Qp hr
  ·rcases b1 y hy Bb with e1 | ⟨e1,_⟩
   ·exact ⟨oi,by rw [← e1]; exact hr,rfl⟩
   ·rw [e1] at hr; simp at hr
end Go.K
end
section
namespace Go.K
open Go Go.aG
variable {P:Program} {E:Env}
theorem ee.alN {A:az} {B:St} {c:List Value} {n:Nat} (h:fI P E A B):ee P E A B (E.gA B.next ⟨c,n,true,some (B.next,0)⟩) A (B.grow B.next 0 c n):=by
 have mQ:∀ x,(B.grow B.next 0 c n).get x=if x=B.next then some (.row c n true (some (B.next,0))) else B.get x:=fun x=>by simp [St.grow]
 have lJ:∀ q,(B.grow B.next 0 c n).members q=if q=B.next then B.next::B.members B.next else B.members q:=fun q=>by simp [St.grow,St.Az]
 have jd:(B.grow B.next 0 c n).next=B.next+1:=rfl
 have hle:E.le (E.gA B.next ⟨c,n,true,some (B.next,0)⟩):=⟨fun _ _ e=>e,fun _ _ e=>e,fun b r e=>by
  have:=h.m9 b r e
  simp only [Env.gA]; rw [if_neg (by omega)]; exact e,fun _ _ e=>e⟩
 generalize B.grow B.next 0 c n=B' at mQ lJ jd
 have xm:∀ x,x < B.next→B'.get x=B.get x:=fun x hx=>by rw [mQ,if_neg (by omega)]
 have HL:∀ b r,(E.gA B.next ⟨c,n,true,some (B.next,0)⟩).z b=some r→E.z b=some r∨B.next≤b:=fun b r e=>by
  simp only [Env.gA] at e
  split at e
  ·exact .inr (by omega)
  ·exact .inl e
 have Wb:∀ q,AF A E B q→B'.members q=B.members q:=fun q hq=>by
  rw [lJ,if_neg]
  intro e2
  obtain ⟨b,v,x,L,N,cs,e,own,k,h1,h2,h3⟩:=hq
  obtain ⟨h4,h5,_⟩:=h.ar.rZ b v x L N cs e own q k h1 h2 h3
  omega
 have agi:∀ q y,y∈B'.members q→y∈B.members q∨B.next≤y:=fun q y hy=>by
  rw [lJ] at hy
  split at hy
  ·rename_i e2
   subst e2
   rcases List.mem_cons.1 hy with hy | hy
   ·exact .inr (by omega)
   ·exact .inl hy
  ·exact .inl hy
 refine ⟨⟨?_,?_,?_,?_,h.inj,h.jM,h.lD,h.mW,h.live,?_,?_,?_,?_,?_,h.ar.mb hle (fun _=>rfl) (fun _ _ e=>e) (fun _ _ e=>e) (Nat.le_refl _) (by omega) (fun x q=>xm x (h.DZ q)) HL (fun _ _ e=>.inl e) (fun b q e=>.inl ⟨b,e⟩) Wb h.mem⟩,hle,Nat.le_refl _,?_,fun b x e=>.inl e,fun b r e=>(HL b r e).imp id .inr,fun b q e=>.inl e,fun q hq hn _=>by rw [lJ,if_neg (by omega)],fun _ q=>.inl q,fun _ q=>.inl (q.of (fun _=>rfl) (fun _ _ e=>e) fun x q=>xm x (h.DZ q)),agi,fun _ q=>.inl (q.of (fun _=>rfl) (fun _ _ e=>e) (fun x q=>xm x (h.DZ q)) Wb),mZ xm⟩
 ·intro b ma Ki hb
  obtain ⟨x,d,h1,h2,h3⟩:=h.row b ma Ki hb
  have:=h.gY b x h1
  exact ⟨x,d,h1,by rw [mQ,if_neg (by omega)]; exact h2,h3.mono hle⟩
 ·intro b top C1 hb
  rcases h.bb b top C1 hb with h1 | ⟨g,h1,YB,h2⟩
  ·exact .inl h1
  ·have hg:=h.kc b g h1
   refine .inr ⟨g,h1,YB,fun x hx d e own f k hr=>?_⟩
   rw [lJ,if_neg (by omega)] at hx
   have:=h.mem g x hx
   rw [mQ,if_neg (by omega)] at hr
   exact h2 x hx d e own f k hr
 ·intro b r hb
  simp only [Env.gA] at hb
  rw [mQ]
  split at hb
  ·rename_i e; simp at hb; subst hb; rw [if_pos e]
  ·rename_i e; rw [if_neg e]; exact h.z b r hb
 ·intro b x hb
  have:=h.gY b x hb
  simp only [Env.gA]
  rw [if_neg (by omega)]
  exact h.apart b x hb
 ·intro b x hb; have:=h.gY b x hb; omega
 ·intro b r hb
  simp only [Env.gA] at hb
  rw [jd]
  split at hb
  ·omega
  ·have:=h.m9 b r hb; omega
 ·intro b g hb; have:=h.kc b g hb; omega
 ·intro g hg
  rw [jd] at hg
  rw [lJ,if_neg (by omega)]
  exact h.fresh g (by omega)
 ·intro g x hx
  rw [jd]
  rw [lJ] at hx
  split at hx
  ·rcases List.mem_cons.1 hx with hx | hx
   ·omega
   ·have:=h.mem _ x hx; omega
  ·have:=h.mem g x hx; omega
 ·intro x hx _ _; rw [mQ,if_neg (by omega)]
theorem ee.after {A A1 A2:az} {B B2:St} {E2:Env} (h:ee P E A B E A1 B) (k:ee P E A1 B E2 A2 B2):ee P E A B E2 A2 B2 where
 jv:=k.jv
 le:=k.le
 next:=Nat.le_trans h.next k.next
 mb x hx hn ha:=k.mb x hx hn fun q=>(h.nR x q).elim ha fun e=>by omega
 new:=k.new
 sS b r e:=by
  rcases k.sS b r e with e | e | e
  ·exact .inl e
  ·exact .inr (h.mK b e)
  ·exact .inr (.inr e)
 sT:=k.sT
 pT g hg hn ha:=k.pT g hg hn fun q=>(h.mX g q).elim ha fun e=>by omega
 mK x q:=(k.mK x q).elim (h.mK x) .inr
 mX g q:=(k.mX g q).elim (h.mX g) .inr
 uk:=k.uk
 nR y q:=(k.nR y q).elim (h.nR y) .inr
 rows:=k.rows
theorem ee.ahi {A:az} {B:St} {f t:Nat} (sz:Nat) (h:fI P E A B) {C1:Nat} (hA:A.get f=some (.bb t C1)) (EO:E.φ f=none):ee P E A B E (A.put f (.bb 0 sz)) B:=by
 have hAk:∀ (b:Nat) (v:KV),(A.put f (.bb 0 sz)).get b=some (.arr v)→A.get b=some (.arr v):=fun b v hb=>by
  rw [az.ca] at hb
  split at hb
  ·simp at hb
  ·exact hb
 have YA:∀ (b:Nat) (v:KV),(A.put f (.bb 0 sz)).get b=some (.jK v)→A.get b=some (.jK v):=fun b v hb=>by
  rw [az.ca] at hb
  split at hb
  ·simp at hb
  ·exact hb
 refine ⟨⟨fun b cs bU hb=>?_,fun b top C1 hb=>?_,h.z,h.apart,h.inj,h.jM.put (.inr EO),h.lD,h.mW,fun b o hb=>?_,h.gY,h.m9,h.kc,h.fresh,h.mem,h.ar.mb (Env.le_refl _) (fun _=>rfl) hAk YA (Nat.le_refl _) (Nat.le_refl _) (fun _ _=>rfl) (fun _ _ e=>.inl e) (fun _ _ e=>.inl e) (fun b g e=>.inl ⟨b,e⟩) (fun _ _=>rfl) h.mem⟩,Env.le_refl _,Nat.le_refl _,fun _ _ _ _=>rfl,fun _ _ e=>.inl e,fun _ _ e=>.inl e,fun _ _ e=>.inl e,fun _ _ _ _=>rfl,fun _ q=>.inl (q.of (fun _=>rfl) hAk),fun _ q=>.inl (q.of (fun _=>rfl) hAk fun _ _=>rfl),fun _ _ q=>.inl q,fun _ q=>.inl (q.of (fun _=>rfl) hAk (fun _ _=>rfl) fun _ _=>rfl),mZ fun _ _=>rfl⟩
 ·rw [az.ca] at hb
  split at hb
  ·simp at hb
  ·exact h.row b cs bU hb
 ·rw [az.ca] at hb
  split at hb
  ·rename_i e2; simp at hb; exact .inl ⟨hb.1.symm,by rw [e2]; exact EO⟩
  ·exact h.bb b top C1 hb
 ·rw [az.ca] at hb
  split at hb
  ·rename_i e2; rw [e2]; exact h.live f _ hA
  ·exact h.live b o hb
theorem ajl {t:TypeId} (hu:P.underlying t=some (.int .u8)):bu P t=⟨false,[.int .u8]⟩:=by
 unfold bu
 rw [lay,hu]
 rfl
theorem ac0 {e:TypeId} (he:isByte P e=true):ald P (Oo e) Hn:=by
 intro E A B vs us v h hv hg
 unfold Oo at hg
 split at hg
 ·rename_i s
  obtain ⟨u,rfl,h1⟩:=hv.eU
  have:=h1.rv; subst this
  have hg:KV.ts e .any s.size _ _=v:=hg
  subst hg
  have hu:P.underlying e=some (.int .u8):=by
   unfold isByte at he
   split at he
   ·assumption
   ·simp at he
  have alj:bu P e=⟨false,[.int .u8]⟩:=ajl hu
  refine ⟨_,_,_,rfl,?_,ee.alN h⟩
  simp only [VK]
  have fo:bg P e=1:=by unfold bg; rw [alj]; rfl
  refine ⟨⟨by simp,fun i hi=>?_,?_⟩,kN s.data.toList,?_,some ⟨B.next,0,none⟩,s.size,rfl,Nat.le_refl _,.inr ⟨B.next,0,⟨kN s.data.toList,1,true,some (B.next,0)⟩,rfl,by simp [Env.gA],fo.symm,?_⟩,trivial⟩
  ·have PE:i < s.data.toList.length:=by simpa using hi
   simp only [List.getD,List.getElem?_map,List.getElem?_eq_getElem PE,Option.map_some,Option.getD_some]
  ·rw [alj]
   induction s.data.toList with
   | nil=>rfl
   | cons b l ih=>simp [fM,dw,aH,kindOk,ih]
  ·generalize E.gA B.next _=E'
   induction s.data.toList with
   | nil=>exact .nil
   | cons b l ih=>exact .cons .mkInt ih
  ·rw [fo]
   intro i x hx
   obtain ⟨b,_,rfl⟩:∃ b,s.data.toList[i]? = some b∧x = .int .u8 b.toNat:=by
    simp only [kN,List.getElem?_map,Option.map_eq_some_iff] at hx
    obtain ⟨b,h1,h2⟩:=hx
    exact ⟨b,h1,h2.symm⟩
   refine ⟨rfl,fun k y hy=>?_⟩
   have hk:k=0:=by
    have:=(Array.getElem?_eq_some_iff.1 hy).1
    simp [Value.cells] at this
    exact this
   subst hk
   simp [Value.cells] at hy
   subst hy
   simpa using hx
 ·exact hg.elim
theorem HQ {B:St} {b off n sz:Nat} {r:aek} {bq:List Value} (hr:B.get b=some (.row r.cs r.bU r.own r.bQ)) (hl:n6 sz off r.cs bq) (hn:bq.length=n) (fo:1≤sz) :
  B.vN ⟨b,off,none⟩ (n * sz)=some (bH bq):=by
 have hs:∀ v∈bq,v.cells.size=sz:=fun v hv=>by
  obtain ⟨i,hi⟩:=List.getElem?_of_mem hv
  exact (hl i v hi).1
 have hlen:=jw hs
 have FG:=mF hs
 have od:∀ j,j < n * sz→r.cs[off+j]? = (bH bq)[j]?:=by
  intro j hj
  have hi:j / sz < bq.length:=by rw [hn]; exact Nat.div_lt_of_lt_mul (by rw [Nat.mul_comm]; exact hj)
  have hv:bq[j / sz]? = some bq[j / sz]:=List.getElem?_eq_getElem hi
  have hk:j % sz < bq[j / sz].cells.size:=by rw [hs _ (List.getElem_mem hi)]; exact Nat.mod_lt _ fo
  have hy:bq[j / sz].cells[j % sz]? = some (bq[j / sz].cells[j % sz]):=by simp [hk]
  have h1:=(hl _ _ hv).2 _ _ hy
  have h2:=(FG _ _ hv).2 _ _ hy
  have HR:j / sz * sz+j % sz=j:=by rw [Nat.mul_comm]; exact Nat.div_add_mod j sz
  rw [Nat.add_assoc,HR] at h1
  rw [Nat.zero_add,HR] at h2
  rw [h1,h2]
 simp only [St.vN,dm,Option.isNone_none,cond_true,xR,hr,Option.bind_some]
 rw [hn] at hlen
 have hle:n * sz≤(r.cs.drop off).length:=by
  cases hm:n * sz with
  | zero=>omega
  | succ q=>
   have:=od q (by omega)
   rw [List.getElem?_eq_getElem (show q < (bH bq).length by omega)] at this
   have h7:=(List.getElem?_eq_some_iff.1 this).1
   rw [List.length_drop]
   omega
 rw [rh,F2 hle]
 congr 1
 apply List.ext_getElem?
 intro i
 rw [List.getElem?_take]
 split
 ·rename_i hi
  rw [List.getElem?_drop]
  exact od i hi
 ·exact (List.getElem?_eq_none_iff.2 (by omega)).symm
theorem YL {T:TypeId} {m:Mk} {n:Nat} {es:List KV} {acc:Nat→KV} {u:Value} {A:az} {B:St} (h:fI P E A B) (hv:VK P E (.ts T m n es acc) u) (fo:1≤bg P T) :
  ∃ bq,bf P E es bq∧U8 u=some n∧uN B (bg P T) n u=some (bH bq)∧(∀ v∈bq,v.cells.size=bg P T)∧bq.length=n∧es.length=n∧fM (bu P T) es=true:=by
 obtain ⟨ht,bq,h1,a,cap,rfl,h2,h3,_⟩:=hv.mi
 have hlen:=ht.len
 have r9:bq.length=n:=by rw [h1.length]; exact hlen.symm
 have hs:=om ht.typed h1
 refine ⟨bq,h1,rfl,?_,fun v hv=>(hs v hv).1,r9,hlen.symm,ht.typed⟩
 rcases h3 with ⟨rfl,h0⟩ | ⟨b,off,r,rfl,h4,h5,h6⟩
 ·have:bq = []:=List.length_eq_zero_iff.1 (by omega)
  subst this
  simp [uN,h0,bH]
 ·exact HQ (h.z b r h4) h6 r9 fo
theorem je.join {T:TypeId} {n m:Nat} {es fs:List KV} {f g:Nat→KV} (h:je P T n es f) (k:je P T m fs g):je P T (n+m) (es++fs) (fa n f g) where
 len:=by rw [List.length_append,← h.len,← k.len]
 acc i hi:=by
  unfold fa
  by_cases hn:i < n
  ·have:Nat.blt i n=true:=by rw [Nat.blt_eq]; exact hn
   rw [this,cond_true,h.acc i hn,List.getD_eq_getElem?_getD,List.getD_eq_getElem?_getD,List.getElem?_append_left (by rw [← h.len]; exact hn)]
  ·have:Nat.blt i n=false:=by
    cases hb:Nat.blt i n with
    | false=>rfl
    | true=>rw [Nat.blt_eq] at hb; omega
   rw [this,cond_false,k.acc (i - n) (by omega),List.getD_eq_getElem?_getD,List.getD_eq_getElem?_getD,List.getElem?_append_right (by rw [← h.len]; omega),← h.len]
 typed:=IX h.typed k.typed
theorem je.none {T:TypeId} {g:Nat→KV} : je P T 0 [] g:=⟨rfl,fun i h=>by omega,rfl⟩
structure Src (P:Program) (E:Env) (B:St) (T:TypeId) (n:Nat) (es:List KV) (acc:Nat→KV) (u:Value) (bq:List Value):Prop where
 tree:je P T n es acc
 rel:bf P E es bq
 len:U8 u=some n
 size:∀ v∈bq,v.cells.size=bg P T
 length:bq.length=n
 first:∀ k,k≤n→uN B (bg P T) k u=some (bH (bq.take k))
theorem Src.all {B:St} {T:TypeId} {n:Nat} {es:List KV} {acc:Nat→KV} {u:Value} {bq:List Value} (h:Src P E B T n es acc u bq):uN B (bg P T) n u=some (bH bq):=by
 rw [h.first n (Nat.le_refl _),List.take_of_length_le (Nat.le_of_eq h.length)]
theorem n6.take {sz off:Nat} {cs es:List Value} (h:n6 sz off cs es) (k:Nat):n6 sz off cs (es.take k):=fun i x hi=>h i x (by
 rw [List.getElem?_take] at hi
 split at hi
 ·exact hi
 ·simp at hi)
theorem n6.drop {sz off:Nat} {cs es:List Value} (h:n6 sz off cs es) (o:Nat):n6 sz (off+o * sz) cs (es.drop o):=fun i x hi=>by
 rw [List.getElem?_drop] at hi
 obtain ⟨h1,h2⟩:=h (o+i) x hi
 refine ⟨h1,fun k y hy=>?_⟩
 rw [← h2 k y hy,Nat.add_mul]
 congr 1
 omega
theorem akR {T:TypeId} {m:Mk} {n:Nat} {es:List KV} {acc:Nat→KV} {u:Value} {A:az} {B:St} (h:fI P E A B) (hv:VK P E (.ts T m n es acc) u) (fo:1≤bg P T):∃ bq,Src P E B T n es acc u bq:=by
 obtain ⟨ht,bq,h1,a,cap,rfl,h2,h3,_⟩:=hv.mi
 have r9:bq.length=n:=by rw [h1.length]; exact ht.len.symm
 have hs:=om ht.typed h1
 refine ⟨bq,ht,h1,rfl,fun v hv=>(hs v hv).1,r9,fun k hk=>?_⟩
 rcases h3 with ⟨rfl,h0⟩ | ⟨b,off,r,rfl,h4,h5,h6⟩
 ·have:bq = []:=List.length_eq_zero_iff.1 (by omega)
  subst this
  have:k=0:=by omega
  subst this
  simp [uN,bH]
 ·exact HQ (h.z b r h4) (h6.take k) (by rw [List.length_take]; omega) fo
theorem akS {T:TypeId} {m:Mk} {b o n N:Nat} {es:List KV} {acc:Nat→KV} {u:Value} {A:az} {B:St} (h:fI P E A B) (hv:VK P E (.al T b o n) u) (ha:EL A b=some (.ts T m N es acc)) (fo:1≤bg P T) :
  ∃ bq,Src P E B T n ((es.drop o).take n) (fun i=>acc (o+i)) u bq:=by
 have row:∀ {x:Nat} {r:aek} {bq:List Value} {c:Nat},u = .slice (some ⟨x,o * bg P T,none⟩) n c→o+n≤N→je P T N es acc→B.get x=some (.row r.cs r.bU r.own r.bQ)→bf P E es bq→n6 (bg P T) 0 r.cs bq→∃ bq,Src P E B T n ((es.drop o).take n) (fun i=>acc (o+i)) u bq:=by
  intro x r bq c hu hon ht hr Kl hl
  subst hu
  have agl:bq.length=N:=by rw [Kl.length]; exact ht.len.symm
  have agm:((es.drop o).take n).length=n:=by rw [List.length_take,List.length_drop,← ht.len]; omega
  have ajm:((bq.drop o).take n).length=n:=by rw [List.length_take,List.length_drop,agl]; omega
  have hs:=om ht.typed Kl
  refine ⟨(bq.drop o).take n,⟨agm.symm,fun i hi=>?_,oC fun i x hi=>?_⟩,(Kl.drop o).take n,rfl,fun v hv=>(hs v (List.mem_of_mem_drop (List.mem_of_mem_take hv))).1,ajm,fun k hk=>?_⟩
  ·rw [ht.acc (o+i) (by omega),List.getD_eq_getElem?_getD,List.getD_eq_getElem?_getD,List.getElem?_take,if_pos hi,List.getElem?_drop]
  ·rw [List.getElem?_take] at hi
   split at hi
   ·rw [List.getElem?_drop] at hi; exact kd ht.typed hi
   ·simp at hi
  ·have mB:=((hl.drop o).take n).take k
   rw [Nat.zero_add] at mB
   exact HQ hr mB (by rw [List.length_take,ajm]; omega) fo
 rcases hv.u3 with ⟨rfl,rfl,rfl⟩ | ⟨x,L,N0,c,h1,h2,h3,h4,h5⟩
 ·refine ⟨[],⟨by simp,fun i hi=>by omega,rfl⟩,by simpa using bf.nil,rfl,by simp,rfl,fun k hk=>?_⟩
  have:k=0:=by omega
  subst this
  simp [uN,bH]
 ·unfold EL at ha
  split at ha
  ·rename_i v hb
   simp only [Option.some.injEq] at ha
   subst ha
   obtain ⟨T2,N2,o5,fT,e,ht,_,vQ⟩:=h.ar.arr b _ hb
   simp only [KV.ts.injEq] at e
   obtain ⟨rfl,rfl,rfl,rfl,rfl⟩:=e
   rcases vQ with ⟨_,e⟩ | ⟨x2,cs,bQ,bq,e,h6,h7,h8⟩
   ·rw [h1] at e; simp at e
   ·rw [h1] at e
    simp only [Option.some.injEq,Prod.mk.injEq] at e
    obtain ⟨rfl,rfl,rfl⟩:=e
    exact row (r:=⟨cs,bg P T,true,bQ⟩) h2 h4 ht h6 h7 h8
  ·rename_i v hb
   simp only [Option.some.injEq] at ha
   subst ha
   obtain ⟨T2,N2,o5,fT,e,ht,_,vQ⟩:=h.ar.jK b _ hb
   simp only [KV.ts.injEq] at e
   obtain ⟨rfl,rfl,rfl,rfl,rfl⟩:=e
   rcases vQ with ⟨_,e⟩ | ⟨x2,r,bq,e,h6,h6',h7,h8⟩
   ·rw [h1] at e; simp at e
   ·rw [h1] at e
    simp only [Option.some.injEq,Prod.mk.injEq] at e
    obtain ⟨rfl,rfl,rfl⟩:=e
    exact row h2 h4 ht (h.z _ _ h6) h7 h8
  ·simp at ha
theorem ahj {A:az} {B:St} {y:KV} {u:Value} {T:TypeId} {m:Mk} {n:Nat} {es:List KV} {acc:Nat→KV} (h:fI P E A B) (hv:VK P E y u) (hs:J9 A y=some (.ts T m n es acc)) (fo:1≤bg P T):∃ bq,Src P E B T n es acc u bq:=by
 unfold J9 at hs
 split at hs
 ·rename_i T' b o k
  unfold acN at hs
  split at hs
  ·rename_i T2 _ _ o5 fT ha
   cases hb:Nat.beq T' T2 with
   | false=>rw [hb] at hs; simp at hs
   | true=>
    have:=Nat.eq_of_beq_eq_true hb
    subst this
    rw [hb,cond_true] at hs
    simp only [Option.some.injEq,KV.ts.injEq] at hs
    obtain ⟨rfl,rfl,rfl,rfl,rfl⟩:=hs
    exact akS h hv ha fo
  ·simp at hs
 ·simp only [Option.some.injEq,KV.ts.injEq] at hs
  obtain ⟨rfl,rfl,rfl,rfl,rfl⟩:=hs
  exact akR h hv fo
 ·simp at hs
theorem agn {e n b:Nat} (hn:bg P e=n) (h1n:1≤n) {E:Env} {A A' : az} {B:St} {x v:KV} {u w:Value} {e' : TypeId} {mk:Mk} {k:Nat} {new:List KV} {acc:Nat→KV} (h:fI P E A B) (h1:VK P E x u)
  (hsr:Nat.beq e e' = true→∃ bq,Src P E B e' k new acc w bq) (hg:a5 (J8 e n b A [x,.ts e' mk k new acc]) (v,A')):∃ r B' E',l7 n b B [u,w] = some (r,B')∧VK P E' v r∧ee P E A B E' A' B':=by
 have tr:1≤bg P e:=by omega
 have put:∀ (E1:Env) (A1:az) (m f k:Nat) (base new:List KV) (ab an:Nat→KV) (more:Bool) (A2:az) (v:KV),a5 (Qf e n b m base ab A1 f k new an more) (v,A2)→
   (more=true∧Nat.ble ((m+k+512) * b) 17592186044416=true∧Nat.ble (m+k) 17592186044416=true∧(m=0∨0 < k))∧v = .ts e (.bb f) (m+k) (base++new) (fa m ab an)∧A2=A1.put f (.bb (m+k) n):=by
  intro E1 A1 m f k base new ab an more A2 v hp
  obtain ⟨hc,hp⟩:=a5.lV hp
  simp only [eo,Bool.and_eq_true] at hc
  simp only [Prod.mk.injEq] at hp
  refine ⟨⟨hc.1,hc.2.1.1,hc.2.1.2,?_⟩,hp.1.symm,hp.2.symm⟩
  have:=hc.2.2
  simp only [Bool.or_eq_true,Nat.blt_eq] at this
  exact this.symm.imp (fun h=>Nat.eq_of_beq_eq_true h) id
 unfold J8 at hg
 split at hg
 ·
  rename_i e9 mk9 k9 ahk ahl heq
  simp only [List.cons.injEq,KV.ts.injEq,and_true] at heq
  obtain ⟨rfl,rfl,rfl,rfl,rfl,rfl⟩:=heq
  have:=h1.nQ; subst this
  obtain ⟨he,HN⟩:=hg.cond
  clear hg
  obtain ⟨cN,kC⟩:=hsr he
  have:=Nat.eq_of_beq_eq_true he
  subst this
  obtain ⟨⟨_,zU,rl,ajn⟩,rfl,rfl⟩:=put E _ _ _ _ _ _ _ _ _ _ _ HN
  have F6:=kC.tree
  have h3:=kC.rel
  have h4:=kC.len
  have h5:=kC.all
  have h6:=kC.size
  have h7:=kC.length
  have h8:=F6.len.symm
  rw [hn] at h5 h6
  have yr:=ee.ahf n h
  have hAf:(A.new (.bb 0 n)).get A.next=some (.bb 0 n):=by simp
  have EO:E.φ A.next=none:=by
   cases hq:E.φ A.next with
   | none=>rfl
   | some g=>have:=h.mW _ g hq; omega
  cases k with
  | zero=>
   have mR:new = []:=List.length_eq_zero_iff.1 h8
   have YM:cN = []:=List.length_eq_zero_iff.1 h7
   subst mR YM
   refine ⟨.slice none 0 0,B,E,?_,?_,?_⟩
   ·simp only [l7,h4,Option.bind_some]
    rw [h5]
    rfl
   ·simp only [VK]
    exact ⟨⟨rfl,fun i hi=>by omega,rfl⟩,[],.nil,none,0,rfl,Nat.le_refl _,.inl ⟨rfl,rfl⟩,rfl,.inl ⟨rfl,rfl⟩⟩
   ·exact yr.after (ee.ahi n yr.jv hAf EO)
  | succ k=>
   have Ts:=ee.grow (c:=bH cN) (top:=0) (Nb:=k+1) (sz:=n) (g:=B.next) (f:=A.next) yr.jv hAf (.inl ⟨EO,rfl⟩) (by rw [jw h6,h7]) (by omega) (by omega)
   refine ⟨.slice (some ⟨B.next,0,none⟩) (k+1) (k+1),B.grow B.next 0 (bH cN) n,_,?_,?_,yr.after (by simpa using Ts)⟩
   ·simp only [Nat.zero_add] at zU rl
    simp only [l7,h4,Option.bind_some,Nat.zero_add]
    rw [show Nat.ble (k+1) 0=false from rfl,cond_false,zU,rl,h5]
    rfl
   ·simp only [VK,Nat.zero_add,List.nil_append]
    have YM:=h3.mono (Env.le_trans yr.le Ts.le)
    have hl:=mF h6
    refine ⟨by have:=je.none (P:=P) (T:=e) (g:=n5) |>.join F6; simpa using this,cN,YM,_,_,rfl,Nat.le_refl _,.inr ⟨B.next,0,⟨bH cN,n,true,some (B.next,0)⟩,rfl,by simp [Env.rA,Env.gA],hn.symm,by rw [hn]; exact hl⟩,rfl,.inr ⟨B.next,⟨bH cN,n,true,some (B.next,0)⟩,B.next,rfl,by simp [Env.rA,Env.gA],rfl,by simp [Env.rA],rfl,?_⟩⟩
    rw [hn]
    simp only
    rw [jw h6,h7]
 ·
  rename_i e1 m es alk e9 mk9 k9 ahk ahl heq
  simp only [List.cons.injEq,KV.ts.injEq,and_true] at heq
  obtain ⟨rfl,rfl,rfl,rfl,rfl,rfl⟩:=heq
  obtain ⟨he,HN⟩:=hg.cond
  clear hg
  simp only [Bool.and_eq_true] at he
  obtain ⟨cN,kC⟩:=hsr he.1
  have:=Nat.eq_of_beq_eq_true he.1
  subst this
  have:=Nat.eq_of_beq_eq_true he.2
  subst this
  obtain ⟨⟨hk,zU,rl,ajn⟩,rfl,rfl⟩:=put E _ _ _ _ _ _ _ _ _ _ _ HN
  have hk:0 < k:=by rwa [Nat.blt_eq] at hk
  have vR:=h1.mi.1
  have F6:=kC.tree
  have h3:=kC.rel
  have h4:=kC.len
  have h5:=kC.all
  have h6:=kC.size
  have h7:=kC.length
  have h8:=F6.len.symm
  obtain ⟨qM,h3b,h4b,h5b,h6b,h7b,h8b,h9b⟩:=YL h h1 tr
  rw [hn] at h5 h6 h5b h6b
  obtain ⟨_,agZ,uf,a,cap,rfl,aiX,YN,ago⟩:=h1.mi
  obtain ⟨rfl,Wb⟩:=ago
  have yr:=ee.ahf n h
  have hAf:(A.new (.bb 0 n)).get A.next=some (.bb 0 n):=by simp
  have EO:E.φ A.next=none:=by
   cases hq:E.φ A.next with
   | none=>rfl
   | some g=>have:=h.mW _ g hq; omega
  have hs:∀ v∈qM++cN,v.cells.size=n:=fun v hv=>by
   rcases List.mem_append.1 hv with hv | hv
   ·exact h6b v hv
   ·exact h6 v hv
  have hlen:(bH (qM++cN)).length=(cap+k) * n:=by rw [jw hs,List.length_append,h7b,h7]
  have Ts:=ee.grow (c:=bH (qM++cN)) (top:=0) (Nb:=cap+k) (sz:=n) (g:=B.next) (f:=A.next) yr.jv hAf (.inl ⟨EO,rfl⟩) hlen (by omega) (by omega)
  refine ⟨.slice (some ⟨B.next,0,none⟩) (cap+k) (cap+k),B.grow B.next 0 (bH (qM++cN)) n,_,?_,?_,yr.after Ts⟩
  ·simp only [l7,h4,Option.bind_some]
   have hnb:Nat.ble (cap+k) cap=false:=by
    cases hq:Nat.ble (cap+k) cap with
    | false=>rfl
    | true=>have:=Nat.le_of_ble_eq_true hq; omega
   rw [hnb,cond_false,zU,rl]
   rcases YN with ⟨rfl,h0⟩ | ⟨b',off,r,rfl,hz,he2,mB⟩
   ·subst h0
    have:qM = []:=List.length_eq_zero_iff.1 h7b
    subst this
    simp only [s6,Bool.true_and,Bool.and_self]
    rw [show Nat.beq 0 0=true from rfl,cond_true,h5]
    simp [CN]
   ·obtain ⟨r2,BB,ho,ahm,alm⟩:=Wb b' off rfl
    rw [hz] at BB
    simp at BB
    subst BB
    have jD:=h.z b' r hz
    have hex:s6 B n cap (some ⟨b',off,none⟩)=true:=by
     simp only [s6,jD,ahm]
     rw [hn] at alm
     simp [alm]
    rw [hex]
    simp only [Bool.and_self,cond_true,h5,Option.bind_some]
    simp only [uN] at h5b
    have PW:Nat.beq r.bU n=true:=by rw [he2,hn]; simp
    simp only [CN,dm,Option.isNone_none,cond_true,h5b,Option.bind_some,jD,PW,ahm,ho]
    rw [← wB]
  ·simp only [VK]
   have zD:=(h3b.append h3).mono (Env.le_trans yr.le Ts.le)
   have hl:=mF hs
   refine ⟨vR.join F6,qM++cN,zD,_,_,rfl,Nat.le_refl _,.inr ⟨B.next,0,⟨bH (qM++cN),n,true,some (B.next,0)⟩,rfl,by simp [Env.rA,Env.gA],hn.symm,by rw [hn]; exact hl⟩,rfl,.inr ⟨B.next,⟨bH (qM++cN),n,true,some (B.next,0)⟩,B.next,rfl,by simp [Env.rA,Env.gA],rfl,by simp [Env.rA],rfl,?_⟩⟩
   rw [hn]
   exact hlen
 ·
  rename_i e1 f m es alk e9 mk9 k9 ahk ahl heq
  simp only [List.cons.injEq,KV.ts.injEq,and_true] at heq
  obtain ⟨rfl,rfl,rfl,rfl,rfl,rfl⟩:=heq
  split at hg
  ·rename_i top sz' YO
   obtain ⟨he,HN⟩:=hg.cond
   clear hg
   simp only [Bool.and_eq_true] at he
   obtain ⟨cN,kC⟩:=hsr he.1.1
   have:=Nat.eq_of_beq_eq_true he.1.1
   subst this
   have:=Nat.eq_of_beq_eq_true he.1.2
   subst this
   have ajh:=Nat.eq_of_beq_eq_true he.2
   rw [ajh] at YO
   obtain ⟨⟨Ms,zU,rl,ajn⟩,rfl,rfl⟩:=put E _ _ _ _ _ _ _ _ _ _ _ HN
   have:=Nat.eq_of_beq_eq_true Ms
   subst this
   have vR:=h1.mi.1
   have F6:=kC.tree
   have h3:=kC.rel
   have h4:=kC.len
   have h5:=kC.all
   have h6:=kC.size
   have h7:=kC.length
   have h8:=F6.len.symm
   obtain ⟨qM,h3b,h4b,h5b,h6b,h7b,h8b,h9b⟩:=YL h h1 tr
   rw [hn] at h5 h6 h5b h6b
   obtain ⟨_,agZ,uf,a,cap,rfl,aiX,YN,ago⟩:=h1.mi
   obtain ⟨rfl,Wb⟩:=ago
   have hs:∀ v∈qM++cN,v.cells.size=n:=fun v hv=>by
    rcases List.mem_append.1 hv with hv | hv
    ·exact h6b v hv
    ·exact h6 v hv
   have hlen:(bH (qM++cN)).length=(cap+k) * n:=by rw [jw hs,List.length_append,h7b,h7]
   have alO:=h3b.append h3
   have hl:=mF hs
   have fin:∀ (E2:Env) (x g:Nat),E.le E2→E2.z x=some ⟨bH (qM++cN),n,true,some (g,0)⟩→E2.φ f=some g→VK P E2 (.ts e (.bb f) (cap+k) (es++new) (fa cap alk acc)) (.slice (some ⟨x,0,none⟩) (cap+k) (cap+k)):=by
    intro E2 x g hle hzx amt
    simp only [VK]
    refine ⟨vR.join F6,qM++cN,alO.mono hle,_,_,rfl,Nat.le_refl _,.inr ⟨x,0,_,rfl,hzx,hn.symm,by rw [hn]; exact hl⟩,rfl,.inr ⟨x,_,g,rfl,hzx,rfl,amt,rfl,?_⟩⟩
    rw [hn]
    exact hlen
   rcases Wb with ⟨rfl,rfl⟩ | ⟨b',r,g,rfl,hz,ho,EO,ahm,hcl⟩
   ·
    have hold:es = []:=List.length_eq_zero_iff.1 h8b
    have ac1:qM = []:=List.length_eq_zero_iff.1 h7b
    subst hold ac1
    have EO:E.φ f=none:=by
     rcases h.bb f 0 n YO with ⟨_,CQ⟩ | ⟨g2,_,CQ,_⟩
     ·exact CQ
     ·omega
    cases k with
    | zero=>
     have mR:new = []:=List.length_eq_zero_iff.1 h8
     have YM:cN = []:=List.length_eq_zero_iff.1 h7
     subst mR YM
     refine ⟨.slice none 0 0,B,E,?_,?_,ee.ahi n h YO EO⟩
     ·simp only [l7,h4,Option.bind_some]
      rw [h5]
      rfl
     ·simp only [VK]
      exact ⟨⟨rfl,fun i hi=>by omega,rfl⟩,[],.nil,none,0,rfl,Nat.le_refl _,.inl ⟨rfl,rfl⟩,rfl,.inl ⟨rfl,rfl⟩⟩
    | succ k=>
     have Ts:=ee.grow (c:=bH ([]++cN)) (top:=0) (Nb:=0+(k+1)) (sz:=n) (g:=B.next) (f:=f) h YO (.inl ⟨EO,rfl⟩) hlen (by omega) (by omega)
     refine ⟨.slice (some ⟨B.next,0,none⟩) (0+(k+1)) (0+(k+1)),B.grow B.next 0 (bH ([]++cN)) n,_,?_,fin _ B.next B.next Ts.le (by simp [Env.rA,Env.gA]) (by simp [Env.rA]),Ts⟩
     simp only [Nat.zero_add] at zU rl
     simp only [l7,h4,Option.bind_some,Nat.zero_add,List.nil_append]
     rw [show Nat.ble (k+1) 0=false from rfl,cond_false,zU,rl,h5]
     rfl
   ·
    have alP:0 < cap+k∧0 < k:=by
     rcases ajn with h0 | h0
     ·subst h0
      rcases h.bb f 0 n YO with ⟨_,CQ⟩ | ⟨g2,_,CQ,_⟩
      ·rw [EO] at CQ; simp at CQ
      ·omega
     ·exact ⟨by omega,h0⟩
    have jD:=h.z b' r hz
    rw [ho,ahm] at jD
    have PW:r.bU=n:=by
     rcases YN with ⟨h0,_⟩ | ⟨b2,ajo,r2,e2,BB,he2,_⟩
     ·simp at h0
     ·simp at e2
      obtain ⟨rfl,rfl⟩:=e2
      rw [hz] at BB
      simp at BB
      subst BB
      rw [he2,hn]
    have alQ:B.kill B.next (0+(0+cap * n)) (0+(0+cap * n)+(bH cN).length) (B.members g)=B:=by
     refine YG fun y hy=>?_
     rcases h.bb f cap n YO with ⟨_,CQ⟩ | ⟨g2,CQ,_,h3'⟩
     ·rw [EO] at CQ; simp at CQ
     ·rw [EO] at CQ
      simp at CQ
      subst CQ
      cases hy2:B.get y with
      | none=>rfl
      | some o=>cases o with
       | row lE e2 DP rj=>
        cases rj with
        | none=>rfl
        | some p=>
         obtain ⟨f2,k2⟩:=p
         obtain ⟨rfl,hle2⟩:=h3' y hy lE e2 DP f2 k2 hy2
         simp only [qE,meets,Nat.zero_add]
         have:Nat.blt (cap * n) lE.length=false:=by
          cases hq:Nat.blt (cap * n) lE.length with
          | false=>rfl
          | true=>rw [Nat.blt_eq] at hq; omega
         rw [this,Bool.false_and]
       | _=>rfl
    have Ts:=ee.grow (c:=bH (qM++cN)) (top:=cap) (Nb:=cap+k) (sz:=n) (g:=g) (f:=f) h YO (.inr EO) hlen (by omega) alP.1
    refine ⟨.slice (some ⟨B.next,0,none⟩) (cap+k) (cap+k),B.grow g 0 (bH (qM++cN)) n,_,?_,fin _ B.next g Ts.le (by simp [Env.rA,Env.gA]) (by simp [Env.rA]),Ts⟩
    have hnb:Nat.ble (cap+k) cap=false:=by
     cases hq:Nat.ble (cap+k) cap with
     | false=>rfl
     | true=>have:=Nat.le_of_ble_eq_true hq; omega
    have hex:s6 B n cap (some ⟨b',0,none⟩)=true:=by simp only [s6,jD]
    simp only [l7,h4,Option.bind_some,hnb,cond_false,zU,rl,hex,Bool.and_self,cond_true,h5]
    simp only [uN] at h5b
    have amu:Nat.beq r.bU n=true:=by rw [PW]; simp
    simp only [CN,dm,Option.isNone_none,cond_true,h5b,Option.bind_some,jD,amu,alQ,← wB]
  ·exact hg.elim
 ·exact hg.elim
end Go.K
end
