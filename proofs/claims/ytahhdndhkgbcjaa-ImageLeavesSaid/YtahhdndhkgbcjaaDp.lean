/- Part of the proof of ImageLeaves: a machine that runs the program's code over open terms, shown to be the model's, and the plain models of its functions. No conditions. -/
import Derived.Test.YtahhdndhkgbcjaaCp
section
namespace Go.K
open Go Go.aE
variable {P:Program} {E:Env}
theorem AR.of {E' : Env} {A A' : ax} {x:Nat} (qn:∀ b,E'.α b=E.α b) (ha:∀ b v,A'.get b=some (.arr v)→A.get b=some (.arr v)) (h:AR A' E' x):AR A E x:=by
 obtain ⟨b,v,L,N,h1,h2⟩:=h
 exact ⟨b,v,L,N,ha _ _ h1,by rw [← qn]; exact h2⟩
theorem AF.of {E' : Env} {A A' : ax} {B B' : St} {g:Nat} (qn:∀ b,E'.α b=E.α b) (ha:∀ b v,A'.get b=some (.arr v)→A.get b=some (.arr v)) (hB:∀ x,AR A E x→B'.get x=B.get x) (h:AF A' E' B' g):AF A E B g:=by
 obtain ⟨b,v,x,L,N,cs,e,own,k,h1,h2,h3⟩:=h
 have Db:E.α b=some (x,L,N):=by rw [← qn]; exact h2
 exact ⟨b,v,x,L,N,cs,e,own,k,ha _ _ h1,Db,by rw [← hB x ⟨b,v,L,N,ha _ _ h1,Db⟩]; exact h3⟩
theorem AT.of {E' : Env} {A A' : ax} {B B' : St} {y:Nat} (qn:∀ b,E'.α b=E.α b) (ha:∀ b v,A'.get b=some (.arr v)→A.get b=some (.arr v)) (hB:∀ x,AR A E x→B'.get x=B.get x) (hm:∀ g,AF A E B g→B'.members g=B.members g) (h:AT A' E' B' y):AT A E B y:=by
 rcases h with h | ⟨g,h1,h2⟩
 ·exact .inl (h.of qn ha)
 ·have:=h1.of qn ha hB
  exact .inr ⟨g,this,by rw [← hm g this]; exact h2⟩
theorem nt {B B' : St} (h:∀ x,x < B.next→B'.get x=B.get x):∀ y,y < B.next→∀ cs e own bP,B'.get y=some (.row cs e own bP)→∃ mB,B.get y=some (.row mB e own bP)∧mB.length=cs.length:=
 fun y hy cs _ _ _ q=>⟨cs,by rw [← h y hy]; exact q,rfl⟩
theorem Y6 {B:St} {o:dg} : ∀ x,x < B.next→(B.new o).get x=B.get x:=fun x hx=>by rw [St.dr,if_neg (by omega)]
theorem Ic.mC {E' : Env} {A A' : ax} {B B' : St} (h:Ic P E A B) (hle:E.le E') (qn:∀ b,E'.α b=E.α b) (ha:∀ b v,A'.get b=some (.arr v)→A.get b=some (.arr v)) (hf:∀ b v,A'.get b=some (.jO v)→A.get b=some (.jO v))
  (hn:A.next≤A'.next) (QI:B.next≤B'.next) (hB:∀ x,AR A E x→B'.get x=B.get x) (hz:∀ b r,E'.z b=some r→E.z b=some r∨B.next≤b) (D8:∀ b x,E'.κ b=some x→E.κ b=some x∨(A.next≤b∧B.next≤x))
  (Fl:∀ b g,E'.φ b=some g→(∃ c,E.φ c=some g)∨B.next≤g) (hm:∀ g,AF A E B g→B'.members g=B.members g) (mem:∀ g x,x∈B.members g→x < B.next):Ic P E' A' B' where
 arr b v hb:=(h.arr b v (ha _ _ hb)).mono hle (qn b) fun x L N e=>hB x ⟨b,v,L,N,ha _ _ hb,e⟩
 jO b v hb:=(h.jO b v (hf _ _ hb)).mono hle (qn b)
 z x hx:=by
  have hx':=AR.of qn ha hx
  obtain ⟨b,v,L,N,h1,h2⟩:=hx'
  have bV:=h.hH _ _ _ _ h2
  obtain ⟨h3,h4⟩:=h.z x (AR.of qn ha hx)
  refine ⟨?_,fun c e=>?_⟩
  ·cases hz' : E'.z x with
   | none=>rfl
   | some r=>
    rcases hz x r hz' with e | e
    ·rw [h3] at e; simp at e
    ·omega
  ·rcases D8 c x e with e | ⟨_,e⟩
   ·exact h4 c e
   ·omega
 inj b c v u x L N L' N' h1 h2 h3 h4:=h.inj b c v u x L N L' N' (ha _ _ h1) (ha _ _ h2) (by rw [← qn]; exact h3) (by rw [← qn]; exact h4)
 tN b c v u x y L N L' N' cs e own g k b8 e' pk k' h1 h2 h3 h4 h5 h6:=by
  rw [qn] at h3 h4
  rw [hB x ⟨b,v,L,N,ha _ _ h1,h3⟩] at h5
  rw [hB y ⟨c,u,L',N',ha _ _ h2,h4⟩] at h6
  exact h.tN b c v u x y L N L' N' cs e own g k b8 e' pk k' (ha _ _ h1) (ha _ _ h2) h3 h4 h5 h6
 YW b x e:=by
  rw [qn]
  rcases D8 b x e with e | ⟨e,_⟩
  ·exact h.YW b x e
  ·cases hb:E.α b with
   | none=>rfl
   | some p=>have:=h.lQ b p hb; omega
 nk b v hb:=by
  obtain ⟨h1,h2⟩:=h.nk b v (ha _ _ hb)
  refine ⟨Nat.lt_of_lt_of_le h1 hn,?_⟩
  cases e:E'.κ b with
  | none=>rfl
  | some x=>
   rcases D8 b x e with e | ⟨e,_⟩
   ·rw [h2] at e; simp at e
   ·omega
 lQ b p e:=by rw [qn] at e; have:=h.lQ b p e; omega
 hH b x L N e:=by rw [qn] at e; have:=h.hH b x L N e; omega
 sk b v x L N cs e own g k h1 h2 h3:=by
  rw [qn] at h2
  have hA:=ha _ _ h1
  rw [hB x ⟨b,v,L,N,hA,h2⟩] at h3
  obtain ⟨h4,h5,h6⟩:=h.sk b v x L N cs e own g k hA h2 h3
  refine ⟨by omega,fun f e=>?_,fun y hy dJ=>?_⟩
  ·rcases Fl f g e with ⟨c,e⟩ | e
   ·exact h5 c e
   ·omega
  ·rw [hm g ⟨b,v,x,L,N,cs,_,own,k,hA,h2,h3⟩] at hy
   have bV:=mem g y hy
   obtain ⟨h7,h8,h9⟩:=h6 y hy dJ
   refine ⟨?_,fun q=>h8 (AR.of qn ha q),fun c e=>?_⟩
   ·cases hz' : E'.z y with
    | none=>rfl
    | some r=>
     rcases hz y r hz' with e | e
     ·rw [h7] at e; simp at e
     ·omega
   ·rcases D8 c y e with e | ⟨_,e⟩
    ·exact h9 c e
    ·omega
theorem fK.Eo {A:ax} {B:St} (h:fK P E A B) {x:Nat} (q:AR A E x):x < B.next:=by
 obtain ⟨b,v,L,N,_,h2⟩:=q
 exact h.ar.hH _ _ _ _ h2
structure ee (P:Program) (E:Env) (A:ax) (B:St) (E' : Env) (A' : ax) (B' : St):Prop where
 jy:fK P E' A' B'
 le:E.le E'
 next:A.next≤A'.next
 mC:∀ x,x < B.next→(∀ b,E.κ b≠some x)→¬ AT A E B x→B'.get x=B.get x
 new:∀ b x,E'.κ b=some x→E.κ b=some x∨B.next≤x
 tg:∀ b r,E'.z b=some r→E.z b=some r∨AR A E b∨B.next≤b
 th:∀ b g,E'.φ b=some g→E.φ b=some g∨B.next≤g
 p0:∀ g,g < B.next→(∀ b,E.φ b≠some g)→¬ AF A E B g→B'.members g=B.members g
 m7:∀ x,AR A' E' x→AR A E x∨B.next≤x
 ns:∀ g,AF A' E' B' g→AF A E B g∨B.next≤g
 uI:∀ g y,y∈B'.members g→y∈B.members g∨B.next≤y
 od:∀ y,AT A' E' B' y→AT A E B y∨B.next≤y
 rows:∀ y,y < B.next→∀ cs e own bP,B'.get y=some (.row cs e own bP)→∃ mB,B.get y=some (.row mB e own bP)∧mB.length=cs.length
theorem ee.ev {base:Nat} {E' : Env} {A A' : ax} {B B' : St} {ρ aX:aW} {w w' : World} (h:ee P E A B E' A' B') (g:ml base ρ B w aX B' w'):Ev P base E A B ρ w E' A' B' aX w':=
 ⟨h.jy,g,h.le,h.next,h.mC,h.new,h.tg,fun b g e=>(h.th b g e).imp (fun e=>⟨b,e⟩) id,h.p0,h.m7,h.ns,h.uI,h.od,h.rows⟩
def Fm (P:Program) (o:Oper):qm→Prop
 | .pure f xs=>∀ (E:Env) (ρ:aW) (ev:Operand→KV) (cX:Operand→Value) (v:KV),(∀ x∈xs,VC P E ρ (ev x) (cX x))→a5 (f (xs.map ev)) v→∃ v',VC P E ρ v v'∧∀ w,(execOp cX o).run P w = .ok (.value v') w
 | .read f xs=>∀ (E:Env) (A:ax) (B:St) (ρ:aW) (base:Nat) (w:World) (ev:Operand→KV) (cX:Operand→Value) (v:KV),KJ P E A B ρ base w→(∀ x∈xs,VC P E ρ (ev x) (cX x))→a5 (f A (xs.map ev)) v→
   ∃ v',VC P E ρ v v'∧(execOp cX o).run P w = .ok (.value v') w
 | .look f xs=>∀ (E:Env) (A:ax) (B:St) (ρ:aW) (base:Nat) (w:World) (ev:Operand→KV) (cX:Operand→Value) (v:KV),KJ P E A B ρ base w→(∀ x∈xs,VC P E ρ (ev x) (cX x))→a5 (f (xs.map ev)) v→
   ∃ E' B' aX v' nx w',(execOp cX o).run P w = .ok nx w'∧agv v' nx∧VC P E' aX v v'∧Ev P base E A B ρ w E' A B' aX w'
 | .act f xs=>∀ (E:Env) (A A' : ax) (B:St) (ρ:aW) (base:Nat) (w:World) (ev:Operand→KV) (cX:Operand→Value) (v:KV),KJ P E A B ρ base w→(∀ x∈xs,VC P E ρ (ev x) (cX x))→a5 (f A (xs.map ev)) (v,A')→
   ∃ E' B' aX v' nx w',(execOp cX o).run P w = .ok nx w'∧agv v' nx∧VC P E' aX v v'∧Ev P base E A B ρ w E' A' B' aX w'
 | _=>True
theorem cn {ρ:aW} {ev:Operand→KV} {cX:Operand→Value} {xs:List Operand} (h:∀ x∈xs,VC P E ρ (ev x) (cX x)) :
  ∃ em:Operand→Value,bb P E (xs.map ev) (xs.map em)∧vY ρ em cX xs:=by
 classical
 refine ⟨fun x=>if hx:VC P E ρ (ev x) (cX x) then hx.choose else undef,?_,?_⟩
 ·induction xs with
  | nil=>exact .nil
  | cons x xs ih=>
   refine .cons ?_ (ih fun y hy=>h y (by simp [hy]))
   have hx:=h x (by simp)
   simp only [dif_pos hx]
   exact hx.choose_spec.1
 ·intro x hx
  have hx:=h x hx
  simp only [dif_pos hx]
  exact hx.choose_spec.2
theorem lift_pure {o:Oper} {f:FP} {g:List Value→Option Value} {xs:List Operand} (hc:compile P o.op = .pure g xs) (hs:uK P f g):Fm P o (.pure f xs):=by
 intro E ρ ev cX v hv hg
 obtain ⟨em,h1,h2⟩:=cn hv
 obtain ⟨u,h3,h4⟩:=hs E _ _ v h1 hg
 have b9:=qj P o
 rw [hc] at b9
 obtain ⟨v',h5,h6⟩:=b9 ρ em cX u h2 h3
 exact ⟨v',⟨u,h4,h5⟩,h6⟩
def ae4 (P:Program) (f:FR) (g:St→List Value→Option Value):Prop:=
 ∀ (E:Env) (A:ax) (B:St) (vs:List KV) (us:List Value) (v:KV),fK P E A B→bb P E vs us→a5 (f A vs) v→∃ u,g B us=some u∧VK P E v u
theorem Ih {o:Oper} {f:FR} {g:St→List Value→Option Value} {xs:List Operand} (hc:compile P o.op = .read g xs) (hs:ae4 P f g):Fm P o (.read f xs):=by
 intro E A B ρ base w ev cX v hj hv hg
 obtain ⟨em,h1,h2⟩:=cn hv
 obtain ⟨u,h3,h4⟩:=hs E A B _ _ v hj.k h1 hg
 have b9:=qj P o
 rw [hc] at b9
 obtain ⟨v',h5,h6⟩:=b9 ρ B base w em cX u hj.s.rel h2 h3
 exact ⟨v',⟨u,h4,h5⟩,h6⟩
def ahN (P:Program) (f:FA) (g:St→List Value→Option (Value×St)):Prop:=
 ∀ (E:Env) (A A' : ax) (B:St) (vs:List KV) (us:List Value) (v:KV),fK P E A B→bb P E vs us→a5 (f A vs) (v,A')→∃ u B' E',g B us=some (u,B')∧VK P E' v u∧ee P E A B E' A' B'
theorem TU {o:Oper} {f:FA} {g:St→List Value→Option (Value×St)} {xs:List Operand} (hc:compile P o.op = .act g xs) (hs:ahN P f g):Fm P o (.act f xs):=by
 intro E A A' B ρ base w ev cX v hj hv hg
 obtain ⟨em,h1,h2⟩:=cn hv
 obtain ⟨u,B',E',h3,h4,h5⟩:=hs E A A' B _ _ v hj.k h1 hg
 have b9:=qj P o
 rw [hc] at b9
 obtain ⟨aX,v',nx,w',h6,h7,h8,h9⟩:=b9 ρ B B' base w em cX u hj.s h2 h3
 exact ⟨E',B',aX,v',nx,w',h6,h7,⟨u,h4,h8⟩,h5.ev h9⟩
def alV (P:Program) (f:FP) (g:St→List Value→Option (Value×St)):Prop:=
 ∀ (E:Env) (A:ax) (B:St) (vs:List KV) (us:List Value) (v:KV),fK P E A B→bb P E vs us→a5 (f vs) v→∃ u B' E',g B us=some (u,B')∧VK P E' v u∧ee P E A B E' A B'
theorem agK {o:Oper} {f:FP} {g:St→List Value→Option (Value×St)} {xs:List Operand} (hc:compile P o.op = .act g xs) (hs:alV P f g):Fm P o (.look f xs):=by
 intro E A B ρ base w ev cX v hj hv hg
 obtain ⟨em,h1,h2⟩:=cn hv
 obtain ⟨u,B',E',h3,h4,h5⟩:=hs E A B _ _ v hj.k h1 hg
 have b9:=qj P o
 rw [hc] at b9
 obtain ⟨aX,v',nx,w',h6,h7,h8,h9⟩:=b9 ρ B B' base w em cX u hj.s h2 h3
 exact ⟨E',B',aX,v',nx,w',h6,h7,⟨u,h4,h8⟩,h5.ev h9⟩
theorem TV {o:Oper} {g:List Value→Option (dg×(Nat→Value))} {xs:List Operand} (hc:compile P o.op = .make g xs) {ρ:aW} {B:St} {base:Nat} {w:World} {em cX:Operand→Value} {obj:dg} {mk:Nat→Value} (hs:uB ρ B base w)
  (h2:vY ρ em cX xs) (h3:g (xs.map em)=some (obj,mk)):∃ aX v' w',(execOp cX o).run P w = .ok (.value v') w'∧VR aX (mk B.next) v'∧ml base ρ B w aX (B.new obj) w':=by
 have b9:=qj P o
 rw [hc] at b9
 obtain ⟨c,mk',h4,h5,h6⟩:=b9 ρ em cX obj mk h2 h3
 exact ⟨_,_,_,h5 w,h6 _ _ _ (aW.qa _ _ _),h4.fP hs⟩
def aco (P:Program) (f:FA) (g:List Value→Option (dg×(Nat→Value))):Prop:=
 ∀ (E:Env) (A A' : ax) (B:St) (vs:List KV) (us:List Value) (v:KV),fK P E A B→bb P E vs us→a5 (f A vs) (v,A')→∃ obj mk E',g us=some (obj,mk)∧VK P E' v (mk B.next)∧ee P E A B E' A' (B.new obj)
theorem Dl {o:Oper} {f:FA} {g:List Value→Option (dg×(Nat→Value))} {xs:List Operand} (hc:compile P o.op = .make g xs) (hs:aco P f g):Fm P o (.act f xs):=by
 intro E A A' B ρ base w ev cX v hj hv hg
 obtain ⟨em,h1,h2⟩:=cn hv
 obtain ⟨obj,mk,E',h3,h4,h5⟩:=hs E A A' B _ _ v hj.k h1 hg
 obtain ⟨aX,v',w',h6,h7,h8⟩:=TV hc hj.s h2 h3
 exact ⟨E',B.new obj,aX,v',_,w',h6,rfl,⟨_,h4,h7⟩,h5.ev h8⟩
def ajQ (P:Program) (f:FP) (g:List Value→Option (dg×(Nat→Value))):Prop:=
 ∀ (E:Env) (A:ax) (B:St) (vs:List KV) (us:List Value) (v:KV),fK P E A B→bb P E vs us→a5 (f vs) v→∃ obj mk E',g us=some (obj,mk)∧VK P E' v (mk B.next)∧ee P E A B E' A (B.new obj)
theorem acp {o:Oper} {f:FP} {g:List Value→Option (dg×(Nat→Value))} {xs:List Operand} (hc:compile P o.op = .make g xs) (hs:ajQ P f g):Fm P o (.look f xs):=by
 intro E A B ρ base w ev cX v hj hv hg
 obtain ⟨em,h1,h2⟩:=cn hv
 obtain ⟨obj,mk,E',h3,h4,h5⟩:=hs E A B _ _ v hj.k h1 hg
 obtain ⟨aX,v',w',h6,h7,h8⟩:=TV hc hj.s h2 h3
 exact ⟨E',B.new obj,aX,v',_,w',h6,rfl,⟨_,h4,h7⟩,h5.ev h8⟩
def Env.lZ (E:Env) (b x:Nat):Env:={ E with κ:=fun c=>if c=b then some x else E.κ c }
def Env.gD (E:Env) (b:Nat) (r:aeU):Env:={ E with z:=fun c=>if c=b then some r else E.z c }
def Env.rN (E:Env) (b g:Nat):Env:={ E with φ:=fun c=>if c=b then some g else E.φ c }
theorem ee.newRow {A:ax} {B:St} {cs:List KV} {b8:List Value} {bU:Nat} (h:fK P E A B) (hv:bb P E cs b8):ee P E A B (E.lZ A.next B.next) (A.new (.row cs bU)) (B.new (.row b8 bU true none)):=by
 have hle:E.le (E.lZ A.next B.next):=⟨fun _ _ e=>e,fun b x e=>by
  have:=h.lQ b x e
  simp only [Env.lZ]; rw [if_neg (by omega)]; exact e,fun _ _ e=>e,fun _ _ e=>e⟩
 have hA:∀ (b:Nat) (v:KV),(A.new (.row cs bU)).get b=some (.arr v)→A.get b=some (.arr v):=fun b v hb=>by
  rw [ax.dr] at hb
  split at hb
  ·simp at hb
  ·exact hb
 have Y7:∀ (b:Nat) (v:KV),(A.new (.row cs bU)).get b=some (.jO v)→A.get b=some (.jO v):=fun b v hb=>by
  rw [ax.dr] at hb
  split at hb
  ·simp at hb
  ·exact hb
 have xC:∀ x,AR A E x→(B.new (.row b8 bU true none)).get x=B.get x:=fun x q=>by have:=h.Eo q; rw [St.dr,if_neg (by omega)]
 refine ⟨⟨?_,?_,?_,?_,?_,?_,?_,?_,?_,?_,?_,?_,?_,?_,h.ar.mC hle (fun _=>rfl) hA Y7 (by simp) (by simp) xC (fun _ _ e=>.inl e) (fun b x e=>?_) (fun b g e=>.inl ⟨b,e⟩) (fun _ _=>by simp) h.mem⟩,hle,by simp,?_,?_,fun _ _ e=>.inl e,fun _ _ e=>.inl e,fun _ _ _ _=>by simp,fun _ q=>.inl (q.of (fun _=>rfl) hA),fun _ q=>.inl (q.of (fun _=>rfl) hA xC),fun _ _ q=>.inl (by simpa using q),fun _ q=>.inl (q.of (fun _=>rfl) hA xC fun _ _=>by simp),nt Y6⟩
 ·intro b mB KK hb
  rw [ax.dr] at hb
  split at hb
  ·rename_i e
   simp at hb
   obtain ⟨rfl,rfl⟩:=hb
   exact ⟨B.next,b8,by simp [Env.lZ,e],by simp,hv.mono hle⟩
  ·obtain ⟨x,c,h1,h2,h3⟩:=h.row b mB KK hb
   have:=h.hH b x h1
   exact ⟨x,c,hle.κ _ _ h1,by rw [St.dr,if_neg (by omega)]; exact h2,h3.mono hle⟩
 ·intro b top Dm hb
  rw [ax.dr] at hb
  split at hb
  ·simp at hb
  ·rcases h.bc b top Dm hb with h1 | ⟨g,h1,Y8,h2⟩
   ·exact .inl h1
   ·refine .inr ⟨g,h1,Y8,fun x hx c e own f k hg=>?_⟩
    rw [St.dr] at hg
    split at hg
    ·simp at hg
    ·exact h2 x (by simpa using hx) c e own f k hg
 ·intro b r hb
  have:=h.nD b r hb
  rw [St.dr,if_neg (by omega)]
  exact h.z b r hb
 ·intro b x hb
  simp only [Env.lZ] at hb ⊢
  split at hb
  ·simp at hb
   subst hb
   cases hz:E.z B.next with
   | none=>rfl
   | some r=>have:=h.nD _ r hz; omega
  ·exact h.apart b x hb
 ·intro b c x hb hc
  simp only [Env.lZ] at hb hc
  split at hb <;> split at hc
  ·omega
  ·simp at hb; subst hb; have:=h.hH c _ hc; omega
  ·simp at hc; subst hc; have:=h.hH b _ hb; omega
  ·exact h.inj b c x hb hc
 ·exact Cv.new (E:=E.lZ A.next B.next) (fun x y g a b c d e f hx hy=>h.jP x y g a b c d e f hx hy) (.inl fun _ _=>by simp)
 ·intro b x hb
  simp only [Env.lZ] at hb
  rw [ax.cr]
  split at hb
  ·omega
  ·have:=h.lQ b x hb; omega
 ·intro b g hb; have:=h.nq b g hb; rw [ax.cr]; omega
 ·intro b o hb
  rw [ax.dr] at hb
  rw [ax.cr]
  split at hb
  ·omega
  ·have:=h.live b o hb; omega
 ·intro b x hb
  simp only [Env.lZ] at hb
  rw [St.cr]
  split at hb
  ·simp at hb; omega
  ·have:=h.hH b x hb; omega
 ·intro b r hb; have:=h.nD b r hb; rw [St.cr]; omega
 ·intro b g hb; have:=h.kr b g hb; rw [St.cr]; omega
 ·intro g hg; rw [St.cr] at hg; rw [St.lB]; exact h.fresh g (by omega)
 ·intro g x hx; rw [St.lB] at hx; rw [St.cr]; have:=h.mem g x hx; omega
 ·simp only [Env.lZ] at e
  split at e
  ·simp at e; exact .inr (by omega)
  ·exact .inl e
 ·intro x hx _ _; rw [St.dr,if_neg (by omega)]
 ·intro b x hb
  simp only [Env.lZ] at hb
  split at hb
  ·simp at hb; exact .inr (by omega)
  ·exact .inl hb
theorem ee.ahO {A:ax} {B:St} {b8:List Value} {bU:Nat} (h:fK P E A B):ee P E A B (E.gD B.next ⟨b8,bU,true,none⟩) A (B.new (.row b8 bU true none)):=by
 have hle:E.le (E.gD B.next ⟨b8,bU,true,none⟩):=⟨fun _ _ e=>e,fun _ _ e=>e,fun b r e=>by
  have:=h.nD b r e
  simp only [Env.gD]; rw [if_neg (by omega)]; exact e,fun _ _ e=>e⟩
 have xC:∀ x,AR A E x→(B.new (.row b8 bU true none)).get x=B.get x:=fun x q=>by have:=h.Eo q; rw [St.dr,if_neg (by omega)]
 have Ii:∀ b r,(E.gD B.next ⟨b8,bU,true,none⟩).z b=some r→E.z b=some r∨B.next≤b:=fun b r e=>by
  simp only [Env.gD] at e
  split at e
  ·exact .inr (by omega)
  ·exact .inl e
 refine ⟨⟨?_,?_,?_,?_,?_,?_,?_,?_,?_,?_,?_,?_,?_,?_,h.ar.mC hle (fun _=>rfl) (fun _ _ e=>e) (fun _ _ e=>e) (Nat.le_refl _) (by simp) xC Ii (fun _ _ e=>.inl e) (fun b g e=>.inl ⟨b,e⟩) (fun _ _=>by simp) h.mem⟩,hle,Nat.le_refl _,?_,?_,fun b r e=>(Ii b r e).imp id .inr,fun _ _ e=>.inl e,fun _ _ _ _=>by simp,fun _ q=>.inl q,fun _ q=>.inl (q.of (fun _=>rfl) (fun _ _ e=>e) xC),fun _ _ q=>.inl (by simpa using q),fun _ q=>.inl (q.of (fun _=>rfl) (fun _ _ e=>e) xC fun _ _=>by simp),nt Y6⟩
 ·intro b mB KK hb
  obtain ⟨x,c,h1,h2,h3⟩:=h.row b mB KK hb
  have:=h.hH b x h1
  exact ⟨x,c,hle.κ _ _ h1,by rw [St.dr,if_neg (by omega)]; exact h2,h3.mono hle⟩
 ·intro b top Dm hb
  rcases h.bc b top Dm hb with h1 | ⟨g,h1,Y8,h2⟩
  ·exact .inl h1
  ·refine .inr ⟨g,h1,Y8,fun x hx c e own f k hg=>?_⟩
   rw [St.dr] at hg
   split at hg
   ·simp at hg
   ·exact h2 x (by simpa using hx) c e own f k hg
 ·intro b r hb
  simp only [Env.gD] at hb
  split at hb
  ·rename_i e
   simp at hb
   subst hb e
   simp
  ·have:=h.nD b r hb
   rw [St.dr,if_neg (by omega)]
   exact h.z b r hb
 ·intro b x hb
  have:=h.hH b x hb
  simp only [Env.gD]
  rw [if_neg (by omega)]
  exact h.apart b x hb
 ·exact h.inj
 ·exact h.jP
 ·exact h.lQ
 ·exact h.nq
 ·exact h.live
 ·intro b x hb; have:=h.hH b x hb; rw [St.cr]; omega
 ·intro b r hb
  simp only [Env.gD] at hb
  rw [St.cr]
  split at hb
  ·omega
  ·have:=h.nD b r hb; omega
 ·intro b g hb; have:=h.kr b g hb; rw [St.cr]; omega
 ·intro g hg; rw [St.cr] at hg; rw [St.lB]; exact h.fresh g (by omega)
 ·intro g x hx; rw [St.lB] at hx; rw [St.cr]; have:=h.mem g x hx; omega
 ·intro x hx _ _; rw [St.dr,if_neg (by omega)]
 ·intro b x hb; exact .inl hb
theorem ee.als {A:ax} {B:St} {b x bU:Nat} {cs:List KV} {b8:List Value} (h:fK P E A B) (hb:∃ mB e,A.get b=some (.row mB e)) (hx:E.κ b=some x) (hold:∃ mB,B.get x=some (.row mB bU true none)∧mB.length=b8.length) (hv:bb P E cs b8):ee P E A B E (A.put b (.row cs bU)) (B.put x (.row b8 bU true none)):=by
 have hA:∀ (c:Nat) (v:KV),(A.put b (.row cs bU)).get c=some (.arr v)→A.get c=some (.arr v):=fun c v hb=>by
  rw [ax.cd] at hb
  split at hb
  ·simp at hb
  ·exact hb
 have Y7:∀ (c:Nat) (v:KV),(A.put b (.row cs bU)).get c=some (.jO v)→A.get c=some (.jO v):=fun c v hb=>by
  rw [ax.cd] at hb
  split at hb
  ·simp at hb
  ·exact hb
 have xC:∀ y,AR A E y→(B.put x (.row b8 bU true none)).get y=B.get y:=fun y q=>by
  rw [St.cd,if_neg]
  intro e
  subst e
  exact (h.ar.z _ q).2 b hx
 refine ⟨⟨?_,?_,?_,h.apart,h.inj,h.jP.put (.inl fun _ _=>by simp),h.lQ,h.nq,?_,h.hH,h.nD,h.kr,?_,?_,h.ar.mC (Env.le_refl _) (fun _=>rfl) hA Y7 (Nat.le_refl _) (Nat.le_refl _) xC (fun _ _ e=>.inl e) (fun _ _ e=>.inl e) (fun b g e=>.inl ⟨b,e⟩) (fun _ _=>by simp) h.mem⟩,Env.le_refl _,Nat.le_refl _,?_,fun _ _ e=>.inl e,fun _ _ e=>.inl e,fun _ _ e=>.inl e,fun _ _ _ _=>by simp,fun _ q=>.inl (q.of (fun _=>rfl) hA),fun _ q=>.inl (q.of (fun _=>rfl) hA xC),fun _ _ q=>.inl (by simpa using q),fun _ q=>.inl (q.of (fun _=>rfl) hA xC fun _ _=>by simp),fun y _ c e own bP q=>by
  rw [St.cd] at q
  split at q
  ·rename_i e2
   simp at q
   obtain ⟨rfl,rfl,rfl,rfl⟩:=q
   obtain ⟨c0,h1,h2⟩:=hold
   exact ⟨c0,by rw [e2]; exact h1,h2⟩
  ·exact ⟨c,q,rfl⟩⟩
 ·intro c mB KK hc
  rw [ax.cd] at hc
  split at hc
  ·rename_i e
   simp at hc
   obtain ⟨rfl,rfl⟩:=hc
   exact ⟨x,b8,by rw [e]; exact hx,by simp,hv⟩
  ·rename_i dJ
   obtain ⟨y,d,h1,h2,h3⟩:=h.row c mB KK hc
   refine ⟨y,d,h1,?_,h3⟩
   rw [St.cd,if_neg (fun e=>dJ (h.inj c b x (by rw [← e]; exact h1) hx))]
   exact h2
 ·intro c top Dm hc
  rw [ax.cd] at hc
  split at hc
  ·simp at hc
  ·rcases h.bc c top Dm hc with h1 | ⟨g,h1,Y8,h2⟩
   ·exact .inl h1
   ·refine .inr ⟨g,h1,Y8,fun y hy d e own f k hg=>?_⟩
    rw [St.cd] at hg
    split at hg
    ·simp at hg
    ·exact h2 y (by simpa using hy) d e own f k hg
 ·intro c r hc
  rw [St.cd,if_neg]
  ·exact h.z c r hc
  ·intro e
   have:=h.apart b x hx
   rw [← e,hc] at this
   simp at this
 ·intro c o hc
  rw [ax.cd] at hc
  rw [ax.rE]
  split at hc
  ·rename_i e
   obtain ⟨mB,e0,hb⟩:=hb
   rw [e]; exact h.live b _ hb
  ·exact h.live c o hc
 ·intro g hg; rw [St.ss]; exact h.fresh g hg
 ·intro g y hy; rw [St.ss] at hy; exact h.mem g y hy
 ·intro y hy hn _
  rw [St.cd,if_neg (fun e=>hn b (by rw [e]; exact hx))]
theorem alu {n:Nat} : aco P (zS n) (aez n):=by
 intro E A A' B vs us v h hv hg
 unfold zS at hg
 split at hg
 ·rename_i x
  obtain ⟨y,rfl,h1⟩:=hv.eW
  obtain ⟨ho,hg⟩:=hg.cond
  have hg:(KV.ptr A.next 0,A.new (.row x.cells n))=(v,A'):=hg
  simp only [Prod.mk.injEq] at hg
  obtain ⟨rfl,rfl⟩:=hg
  have hc:=h1.cells (wQ ho)
  have WM:y.cells.toList.all scalar=true:=List.all_eq_true.2 (hc.scalar ho)
  exact ⟨Cq n y,C5,E.lZ A.next B.next,by simp [aez,WM],.xy (by simp [Env.lZ]),ee.newRow h hc⟩
 ·exact hg.elim
theorem aiI {t:TypeId} {z:Value} (hz:pb P t=some z) (hf:flat z=true) (WM:z.cells.toList.all scalar=true) (ho:ig (gS z).cells=true):aco P (VL (nN P t) (gS z).cells) (HJ P t):=by
 intro E A A' B vs us v h hv hg
 have hg:(KV.ptr A.next 0,A.new (.row (gS z).cells (nN P t)))=(v,A'):=hg
 simp only [Prod.mk.injEq] at hg
 obtain ⟨rfl,rfl⟩:=hg
 exact ⟨Cq (nN P t) z,C5,E.lZ A.next B.next,by simp only [HJ,hz,Option.bind_some,hf,WM,Bool.and_self,cond_true],.xy (by simp [Env.lZ]),ee.newRow h (Ai ho)⟩
theorem KM {cs:List KV} {l:List Value} (h:bb P E cs l):∀ n,bb P E (dV cs n) (gq l n)
 | 0=>.nil
 | n+1=>bb.append h (KM h n)
theorem abz {n b:Nat} {z:Value} (ho:ig (gS z).cells=true):aco P (KA n b (gS z).cells) (Bi n b z):=by
 intro E A A' B vs us v h hv hg
 unfold KA at hg
 split at hg
 ·rename_i k l k' c
  obtain ⟨x,y,rfl,h1,h2⟩:=hv.ll
  have:=h1.dt; subst this
  have:=h2.dt; subst this
  obtain ⟨hc,hg⟩:=a5.mj hg
  simp only [Prod.mk.injEq] at hg
  obtain ⟨rfl,rfl⟩:=hg
  simp only [Bool.and_eq_true,decide_eq_true_eq] at hc
  obtain ⟨⟨h3,h4⟩,h5⟩:=hc
  obtain ⟨l',rfl⟩:=Int.eq_ofNat_of_zero_le h3
  obtain ⟨c',rfl⟩:=Int.eq_ofNat_of_zero_le (Int.le_trans h3 h4)
  have h6:Nat.ble l' c' = true:=Nat.ble_eq_true_of_le (by omega)
  refine ⟨.row (gq z.cells.toList c') n true none,fun k=>.slice (some ⟨k,0,none⟩) l' c',E.lZ A.next B.next,?_,.ahL (by simp [Env.lZ]),ee.newRow h (KM (Ai ho) c')⟩
  have h5:Nat.ble (b * c') 281474976710656=true:=h5
  show cond (Nat.ble l' c'&&Nat.ble (b * c') 281474976710656) _ _=_
  rw [h6,h5]
  rfl
 ·exact hg.elim
theorem fK.rowAt {A:ax} {B:St} (h:fK P E A B) {b x:Nat} {cs:List KV} (hr:rowAt A b=some cs) (hx:E.κ b=some x):∃ b8 bU,B.get x=some (.row b8 bU true none)∧bb P E cs b8:=by
 unfold K.rowAt at hr
 split at hr
 ·rename_i c e hg
  simp at hr
  subst hr
  obtain ⟨y,d,h1,h2,h3⟩:=h.row _ _ _ hg
  rw [hx] at h1
  simp at h1
  subst h1
  exact ⟨d,_,h2,h3⟩
 ·simp at hr
theorem KN (e:KV):∀ (cs:List CK) (k:Nat),(leaves e cs k).length=cs.length
 | [],_=>rfl
 | c::cs,k=>by simp [leaves,KN e cs]
theorem adw {c:CK} {v:KV} (h:kindOk c v=true):leaf c v=v:=by
 cases c with
 | int k=>cases v <;> simp [kindOk] at h; subst h; rfl
 | bool=>cases v <;> simp [kindOk] at h; rfl
 | str=>cases v <;> simp [kindOk] at h; rfl
 | slice t=>
  cases v <;> simp [kindOk] at h
  rename_i T m n es acc
  cases m <;> simp at h
  subst h
  rfl
 | other=>cases v <;> simp [kindOk] at h
theorem Cw:∀ {ks:List CK} {cs:List KV} {i:Nat} {c:CK},aF ks cs=true→ks[i]? = some c→∃ v,cs[i]? = some v∧kindOk c v=true
 | [],_,i,c,_,h=>by simp at h
 | _::_,[],_,_,h,_=>by simp [aF] at h
 | k::ks,v::cs,0,c,h,e=>by
  simp only [aF,Bool.and_eq_true] at h
  simp at e
  subst e
  exact ⟨v,rfl,h.1⟩
 | k::ks,v::cs,i+1,c,h,e=>by
  simp only [aF,Bool.and_eq_true] at h
  obtain ⟨u,h1,h2⟩:=Cw (i:=i) h.2 (by simpa using e)
  exact ⟨u,by simpa using h1,h2⟩
theorem ku:∀ {l:vi} {es:List KV} {i:Nat} {e:KV},fQ l es=true→es[i]? = some e→dv l e=true
 | l,[],i,e,_,h=>by simp at h
 | l,x::es,0,e,h,he=>by
  simp only [fQ,Bool.and_eq_true] at h
  simp at he
  subst he
  exact h.1
 | l,x::es,i+1,e,h,he=>by
  simp only [fQ,Bool.and_eq_true] at h
  exact ku h.2 (by simpa using he)
theorem iH {l:vi} {e:KV} (h:dv l e=true):aF l.ks e.cells=true∧vj e=true:=by
 cases e <;> simp [dv] at h <;> first | exact ⟨h.2,rfl⟩ | skip
 obtain ⟨h1,h2⟩:=h
 cases hk:l.ks with
 | nil=>rw [hk] at h2; simp [aF] at h2
 | cons c cs=>rw [hk] at h2; cases c <;> simp [aF,kindOk] at h2
theorem Pa {e:KV} {ks:List CK} (hk:aF ks e.cells=true):∀ {cs:List CK} {k:Nat},(∀ m c,cs[m]? = some c→ks[k+m]? = some c)→leaves e cs k=(e.cells.drop k).take cs.length
 | [],k,_=>by simp [leaves]
 | c::cs,k,h=>by
  obtain ⟨v,h1,h2⟩:=Cw hk (by simpa using h 0 c rfl)
  have bV:k < e.cells.length:=(List.getElem?_eq_some_iff.1 h1).1
  have ih:=Pa hk (cs:=cs) (k:=k+1) (fun m d hm=>by have:=h (m+1) d (by simpa using hm); rwa [show k+(m+1)=k+1+m by omega] at this)
  simp only [leaves]
  have e1:e.cells.getD k .aw=v:=by simp [List.getD,h1]
  rw [e1,adw h2]
  rw [show Nat.succ k=k+1 from rfl,ih,List.drop_eq_getElem_cons bV]
  have e2:e.cells[k] = v:=by
   have:=List.getElem?_eq_getElem bV
   rw [this] at h1
   simpa using h1
  simp [e2]
theorem fK.Fi {A:ax} {B:St} (h:fK P E A B) {b x L N' : Nat} {v:KV} (hr:Fi A b=some v) (hx:E.α b=some (x,L,N')) :
  ∃ T N es acc,v = .ts T .any N es acc∧jg P T N es acc∧1≤bd P T∧∃ cs e own bP bp,N' = N∧B.get x=some (.row cs e own bP)∧bb P E es bp∧ou (bd P T) 0 cs bp∧L=cs.length∧e=bd P T:=by
 unfold K.Fi at hr
 split at hr
 ·rename_i u hg
  simp at hr; subst hr
  obtain ⟨T,N,es,acc,h1,h2,h3,h4⟩:=h.ar.arr b _ hg
  refine ⟨T,N,es,acc,h1,h2,h3,?_⟩
  rcases h4 with ⟨_,h5⟩ | ⟨y,cs,bP,bp,h4,h5,h6,h7⟩
  ·rw [hx] at h5; simp at h5
  ·rw [hx] at h4
   simp only [Option.some.injEq,Prod.mk.injEq] at h4
   obtain ⟨rfl,rfl,rfl⟩:=h4
   exact ⟨cs,_,_,bP,bp,rfl,h5,h6,h7,rfl,rfl⟩
 ·rename_i u hg
  simp at hr; subst hr
  obtain ⟨T,N,es,acc,h1,h2,h3,h4⟩:=h.ar.jO b _ hg
  refine ⟨T,N,es,acc,h1,h2,h3,?_⟩
  rcases h4 with ⟨_,h5⟩ | ⟨y,r,bp,h4,h5,h6,h7,h8⟩
  ·rw [hx] at h5; simp at h5
  ·rw [hx] at h4
   simp only [Option.some.injEq,Prod.mk.injEq] at h4
   obtain ⟨rfl,rfl,rfl⟩:=h4
   exact ⟨r.cs,_,_,_,bp,rfl,h.z _ _ h5,h7,h8,rfl,h6⟩
 ·simp at hr
theorem Y9 {t T Tc:TypeId} {k x base bU:Nat} {own:Bool} {bP:Option (Nat×Nat)} {e:KV} {u:Value} {cs:List Value} {B:St} (hz:B.get x=some (.row cs bU own bP)) (hc:XW P t Tc=true) (hw:X1 P T Tc k) (Bm:dv (bt P T) e=true)
  (h7:VK P E e u) (fv:u.cells.size=bd P T) (oz:∀ (m:Nat) (y:Value),u.cells[m]? = some y→cs[base+m]? = some y):∃ w,HK P t B [.pointer (some ⟨x,base+k,none⟩)] = some w∧VK P E (J8 (bt P t).agg (leaves e (bt P t).ks k)) w:=by
 simp only [XW,Bool.and_eq_true,decide_eq_true_eq] at hc
 obtain ⟨⟨⟨⟨hTc,hpl⟩,ha⟩,hn⟩,alW⟩:=hc
 have:=Nat.eq_of_beq_eq_true hTc
 subst this
 obtain ⟨alv,alw⟩:=iH Bm
 have hlv:=Pa alv (cs:=(bt P Tc).ks) (k:=k) hw.is
 rw [hlv]
 have HW:=h7.cells alw
 have hlen:e.cells.length=bd P T:=by have:=HW.length; simp at this; omega
 have oM:(bt P Tc).ks.length≤e.cells.length - k:=by
  have:=congrArg List.length hlv
  rw [KN] at this
  simp at this
  omega
 have jI:∀ m,m < (bt P Tc).ks.length→cs[base+k+m]? = u.cells.toList[k+m]?:=by
  intro m hm
  have bV:k+m < u.cells.size:=by omega
  have:=oz (k+m) u.cells[k+m] (by simp [bV])
  rw [show base+(k+m)=base+k+m by omega] at this
  rw [this]
  simp [bV]
 have agL:takeN (bt P Tc).ks.length (C4 (base+k) cs)=some ((u.cells.toList.drop k).take (bt P Tc).ks.length):=by
  have hle:(bt P Tc).ks.length≤(cs.drop (base+k)).length:=by
   cases Ks:(bt P Tc).ks.length with
   | zero=>omega
   | succ q=>
    have:=jI q (by omega)
    have bV:k+q < u.cells.toList.length:=by simp; omega
    rw [List.getElem?_eq_getElem bV] at this
    have:=(List.getElem?_eq_some_iff.1 this).1
    simp
    omega
  rw [rD,Gu hle]
  congr 1
  apply List.ext_getElem?
  intro m
  rw [List.getElem?_take,List.getElem?_take]
  split
  ·rename_i hm
   rw [List.getElem?_drop,List.getElem?_drop]
   exact jI m hm
  ·rfl
 have zT:bb P E (e.cells.drop k |>.take (bt P Tc).ks.length) ((u.cells.toList.drop k).take (bt P Tc).ks.length):=(HW.drop k).take _
 cases xz:(bt P Tc).agg with
 | true=>
  rw [xz] at ha
  refine ⟨.agg ⟨(u.cells.toList.drop k).take (bt P Tc).ks.length⟩,?_,.pd zT⟩
  simp [HK,loadAt,ha,hn,St.v9,dk,x8,hz,agL]
 | false=>
  rw [xz] at ha
  have hl1:(bt P Tc).ks.length=1:=by
   rw [xz] at alW
   exact Nat.eq_of_beq_eq_true (by simpa using alW)
  rw [hl1] at agL zT
  have bV:k < e.cells.length:=by omega
  rw [hl1]
  rw [List.drop_eq_getElem_cons bV] at zT ⊢
  simp only [List.take_succ_cons,List.take_zero] at zT ⊢
  obtain ⟨w,h8,h9⟩:=zT.eW
  refine ⟨w,?_,h9⟩
  simp [HK,loadAt,ha,St.v9,dk,x8,hz,agL,h8]
theorem ae5 {t:TypeId} : ae4 P (TK P t) (HK P t):=by
 intro E A B vs us v h hv hg
 unfold TK at hg
 split at hg
 ·rename_i b off
  obtain ⟨y,rfl,h1⟩:=hv.eW
  obtain ⟨x,hx,rfl⟩:=h1.iW
  split at hg
  ·rename_i ag n ha hn
   split at hg
   ·rename_i l hl
    obtain ⟨cs,h2,h3⟩:=Option.bind_eq_some_iff.1 hl
    obtain ⟨b8,bU,h4,h5⟩:=h.rowAt h2 hx
    obtain ⟨r,h6,h7,_⟩:=h5.uF h3
    cases ag with
    | true=>
     have hg:KV.agg l=v:=hg
     subst hg
     refine ⟨.agg ⟨r⟩,?_,.pd h7⟩
     simp [HK,loadAt,ha,hn,St.v9,dk,x8,h4,h6]
    | false=>
     rw [cond_false] at hg
     split at hg
     ·rename_i u
      have hg:u=v:=hg
      subst hg
      obtain ⟨w,rfl,h8⟩:=h7.eW
      have hlen:n=1:=by
       obtain ⟨e,hle⟩:=MB h3
       have:=congrArg List.length e
       rw [List.length_take,Nat.min_eq_left hle] at this
       simpa using this.symm
      subst hlen
      exact ⟨w,by simp [HK,loadAt,ha,St.v9,dk,x8,h4,h6],h8⟩
     ·exact hg.elim
   ·exact hg.elim
  ·exact hg.elim
 ·rename_i T Tc i k es acc
  obtain ⟨y,rfl,h1⟩:=hv.eW
  obtain ⟨hc,hg⟩:=hg.cond
  have hg:J8 (bt P t).agg (leaves (acc i) (bt P t).ks k)=v:=hg
  subst hg
  obtain ⟨ht,bp,h2,hi,hw,b,off,r,rfl,h4,h5⟩:=h1.Ib
  have am9:=ht.acc i hi
  have hei:es[i]? = some (acc i):=by rw [am9]; simp [List.getD,hi]
  obtain ⟨u,h6,h7⟩:=h2.get hei
  obtain ⟨fv,oz⟩:=h5 i u h6
  exact Y9 (h.z b r h4) hc hw (ku ht.typed hei) h7 fv oz
 ·rename_i T Tc b i k
  obtain ⟨y,rfl,h1⟩:=hv.eW
  split at hg
  ·rename_i T' m N es acc hA
   obtain ⟨hc,hg⟩:=hg.cond
   have hg:J8 (bt P t).agg (leaves (acc i) (bt P t).ks k)=v:=hg
   subst hg
   simp only [Bool.and_eq_true] at hc
   have:=Nat.eq_of_beq_eq_true hc.1
   subst this
   obtain ⟨x,L,N',h2,hw,hi,rfl⟩:=h1.En
   obtain ⟨T2,N2,ph,fW,QF,ht,h1s,cs,e,own,bP,bp,h3,h4,h5,h6,_⟩:=h.Fi hA h2
   simp only [KV.ts.injEq] at QF
   obtain ⟨rfl,rfl,rfl,rfl,rfl⟩:=QF
   have bV:i < es.length:=by rw [← ht.len,← h3]; exact hi
   have hei:es[i]? = some (acc i):=by rw [ht.acc i (by rw [ht.len]; exact bV)]; simp [List.getD,bV]
   obtain ⟨u,h7,h8⟩:=h5.get hei
   obtain ⟨fv,oz⟩:=h6 i u h7
   rw [Nat.zero_add] at oz
   exact Y9 h4 hc.2 hw (ku ht.typed hei) h8 fv oz
  ·exact hg.elim
 ·exact hg.elim
end Go.K
end
section
namespace Go.K
open Go Go.aE
variable {P:Program} {E:Env}
theorem VK.ajR {T:TypeId} {m:Mk} {n:Nat} {es:List KV} {acc:Nat→KV} {u:Value} (h:VK P E (.ts T m n es acc) u):VK P E (.ts T .any n es acc) u:=by
 obtain ⟨ht,bp,h1,a,cap,rfl,h2,h3,_⟩:=h.mI
 simp only [VK]
 exact ⟨ht,bp,h1,a,cap,rfl,h2,h3,trivial⟩
theorem VK.agM {T:TypeId} {acc:Nat→KV} : VK P E (.ts T .any 0 [] acc) (.slice none 0 0):=by
 simp only [VK]
 exact ⟨⟨rfl,fun i h=>by omega,rfl⟩,[],.nil,none,0,rfl,Nat.le_refl _,.inl ⟨rfl,rfl⟩,trivial⟩
theorem VK.amu {b:Bool} {v:KV} {u:Value} (h:VK P E v u):VK P E (cond b v .aw) u:=by
 cases b with
 | false=>exact .rM
 | true=>exact h
theorem VK.m6 {c:CK} {v:KV} {u:Value} (h:VK P E v u):VK P E (m6 c v) u:=by
 unfold K.m6
 split
 ·have:=h.ob; subst this; exact .agM
 ·rename_i t t' m n es acc
  cases hb:Nat.beq t t' with
  | false=>exact .rM
  | true=>
   have:=Nat.eq_of_beq_eq_true hb
   subst this
   exact h.ajR
 ·exact VK.amu h
theorem bb.yR:∀ {ks:List CK} {cs:List KV} {l:List Value},bb P E cs l→cs.length=ks.length→bb P E (yR ks cs) l
 | [],[],l,h,_=>h
 | [],_::_,_,_,e=>by simp at e
 | _::_,[],_,_,e=>by simp at e
 | c::ks,v::cs,l,h,e=>by
  obtain ⟨y,ys,rfl,h1,h2⟩:=h.cons_inv
  exact .cons h1.m6 (bb.yR h2 (by simpa using e))
theorem VK.gu {l:vi} {v:KV} {u:Value} (h:VK P E v u):VK P E (gu l v) u:=by
 unfold K.gu
 split
 ·rename_i cs
  obtain ⟨m,rfl,h1⟩:=h.mD
  cases hb:(l.agg&&Nat.beq cs.length l.ks.length) with
  | false=>exact .rM
  | true=>
   simp only [Bool.and_eq_true] at hb
   exact .pd (h1.yR (Nat.eq_of_beq_eq_true hb.2))
 ·cases l.agg with
  | true=>exact .rM
  | false=>
   rw [cond_false]
   split
   ·exact h.m6
   ·exact .rM
theorem QY (d:Nat) (v:KV):aj P (d+1) v=(match v with
 | .ts t _ n _ acc=>.ts t .any n ((List.range n).map fun i=>ay P (aj P d) t (acc i)) (fun i=>ay P (aj P d) t (acc i))
 | v=>v):=rfl
theorem abA (d:Nat) {c:CK} {v:KV} (h:kindOk c v=true):kindOk c (aj P d v)=true:=by
 cases d with
 | zero=>exact h
 | succ d=>
  rw [QY]
  split
  ·rename_i t m n es acc
   cases c <;> simp [kindOk] at h
   cases m <;> simp at h
   simp [kindOk,h]
  ·exact h
theorem Dn (d:Nat):∀ {ks:List CK} {cs:List KV},aF ks cs=true→aF ks (cs.map (aj P d))=true
 | [],[],_=>rfl
 | [],_::_,h=>by simp [aF] at h
 | _::_,[],h=>by simp [aF] at h
 | c::ks,v::cs,h=>by
  simp only [aF,Bool.and_eq_true] at h
  simp only [List.map_cons,aF,Bool.and_eq_true]
  exact ⟨abA d h.1,Dn d h.2⟩
theorem qo:∀ {ks:List CK} {vs:List KV},aF ks vs=true→vs.length=ks.length
 | [],[],_=>rfl
 | [],_::_,h=>by simp [aF] at h
 | _::_,[],h=>by simp [aF] at h
 | k::ks,v::vs,h=>by
  simp only [aF,Bool.and_eq_true] at h
  simp [qo h.2]
theorem oP {l:vi} : ∀ {es:List KV},(∀ (i:Nat) e,es[i]? = some e→dv l e=true)→fQ l es=true
 | [],_=>rfl
 | e::es,h=>by
  simp only [fQ,Bool.and_eq_true]
  exact ⟨h 0 e rfl,oP fun i x hx=>h (i+1) x (by simpa using hx)⟩
theorem Ij {l:vi} {v:KV} (h:dv l v=true):leaves v l.ks 0=v.cells∧aF l.ks v.cells=true∧(v=J8 l.agg v.cells):=by
 have hk:aF l.ks v.cells=true∧(v=J8 l.agg v.cells):=by
  by_cases ha:∃ cs,v = .agg cs
  ·obtain ⟨cs,rfl⟩:=ha
   simp only [dv,Bool.and_eq_true] at h
   refine ⟨h.2,?_⟩
   rw [h.1]; rfl
  ·have h1:(!l.agg&&aF l.ks [v])=true:=by
    cases v <;> first | exact h | exact absurd ⟨_,rfl⟩ ha | simp [dv] at h
   have hc:v.cells = [v]:=by cases v <;> first | rfl | exact absurd ⟨_,rfl⟩ ha
   simp only [Bool.and_eq_true,Bool.not_eq_true'] at h1
   rw [hc,h1.1]
   exact ⟨h1.2,rfl⟩
 refine ⟨?_,hk.1,hk.2⟩
 rw [Pa (e:=v) (ks:=l.ks) hk.1 (fun m c e=>by rw [Nat.zero_add]; exact e)]
 show (v.cells.drop 0).take l.ks.length=v.cells
 rw [List.drop_zero,← qo hk.1,List.take_length]
theorem Za {l:vi} {cs:List KV} {v:KV} (h:dv l v=true) (hk:aF l.ks cs=true) (hlen:cs.length=v.cells.length):dv l (J8 l.agg cs)=true:=by
 by_cases ha:∃ ds,v = .agg ds
 ·obtain ⟨ds,rfl⟩:=ha
  simp only [dv,Bool.and_eq_true] at h
  rw [h.1]
  show (l.agg&&aF l.ks cs)=true
  rw [h.1,hk]; rfl
 ·have h1:(!l.agg&&aF l.ks [v])=true:=by
   cases v <;> first | exact h | exact absurd ⟨_,rfl⟩ ha | simp [dv] at h
  have hc:v.cells = [v]:=by cases v <;> first | rfl | exact absurd ⟨_,rfl⟩ ha
  simp only [Bool.and_eq_true,Bool.not_eq_true'] at h1
  rw [hc] at hlen
  match cs,hlen with
  | [c],_=>
   rw [h1.1]
   show dv l c=true
   have QX:one c=true:=by
    cases rH:l.ks with
    | nil=>rw [rH] at hk; simp [aF] at hk
    | cons a anQ=>rw [rH] at hk; simp only [aF,Bool.and_eq_true] at hk; cases a <;> cases c <;> first | rfl | simp [kindOk] at hk
   cases c <;> first | (simp [one] at QX; done) | (simp only [dv,h1.1,Bool.not_false,Bool.true_and]; exact hk)
mutual
theorem VK.aj:∀ (d:Nat) {v:KV} {u:Value},VK P E v u→VK P E (K.aj P d v) u
 | 0,_,_,h=>h
 | d+1,v,u,h=>by
  rw [QY]
  split
  ·rename_i t m n es acc
   obtain ⟨ht,bp,h1,a,cap,rfl,h2,h3,_⟩:=h.mI
   simp only [VK]
   have Bm:∀ i,i < n→∃ e e',es[i]? = some e∧bp[i]? = some e'∧acc i=e∧dv (bt P t) e=true∧VK P E e e':=by
    intro i hi
    have hl:i < es.length:=by rw [← ht.len]; exact hi
    have e1:=List.getElem?_eq_getElem hl
    obtain ⟨e',e2,e3⟩:=h1.get e1
    exact ⟨_,e',e1,e2,by rw [ht.acc i hi,List.getD_eq_getElem?_getD,e1]; rfl,ku ht.typed e1,e3⟩
   have hlen:bp.length=n:=by rw [h1.length,ht.len]
   refine ⟨⟨by simp,fun i hi=>?_,?_⟩,bp,?_,a,cap,rfl,h2,h3,trivial⟩
   ·rw [List.getD_eq_getElem?_getD,List.getElem?_map,List.getElem?_range hi]; rfl
   ·refine oP fun i e he=>?_
    rw [List.getElem?_map] at he
    by_cases hi:i < n
    ·rw [List.getElem?_range hi] at he
     simp only [Option.map_some,Option.some.injEq] at he
     obtain ⟨x,x',_,_,q3,q4,_⟩:=Bm i hi
     rw [← he,q3,ay]
     obtain ⟨r1,r2,_⟩:=Ij q4
     rw [r1]
     exact Za q4 (Dn d r2) (by simp)
    ·rw [List.getElem?_eq_none (by simp; omega)] at he; simp at he
   ·refine bb.Qx (by simp [hlen]) fun i e e' he Dd=>?_
    rw [List.getElem?_map] at he
    by_cases hi:i < n
    ·rw [List.getElem?_range hi] at he
     simp only [Option.map_some,Option.some.injEq] at he
     obtain ⟨x,x',_,q2,q3,q4,q5⟩:=Bm i hi
     rw [Dd] at q2
     simp only [Option.some.injEq] at q2
     subst q2
     rw [← he,q3]
     exact VK.ay d q4 q5
    ·rw [List.getElem?_eq_none (by simp; omega)] at he; simp at he
  ·exact h
theorem VK.ay (d:Nat) {t:TypeId} {v:KV} {u:Value} (hk:dv (bt P t) v=true) (h:VK P E v u):VK P E (K.ay P (K.aj P d) t v) u:=by
 obtain ⟨r1,r2,r3⟩:=Ij hk
 rw [K.ay,r1]
 by_cases ha:∃ cs,v = .agg cs
 ·obtain ⟨cs,rfl⟩:=ha
  obtain ⟨l,rfl,h1⟩:=h.mD
  have xz:(bt P t).agg=true:=by simp only [dv,Bool.and_eq_true] at hk; exact hk.1
  rw [xz]
  exact .pd (bb.ae6 d h1)
 ·have hc:v.cells = [v]:=by cases v <;> first | rfl | exact absurd ⟨_,rfl⟩ ha
  have xz:(bt P t).agg=false:=by
   cases v <;> first | (simp only [dv,Bool.and_eq_true,Bool.not_eq_true'] at hk; exact hk.1) | exact absurd ⟨_,rfl⟩ ha | simp [dv] at hk
  rw [xz,hc]
  exact VK.aj d h
theorem bb.ae6 (d:Nat):∀ {cs:List KV} {l:List Value},bb P E cs l→bb P E (cs.map (K.aj P d)) l
 | [],l,h=>h
 | c::cs,l,h=>by
  obtain ⟨y,ys,rfl,h1,h2⟩:=h.cons_inv
  exact .cons (VK.aj d h1) (bb.ae6 d h2)
end
theorem ae7 {c:CK} {v:KV} (h:kindOk c v=true):one v=true:=by
 cases c <;> cases v <;> simp [kindOk] at h <;> rfl
theorem Cx:∀ {ks:List CK} {cs:List KV},aF ks cs=true→ig cs=true
 | [],[],_=>rfl
 | [],_::_,h=>by simp [aF] at h
 | _::_,[],h=>by simp [aF] at h
 | c::ks,v::cs,h=>by
  simp only [aF,Bool.and_eq_true] at h
  simp [ig,ae7 h.1,Cx h.2]
def bG:List Value→List Value
 | []=>[]
 | v::vs=>v.cells.toList++bG vs
theorem jz {n:Nat} : ∀ {es:List Value},(∀ v∈es,v.cells.size=n)→(bG es).length=es.length * n
 | [],_=>by simp [bG]
 | v::es,h=>by
  simp only [bG,List.length_append,List.length_cons]
  rw [jz fun u hu=>h u (by simp [hu])]
  have:=h v (by simp)
  simp only [Array.length_toList,this,Nat.succ_mul]
  omega
theorem m0 {n:Nat} : ∀ {es:List Value},(∀ v∈es,v.cells.size=n)→ou n 0 (bG es) es
 | [],_,i,x,h=>by simp at h
 | v::es,hs,i,x,h=>by
  have hv:=hs v (by simp)
  cases i with
  | zero=>
   simp at h
   subst h
   refine ⟨hv,fun k y hy=>?_⟩
   simp only [bG,Nat.zero_mul,Nat.zero_add]
   have bV:k < v.cells.size:=(Array.getElem?_eq_some_iff.1 hy).1
   rw [List.getElem?_append_left (by simpa using bV)]
   simpa using hy
  | succ i=>
   obtain ⟨h1,h2⟩:=m0 (es:=es) (fun u hu=>hs u (by simp [hu])) i x (by simpa using h)
   refine ⟨h1,fun k y hy=>?_⟩
   have:=h2 k y hy
   simp only [bG]
   rw [List.getElem?_append_right (by simp [hv,Nat.succ_mul]; omega)]
   rw [← this]
   congr 1
   simp [hv,Nat.succ_mul]
   omega
theorem wR:∀ (a b:List Value),bG (a++b)=bG a++bG b
 | [],b=>rfl
 | v::a,b=>by simp [bG,wR a b]
theorem AU:∀ {es:List Value},(∀ v∈es,∀ c∈v.cells.toList,scalar c=true)→∀ c∈bG es,scalar c=true
 | [],_,c,h=>by simp [bG] at h
 | v::es,hs,c,h=>by
  simp only [bG,List.mem_append] at h
  rcases h with h | h
  ·exact hs v (by simp) c h
  ·exact AU (fun u hu=>hs u (by simp [hu])) c h
theorem VS {n:Nat} : ∀ {es:List Value} {i:Nat} {v:Value},(∀ u∈es,u.cells.size=n)→v.cells.size=n→i < es.length→ic (i * n) (bG es) v.cells.toList=some (bG (es.set i v))
 | [],i,v,_,_,h=>by simp at h
 | u::es,0,v,hs,hv,_=>by
  simp only [Nat.zero_mul,bG,List.set_cons_zero]
  have key:∀ (a b r:List Value),a.length=b.length→ic 0 (a++r) b=some (b++r):=by
   intro a
   induction a with
   | nil=>intro b r h; cases b <;> simp_all [xx]
   | cons x a ih=>
    intro b r h
    cases b with
    | nil=>simp at h
    | cons y b=>rw [List.cons_append,ux,ih b r (by simpa using h)]; rfl
  exact key _ _ _ (by simp [hs u (by simp),hv])
 | u::es,i+1,v,hs,hv,h=>by
  have ih:=VS (es:=es) (i:=i) (fun w hw=>hs w (by simp [hw])) hv (by simpa using h)
  simp only [bG,List.set_cons_succ]
  have key:∀ (a r vs q:List Value) (m:Nat),ic m r vs=some q→ic (a.length+m) (a++r) vs=some (a++q):=by
   intro a
   induction a with
   | nil=>intro r vs q m h; simpa using h
   | cons x a ih=>
    intro r vs q m h
    rw [List.length_cons,show a.length+1+m=(a.length+m)+1 by omega,List.cons_append,qS,ih r vs q m h]
    rfl
  have:=key u.cells.toList _ _ _ _ ih
  rw [show u.cells.toList.length+i * n=(i+1) * n by simp [hs u (by simp),Nat.succ_mul]; omega] at this
  exact this
def xD (es:List Value):List (Nat×Value)→List Value
 | []=>es
 | (i,v)::rest=>xD (es.set i v) rest
theorem NJ:∀ (ps:List (Nat×Value)) (es:List Value),(xD es ps).length=es.length
 | [],_=>rfl
 | p::ps,es=>by simp [xD,NJ ps]
theorem Zb {n:Nat} (hn:1≤n):∀ {ps:List (Nat×Value)} {es:List Value},(∀ u∈es,u.cells.size=n)→(∀ p∈ps,p.2.cells.size=n∧p.1 < es.length)→
  yF (x9 n) (bG es) ps=some (bG (xD es ps))∧∀ u∈xD es ps,u.cells.size=n
 | [],es,hs,_=>⟨rfl,hs⟩
 | (i,v)::ps,es,hs,hp=>by
  obtain ⟨h1,h2⟩:=hp (i,v) (by simp)
  have h3:=VS hs h1 h2
  have YJ:∀ u∈es.set i v,u.cells.size=n:=by
   intro u hu
   rcases List.mem_or_eq_of_mem_set hu with h | h
   ·exact hs u h
   ·subst h; exact h1
  obtain ⟨h4,h5⟩:=Zb hn (ps:=ps) YJ (fun p hq=>by have:=hp p (by simp [hq]); simpa using this)
  refine ⟨?_,h5⟩
  simp only [yF,x9]
  have e1:Nat.beq v.cells.size n=true:=by rw [h1]; simp
  have e2:Nat.ble 1 n=true:=Nat.ble_eq_true_of_le hn
  rw [e1,e2]
  simp only [Bool.and_self,cond_true,h3,Option.bind_some]
  exact h4
theorem Pb {v:KV} {u:Value} (h:VK P E v u):∀ {es:List KV} {bp:List Value} (i:Nat),bb P E es bp→bb P E (setAt es i v) (bp.set i u)
 | [],bp,i,q=>by rw [q.cl]; cases i <;> exact .nil
 | x::es,bp,0,q=>by
  obtain ⟨y,ys,rfl,h1,h2⟩:=q.cons_inv
  exact .cons h h2
 | x::es,bp,i+1,q=>by
  obtain ⟨y,ys,rfl,h1,h2⟩:=q.cons_inv
  exact .cons h1 (Pb h i h2)
theorem Zc {l:vi} : ∀ {is:List Nat} {vs:List KV} {us:List Value} {es:List KV} {bp:List Value},bb P E vs us→bb P E es bp→bb P E (H5 es ((yQ is vs).map fun p=>(p.1,gu l p.2))) (xD bp (zipIdx is us))
 | [],vs,us,es,bp,_,h=>by simpa [yQ,zipIdx,H5,xD] using h
 | i::is,[],us,es,bp,hv,h=>by rw [hv.cl]; simpa [yQ,zipIdx,H5,xD] using h
 | i::is,v::vs,us,es,bp,hv,h=>by
  obtain ⟨y,ys,rfl,h1,h2⟩:=hv.cons_inv
  simp only [yQ,zipIdx,List.map_cons,H5,xD]
  exact Zc h2 (Pb h1.gu i h)
theorem AV:∀ (es:List KV) (i:Nat) (v:KV),(setAt es i v).length=es.length
 | [],0,_=>rfl
 | [],_+1,_=>rfl
 | _::_,0,_=>rfl
 | e::es,i+1,v=>by simp [setAt,AV es i v]
theorem NK:∀ (ps:List (Nat×KV)) (es:List KV),(H5 es ps).length=es.length
 | [],_=>rfl
 | p::ps,es=>by simp [H5,NK ps,AV]
theorem ahP {n:Nat} : ∀ {is:List Nat} (us:List Value),CU n is=true→∀ p∈zipIdx is us,p.1 < n∧p.2∈us
 | [],us,_,p,h=>by simp [zipIdx] at h
 | i::is,[],_,p,h=>by simp [zipIdx] at h
 | i::is,u::us,h,p,hp=>by
  simp only [CU,Bool.and_eq_true,Nat.blt_eq] at h
  simp only [zipIdx,List.mem_cons] at hp
  rcases hp with rfl | hp
  ·exact ⟨h.1,by simp⟩
  ·obtain ⟨h1,h2⟩:=ahP us h.2 p hp
   exact ⟨h1,by simp [h2]⟩
theorem Cy (z:Value):∀ n,gq z.cells.toList n=bG (List.replicate n z)
 | 0=>rfl
 | n+1=>by simp [gq,List.replicate_succ,bG,Cy z n]
theorem QZ {z:KV} {u:Value} (h:VK P E z u):∀ n,bb P E (dV [z] n) (List.replicate n u)
 | 0=>.nil
 | n+1=>by simpa [dV,List.replicate_succ] using bb.cons h (QZ h n)
theorem oE {l:vi} : ∀ {es:List KV} {bp:List Value},fQ l es=true→bb P E es bp→∀ u∈bp,u.cells.size=l.ks.length∧∀ c∈u.cells.toList,scalar c=true
 | [],bp,_,h,u,hu=>by rw [h.cl] at hu; simp at hu
 | e::es,bp,Bm,h,u,hu=>by
  obtain ⟨y,ys,rfl,h1,h2⟩:=h.cons_inv
  simp only [fQ,Bool.and_eq_true] at Bm
  rcases List.mem_cons.1 hu with rfl | hu
  ·obtain ⟨k1,k2⟩:=iH Bm.1
   have hc:=h1.cells k2
   refine ⟨?_,hc.scalar (Cx k1)⟩
   have:=hc.length
   have:=qc k1
   simp at *
   omega
  ·exact oE Bm.2 h2 u hu
theorem acq {l:vi} : ∀ {vs:List KV} {us:List Value},bb P E vs us→bb P E (vs.map (gu l)) us
 | [],_,h=>h
 | v::vs,us,h=>by
  obtain ⟨y,ys,rfl,h1,h2⟩:=h.cons_inv
  exact .cons h1.gu (acq h2)
theorem abB {e:TypeId} {n len:Nat} {z:Value} {is:List Nat} (hn:(bt P e).ks.length=n) (h1n:1≤n) (hz:z.cells.size=n) (hb:CU len is=true) :
  ajQ P (Kx (bt P e) e (gu (bt P e) (gS z)) len is) (vc n z len is):=by
 intro E A B vs us v h hv hg
 unfold Kx at hg
 obtain ⟨hc,hg⟩:=a5.cond hg
 simp only [Bool.and_eq_true] at hc
 obtain ⟨⟨hk,hvs⟩,Bm⟩:=hc
 have hg:KV.ts e .exact len _ _=v:=hg
 subst hg
 have Ik:VK P E (gu (bt P e) (gS z)) z:=(VK.gS z).gu
 have zT:=Zc (l:=bt P e) (is:=is) hv (QZ Ik len)
 have hlen:(H5 (dV [gu (bt P e) (gS z)] len) ((yQ is vs).map fun p=>(p.1,gu (bt P e) p.2))).length=len:=by
  rw [NK,BP]; simp
 have alx:∀ p∈zipIdx is us,p.2.cells.size=n∧p.1 < (List.replicate len z).length:=by
  intro p hp
  obtain ⟨h5,h6⟩:=ahP us hb p hp
  have hm:bb P E (vs.map (gu (bt P e))) us:=acq hv
  exact ⟨by rw [← hn]; exact (oE hvs hm p.2 h6).1,by simpa using h5⟩
 obtain ⟨h3,h4⟩:=Zb h1n (ps:=zipIdx is us) (es:=List.replicate len z) (fun u hu=>by rw [(List.mem_replicate.1 hu).2]; exact hz) alx
 have vh:=oE Bm zT
 have pg:(bG (xD (List.replicate len z) (zipIdx is us))).all scalar=true:=List.all_eq_true.2 (AU fun u hu=>(vh u hu).2)
 refine ⟨.row (bG (xD (List.replicate len z) (zipIdx is us))) n true none,fun b=>.slice (some ⟨b,0,none⟩) len len,E.gD B.next ⟨_,n,true,none⟩,?_,?_,ee.ahO h⟩
 ·unfold vc
  rw [Cy,h3]
  simp only [Option.bind_some]
  rw [pg,Ig hv hk]
  rfl
 ·have agN:=zT.mono (ee.ahO (b8:=bG (xD (List.replicate len z) (zipIdx is us))) (bU:=n) h).le
  have mq:(xD (List.replicate len z) (zipIdx is us)).length=len:=by rw [NJ]; simp
  simp only [VK]
  refine ⟨⟨hlen.symm,fun i _=>rfl,Bm⟩,_,agN,some ⟨B.next,0,none⟩,len,rfl,Nat.le_refl _,.inr ⟨B.next,0,⟨bG (xD (List.replicate len z) (zipIdx is us)),n,true,none⟩,rfl,by simp [Env.gD],hn.symm,?_⟩,rfl,fun b off hb=>?_⟩
  ·have:=m0 h4
   unfold bd
   rw [hn]
   exact this
  ·simp at hb
   obtain ⟨rfl,rfl⟩:=hb
   refine ⟨⟨bG (xD (List.replicate len z) (zipIdx is us)),n,true,none⟩,by simp [Env.gD],rfl,rfl,?_⟩
   simp only [bd,hn]
   rw [jz h4,mq]
   omega
theorem adx {n len:Nat} {z:Value} {is:List Nat} (ho:ig (gS z).cells=true):aco P (O1 n (gS z).cells len is) (vc n z len is):=by
 intro E A A' B vs us v h hv hg
 unfold O1 at hg
 split at hg
 ·rename_i cs hf
  obtain ⟨hk,hg⟩:=a5.cond hg
  simp only [Bool.and_eq_true] at hk
  have hg:(KV.sl A.next 0 len len,A.new (.row cs n))=(v,A'):=hg
  simp only [Prod.mk.injEq] at hg
  obtain ⟨rfl,rfl⟩:=hg
  obtain ⟨h2,h3⟩:=YY is hv
  obtain ⟨r',e,hr⟩:=YX h2 h3 (fun p hp=>by have:=YZ is vs p hp; exact List.all_eq_true.1 hk.1 _ this) (KM (Ai (P:=P) (E:=E) ho) len) hf
  refine ⟨.row r' n true none,fun b=>.slice (some ⟨b,0,none⟩) len len,E.lZ A.next B.next,?_,.ahL (by simp [Env.lZ]),ee.newRow h hr⟩
  unfold vc
  rw [e]
  simp only [Option.bind_some]
  rw [Ig hv hk.1,List.all_eq_true.2 (hr.scalar hk.2)]
  rfl
 ·exact hg.elim
theorem Gv {m cap:Nat} {lo hi:Bool} {r:List KV} {r' : List Value} {x y:Int} (h:QP m lo hi r=some (x,y)) (hr:bb P E r r') (h0:0≤x) (h1:x≤y) (h2:y≤(m:Int)) (hc:m≤cap) :
  sh m cap lo hi false r' = some (x.toNat,y.toNat,cap):=by
 obtain ⟨x',rfl⟩:=Int.eq_ofNat_of_zero_le h0
 obtain ⟨y',rfl⟩:=Int.eq_ofNat_of_zero_le (Int.le_trans h0 h1)
 have hb:∀ (k:IntKind) (i n:Nat),i≤n→WG n (.int k (i:Int))=some i:=by
  intro k i n h
  show kY (.ofNat i) (Nat.succ n)=some i
  exact oD (by omega)
 match r,h with
 | [],h=>
  rw [hr.cl]
  cases lo <;> cases hi <;> simp [QP] at h
  obtain ⟨h3,h4⟩:=h
  simp [sh]
  omega
 | [.int k a],h=>
  obtain ⟨u,rfl,h3⟩:=hr.eW
  have:=h3.dt; subst this
  cases lo <;> cases hi <;> simp [QP] at h
  ·obtain ⟨h4,rfl⟩:=h
   simp only [sh]
   rw [hb k y' cap (by omega)]
   simp
   omega
  ·obtain ⟨rfl,h4⟩:=h
   simp only [sh]
   rw [hb k x' m (by omega)]
   simp
   omega
 | [.int k a,.int k' c],h=>
  obtain ⟨u,v,rfl,h3,h4⟩:=hr.ll
  have:=h3.dt; subst this
  have:=h4.dt; subst this
  cases lo <;> cases hi <;> simp [QP] at h
  obtain ⟨rfl,rfl⟩:=h
  simp only [sh]
  rw [hb k' y' cap (by omega)]
  simp only [Option.bind_some]
  rw [hb k x' y' (by omega)]
  simp
theorem NL {l:vi} : ∀ {es:List KV} (n:Nat),fQ l es=true→fQ l (es.drop n)=true
 | es,0,h=>by simpa using h
 | [],n+1,_=>rfl
 | e::es,n+1,h=>by
  simp only [fQ,Bool.and_eq_true] at h
  simpa using NL n h.2
theorem NM {l:vi} : ∀ {es:List KV} (n:Nat),fQ l es=true→fQ l (es.take n)=true
 | es,0,h=>rfl
 | [],n+1,_=>rfl
 | e::es,n+1,h=>by
  simp only [fQ,Bool.and_eq_true] at h
  simp [fQ,h.1,NM n h.2]
theorem Jo {l:vi} : ∀ {es fs:List KV},fQ l es=true→fQ l fs=true→fQ l (es++fs)=true
 | [],fs,_,h=>h
 | e::es,fs,h,k=>by
  simp only [fQ,Bool.and_eq_true] at h
  simp [fQ,h.1,Jo h.2 k]
theorem ou.part {sz off x k:Nat} {cs es:List Value} (h:ou sz off cs es):ou sz (off+x * sz) cs ((es.drop x).take k):=by
 intro i v hv
 rw [List.getElem?_take] at hv
 split at hv
 ·rw [List.getElem?_drop] at hv
  obtain ⟨h1,h2⟩:=h (x+i) v hv
  refine ⟨h1,fun j y hj=>?_⟩
  rw [← h2 j y hj]
  congr 1
  rw [Nat.add_mul]
  omega
 ·simp at hv
theorem TW {es:List KV} {i:Nat} (h:i < es.length):es[i]? = some (es.getD i .aw):=by simp [List.getD,h]
theorem ae8 {n:Nat} {lo hi:Bool} (_:1≤n):ae4 P (TM P n lo hi) (ya n lo hi false):=by
 intro E A B vs us v h hv hg
 unfold TM at hg
 split at hg
 ·rename_i T mk m es acc r
  split at hg
  ·rename_i x y hb
   obtain ⟨fv,hg⟩:=hg.cond
   have fv:=Nat.eq_of_beq_eq_true fv
   obtain ⟨hc,rfl⟩:=a5.mj hg
   simp only [Bool.and_eq_true,decide_eq_true_eq] at hc
   obtain ⟨⟨h0,h1⟩,h2⟩:=hc
   obtain ⟨u,r',rfl,h3,h4⟩:=hv.cons_inv
   obtain ⟨ht,bp,h5,a,cap,rfl,h6,h7,_⟩:=h3.mI
   have QI:=Gv hb h4 h0 h1 h2 h6
   have hlen:=ht.len
   have hle:((es.drop x.toNat).take (y.toNat - x.toNat)).length=y.toNat - x.toNat:=by simp; omega
   have hT:jg P T (y.toNat - x.toNat) ((es.drop x.toNat).take (y.toNat - x.toNat)) (fun i=>acc (x.toNat+i)):=by
    refine ⟨hle.symm,fun i hi=>?_,NM _ (NL _ ht.typed)⟩
    rw [ht.acc _ (by omega)]
    simp only [List.getD]
    rw [List.getElem?_take,if_pos hi,List.getElem?_drop]
   rcases h7 with ⟨rfl,hm⟩ | ⟨b,off,rr,rfl,h8,h9,sJ⟩
   ·refine ⟨.slice none (y.toNat - x.toNat) (cap - x.toNat),by simp [ya,QI],?_⟩
    simp only [VK]
    exact ⟨hT,_,(h5.drop _).take _,none,_,rfl,by omega,.inl ⟨rfl,by omega⟩,trivial⟩
   ·have jI:=h.z b rr h8
    have QG:rr.bU=n:=by rw [h9]; exact fv
    refine ⟨.slice (some ⟨b,off+x.toNat * n,none⟩) (y.toNat - x.toNat) (cap - x.toNat),?_,?_⟩
    ·simp [ya,QI,dk,AI,jI,QG]
    ·simp only [VK]
     refine ⟨hT,_,(h5.drop _).take _,_,_,rfl,by omega,.inr ⟨b,off+x.toNat * n,rr,rfl,h8,h9,?_⟩,trivial⟩
     have:bd P T=n:=fv
     rw [this] at sJ ⊢
     exact sJ.part
  ·exact hg.elim
 ·rename_i b o len cap r
  split at hg
  ·rename_i cs bU jI
   split at hg
   ·rename_i x y hb
    obtain ⟨fv,hg⟩:=hg.cond
    have fv:=Nat.eq_of_beq_eq_true fv
    obtain ⟨hc,rfl⟩:=a5.mj hg
    simp only [Bool.and_eq_true,decide_eq_true_eq] at hc
    obtain ⟨⟨⟨h0,h1⟩,h2⟩,h6⟩:=hc
    obtain ⟨u,r',rfl,h3,h4⟩:=hv.cons_inv
    obtain ⟨z,hz,rfl⟩:=h3.MC
    have QI:=Gv hb h4 h0 h1 h2 h6
    obtain ⟨z',b8,e1,e2,_⟩:=h.row b cs bU jI
    rw [hz] at e1
    simp at e1
    subst e1
    refine ⟨.slice (some ⟨z,o+x.toNat * n,none⟩) (y.toNat - x.toNat) (cap - x.toNat),?_,.ahL hz⟩
    simp [ya,QI,dk,AI,e2,fv]
   ·exact hg.elim
  ·exact hg.elim
 ·rename_i T b o m r
  split at hg
  ·rename_i T' mk N es acc hA
   split at hg
   ·rename_i x y hb
    obtain ⟨fv,hg⟩:=hg.cond
    obtain ⟨hc,rfl⟩:=a5.mj hg
    simp only [Bool.and_eq_true] at fv
    have hT:=Nat.eq_of_beq_eq_true fv.2
    have alX:bd P T=n:=Nat.eq_of_beq_eq_true fv.1
    subst hT
    simp only [Bool.and_eq_true,decide_eq_true_eq] at hc
    obtain ⟨⟨h0,h1⟩,h2⟩:=hc
    obtain ⟨u,r',rfl,h3,h4⟩:=hv.cons_inv
    rcases h3.vo with ⟨rfl,rfl,rfl⟩ | ⟨z,L,N',c,e1,rfl,e2,e3,e4⟩
    ·have QI:=Gv hb h4 h0 h1 h2 (Nat.le_refl _)
     have hx0:x.toNat=0:=by omega
     have hy0:y.toNat=0:=by omega
     refine ⟨.slice none (y.toNat - x.toNat) (0 - x.toNat),by simp [ya,QI],.NH (.inl ⟨by omega,by omega,by rw [hx0,hy0]⟩)⟩
    ·have QI:=Gv hb h4 h0 h1 h2 e2
     obtain ⟨T2,N2,ph,fW,QF,_,_,cs,e,own,bP,bp,_,h5,_,_,_,h7⟩:=h.Fi hA e1
     simp only [KV.ts.injEq] at QF
     obtain ⟨rfl,_⟩:=QF
     refine ⟨.slice (some ⟨z,o * bd P T+x.toNat * n,none⟩) (y.toNat - x.toNat) (c - x.toNat),?_,.NH (.inr ⟨z,L,N',c - x.toNat,e1,?_,by omega,by omega,?_⟩)⟩
     ·simp [ya,QI,dk,AI,h5,h7,alX]
     ·simp only [Value.slice.injEq,Option.some.injEq,Addr.mk.injEq,and_true,true_and]
      rw [alX,Nat.add_mul]
     ·rw [← e4]
      congr 1
      omega
   ·exact hg.elim
  ·exact hg.elim
 ·exact hg.elim
theorem ady {len n:Nat} {lo hi:Bool} : ae4 P (O4 len n lo hi) (HN len n lo hi false):=by
 intro E A B vs us v h hv hg
 unfold O4 at hg
 split at hg
 ·rename_i b o r
  split at hg
  ·rename_i cs bU jI
   split at hg
   ·rename_i x y hb
    obtain ⟨fv,hg⟩:=hg.cond
    simp only [Bool.and_eq_true] at fv
    have tP:=Nat.eq_of_beq_eq_true fv.1
    have hsz2:=Nat.le_of_ble_eq_true fv.2
    obtain ⟨hc,rfl⟩:=a5.mj hg
    simp only [Bool.and_eq_true,decide_eq_true_eq] at hc
    obtain ⟨⟨h0,h1⟩,h2⟩:=hc
    obtain ⟨u,r',rfl,h3,h4⟩:=hv.cons_inv
    obtain ⟨z,hz,rfl⟩:=h3.iW
    have QI:=Gv hb h4 h0 h1 h2 (Nat.le_refl _)
    obtain ⟨z',b8,e1,e2,e3⟩:=h.row b cs bU jI
    rw [hz] at e1
    simp at e1
    subst e1
    have hlen:=e3.length
    refine ⟨.slice (some ⟨z,o+x.toNat * n,none⟩) (y.toNat - x.toNat) (len - x.toNat),?_,.ahL hz⟩
    have rG:Nat.ble (o+len * n) b8.length=true:=Nat.ble_eq_true_of_le (by omega)
    simp [HN,QI,dk,AI,Qt,e2,tP,rG]
    try omega
   ·exact hg.elim
  ·exact hg.elim
 ·exact hg.elim
theorem adz {lo hi:Bool} : uK P (O5 lo hi) (C7 lo hi):=by
 intro E vs us v hv hg
 unfold O5 at hg
 split at hg
 ·rename_i s r
  split at hg
  ·rename_i x y hb
   obtain ⟨hc,rfl⟩:=a5.mj hg
   simp only [Bool.and_eq_true,decide_eq_true_eq] at hc
   obtain ⟨⟨h0,h1⟩,h2⟩:=hc
   obtain ⟨u,r',rfl,h3,h4⟩:=hv.cons_inv
   have:=h3.rL; subst this
   have QI:=Gv hb h4 h0 h1 h2 (Nat.le_refl _)
   exact ⟨_,by simp [C7,QI],.mkStr⟩
  ·exact hg.elim
 ·exact hg.elim
theorem adA:ae4 P (fun _=>H6) C9:=by
 intro E A B vs us v h hv hg
 have hg:a5 (H6 vs) v:=hg
 unfold H6 at hg
 split at hg
 ·obtain ⟨u,rfl,h1⟩:=hv.eW
  have:=h1.ob; subst this
  have hg:KV.str ⟨⟨[]⟩⟩=v:=hg
  subst hg
  exact ⟨_,rfl,.mkStr⟩
 ·rename_i T mk m es acc _
  obtain ⟨u,rfl,h1⟩:=hv.eW
  obtain ⟨hc,rfl⟩:=a5.mj hg
  obtain ⟨ht,bp,h5,a,cap,rfl,h6,h7,_⟩:=h1.mI
  have hlen:=ht.len
  rcases h7 with ⟨rfl,hm⟩ | ⟨b,off,rr,rfl,h8,h9,sJ⟩
  ·have:es = []:=List.length_eq_zero_iff.1 (by omega)
   subst this
   exact ⟨_,rfl,.mkStr⟩
  ·have jI:=h.z b rr h8
   have wS:∀ (i:Nat) (w:Value),bp[i]? = some w→∃ e,es[i]? = some e∧w = .int .u8 (byteOf e).toNat∧w.cells.size=1:=by
    intro i w hw
    have hi:i < es.length:=by rw [← h5.length]; exact (List.getElem?_eq_some_iff.1 hw).1
    obtain ⟨w',e1,e2⟩:=h5.get (TW hi)
    rw [hw] at e1
    simp at e1
    subst e1
    have wN:=List.all_eq_true.1 hc _ (List.mem_of_getElem? (TW hi))
    refine ⟨_,TW hi,?_⟩
    revert e2 wN
    generalize es.getD i .aw=e
    intro e2 wN
    cases e <;> simp [ahE] at wN
    rename_i k q
    cases k <;> simp at wN
    have:=e2.dt; subst this
    refine ⟨?_,rfl⟩
    simp only [byteOf,Value.int.injEq,true_and]
    obtain ⟨p,rfl⟩:=Int.eq_ofNat_of_zero_le wN.1
    have hp:p < 256:=by omega
    simp [UInt8.toNat_ofNat',Nat.mod_eq_of_lt hp]
   have ana:bp=es.map fun e=>.int .u8 (byteOf e).toNat:=by
    apply List.ext_getElem?
    intro i
    cases hw:bp[i]? with
    | none=>
     have:es.length≤i:=by rw [← h5.length]; exact List.getElem?_eq_none_iff.1 hw
     simp [this]
    | some w=>
     obtain ⟨e,e1,e2,_⟩:=wS i w hw
     simp [e1,e2]
   have tP:∀ i w,bp[i]? = some w→bd P T=1:=fun i w hw=>by
    obtain ⟨_,_,_,D9⟩:=wS i w hw
    rw [← (sJ i w hw).1]; exact D9
   have BN:B.v9 ⟨b,off,none⟩ m=some bp:=by
    simp only [St.v9,dk,Option.isNone_none,cond_true,x8,jI,Option.bind_some]
    have sv:bp.length=m:=by rw [h5.length]; exact hlen.symm
    have oz:∀ i,i < m→rr.cs[off+i]? = bp[i]?:=by
     intro i hi
     have OM:i < bp.length:=by omega
     have hw:bp[i]? = some bp[i]:=List.getElem?_eq_getElem OM
     have h1':=tP i _ hw
     obtain ⟨h12,h13⟩:=sJ i _ hw
     obtain ⟨e,e1,e2,_⟩:=wS i _ hw
     have:=h13 0 bp[i] (by rw [e2]; rfl)
     rw [h1'] at this
     rw [hw,← this]
     congr 1
     omega
    have hle:m≤(rr.cs.drop off).length:=by
     cases hm0:m with
     | zero=>omega
     | succ q=>
      have:=oz q (by omega)
      have hq:q < bp.length:=by omega
      rw [List.getElem?_eq_getElem hq] at this
      have:=(List.getElem?_eq_some_iff.1 this).1
      simp
      omega
    rw [rD,Gu hle]
    congr 1
    apply List.ext_getElem?
    intro i
    rw [List.getElem?_take]
    split
    ·rename_i hi
     rw [List.getElem?_drop]
     exact oz i hi
    ·rename_i hi
     exact (List.getElem?_eq_none_iff.2 (by omega)).symm
   have adk:∀ (l:List KV),Ec (l.map fun e=>.int .u8 (byteOf e).toNat)=some (l.map byteOf):=by
    intro l
    induction l with
    | nil=>rfl
    | cons e l ih=>
     have hb:=(byteOf e).toNat_lt
     show cond (Nat.blt (byteOf e).toNat 256) ((Ec (l.map fun e=>.int .u8 (byteOf e).toNat)).map (UInt8.ofNat (byteOf e).toNat::·)) none=_
     have:Nat.blt (byteOf e).toNat 256=true:=by rw [Nat.blt_eq]; omega
     rw [this,cond_true,ih]
     simp
   refine ⟨.string ⟨⟨es.map byteOf⟩⟩,?_,.mkStr⟩
   simp only [C9,BN,Option.bind_some]
   rw [ana,adk]
   rfl
 ·exact hg.elim
theorem Zd {b lo hi:Nat} : ∀ {L:List Nat} {B:St},(∀ x∈L,qR (B.get x) lo hi=false)→B.kill b lo hi L=B
 | [],B,_=>rfl
 | x::L,B,h=>by
  simp only [St.kill]
  rw [h x (by simp),Bool.and_false,cond_false]
  exact Zd fun y hy=>h y (by simp [hy])
theorem ee.ahQ {A:ax} {B:St} (sz:Nat) (h:fK P E A B):ee P E A B E (A.new (.bc 0 sz)) B:=by
 have hn:E.φ A.next=none:=by
  cases Fl:E.φ A.next with
  | none=>rfl
  | some g=>have:=h.nq _ g Fl; omega
 have hA:∀ (b:Nat) (v:KV),(A.new (.bc 0 sz)).get b=some (.arr v)→A.get b=some (.arr v):=fun b v hb=>by
  rw [ax.dr] at hb
  split at hb
  ·simp at hb
  ·exact hb
 have Y7:∀ (b:Nat) (v:KV),(A.new (.bc 0 sz)).get b=some (.jO v)→A.get b=some (.jO v):=fun b v hb=>by
  rw [ax.dr] at hb
  split at hb
  ·simp at hb
  ·exact hb
 refine ⟨⟨?_,?_,h.z,h.apart,h.inj,h.jP.new (.inr hn),fun b x e=>?_,fun b g e=>?_,?_,h.hH,h.nD,h.kr,h.fresh,h.mem,h.ar.mC (Env.le_refl _) (fun _=>rfl) hA Y7 (by simp) (Nat.le_refl _) (fun _ _=>rfl) (fun _ _ e=>.inl e) (fun _ _ e=>.inl e) (fun b g e=>.inl ⟨b,e⟩) (fun _ _=>rfl) h.mem⟩,Env.le_refl _,by simp,fun _ _ _ _=>rfl,fun _ _ e=>.inl e,fun _ _ e=>.inl e,fun _ _ e=>.inl e,fun _ _ _ _=>rfl,fun _ q=>.inl (q.of (fun _=>rfl) hA),fun _ q=>.inl (q.of (fun _=>rfl) hA fun _ _=>rfl),fun _ _ q=>.inl q,fun _ q=>.inl (q.of (fun _=>rfl) hA (fun _ _=>rfl) fun _ _=>rfl),nt fun _ _=>rfl⟩
 ·intro b cs bU hb
  rw [ax.dr] at hb
  split at hb
  ·simp at hb
  ·exact h.row b cs bU hb
 ·intro b top Dm hb
  rw [ax.dr] at hb
  split at hb
  ·rename_i e
   simp at hb
   refine .inl ⟨hb.1.symm,?_⟩
   cases Fl:E.φ b with
   | none=>rfl
   | some g=>have:=h.nq b g Fl; omega
  ·exact h.bc b top Dm hb
 ·have:=h.lQ b x e; rw [ax.cr]; omega
 ·have:=h.nq b g e; rw [ax.cr]; omega
 ·intro b o hb
  rw [ax.dr] at hb
  rw [ax.cr]
  split at hb
  ·omega
  ·have:=h.live b o hb; omega
theorem ee.grow {A:ax} {B:St} {f g top NN sz:Nat} {c:List Value} (h:fK P E A B) (hA:A.get f=some (.bc top sz)) (hf:(E.φ f=none∧g=B.next)∨E.φ f=some g) (hc:c.length=NN * sz) (ht:top≤NN) (Gd:0 < NN) :
  ee P E A B ((E.gD B.next ⟨c,sz,true,some (g,0)⟩).rN f g) (A.put f (.bc NN sz)) (B.grow g 0 c sz):=by
 have nf:∀ x,(B.grow g 0 c sz).get x=if x=B.next then some (.row c sz true (some (g,0))) else B.get x:=fun x=>by simp [St.grow]
 have lj:∀ q,(B.grow g 0 c sz).members q=if q=g then B.next::B.members g else B.members q:=fun q=>by simp [St.grow,St.AL]
 have jf:(B.grow g 0 c sz).next=B.next+1:=rfl
 have hlef:=h.live f _ hA
 have hle:E.le ((E.gD B.next ⟨c,sz,true,some (g,0)⟩).rN f g):=by
  refine ⟨fun _ _ e=>e,fun _ _ e=>e,fun b r e=>?_,fun b q e=>?_⟩
  ·have:=h.nD b r e
   simp only [Env.rN,Env.gD]; rw [if_neg (by omega)]; exact e
  ·simp only [Env.rN,Env.gD]
   split
   ·rename_i e2
    subst e2
    rcases hf with ⟨h1,_⟩ | h1
    ·rw [h1] at e; simp at e
    ·rw [h1] at e; exact e
   ·exact e
 have hg:g≤B.next:=by
  rcases hf with ⟨_,h1⟩ | h1
  ·omega
  ·have:=h.kr f g h1; omega
 generalize hB' : B.grow g 0 c sz=B' at nf lj jf
 have hAk:∀ (b:Nat) (v:KV),(A.put f (.bc NN sz)).get b=some (.arr v)→A.get b=some (.arr v):=fun b v hb=>by
  rw [ax.cd] at hb
  split at hb
  ·simp at hb
  ·exact hb
 have Y7:∀ (b:Nat) (v:KV),(A.put f (.bc NN sz)).get b=some (.jO v)→A.get b=some (.jO v):=fun b v hb=>by
  rw [ax.cd] at hb
  split at hb
  ·simp at hb
  ·exact hb
 have xC:∀ x,x < B.next→B'.get x=B.get x:=fun x hx=>by rw [nf,if_neg (by omega)]
 have Ii:∀ b r,((E.gD B.next ⟨c,sz,true,some (g,0)⟩).rN f g).z b=some r→E.z b=some r∨B.next≤b:=fun b r e=>by
  simp only [Env.rN,Env.gD] at e
  split at e
  ·exact .inr (by omega)
  ·exact .inl e
 have alY:∀ b q,((E.gD B.next ⟨c,sz,true,some (g,0)⟩).rN f g).φ b=some q→E.φ b=some q∨B.next≤q:=fun b q e=>by
  simp only [Env.rN,Env.gD] at e
  split at e
  ·rename_i e2
   simp at e
   subst e e2
   rcases hf with ⟨_,h1⟩ | h1
   ·exact .inr (by omega)
   ·exact .inl h1
  ·exact .inl e
 have WN:∀ q,AF A E B q→B'.members q=B.members q:=fun q hq=>by
  rw [lj,if_neg]
  intro e2
  subst e2
  obtain ⟨b,v,x,L,N,cs,e,own,k,h1,h2,h3⟩:=hq
  obtain ⟨h4,h5,_⟩:=h.ar.sk b v x L N cs e own q k h1 h2 h3
  rcases hf with ⟨_,h1⟩ | h1
  ·omega
  ·exact h5 f h1
 have agO:∀ q y,y∈B'.members q→y∈B.members q∨B.next≤y:=fun q y hy=>by
  rw [lj] at hy
  split at hy
  ·rename_i e2
   subst e2
   rcases List.mem_cons.1 hy with hy | hy
   ·exact .inr (by omega)
   ·exact .inl hy
  ·exact .inl hy
 refine ⟨⟨?_,?_,?_,?_,?_,?_,?_,?_,?_,?_,?_,?_,?_,?_,h.ar.mC hle (fun _=>rfl) hAk Y7 (Nat.le_refl _) (by omega) (fun x q=>xC x (h.Eo q)) Ii (fun _ _ e=>.inl e) (fun b q e=>(alY b q e).imp (fun e=>⟨b,e⟩) id) WN h.mem⟩,hle,Nat.le_refl _,?_,fun b x e=>.inl e,fun b r e=>(Ii b r e).imp id .inr,alY,fun q hq hn _=>by
  rw [lj,if_neg]
  intro e2
  subst e2
  rcases hf with ⟨_,h1⟩ | h1
  ·omega
  ·exact hn f h1,fun _ q=>.inl (q.of (fun _=>rfl) hAk),fun _ q=>.inl (q.of (fun _=>rfl) hAk fun x q=>xC x (h.Eo q)),agO,fun _ q=>.inl (q.of (fun _=>rfl) hAk (fun x q=>xC x (h.Eo q)) WN),nt xC⟩
 ·intro b cs bU hb
  rw [ax.cd] at hb
  split at hb
  ·simp at hb
  ·obtain ⟨x,c2,h1,h2,h3⟩:=h.row b cs bU hb
   have:=h.hH b x h1
   exact ⟨x,c2,h1,by rw [nf,if_neg (by omega)]; exact h2,h3.mono hle⟩
 ·intro b t Dm hb
  rw [ax.cd] at hb
  split at hb
  ·rename_i e
   simp at hb
   obtain ⟨rfl,rfl⟩:=hb
   subst e
   refine .inr ⟨g,by simp [Env.rN],Gd,fun x hx cs e own q k hr=>?_⟩
   rw [nf] at hr
   rw [lj,if_pos rfl] at hx
   split at hr
   ·simp at hr
    obtain ⟨rfl,rfl,_,_,rfl⟩:=hr
    exact ⟨rfl,Nat.le_of_eq hc⟩
   ·rename_i dJ
    rcases List.mem_cons.1 hx with hx | hx
    ·exact absurd hx dJ
    ·rcases hf with ⟨_,h1⟩ | h1
     ·rw [h1,h.fresh _ (Nat.le_refl _)] at hx; simp at hx
     ·rcases h.bc b top sz hA with ⟨_,h2⟩ | ⟨g2,h2,_,h3⟩
      ·rw [h1] at h2; simp at h2
      ·rw [h1] at h2
       simp at h2
       subst h2
       obtain ⟨h4,h5⟩:=h3 x hx cs e own q k hr
       exact ⟨h4,Nat.le_trans h5 (Nat.mul_le_mul_right _ ht)⟩
  ·rename_i J9
   rcases h.bc b t Dm hb with ⟨h1,h2⟩ | ⟨g2,h2,hp2,h3⟩
   ·exact .inl ⟨h1,by simp only [Env.rN,Env.gD]; rw [if_neg J9]; exact h2⟩
   ·have dJ:g2≠g:=by
     intro e
     subst e
     rcases hf with ⟨_,h1⟩ | h1
     ·have:=h.kr b g2 h2; omega
     ·exact J9 (h.jP b f g2 _ _ _ _ hb hA h2 h1)
    refine .inr ⟨g2,by simp only [Env.rN,Env.gD]; rw [if_neg J9]; exact h2,hp2,fun x hx cs e own q k hr=>?_⟩
    rw [lj,if_neg dJ] at hx
    have:=h.mem g2 x hx
    rw [nf,if_neg (by omega)] at hr
    exact h3 x hx cs e own q k hr
 ·intro b r hb
  simp only [Env.rN,Env.gD] at hb
  rw [nf]
  split at hb
  ·rename_i e; simp at hb; subst hb; rw [if_pos e]
  ·rename_i e; rw [if_neg e]; exact h.z b r hb
 ·intro b x hb
  have hb:E.κ b=some x:=hb
  have:=h.hH b x hb
  simp only [Env.rN,Env.gD]
  rw [if_neg (by omega)]
  exact h.apart b x hb
 ·exact h.inj
 ·intro b d q tb sb td sd lb ld hb hd
  simp only [Env.rN,Env.gD] at hb hd
  rw [ax.cd] at lb ld
  have key:∀ d t s,d≠f→A.get d=some (.bc t s)→E.φ d≠some g:=by
   intro d t s hd hl e
   rcases hf with ⟨_,h1⟩ | h1
   ·have:=h.kr d g e; omega
   ·exact hd (h.jP d f g _ _ _ _ hl hA e h1)
  by_cases e1:b=f <;> by_cases e2:d=f
  ·omega
  ·rw [if_pos e1] at hb; rw [if_neg e2] at hd ld; simp at hb; subst hb; exact absurd hd (key d _ _ e2 ld)
  ·rw [if_pos e2] at hd; rw [if_neg e1] at hb lb; simp at hd; subst hd; exact absurd hb (key b _ _ e1 lb)
  ·rw [if_neg e1] at hb lb; rw [if_neg e2] at hd ld; exact h.jP b d q _ _ _ _ lb ld hb hd
 ·exact h.lQ
 ·intro b q hb
  simp only [Env.rN,Env.gD] at hb
  rw [ax.rE]
  split at hb
  ·omega
  ·exact h.nq b q hb
 ·intro b o hb
  rw [ax.cd] at hb
  rw [ax.rE]
  split at hb
  ·omega
  ·exact h.live b o hb
 ·intro b x hb; have:=h.hH b x hb; omega
 ·intro b r hb
  simp only [Env.rN,Env.gD] at hb
  rw [jf]
  split at hb
  ·omega
  ·have:=h.nD b r hb; omega
 ·intro b q hb
  simp only [Env.rN,Env.gD] at hb
  rw [jf]
  split at hb
  ·simp at hb; omega
  ·have:=h.kr b q hb; omega
 ·intro q hq
  rw [jf] at hq
  rw [lj,if_neg (by omega)]
  exact h.fresh q (by omega)
 ·intro q x hx
  rw [jf]
  rw [lj] at hx
  split at hx
  ·rcases List.mem_cons.1 hx with hx | hx
   ·omega
   ·have:=h.mem g x hx; omega
  ·have:=h.mem q x hx; omega
 ·intro x hx _ _; rw [nf,if_neg (by omega)]
end Go.K
end
section
namespace Go.K
open Go Go.aE
variable {P:Program} {E:Env}
def mkE (agg:Bool) (m:List Value):Value:=cond agg (.agg ⟨m⟩) (m.headD .nilIface)
theorem Ze {agg:Bool} {m:List Value} (hs:∀ v∈m,scalar v=true) (h:agg=true∨m.length=1):(mkE agg m).cells.toList=m:=by
 cases agg with
 | true=>rfl
 | false=>
  rcases h with h | h
  ·simp at h
  ·match m,h with
   | [v],_=>
    have:=hs v (by simp)
    show v.cells.toList = [v]
    cases v <;> first | rfl | simp [scalar] at this
theorem TX {l:vi} {ks:List KV} (h:aF l.ks ks=true) (ha:l.agg=true∨l.ks.length=1):dv l (J8 l.agg ks)=true:=by
 obtain ⟨agg,cs⟩:=l
 cases agg with
 | true=>simpa [J8,dv] using h
 | false=>
  simp at ha
  match cs,ha,ks,h with
  | [c],_,[v],h=>
   have hk:kindOk c v=true:=by simpa [aF] using h
   show dv ⟨false,[c]⟩ v=true
   cases v with
   | agg cs=>cases c <;> simp [kindOk] at hk
   | kk cs=>cases c <;> simp [kindOk] at hk
   | _=>simpa [dv] using h
  | [c],_,[],h=>simp [aF] at h
  | [c],_,_::_::_,h=>simp [aF] at h
theorem Zf {E:Env} {ks:List KV} {m:List Value} {agg:Bool} (h:bb P E ks m) (ha:agg=true∨m.length=1):VK P E (J8 agg ks) (mkE agg m):=by
 cases agg with
 | true=>exact .pd h
 | false=>
  rcases ha with ha | ha
  ·simp at ha
  ·match m,ha,ks,h with
   | [v],_,ks,h=>
    have hl:=h.length
    match ks,hl,h with
    | [k],_,h=>
     obtain ⟨y,ys,e,h1,_⟩:=h.cons_inv
     simp at e
     rw [e.1]
     exact h1
theorem Il {α:Type} : ∀ {n:Nat} {l vs r:List α},lD n l vs=some r→
  r.length=l.length∧(vs≠[]→n+vs.length≤l.length)∧∀ (i:Nat),r[i]? = if n≤i∧i < n+vs.length then vs[i - n]? else l[i]?
 | 0,l,[],r,h=>by simp [lD] at h; subst h; simp
 | 0,[],_::_,r,h=>by simp [lD] at h
 | 0,x::l,v::vs,r,h=>by
  simp only [lD,Option.map_eq_some_iff] at h
  obtain ⟨q,hq,rfl⟩:=h
  obtain ⟨h1,h2,h3⟩:=Il hq
  refine ⟨by simp [h1],?_,fun i=>?_⟩
  ·intro _
   cases vs with
   | nil=>simp
   | cons u us=>have:=h2 (by simp); simp at this ⊢; omega
  ·cases i with
   | zero=>simp
   | succ i=>simp [h3 i]
 | n+1,[],[],r,h=>by simp [lD] at h; subst h; simp
 | n+1,[],_::_,r,h=>by simp [lD] at h
 | n+1,x::l,vs,r,h=>by
  simp only [lD,Option.map_eq_some_iff] at h
  obtain ⟨q,hq,rfl⟩:=h
  obtain ⟨h1,h2,h3⟩:=Il hq
  refine ⟨by simp [h1],?_,fun i=>?_⟩
  ·intro dJ
   have:=h2 dJ
   simp at this ⊢
   omega
  ·cases i with
   | zero=>simp
   | succ i=>
    simp only [List.getElem?_cons_succ,h3 i]
    by_cases hc:n≤i∧i < n+vs.length
    ·rw [if_pos hc,if_pos (by omega),show i+1 - (n+1)=i - n by omega]
    ·rw [if_neg hc,if_neg (by omega)]
theorem Pc (v:KV):∀ (es:List KV) (i j:Nat),(setAt es i v).getD j .aw=if j=i∧i < es.length then v else es.getD j .aw
 | [],0,j=>by simp [setAt]
 | [],_+1,j=>by simp [setAt]
 | e::es,0,0=>by simp [setAt]
 | e::es,0,j+1=>by simp [setAt]
 | e::es,i+1,0=>by simp [setAt]
 | e::es,i+1,j+1=>by
  have:=Pc v es i j
  simp only [setAt,List.getD_cons_succ,List.length_cons]
  rw [this]
  by_cases h:j=i∧i < es.length
  ·rw [if_pos h,if_pos ⟨by omega,by omega⟩]
  ·rw [if_neg h,if_neg (by omega)]
theorem yV:∀ (n:Nat) (l vs:List Value),n+vs.length≤l.length→∃ r,ic n l vs=some r
 | 0,l,[],_=>⟨l,rfl⟩
 | 0,[],_::_,h=>by simp at h
 | 0,x::l,v::vs,h=>by
  obtain ⟨r,hr⟩:=yV 0 l vs (by simp at h ⊢; omega)
  exact ⟨v::r,by rw [ux,hr]; rfl⟩
 | n+1,[],[],_=>⟨[],rfl⟩
 | n+1,[],_::_,h=>by simp at h
 | n+1,x::l,vs,h=>by
  obtain ⟨r,hr⟩:=yV n l vs (by simp at h ⊢; omega)
  exact ⟨x::r,by rw [qS,hr]; rfl⟩
theorem VT:∀ {ks:List CK} {cs:List KV},cs.length=ks.length→(∀ (i:Nat) c v,ks[i]? = some c→cs[i]? = some v→kindOk c v=true)→aF ks cs=true
 | [],[],_,_=>rfl
 | [],_::_,h,_=>by simp at h
 | _::_,[],h,_=>by simp at h
 | c::ks,v::cs,h,k=>by
  simp only [aF,Bool.and_eq_true]
  exact ⟨k 0 c v rfl rfl,VT (by simpa using h) fun i d u e1 e2=>k (i+1) d u (by simpa using e1) (by simpa using e2)⟩
theorem agP {l:vi} {e:KV} (h:dv l e=true):l.agg=true∨e.cells.length=1:=by
 by_cases ha:∃ cs,e = .agg cs
 ·obtain ⟨cs,rfl⟩:=ha
  simp only [dv,Bool.and_eq_true] at h
  exact .inl h.1
 ·have hc:e.cells = [e]:=by cases e <;> first | rfl | exact absurd ⟨_,rfl⟩ ha
  rw [hc]
  exact .inr rfl
theorem aiJ {T t:TypeId} {k:Nat} {e vn e2:KV} {u w:Value} (hw:X1 P T t k) (Bm:dv (bt P T) e=true) (hu:VK P E e u) (hvn:dv (bt P t) vn=true) (hvw:VK P E vn w) (h:TJ P T k e vn.cells=some e2) :
  ∃ u2,VK P E e2 u2∧dv (bt P T) e2=true∧u2.cells.size=bd P T∧e2.cells.length=e.cells.length∧(∀ m,u2.cells.toList[m]? = if k≤m∧m < k+w.cells.toList.length then w.cells.toList[m - k]? else u.cells.toList[m]?)∧(w.cells.toList≠[]→k+w.cells.toList.length≤bd P T):=by
 unfold TJ at h
 obtain ⟨l1,l2,_⟩:=Ij Bm
 rw [l1] at h
 obtain ⟨lR,h1,rfl⟩:=Option.map_eq_some_iff.1 h
 obtain ⟨Ge,hk2⟩:=iH Bm
 obtain ⟨QC,OX⟩:=iH hvn
 have hcu:=hu.cells hk2
 have hcw:=hvw.cells OX
 obtain ⟨r,h2,h3⟩:=bb.lD h1 hcu hcw
 obtain ⟨s1,s2,s3⟩:=je h2
 obtain ⟨q1,q2,q3⟩:=Il h1
 have HZ:e.cells.length=bd P T:=qo Ge
 have xz:=agP Bm
 have hlr:r.length=e.cells.length:=by rw [s1,hcu.length]
 have rH:aF (bt P T).ks lR=true:=by
  refine VT (by rw [q1]; exact HZ) fun i c v e1 e3=>?_
  rw [q3 i] at e3
  split at e3
  ·rename_i hc
   obtain ⟨x,Cz,hx2⟩:∃ d,(bt P t).ks[i - k]? = some d∧d=c:=by
    have bV:i - k < (bt P t).ks.length:=by rw [← qo QC]; omega
    refine ⟨_,List.getElem?_eq_getElem bV,?_⟩
    have:=hw.is (i - k) _ (List.getElem?_eq_getElem bV)
    rw [show k+(i - k)=i by omega,e1] at this
    simpa using this.symm
   subst hx2
   obtain ⟨v',h4,h5⟩:=Cw QC Cz
   rw [e3] at h4
   simp at h4; subst h4
   exact h5
  ·obtain ⟨v',h4,h5⟩:=Cw Ge e1
   rw [e3] at h4
   simp at h4; subst h4
   exact h5
 have alZ:dv (bt P T) (J8 (bt P T).agg lR)=true:=TX rH (by
  rcases xz with h | h
  ·exact .inl h
  ·exact .inr (by rw [← qo Ge]; exact h))
 have WM:∀ v∈r,scalar v=true:=h3.scalar (Cx rH)
 have vh:(mkE (bt P T).agg r).cells.toList=r:=Ze WM (xz.imp id fun h=>by rw [hlr]; exact h)
 refine ⟨mkE (bt P T).agg r,Zf h3 (xz.imp id fun h=>by rw [hlr]; exact h),alZ,?_,?_,fun m=>?_,fun dJ=>?_⟩
 ·rw [← Array.length_toList,vh,hlr]; exact HZ
 ·exact (qo (iH alZ).1).trans HZ.symm
 ·rw [vh]; exact s3 m
 ·have:=s2 dJ
  rw [hcu.length] at this
  omega
theorem aiK {sz i k:Nat} {cs:List Value} {bp:List Value} {u u2:Value} {wl:List Value} (hl:ou sz 0 cs bp) (hi:bp[i]? = some u) (hsu:u.cells.size=sz) (oM:wl≠[]→k+wl.length≤sz) (hg:∀ m,u2.cells.toList[m]? = if k≤m∧m < k+wl.length then wl[m - k]? else u.cells.toList[m]?) (kO:u2.cells.size=sz) :
  ∃ lR,ic (i * sz+k) cs wl=some lR∧ou sz 0 lR (bp.set i u2)∧lR.length=cs.length:=by
 have hex:∃ lR,ic (i * sz+k) cs wl=some lR:=by
  cases hwl:wl with
  | nil=>exact ⟨cs,Kq _ _⟩
  | cons a l=>
   have hf:=oM (by rw [hwl]; simp)
   rw [hwl] at hf
   obtain ⟨_,hc⟩:=hl i u hi
   have bV:k+l.length < u.cells.size:=by rw [hsu]; simp at hf; omega
   have:=hc (k+l.length) u.cells[k+l.length] (by simp [bV])
   have hb:=(List.getElem?_eq_some_iff.1 this).1
   exact yV _ _ _ (by simp; omega)
 obtain ⟨lR,h1⟩:=hex
 obtain ⟨s1,s2,s3⟩:=je h1
 refine ⟨lR,h1,fun j x hx=>?_,s1⟩
 rw [List.getElem?_set] at hx
 split at hx
 ·rename_i e
  subst e
  split at hx
  ·simp at hx; subst hx
   refine ⟨kO,fun m y hy=>?_⟩
   have hy' : u2.cells.toList[m]? = some y:=by simpa using hy
   have hm:m < sz:=by rw [← kO]; exact (Array.getElem?_eq_some_iff.1 hy).1
   rw [hg m] at hy'
   rw [Nat.zero_add,s3]
   split at hy'
   ·rw [if_pos (by omega),show i * sz+m - (i * sz+k)=m - k by omega]; exact hy'
   ·rw [if_neg (by omega)]
    have:=(hl i u hi).2 m y (by simpa using hy')
    rwa [Nat.zero_add] at this
  ·simp at hx
 ·rename_i dJ
  obtain ⟨h2,h3⟩:=hl j x hx
  refine ⟨h2,fun m y hy=>?_⟩
  have hm:m < sz:=by rw [← h2]; exact (Array.getElem?_eq_some_iff.1 hy).1
  rw [s3,if_neg]
  ·exact h3 m y hy
  ·rintro ⟨ha,hb⟩
   cases hwl:wl with
   | nil=>rw [hwl] at hb; simp at hb; omega
   | cons a l=>
    have hf:=oM (by rw [hwl]; simp)
    rcases Nat.lt_or_gt_of_ne dJ with h | h
    ·have:(i+1) * sz≤j * sz:=Nat.mul_le_mul_right _ h
     rw [Nat.succ_mul] at this
     omega
    ·have:(j+1) * sz≤i * sz:=Nat.mul_le_mul_right _ h
     rw [Nat.succ_mul] at this
     omega
theorem agQ {T:TypeId} {N i:Nat} {es:List KV} {acc:Nat→KV} {e:KV} (ht:jg P T N es acc) (hi:i < N) (he:dv (bt P T) e=true):jg P T N (setAt es i e) (sC acc i e) where
 len:=by rw [AV]; exact ht.len
 acc j hj:=by
  rw [Pc]
  unfold sC
  cases hb:Nat.beq j i with
  | true=>have:=Nat.eq_of_beq_eq_true hb; rw [if_pos ⟨this,by rw [← ht.len]; exact hi⟩]; rfl
  | false=>rw [if_neg (fun h=>by rw [h.1,Nat.beq_refl] at hb; simp at hb)]; exact ht.acc j hj
 typed:=oP fun j x hx=>by
  have hx' : x=(setAt es i e).getD j .aw:=by rw [List.getD_eq_getElem?_getD,hx]; rfl
  rw [Pc] at hx'
  split at hx'
  ·rw [hx']; exact he
  ·rename_i dJ
   have bV:j < es.length:=by rw [← AV es i e]; exact (List.getElem?_eq_some_iff.1 hx).1
   exact ku ht.typed (i:=j) (by rw [hx',List.getD_eq_getElem?_getD,List.getElem?_eq_getElem bV]; rfl)
theorem CA {B:St} {x y lo hi:Nat} {bP:Option (Nat×Nat)} : (B.eG x bP lo hi).get y=B.get y∨∃ g k,bP=some (g,k)∧y∈B.members g∧y≠x∧(B.eG x bP lo hi).get y=some .dead∧∃ cs e own f j,B.get y=some (.row cs e own (some (f,j))):=by
 cases bP with
 | none=>exact .inl rfl
 | some p=>
  obtain ⟨g,k⟩:=p
  simp only [St.eG,Aa]
  by_cases hc:y∈B.members g∧y≠x∧qR (B.get y) (k+lo) (k+hi)=true
  ·refine .inr ⟨g,k,rfl,hc.1,hc.2.1,by rw [if_pos hc],?_⟩
   have hs:=hc.2.2
   unfold qR at hs
   split at hs
   ·rename_i cs e own f j hy; exact ⟨cs,e,own,f,j,hy⟩
   ·simp at hs
  ·exact .inl (by rw [if_neg hc])
theorem Gw {B:St} {x lo hi:Nat} {bP:Option (Nat×Nat)} : (B.eG x bP lo hi).members=B.members:=by
 cases bP with
 | none=>rfl
 | some p=>simp [St.eG]
theorem NP {B:St} {x lo hi:Nat} {bP:Option (Nat×Nat)} : (B.eG x bP lo hi).next=B.next:=by
 cases bP with
 | none=>rfl
 | some p=>simp [St.eG]
theorem ee.ahR {A:ax} {B:St} {b x N lo hi:Nat} {T:TypeId} {es:List KV} {acc:Nat→KV} {bp cs mB:List Value} {bP:Option (Nat×Nat)} (h:fK P E A B) (hb:∃ v,A.get b=some (.arr v)) (hx:E.α b=some (x,mB.length,N))
  (jI:B.get x=some (.row mB (bd P T) true bP)) (hlen:cs.length=mB.length) (fv:1≤bd P T) (ht:jg P T N es acc) (KO:bb P E es bp) (hl:ou (bd P T) 0 cs bp) :
  ee P E A B E (A.put b (.arr (.ts T .any N es acc))) ((B.put x (.row cs (bd P T) true bP)).eG x bP lo hi):=by
 obtain ⟨v0,hb⟩:=hb
 have qT:AR A E x:=⟨b,v0,_,_,hb,hx⟩
 have jG:((B.put x (.row cs (bd P T) true bP)).eG x bP lo hi).get x=some (.row cs (bd P T) true bP):=by
  rcases CA (B:=B.put x (.row cs (bd P T) true bP)) (x:=x) (y:=x) (lo:=lo) (hi:=hi) (bP:=bP) with e | ⟨g,k,_,_,h3,_⟩
  ·rw [e]; simp
  ·exact absurd rfl h3
 have hgy:∀ y,y≠x→((B.put x (.row cs (bd P T) true bP)).eG x bP lo hi).get y=B.get y∨(((B.put x (.row cs (bd P T) true bP)).eG x bP lo hi).get y=some .dead∧∃ g k,bP=some (g,k)∧y∈B.members g):=by
  intro y hy
  rcases CA (B:=B.put x (.row cs (bd P T) true bP)) (x:=x) (y:=y) (lo:=lo) (hi:=hi) (bP:=bP) with e | ⟨g,k,h1,h2,_,h4,_⟩
  ·exact .inl (by rw [e,St.cd,if_neg hy])
  ·exact .inr ⟨h4,g,k,h1,by simpa using h2⟩
 have lj:((B.put x (.row cs (bd P T) true bP)).eG x bP lo hi).members=B.members:=by rw [Gw]; simp
 have jf:((B.put x (.row cs (bd P T) true bP)).eG x bP lo hi).next=B.next:=by rw [NP]; simp
 generalize (B.put x (.row cs (bd P T) true bP)).eG x bP lo hi=B' at jG hgy lj jf
 have KP:∀ y,y≠x→(E.z y≠none∨AR A E y∨∃ c,E.κ c=some y)→B'.get y=B.get y:=by
  intro y hy hs
  rcases hgy y hy with e | ⟨_,g,k,rfl,h2⟩
  ·exact e
  ·obtain ⟨_,_,h3⟩:=h.ar.sk b v0 x _ _ _ _ _ g k hb hx jI
   obtain ⟨h4,h5,h6⟩:=h3 y h2 hy
   rcases hs with hs | hs | ⟨c,hs⟩
   ·exact absurd h4 hs
   ·exact absurd hs h5
   ·exact absurd hs (h6 c)
 have hA:∀ (c:Nat) (v:KV),(A.put b (.arr (.ts T .any N es acc))).get c=some (.arr v)→∃ u,A.get c=some (.arr u):=fun c v hc=>by
  rw [ax.cd] at hc
  split at hc
  ·rename_i e; exact ⟨v0,by rw [e]; exact hb⟩
  ·exact ⟨v,hc⟩
 have KQ:∀ y,AR (A.put b (.arr (.ts T .any N es acc))) E y→AR A E y:=fun y q=>by
  obtain ⟨c,v,L,M,h1,h2⟩:=q
  obtain ⟨u,h1⟩:=hA c v h1
  exact ⟨c,u,L,M,h1,h2⟩
 have Zg:∀ y,AR A E y→∀ oC e own Q0,B'.get y=some (.row oC e own Q0)→∃ lR,B.get y=some (.row lR e own Q0)∧lR.length=oC.length:=fun y q oC e own Q0 hy=>by
  by_cases Bn:y=x
  ·subst Bn
   rw [jG] at hy
   simp at hy
   obtain ⟨rfl,rfl,rfl,rfl⟩:=hy
   exact ⟨mB,jI,hlen.symm⟩
  ·rw [KP y Bn (.inr (.inl q))] at hy
   exact ⟨oC,hy,rfl⟩
 have ae9:∀ g,AF (A.put b (.arr (.ts T .any N es acc))) E B' g→AF A E B g:=fun g q=>by
  obtain ⟨c,v,y,L,M,oC,e,own,k,h1,h2,h3⟩:=q
  obtain ⟨u,h1⟩:=hA c v h1
  obtain ⟨lR,h3,_⟩:=Zg y ⟨c,u,L,M,h1,h2⟩ _ _ _ _ h3
  exact ⟨c,u,y,L,M,lR,e,own,k,h1,h2,h3⟩
 refine ⟨⟨?_,?_,?_,h.apart,h.inj,h.jP.put (.inl fun _ _=>by simp),h.lQ,h.nq,?_,fun b x e=>by rw [jf]; exact h.hH b x e,fun b r e=>by rw [jf]; exact h.nD b r e,fun b g e=>by rw [jf]; exact h.kr b g e,fun g hg=>by rw [jf] at hg; rw [lj]; exact h.fresh g hg,fun g y hy=>by rw [lj] at hy; rw [jf]; exact h.mem g y hy,?_⟩,Env.le_refl _,Nat.le_refl _,?_,fun _ _ e=>.inl e,fun _ _ e=>.inl e,fun _ _ e=>.inl e,fun _ _ _ _=>by rw [lj],fun y q=>.inl (KQ y q),fun g q=>.inl (ae9 g q),fun g y q=>.inl (by rw [lj] at q; exact q),fun y q=>.inl ?_,?_⟩
 ·intro c oC bU hc
  rw [ax.cd] at hc
  split at hc
  ·simp at hc
  ·obtain ⟨y,c1,h1,h2,h3⟩:=h.row c oC bU hc
   have hy:y≠x:=fun e=>(h.ar.z x qT).2 c (by rw [← e]; exact h1)
   exact ⟨y,c1,h1,by rw [KP y hy (.inr (.inr ⟨c,h1⟩))]; exact h2,h3⟩
 ·intro c top Dm hc
  rw [ax.cd] at hc
  split at hc
  ·simp at hc
  ·rcases h.bc c top Dm hc with h1 | ⟨g,h1,h2,h3⟩
   ·exact .inl h1
   ·refine .inr ⟨g,h1,h2,fun y hy oC e own f k hr=>?_⟩
    rw [lj] at hy
    by_cases Bn:y=x
    ·subst Bn
     rw [jG] at hr
     simp at hr
     obtain ⟨rfl,_,_,rfl⟩:=hr
     obtain ⟨h4,h5⟩:=h3 y hy mB _ _ f k jI
     exact ⟨h4,by rw [hlen]; exact h5⟩
    ·rcases hgy y Bn with e1 | ⟨e1,_⟩
     ·rw [e1] at hr; exact h3 y hy oC e own f k hr
     ·rw [e1] at hr; simp at hr
 ·intro y r hy
  have Bn:y≠x:=fun e=>by have:=(h.ar.z x qT).1; rw [← e,hy] at this; simp at this
  rw [KP y Bn (.inl (by rw [hy]; simp))]
  exact h.z y r hy
 ·intro c o hc
  rw [ax.cd] at hc
  split at hc
  ·rename_i e; rw [e]; exact h.live b _ hb
  ·exact h.live c o hc
 ·refine ⟨?_,?_,fun y q=>h.ar.z y (KQ y q),?_,?_,h.ar.YW,h.ar.lQ,fun b x L N e=>by rw [jf]; exact h.ar.hH b x L N e,?_,fun c v hc=>?_⟩
  ·intro c v hc
   rw [ax.cd] at hc
   split at hc
   ·rename_i e
    simp at hc
    subst hc e
    exact ⟨T,N,es,acc,rfl,ht,fv,.inr ⟨x,cs,bP,bp,by rw [hlen]; exact hx,jG,KO,hl⟩⟩
   ·rename_i dJ
    refine (h.ar.arr c v hc).mono (Env.le_refl _) rfl fun y L M e=>?_
    have Bn:y≠x:=fun e2=>dJ (h.ar.inj c b v v0 x _ _ _ _ hc hb (by rw [← e2]; exact e) hx)
    exact KP y Bn (.inr (.inl ⟨c,v,L,M,hc,e⟩))
  ·intro c v hc
   rw [ax.cd] at hc
   split at hc
   ·simp at hc
   ·exact h.ar.jO c v hc
  ·intro c d v u y L M L' M' h1 h2 h3 h4
   obtain ⟨v',h1⟩:=hA c v h1
   obtain ⟨u',h2⟩:=hA d u h2
   exact h.ar.inj c d v' u' y L M L' M' h1 h2 h3 h4
  ·intro c d v u y w L M L' M' oC e own g k lR e' pk k' h1 h2 h3 h4 h5 h6
   obtain ⟨v',h1⟩:=hA c v h1
   obtain ⟨u',h2⟩:=hA d u h2
   obtain ⟨_,h5,_⟩:=Zg y ⟨c,v',L,M,h1,h3⟩ _ _ _ _ h5
   obtain ⟨_,h6,_⟩:=Zg w ⟨d,u',L',M',h2,h4⟩ _ _ _ _ h6
   exact h.ar.tN c d v' u' y w L M L' M' _ e own g k _ e' pk k' h1 h2 h3 h4 h5 h6
  ·intro c v y L M oC e own g k h1 h2 h3
   obtain ⟨v',h1⟩:=hA c v h1
   obtain ⟨_,h3,_⟩:=Zg y ⟨c,v',L,M,h1,h2⟩ _ _ _ _ h3
   obtain ⟨h4,h5,h6⟩:=h.ar.sk c v' y L M _ e own g k h1 h2 h3
   refine ⟨by rw [jf]; exact h4,h5,fun z hz dJ=>?_⟩
   rw [lj] at hz
   obtain ⟨h7,h8,h9⟩:=h6 z hz dJ
   exact ⟨h7,fun q=>h8 (KQ z q),h9⟩
  ·rw [ax.cd] at hc
   rw [ax.rE]
   split at hc
   ·rename_i e; rw [e]; exact h.ar.nk b _ hb
   ·exact h.ar.nk c v hc
 ·intro y hy hn ha
  by_cases Bn:y=x
  ·subst Bn; exact absurd (.inl qT) ha
  ·rcases hgy y Bn with e | ⟨_,g,k,rfl,h2⟩
   ·exact e
   ·exact absurd (.inr ⟨g,⟨b,v0,x,_,_,mB,_,_,k,hb,hx,jI⟩,h2⟩) ha
 ·rcases q with q | ⟨g,h1,h2⟩
  ·exact .inl (KQ y q)
  ·exact .inr ⟨g,ae9 g h1,by rw [lj] at h2; exact h2⟩
 ·intro y hy oC e own Q0 hr
  by_cases Bn:y=x
  ·exact Zg y (by rw [Bn]; exact qT) oC e own Q0 hr
  ·rcases hgy y Bn with e1 | ⟨e1,_⟩
   ·exact ⟨oC,by rw [← e1]; exact hr,rfl⟩
   ·rw [e1] at hr; simp at hr
theorem aiL {t:TypeId} : ahN P (QO P t) (Eb P t):=by
 intro E A A' B vs us v h hv hg
 unfold QO at hg
 split at hg
 ·rename_i b off x
  obtain ⟨y,z,rfl,h1,h2⟩:=hv.ll
  obtain ⟨c,hx,rfl⟩:=h1.iW
  obtain ⟨hc,hg⟩:=hg.cond
  simp only [Bool.and_eq_true,decide_eq_true_eq] at hc
  obtain ⟨fv,ho⟩:=hc
  split at hg
  ·rename_i cs bU jI
   split at hg
   ·rename_i b8 hw
    have hg:(rp,A.put b (.row b8 bU))=(v,A'):=hg
    simp only [Prod.mk.injEq] at hg
    obtain ⟨rfl,rfl⟩:=hg
    obtain ⟨c',d,e1,e2,e3⟩:=h.row b cs bU jI
    rw [hx] at e1
    simp at e1
    subst e1
    have HW:=h2.cells (wQ ho)
    obtain ⟨r,e4,e5⟩:=bb.lD hw e3 HW
    have pg:z.cells.toList.all scalar=true:=List.all_eq_true.2 (HW.scalar ho)
    have ajS:some z.cells.size=size? P t:=by rw [← fv,KF h2 (wQ ho)]
    refine ⟨undef,B.put c (.row r bU true none),E,?_,.undef,ee.als h ⟨_,_,jI⟩ hx ⟨d,e2,(je e4).1.symm⟩ e5⟩
    simp [Eb,storeAt,ajS,St.xd,dk,pg,e2,e4,St.eG]
   ·exact hg.elim
  ·exact hg.elim
 ·rename_i T Tc b i k x
  obtain ⟨y,z,rfl,h1,h2⟩:=hv.ll
  split at hg
  ·rename_i T' mk N es acc hA
   obtain ⟨hc,Zh⟩:=hg.cond
   clear hg
   simp only [Bool.and_eq_true,decide_eq_true_eq] at hc
   obtain ⟨⟨⟨hT,hTc⟩,Bm⟩,fv⟩:=hc
   have:=Nat.eq_of_beq_eq_true hT
   subst this
   have:=Nat.eq_of_beq_eq_true hTc
   subst this
   split at Zh
   ·rename_i e2 he2
    have hg:(rp,A.put b (.arr (ahB T N i es acc e2)))=(v,A'):=Zh
    simp only [Prod.mk.injEq] at hg
    obtain ⟨rfl,rfl⟩:=hg
    obtain ⟨c,L,N',h3,hw,hi,rfl⟩:=h1.En
    obtain ⟨T2,N2,ph,fW,QF,ht,h1s,wb⟩:=h.ar.arr b _ hA
    simp only [KV.ts.injEq] at QF
    obtain ⟨rfl,rfl,rfl,rfl,rfl⟩:=QF
    rcases wb with ⟨_,h4⟩ | ⟨c',cs,bP,bp,h4,h5,h6,h7⟩
    ·rw [h3] at h4; simp at h4
    rw [h3] at h4
    simp only [Option.some.injEq,Prod.mk.injEq] at h4
    obtain ⟨rfl,rfl,rfl⟩:=h4
    have bV:i < es.length:=by rw [← ht.len]; exact hi
    have hei:es[i]? = some (acc i):=by rw [ht.acc i hi]; simp [List.getD,bV]
    obtain ⟨u,h8,h9⟩:=h6.get hei
    obtain ⟨hsu,oz⟩:=h7 i u h8
    rw [Nat.zero_add] at oz
    have hvn:=h2.gu (l:=bt P Tc)
    obtain ⟨u2,p1,p2,p3,p4,p5,p6⟩:=aiJ (T:=T) (t:=Tc) hw (ku ht.typed hei) h9 Bm hvn he2
    obtain ⟨lR,w1,w2,w3⟩:=aiK h7 h8 hsu p6 p5 p3
    have iX:=ee.ahR (lo:=i * bd P T+k) (hi:=i * bd P T+k+z.cells.toList.length) h ⟨_,hA⟩ h3 h5 (je w1).1 h1s (agQ ht hi p2) (bp:=bp.set i u2) (Pb p1 i h6) w2
    obtain ⟨Ge,hk2⟩:=iH Bm
    have pg:z.cells.toList.all scalar=true:=List.all_eq_true.2 ((hvn.cells hk2).scalar (Cx Ge))
    have hzs:some z.cells.size=size? P Tc:=by
     rw [fv,← qo Ge]
     exact congrArg some (KF hvn hk2)
    refine ⟨undef,_,E,?_,.undef,iX⟩
    simp [Eb,storeAt,hzs,St.xd,dk,pg,h5,w1]
   ·exact Zh.elim
  ·exact hg.elim
 ·exact hg.elim
end Go.K
end
section
namespace Go.K
open Go Go.aE
variable {P:Program} {E:Env}
def Env.Cj (E:Env) (b:Nat) (p:Nat×Nat×Nat):Env:={ E with α:=fun c=>if c=b then some p else E.α c }
theorem Env.ajT {A:ax} {B:St} {p:Nat×Nat×Nat} (h:fK P E A B):E.le (E.Cj A.next p):=⟨fun b q e=>by
 have:=h.ar.lQ b q e
 simp only [Env.Cj]; rw [if_neg (by omega)]; exact e,fun _ _ e=>e,fun _ _ e=>e,fun _ _ e=>e⟩
theorem Env.Ak {b:Nat} {p:Nat×Nat×Nat} : (E.Cj b p).α b=some p:=by simp [Env.Cj]
theorem Env.Gx {b c:Nat} {p:Nat×Nat×Nat} (h:c≠b):(E.Cj b p).α c=E.α c:=by simp [Env.Cj,h]
theorem ee.Q5 {A A1:ax} {B B' : St} {X G:Nat→Prop} {y2 N2:Nat} {T:TypeId} {ph:List KV} {fW:Nat→KV} {Cg lR:List Value} {rF:Option (Nat×Nat)} (h:fK P E A B)
  (sK:A1.next=A.next) (Im:∀ c o,A1.get c=some o→A.get c=some o∨(o = .dead∧c < A.next))
  (f1:∀ c v,A1.get c=some (.arr v)→∀ y L N,E.α c=some (y,L,N)→¬ X y∧∀ cs e own g k,B.get y=some (.row cs e own (some (g,k)))→¬ G g)
  (f2:∀ y,X y→AR A E y) (f3:∀ g,G g→AF A E B g∧g < B.next∧(∀ f,E.φ f≠some g)∧∀ y∈B.members g,¬ X y→E.z y=none∧¬ AR A E y∧∀ c,E.κ c≠some y)
  (n1:X y2∨B.next≤y2) (n1' : y2 < B'.next) (afa:B'.get y2=some (.row lR (bd P T) true rF)) (n2:∀ g k,rF=some (g,k)→G g∨(B.next≤g∧g < B'.next))
  (b1:∀ y,y < B.next→¬ X y→B'.get y=B.get y∨(B'.get y=some .dead∧∃ g,G g∧y∈B.members g))
  (b2:∀ y,X y→∀ cs e own bP,B'.get y=some (.row cs e own bP)→∃ c,B.get y=some (.row c e own bP)∧c.length=cs.length)
  (b3:∀ q y,y∈B'.members q→y∈B.members q∨(y=y2∧B.next≤y2∧∃ k,rF=some (q,k))) (b3' : ∀ q,(∀ k,rF≠some (q,k))→B'.members q=B.members q)
  (b4:B.next≤B'.next) (b4' : ∀ g,B'.next≤g→B'.members g = []) (anb:∀ g y,y∈B'.members g→y < B'.next)
  (fv:1≤bd P T) (ht:jg P T N2 ph fW) (KO:bb P E ph Cg) (hl:ou (bd P T) 0 lR Cg) :
  ee P E A B (E.Cj A.next (y2,lR.length,N2)) (A1.new (.arr (.ts T .any N2 ph fW))) B':=by
 have hle:=Env.ajT (p:=(y2,lR.length,N2)) h
 have ajU:E.α A.next=none:=by
  cases hq:E.α A.next with
  | none=>rfl
  | some p=>have:=h.ar.lQ _ p hq; omega
 have hXlt:∀ y,X y→y < B.next:=fun y hy=>h.Eo (f2 y hy)
 have KP:∀ y,y < B.next→¬ X y→(E.z y≠none∨AR A E y∨∃ c,E.κ c=some y)→B'.get y=B.get y:=by
  intro y bV hy hs
  rcases b1 y bV hy with e | ⟨_,g,hg,h2⟩
  ·exact e
  ·obtain ⟨_,_,_,h3⟩:=f3 g hg
   obtain ⟨h4,h5,h6⟩:=h3 y h2 hy
   rcases hs with hs | hs | ⟨c,hs⟩
   ·exact absurd h4 hs
   ·exact absurd hs h5
   ·exact absurd hs (h6 c)
 have hXz:∀ y,X y→E.z y=none∧∀ c,E.κ c≠some y:=fun y hy=>h.ar.z y (f2 y hy)
 have j7:∀ c o,(A1.new (.arr (.ts T .any N2 ph fW))).get c=some o→(c=A.next∧o = .arr (.ts T .any N2 ph fW))∨(c≠A.next∧A1.get c=some o):=fun c o hc=>by
  rw [ax.dr,sK] at hc
  split at hc
  ·rename_i e; simp at hc; exact .inl ⟨e,hc.symm⟩
  ·rename_i e; exact .inr ⟨e,hc⟩
 have hold:∀ c o,A1.get c=some o→o≠.dead→A.get c=some o:=fun c o hc hd=>by
  rcases Im c o hc with e | ⟨e,_⟩
  ·exact e
  ·exact absurd e hd
 have uL:∀ c v,(A1.new (.arr (.ts T .any N2 ph fW))).get c=some (.arr v)→(c=A.next∧v = .ts T .any N2 ph fW∧(E.Cj A.next (y2,lR.length,N2)).α c=some (y2,lR.length,N2))∨(c≠A.next∧A1.get c=some (.arr v)∧A.get c=some (.arr v)∧(E.Cj A.next (y2,lR.length,N2)).α c=E.α c):=fun c v hc=>by
  rcases j7 c _ hc with ⟨e,e2⟩ | ⟨e,e2⟩
  ·simp at e2
   exact .inl ⟨e,e2,by rw [e]; exact Env.Ak⟩
  ·exact .inr ⟨e,e2,hold c _ e2 (by simp),Env.Gx e⟩
 have CB:∀ c v y L N,A1.get c=some (.arr v)→E.α c=some (y,L,N)→AR A E y∧¬ X y∧y < B.next∧B'.get y=B.get y:=fun c v y L N h1 h2=>by
  have h3:AR A E y:=⟨c,v,L,N,hold c _ h1 (by simp),h2⟩
  obtain ⟨h4,_⟩:=f1 c v h1 y L N h2
  have h5:=h.Eo h3
  exact ⟨h3,h4,h5,KP y h5 h4 (.inr (.inl h3))⟩
 have KQ:∀ y,AR (A1.new (.arr (.ts T .any N2 ph fW))) (E.Cj A.next (y2,lR.length,N2)) y→y=y2∨(AR A E y∧¬ X y):=fun y q=>by
  obtain ⟨c,v,L,M,h1,h2⟩:=q
  rcases uL c v h1 with ⟨_,_,e⟩ | ⟨_,e1,e2,e⟩
  ·rw [e] at h2; simp at h2; exact .inl h2.1.symm
  ·rw [e] at h2
   obtain ⟨h3,h4,_⟩:=CB c v y L M e1 h2
   exact .inr ⟨h3,h4⟩
 have ajV:∀ y,y=y2→AR A E y∨B.next≤y:=fun y e=>by
  subst e
  exact n1.imp (f2 y) id
 have ae9:∀ g,AF (A1.new (.arr (.ts T .any N2 ph fW))) (E.Cj A.next (y2,lR.length,N2)) B' g→(∃ k,rF=some (g,k))∨(AF A E B g∧¬ G g∧g < B.next):=fun g q=>by
  obtain ⟨c,v,y,L,M,oC,e,own,k,h1,h2,h3⟩:=q
  rcases uL c v h1 with ⟨_,_,e⟩ | ⟨_,e1,e2,e⟩
  ·rw [e] at h2
   simp at h2
   rw [← h2.1,afa] at h3
   simp at h3
   exact .inl ⟨k,h3.2.2.2⟩
  ·rw [e] at h2
   obtain ⟨_,_,_,h4⟩:=CB c v y L M e1 h2
   rw [h4] at h3
   refine .inr ⟨⟨c,v,y,L,M,oC,_,own,k,e2,h2,h3⟩,(f1 c v e1 y L M h2).2 _ _ _ _ _ h3,(h.ar.sk c v y L M _ _ _ g k e2 h2 h3).1⟩
 have al0:∀ g,(∃ k,rF=some (g,k))→AF A E B g∨B.next≤g:=fun g ⟨k,e⟩=>by
  rcases n2 g k e with hg | ⟨hg,_⟩
  ·exact .inl (f3 g hg).1
  ·exact .inr hg
 refine ⟨⟨?_,?_,?_,h.apart,h.inj,?_,fun b x e=>by rw [ax.cr,sK]; have:=h.lQ b x e; omega,fun b g e=>by rw [ax.cr,sK]; have:=h.nq b g e; omega,?_,fun b x e=>by have:=h.hH b x e; omega,fun b r e=>by have:=h.nD b r e; omega,fun b g e=>by have:=h.kr b g e; omega,b4',anb,?_⟩,hle,by rw [ax.cr,sK]; omega,?_,fun _ _ e=>.inl e,fun _ _ e=>.inl e,fun _ _ e=>.inl e,?_,fun y q=>?_,fun g q=>?_,fun g y q=>?_,fun y q=>?_,?_⟩
 ·intro c oC bU hc
  rcases j7 c _ hc with ⟨_,e⟩ | ⟨_,e⟩
  ·simp at e
  ·obtain ⟨y,c1,h1,h2,h3⟩:=h.row c oC bU (hold c _ e (by simp))
   have hy : ¬ X y:=fun e=>(hXz y e).2 c h1
   exact ⟨y,c1,h1,by rw [KP y (h.hH c y h1) hy (.inr (.inr ⟨c,h1⟩))]; exact h2,h3.mono hle⟩
 ·intro c top Dm hc
  rcases j7 c _ hc with ⟨_,e⟩ | ⟨_,e⟩
  ·simp at e
  ·rcases h.bc c top Dm (hold c _ e (by simp)) with h1 | ⟨g,h1,h2,h3⟩
   ·exact .inl h1
   ·refine .inr ⟨g,h1,h2,fun y hy oC e own f k hr=>?_⟩
    have hgG:∀ k,rF≠some (g,k):=fun k e=>by
     rcases n2 g k e with hg | ⟨hg,_⟩
     ·exact (f3 g hg).2.2.1 c h1
     ·have:=h.kr c g h1; omega
    rw [b3' g hgG] at hy
    have bV:=h.mem g y hy
    by_cases Bn:X y
    ·obtain ⟨c0,h4,h5⟩:=b2 y Bn _ _ _ _ hr
     obtain ⟨h6,h7⟩:=h3 y hy c0 _ _ f k h4
     exact ⟨h6,by rw [← h5]; exact h7⟩
    ·rcases b1 y bV Bn with e1 | ⟨e1,_⟩
     ·rw [e1] at hr; exact h3 y hy oC _ own f k hr
     ·rw [e1] at hr; simp at hr
 ·intro y r hy
  have hy:E.z y=some r:=hy
  have Bn : ¬ X y:=fun e=>by have:=(hXz y e).1; rw [hy] at this; simp at this
  rw [KP y (h.nD y r hy) Bn (.inl (by rw [hy]; simp))]
  exact h.z y r hy
 ·intro b c g tb sb tc sc hb hc e1 e2
  rcases j7 b _ hb with ⟨_,e⟩ | ⟨_,hb⟩
  ·simp at e
  rcases j7 c _ hc with ⟨_,e⟩ | ⟨_,hc⟩
  ·simp at e
  exact h.jP b c g _ _ _ _ (hold b _ hb (by simp)) (hold c _ hc (by simp)) e1 e2
 ·intro c o hc
  rw [ax.cr,sK]
  rcases j7 c _ hc with ⟨e,_⟩ | ⟨_,e⟩
  ·omega
  ·rcases Im c o e with e | ⟨_,e⟩
   ·have:=h.live c o e; omega
   ·omega
 ·refine ⟨?_,?_,?_,?_,?_,?_,?_,?_,?_,?_⟩
  ·intro c v hc
   rcases uL c v hc with ⟨_,rfl,e⟩ | ⟨_,e1,e2,e⟩
   ·exact ⟨T,N2,ph,fW,rfl,ht,fv,.inr ⟨y2,lR,rF,Cg,e,afa,KO.mono hle,hl⟩⟩
   ·exact (h.ar.arr c v e2).mono hle e fun y L M hy=>(CB c v y L M e1 hy).2.2.2
  ·intro c v hc
   rcases j7 c _ hc with ⟨_,e⟩ | ⟨dJ,e⟩
   ·simp at e
   ·exact (h.ar.jO c v (hold c _ e (by simp))).mono hle (Env.Gx dJ)
  ·intro y q
   rcases KQ y q with e | ⟨e,_⟩
   ·subst e
    rcases n1 with hx | hx
    ·exact hXz y hx
    ·refine ⟨?_,fun c e=>by have:=h.hH c y e; omega⟩
     cases hz:E.z y with
     | none=>exact hz
     | some r=>have:=h.nD y r hz; omega
   ·exact h.ar.z y e
  ·intro c d v u y L M L' M' h1 h2 h3 h4
   rcases uL c v h1 with ⟨e1,_,e⟩ | ⟨_,p1,p2,e⟩ <;> rcases uL d u h2 with ⟨e2,_,e'⟩ | ⟨_,q1,q2,e'⟩
   ·omega
   ·rw [e] at h3; rw [e'] at h4
    simp at h3
    obtain ⟨_,h5,h6,_⟩:=CB d u y L' M' q1 h4
    rw [← h3.1] at h5 h6
    rcases n1 with hx | hx
    ·exact absurd hx h5
    ·omega
   ·rw [e] at h3; rw [e'] at h4
    simp at h4
    obtain ⟨_,h5,h6,_⟩:=CB c v y L M p1 h3
    rw [← h4.1] at h5 h6
    rcases n1 with hx | hx
    ·exact absurd hx h5
    ·omega
   ·rw [e] at h3; rw [e'] at h4
    exact h.ar.inj c d v u y L M L' M' p2 q2 h3 h4
  ·intro c d v u y w L M L' M' oC e own g k cs3 e' pk k' h1 h2 h3 h4 h5 h6
   have Dp:∀ {c v y L M oC e own k k2},A1.get c=some (.arr v)→E.α c=some (y,L,M)→B'.get y=some (.row oC e own (some (g,k)))→rF=some (g,k2)→False:=by
    intro c v y L M oC e own k k2 q1 q2 q3 q4
    obtain ⟨r1,r2,r3,r4⟩:=CB c v y L M q1 q2
    rw [r4] at q3
    rcases n2 g k2 q4 with hg | ⟨hg,_⟩
    ·exact (f1 c v q1 y L M q2).2 _ _ _ _ _ q3 hg
    ·have:=(h.ar.sk c v y L M _ _ _ g k (hold c _ q1 (by simp)) q2 q3).1; omega
   rcases uL c v h1 with ⟨e1,_,ea⟩ | ⟨_,p1,p2,ea⟩ <;> rcases uL d u h2 with ⟨e2,_,eb⟩ | ⟨_,q1,q2,eb⟩
   ·omega
   ·rw [ea] at h3; rw [eb] at h4
    simp at h3
    rw [← h3.1,afa] at h5
    simp at h5
    exact (Dp q1 h4 h6 h5.2.2.2).elim
   ·rw [ea] at h3; rw [eb] at h4
    simp at h4
    rw [← h4.1,afa] at h6
    simp at h6
    exact (Dp p1 h3 h5 h6.2.2.2).elim
   ·rw [ea] at h3; rw [eb] at h4
    rw [(CB c v y L M p1 h3).2.2.2] at h5
    rw [(CB d u w L' M' q1 h4).2.2.2] at h6
    exact h.ar.tN c d v u y w L M L' M' _ _ _ g k _ _ _ k' p2 q2 h3 h4 h5 h6
  ·intro b x e
   have hb:=h.lQ b x e
   rw [Env.Gx (by omega)]
   exact h.ar.YW b x e
  ·intro b p e
   rw [ax.cr,sK]
   by_cases hb:b=A.next
   ·omega
   ·rw [Env.Gx hb] at e; have:=h.ar.lQ b p e; omega
  ·intro b x L N e
   by_cases hb:b=A.next
   ·subst hb; rw [Env.Ak] at e; simp at e; omega
   ·rw [Env.Gx hb] at e; have:=h.ar.hH b x L N e; omega
  ·intro c v y L M oC e own g k h1 h2 h3
   rcases uL c v h1 with ⟨_,_,ea⟩ | ⟨_,p1,p2,ea⟩
   ·rw [ea] at h2
    simp at h2
    obtain ⟨rfl,_⟩:=h2
    rw [afa] at h3
    simp at h3
    have hk:=h3.2.2.2
    refine ⟨?_,fun f e=>?_,fun z hz dJ=>?_⟩
    ·rcases n2 g k hk with hg | ⟨_,hg⟩
     ·have:=(f3 g hg).2.1; omega
     ·exact hg
    ·rcases n2 g k hk with hg | ⟨hg,_⟩
     ·exact (f3 g hg).2.2.1 f e
     ·have:=h.kr f g e; omega
    ·rcases b3 g z hz with hz | ⟨e,_⟩
     ·rcases n2 g k hk with hg | ⟨hg,_⟩
      ·by_cases ahS:X z
       ·exact ⟨(hXz z ahS).1,fun q=>by
         rcases KQ z q with e | ⟨_,e⟩
         ·exact dJ e
         ·exact e ahS,(hXz z ahS).2⟩
       ·obtain ⟨h7,h8,h9⟩:=(f3 g hg).2.2.2 z hz ahS
        refine ⟨h7,fun q=>?_,h9⟩
        rcases KQ z q with e | ⟨e,_⟩
        ·exact dJ e
        ·exact h8 e
      ·rw [h.fresh g hg] at hz; simp at hz
     ·exact absurd e dJ
   ·rw [ea] at h2
    obtain ⟨r1,r2,r3,r4⟩:=CB c v y L M p1 h2
    rw [r4] at h3
    obtain ⟨h4,h5,h6⟩:=h.ar.sk c v y L M _ _ _ g k p2 h2 h3
    refine ⟨by omega,h5,fun z hz dJ=>?_⟩
    have hnG:=(f1 c v p1 y L M h2).2 _ _ _ _ _ h3
    rw [b3' g (fun k e=>by
     rcases n2 g k e with hg | ⟨hg,_⟩
     ·exact hnG hg
     ·omega)] at hz
    obtain ⟨h7,h8,h9⟩:=h6 z hz dJ
    refine ⟨h7,fun q=>?_,h9⟩
    rcases KQ z q with e | ⟨e,_⟩
    ·subst e
     rcases n1 with hx | hx
     ·exact h8 (f2 z hx)
     ·have:=h.mem g z hz; omega
    ·exact h8 e
  ·intro c v hc
   rw [ax.cr,sK]
   rcases uL c v hc with ⟨e1,_,_⟩ | ⟨_,_,e2,_⟩
   ·subst e1
    refine ⟨Nat.lt_succ_self _,?_⟩
    show E.κ A.next=none
    cases hk:E.κ A.next with
    | none=>rfl
    | some x=>have:=h.lQ _ x hk; omega
   ·obtain ⟨q1,q2⟩:=h.ar.nk c v e2
    exact ⟨by omega,q2⟩
 ·intro y hy hn ha
  by_cases Bn:X y
  ·exact absurd (.inl (f2 y Bn)) ha
  ·rcases b1 y hy Bn with e | ⟨_,g,hg,h2⟩
   ·exact e
   ·exact absurd (.inr ⟨g,(f3 g hg).1,h2⟩) ha
 ·intro g hg hn ha
  refine b3' g fun k e=>?_
  rcases n2 g k e with hg' | ⟨hg',_⟩
  ·exact ha (f3 g hg').1
  ·omega
 ·rcases KQ y q with e | ⟨e,_⟩
  ·exact ajV y e
  ·exact .inl e
 ·rcases ae9 g q with e | ⟨e,_⟩
  ·exact al0 g e
  ·exact .inl e
 ·rcases b3 g y q with e | ⟨e,e2,_⟩
  ·exact .inl e
  ·exact .inr (by omega)
 ·rcases q with q | ⟨g,h1,h2⟩
  ·rcases KQ y q with e | ⟨e,_⟩
   ·rcases ajV y e with e | e
    ·exact .inl (.inl e)
    ·exact .inr e
   ·exact .inl (.inl e)
  ·rcases b3 g y h2 with e | ⟨e,e2,_⟩
   ·rcases ae9 g h1 with e1 | ⟨e1,_⟩
    ·rcases al0 g e1 with e2 | e2
     ·exact .inl (.inr ⟨g,e2,e⟩)
     ·rw [h.fresh g e2] at e; simp at e
    ·exact .inl (.inr ⟨g,e1,e⟩)
   ·exact .inr (by omega)
 ·intro y hy oC e own Q0 hr
  by_cases Bn:X y
  ·exact b2 y Bn oC e own Q0 hr
  ·rcases b1 y hy Bn with e1 | ⟨e1,_⟩
   ·exact ⟨oC,by rw [← e1]; exact hr,rfl⟩
   ·rw [e1] at hr; simp at hr
end Go.K
end
section
namespace Go.K
open Go Go.aE
variable {P:Program} {E:Env}
theorem ee.amv {A:ax} {B:St} {c:List Value} {n:Nat} (h:fK P E A B):ee P E A B (E.gD B.next ⟨c,n,true,some (B.next,0)⟩) A (B.grow B.next 0 c n):=by
 have nf:∀ x,(B.grow B.next 0 c n).get x=if x=B.next then some (.row c n true (some (B.next,0))) else B.get x:=fun x=>by simp [St.grow]
 have lj:∀ q,(B.grow B.next 0 c n).members q=if q=B.next then B.next::B.members B.next else B.members q:=fun q=>by simp [St.grow,St.AL]
 have jf:(B.grow B.next 0 c n).next=B.next+1:=rfl
 have hle:E.le (E.gD B.next ⟨c,n,true,some (B.next,0)⟩):=⟨fun _ _ e=>e,fun _ _ e=>e,fun b r e=>by
  have:=h.nD b r e
  simp only [Env.gD]; rw [if_neg (by omega)]; exact e,fun _ _ e=>e⟩
 generalize B.grow B.next 0 c n=B' at nf lj jf
 have xC:∀ x,x < B.next→B'.get x=B.get x:=fun x hx=>by rw [nf,if_neg (by omega)]
 have Ii:∀ b r,(E.gD B.next ⟨c,n,true,some (B.next,0)⟩).z b=some r→E.z b=some r∨B.next≤b:=fun b r e=>by
  simp only [Env.gD] at e
  split at e
  ·exact .inr (by omega)
  ·exact .inl e
 have WN:∀ q,AF A E B q→B'.members q=B.members q:=fun q hq=>by
  rw [lj,if_neg]
  intro e2
  obtain ⟨b,v,x,L,N,cs,e,own,k,h1,h2,h3⟩:=hq
  obtain ⟨h4,h5,_⟩:=h.ar.sk b v x L N cs e own q k h1 h2 h3
  omega
 have agO:∀ q y,y∈B'.members q→y∈B.members q∨B.next≤y:=fun q y hy=>by
  rw [lj] at hy
  split at hy
  ·rename_i e2
   subst e2
   rcases List.mem_cons.1 hy with hy | hy
   ·exact .inr (by omega)
   ·exact .inl hy
  ·exact .inl hy
 refine ⟨⟨?_,?_,?_,?_,h.inj,h.jP,h.lQ,h.nq,h.live,?_,?_,?_,?_,?_,h.ar.mC hle (fun _=>rfl) (fun _ _ e=>e) (fun _ _ e=>e) (Nat.le_refl _) (by omega) (fun x q=>xC x (h.Eo q)) Ii (fun _ _ e=>.inl e) (fun b q e=>.inl ⟨b,e⟩) WN h.mem⟩,hle,Nat.le_refl _,?_,fun b x e=>.inl e,fun b r e=>(Ii b r e).imp id .inr,fun b q e=>.inl e,fun q hq hn _=>by rw [lj,if_neg (by omega)],fun _ q=>.inl q,fun _ q=>.inl (q.of (fun _=>rfl) (fun _ _ e=>e) fun x q=>xC x (h.Eo q)),agO,fun _ q=>.inl (q.of (fun _=>rfl) (fun _ _ e=>e) (fun x q=>xC x (h.Eo q)) WN),nt xC⟩
 ·intro b mB KK hb
  obtain ⟨x,d,h1,h2,h3⟩:=h.row b mB KK hb
  have:=h.hH b x h1
  exact ⟨x,d,h1,by rw [nf,if_neg (by omega)]; exact h2,h3.mono hle⟩
 ·intro b top Dm hb
  rcases h.bc b top Dm hb with h1 | ⟨g,h1,Y8,h2⟩
  ·exact .inl h1
  ·have hg:=h.kr b g h1
   refine .inr ⟨g,h1,Y8,fun x hx d e own f k hr=>?_⟩
   rw [lj,if_neg (by omega)] at hx
   have:=h.mem g x hx
   rw [nf,if_neg (by omega)] at hr
   exact h2 x hx d e own f k hr
 ·intro b r hb
  simp only [Env.gD] at hb
  rw [nf]
  split at hb
  ·rename_i e; simp at hb; subst hb; rw [if_pos e]
  ·rename_i e; rw [if_neg e]; exact h.z b r hb
 ·intro b x hb
  have:=h.hH b x hb
  simp only [Env.gD]
  rw [if_neg (by omega)]
  exact h.apart b x hb
 ·intro b x hb; have:=h.hH b x hb; omega
 ·intro b r hb
  simp only [Env.gD] at hb
  rw [jf]
  split at hb
  ·omega
  ·have:=h.nD b r hb; omega
 ·intro b g hb; have:=h.kr b g hb; omega
 ·intro g hg
  rw [jf] at hg
  rw [lj,if_neg (by omega)]
  exact h.fresh g (by omega)
 ·intro g x hx
  rw [jf]
  rw [lj] at hx
  split at hx
  ·rcases List.mem_cons.1 hx with hx | hx
   ·omega
   ·have:=h.mem _ x hx; omega
  ·have:=h.mem g x hx; omega
 ·intro x hx _ _; rw [nf,if_neg (by omega)]
theorem ee.after {A A1 A2:ax} {B B2:St} {E2:Env} (h:ee P E A B E A1 B) (k:ee P E A1 B E2 A2 B2):ee P E A B E2 A2 B2 where
 jy:=k.jy
 le:=k.le
 next:=Nat.le_trans h.next k.next
 mC x hx hn ha:=k.mC x hx hn fun q=>(h.od x q).elim ha fun e=>by omega
 new:=k.new
 tg b r e:=by
  rcases k.tg b r e with e | e | e
  ·exact .inl e
  ·exact .inr (h.m7 b e)
  ·exact .inr (.inr e)
 th:=k.th
 p0 g hg hn ha:=k.p0 g hg hn fun q=>(h.ns g q).elim ha fun e=>by omega
 m7 x q:=(k.m7 x q).elim (h.m7 x) .inr
 ns g q:=(k.ns g q).elim (h.ns g) .inr
 uI:=k.uI
 od y q:=(k.od y q).elim (h.od y) .inr
 rows:=k.rows
theorem ee.ahT {A:ax} {B:St} {f t:Nat} (sz:Nat) (h:fK P E A B) {Dm:Nat} (hA:A.get f=some (.bc t Dm)) (Fl:E.φ f=none):ee P E A B E (A.put f (.bc 0 sz)) B:=by
 have hAk:∀ (b:Nat) (v:KV),(A.put f (.bc 0 sz)).get b=some (.arr v)→A.get b=some (.arr v):=fun b v hb=>by
  rw [ax.cd] at hb
  split at hb
  ·simp at hb
  ·exact hb
 have Y7:∀ (b:Nat) (v:KV),(A.put f (.bc 0 sz)).get b=some (.jO v)→A.get b=some (.jO v):=fun b v hb=>by
  rw [ax.cd] at hb
  split at hb
  ·simp at hb
  ·exact hb
 refine ⟨⟨fun b cs bU hb=>?_,fun b top Dm hb=>?_,h.z,h.apart,h.inj,h.jP.put (.inr Fl),h.lQ,h.nq,fun b o hb=>?_,h.hH,h.nD,h.kr,h.fresh,h.mem,h.ar.mC (Env.le_refl _) (fun _=>rfl) hAk Y7 (Nat.le_refl _) (Nat.le_refl _) (fun _ _=>rfl) (fun _ _ e=>.inl e) (fun _ _ e=>.inl e) (fun b g e=>.inl ⟨b,e⟩) (fun _ _=>rfl) h.mem⟩,Env.le_refl _,Nat.le_refl _,fun _ _ _ _=>rfl,fun _ _ e=>.inl e,fun _ _ e=>.inl e,fun _ _ e=>.inl e,fun _ _ _ _=>rfl,fun _ q=>.inl (q.of (fun _=>rfl) hAk),fun _ q=>.inl (q.of (fun _=>rfl) hAk fun _ _=>rfl),fun _ _ q=>.inl q,fun _ q=>.inl (q.of (fun _=>rfl) hAk (fun _ _=>rfl) fun _ _=>rfl),nt fun _ _=>rfl⟩
 ·rw [ax.cd] at hb
  split at hb
  ·simp at hb
  ·exact h.row b cs bU hb
 ·rw [ax.cd] at hb
  split at hb
  ·rename_i e2; simp at hb; exact .inl ⟨hb.1.symm,by rw [e2]; exact Fl⟩
  ·exact h.bc b top Dm hb
 ·rw [ax.cd] at hb
  split at hb
  ·rename_i e2; rw [e2]; exact h.live f _ hA
  ·exact h.live b o hb
theorem ajW {t:TypeId} (hu:P.underlying t=some (.int .u8)):bt P t=⟨false,[.int .u8]⟩:=by
 unfold bt
 rw [lay,hu]
 rfl
theorem adB {e:TypeId} (he:isByte P e=true):alV P (O2 e) HR:=by
 intro E A B vs us v h hv hg
 unfold O2 at hg
 split at hg
 ·rename_i s
  obtain ⟨u,rfl,h1⟩:=hv.eW
  have:=h1.rL; subst this
  have hg:KV.ts e .any s.size _ _=v:=hg
  subst hg
  have hu:P.underlying e=some (.int .u8):=by
   unfold isByte at he
   split at he
   ·assumption
   ·simp at he
  have al1:bt P e=⟨false,[.int .u8]⟩:=ajW hu
  refine ⟨_,_,_,rfl,?_,ee.amv h⟩
  simp only [VK]
  have fv:bd P e=1:=by unfold bd; rw [al1]; rfl
  refine ⟨⟨by simp,fun i hi=>?_,?_⟩,kZ s.data.toList,?_,some ⟨B.next,0,none⟩,s.size,rfl,Nat.le_refl _,.inr ⟨B.next,0,⟨kZ s.data.toList,1,true,some (B.next,0)⟩,rfl,by simp [Env.gD],fv.symm,?_⟩,trivial⟩
  ·have OM:i < s.data.toList.length:=by simpa using hi
   simp only [List.getD,List.getElem?_map,List.getElem?_eq_getElem OM,Option.map_some,Option.getD_some]
  ·rw [al1]
   induction s.data.toList with
   | nil=>rfl
   | cons b l ih=>simp [fQ,dv,aF,kindOk,ih]
  ·generalize E.gD B.next _=E'
   induction s.data.toList with
   | nil=>exact .nil
   | cons b l ih=>exact .cons .mkInt ih
  ·rw [fv]
   intro i x hx
   obtain ⟨b,_,rfl⟩:∃ b,s.data.toList[i]? = some b∧x = .int .u8 b.toNat:=by
    simp only [kZ,List.getElem?_map,Option.map_eq_some_iff] at hx
    obtain ⟨b,h1,h2⟩:=hx
    exact ⟨b,h1,h2.symm⟩
   refine ⟨rfl,fun k y hy=>?_⟩
   have hk:k=0:=by
    have:=(Array.getElem?_eq_some_iff.1 hy).1
    simp [Value.cells] at this
    exact this
   subst hk
   simp [Value.cells] at hy
   subst hy
   simpa using hx
 ·exact hg.elim
theorem Ip {B:St} {b off n sz:Nat} {r:aeU} {bp:List Value} (hr:B.get b=some (.row r.cs r.bU r.own r.bP)) (hl:ou sz off r.cs bp) (hn:bp.length=n) (fv:1≤sz) :
  B.v9 ⟨b,off,none⟩ (n * sz)=some (bG bp):=by
 have hs:∀ v∈bp,v.cells.size=sz:=fun v hv=>by
  obtain ⟨i,hi⟩:=List.getElem?_of_mem hv
  exact (hl i v hi).1
 have hlen:=jz hs
 have Gc:=m0 hs
 have oz:∀ j,j < n * sz→r.cs[off+j]? = (bG bp)[j]?:=by
  intro j hj
  have hi:j / sz < bp.length:=by rw [hn]; exact Nat.div_lt_of_lt_mul (by rw [Nat.mul_comm]; exact hj)
  have hv:bp[j / sz]? = some bp[j / sz]:=List.getElem?_eq_getElem hi
  have hk:j % sz < bp[j / sz].cells.size:=by rw [hs _ (List.getElem_mem hi)]; exact Nat.mod_lt _ fv
  have hy:bp[j / sz].cells[j % sz]? = some (bp[j / sz].cells[j % sz]):=by simp [hk]
  have h1:=(hl _ _ hv).2 _ _ hy
  have h2:=(Gc _ _ hv).2 _ _ hy
  have Iq:j / sz * sz+j % sz=j:=by rw [Nat.mul_comm]; exact Nat.div_add_mod j sz
  rw [Nat.add_assoc,Iq] at h1
  rw [Nat.zero_add,Iq] at h2
  rw [h1,h2]
 simp only [St.v9,dk,Option.isNone_none,cond_true,x8,hr,Option.bind_some]
 rw [hn] at hlen
 have hle:n * sz≤(r.cs.drop off).length:=by
  cases hm:n * sz with
  | zero=>omega
  | succ q=>
   have:=oz q (by omega)
   rw [List.getElem?_eq_getElem (show q < (bG bp).length by omega)] at this
   have h7:=(List.getElem?_eq_some_iff.1 this).1
   rw [List.length_drop]
   omega
 rw [rD,Gu hle]
 congr 1
 apply List.ext_getElem?
 intro i
 rw [List.getElem?_take]
 split
 ·rename_i hi
  rw [List.getElem?_drop]
  exact oz i hi
 ·exact (List.getElem?_eq_none_iff.2 (by omega)).symm
theorem Zi {T:TypeId} {m:Mk} {n:Nat} {es:List KV} {acc:Nat→KV} {u:Value} {A:ax} {B:St} (h:fK P E A B) (hv:VK P E (.ts T m n es acc) u) (fv:1≤bd P T) :
  ∃ bp,bb P E es bp∧VB u=some n∧vd B (bd P T) n u=some (bG bp)∧(∀ v∈bp,v.cells.size=bd P T)∧bp.length=n∧es.length=n∧fQ (bt P T) es=true:=by
 obtain ⟨ht,bp,h1,a,cap,rfl,h2,h3,_⟩:=hv.mI
 have hlen:=ht.len
 have sv:bp.length=n:=by rw [h1.length]; exact hlen.symm
 have hs:=oE ht.typed h1
 refine ⟨bp,h1,rfl,?_,fun v hv=>(hs v hv).1,sv,hlen.symm,ht.typed⟩
 rcases h3 with ⟨rfl,h0⟩ | ⟨b,off,r,rfl,h4,h5,h6⟩
 ·have:bp = []:=List.length_eq_zero_iff.1 (by omega)
  subst this
  simp [vd,h0,bG]
 ·exact Ip (h.z b r h4) h6 sv fv
theorem jg.join {T:TypeId} {n m:Nat} {es fs:List KV} {f g:Nat→KV} (h:jg P T n es f) (k:jg P T m fs g):jg P T (n+m) (es++fs) (ff n f g) where
 len:=by rw [List.length_append,← h.len,← k.len]
 acc i hi:=by
  unfold ff
  by_cases hn:i < n
  ·have:Nat.blt i n=true:=by rw [Nat.blt_eq]; exact hn
   rw [this,cond_true,h.acc i hn,List.getD_eq_getElem?_getD,List.getD_eq_getElem?_getD,List.getElem?_append_left (by rw [← h.len]; exact hn)]
  ·have:Nat.blt i n=false:=by
    cases hb:Nat.blt i n with
    | false=>rfl
    | true=>rw [Nat.blt_eq] at hb; omega
   rw [this,cond_false,k.acc (i - n) (by omega),List.getD_eq_getElem?_getD,List.getD_eq_getElem?_getD,List.getElem?_append_right (by rw [← h.len]; omega),← h.len]
 typed:=Jo h.typed k.typed
theorem jg.none {T:TypeId} {g:Nat→KV} : jg P T 0 [] g:=⟨rfl,fun i h=>by omega,rfl⟩
structure Src (P:Program) (E:Env) (B:St) (T:TypeId) (n:Nat) (es:List KV) (acc:Nat→KV) (u:Value) (bp:List Value):Prop where
 tree:jg P T n es acc
 rel:bb P E es bp
 len:VB u=some n
 size:∀ v∈bp,v.cells.size=bd P T
 length:bp.length=n
 first:∀ k,k≤n→vd B (bd P T) k u=some (bG (bp.take k))
theorem Src.all {B:St} {T:TypeId} {n:Nat} {es:List KV} {acc:Nat→KV} {u:Value} {bp:List Value} (h:Src P E B T n es acc u bp):vd B (bd P T) n u=some (bG bp):=by
 rw [h.first n (Nat.le_refl _),List.take_of_length_le (Nat.le_of_eq h.length)]
theorem ou.take {sz off:Nat} {cs es:List Value} (h:ou sz off cs es) (k:Nat):ou sz off cs (es.take k):=fun i x hi=>h i x (by
 rw [List.getElem?_take] at hi
 split at hi
 ·exact hi
 ·simp at hi)
theorem ou.drop {sz off:Nat} {cs es:List Value} (h:ou sz off cs es) (o:Nat):ou sz (off+o * sz) cs (es.drop o):=fun i x hi=>by
 rw [List.getElem?_drop] at hi
 obtain ⟨h1,h2⟩:=h (o+i) x hi
 refine ⟨h1,fun k y hy=>?_⟩
 rw [← h2 k y hy,Nat.add_mul]
 congr 1
 omega
theorem aly {T:TypeId} {m:Mk} {n:Nat} {es:List KV} {acc:Nat→KV} {u:Value} {A:ax} {B:St} (h:fK P E A B) (hv:VK P E (.ts T m n es acc) u) (fv:1≤bd P T):∃ bp,Src P E B T n es acc u bp:=by
 obtain ⟨ht,bp,h1,a,cap,rfl,h2,h3,_⟩:=hv.mI
 have sv:bp.length=n:=by rw [h1.length]; exact ht.len.symm
 have hs:=oE ht.typed h1
 refine ⟨bp,ht,h1,rfl,fun v hv=>(hs v hv).1,sv,fun k hk=>?_⟩
 rcases h3 with ⟨rfl,h0⟩ | ⟨b,off,r,rfl,h4,h5,h6⟩
 ·have:bp = []:=List.length_eq_zero_iff.1 (by omega)
  subst this
  have:k=0:=by omega
  subst this
  simp [vd,bG]
 ·exact Ip (h.z b r h4) (h6.take k) (by rw [List.length_take]; omega) fv
theorem alz {T:TypeId} {m:Mk} {b o n N:Nat} {es:List KV} {acc:Nat→KV} {u:Value} {A:ax} {B:St} (h:fK P E A B) (hv:VK P E (.al T b o n) u) (ha:Fi A b=some (.ts T m N es acc)) (fv:1≤bd P T) :
  ∃ bp,Src P E B T n ((es.drop o).take n) (fun i=>acc (o+i)) u bp:=by
 have row:∀ {x:Nat} {r:aeU} {bp:List Value} {c:Nat},u = .slice (some ⟨x,o * bd P T,none⟩) n c→o+n≤N→jg P T N es acc→B.get x=some (.row r.cs r.bU r.own r.bP)→bb P E es bp→ou (bd P T) 0 r.cs bp→∃ bp,Src P E B T n ((es.drop o).take n) (fun i=>acc (o+i)) u bp:=by
  intro x r bp c hu hon ht hr KO hl
  subst hu
  have agR:bp.length=N:=by rw [KO.length]; exact ht.len.symm
  have agS:((es.drop o).take n).length=n:=by rw [List.length_take,List.length_drop,← ht.len]; omega
  have ajX:((bp.drop o).take n).length=n:=by rw [List.length_take,List.length_drop,agR]; omega
  have hs:=oE ht.typed KO
  refine ⟨(bp.drop o).take n,⟨agS.symm,fun i hi=>?_,oP fun i x hi=>?_⟩,(KO.drop o).take n,rfl,fun v hv=>(hs v (List.mem_of_mem_drop (List.mem_of_mem_take hv))).1,ajX,fun k hk=>?_⟩
  ·rw [ht.acc (o+i) (by omega),List.getD_eq_getElem?_getD,List.getD_eq_getElem?_getD,List.getElem?_take,if_pos hi,List.getElem?_drop]
  ·rw [List.getElem?_take] at hi
   split at hi
   ·rw [List.getElem?_drop] at hi; exact ku ht.typed hi
   ·simp at hi
  ·have mq:=((hl.drop o).take n).take k
   rw [Nat.zero_add] at mq
   exact Ip hr mq (by rw [List.length_take,ajX]; omega) fv
 rcases hv.vo with ⟨rfl,rfl,rfl⟩ | ⟨x,L,N0,c,h1,h2,h3,h4,h5⟩
 ·refine ⟨[],⟨by simp,fun i hi=>by omega,rfl⟩,by simpa using bb.nil,rfl,by simp,rfl,fun k hk=>?_⟩
  have:k=0:=by omega
  subst this
  simp [vd,bG]
 ·unfold Fi at ha
  split at ha
  ·rename_i v hb
   simp only [Option.some.injEq] at ha
   subst ha
   obtain ⟨T2,N2,ph,fW,e,ht,_,wb⟩:=h.ar.arr b _ hb
   simp only [KV.ts.injEq] at e
   obtain ⟨rfl,rfl,rfl,rfl,rfl⟩:=e
   rcases wb with ⟨_,e⟩ | ⟨x2,cs,bP,bp,e,h6,h7,h8⟩
   ·rw [h1] at e; simp at e
   ·rw [h1] at e
    simp only [Option.some.injEq,Prod.mk.injEq] at e
    obtain ⟨rfl,rfl,rfl⟩:=e
    exact row (r:=⟨cs,bd P T,true,bP⟩) h2 h4 ht h6 h7 h8
  ·rename_i v hb
   simp only [Option.some.injEq] at ha
   subst ha
   obtain ⟨T2,N2,ph,fW,e,ht,_,wb⟩:=h.ar.jO b _ hb
   simp only [KV.ts.injEq] at e
   obtain ⟨rfl,rfl,rfl,rfl,rfl⟩:=e
   rcases wb with ⟨_,e⟩ | ⟨x2,r,bp,e,h6,h6',h7,h8⟩
   ·rw [h1] at e; simp at e
   ·rw [h1] at e
    simp only [Option.some.injEq,Prod.mk.injEq] at e
    obtain ⟨rfl,rfl,rfl⟩:=e
    exact row h2 h4 ht (h.z _ _ h6) h7 h8
  ·simp at ha
theorem ahU {A:ax} {B:St} {y:KV} {u:Value} {T:TypeId} {m:Mk} {n:Nat} {es:List KV} {acc:Nat→KV} (h:fK P E A B) (hv:VK P E y u) (hs:Kz A y=some (.ts T m n es acc)) (fv:1≤bd P T):∃ bp,Src P E B T n es acc u bp:=by
 unfold Kz at hs
 split at hs
 ·rename_i T' b o k
  unfold ado at hs
  split at hs
  ·rename_i T2 _ _ ph fW ha
   cases hb:Nat.beq T' T2 with
   | false=>rw [hb] at hs; simp at hs
   | true=>
    have:=Nat.eq_of_beq_eq_true hb
    subst this
    rw [hb,cond_true] at hs
    simp only [Option.some.injEq,KV.ts.injEq] at hs
    obtain ⟨rfl,rfl,rfl,rfl,rfl⟩:=hs
    exact alz h hv ha fv
  ·simp at hs
 ·simp only [Option.some.injEq,KV.ts.injEq] at hs
  obtain ⟨rfl,rfl,rfl,rfl,rfl⟩:=hs
  exact aly h hv fv
 ·simp at hs
theorem agT {e n b:Nat} (hn:bd P e=n) (h1n:1≤n) {E:Env} {A A' : ax} {B:St} {x v:KV} {u w:Value} {e' : TypeId} {mk:Mk} {k:Nat} {new:List KV} {acc:Nat→KV} (h:fK P E A B) (h1:VK P E x u)
  (hsr:Nat.beq e e' = true→∃ bp,Src P E B e' k new acc w bp) (hg:a5 (Ky e n b A [x,.ts e' mk k new acc]) (v,A')):∃ r B' E',mw n b B [u,w] = some (r,B')∧VK P E' v r∧ee P E A B E' A' B':=by
 have tP:1≤bd P e:=by omega
 have put:∀ (E1:Env) (A1:ax) (m f k:Nat) (base new:List KV) (ab an:Nat→KV) (more:Bool) (A2:ax) (v:KV),a5 (QQ e n b m base ab A1 f k new an more) (v,A2)→
   (more=true∧Nat.ble ((m+k+512) * b) 17592186044416=true∧Nat.ble (m+k) 17592186044416=true∧(m=0∨0 < k))∧v = .ts e (.bc f) (m+k) (base++new) (ff m ab an)∧A2=A1.put f (.bc (m+k) n):=by
  intro E1 A1 m f k base new ab an more A2 v hp
  obtain ⟨hc,hp⟩:=a5.mj hp
  simp only [fe,Bool.and_eq_true] at hc
  simp only [Prod.mk.injEq] at hp
  refine ⟨⟨hc.1,hc.2.1.1,hc.2.1.2,?_⟩,hp.1.symm,hp.2.symm⟩
  have:=hc.2.2
  simp only [Bool.or_eq_true,Nat.blt_eq] at this
  exact this.symm.imp (fun h=>Nat.eq_of_beq_eq_true h) id
 unfold Ky at hg
 split at hg
 ·
  rename_i e9 mk9 k9 ahV ahW heq
  simp only [List.cons.injEq,KV.ts.injEq,and_true] at heq
  obtain ⟨rfl,rfl,rfl,rfl,rfl,rfl⟩:=heq
  have:=h1.ob; subst this
  obtain ⟨he,Ik⟩:=hg.cond
  clear hg
  obtain ⟨cL,kO⟩:=hsr he
  have:=Nat.eq_of_beq_eq_true he
  subst this
  obtain ⟨⟨_,Ac,rG,ajY⟩,rfl,rfl⟩:=put E _ _ _ _ _ _ _ _ _ _ _ Ik
  have Gy:=kO.tree
  have h3:=kO.rel
  have h4:=kO.len
  have h5:=kO.all
  have h6:=kO.size
  have h7:=kO.length
  have h8:=Gy.len.symm
  rw [hn] at h5 h6
  have yN:=ee.ahQ n h
  have hAf:(A.new (.bc 0 n)).get A.next=some (.bc 0 n):=by simp
  have Fl:E.φ A.next=none:=by
   cases hq:E.φ A.next with
   | none=>rfl
   | some g=>have:=h.nq _ g hq; omega
  cases k with
  | zero=>
   have ng:new = []:=List.length_eq_zero_iff.1 h8
   have Zj:cL = []:=List.length_eq_zero_iff.1 h7
   subst ng Zj
   refine ⟨.slice none 0 0,B,E,?_,?_,?_⟩
   ·simp only [mw,h4,Option.bind_some]
    rw [h5]
    rfl
   ·simp only [VK]
    exact ⟨⟨rfl,fun i hi=>by omega,rfl⟩,[],.nil,none,0,rfl,Nat.le_refl _,.inl ⟨rfl,rfl⟩,rfl,.inl ⟨rfl,rfl⟩⟩
   ·exact yN.after (ee.ahT n yN.jy hAf Fl)
  | succ k=>
   have TY:=ee.grow (c:=bG cL) (top:=0) (NN:=k+1) (sz:=n) (g:=B.next) (f:=A.next) yN.jy hAf (.inl ⟨Fl,rfl⟩) (by rw [jz h6,h7]) (by omega) (by omega)
   refine ⟨.slice (some ⟨B.next,0,none⟩) (k+1) (k+1),B.grow B.next 0 (bG cL) n,_,?_,?_,yN.after (by simpa using TY)⟩
   ·simp only [Nat.zero_add] at Ac rG
    simp only [mw,h4,Option.bind_some,Nat.zero_add]
    rw [show Nat.ble (k+1) 0=false from rfl,cond_false,Ac,rG,h5]
    rfl
   ·simp only [VK,Nat.zero_add,List.nil_append]
    have Zj:=h3.mono (Env.le_trans yN.le TY.le)
    have hl:=m0 h6
    refine ⟨by have:=jg.none (P:=P) (T:=e) (g:=ot) |>.join Gy; simpa using this,cL,Zj,_,_,rfl,Nat.le_refl _,.inr ⟨B.next,0,⟨bG cL,n,true,some (B.next,0)⟩,rfl,by simp [Env.rN,Env.gD],hn.symm,by rw [hn]; exact hl⟩,rfl,.inr ⟨B.next,⟨bG cL,n,true,some (B.next,0)⟩,B.next,rfl,by simp [Env.rN,Env.gD],rfl,by simp [Env.rN],rfl,?_⟩⟩
    rw [hn]
    simp only
    rw [jz h6,h7]
 ·
  rename_i e1 m es al2 e9 mk9 k9 ahV ahW heq
  simp only [List.cons.injEq,KV.ts.injEq,and_true] at heq
  obtain ⟨rfl,rfl,rfl,rfl,rfl,rfl⟩:=heq
  obtain ⟨he,Ik⟩:=hg.cond
  clear hg
  simp only [Bool.and_eq_true] at he
  obtain ⟨cL,kO⟩:=hsr he.1
  have:=Nat.eq_of_beq_eq_true he.1
  subst this
  have:=Nat.eq_of_beq_eq_true he.2
  subst this
  obtain ⟨⟨hk,Ac,rG,ajY⟩,rfl,rfl⟩:=put E _ _ _ _ _ _ _ _ _ _ _ Ik
  have hk:0 < k:=by rwa [Nat.blt_eq] at hk
  have wc:=h1.mI.1
  have Gy:=kO.tree
  have h3:=kO.rel
  have h4:=kO.len
  have h5:=kO.all
  have h6:=kO.size
  have h7:=kO.length
  have h8:=Gy.len.symm
  obtain ⟨qZ,h3b,h4b,h5b,h6b,h7b,h8b,h9b⟩:=Zi h h1 tP
  rw [hn] at h5 h6 h5b h6b
  obtain ⟨_,ahA,uD,a,cap,rfl,ajy,Zk,agU⟩:=h1.mI
  obtain ⟨rfl,WN⟩:=agU
  have yN:=ee.ahQ n h
  have hAf:(A.new (.bc 0 n)).get A.next=some (.bc 0 n):=by simp
  have Fl:E.φ A.next=none:=by
   cases hq:E.φ A.next with
   | none=>rfl
   | some g=>have:=h.nq _ g hq; omega
  have hs:∀ v∈qZ++cL,v.cells.size=n:=fun v hv=>by
   rcases List.mem_append.1 hv with hv | hv
   ·exact h6b v hv
   ·exact h6 v hv
  have hlen:(bG (qZ++cL)).length=(cap+k) * n:=by rw [jz hs,List.length_append,h7b,h7]
  have TY:=ee.grow (c:=bG (qZ++cL)) (top:=0) (NN:=cap+k) (sz:=n) (g:=B.next) (f:=A.next) yN.jy hAf (.inl ⟨Fl,rfl⟩) hlen (by omega) (by omega)
  refine ⟨.slice (some ⟨B.next,0,none⟩) (cap+k) (cap+k),B.grow B.next 0 (bG (qZ++cL)) n,_,?_,?_,yN.after TY⟩
  ·simp only [mw,h4,Option.bind_some]
   have hnb:Nat.ble (cap+k) cap=false:=by
    cases hq:Nat.ble (cap+k) cap with
    | false=>rfl
    | true=>have:=Nat.le_of_ble_eq_true hq; omega
   rw [hnb,cond_false,Ac,rG]
   rcases Zk with ⟨rfl,h0⟩ | ⟨b',off,r,rfl,hz,he2,mq⟩
   ·subst h0
    have:qZ = []:=List.length_eq_zero_iff.1 h7b
    subst this
    simp only [tz,Bool.true_and,Bool.and_self]
    rw [show Nat.beq 0 0=true from rfl,cond_true,h5]
    simp [C8]
   ·obtain ⟨r2,BL,ho,ahX,al3⟩:=WN b' off rfl
    rw [hz] at BL
    simp at BL
    subst BL
    have jI:=h.z b' r hz
    have hex:tz B n cap (some ⟨b',off,none⟩)=true:=by
     simp only [tz,jI,ahX]
     rw [hn] at al3
     simp [al3]
    rw [hex]
    simp only [Bool.and_self,cond_true,h5,Option.bind_some]
    simp only [vd] at h5b
    have QG:Nat.beq r.bU n=true:=by rw [he2,hn]; simp
    simp only [C8,dk,Option.isNone_none,cond_true,h5b,Option.bind_some,jI,QG,ahX,ho]
    rw [← wR]
  ·simp only [VK]
   have zT:=(h3b.append h3).mono (Env.le_trans yN.le TY.le)
   have hl:=m0 hs
   refine ⟨wc.join Gy,qZ++cL,zT,_,_,rfl,Nat.le_refl _,.inr ⟨B.next,0,⟨bG (qZ++cL),n,true,some (B.next,0)⟩,rfl,by simp [Env.rN,Env.gD],hn.symm,by rw [hn]; exact hl⟩,rfl,.inr ⟨B.next,⟨bG (qZ++cL),n,true,some (B.next,0)⟩,B.next,rfl,by simp [Env.rN,Env.gD],rfl,by simp [Env.rN],rfl,?_⟩⟩
   rw [hn]
   exact hlen
 ·
  rename_i e1 f m es al2 e9 mk9 k9 ahV ahW heq
  simp only [List.cons.injEq,KV.ts.injEq,and_true] at heq
  obtain ⟨rfl,rfl,rfl,rfl,rfl,rfl⟩:=heq
  split at hg
  ·rename_i top sz' Zl
   obtain ⟨he,Ik⟩:=hg.cond
   clear hg
   simp only [Bool.and_eq_true] at he
   obtain ⟨cL,kO⟩:=hsr he.1.1
   have:=Nat.eq_of_beq_eq_true he.1.1
   subst this
   have:=Nat.eq_of_beq_eq_true he.1.2
   subst this
   have ajS:=Nat.eq_of_beq_eq_true he.2
   rw [ajS] at Zl
   obtain ⟨⟨M7,Ac,rG,ajY⟩,rfl,rfl⟩:=put E _ _ _ _ _ _ _ _ _ _ _ Ik
   have:=Nat.eq_of_beq_eq_true M7
   subst this
   have wc:=h1.mI.1
   have Gy:=kO.tree
   have h3:=kO.rel
   have h4:=kO.len
   have h5:=kO.all
   have h6:=kO.size
   have h7:=kO.length
   have h8:=Gy.len.symm
   obtain ⟨qZ,h3b,h4b,h5b,h6b,h7b,h8b,h9b⟩:=Zi h h1 tP
   rw [hn] at h5 h6 h5b h6b
   obtain ⟨_,ahA,uD,a,cap,rfl,ajy,Zk,agU⟩:=h1.mI
   obtain ⟨rfl,WN⟩:=agU
   have hs:∀ v∈qZ++cL,v.cells.size=n:=fun v hv=>by
    rcases List.mem_append.1 hv with hv | hv
    ·exact h6b v hv
    ·exact h6 v hv
   have hlen:(bG (qZ++cL)).length=(cap+k) * n:=by rw [jz hs,List.length_append,h7b,h7]
   have amw:=h3b.append h3
   have hl:=m0 hs
   have fin:∀ (E2:Env) (x g:Nat),E.le E2→E2.z x=some ⟨bG (qZ++cL),n,true,some (g,0)⟩→E2.φ f=some g→VK P E2 (.ts e (.bc f) (cap+k) (es++new) (ff cap al2 acc)) (.slice (some ⟨x,0,none⟩) (cap+k) (cap+k)):=by
    intro E2 x g hle hzx anc
    simp only [VK]
    refine ⟨wc.join Gy,qZ++cL,amw.mono hle,_,_,rfl,Nat.le_refl _,.inr ⟨x,0,_,rfl,hzx,hn.symm,by rw [hn]; exact hl⟩,rfl,.inr ⟨x,_,g,rfl,hzx,rfl,anc,rfl,?_⟩⟩
    rw [hn]
    exact hlen
   rcases WN with ⟨rfl,rfl⟩ | ⟨b',r,g,rfl,hz,ho,Fl,ahX,hcl⟩
   ·
    have hold:es = []:=List.length_eq_zero_iff.1 h8b
    have adC:qZ = []:=List.length_eq_zero_iff.1 h7b
    subst hold adC
    have Fl:E.φ f=none:=by
     rcases h.bc f 0 n Zl with ⟨_,Db⟩ | ⟨g2,_,Db,_⟩
     ·exact Db
     ·omega
    cases k with
    | zero=>
     have ng:new = []:=List.length_eq_zero_iff.1 h8
     have Zj:cL = []:=List.length_eq_zero_iff.1 h7
     subst ng Zj
     refine ⟨.slice none 0 0,B,E,?_,?_,ee.ahT n h Zl Fl⟩
     ·simp only [mw,h4,Option.bind_some]
      rw [h5]
      rfl
     ·simp only [VK]
      exact ⟨⟨rfl,fun i hi=>by omega,rfl⟩,[],.nil,none,0,rfl,Nat.le_refl _,.inl ⟨rfl,rfl⟩,rfl,.inl ⟨rfl,rfl⟩⟩
    | succ k=>
     have TY:=ee.grow (c:=bG ([]++cL)) (top:=0) (NN:=0+(k+1)) (sz:=n) (g:=B.next) (f:=f) h Zl (.inl ⟨Fl,rfl⟩) hlen (by omega) (by omega)
     refine ⟨.slice (some ⟨B.next,0,none⟩) (0+(k+1)) (0+(k+1)),B.grow B.next 0 (bG ([]++cL)) n,_,?_,fin _ B.next B.next TY.le (by simp [Env.rN,Env.gD]) (by simp [Env.rN]),TY⟩
     simp only [Nat.zero_add] at Ac rG
     simp only [mw,h4,Option.bind_some,Nat.zero_add,List.nil_append]
     rw [show Nat.ble (k+1) 0=false from rfl,cond_false,Ac,rG,h5]
     rfl
   ·
    have amx:0 < cap+k∧0 < k:=by
     rcases ajY with h0 | h0
     ·subst h0
      rcases h.bc f 0 n Zl with ⟨_,Db⟩ | ⟨g2,_,Db,_⟩
      ·rw [Fl] at Db; simp at Db
      ·omega
     ·exact ⟨by omega,h0⟩
    have jI:=h.z b' r hz
    rw [ho,ahX] at jI
    have QG:r.bU=n:=by
     rcases Zk with ⟨h0,_⟩ | ⟨b2,ajZ,r2,e2,BL,he2,_⟩
     ·simp at h0
     ·simp at e2
      obtain ⟨rfl,rfl⟩:=e2
      rw [hz] at BL
      simp at BL
      subst BL
      rw [he2,hn]
    have amy:B.kill B.next (0+(0+cap * n)) (0+(0+cap * n)+(bG cL).length) (B.members g)=B:=by
     refine Zd fun y hy=>?_
     rcases h.bc f cap n Zl with ⟨_,Db⟩ | ⟨g2,Db,_,h3'⟩
     ·rw [Fl] at Db; simp at Db
     ·rw [Fl] at Db
      simp at Db
      subst Db
      cases hy2:B.get y with
      | none=>rfl
      | some o=>cases o with
       | row lR e2 Ee rF=>
        cases rF with
        | none=>rfl
        | some p=>
         obtain ⟨f2,k2⟩:=p
         obtain ⟨rfl,hle2⟩:=h3' y hy lR e2 Ee f2 k2 hy2
         simp only [qR,meets,Nat.zero_add]
         have:Nat.blt (cap * n) lR.length=false:=by
          cases hq:Nat.blt (cap * n) lR.length with
          | false=>rfl
          | true=>rw [Nat.blt_eq] at hq; omega
         rw [this,Bool.false_and]
       | _=>rfl
    have TY:=ee.grow (c:=bG (qZ++cL)) (top:=cap) (NN:=cap+k) (sz:=n) (g:=g) (f:=f) h Zl (.inr Fl) hlen (by omega) amx.1
    refine ⟨.slice (some ⟨B.next,0,none⟩) (cap+k) (cap+k),B.grow g 0 (bG (qZ++cL)) n,_,?_,fin _ B.next g TY.le (by simp [Env.rN,Env.gD]) (by simp [Env.rN]),TY⟩
    have hnb:Nat.ble (cap+k) cap=false:=by
     cases hq:Nat.ble (cap+k) cap with
     | false=>rfl
     | true=>have:=Nat.le_of_ble_eq_true hq; omega
    have hex:tz B n cap (some ⟨b',0,none⟩)=true:=by simp only [tz,jI]
    simp only [mw,h4,Option.bind_some,hnb,cond_false,Ac,rG,hex,Bool.and_self,cond_true,h5]
    simp only [vd] at h5b
    have ane:Nat.beq r.bU n=true:=by rw [QG]; simp
    simp only [C8,dk,Option.isNone_none,cond_true,h5b,Option.bind_some,jI,ane,amy,← wR]
  ·exact hg.elim
 ·exact hg.elim
end Go.K
end
