/- Part of the proof of PathsRight: the machine, shown to be the model's, and plain models. No conditions. -/
import Derived.Test.YtckbdndhmcoihaaGreatHp
import Derived.Deep.RegionHeld3
set_option linter.unusedSimpArgs false
set_option linter.unusedVariables false
section
namespace Go.Proofs.YtckbdndhmcoihaaGreat.b
open Go.K
noncomputable section
structure gq where
 b5:lX
 kids:(Sl (Sl Handle))
instance:Inhabited gq:=⟨⟨default,default⟩⟩
def agl (x:gq):List KV:=[dS 111 V6 x.b5.ct,dS 35 (dS 32 jJ) x.kids]
def aal (x:gq):KV:=.agg (agl x)
def agm (c:Nat->KV):gq:=⟨⟨eG Rm (c 0)⟩,eG (eG jK) (c 1)⟩
def KB (v:KV):gq:=agm fun k=>v.cells.getD k .bz
structure ly where
 t2:Bool
 n:Int
 i:Int
 g:gq
instance:Inhabited ly:=⟨⟨default,default,default,default⟩⟩
def wQ (x:ly):List KV:=[.bool x.t2,.int .i64 x.n,.int .i64 x.i]
def wR (x:ly):List (List KV):=[agl x.g]
def Dg (vs:List KV) (rs:List (List KV)):ly:=⟨j3 (v9 vs 0),aw (v9 vs 1),aw (v9 vs 2),agm (r9 rs 0)⟩
def E9:aB:=⟨[(2,w9 b9),(3,w9 i9),(4,w9 i9)],[(1,[n9 111,n9 35],1)],[(1,0,0)]⟩
def PH:=wI PG (mA PG [] [] (fun q=>Nat.beq q 4)) 9 9 41 122 (uA PG 41 122) E9
def ki (x:ly):ba ly:=(cond (decide (x.i < (x.g.kids.n:Int))) (cond ((decide (0<=x.i))&&(decide (x.i < (x.g.kids.n:Int)))) (cond (decide ((bB (x.n+((x.g.kids.get (Int.toNat x.i)).n:Int))) > 400)) (.out az.aa.ret ⟨true,(bB (x.n+((x.g.kids.get (Int.toNat x.i)).n:Int))),x.i,x.g⟩) (.next ⟨x.t2,(bB (x.n+((x.g.kids.get (Int.toNat x.i)).n:Int))),(bB (x.i+1)),x.g⟩)) .fail) (.out (az.aa.exit 0) x))
theorem KX (x:ly):PH (wQ x) (wR x)=ba.enc wQ wR (ki x):=by
 unfold ki
 try simp only [ba.dt]
 kernel_rfl
def Fa:Lp:=⟨41,122,E9,fun vs rs=>eC wQ wR (goN ki (Dg vs rs)) [az.aa.exit 0,az.aa.ret],false⟩
theorem PI:Fa.Ok PG:=zS av.nil bO.nil (pa:=Dg) KX
def wS (g:gq):=goN ki ⟨false,0,0,g⟩
def oA (g:gq):Option (Bool):=(cond (decide ((g.b5.ct.n:Int) > 200)) (some (true)) (cond (decide ((g.kids.n:Int) > 200)) (some (true)) (cond ((wS g).by (az.aa.exit 0)) (some (false)) (cond ((wS g).by az.aa.ret) (some ((wS g).st.t2)) none))))
theorem V8 (g:gq):x8 PG (mA PG [] [Fa] (fun q=>Nat.beq q 4)) 9 9 41 [aal g] = (oA g).map kB:=by
 unfold oA
 try simp only [cJ]
 kernel_rfl
def A5:List KV->KR KV:=cI PG 41 (cR kB fun vs=>oA (KB (v9 vs 0)))
theorem zT:cA PG 41 A5:=gX av.nil (rq PI bO.nil) fun w=>V8 (KB (g0 27 (w 0)))
end
end Go.Proofs.YtckbdndhmcoihaaGreat.b
end
section
namespace Go.K
open Go Go.az
variable {P:Program} {E:Env}
theorem VC.agn {ρ:Ren} {cs:List KV} {u:Value} (h:VC P E ρ (.agg cs) u):∃ l,u = .agg ⟨l⟩/\ny P E ρ cs l:=by
 obtain ⟨u',h1,h2⟩:=h;obtain ⟨l,rfl,q⟩:=h1.jr;obtain ⟨l',e,h3⟩:=h2.jr;exact ⟨l'.toList,e,l,q,h3⟩
theorem Bk {A:ai} {B:St} {ρ:Ren} {base:Nat} {w:World} (hj:KJ P E A B ρ base w) {T:TypeId} {m:Mk} {n:Nat} {es:List KV} {acc:Nat->KV} {u:Value} (h:VC P E ρ (.ts T m n es acc) u) :
  ∃ a c,u = .slice a n c/\∀ i,i < n->∃ b off,a=some ⟨b,off,none⟩/\b < w.heap.size/\∀ k c',(acc i).cells[k]? = some c'->∃ z,w.cell? ⟨b,off+i * aI P T+k,none⟩=some z/\VC P E ρ c' z:=by
 obtain ⟨u',hk,hr⟩:=h;obtain ⟨ht,aP,MV,a,cap,rfl,afe,Gm,_⟩:=hk.jz;cases a with
 | none=>
  have:=hr.e8;subst this;refine ⟨none,cap,rfl,fun i hi=>?_⟩;rcases Gm with ⟨_,h0⟩ | ⟨b,off,r,e,_⟩
  ·omega
  ·simp at e
 | some a=>
  obtain ⟨tV,AE,lc,a',c',hl,ri,Bv,jG,rfl⟩:=hr.iD;refine ⟨some a',c',rfl,fun i hi=>?_⟩;rcases Gm with ⟨e,_⟩ | ⟨b,off,r,e,hz,cT,anZ⟩
  ·simp at e
  ·simp only [aR] at e
   subst e;have dC:=hj.k.z b r hz;obtain ⟨l,iJ,ok⟩:=hj.s.rel.row _ _ _ _ _ dC;rw [hl] at iJ;have:=yz iJ;subst this;have KK:i < es.length:=by have:=ht.len; omega
   refine ⟨lc.cb,lc.cf+off,by rw [Bv (by omega)],ok.gC,fun k c1 hc1=>?_⟩;have hg:es[i]? = some (acc i):=by
    rw [ht.acc i (by omega),eN,cl KK];rfl
   obtain ⟨y,hy,hvy⟩:=MV.get hg;have hkn:=(fp (fD ht.typed hg)).2;obtain ⟨hys,hyc⟩:=anZ i y hy;obtain ⟨z,FV,vO⟩:=(hvy.cells hkn).get hc1;have:=hyc k z (by simpa using FV);obtain ⟨z',q1,q2,_⟩:=ok.cells _ z this;exact ⟨z',by rw [show lc.cf+off+i * aI P T+k=lc.cf+(off+i * aI P T+k) by omega]; exact q1,z,vO,q2⟩
end Go.K
end
section
namespace Go.K
open Go Go.az
variable {P:Program} {E:Env}
def Trie.acI {α β:Type} (f:α->β):Trie α->Trie β
 | .leaf=>.leaf
 | .node v l r=>.node (v.map f) (Trie.acI f l) (Trie.acI f r)
theorem Trie.Rq {α β:Type} (f:α->β):∀ (t:Trie α) (n:Nat),(Trie.acI f t).get n=(t.get n).map f
 | .leaf,n=>rfl
 | .node v l r,n=>by
  rw [Trie.get_eq,Trie.get_eq];cases n with
  | zero=>rfl
  | succ m=>
   have hl:=Trie.Rq f l (Nat.div m 2);have hr:=Trie.Rq f r (Nat.div m 2);rw [Trie.get_eq,Trie.get_eq] at hl hr;simp only [Trie.acI,Trie.vS];cases Nat.beq (Nat.mod m 2) 0 with
   | true=>exact hl
   | false=>exact hr
def aY.still:aY->aY
 | .row cs aQ _ _=>.row cs aQ false none
 | _=>.dead
def St.still (B:St):St:=⟨Trie.acI aY.still B.heap,B.next,0,.leaf⟩
theorem St.V9 (B:St) (b:Nat):(St.still B).get b=(B.get b).map aY.still:=Trie.Rq _ _ _
theorem St.aep (B:St) (g:Nat):(St.still B).members g = []:=rfl
def Env.still (E:Env):Env:={ κ:=fun _=>Option.none,z:=fun b=>(E.z b).map fun r=>{ r with own:=false,aZ:=Option.none },φ:=fun _=>Option.none,α:=fun _=>Option.none }
theorem Env.ahw (E:Env):Ti E E.still:=fun b r e=>⟨{ r with own:=false,aZ:=Option.none },by simp [Env.still,e],rfl,rfl⟩
theorem St.Nn {B:St} {b:Nat} {o:aY} (h:(St.still B).get b=some o) (hd:o≠.dead):∃ cs aQ own aZ,B.get b=some (.row cs aQ own aZ)/\o = .row cs aQ false none:=by
 rw [St.V9] at h;cases hb:B.get b with
 | none=>rw [hb] at h; simp at h
 | some x=>
  rw [hb] at h;have h:some (aY.still x)=some o:=h;have h:=yz h;cases x <;> first
   | exact ⟨_,_,_,_,rfl,h.symm⟩
   | exact absurd h.symm hd
theorem St.SK {B:St} {b:Nat} {o:aY} (h:(St.still B).get b=some o):o.cr=false:=by
 by_cases hd:o = .dead
 ·subst hd; rfl
 ·obtain ⟨_,_,_,_,_,rfl⟩:=St.Nn h hd
  rfl
theorem St.aeq {B:St} {b:Nat} {o:aY} (h:(St.still B).get b=some o):o.hO=none:=by
 by_cases hd:o = .dead
 ·subst hd; rfl
 ·obtain ⟨_,_,_,_,_,rfl⟩:=St.Nn h hd
  rfl
theorem iu.still {ρ:Ren} {B:St} {base:Nat} {w:World} (h:iu ρ B base w):iu ρ (St.still B) w.heap.size w:=by
 refine ⟨.qd (fun b o hg hd=>?_) (fun b1 b2 o1 o2 l1 l2 _ h1 _ hm=>?_) (fun b o aF f hg hk=>?_),h.fT,ao _,h.lL⟩
 ·obtain ⟨cs,aQ,own,aZ,e,rfl⟩:=St.Nn hg hd
  obtain ⟨l,e2,ok⟩:=h.rel.row _ _ _ _ _ e;refine ⟨l,e2,?_⟩;exact ⟨ok.cells,fun _=>ok.gC,fun e=>by simp at e,fun e=>by simp at e,ok.fits,fun e=>by simp at e,ok.aQ,ok.gC,fun e=>by simp at e⟩
 ·rw [St.SK h1] at hm; simp at hm
 ·rw [St.aeq hg] at hk; simp at hk
theorem du.still {A:ai} {B:St} (h:du P E A B):du P E.still .empty (St.still B) where
 row b cs aQ hb:=by simp [ai.empty,ai.get] at hb
 aF b top sz hb:=by simp [ai.empty,ai.get] at hb
 z b r e:=by
  simp only [Env.still,aU] at e;obtain ⟨r0,e,rfl⟩:=e;rw [St.V9,h.z b r0 e];rfl
 apart b x e:=by simp [Env.still] at e
 inj b c x e:=by simp [Env.still] at e
 iA b c g _ _ _ _ _ _ e:=by simp [Env.still] at e
 fT b x e:=by simp [Env.still] at e
 ll b g e:=by simp [Env.still] at e
 live b o hb:=by simp [ai.empty,ai.get] at hb
 eB b x e:=by simp [Env.still] at e
 lT b r e:=by
  simp only [Env.still,aU] at e;obtain ⟨r0,e,rfl⟩:=e;exact h.lT b r0 e
 iQ b g e:=by simp [Env.still] at e
 fresh g _:=rfl
 mem g x hx:=by rw [St.aep] at hx; simp at hx
 ar:=by
  have hn:∀ b v,¬ ai.empty.get b=some (.arr v):=fun b v hb=>by simp [ai.empty,ai.get] at hb
  exact ⟨fun b v hb=>(hn b v hb).elim,fun b v hb=>by simp [ai.empty,ai.get] at hb,fun x ⟨b,v,_,_,hb,_⟩=>(hn b v hb).elim,fun b c v u x L N L' N' hb=>(hn b v hb).elim,fun b c v u x y L N L' N' cs e own g k bX e' nN k' hb=>(hn b v hb).elim,fun b x e=>by simp [Env.still] at e,fun b p e=>by simp [Env.still] at e,fun b x L N e=>by simp [Env.still] at e,fun b v x L N cs e own g k hb=>(hn b v hb).elim,fun b v hb=>(hn b v hb).elim⟩
theorem SL {A:ai} {B:St} {ρ:Ren} {base:Nat} {w W:World} (hj:KJ P E A B ρ base w) (hw:RowKit.Below w.heap.size w W) {g:FuncId} {F:List KV->KR KV} (hpu:cA P g F) {args:List KV} {v:KV} {bN:List Value}
  (hF:aA (F (normArgs P (bL P g) (normArgs P (bL P g) args))) v) (hlen:args.length=(bL P g).length) (hv:ny P E ρ args bN) :
  Calls P g bN.toArray W fun e W'=>∃ v' E' ak,e = .returned v'/\VC P E' ak v v'/\RowKit.Below W.heap.size W W':=by
 have hs:=iu.still (cp.below hj.s hw).dI;obtain ⟨m,h1,h2⟩:=hv;have vN:ny P E.still ρ (normArgs P (bL P g) args) bN:=⟨m,aK.Gu (Env.ahw E) h1 hlen,h2⟩
 obtain ⟨_,ky⟩:=hpu _ v hF (EZ hlen);refine (ky E.still .empty (St.still B) ρ W.heap.size W bN vN ⟨hj.k.still,hs⟩).mono ?_;rintro e W' ⟨v',E',B',ak,rfl,q1,q2⟩;refine ⟨v',E',ak,rfl,q1,?_⟩;have k:=q2.gD.kept;refine ⟨k.os,k.tape,k.output,k.size,fun j hj=>k.block j hj ?_⟩;rintro ⟨b,o,l,ho,hm,_⟩;rw [St.SK ho] at hm;simp at hm
theorem PJ {g:FuncId} {R:Type} [Inhabited R] {k:R->KV} {r:List KV->Option R} {aow:List KV} {x:R} (ha:jQ P (bL P g) aow=true) (hr:r aow=some x):aA (cI P g (cR k r) aow) (k x):=by
 unfold cI cR;rw [ha,hr];exact ⟨rfl,rfl⟩
theorem VC.bQ {ρ:Ren} {k:IntKind} {n:Int} {v:Value} (h:VC P E ρ (.int k n) v):v = .int k n:=by
 obtain ⟨u,h1,h2⟩:=h;have h1:u = .int k n:=by simpa [VK] using h1
 subst h1;exact h2.bQ
theorem ny.qP {ρ:Ren} {c:KV} {cs:List KV} {l:List Value} (h:ny P E ρ (c::cs) l):∃ x xs,l=x::xs/\VC P E ρ c x/\ny P E ρ cs xs:=by
 obtain ⟨m,h1,h2⟩:=h;obtain ⟨y,ys,rfl,h3,h4⟩:=h1.cons_inv;obtain ⟨z,zs,rfl,h5,h6⟩:=h2.cons_inv;exact ⟨z,zs,rfl,⟨y,h3,h5⟩,⟨ys,h4,h6⟩⟩
theorem ny.PK {ρ:Ren} {l:List Value} (h:ny P E ρ [] l):l = []:=by
 obtain ⟨m,h1,h2⟩:=h;rw [h1.bA] at h2;exact h2.bA
theorem ny.zp {ρ:Ren} {c:KV} {cs:List KV} {x:Value} {xs:List Value} (h:VC P E ρ c x) (h' : ny P E ρ cs xs):ny P E ρ (c::cs) (x::xs):=by
 obtain ⟨y,h1,h2⟩:=h;obtain ⟨ys,h3,h4⟩:=h';exact ⟨y::ys,.cons h1 h3,.cons h2 h4⟩
theorem ny.TL {ρ:Ren} : ny P E ρ [] []:=⟨[],.nil,.nil⟩
theorem VC.ago {ρ:Ren} {cs:List KV} {xs:List Value} (h:ny P E ρ cs xs):VC P E ρ (.agg cs) (.agg ⟨xs⟩):=by
 obtain ⟨ys,h3,h4⟩:=h;exact ⟨.agg ⟨ys⟩,by simp only [VK]; exact ⟨ys,rfl,h3⟩,by simp only [VR]; exact ⟨⟨xs⟩,by simpa [oo] using h4,rfl⟩⟩
end Go.K
end
section
set_option maxRecDepth 20000
namespace Go.Proofs.YtckbdndhmcoihaaGreat.nodes
open Go Go.RowKit Go.Lib Go.Shelf Go.K
abbrev hp (h:b.Handle):Int×Int:=(h.slot,h.gen)
structure Wa (q:G) (B:Nat) (W:World):Prop where
 kids:∀ i,i < q.kn->∃ b off,q.ka=some ⟨b,off,none⟩/\b < B/\W.cell? ⟨b,off+i,none⟩=some (.slice (q.ia i) (q.im i) (q.ic i))
 row:∀ i,i < q.kn->∀ k,k < q.im i->∃ b off,q.ia i=some ⟨b,off,none⟩/\b < B/\W.cell? ⟨b,off+k * 2,none⟩=some (.int .i64 (q.dw i k).1)/\W.cell? ⟨b,off+k * 2+1,none⟩=some (.int .i64 (q.dw i k).2)
theorem Wa.with {q:G} {B:Nat} {W:World} (h:Wa q B W) (hs:∀ i,i < q.kn->q.im i<=1000000):GAt q B W:=⟨h.kids,hs,h.row⟩
theorem Wa.dj {q:G} {B mb:Nat} {W W' : World} (h:Wa q B W) (k:Kp mb W W') (hB:B<=W.heap.size) (hm:B<=mb):Wa q B W':=by
 refine ⟨fun i hi=>?_,fun i hi j hj=>?_⟩
 ·obtain ⟨b,off,h1,h2,h3⟩:=h.kids i hi
  exact ⟨b,off,h1,h2,by rw [k.cell (by omega) (by omega)]; exact h3⟩
 ·obtain ⟨b,off,h1,h2,h3,h4⟩:=h.row i hi j hj
  exact ⟨b,off,h1,h2,by rw [k.cell (by omega) (by omega)]; exact h3,by rw [k.cell (by omega) (by omega)]; exact h4⟩
structure Of (q:G) (g:b.gq) (B:Nat) (W:World):Prop where
 sn:q.sn=g.b5.ct.n
 kn:q.kn=g.kids.n
 im:∀ i,q.im i=(g.kids.get i).n
 dw:∀ i k,q.dw i k=hp ((g.kids.get i).get k)
 slot:∀ i,i < q.sn->∃ b off,q.sa=some ⟨b,off,none⟩/\b < B/\W.cell? ⟨b,off+i * 2,none⟩=some (.int .i64 (g.b5.ct.get i).gen)/\W.cell? ⟨b,off+i * 2+1,none⟩=some (.bool (g.b5.ct.get i).live)
theorem Of.dj {q:G} {g:b.gq} {B mb:Nat} {W W' : World} (h:Of q g B W) (k:Kp mb W W') (hB:B<=W.heap.size) (hm:B<=mb):Of q g B W':=by
 refine ⟨h.sn,h.kn,h.im,h.dw,fun i hi=>?_⟩;obtain ⟨b,off,h1,h2,h3,h4⟩:=h.slot i hi;exact ⟨b,off,h1,h2,by rw [k.cell (by omega) (by omega)]; exact h3,by rw [k.cell (by omega) (by omega)]; exact h4⟩
theorem an0:aI Tryz.prog 35=1:=by kernel_rfl
theorem ajJ:aI Tryz.prog 32=2:=by kernel_rfl
theorem amM:aI Tryz.prog 111=2:=by kernel_rfl
theorem ahx {E:Env} {A:ai} {B:az.St} {ρ:az.Ren} {base:Nat} {w:World} {g:b.gq} {u:Value} (hj:KJ Tryz.prog E A B ρ base w) (h:VC Tryz.prog E ρ (b.aal g) u) :
  ∃ q:G,u=gv q/\Wa q w.heap.size w/\Of q g w.heap.size w/\VC Tryz.prog E ρ (b.rO g.b5) (.agg #[.slice q.sa q.sn q.sc]):=by
 obtain ⟨l,rfl,hl⟩:=h.agn;obtain ⟨x,xs,rfl,h1,iK⟩:=hl.qP;obtain ⟨y,ys,rfl,h2,Xe⟩:=iK.qP;obtain rfl:=Xe.PK;obtain ⟨sa,sc,rfl,H1⟩:=Bk hj h1;obtain ⟨ka,kc,rfl,H2⟩:=Bk hj h2;have H3:∀ i,∃ p:Option Addr×Nat,i < g.kids.n->(∃ b off,ka=some ⟨b,off,none⟩/\b < w.heap.size/\w.cell? ⟨b,off+i,none⟩=some (.slice p.1 (g.kids.get i).n p.2))/\
   ∀ k,k < (g.kids.get i).n->∃ b off,p.1=some ⟨b,off,none⟩/\b < w.heap.size/\w.cell? ⟨b,off+k * 2,none⟩=some (.int .i64 ((g.kids.get i).get k).slot)/\w.cell? ⟨b,off+k * 2+1,none⟩=some (.int .i64 ((g.kids.get i).get k).gen):=by
  intro i;by_cases hi:i < g.kids.n
  ·obtain ⟨bb,off,e1,e2,e3⟩:=H2 i hi
   obtain ⟨z,z1,z2⟩:=e3 0 (dS 32 b.jJ (g.kids.get i)) rfl;obtain ⟨a,c,rfl,H⟩:=Bk hj z2;rw [an0] at z1;refine ⟨(a,c),fun _=>⟨⟨bb,off,e1,e2,by rw [show off+i=off+i * 1+0 by omega]; exact z1⟩,fun k hk=>?_⟩⟩;obtain ⟨bc,ajK,r1,r2,r3⟩:=H k hk;obtain ⟨z,s1,s2⟩:=r3 0 (.int .i64 ((g.kids.get i).get k).slot) rfl;obtain ⟨z',t1,t2⟩:=r3 1 (.int .i64 ((g.kids.get i).get k).gen) rfl;rw [ajJ] at s1 t1;rw [s2.bQ] at s1;rw [t2.bQ] at t1;exact ⟨bc,ajK,r1,r2,s1,t1⟩
  ·exact ⟨(none,0),fun h=>absurd h hi⟩
 obtain ⟨f,hf⟩:=Classical.axiomOfChoice H3;refine ⟨⟨sa,g.b5.ct.n,sc,ka,g.kids.n,kc,fun i=>(f i).1,fun i=>(g.kids.get i).n,fun i=>(f i).2,fun i k=>hp ((g.kids.get i).get k)⟩,rfl,⟨fun i hi=>(hf i hi).1,fun i hi k hk=>(hf i hi).2 k hk⟩,⟨rfl,rfl,fun _=>rfl,fun _ _=>rfl,fun i hi=>?_⟩,.ago (.zp h1 .TL)⟩;obtain ⟨bb,off,e1,e2,e3⟩:=H1 i hi;obtain ⟨z,s1,s2⟩:=e3 0 (.int .i64 (g.b5.ct.get i).gen) rfl;obtain ⟨z',t1,t2⟩:=e3 1 (.bool (g.b5.ct.get i).live) rfl;rw [amM] at s1 t1;rw [s2.bQ] at s1;rw [t2.dr] at t1;exact ⟨bb,off,e1,e2,s1,t1⟩
theorem acJ {E:Env} {A:ai} {B:az.St} {ρ:az.Ren} {base:Nat} {w W:World} (hj:KJ Tryz.prog E A B ρ base w) (hw:Below w.heap.size w W) {a:b.lX} {x:Value} (hx:VC Tryz.prog E ρ (b.rO a) x) {n:Int} (hn:b.dz a=some n) :
  Calls Tryz.prog 120 #[x] W fun e W'=>e = .returned (.int .i64 n)/\Below W.heap.size W W':=by
 have ep:bL Tryz.prog 120 = [24]:=by kernel_rfl
 have en:normArgs Tryz.prog (bL Tryz.prog 120) (normArgs Tryz.prog (bL Tryz.prog 120) [b.rO a]) = [b.rO a]:=by rw [ep]; kernel_rfl
 refine (SL hj hw b.Df (args:=[b.rO a]) (v:=kI .i64 n) (by rw [en]; exact PJ (by rw [ep]; kernel_rfl) hn) (by rw [ep]; rfl) (.zp hx .TL)).mono ?_;rintro e W' ⟨v',E',ak,rfl,q1,q2⟩;exact ⟨by rw [q1.bQ],q2⟩
theorem acK {E:Env} {A:ai} {B:az.St} {ρ:az.Ren} {base:Nat} {w W:World} (hj:KJ Tryz.prog E A B ρ base w) (hw:Below w.heap.size w W) {a:b.lX} {x:Value} (hx:VC Tryz.prog E ρ (b.rO a) x) {h:Int×Int} {r:Bool} (hn:b.de a ⟨h.1,h.2⟩=some r) :
  Calls Tryz.prog 77 #[x,hv h] W fun e W'=>e = .returned (.bool r)/\Below W.heap.size W W':=by
 have ep:bL Tryz.prog 77 = [24,32]:=by kernel_rfl
 have en:normArgs Tryz.prog (bL Tryz.prog 77) (normArgs Tryz.prog (bL Tryz.prog 77) [b.rO a,b.jJ ⟨h.1,h.2⟩]) = [b.rO a,b.jJ ⟨h.1,h.2⟩]:=by rw [ep]; kernel_rfl
 have hh:VC Tryz.prog E ρ (b.jJ ⟨h.1,h.2⟩) (hv h):=.ago (.zp ⟨_,.mkInt,by simp [az.VR]⟩ (.zp ⟨_,.mkInt,by simp [az.VR]⟩ .TL));refine (SL hj hw b.oz (args:=[b.rO a,b.jJ ⟨h.1,h.2⟩]) (v:=kB r) (by rw [en]; exact PJ (by rw [ep]; kernel_rfl) hn) (by rw [ep]; rfl) (.zp hx (.zp hh .TL))).mono ?_;rintro e W' ⟨v',E',ak,rfl,q1,q2⟩;exact ⟨by rw [q1.dr],q2⟩
set_option maxHeartbeats 4000000 in
theorem nm {E:Env} {A:ai} {B:az.St} {ρ:az.Ren} {base:Nat} {w W:World} (hj:KJ Tryz.prog E A B ρ base w) (hw:Below w.heap.size w W) {a:b.lX} {q:G} (hx:VC Tryz.prog E ρ (b.rO a) (.agg #[.slice q.sa q.sn q.sc])) (h:Int×Int) {r:Bool} (hn:b.de a ⟨h.1,h.2⟩=some r)
  {bg:Nat} (hbg:bg < W.heap.size) (c0:W.cell? ⟨bg,0,none⟩=some (.slice q.sa q.sn q.sc)) :
  Calls Tryz.prog 121 #[hv h,.pointer (some ⟨bg,0,none⟩)] W fun e W'=>e = .returned (.bool (!r))/\Below W.heap.size W W':=by
 have mixed:=s0;have t32:=Tryz.underlying32; have a32:=Tryz.isAgg32; have z32:=Tryz.sizeOf32; have v32:=Tryz.zeroValue32; have u32:=run_underlying Tryz.underlying32;have t27:=Tryz.underlying27; have a27:=Tryz.isAgg27; have z27:=Tryz.sizeOf27; have v27:=Tryz.zeroValue27; have u27:=run_underlying Tryz.underlying27;have t24:=Tryz.underlying24; have a24:=Tryz.isAgg24; have z24:=Tryz.sizeOf24; have v24:=Tryz.zeroValue24; have u24:=run_underlying Tryz.underlying24;have t22:=Tryz.underlying22; have a22:=Tryz.isAgg22; have z22:=Tryz.sizeOf22; have v22:=Tryz.zeroValue22; have u22:=run_underlying Tryz.underlying22;have t4:=Tryz.underlying4; have a4:=Tryz.isAgg4; have z4:=Tryz.sizeOf4; have v4:=Tryz.zeroValue4; have u4:=run_underlying Tryz.underlying4;have hc:=acK hj (W:=W.alloc (.cells #[.int .i64 h.1,.int .i64 h.2] 32)) (hw.alloc hw.size _) hx hn;have c1:(W.alloc (.cells #[.int .i64 h.1,.int .i64 h.2] 32)).cell? ⟨bg,0,none⟩=some (.slice q.sa q.sn q.sc):=((Kp.alloc (mb:=W.heap.size) W _).cell hbg (by omega)).trans c0
 go_enter Tryz.func121,Tryz.ntmps121
 go_wp2_with (go_at_call 77; refine hc.mono ?_; rintro e w' ⟨rfl,hk⟩)
 go_wp2
 go_ret
 exact ⟨rfl,(Below.refl _ _ |>.alloc (ao _) _).trans (hk.mono (by simp))⟩
set_option maxHeartbeats 4000000 in
theorem under (q:G) (B mb:Nat) (pA to:Int×Int) (U:List (Int×Int)) (hU:∀ u∈U,(0<=u.1/\u.1 < (q.kn:Int))/\∀ k,k < q.im u.1.toNat->q.dw u.1.toNat k∈U) (S:List (Int×Int)) (W:World)
  (hf:pA∈U) (hg:GAt q B W) (hB:B<=W.heap.size) (hm:B<=mb) (hM:MapAt mb W S) (ht:to ∉ S) {bg bs bt:Nat} (lg:bg < W.heap.size/\bg≠mb) (ls:bs < W.heap.size/\bs≠mb) (lt:bt < W.heap.size/\bt≠mb)
  (c0:W.cell? ⟨bg,0,none⟩=some (.slice q.sa q.sn q.sc)) (c1:W.cell? ⟨bg,1,none⟩=some (.slice q.ka q.kn q.kc)) (c2:W.cell? ⟨bs,0,none⟩=some (.map (some mb))) (c3:W.cell? ⟨bt,0,none⟩=some (.int .i64 to.1)) (c4:W.cell? ⟨bt,1,none⟩=some (.int .i64 to.2)) :
  Calls Tryz.prog 123 #[hv pA,.pointer (some ⟨bg,0,none⟩),.pointer (some ⟨bs,0,none⟩),.pointer (some ⟨bt,0,none⟩)] W fun e W'=>∃ S' r,e = .returned (.bool r)/\MapAt mb W' S'/\Kp mb W W'/\(r=true/\Reach q to pA\/r=false/\Grow q S pA S'/\to ∉ S'):=by
 have mixed:=s0;have t32:=Tryz.underlying32; have a32:=Tryz.isAgg32; have z32:=Tryz.sizeOf32; have v32:=Tryz.zeroValue32; have u32:=run_underlying Tryz.underlying32;have t27:=Tryz.underlying27; have a27:=Tryz.isAgg27; have z27:=Tryz.sizeOf27; have v27:=Tryz.zeroValue27; have u27:=run_underlying Tryz.underlying27;have t202:=Tryz.underlying202; have agi:=Tryz.isAgg202; have agj:=Tryz.sizeOf202; have agk:=Tryz.zeroValue202; have Jf:=run_underlying Tryz.underlying202;have t4:=Tryz.underlying4; have a4:=Tryz.isAgg4; have z4:=Tryz.sizeOf4; have v4:=Tryz.zeroValue4; have u4:=run_underlying Tryz.underlying4;have S8:mb < W.heap.size:=by obtain ⟨es,c,h,_⟩:=hM; exact (jg.1 h).1
 have KA:=Kp.alloc (mb:=mb) W (.cells #[.int .i64 pA.1,.int .i64 pA.2] 32);have hM1:MapAt mb (W.alloc (.cells #[.int .i64 pA.1,.int .i64 pA.2] 32)) S:=by
  obtain ⟨es,c,h1,h2⟩:=hM;exact ⟨es,c,by rw [Below.heap_alloc _ _ _ S8]; exact h1,h2⟩
 have hc:=below q B mb pA to U hU S (W.alloc (.cells #[.int .i64 pA.1,.int .i64 pA.2] 32)) hf (hg.dj KA hB hm) (dA hB KA.size) hm hM1 ht;have d0:=(KA.cell lg.1 lg.2).trans c0;have d1:=(KA.cell lg.1 lg.2).trans c1;have d2:=(KA.cell ls.1 ls.2).trans c2;have d3:=(KA.cell lt.1 lt.2).trans c3;have d4:=(KA.cell lt.1 lt.2).trans c4;obtain ⟨f1,f2⟩:=pA;obtain ⟨t1,t2⟩:=to
 go_enter Tryz.func123,Tryz.ntmps123
 go_wp2_with (go_at_call 124; refine hc.mono ?_; rintro e w' ⟨S',r,rfl,hr⟩)
 go_wp2
 go_ret
 exact ⟨S',r,rfl,hr.1,KA.trans hr.2.1,hr.2.2⟩
theorem Jh {q:G} {to:Int×Int} {S:List (Int×Int)} (hS:∀ x∈S,∀ k,k < q.im x.1.toNat->q.dw x.1.toNat k∈S) (ht:to ∉ S):∀ {x:Int×Int},Reach q to x->x ∉ S
 | _,.here=>ht
 | _,.dw h k hk r=>fun hm=>Jh hS ht r (hS h hm k hk)
theorem Grow.closed {q:G} {S S' : List (Int×Int)} {h:Int×Int} (g:Grow q S h S') (hS:∀ x∈S,∀ k,k < q.im x.1.toNat->q.dw x.1.toNat k∈S):∀ x∈S',∀ k,k < q.im x.1.toNat->q.dw x.1.toNat k∈S':=fun x hx k hk=>
 (g.new x hx).elim (fun h1=>g.sub _ (hS x h1 k hk)) fun h1=>h1 k hk
theorem aer {W:World} {mb:Nat} {es:Array MapEntry} {clock:Nat} (hm:W.heap[mb]? = some (.map es clock)) :
  (Builtin.clear_ #[202] 0 #[.map (some mb)]).run Tryz.prog W = .ok (.tuple #[]) (put W mb (.map #[] clock)):=by
 have Jf:=run_underlying Tryz.underlying202;simp [Builtin.clear_,Jf,MapKept.run_getObj_map hm,MapKept.run_setObj_map _ hm,Result.andThen];rfl
theorem run_make (W:World):(Instr.makeMap 202 none).run Tryz.prog W = .ok (.map (some W.heap.size)) (W.alloc (.map #[] 0)):=by
 have Jf:=run_underlying Tryz.underlying202;simp [Instr.makeMap,Result.andThen,newObj,Sem.run]
 try rfl
set_option maxHeartbeats 4000000 in
theorem reaches (q:G) (B:Nat) (pA to:Int×Int) (U:List (Int×Int)) (hU:∀ u∈U,(0<=u.1/\u.1 < (q.kn:Int))/\∀ k,k < q.im u.1.toNat->q.dw u.1.toNat k∈U) (W:World)
  (hf:pA∈U) (hg:GAt q B W) (hB:B<=W.heap.size) :
  Calls Tryz.prog 214 #[gv q,hv pA,hv to] W fun e W'=>∃ r,e = .returned (.bool r)/\Below W.heap.size W W'/\(r=true↔Reach q to pA):=by
 have mixed:=s0;have t32:=Tryz.underlying32; have a32:=Tryz.isAgg32; have z32:=Tryz.sizeOf32; have v32:=Tryz.zeroValue32; have u32:=run_underlying Tryz.underlying32;have t27:=Tryz.underlying27; have a27:=Tryz.isAgg27; have z27:=Tryz.sizeOf27; have v27:=Tryz.zeroValue27; have u27:=run_underlying Tryz.underlying27;have t202:=Tryz.underlying202; have agi:=Tryz.isAgg202; have agj:=Tryz.sizeOf202; have agk:=Tryz.zeroValue202; have Jf:=run_underlying Tryz.underlying202;have t4:=Tryz.underlying4; have a4:=Tryz.isAgg4; have z4:=Tryz.sizeOf4; have v4:=Tryz.zeroValue4; have u4:=run_underlying Tryz.underlying4;have KN:=run_make;have qM:Calls Tryz.prog 124 #[gv q,.map (some (W.heap.size+1+1+1)),hv pA,hv to] ((((W.alloc (.cells #[.slice q.sa q.sn q.sc,.slice q.ka q.kn q.kc] 27)).alloc (.cells #[.int .i64 pA.1,.int .i64 pA.2] 32)).alloc (.cells #[.int .i64 to.1,.int .i64 to.2] 32)).alloc (.map #[] 0))
   fun e W'=>∃ r,e = .returned (.bool r)/\Below W.heap.size W W'/\(r=true↔Reach q to pA):=by
  have K1:=((((Kp.alloc (mb:=W.heap.size+1+1+1) W (.cells #[.slice q.sa q.sn q.sc,.slice q.ka q.kn q.kc] 27)).trans (Kp.alloc _ (.cells #[.int .i64 pA.1,.int .i64 pA.2] 32))).trans (Kp.alloc _ (.cells #[.int .i64 to.1,.int .i64 to.2] 32))).trans (Kp.alloc _ (.map #[] 0)))
  refine (below q B (W.heap.size+1+1+1) pA to U hU [] _ hf (hg.dj K1 hB (by omega)) (dA hB K1.size) (by omega) ⟨#[],0,rN _ _ _ (by simp),Rj⟩ (by simp)).mono ?_;rintro e W' ⟨S',r,rfl,_,k2,hr⟩;refine ⟨r,rfl,(K1.trans k2).below (ao _) (by omega),?_⟩;rcases hr with ⟨rfl,hr⟩ | ⟨rfl,hg,hn⟩
  ·exact ⟨fun _=>hr,fun _=>rfl⟩
  ·exact ⟨fun h=>by simp at h,fun h=>(Jh (hg.closed (by simp)) hn h hg.is).elim⟩
 obtain ⟨f1,f2⟩:=pA;obtain ⟨t1,t2⟩:=to
 go_enter Tryz.func214,Tryz.ntmps214
 go_wp2_with (go_at_call 124; refine qM.mono ?_; rintro e w' ⟨r,rfl,hr⟩)
 go_wp2
 go_ret
 exact ⟨r,rfl,hr⟩
def qOf (g:b.gq):G:=⟨none,0,0,none,g.kids.n,0,fun _=>none,fun i=>(g.kids.get i).n,fun _=>0,fun i k=>hp ((g.kids.get i).get k)⟩
theorem Of.reach {q:G} {g:b.gq} {B:Nat} {W:World} (h:Of q g B W) {to x:Int×Int} : Reach q to x↔Reach (qOf g) to x:=by
 constructor
 ·intro r
  induction r with
  | here=>exact .here
  | dw h' k hk _ ih=>
   rw [h.im] at hk;rw [h.dw] at ih;exact .dw (q:=qOf g) h' k hk ih
 ·intro r
  induction r with
  | here=>exact .here
  | dw h' k hk _ ih=>exact .dw h' k (by rw [h.im]; exact hk) (by rw [h.dw]; exact ih)
def lM (g:b.gq) (i:Nat):Prop:=(g.kids.get i).n<=16/\(0 < (g.kids.get i).n->(g.b5.ct.get i).live=true)/\∀ k,k < (g.kids.get i).n->b.de g.b5 ((g.kids.get i).get k)=some true
def Ap (g:b.gq) (i:Nat):Prop:=∀ k,k < (g.kids.get i).n->¬ Reach (qOf g) ((i:Int),(g.b5.ct.get i).gen) (hp ((g.kids.get i).get k))
structure mL (g:b.gq):Prop where
 ct:b.dz g.b5=some 0
 len:g.kids.n=g.b5.ct.n
 row:∀ i,i < g.kids.n->lM g i
 free:∀ i,i < g.kids.n->Ap g i
theorem acL {W W' : World} (h:Below W.heap.size W W') (mb:Nat):Kp mb W W':=⟨h.os,h.tape,h.output,h.size,fun k hk _=>h.block k hk⟩
theorem aes (a:b.lX) (h:b.Handle) {n:Int} (hn:b.dz a=some n):∃ r,b.de a h=some r:=by
 unfold b.de b.pD b.pE;rw [hn];simp only [nj,ah,iB];cases n==0 with
 | false=>exact ⟨_,rfl⟩
 | true=>
  have:∃ r,b.jU a h=some r:=by
   unfold b.jU;by_cases h1:h.slot >= 0
   ·by_cases h2:h.slot < (a.ct.n:Int)
    ·simp [h1,h2]
    ·simp [h1,h2]
   ·simp [h1]
  obtain ⟨r,hr⟩:=this;rw [hr];exact ⟨r,rfl⟩
theorem aam {a:b.lX} (hn:b.dz a=some 0):a.ct.n<=128:=by
 unfold b.dz at hn;by_cases h:((a.ct.n:Nat):Int) > 128
 ·rw [aq h,ah] at hn
  simp at hn
 ·omega
theorem ajL {a:b.lX} {h:b.Handle} (hn:b.de a h=some true):0<=h.slot/\h.slot < (a.ct.n:Int):=by
 unfold b.de b.pD b.pE at hn;by_cases h1:h.slot >= 0
 ·by_cases h2:h.slot < (a.ct.n:Int)
  ·exact ⟨h1,h2⟩
  ·exfalso
   revert hn
   cases (b.dz a).isSome with
   | false=>simp
   | true=>
    cases ((b.dz a).getD default==0) with
    | false=>simp
    | true=>simp [b.jU,h1,h2]
 ·exfalso
  revert hn
  cases (b.dz a).isSome with
  | false=>simp
  | true=>
   cases ((b.dz a).getD default==0) with
   | false=>simp
   | true=>simp [b.jU,h1]
set_option maxHeartbeats 8000000 in
theorem check {E:Env} {A:ai} {B:az.St} {ρ:az.Ren} {base:Nat} {w:World} (hj:KJ Tryz.prog E A B ρ base w) {g:b.gq} {q:G} (hg:Wa q w.heap.size w) (ho:Of q g w.heap.size w) (hx:VC Tryz.prog E ρ (b.rO g.b5) (.agg #[.slice q.sa q.sn q.sc])) {n:Int} (hn:b.dz g.b5=some n) :
  Calls Tryz.prog 73 #[gv q] w fun e w'=>∃ n,e = .returned (.int .i64 n)/\Below w.heap.size w w'/\(n=0/\mL g\/n=8/\¬ mL g):=by
 have mixed:=s0;have t46:=Tryz.underlying46; have a46:=Tryz.isAgg46; have z46:=Tryz.sizeOf46; have v46:=Tryz.zeroValue46; have u46:=run_underlying Tryz.underlying46;have t32:=Tryz.underlying32; have a32:=Tryz.isAgg32; have z32:=Tryz.sizeOf32; have v32:=Tryz.zeroValue32; have u32:=run_underlying Tryz.underlying32;have t27:=Tryz.underlying27; have a27:=Tryz.isAgg27; have z27:=Tryz.sizeOf27; have v27:=Tryz.zeroValue27; have u27:=run_underlying Tryz.underlying27;have t24:=Tryz.underlying24; have a24:=Tryz.isAgg24; have z24:=Tryz.sizeOf24; have v24:=Tryz.zeroValue24; have u24:=run_underlying Tryz.underlying24;have t22:=Tryz.underlying22; have a22:=Tryz.isAgg22; have z22:=Tryz.sizeOf22; have v22:=Tryz.zeroValue22; have u22:=run_underlying Tryz.underlying22;have t25:=Tryz.underlying25; have a25:=Tryz.isAgg25; have z25:=Tryz.sizeOf25; have v25:=Tryz.zeroValue25; have u25:=run_underlying Tryz.underlying25;have t35:=Tryz.underlying35; have a35:=Tryz.isAgg35; have z35:=Tryz.sizeOf35; have v35:=Tryz.zeroValue35; have u35:=run_underlying Tryz.underlying35;have t111:=Tryz.underlying111; have a111:=Tryz.isAgg111; have z111:=Tryz.sizeOf111; have v111:=Tryz.zeroValue111; have u111:=run_underlying Tryz.underlying111;have t202:=Tryz.underlying202; have agi:=Tryz.isAgg202; have agj:=Tryz.sizeOf202; have agk:=Tryz.zeroValue202; have Jf:=run_underlying Tryz.underlying202;have t200:=Tryz.underlying200; have alW:=Tryz.isAgg200; have alX:=Tryz.sizeOf200; have alY:=Tryz.zeroValue200; have alZ:=run_underlying Tryz.underlying200;have t3:=Tryz.underlying3; have a3:=Tryz.isAgg3; have z3:=Tryz.sizeOf3; have v3:=Tryz.zeroValue3; have u3:=run_underlying Tryz.underlying3;have t4:=Tryz.underlying4; have a4:=Tryz.isAgg4; have z4:=Tryz.sizeOf4; have v4:=Tryz.zeroValue4; have u4:=run_underlying Tryz.underlying4;have bg0:Below w.heap.size w (w.alloc (.cells #[.slice q.sa q.sn q.sc,.slice q.ka q.kn q.kc] 27)):=(Below.refl _ _).alloc (ao _) _;have Xp:=acJ hj bg0 hx hn;have cg0:(w.alloc (.cells #[.slice q.sa q.sn q.sc,.slice q.ka q.kn q.kc] 27)).cell? ⟨w.heap.size,0,none⟩=some (.slice q.sa q.sn q.sc):=by simp
 have cg1:(w.alloc (.cells #[.slice q.sa q.sn q.sc,.slice q.ka q.kn q.kc] 27)).cell? ⟨w.heap.size,1,none⟩=some (.slice q.ka q.kn q.kc):=by simp
 have sg:(w.alloc (.cells #[.slice q.sa q.sn q.sc,.slice q.ka q.kn q.kc] 27)).heap.size=w.heap.size+1:=by simp
 generalize Rr:w.alloc (.cells #[.slice q.sa q.sn q.sc,.slice q.ka q.kn q.kc] 27)=W1 at Xp bg0 cg0 cg1 sg
 go_enter Tryz.func73,Tryz.ntmps73
 by_cases W0:n=0
 ·subst W0
  have hsm:q.sn<=128:=by rw [ho.sn]; exact aam hn
  by_cases hlen:q.kn=q.sn
  ·have MW:((q.kn:Int)==(q.sn:Int))=true:=by rw [hlen]; exact beq_self_eq_true _
   have amN:((q.kn:Int) != (q.sn:Int))=false:=by rw [hlen]; exact bne_self_eq_false _
   have hlen2:q.kn<=q.sn/\q.sn<=q.kn:=by omega
   clear hlen
   go_wp2_with (go_at_call 120; refine Xp.mono ?_; rintro e w2 ⟨rfl,hk⟩; have c0:=(hk.cell (p:=⟨w.heap.size,0,none⟩) (by show w.heap.size < _; omega)).trans cg0; have c1:=(hk.cell (p:=⟨w.heap.size,1,none⟩) (by show w.heap.size < _; omega)).trans cg1)
   have bW:Below W1.heap.size W1 w2:=hk
   go_wp2
   go_loopg [27] q.kn (fun gg s27 wr=>∃ kk:Nat,kk<=q.kn/\q.kn - kk<=gg/\s27 = .int .i64 kk/\Aside (Below W1.heap.size W1 wr/\∀ i,i < kk->lM g i))
   case atStart=>exact ⟨0,mc _,by omega,rfl,bW,fun i hi=>absurd hi (nF _)⟩
   case round=>
    obtain ⟨kk,Zb,hgg,rfl,BW⟩:=hrel;clear MW amN;by_cases aJ:kk < q.kn
    ·have acC:(kk:Int) < (q.kn:Int):=by omega
     have hltz2:(kk:Int) < (q.sn:Int):=by omega
     have BWw:Below w.heap.size w wr:=bg0.trans (BW.out.1.mono (by omega));have y7:=hg.dj (acL BWw w.heap.size) (ao _) (ao _);have hoo:=ho.dj (acL BWw w.heap.size) (ao _) (ao _);have e0:=(BW.out.1.cell (p:=⟨w.heap.size,0,none⟩) (by show w.heap.size < _; omega)).trans cg0;have e1:=(BW.out.1.cell (p:=⟨w.heap.size,1,none⟩) (by show w.heap.size < _; omega)).trans cg1;obtain ⟨bk,ok,hka,hbk,dC⟩:=y7.kids kk aJ;obtain ⟨bl,ol,hsa,Y4,al2,ajM⟩:=hoo.slot kk (by omega);have him:q.im kk<=(g.kids.get kk).n/\(g.kids.get kk).n<=q.im kk:=by rw [ho.im]; exact ⟨ao _,ao _⟩
     have qM:q.im kk<=16->∀ V,Below W1.heap.size W1 V->Calls Tryz.prog 122 #[.slice (q.ia kk) (q.im kk) (q.ic kk),.func (.func 121) #[] #[.pointer (some ⟨w.heap.size,0,none⟩)]] V fun e W'=>∃ r,e = .returned (.bool r)/\Below W1.heap.size W1 W'/\(r=true/\¬ lM g kk\/r=false/\∀ k,k < q.im kk->b.de g.b5 ((g.kids.get kk).get k)=some true):=by
      intro h16 V hV;refine (Nk 121 #[.pointer (some ⟨w.heap.size,0,none⟩)] (enters_of Tryz.func121 (by kernel_rfl) rfl) (q.ia kk) (q.im kk) (q.ic kk) (q.dw kk)
       (fun j W'=>Below W1.heap.size W1 W'/\∀ k,k < j->b.de g.b5 ((g.kids.get kk).get k)=some true)
       (fun W'=>Below W1.heap.size W1 W'/\¬ lM g kk) (by omega) (fun W' j Uq hI=>?_) (fun j W' Uq hI=>?_) V ⟨hV,fun k hk=>absurd hk (nF _)⟩).mono ?_
      ·have BW' : Below w.heap.size w W':=bg0.trans (hI.1.mono (by omega))
       obtain ⟨bb,off,r1,_,r2,r3⟩:=(hg.dj (acL BW' w.heap.size) (ao _) (ao _)).row kk aJ j Uq;exact ⟨bb,off,r1,r2,r3⟩
      ·have BW' : Below w.heap.size w W':=bg0.trans (hI.1.mono (by omega))
       obtain ⟨r,hr⟩:=aes g.b5 ((g.kids.get kk).get j) hn;have Wb:=ho.dw kk j;refine (nm hj BW' hx (q.dw kk j) (r:=r) (by rw [Wb]; exact hr) (bg:=w.heap.size) (by have:=hI.1.size; omega) ((hI.1.cell (p:=⟨w.heap.size,0,none⟩) (by show w.heap.size < _; omega)).trans cg0)).mono ?_;rintro e W2 ⟨rfl,hb⟩;have KQ:Below W1.heap.size W1 W2:=hI.1.trans (hb.mono hI.1.size);cases r with
       | true=>
        refine .inr ⟨rfl,KQ,fun k hk=>?_⟩;by_cases ek:k=j
        ·subst ek; exact hr
        ·exact hI.2 k (by omega)
       | false=>exact .inl ⟨rfl,KQ,fun h=>by have:=h.2.2 j (by omega); rw [hr] at this; simp at this⟩
      ·rintro e W' ⟨r,rfl,⟨rfl,h1⟩ | ⟨rfl,h1⟩⟩
       ·exact ⟨true,rfl,h1.1,.inl ⟨rfl,h1.2⟩⟩
       ·exact ⟨false,rfl,h1.1,.inr ⟨rfl,h1.2⟩⟩
     have eg:∀ args w,(callFunc 122 args).run Tryz.prog w = .ok (.enter 122 args) w:=enters_of Tryz.func122 (by kernel_rfl) rfl;have agq:∀ W',Below W1.heap.size W1 W'->¬ lM g kk->∃ n,Ending.returned (.int .i64 8) = .returned (.int .i64 n)/\Below w.heap.size w W'/\(n=0/\mL g\/n=8/\¬ mL g):=fun W' hb hr=>
      ⟨8,rfl,bg0.trans (hb.mono (by omega)),.inr ⟨rfl,fun h=>hr (h.row kk (by rw [<- ho.kn]; exact aJ))⟩⟩
     have hBW:=BW.out;have Ak:∀ W',Below W1.heap.size W1 W'->lM g kk->Below W1.heap.size W1 W'/\∀ i,i < kk+1->lM g i:=fun W' hb hr=>⟨hb,fun i hi=>by
      by_cases e:i=kk
      ·subst e; exact hr
      ·exact hBW.2 i (by omega)⟩
     clear hg ho hj Xp BW;generalize U9:(g.b5.ct.get kk).live=lv at ajM;by_cases h16:q.im kk<=16
     ·have an1 : ¬ (q.im kk:Int) > 16:=by omega
      have ajN:=qM h16;have ajO:=ajN wr hBW.1;clear qM ajN;have UB:∀ W' r,Below W1.heap.size W1 W'->(r=true/\¬ lM g kk\/r=false/\∀ k,k < q.im kk->b.de g.b5 ((g.kids.get kk).get k)=some true)->(0 < q.im kk->lv=true)->r=true/\(Below W1.heap.size W1 W'/\¬ lM g kk)\/r=false/\(Below W1.heap.size W1 W'/\∀ i,i < kk+1->lM g i):=by
       rintro W' r hb (⟨rfl,hr⟩ | ⟨rfl,hr⟩) hl
       ·exact .inl ⟨rfl,hb,hr⟩
       ·exact .inr ⟨rfl,Ak _ hb ⟨by omega,fun Aj=>by rw [U9]; exact hl (by omega),fun k hk=>hr k (by omega)⟩⟩
      by_cases h0:0 < q.im kk
      ·have h0z:(q.im kk:Int) > 0:=by omega
       cases lv with
       | true=>
        go_wp2_with (go_at_call 122; refine ajO.mono ?_; rintro e w3 ⟨r,rfl,hb,hr⟩; rcases UB _ _ hb hr (fun _=>rfl) with ⟨rfl,hd⟩ | ⟨rfl,hd⟩)
        ·go_wp2
         go_ret
         exact agq _ hd.1 hd.2
        ·go_wp2
         simp only [<- hka,<- hsa]
         go_roundg (q.kn - (kk+1))
         case measure=>omega
         case rel=>exact ⟨kk+1,by omega,by omega,by go_num,hd⟩
       | false=>
        go_wp2
        go_ret
        exact agq _ hBW.1 fun h=>by have:=h.2.1 (by omega); rw [U9] at this; simp at this
      ·have h0z : ¬ (q.im kk:Int) > 0:=by omega
       go_wp2_with (go_at_call 122; refine ajO.mono ?_; rintro e w3 ⟨r,rfl,hb,hr⟩; rcases UB _ _ hb hr (fun h=>absurd h h0) with ⟨rfl,hd⟩ | ⟨rfl,hd⟩)
       ·go_wp2
        go_ret
        exact agq _ hd.1 hd.2
       ·go_wp2
        simp only [<- hka,<- hsa]
        go_roundg (q.kn - (kk+1))
        case measure=>omega
        case rel=>exact ⟨kk+1,by omega,by omega,by go_num,hd⟩
     ·have an1:(q.im kk:Int) > 16:=by omega
      go_wp2
      go_ret
      exact agq _ hBW.1 fun h=>h16 (by have:=h.1; omega)
    ·rename World=>V0
     have acC : ¬ (kk:Int) < (q.kn:Int):=by omega
     have gU:∀ i,i < q.kn->lM g i:=fun i hi=>BW.out.2 i (by omega);have hB1:=BW.out.1;have BWw:Below w.heap.size w V0:=bg0.trans (hB1.mono (by omega));have y7:=(hg.dj (acL BWw w.heap.size) (ao _) (ao _)).with fun i hi=>by have:=(gU i hi).1; rw [ho.im]; omega
     have hoo:=ho.dj (acL BWw w.heap.size) (ao _) (ao _);have e0:=(hB1.cell (p:=⟨w.heap.size,0,none⟩) (by show w.heap.size < _; omega)).trans cg0;have e1:=(hB1.cell (p:=⟨w.heap.size,1,none⟩) (by show w.heap.size < _; omega)).trans cg1;have KN:=run_make;have sW:w.heap.size < V0.heap.size:=by have:=hB1.size; omega
     have K2:∀ mb,Kp mb V0 ((V0.alloc (.map #[] 0)).alloc (.cells #[.map (some V0.heap.size)] 202)):=fun mb=>(Kp.alloc V0 _).trans (Kp.alloc _ _);have hM2:MapAt V0.heap.size ((V0.alloc (.map #[] 0)).alloc (.cells #[.map (some V0.heap.size)] 202)) []:=⟨#[],0,by rw [Below.heap_alloc _ _ _ (by simp)]; exact rN _ _ _ rfl,Rj⟩
     have iw:((V0.alloc (.map #[] 0)).alloc (.cells #[.map (some V0.heap.size)] 202)).cell? ⟨V0.heap.size+1,0,none⟩=some (.map (some V0.heap.size)):=by
      rw [j8 (rN _ _ _ (by simp))]; rfl
     have vO:((V0.alloc (.map #[] 0)).alloc (.cells #[.map (some V0.heap.size)] 202)).heap.size=V0.heap.size+2:=by simp
     have f0:=((K2 V0.heap.size).cell (b:=w.heap.size) (j:=0) sW (by omega)).trans e0;have f1:=((K2 V0.heap.size).cell (b:=w.heap.size) (j:=1) sW (by omega)).trans e1;generalize hW2:(V0.alloc (.map #[] 0)).alloc (.cells #[.map (some V0.heap.size)] 202)=W2 at K2 hM2 iw vO f0 f1;have xX:=y7.dj (K2 V0.heap.size) (CM sW) (CM sW);have ho2:=hoo.dj (K2 V0.heap.size) (CM sW) (CM sW);have al3:∀ W',Kp V0.heap.size W2 W'->Below w.heap.size w W':=fun W' k=>BWw.trans (((K2 V0.heap.size).trans k).below (CM sW) (CM sW));clear Xp hg y7 ho hoo BW
     go_wp2
     go_loopg [61] q.kn (fun gg s61 wr2=>∃ jj:Nat,jj<=q.kn/\q.kn - jj<=gg/\s61 = .int .i64 jj/\Aside (Kp V0.heap.size W2 wr2/\(∃ S,MapAt V0.heap.size wr2 S)/\∀ i,i < jj->Ap g i))
     case atStart=>exact ⟨0,mc _,by omega,rfl,Kp.refl _ _,⟨_,hM2⟩,fun i hi=>absurd hi (nF _)⟩
     case round=>
      obtain ⟨jj,hjj,hgg2,rfl,BJ⟩:=hrel;obtain ⟨kj,⟨S0,es0,SM,hm0,_⟩,aet⟩:=BJ.out;clear BJ;by_cases acM:jj < q.kn
      ·have hjz:(jj:Int) < (q.kn:Int):=by omega
       have hjz2:(jj:Int) < (q.sn:Int):=by omega
       have hgj:=xX.dj kj (by omega) (by omega);have Xr:=ho2.dj kj (by omega) (by omega);have sj:=kj.size;have j0:=(kj.cell (b:=w.heap.size) (j:=0) (by omega) (by omega)).trans f0;have j1:=(kj.cell (b:=w.heap.size) (j:=1) (by omega) (by omega)).trans f1;have js:=(kj.cell (b:=V0.heap.size+1) (j:=0) (by omega) (by omega)).trans iw;obtain ⟨bk,ok,hka,hbk,dC⟩:=hgj.kids jj acM;obtain ⟨bl,ol,hsa,Y4,al2,ajM⟩:=Xr.slot jj (by omega);have Wb:=Xr.dw jj;have him:q.im jj<=(g.kids.get jj).n/\(g.kids.get jj).n<=q.im jj:=by rw [Xr.im]; exact ⟨ao _,ao _⟩
       generalize VP:(g.b5.ct.get jj).gen=gj at al2;have KA:=Kp.alloc (mb:=V0.heap.size) wr (.cells #[.int .i64 jj,.int .i64 gj] 32);have hmA:(wr.alloc (.cells #[.int .i64 jj,.int .i64 gj] 32)).heap[V0.heap.size]? = some (.map es0 SM):=by rw [Below.heap_alloc _ _ _ (by omega)]; exact hm0
       have an2:=aer hmA;have KP:=Kp.put (mb:=V0.heap.size) (wr.alloc (.cells #[.int .i64 jj,.int .i64 gj] 32)) (.map #[] SM);have jA:=(KA.cell (b:=V0.heap.size+1) (j:=0) (by omega) (by omega)).trans js;have K4:=KA.trans KP;have hM4:MapAt V0.heap.size (put (wr.alloc (.cells #[.int .i64 jj,.int .i64 gj] 32)) V0.heap.size (.map #[] SM)) []:=⟨#[],SM,ZZ hmA,Rj⟩
       have js4:=(KP.cell (b:=V0.heap.size+1) (j:=0) (by have:=KA.size; omega) (by omega)).trans jA;have jt0:(put (wr.alloc (.cells #[.int .i64 jj,.int .i64 gj] 32)) V0.heap.size (.map #[] SM)).cell? ⟨wr.heap.size,0,none⟩=some (.int .i64 jj):=by
        rw [KP.cell (by simp) (by omega)]; simp
       have jt1:(put (wr.alloc (.cells #[.int .i64 jj,.int .i64 gj] 32)) V0.heap.size (.map #[] SM)).cell? ⟨wr.heap.size,1,none⟩=some (.int .i64 gj):=by
        rw [KP.cell (by simp) (by omega)]; simp
       have hz4:wr.heap.size < (put (wr.alloc (.cells #[.int .i64 jj,.int .i64 gj] 32)) V0.heap.size (.map #[] SM)).heap.size:=by rw [Rl]; simp
       generalize hW4:put (wr.alloc (.cells #[.int .i64 jj,.int .i64 gj] 32)) V0.heap.size (.map #[] SM)=W4 at an2 KP K4 hM4 js4 jt0 jt1 hz4;have hU:∀ u∈(List.range q.kn).flatMap (fun i=>(List.range (q.im i)).map fun k=>q.dw i k),(0<=u.1/\u.1 < (q.kn:Int))/\∀ k,k < q.im u.1.toNat->q.dw u.1.toNat k∈(List.range q.kn).flatMap (fun i=>(List.range (q.im i)).map fun k=>q.dw i k):=by
        intro u hu;obtain ⟨i,hi,hu⟩:=JV.1 hu;obtain ⟨k,hk,rfl⟩:=vR.1 hu;rw [yC] at hi hk;have hr:=ajL ((gU i hi).2.2 k (by rw [<- Xr.im]; exact hk));rw [<- Xr.sn] at hr;have hh:0<=(q.dw i k).1/\(q.dw i k).1 < (q.kn:Int):=by rw [Xr.dw]; exact ⟨hr.1,by have:=hr.2; show ((g.kids.get i).get k).slot < _; omega⟩
        exact ⟨hh,fun k' pd=>JV.2 ⟨(q.dw i k).1.toNat,yC.2 (by omega),vR.2 ⟨k',yC.2 pd,rfl⟩⟩⟩
       have qM:Calls Tryz.prog 122 #[.slice (q.ia jj) (q.im jj) (q.ic jj),.func (.func 123) #[] #[.pointer (some ⟨w.heap.size,0,none⟩),.pointer (some ⟨V0.heap.size+1,0,none⟩),.pointer (some ⟨wr.heap.size,0,none⟩)]] W4 fun e W'=>∃ r,e = .returned (.bool r)/\Kp V0.heap.size W4 W'/\(∃ S,MapAt V0.heap.size W' S)/\(r=true/\¬ Ap g jj\/r=false/\Ap g jj):=by
        refine (Nk 123 #[.pointer (some ⟨w.heap.size,0,none⟩),.pointer (some ⟨V0.heap.size+1,0,none⟩),.pointer (some ⟨wr.heap.size,0,none⟩)] (enters_of Tryz.func123 (by kernel_rfl) rfl) (q.ia jj) (q.im jj) (q.ic jj) (q.dw jj)
         (fun j W'=>Kp V0.heap.size W4 W'/\∃ S,MapAt V0.heap.size W' S/\((jj:Int),gj) ∉ S/\(∀ x∈S,∀ k,k < q.im x.1.toNat->q.dw x.1.toNat k∈S)/\∀ k,k < j->q.dw jj k∈S)
         (fun W'=>Kp V0.heap.size W4 W'/\(∃ S,MapAt V0.heap.size W' S)/\¬ Ap g jj) (xX.small jj acM) (fun W' j Uq hI=>?_) (fun j W' Uq hI=>?_) W4 ⟨Kp.refl _ _,[],hM4,by simp,by simp,fun k hk=>absurd hk (nF _)⟩).mono ?_
        ·obtain ⟨bb,off,r1,_,r2,r3⟩:=(hgj.dj (K4.trans hI.1) (by omega) (by omega)).row jj acM j Uq
         exact ⟨bb,off,r1,r2,r3⟩
        ·obtain ⟨ot,S,hS,Qz,BA,nu⟩:=hI
         have kk4:=K4.trans ot;have cT:=ot.size;refine (under q w.heap.size V0.heap.size (q.dw jj j) ((jj:Int),gj) _ hU S W' (JV.2 ⟨jj,yC.2 acM,vR.2 ⟨j,yC.2 Uq,rfl⟩⟩) (hgj.dj kk4 (by omega) (by omega)) (by omega) (by omega) hS Qz
          (bg:=w.heap.size) (bs:=V0.heap.size+1) (bt:=wr.heap.size) (by omega) (by omega) (by omega)
          ((kk4.cell (b:=w.heap.size) (j:=0) (by omega) (by omega)).trans j0) ((kk4.cell (b:=w.heap.size) (j:=1) (by omega) (by omega)).trans j1) ((ot.cell (b:=V0.heap.size+1) (j:=0) (by omega) (by omega)).trans js4)
          ((ot.cell (b:=wr.heap.size) (j:=0) hz4 (by omega)).trans jt0) ((ot.cell (b:=wr.heap.size) (j:=1) hz4 (by omega)).trans jt1)).mono ?_
         rintro e W5 ⟨S',r,rfl,m5,k5,⟨rfl,hr⟩ | ⟨rfl,AU,hn5⟩⟩
         ·refine .inl ⟨rfl,ot.trans k5,⟨S',m5⟩,fun hf=>hf j (by omega) ?_⟩
          rw [VP,<- Wb j];exact Xr.reach.1 hr
         ·refine .inr ⟨rfl,ot.trans k5,S',m5,hn5,AU.closed BA,fun k hk=>?_⟩
          by_cases ek:k=j
          ·subst ek; exact AU.is
          ·exact AU.sub _ (nu k (by omega))
        ·rintro e W' ⟨r,rfl,⟨rfl,h1⟩ | ⟨rfl,h1,S,h2,h3,h4,h5⟩⟩
         ·exact ⟨true,rfl,h1.1,h1.2.1,.inl ⟨rfl,h1.2.2⟩⟩
         ·refine ⟨false,rfl,h1,⟨S,h2⟩,.inr ⟨rfl,fun k hk hr=>?_⟩⟩
          rw [VP,<- Wb k] at hr;exact Jh h4 h3 (Xr.reach.2 hr) (h5 k (by omega))
       have amO:∀ W',Kp V0.heap.size W4 W'->¬ Ap g jj->∃ n,Ending.returned (.int .i64 8) = .returned (.int .i64 n)/\Below w.heap.size w W'/\(n=0/\mL g\/n=8/\¬ mL g):=fun W' hk hf=>
        ⟨8,rfl,al3 _ (kj.trans (K4.trans hk)),.inr ⟨rfl,fun h=>hf (h.free jj (by rw [<- Xr.kn]; exact acM))⟩⟩
       have fU:∀ W',Kp V0.heap.size W4 W'->(∃ S,MapAt V0.heap.size W' S)->Ap g jj->Kp V0.heap.size W2 W'/\(∃ S,MapAt V0.heap.size W' S)/\∀ i,i < jj+1->Ap g i:=fun W' hk hm hf=>⟨kj.trans (K4.trans hk),hm,fun i hi=>by
        by_cases e:i=jj
        ·subst e; exact hf
        ·exact aet i (by omega)⟩
       clear hU Wb xX ho2 hgj Xr gU hW2 VP aet hm0
       go_wp2_with (go_at_call 122; go_loud (refine qM.mono ?_; rintro e w3 ⟨r,rfl,hb,hm,⟨rfl,hr⟩ | ⟨rfl,hr⟩⟩))
       ·go_wp2
        go_ret
        exact amO _ hb hr
       ·go_wp2
        simp only [<- hka,<- hsa]
        go_roundg (q.kn - (jj+1))
        case measure=>omega
        case rel=>exact ⟨jj+1,by omega,by omega,by go_num,fU _ hb hm hr⟩
      ·have hjz : ¬ (jj:Int) < (q.kn:Int):=by omega
       have hf:mL g:=⟨hn,by rw [<- ho2.kn,<- ho2.sn]; omega,fun i hi=>gU i (by rw [ho2.kn]; exact hi),fun i hi=>aet i (by have:=ho2.kn; omega)⟩
       have hb:=al3 _ kj;have MM:∀ W',Below w.heap.size w W'->∃ n,Ending.returned (.int .i64 0) = .returned (.int .i64 n)/\Below w.heap.size w W'/\(n=0/\mL g\/n=8/\¬ mL g):=fun W' hb=>⟨0,rfl,hb,.inl ⟨rfl,hf⟩⟩
       clear hm0 xX ho2 gU
       go_wp2
       go_ret
       first | exact MM _ hb | exact ⟨rfl,hb⟩
  ·have MW:((q.kn:Int)==(q.sn:Int))=false:=beq_eq_false_iff_ne.2 fun h=>hlen (by exact_mod_cast h)
   have hlen3 : ¬ (q.kn:Int)=(q.sn:Int):=fun h=>hlen (by exact_mod_cast h)
   go_wp2_with (go_at_call 120; refine Xp.mono ?_; rintro e w2 ⟨rfl,hk⟩; have c0:=(hk.cell (p:=⟨w.heap.size,0,none⟩) (by show w.heap.size < _; omega)).trans cg0; have c1:=(hk.cell (p:=⟨w.heap.size,1,none⟩) (by show w.heap.size < _; omega)).trans cg1)
   go_wp2
   go_ret
   exact ⟨8,rfl,bg0.trans (hk.mono (by omega)),.inr ⟨rfl,fun h=>hlen (by rw [ho.kn,ho.sn,h.len])⟩⟩
 ·have hn0' : (n==0)=false:=by simpa using W0
  go_wp2_with (go_at_call 120; refine Xp.mono ?_; rintro e w2 ⟨rfl,hk⟩)
  go_wp2
  go_ret
  exact ⟨8,rfl,bg0.trans (hk.mono (by omega)),.inr ⟨rfl,fun h=>by rw [h.ct] at hn; simp only [aR] at hn; omega⟩⟩
end Go.Proofs.YtckbdndhmcoihaaGreat.nodes
end
section
namespace Go.Proofs.YtckbdndhmcoihaaGreat.nodes
open Go Go.RowKit Go.K
open Classical in
noncomputable def zq (g:b.gq):Option Int:=(b.dz g.b5).map fun _=>if mL g then 0 else 8
noncomputable def acN:List KV->KR KV:=cI Tryz.prog 73 (cR (kI .i64) fun vs=>zq (b.KB (vs.getD 0 .bz)))
theorem call73:pq Tryz.prog 73:=by
 refine ⟨by kernel_rfl,_,Tryz.func73,rfl,by kernel_rfl⟩
theorem ak0 (w:Nat->KV):pz Tryz.prog [27] w 0 = [b.aal (b.KB (gW Tryz.prog (bU Tryz.prog df) 27 (w 0)))]:=by kernel_rfl
theorem acO:cA Tryz.prog 73 acN:=by
 refine SH call73 fun args v E A B ρ base w bN hF hlen hv hj=>?_;have ep:bL Tryz.prog 73 = [27]:=by kernel_rfl
 unfold acN cI at hF;obtain ⟨hb,hF⟩:=aA.cond hF;obtain ⟨ww,hw⟩:=Ca 0 hb;have vN:ny Tryz.prog E ρ (normArgs Tryz.prog (bL Tryz.prog 73) args) bN:=by
  obtain ⟨m,h1,h2⟩:=hv;exact ⟨m,aK.Gu (.of rfl) h1 hlen,h2⟩
 rw [hw,ep,ak0] at hF vN;generalize b.KB (gW Tryz.prog (bU Tryz.prog df) 27 (ww 0))=g at hF vN;obtain ⟨u,us,rfl,hu,ED⟩:=vN.qP;obtain rfl:=ED.PK;obtain ⟨q,rfl,hg,ho,hx⟩:=ahx hj hu;unfold cR at hF;obtain ⟨h1,h2⟩:=aA.iH hF;have h1:(zq g).isSome=true:=h1;have h2:kI .i64 ((zq g).getD default)=v:=h2;cases hn:b.dz g.b5 with
 | none=>simp [zq,hn] at h1
 | some n=>
  refine (check hj hg ho hx hn).mono ?_;rintro e w' ⟨m,rfl,hb,hm⟩;refine ⟨.int .i64 m,rfl,?_,hb⟩;have:v=kI .i64 m:=by
   rw [<- h2];simp only [zq,hn,Option.map_some,iB];rcases hm with ⟨rfl,h⟩ | ⟨rfl,h⟩
   ·rw [ax h]
   ·rw [ae h]
  rw [this];exact ⟨_,.mkInt,by simp [az.VR]⟩
end Go.Proofs.YtckbdndhmcoihaaGreat.nodes
end
section
namespace Go.Proofs.YtckbdndhmcoihaaGreat.b
open Go.K
noncomputable section
def Cb (g:gq):Option Int:=nodes.zq g
def su:List KV->KR KV:=cI Tryz.prog 73 (cR (kI .i64) fun vs=>Cb (KB (vs.getD 0 .bz)))
theorem rP:cA Tryz.prog 73 su:=nodes.acO
structure ie where
 e0:Int
 e1:Int
 e2:Int
instance:Inhabited ie:=⟨⟨default,default,default⟩⟩
def ajP (x:ie):List KV:=[.int .i64 x.e0,.int .i64 x.e1,.int .i64 x.e2]
def nA (x:ie):KV:=.agg (ajP x)
def ajQ (c:Nat->KV):ie:=⟨aw (c 0),aw (c 1),aw (c 2)⟩
def ud (v:KV):ie:=ajQ fun k=>v.cells.getD k .bz
theorem Wc (x:ie):ud (nA x)=x:=rfl
theorem aeu:ud .bz=default:=rfl
theorem aan (s:Sl ie) (v:ie):s.push v=nh ud (s.n+1) (dV s.n (fun i=>nA (s.get i)) (qj [nA v])):=(Ky Wc aeu s v).symm
theorem aao (s t:Sl ie):s.join t=nh ud (s.n+t.n) (dV s.n (fun i=>nA (s.get i)) (fun i=>nA (t.get i))):=(Ri Wc s t).symm
structure fM where
 e0:ie
 e1:ie
 e2:ie
instance:Inhabited fM:=⟨⟨default,default,default⟩⟩
def acP (x:fM):List KV:=[.int .i64 x.e0.e0,.int .i64 x.e0.e1,.int .i64 x.e0.e2,.int .i64 x.e1.e0,.int .i64 x.e1.e1,.int .i64 x.e1.e2,.int .i64 x.e2.e0,.int .i64 x.e2.e1,.int .i64 x.e2.e2]
def acQ (x:fM):KV:=.agg (acP x)
def acR (c:Nat->KV):fM:=⟨⟨aw (c 0),aw (c 1),aw (c 2)⟩,⟨aw (c 3),aw (c 4),aw (c 5)⟩,⟨aw (c 6),aw (c 7),aw (c 8)⟩⟩
def SN (v:KV):fM:=acR fun k=>v.cells.getD k .bz
structure yh where
 x:Int
 y:Int
 z:Int
instance:Inhabited yh:=⟨⟨default,default,default⟩⟩
def an3 (x:yh):List KV:=[.int .i64 x.x,.int .i64 x.y,.int .i64 x.z]
def agr (x:yh):KV:=.agg (an3 x)
def an4 (c:Nat->KV):yh:=⟨aw (c 0),aw (c 1),aw (c 2)⟩
def Yy (v:KV):yh:=an4 fun k=>v.cells.getD k .bz
structure HK where
 m:fM
 t:yh
instance:Inhabited HK:=⟨⟨default,default⟩⟩
def an5 (x:HK):List KV:=[.int .i64 x.m.e0.e0,.int .i64 x.m.e0.e1,.int .i64 x.m.e0.e2,.int .i64 x.m.e1.e0,.int .i64 x.m.e1.e1,.int .i64 x.m.e1.e2,.int .i64 x.m.e2.e0,.int .i64 x.m.e2.e1,.int .i64 x.m.e2.e2,.int .i64 x.t.x,.int .i64 x.t.y,.int .i64 x.t.z]
def an6 (x:HK):KV:=.agg (an5 x)
def an7 (c:Nat->KV):HK:=⟨⟨⟨aw (c 0),aw (c 1),aw (c 2)⟩,⟨aw (c 3),aw (c 4),aw (c 5)⟩,⟨aw (c 6),aw (c 7),aw (c 8)⟩⟩,⟨aw (c 9),aw (c 10),aw (c 11)⟩⟩
def al4 (v:KV):HK:=an7 fun k=>v.cells.getD k .bz
structure ajR where
 e0:Int
 e1:Int
 e2:Int
 e3:Int
 e4:Int
instance:Inhabited ajR:=⟨⟨default,default,default,default,default⟩⟩
structure Color where
 e0:Int
 e1:Int
 e2:Int
 e3:Int
instance:Inhabited Color:=⟨⟨default,default,default,default⟩⟩
def ak1 (x:Color):List KV:=[.int .u8 x.e0,.int .u8 x.e1,.int .u8 x.e2,.int .u8 x.e3]
def ak2 (x:Color):KV:=.agg (ak1 x)
def ak3 (c:Nat->KV):Color:=⟨aw (c 0),aw (c 1),aw (c 2),aw (c 3)⟩
def ak4 (v:KV):Color:=ak3 fun k=>v.cells.getD k .bz
structure oB where
 color:Color
 fN:Int
 sv:Int
 qQ:Int
 oV:Bool
 bin:Int
instance:Inhabited oB:=⟨by constructor<;>exact default⟩
def ajS (x:oB):List KV:=[.int .u8 x.color.e0,.int .u8 x.color.e1,.int .u8 x.color.e2,.int .u8 x.color.e3,.int .i64 x.fN,.int .u8 x.sv,.int .i64 x.qQ,.bool x.oV,.int .i64 x.bin]
def amP (x:oB):KV:=.agg (ajS x)
def ajT (c:Nat->KV):oB:=⟨⟨aw (c 0),aw (c 1),aw (c 2),aw (c 3)⟩,aw (c 4),aw (c 5),aw (c 6),j3 (c 7),aw (c 8)⟩
def ajU (v:KV):oB:=ajT fun k=>v.cells.getD k .bz
structure kQ where
 dn:ajR
 look:oB
instance:Inhabited kQ:=⟨⟨default,default⟩⟩
def ags (x:kQ):List KV:=[.int .u8 x.dn.e0,.int .u8 x.dn.e1,.int .u8 x.dn.e2,.int .u8 x.dn.e3,.int .u8 x.dn.e4,.int .u8 x.look.color.e0,.int .u8 x.look.color.e1,.int .u8 x.look.color.e2,.int .u8 x.look.color.e3,.int .i64 x.look.fN,.int .u8 x.look.sv,.int .i64 x.look.qQ,.bool x.look.oV,.int .i64 x.look.bin]
def ak5 (x:kQ):KV:=.agg (ags x)
def agt (c:Nat->KV):kQ:=⟨⟨aw (c 0),aw (c 1),aw (c 2),aw (c 3),aw (c 4)⟩,⟨⟨aw (c 5),aw (c 6),aw (c 7),aw (c 8)⟩,aw (c 9),aw (c 10),aw (c 11),j3 (c 12),aw (c 13)⟩⟩
def agu (v:KV):kQ:=agt fun k=>v.cells.getD k .bz
structure Node where
 kind:Int
 nB:HK
 Tl:Int
 lI:yh
 xw:(Sl Int)
 fR:Int
 cP:kQ
instance:Inhabited Node:=⟨by constructor<;>exact default⟩
def amQ (x:Node):List KV:=[.int .u8 x.kind,.int .i64 x.nB.m.e0.e0,.int .i64 x.nB.m.e0.e1,.int .i64 x.nB.m.e0.e2,.int .i64 x.nB.m.e1.e0,.int .i64 x.nB.m.e1.e1,.int .i64 x.nB.m.e1.e2,.int .i64 x.nB.m.e2.e0,.int .i64 x.nB.m.e2.e1,.int .i64 x.nB.m.e2.e2,.int .i64 x.nB.t.x,.int .i64 x.nB.t.y,.int .i64 x.nB.t.z,.int .u16 x.Tl,.int .i64 x.lI.x,.int .i64 x.lI.y,.int .i64 x.lI.z,dS 3 (kI .i64) x.xw,.int .i64 x.fR,.int .u8 x.cP.dn.e0,.int .u8 x.cP.dn.e1,.int .u8 x.cP.dn.e2,.int .u8 x.cP.dn.e3,.int .u8 x.cP.dn.e4,.int .u8 x.cP.look.color.e0,.int .u8 x.cP.look.color.e1,.int .u8 x.cP.look.color.e2,.int .u8 x.cP.look.color.e3,.int .i64 x.cP.look.fN,.int .u8 x.cP.look.sv,.int .i64 x.cP.look.qQ,.bool x.cP.look.oV,.int .i64 x.cP.look.bin]
def Ji (x:Node):KV:=.agg (amQ x)
def amR (c:Nat->KV):Node:=⟨aw (c 0),⟨⟨⟨aw (c 1),aw (c 2),aw (c 3)⟩,⟨aw (c 4),aw (c 5),aw (c 6)⟩,⟨aw (c 7),aw (c 8),aw (c 9)⟩⟩,⟨aw (c 10),aw (c 11),aw (c 12)⟩⟩,aw (c 13),⟨aw (c 14),aw (c 15),aw (c 16)⟩,eG aw (c 17),aw (c 18),⟨⟨aw (c 19),aw (c 20),aw (c 21),aw (c 22),aw (c 23)⟩,⟨⟨aw (c 24),aw (c 25),aw (c 26),aw (c 27)⟩,aw (c 28),aw (c 29),aw (c 30),j3 (c 31),aw (c 32)⟩⟩⟩
def D7 (v:KV):Node:=amR fun k=>v.cells.getD k .bz
structure wT where
 e0:Int
 e1:Int
instance:Inhabited wT:=⟨⟨default,default⟩⟩
def ajV (x:wT):List KV:=[.int .i64 x.e0,.int .i64 x.e1]
def Wf (x:wT):KV:=.agg (ajV x)
def ajW (c:Nat->KV):wT:=⟨aw (c 0),aw (c 1)⟩
def PL (v:KV):wT:=ajW fun k=>v.cells.getD k .bz
structure Prim where
 kind:Int
 index:(Sl Int)
instance:Inhabited Prim:=⟨⟨default,default⟩⟩
def ajX (x:Prim):List KV:=[.int .u8 x.kind,dS 3 (kI .i64) x.index]
def Wg (x:Prim):KV:=.agg (ajX x)
def ajY (c:Nat->KV):Prim:=⟨aw (c 0),eG aw (c 1)⟩
def Np (v:KV):Prim:=ajY fun k=>v.cells.getD k .bz
structure kE where
 nU:(Sl yh)
 uV:(Sl wT)
 fc:(Sl Prim)
instance:Inhabited kE:=⟨⟨default,default,default⟩⟩
def aap (x:kE):List KV:=[dS 43 agr x.nU,dS 185 Wf x.uV,dS 172 Wg x.fc]
def Wh (x:kE):KV:=.agg (aap x)
def aaq (c:Nat->KV):kE:=⟨eG Yy (c 0),eG PL (c 1),eG Np (c 2)⟩
def Jj (v:KV):kE:=aaq fun k=>v.cells.getD k .bz
structure kb where
 w:Int
 h:Int
 PM:(Sl Color)
instance:Inhabited kb:=⟨⟨default,default,default⟩⟩
def ahy (x:kb):List KV:=[.int .i64 x.w,.int .i64 x.h,dS 58 ak2 x.PM]
def Fb (x:kb):KV:=.agg (ahy x)
def ahz (c:Nat->KV):kb:=⟨aw (c 0),aw (c 1),eG ak4 (c 2)⟩
def yi (v:KV):kb:=ahz fun k=>v.cells.getD k .bz
structure aE where
 graph:gq
 nodes:(Sl Node)
 fE:(Sl kE)
 iR:(Sl kb)
 root:Handle
instance:Inhabited aE:=⟨⟨default,default,default,default,default⟩⟩
def yQ (x:aE):List KV:=[dS 111 V6 x.graph.b5.ct,dS 35 (dS 32 jJ) x.graph.kids,dS 77 Ji x.nodes,dS 88 Wh x.fE,dS 91 Fb x.iR,.int .i64 x.root.slot,.int .i64 x.root.gen]
def wU (x:aE):KV:=.agg (yQ x)
def yR (c:Nat->KV):aE:=⟨⟨⟨eG Rm (c 0)⟩,eG (eG jK) (c 1)⟩,eG D7 (c 2),eG Jj (c 3),eG yi (c 4),⟨aw (c 5),aw (c 6)⟩⟩
def mR (v:KV):aE:=yR fun k=>v.cells.getD k .bz
structure kF where
 t2:Bool
 n:Int
 many:(Sl Int)
 step:Int
 s:aE
instance:Inhabited kF:=⟨⟨default,default,default,default,default⟩⟩
def yj (x:kF):List KV:=[.bool x.t2,.int .i64 x.n,dS 3 (kI .i64) x.many,.int .i64 x.step]
def yk (x:kF):List (List KV):=[yQ x.s]
def Fe (vs:List KV) (rs:List (List KV)):kF:=⟨j3 (v9 vs 0),aw (v9 vs 1),eG aw (v9 vs 2),aw (v9 vs 3),yR (r9 rs 0)⟩
def Hg:aB:=⟨[(2,w9 b9),(3,w9 i9),(4,⟨false,[.arr 3]⟩),(5,w9 i9)],[(1,[n9 111,n9 35,n9 77,n9 88,n9 91,i9,i9],1)],[(1,0,0)]⟩
structure fS where
 t2:Bool
 n:Int
 many:(Sl Int)
 step:Int
 ew:(Sl Int)
 i:Int
 s:aE
instance:Inhabited fS:=⟨by constructor<;>exact default⟩
def u6 (x:fS):List KV:=[.bool x.t2,.int .i64 x.n,dS 3 (kI .i64) x.many,.int .i64 x.step,dS 3 (kI .i64) x.ew,.int .i64 x.i]
def u7 (x:fS):List (List KV):=[yQ x.s]
def Cc (vs:List KV) (rs:List (List KV)):fS:=⟨j3 (v9 vs 0),aw (v9 vs 1),eG aw (v9 vs 2),aw (v9 vs 3),eG aw (v9 vs 4),aw (v9 vs 5),yR (r9 rs 0)⟩
def Dh:aB:=⟨[(2,w9 b9),(3,w9 i9),(4,⟨false,[.arr 3]⟩),(5,w9 i9),(6,⟨false,[.arr 3]⟩),(7,w9 i9)],[(1,[n9 111,n9 35,n9 77,n9 88,n9 91,i9,i9],1)],[(1,0,0)]⟩
structure eH where
 t2:Bool
 n:Int
 many:(Sl Int)
 step:Int
 ew:(Sl Int)
 i:Int
 k:Int
 s:aE
instance:Inhabited eH:=⟨by constructor<;>exact default⟩
def ru (x:eH):List KV:=[.bool x.t2,.int .i64 x.n,dS 3 (kI .i64) x.many,.int .i64 x.step,dS 3 (kI .i64) x.ew,.int .i64 x.i,.int .i64 x.k]
def rv (x:eH):List (List KV):=[yQ x.s]
def xE (vs:List KV) (rs:List (List KV)):eH:=⟨j3 (v9 vs 0),aw (v9 vs 1),eG aw (v9 vs 2),aw (v9 vs 3),eG aw (v9 vs 4),aw (v9 vs 5),aw (v9 vs 6),yR (r9 rs 0)⟩
def zr:aB:=⟨[(2,w9 b9),(3,w9 i9),(4,⟨false,[.arr 3]⟩),(5,w9 i9),(6,⟨false,[.arr 3]⟩),(7,w9 i9),(8,w9 i9)],[(1,[n9 111,n9 35,n9 77,n9 88,n9 91,i9,i9],1)],[(1,0,0)]⟩
def HL:=GF [] [] 40 16403018 zr
def kd (x:eH):ba eH:=(cond (cond (ck x.ew.n x.ew.n) (ck x.many.n x.many.n) false) (.next ⟨x.t2,x.n,x.many,x.step,x.ew,x.i,(bB (x.k+1)),x.s⟩) .fail)
def fO (x:eH):ba eH:=(cond ((decide (0<=x.i))&&(decide (x.i < (x.s.graph.kids.n:Int)))) (cond (decide (x.k < ((x.s.graph.kids.get (Int.toNat x.i)).n:Int))) (cond (decide (x.k < 1000)) (cond ((decide (0<=x.i))&&(decide (x.i < (x.s.graph.kids.n:Int)))) (cond ((decide (0<=x.k))&&(decide (x.k < ((x.s.graph.kids.get (Int.toNat x.i)).n:Int)))) (cond (decide (((x.s.graph.kids.get (Int.toNat x.i)).get (Int.toNat x.k)).slot >= 0)) (cond (decide (((x.s.graph.kids.get (Int.toNat x.i)).get (Int.toNat x.k)).slot < x.n)) (cond ((decide (0<=x.i))&&(decide (x.i < (x.ew.n:Int)))) (cond ((decide (0<=((x.s.graph.kids.get (Int.toNat x.i)).get (Int.toNat x.k)).slot))&&(decide (((x.s.graph.kids.get (Int.toNat x.i)).get (Int.toNat x.k)).slot < (x.many.n:Int)))) (cond ((decide (0<=x.i))&&(decide (x.i < (x.ew.n:Int)))) (cond (cond (ck x.ew.n x.ew.n) (ck x.many.n x.many.n) false) (.next ⟨x.t2,x.n,x.many,x.step,(x.ew.set (0+(Int.toNat x.i)) (min (bB ((x.ew.get (0+(Int.toNat x.i)))+(x.many.get (0+(Int.toNat ((x.s.graph.kids.get (Int.toNat x.i)).get (Int.toNat x.k)).slot))))) 100000)),x.i,(bB (x.k+1)),x.s⟩) .fail) .fail) .fail) .fail)
     (kd x))
    (kd x)) .fail) .fail) (cond (cond (ck x.ew.n x.ew.n) (ck x.many.n x.many.n) false) (.out (az.aa.exit 4) x) .fail)) (cond (cond (ck x.ew.n x.ew.n) (ck x.many.n x.many.n) false) (.out (az.aa.exit 4) x) .fail)) .fail)
theorem Ff (x:eH):HL (ru x) (rv x)=ba.enc ru rv (fO x):=by
 unfold fO kd
 try simp only [ba.dt,acy]
 kernel_rfl
def oC:Lp:=⟨40,16403018,zr,fun vs rs=>eC ru rv (goN fO (xE vs rs)) [az.aa.exit 4],false⟩
theorem rz:oC.Ok PG:=zS av.nil bO.nil (pa:=xE) Ff
def Nq:=GF [] [oC] 40 64074 Dh
def aL (x:fS):=goN fO ⟨x.t2,x.n,x.many,x.step,(x.ew.set (0+(Int.toNat x.i)) 1),x.i,0,x.s⟩
def fZ (x:fS):ba fS:=(cond (decide (x.i < x.n)) (cond ((decide (0<=x.i))&&(decide (x.i < (x.ew.n:Int)))) (cond (cond (ck x.ew.n x.ew.n) (ck x.many.n x.many.n) false) (cond ((aL x).by (az.aa.exit 4)) (cond ((decide (0<=(aL x).st.i))&&(decide ((aL x).st.i < ((aL x).st.ew.n:Int)))) (cond (decide (((aL x).st.ew.get (0+(Int.toNat (aL x).st.i))) > 10000)) (cond (cond (ck (aL x).st.ew.n (aL x).st.ew.n) (ck (aL x).st.many.n (aL x).st.many.n) false) (.out az.aa.ret ⟨true,(aL x).st.n,(aL x).st.many,(aL x).st.step,(aL x).st.ew,(aL x).st.i,(aL x).st.s⟩) .fail) (cond (cond (ck (aL x).st.ew.n (aL x).st.ew.n) (ck (aL x).st.many.n (aL x).st.many.n) false) (.next ⟨(aL x).st.t2,(aL x).st.n,(aL x).st.many,(aL x).st.step,(aL x).st.ew,(bB ((aL x).st.i+1)),(aL x).st.s⟩) .fail)) .fail) .fail) .fail) .fail) (cond (cond (ck x.ew.n x.ew.n) (ck x.many.n x.many.n) false) (.out (az.aa.exit 2) x) .fail))
theorem Jk (x:fS):Nq (u6 x) (u7 x)=ba.enc u6 u7 (fZ x):=by
 unfold fZ
 try simp only [ba.dt,aL,acy]
 kernel_rfl
def wV:Lp:=⟨40,64074,Dh,fun vs rs=>eC u6 u7 (goN fZ (Cc vs rs)) [az.aa.exit 2,az.aa.ret],false⟩
theorem Cd:wV.Ok PG:=zS av.nil (rq rz bO.nil) (pa:=Cc) Jk
def Rs:=GF [] [oC,wV] 40 250 Hg
def cO (x:kF):=goN fZ ⟨x.t2,x.n,x.many,x.step,⟨(Int.toNat x.n),(fun i=>0)⟩,0,x.s⟩
def lz (x:kF):ba kF:=(cond (decide (x.step < 18)) (cond (((decide (0<=x.n))&&(decide (x.n<=x.n)))&&(Nat.ble (8 * (Int.toNat x.n)) 281474976710656)) (cond (cond (ck (Int.toNat x.n) (Int.toNat x.n)) (ck x.many.n x.many.n) false) (cond ((cO x).by (az.aa.exit 2)) (cond (ck (cO x).st.ew.n (cO x).st.ew.n) (.next ⟨(cO x).st.t2,(cO x).st.n,(cO x).st.ew,(bB ((cO x).st.step+1)),(cO x).st.s⟩) .fail) (cond ((cO x).by az.aa.ret) (cond (ck (cO x).st.many.n (cO x).st.many.n) (.out az.aa.ret ⟨(cO x).st.t2,(cO x).st.n,(cO x).st.many,(cO x).st.step,(cO x).st.s⟩) .fail) .fail)) .fail) .fail) (cond (ck x.many.n x.many.n) (.out (az.aa.exit 0) x) .fail))
theorem Nr (x:kF):Rs (yj x) (yk x)=ba.enc yj yk (lz x):=by
 unfold lz
 try simp only [ba.dt]
 kernel_rfl
def Hh:Lp:=⟨40,250,Hg,fun vs rs=>eC yj yk (goN lz (Fe vs rs)) [az.aa.exit 0,az.aa.ret],false⟩
theorem Rt:Hh.Ok PG:=zS av.nil (rq rz (rq Cd bO.nil)) (pa:=Fe) Nr
def yS (s:aE):=goN lz ⟨false,(s.graph.kids.n:Int),⟨(Int.toNat (s.graph.kids.n:Int)),(fun i=>0)⟩,0,s⟩
def vH (s:aE):Option (Bool):=(cond (decide ((s.graph.kids.n:Int) > 300)) (some (true)) (cond ((decide ((s.graph.kids.n:Int)<=(s.graph.kids.n:Int)))&&(Nat.ble (8 * (Int.toNat (s.graph.kids.n:Int))) 281474976710656)) (cond (ck (Int.toNat (s.graph.kids.n:Int)) (Int.toNat (s.graph.kids.n:Int))) (cond ((yS s).by (az.aa.exit 0)) (some (false)) (cond ((yS s).by az.aa.ret) (some ((yS s).st.t2)) none)) none) none))
theorem Xs (s:aE):AZ [] [oC,wV,Hh] 40 [wU s] = (vH s).map kB:=by
 unfold vH
 try simp only [cJ]
 kernel_rfl
def Di:List KV->KR KV:=cI PG 40 (cR kB fun vs=>vH (mR (v9 vs 0)))
theorem Ce:cA PG 40 Di:=gX av.nil (rq rz (rq Cd (rq Rt bO.nil))) fun w=>Xs (mR (g0 34 (w 0)))
structure mB where
 l:(Sl kb)
 t2:Bool
 n:Int
 i:Int
instance:Inhabited mB:=⟨⟨default,default,default,default⟩⟩
def yl (x:mB):List KV:=[dS 91 Fb x.l,.bool x.t2,.int .i64 x.n,.int .i64 x.i]
def ym (x:mB):List (List KV):=[]
def Fg (vs:List KV) (rs:List (List KV)):mB:=⟨eG yi (v9 vs 0),j3 (v9 vs 1),aw (v9 vs 2),aw (v9 vs 3)⟩
def Hi:aB:=⟨[(0,w9 (n9 91)),(2,w9 b9),(3,w9 i9),(4,w9 i9)],[],[]⟩
def Ru:=GF [] [] 42 58 Hi
def lA (x:mB):ba mB:=(cond (decide (x.i < (x.l.n:Int))) (cond (decide (x.i < 100)) (cond ((decide (0<=x.i))&&(decide (x.i < (x.l.n:Int)))) (.next ⟨x.l,x.t2,(bB (x.n+(min ((x.l.get (Int.toNat x.i)).PM.n:Int) 100000))),(bB (x.i+1))⟩) .fail) (.out (az.aa.exit 0) x)) (.out (az.aa.exit 0) x))
theorem Ns (x:mB):Ru (yl x) (ym x)=ba.enc yl ym (lA x):=by
 unfold lA
 try simp only [ba.dt]
 kernel_rfl
def Hj:Lp:=⟨42,58,Hi,fun vs rs=>eC yl ym (goN lA (Fg vs rs)) [az.aa.exit 0],false⟩
theorem Rv:Hj.Ok PG:=zS av.nil bO.nil (pa:=Fg) Ns
def wW (l:(Sl kb)):=goN lA ⟨l,false,0,0⟩
def oD (l:(Sl kb)):Option (Bool):=(cond ((wW l).by (az.aa.exit 0)) (cond (decide (((wW l).st.l.n:Int) > 40)) (some (true)) (some ((decide ((wW l).st.n > 20000))))) none)
theorem Wi (l:(Sl kb)):AZ [] [Hj] 42 [(dS 91 Fb) l] = (oD l).map kB:=by
 unfold oD
 try simp only [cJ]
 kernel_rfl
def A6:List KV->KR KV:=cI PG 42 (cR kB fun vs=>oD ((eG yi) (v9 vs 0)))
theorem zU:cA PG 42 A6:=gX av.nil (rq Rv bO.nil) fun w=>Wi ((eG yi) (g0 30 (w 0)))
structure kG where
 t2:Bool
 i:Int
 m:kE
instance:Inhabited kG:=⟨⟨default,default,default⟩⟩
def yn (x:kG):List KV:=[.bool x.t2,.int .i64 x.i]
def yo (x:kG):List (List KV):=[aap x.m]
def Fh (vs:List KV) (rs:List (List KV)):kG:=⟨j3 (v9 vs 0),aw (v9 vs 1),aaq (r9 rs 0)⟩
def Hk:aB:=⟨[(2,w9 b9),(3,w9 i9)],[(1,[n9 43,n9 185,n9 172],1)],[(1,0,0)]⟩
def Rw:=GF [] [] 43 58 Hk
def gu (x:kG):ba kG:=(cond (decide (x.i < (x.m.fc.n:Int))) (cond ((decide (0<=x.i))&&(decide (x.i < (x.m.fc.n:Int)))) (cond (decide (((x.m.fc.get (Int.toNat x.i)).index.n:Int) > 1000)) (.out az.aa.ret ⟨true,x.i,x.m⟩) (.next ⟨x.t2,(bB (x.i+1)),x.m⟩)) .fail) (.out (az.aa.exit 0) x))
theorem Nt (x:kG):Rw (yn x) (yo x)=ba.enc yn yo (gu x):=by
 unfold gu
 try simp only [ba.dt]
 kernel_rfl
def Hl:Lp:=⟨43,58,Hk,fun vs rs=>eC yn yo (goN gu (Fh vs rs)) [az.aa.exit 0,az.aa.ret],false⟩
theorem Rx:Hl.Ok PG:=zS av.nil bO.nil (pa:=Fh) Nt
def wX (m:kE):=goN gu ⟨false,0,m⟩
def qx (m:kE):Option (Bool):=(cond (decide ((m.nU.n:Int) > 1000)) (some (true)) (cond (decide ((m.uV.n:Int) > 1000)) (some (true)) (cond (decide ((m.fc.n:Int) > 100)) (some (true)) (cond ((wX m).by (az.aa.exit 0)) (some (false)) (cond ((wX m).by az.aa.ret) (some ((wX m).st.t2)) none)))))
theorem Wj (m:kE):AZ [] [Hl] 43 [Wh m] = (qx m).map kB:=by
 unfold qx
 try simp only [cJ]
 kernel_rfl
def A7:List KV->KR KV:=cI PG 43 (cR kB fun vs=>qx (Jj (v9 vs 0)))
theorem zV:cA PG 43 A7:=gX av.nil (rq Rx bO.nil) fun w=>Wj (Jj (g0 88 (w 0)))
structure jL where
 t2:Bool
 i:Int
 s:aE
instance:Inhabited jL:=⟨⟨default,default,default⟩⟩
def wY (x:jL):List KV:=[.bool x.t2,.int .i64 x.i]
def wZ (x:jL):List (List KV):=[yQ x.s]
def Dj (vs:List KV) (rs:List (List KV)):jL:=⟨j3 (v9 vs 0),aw (v9 vs 1),yR (r9 rs 0)⟩
def Fi:aB:=⟨[(2,w9 b9),(3,w9 i9)],[(1,[n9 111,n9 35,n9 77,n9 88,n9 91,i9,i9],1)],[(1,0,0)]⟩
def PN:=GF [(43,A7),(42,A6),(41,A5),(40,Di)] [] 12 122 Fi
def fF (x:jL):ba jL:=(cond (decide (x.i < (x.s.nodes.n:Int))) (cond ((decide (0<=x.i))&&(decide (x.i < (x.s.nodes.n:Int)))) (cond (decide (((x.s.nodes.get (Int.toNat x.i)).xw.n:Int) > 200)) (.out az.aa.ret ⟨true,x.i,x.s⟩) (.next ⟨x.t2,(bB (x.i+1)),x.s⟩)) .fail) (.out (az.aa.exit 0) x))
theorem KY (x:jL):PN (wY x) (wZ x)=ba.enc wY wZ (fF x):=by
 unfold fF
 try simp only [ba.dt]
 kernel_rfl
def yp:Lp:=⟨12,122,Fi,fun vs rs=>eC wY wZ (goN fF (Dj vs rs)) [az.aa.exit 0,az.aa.ret],false⟩
theorem Dk:yp.Ok PG:=zS (av.cons zV (av.cons zU (av.cons zT (av.cons Ce av.nil)))) bO.nil (pa:=Dj) KY
structure iU where
 t2:Bool
 i:Int
 s:aE
instance:Inhabited iU:=⟨⟨default,default,default⟩⟩
def w5 (x:iU):List KV:=[.bool x.t2,.int .i64 x.i]
def w6 (x:iU):List (List KV):=[yQ x.s]
def Dl (vs:List KV) (rs:List (List KV)):iU:=⟨j3 (v9 vs 0),aw (v9 vs 1),yR (r9 rs 0)⟩
def Fj:aB:=⟨[(2,w9 b9),(4,w9 i9)],[(1,[n9 111,n9 35,n9 77,n9 88,n9 91,i9,i9],1)],[(1,0,0)]⟩
def PO:=GF [(43,A7),(42,A6),(41,A5),(40,Di)] [yp] 12 250 Fj
def va (x:iU):=qx (x.s.fE.get (Int.toNat x.i))
def fG (x:iU):ba iU:=(cond (decide (x.i < (x.s.fE.n:Int))) (cond ((decide (0<=x.i))&&(decide (x.i < (x.s.fE.n:Int)))) (cond (va x).isSome (cond ((va x).getD default) (.out az.aa.ret ⟨true,x.i,x.s⟩) (.next ⟨x.t2,(bB (x.i+1)),x.s⟩)) .fail) .fail) (.out (az.aa.exit 2) x))
theorem K0 (x:iU):PO (w5 x) (w6 x)=ba.enc w5 w6 (fG x):=by
 unfold fG
 try simp only [ba.dt]
 kernel_rfl
def Fk:Lp:=⟨12,250,Fj,fun vs rs=>eC w5 w6 (goN fG (Dl vs rs)) [az.aa.exit 2,az.aa.ret],false⟩
theorem PQ:Fk.Ok PG:=zS (av.cons zV (av.cons zU (av.cons zT (av.cons Ce av.nil)))) (rq Dk bO.nil) (pa:=Dl) K0
def Cf (s:aE):=vH s
def Cg (s:aE):=oA s.graph
def Ch (s:aE):=oD s.iR
def pF (s:aE):=goN fF ⟨false,0,s⟩
def w7 (s:aE):=goN fG ⟨(pF s).st.t2,0,(pF s).st.s⟩
def s5 (s:aE):Option (Bool):=(cond (Cf s).isSome (cond ((Cf s).getD default) (some (true)) (cond (Cg s).isSome (cond ((Cg s).getD default) (some (true)) (cond (decide ((s.nodes.n:Int) > 200)) (some (true)) (cond (decide ((s.fE.n:Int) > 60)) (some (true)) (cond (decide ((s.iR.n:Int) > 60)) (some (true)) (cond (Ch s).isSome (cond ((Ch s).getD default) (some (true)) (cond ((pF s).by (az.aa.exit 0)) (cond ((w7 s).by (az.aa.exit 2)) (some (false)) (cond ((w7 s).by az.aa.ret) (some ((w7 s).st.t2)) none)) (cond ((pF s).by az.aa.ret) (some ((pF s).st.t2)) none))) none))))) none)) none)
theorem Wk (s:aE):AZ [(43,A7),(42,A6),(41,A5),(40,Di)] [yp,Fk] 12 [wU s] = (s5 s).map kB:=by
 unfold s5
 try simp only [cJ]
 kernel_rfl
def GH:List KV->KR KV:=cI PG 12 (cR kB fun vs=>s5 (mR (v9 vs 0)))
theorem Hm:cA PG 12 GH:=gX (av.cons zV (av.cons zU (av.cons zT (av.cons Ce av.nil)))) (rq Dk (rq PQ bO.nil)) fun w=>Wk (mR (g0 34 (w 0)))
def kl (l:oB):Option (Int):=(cond (decide (l.fN < (-(1:Int)))) (some (8)) (cond (decide (l.fN >= 16)) (some (8)) (cond (decide (l.sv > 2)) (some (8)) (cond (decide (l.qQ < (-(1024:Int)))) (some (8)) (cond (decide (l.qQ > 1024)) (some (8)) (cond (decide (l.bin < 0)) (some (8)) (cond (decide (l.bin > 15)) (some (8)) (some (0)))))))))
theorem HM (l:oB):Xq [] [] 137 [amP l] = (kl l).map (kI .i64):=by
 unfold kl
 try simp only [cJ]
 kernel_rfl
def tF:List KV->KR KV:=cI PG 137 (cR (kI .i64) fun vs=>kl (ajU (v9 vs 0)))
theorem w8:cA PG 137 tF:=gX av.nil bO.nil fun w=>HM (ajU (g0 60 (w 0)))
structure b6 where
 t2:Int
 t7:Int
 s:kQ
 said:oB
instance:Inhabited b6:=⟨⟨default,default,default,default⟩⟩
def o4 (x:b6):List KV:=[.int .i64 x.t2,.agg [.fn (.func 183) [] [],.fn (.func 184) [] [],.fn (.func 185) [] [],.fn (.func 186) [] [],.fn (.func 187) [] []],.int .i64 x.t7]
def o5 (x:b6):List (List KV):=[ags x.s,ajS x.said]
def Aq (vs:List KV) (rs:List (List KV)):b6:=⟨aw (v9 vs 0),aw (v9 vs 2),agt (r9 rs 0),ajT (r9 rs 1)⟩
def Ci:aB:=⟨[(2,w9 i9),(6,⟨true,[.lit (.fn (.func 183) [] []),.lit (.fn (.func 184) [] []),.lit (.fn (.func 185) [] []),.lit (.fn (.func 186) [] []),.lit (.fn (.func 187) [] [])]⟩),(7,w9 i9)],[(1,[u9,u9,u9,u9,u9,u9,u9,u9,u9,i9,u9,i9,b9,i9],1),(3,[u9,u9,u9,u9,i9,u9,i9,b9,i9],1)],[(1,0,0),(3,1,0)]⟩
def K3:=rk9 [(137,tF)] [] 80 58 Ci
def dK (x:b6):ba b6:=(.next ⟨x.t2,(bB (0+1)),x.s,⟨x.s.look.color,x.said.fN,x.said.sv,x.said.qQ,x.said.oV,x.said.bin⟩⟩)
def dL (x:b6):ba b6:=(.next ⟨x.t2,(bB (1+1)),x.s,⟨x.said.color,x.s.look.fN,x.said.sv,x.said.qQ,x.said.oV,x.said.bin⟩⟩)
def dM (x:b6):ba b6:=(.next ⟨x.t2,(bB (2+1)),x.s,⟨x.said.color,x.said.fN,x.s.look.sv,x.said.qQ,x.said.oV,x.said.bin⟩⟩)
def dN (x:b6):ba b6:=(.next ⟨x.t2,(bB (3+1)),x.s,⟨x.said.color,x.said.fN,x.said.sv,x.s.look.qQ,x.said.oV,x.said.bin⟩⟩)
def dP (x:b6):ba b6:=(.next ⟨x.t2,(bB (4+1)),x.s,⟨x.said.color,x.said.fN,x.said.sv,x.said.qQ,x.s.look.oV,x.s.look.bin⟩⟩)
def aW (x:b6):ba b6:=(cond (x.t7==0) (cond (x.s.dn.e0==0) (.next ⟨x.t2,(bB (0+1)),x.s,x.said⟩) (cond (x.s.dn.e0==1)
   (dK x) (cond (x.s.dn.e0==3)
   (dK x) (cond (x.s.dn.e0==5)
    (dK x) (cond (x.s.dn.e0==7)
    (dK x) (.out az.aa.ret ⟨8,0,x.s,x.said⟩)))))) (cond (x.t7==1) (cond (x.s.dn.e1==0) (.next ⟨x.t2,(bB (1+1)),x.s,x.said⟩) (cond (x.s.dn.e1==1)
   (dL x) (cond (x.s.dn.e1==3)
    (dL x) (cond (x.s.dn.e1==5)
    (dL x) (cond (x.s.dn.e1==7)
     (dL x) (.out az.aa.ret ⟨8,1,x.s,x.said⟩)))))) (cond (x.t7==2) (cond (x.s.dn.e2==0) (.next ⟨x.t2,(bB (2+1)),x.s,x.said⟩) (cond (x.s.dn.e2==1)
    (dM x) (cond (x.s.dn.e2==3)
    (dM x) (cond (x.s.dn.e2==5)
     (dM x) (cond (x.s.dn.e2==7)
     (dM x) (.out az.aa.ret ⟨8,2,x.s,x.said⟩)))))) (cond (x.t7==3) (cond (x.s.dn.e3==0) (.next ⟨x.t2,(bB (3+1)),x.s,x.said⟩) (cond (x.s.dn.e3==1)
    (dN x) (cond (x.s.dn.e3==3)
     (dN x) (cond (x.s.dn.e3==5)
     (dN x) (cond (x.s.dn.e3==7)
      (dN x) (.out az.aa.ret ⟨8,3,x.s,x.said⟩)))))) (cond (x.t7==4) (cond (x.s.dn.e4==0) (.next ⟨x.t2,(bB (4+1)),x.s,x.said⟩) (cond (x.s.dn.e4==1)
     (dP x) (cond (x.s.dn.e4==3)
     (dP x) (cond (x.s.dn.e4==5)
      (dP x) (cond (x.s.dn.e4==7)
      (dP x) (.out az.aa.ret ⟨8,4,x.s,x.said⟩)))))) (cond (x.t7==5) (.out (az.aa.exit 0) ⟨x.t2,5,x.s,x.said⟩) .fail))))))
theorem HO (x:b6):aW x = .fail\/K3 (o4 x) (o5 x)=ba.enc o4 o5 (aW x):=by
 obtain ⟨t2,t7,s,said⟩:=x
 exact (ba.lit (fun h=>by subst h; (try simp only [ba.dt]); kernel_rfl) (ba.lit (fun h=>by subst h; (try simp only [ba.dt]); kernel_rfl) (ba.lit (fun h=>by subst h; (try simp only [ba.dt]); kernel_rfl) (ba.lit (fun h=>by subst h; (try simp only [ba.dt]); kernel_rfl) (ba.lit (fun h=>by subst h; (try simp only [ba.dt]); kernel_rfl) (ba.lit (fun h=>by subst h; (try simp only [ba.dt]); kernel_rfl) (.inl rfl)))))))
def Cj:Lp:=⟨80,58,Ci,fun vs rs=>eC o4 o5 (goN aW (Aq vs rs)) [az.aa.exit 0,az.aa.ret],false⟩
theorem K5:Cj.Ok PG:=aaf funcs mixed (av.cons w8 av.nil) bO.nil (L:=9) (n:=9) (step:=aW) (ev:=o4) (er:=o5) (pa:=Aq) rfl (fun wv wr=>⟨by kernel_rfl,by kernel_rfl⟩) HO
def bP (s:kQ):=goN aW ⟨0,0,s,⟨⟨0,0,0,0⟩,0,0,0,false,0⟩⟩
def xa (s:kQ):=kl (bP s).st.s.look
def nY (s:kQ):Option (Int):=(cond ((bP s).by (az.aa.exit 0)) (cond (!(((bP s).st.said.color.e0==(bP s).st.s.look.color.e0)&&(((bP s).st.said.color.e1==(bP s).st.s.look.color.e1)&&(((bP s).st.said.color.e2==(bP s).st.s.look.color.e2)&&(((bP s).st.said.color.e3==(bP s).st.s.look.color.e3)&&(((bP s).st.said.fN==(bP s).st.s.look.fN)&&(((bP s).st.said.sv==(bP s).st.s.look.sv)&&(((bP s).st.said.qQ==(bP s).st.s.look.qQ)&&(((bP s).st.said.oV==(bP s).st.s.look.oV)&&(((bP s).st.said.bin==(bP s).st.s.look.bin)&&true)))))))))) (some (8)) (cond (xa s).isSome (some (((xa s).getD default))) none)) (cond ((bP s).by az.aa.ret) (some ((bP s).st.t2)) none))
theorem PR (s:kQ):Xq [(137,tF)] [Cj] 80 [ak5 s] = (nY s).map (kI .i64):=by
 unfold nY
 try simp only [cJ]
 kernel_rfl
def Hn:List KV->KR KV:=cI PG 80 (cR (kI .i64) fun vs=>nY (agu (v9 vs 0)))
theorem Nu:cA PG 80 Hn:=gX (av.cons w8 av.nil) (rq K5 bO.nil) fun w=>PR (agu (g0 75 (w 0)))
def pG (n:Int) (cE:Int):Option (Bool):=(cond (decide (n >= (bB (0 - cE)))) (some ((decide (n<=cE)))) (some (false)))
theorem Ry (n:Int) (cE:Int):AZ [] [] 114 [(kI .i64) n,(kI .i64) cE] = (pG n cE).map kB:=by
 unfold pG
 try simp only [cJ]
 kernel_rfl
def Jl:List KV->KR KV:=cI PG 114 (cR kB fun vs=>pG (aw (v9 vs 0)) (aw (v9 vs 1)))
theorem PS:cA PG 114 Jl:=gX av.nil bO.nil fun w=>Ry (aw (g0 3 (w 0))) (aw (g0 3 (w 1)))
def Ck (v:yh):=pG v.x 1024
def Cm (v:yh):=pG v.y 1024
def Cn (v:yh):=pG v.z 1024
def yq (v:yh):Option (Bool):=(cond (Ck v).isSome (cond (!((Ck v).getD default)) (some (true)) (cond (Cm v).isSome (cond (!((Cm v).getD default)) (some (true)) (cond (Cn v).isSome (some ((!((Cn v).getD default)))) none)) none)) none)
theorem Nv (v:yh):AZ [(114,Jl)] [] 113 [agr v] = (yq v).map kB:=by
 unfold yq
 try simp only [cJ]
 kernel_rfl
def s9:List KV->KR KV:=cI PG 113 (cR kB fun vs=>yq (Yy (v9 vs 0)))
theorem tG:cA PG 113 s9:=gX (av.cons PS av.nil) bO.nil fun w=>Nv (Yy (g0 43 (w 0)))
def yr (p:wT):Option (Bool):=(cond (decide (p.e0 < 0)) (some (true)) (cond (decide (p.e0 > 255)) (some (true)) (cond (decide (p.e1 < 0)) (some (true)) (some ((decide (p.e1 > 255)))))))
theorem Nw (p:wT):AZ [] [] 115 [Wf p] = (yr p).map kB:=by
 unfold yr
 try simp only [cJ]
 kernel_rfl
def ta:List KV->KR KV:=cI PG 115 (cR kB fun vs=>yr (PL (v9 vs 0)))
theorem tH:cA PG 115 ta:=gX av.nil bO.nil fun w=>Nw (PL (g0 185 (w 0)))
def uD (p:Prim):Option (Bool):=(cond ((p.index.n:Int)==0) (some (true)) (some ((decide ((p.index.n:Int) >= 3)))))
def te (p:Prim):Option (Bool):=(cond (p.kind==0) (some (((Int.tmod (p.index.n:Int) 3)==0))) (cond (p.kind==1)
  (uD p) (cond (p.kind==2)
   (uD p) (some (false)))))
theorem Wl (p:Prim):AZ [] [] 209 [Wg p] = (te p).map kB:=by
 unfold te uD
 try simp only [cJ]
 kernel_rfl
def GI:List KV->KR KV:=cI PG 209 (cR kB fun vs=>te (Np (v9 vs 0)))
theorem Ho:cA PG 209 GI:=gX av.nil bO.nil fun w=>Wl (Np (g0 172 (w 0)))
structure dB where
 t2:(Sl ie)
 t3:Int
 out:(Sl ie)
 l:(Sl Int)
 i:Int
 p:Prim
instance:Inhabited dB:=⟨by constructor<;>exact default⟩
def xb (x:dB):List KV:=[dS 40 nA x.t2,.int .i64 x.t3,dS 40 nA x.out,dS 3 (kI .i64) x.l,.int .i64 x.i]
def xc (x:dB):List (List KV):=[ajX x.p]
def Dm (vs:List KV) (rs:List (List KV)):dB:=⟨eG ud (v9 vs 0),aw (v9 vs 1),eG ud (v9 vs 2),eG aw (v9 vs 3),aw (v9 vs 4),ajY (r9 rs 0)⟩
def Fl:aB:=⟨[(2,w9 (n9 40)),(3,w9 i9),(4,⟨false,[.aF 40]⟩),(5,w9 (n9 3)),(6,w9 i9)],[(1,[u9,n9 3],1)],[(1,0,0)]⟩
def PT:=GF [(209,GI)] [] 171 250 Fl
def mS (x:dB):ba dB:=(cond ((decide (0<=x.i))&&(decide (x.i < (x.l.n:Int)))) (cond ((decide (0<=(bB (x.i+1))))&&(decide ((bB (x.i+1)) < (x.l.n:Int)))) (cond ((decide (0<=(bB (x.i+2))))&&(decide ((bB (x.i+2)) < (x.l.n:Int)))) (cond ((ck x.out.n x.out.n)&&(mv 24 x.out.n 1)) (cond (ck (x.out.n+1) (x.out.n+1)) (.next ⟨x.t2,x.t3,(x.out.push ⟨(x.l.get (Int.toNat x.i)),(x.l.get (Int.toNat (bB (x.i+1)))),(x.l.get (Int.toNat (bB (x.i+2))))⟩),x.l,(bB (x.i+1)),x.p⟩) .fail) .fail) .fail) .fail) .fail)
def mT (x:dB):ba dB:=(cond (x.p.kind==1) (cond ((decide (0<=(bB (x.i+1))))&&(decide ((bB (x.i+1)) < (x.l.n:Int)))) (cond ((decide (0<=x.i))&&(decide (x.i < (x.l.n:Int)))) (cond ((decide (0<=(bB (x.i+2))))&&(decide ((bB (x.i+2)) < (x.l.n:Int)))) (cond ((ck x.out.n x.out.n)&&(mv 24 x.out.n 1)) (cond (ck (x.out.n+1) (x.out.n+1)) (.next ⟨x.t2,x.t3,(x.out.push ⟨(x.l.get (Int.toNat (bB (x.i+1)))),(x.l.get (Int.toNat x.i)),(x.l.get (Int.toNat (bB (x.i+2))))⟩),x.l,(bB (x.i+1)),x.p⟩) .fail) .fail) .fail) .fail) .fail) (cond (x.p.kind==2) (cond (decide (0 < (x.l.n:Int))) (cond ((decide (0<=(bB (x.i+1))))&&(decide ((bB (x.i+1)) < (x.l.n:Int)))) (cond ((decide (0<=(bB (x.i+2))))&&(decide ((bB (x.i+2)) < (x.l.n:Int)))) (cond ((ck x.out.n x.out.n)&&(mv 24 x.out.n 1)) (cond (ck (x.out.n+1) (x.out.n+1)) (.next ⟨x.t2,x.t3,(x.out.push ⟨(x.l.get 0),(x.l.get (Int.toNat (bB (x.i+1)))),(x.l.get (Int.toNat (bB (x.i+2))))⟩),x.l,(bB (x.i+1)),x.p⟩) .fail) .fail) .fail) .fail) .fail) (cond (ck x.out.n x.out.n) (.next ⟨x.t2,x.t3,x.out,x.l,(bB (x.i+1)),x.p⟩) .fail)))
def mU (x:dB):ba dB:=(cond (x.p.kind==1) (cond ((Int.tmod x.i 2)==0)
  (mS x)
  (mT x))
  (mT x))
def jf (x:dB):ba dB:=(cond (decide ((bB (x.i+2)) < (x.l.n:Int))) (cond (x.p.kind==0) (cond ((Int.tmod x.i 3)==0)
   (mS x)
   (mU x))
  (mU x)) (cond (ck x.out.n x.out.n) (.out (az.aa.exit 1) x) .fail))
theorem K6 (x:dB):PT (xb x) (xc x)=ba.enc xb xc (jf x):=by
 unfold jf mU mT mS
 try simp only [ba.dt,aan]
 kernel_rfl
def Fm:Lp:=⟨171,250,Fl,fun vs rs=>eC xb xc (goN jf (Dm vs rs)) [az.aa.exit 1],false⟩
theorem PU:Fm.Ok PG:=zS (av.cons Ho av.nil) bO.nil (pa:=Dm) K6
def Cp (p:Prim):=te p
def Cq (p:Prim):=goN jf ⟨⟨0,(fun i=>⟨0,0,0⟩)⟩,0,⟨0,(fun i=>⟨0,0,0⟩)⟩,p.index,0,p⟩
def tf (p:Prim):Option ((Sl ie)×Int):=(cond (decide (p.kind > 2)) (some (⟨0,(fun i=>⟨0,0,0⟩)⟩,2)) (cond (decide ((p.index.n:Int) > 200)) (some (⟨0,(fun i=>⟨0,0,0⟩)⟩,4)) (cond (Cp p).isSome (cond (!((Cp p).getD default)) (some (⟨0,(fun i=>⟨0,0,0⟩)⟩,40)) (cond ((Cq p).by (az.aa.exit 1)) (some ((Cq p).st.out,0)) none)) none)))
theorem Wm (p:Prim):AZ [(209,GI)] [Fm] 171 [Wg p] = (tf p).map (fun (r:(Sl ie)×Int)=>KV.ng [(dS 40 nA) r.1,(kI .i64) r.2]):=by
 unfold tf
 try simp only [cJ]
 kernel_rfl
def A8:List KV->KR KV:=cI PG 171 (cR (fun (r:(Sl ie)×Int)=>KV.ng [(dS 40 nA) r.1,(kI .i64) r.2]) fun vs=>tf (Np (v9 vs 0)))
theorem zW:cA PG 171 A8:=gX (av.cons Ho av.nil) (rq PU bO.nil) fun w=>Wm (Np (g0 172 (w 0)))
structure eW where
 t2:(Sl ie)
 t3:Bool
 out:(Sl ie)
 t12:(Sl Prim)
 t13:Int
 t14:Int
 m:kE
instance:Inhabited eW:=⟨by constructor<;>exact default⟩
def yu (x:eW):List KV:=[dS 40 nA x.t2,.bool x.t3,dS 40 nA x.out,dS 172 Wg x.t12,.int .i64 x.t13,.int .i64 x.t14]
def yv (x:eW):List (List KV):=[aap x.m]
def Fo (vs:List KV) (rs:List (List KV)):eW:=⟨eG ud (v9 vs 0),j3 (v9 vs 1),eG ud (v9 vs 2),eG Np (v9 vs 3),aw (v9 vs 4),aw (v9 vs 5),aaq (r9 rs 0)⟩
def Hp:aB:=⟨[(2,w9 (n9 40)),(3,w9 b9),(4,⟨false,[.aF 40]⟩),(12,w9 (n9 172)),(13,w9 i9),(14,w9 i9)],[(1,[n9 43,n9 185,n9 172],1)],[(1,0,0)]⟩
structure eA where
 t2:(Sl ie)
 t3:Bool
 out:(Sl ie)
 t12:(Sl Prim)
 t13:Int
 t14:Int
 t34:(Sl Int)
 t35:Int
 t36:Int
 m:kE
instance:Inhabited eA:=⟨by constructor<;>exact default⟩
def sA (x:eA):List KV:=[dS 40 nA x.t2,.bool x.t3,dS 40 nA x.out,dS 172 Wg x.t12,.int .i64 x.t13,.int .i64 x.t14,dS 3 (kI .i64) x.t34,.int .i64 x.t35,.int .i64 x.t36]
def sB (x:eA):List (List KV):=[aap x.m]
def zt (vs:List KV) (rs:List (List KV)):eA:=⟨eG ud (v9 vs 0),j3 (v9 vs 1),eG ud (v9 vs 2),eG Np (v9 vs 3),aw (v9 vs 4),aw (v9 vs 5),eG aw (v9 vs 6),aw (v9 vs 7),aw (v9 vs 8),aaq (r9 rs 0)⟩
def Ar:aB:=⟨[(2,w9 (n9 40)),(3,w9 b9),(4,⟨false,[.aF 40]⟩),(12,w9 (n9 172)),(13,w9 i9),(14,w9 i9),(34,w9 (n9 3)),(35,w9 i9),(36,w9 i9)],[(1,[n9 43,n9 185,n9 172],1)],[(1,0,0)]⟩
def Jm:=GF [(171,A8)] [] 118 119614 Ar
def ja (x:eA):ba eA:=(cond (ck x.out.n x.out.n) (.out az.aa.ret ⟨⟨0,(fun i=>⟨0,0,0⟩)⟩,false,x.out,x.t12,x.t13,x.t14,x.t34,x.t35,x.t36,x.m⟩) .fail)
def eD (x:eA):ba eA:=(cond (decide (x.t36 < x.t35)) (cond ((decide (0<=x.t36))&&(decide (x.t36 < (x.t34.n:Int)))) (cond (decide ((x.t34.get (Int.toNat x.t36)) < 0))
   (ja x) (cond (decide ((x.t34.get (Int.toNat x.t36)) >= (x.m.nU.n:Int)))
   (ja x) (cond (ck x.out.n x.out.n) (.next ⟨x.t2,x.t3,x.out,x.t12,x.t13,x.t14,x.t34,x.t35,(bB (x.t36+1)),x.m⟩) .fail))) .fail) (cond (ck x.out.n x.out.n) (.out (az.aa.exit 2) x) .fail))
theorem GJ (x:eA):Jm (sA x) (sB x)=ba.enc sA sB (eD x):=by
 unfold eD ja
 try simp only [ba.dt]
 kernel_rfl
def tI:Lp:=⟨118,119614,Ar,fun vs rs=>eC sA sB (goN eD (zt vs rs)) [az.aa.exit 2,az.aa.ret],false⟩
theorem zu:tI.Ok PG:=zS (av.cons zW av.nil) bO.nil (pa:=zt) GJ
def Rz:=GF [(171,A8)] [tI] 118 58 Hp
def fe (x:eW):=tf (x.t12.get (Int.toNat x.t14))
def bS (x:eW):=goN eD ⟨x.t2,x.t3,(x.out.join ((fe x).getD default).fst),x.t12,x.t13,x.t14,(x.t12.get (Int.toNat x.t14)).index,((x.t12.get (Int.toNat x.t14)).index.n:Int),0,x.m⟩
def nI (x:eW):ba eW:=(cond (ck (x.out.n+((fe x).getD default).fst.n) (x.out.n+((fe x).getD default).fst.n)) (.out az.aa.ret ⟨⟨0,(fun i=>⟨0,0,0⟩)⟩,false,(x.out.join ((fe x).getD default).fst),x.t12,x.t13,x.t14,x.m⟩) .fail)
def lB (x:eW):ba eW:=(cond (decide (x.t14 < x.t13)) (cond ((decide (0<=x.t14))&&(decide (x.t14 < (x.t12.n:Int)))) (cond (fe x).isSome (cond ((ck x.out.n x.out.n)&&(mv 24 x.out.n ((fe x).getD default).fst.n)) (cond (((fe x).getD default).snd != 0)
    (nI x) (cond (decide ((((x.out.n+((fe x).getD default).fst.n):Nat):Int) > 64))
    (nI x) (cond (ck (x.out.n+((fe x).getD default).fst.n) (x.out.n+((fe x).getD default).fst.n)) (cond ((bS x).by (az.aa.exit 2)) (cond (ck (bS x).st.out.n (bS x).st.out.n) (.next ⟨(bS x).st.t2,(bS x).st.t3,(bS x).st.out,(bS x).st.t12,(bS x).st.t13,(bB ((bS x).st.t14+1)),(bS x).st.m⟩) .fail) (cond ((bS x).by az.aa.ret) (cond (ck (bS x).st.out.n (bS x).st.out.n) (.out az.aa.ret ⟨(bS x).st.t2,(bS x).st.t3,(bS x).st.out,(bS x).st.t12,(bS x).st.t13,(bS x).st.t14,(bS x).st.m⟩) .fail) .fail)) .fail))) .fail) .fail) .fail) (cond (ck x.out.n x.out.n) (.out (az.aa.exit 0) x) .fail))
theorem Nx (x:eW):Rz (yu x) (yv x)=ba.enc yu yv (lB x):=by
 unfold lB nI
 try simp only [ba.dt,bS,aao]
 kernel_rfl
def Hq:Lp:=⟨118,58,Hp,fun vs rs=>eC yu yv (goN lB (Fo vs rs)) [az.aa.exit 0,az.aa.ret],false⟩
theorem RA:Hq.Ok PG:=zS (av.cons zW av.nil) (rq zu bO.nil) (pa:=Fo) Nx
def pH (m:kE):=goN lB ⟨⟨0,(fun i=>⟨0,0,0⟩)⟩,false,⟨0,(fun i=>⟨0,0,0⟩)⟩,m.fc,(m.fc.n:Int),0,m⟩
def tg (m:kE):Option ((Sl ie)×Bool):=(cond ((pH m).by (az.aa.exit 0)) (some ((pH m).st.out,true)) (cond ((pH m).by az.aa.ret) (some ((pH m).st.t2,(pH m).st.t3)) none))
theorem Wn (m:kE):AZ [(171,A8)] [tI,Hq] 118 [Wh m] = (tg m).map (fun (r:(Sl ie)×Bool)=>KV.ng [(dS 40 nA) r.1,kB r.2]):=by
 unfold tg
 try simp only [cJ]
 kernel_rfl
def A9:List KV->KR KV:=cI PG 118 (cR (fun (r:(Sl ie)×Bool)=>KV.ng [(dS 40 nA) r.1,kB r.2]) fun vs=>tg (Jj (v9 vs 0)))
theorem zX:cA PG 118 A9:=gX (av.cons zW av.nil) (rq zu (rq RA bO.nil)) fun w=>Wn (Jj (g0 88 (w 0)))
structure bC where
 s:(Sl yh)
 t4:Int
 t7:Int
 t8:Int
instance:Inhabited bC:=⟨⟨default,default,default,default⟩⟩
def gJ (x:bC):List KV:=[dS 43 agr x.s,.fn (.func 113) [] [],.int .i64 x.t4,.int .i64 x.t7,.int .i64 x.t8]
def gK (x:bC):List (List KV):=[]
def kH (vs:List KV) (rs:List (List KV)):bC:=⟨eG Yy (v9 vs 0),aw (v9 vs 2),aw (v9 vs 3),aw (v9 vs 4)⟩
def kW:aB:=⟨[(0,w9 (n9 43)),(1,⟨false,[.lit (.fn (.func 113) [] [])]⟩),(4,w9 i9),(7,w9 i9),(8,w9 i9)],[],[]⟩
def qR:=GF [(118,A9),(115,ta),(113,s9)] [] 169 26 kW
def bm (x:bC):ba bC:=(cond (decide (x.t8 < x.t7)) (cond ((decide (0<=x.t8))&&(decide (x.t8 < (x.s.n:Int)))) (cond (decide ((x.s.get (Int.toNat x.t8)).x >= (-(1024:Int)))) (cond (!(decide ((x.s.get (Int.toNat x.t8)).x<=1024))) (.out az.aa.ret ⟨x.s,x.t8,x.t7,x.t8⟩) (cond (decide ((x.s.get (Int.toNat x.t8)).y >= (-(1024:Int)))) (cond (!(decide ((x.s.get (Int.toNat x.t8)).y<=1024))) (.out az.aa.ret ⟨x.s,x.t8,x.t7,x.t8⟩) (cond (decide ((x.s.get (Int.toNat x.t8)).z >= (-(1024:Int)))) (cond (!(decide ((x.s.get (Int.toNat x.t8)).z<=1024))) (.out az.aa.ret ⟨x.s,x.t8,x.t7,x.t8⟩) (.next ⟨x.s,x.t4,x.t7,(bB (x.t8+1))⟩)) (.out az.aa.ret ⟨x.s,x.t8,x.t7,x.t8⟩))) (.out az.aa.ret ⟨x.s,x.t8,x.t7,x.t8⟩))) (.out az.aa.ret ⟨x.s,x.t8,x.t7,x.t8⟩)) .fail) (.out (az.aa.exit 0) x))
theorem pR (x:bC):qR (gJ x) (gK x)=ba.enc gJ gK (bm x):=by
 unfold bm
 try simp only [ba.dt]
 kernel_rfl
def gY:Lp:=⟨169,26,kW,fun vs rs=>eC gJ gK (goN bm (kH vs rs)) [az.aa.exit 0,az.aa.ret],false⟩
theorem kJ:gY.Ok PG:=zS (av.cons zX (av.cons tH (av.cons tG av.nil))) bO.nil (pa:=kH) pR
structure bD where
 s:(Sl wT)
 t4:Int
 t7:Int
 t8:Int
instance:Inhabited bD:=⟨⟨default,default,default,default⟩⟩
def gL (x:bD):List KV:=[dS 185 Wf x.s,.fn (.func 115) [] [],.int .i64 x.t4,.int .i64 x.t7,.int .i64 x.t8]
def gM (x:bD):List (List KV):=[]
def kK (vs:List KV) (rs:List (List KV)):bD:=⟨eG PL (v9 vs 0),aw (v9 vs 2),aw (v9 vs 3),aw (v9 vs 4)⟩
def kX:aB:=⟨[(0,w9 (n9 185)),(1,⟨false,[.lit (.fn (.func 115) [] [])]⟩),(4,w9 i9),(7,w9 i9),(8,w9 i9)],[],[]⟩
def qS:=GF [(118,A9),(115,ta),(113,s9)] [gY] 170 26 kX
def bo (x:bD):ba bD:=(cond (decide (x.t8 < x.t7)) (cond ((decide (0<=x.t8))&&(decide (x.t8 < (x.s.n:Int)))) (cond (decide ((x.s.get (Int.toNat x.t8)).e0 < 0)) (.out az.aa.ret ⟨x.s,x.t8,x.t7,x.t8⟩) (cond (decide ((x.s.get (Int.toNat x.t8)).e0 > 255)) (.out az.aa.ret ⟨x.s,x.t8,x.t7,x.t8⟩) (cond (decide ((x.s.get (Int.toNat x.t8)).e1 < 0)) (.out az.aa.ret ⟨x.s,x.t8,x.t7,x.t8⟩) (cond (decide ((x.s.get (Int.toNat x.t8)).e1 > 255)) (.out az.aa.ret ⟨x.s,x.t8,x.t7,x.t8⟩) (.next ⟨x.s,x.t4,x.t7,(bB (x.t8+1))⟩))))) .fail) (.out (az.aa.exit 0) x))
theorem pS (x:bD):qS (gL x) (gM x)=ba.enc gL gM (bo x):=by
 unfold bo
 try simp only [ba.dt]
 kernel_rfl
def kY:Lp:=⟨170,26,kX,fun vs rs=>eC gL gM (goN bo (kK vs rs)) [az.aa.exit 0,az.aa.ret],false⟩
theorem qT:kY.Ok PG:=zS (av.cons zX (av.cons tH (av.cons tG av.nil))) (rq kJ bO.nil) (pa:=kK) pS
def uE (m:kE):=goN bm ⟨m.nU,0,(m.nU.n:Int),0⟩
def uF (m:kE):=goN bo ⟨m.uV,0,(m.uV.n:Int),0⟩
def zY (m:kE):=tg m
def th (m:kE):Option (Int):=(cond (zY m).isSome (cond (!((zY m).getD default).snd) (some (40)) (some (0))) none)
def ti (m:kE):Option (Int):=(cond ((uF m).by (az.aa.exit 0))
  (th m) (cond ((uF m).by az.aa.ret) (cond (decide ((uF m).st.t4 >= 0)) (some (40))
   (th m)) none))
def rb (m:kE):Option (Int):=(cond (decide ((m.nU.n:Int) > 64)) (some (4)) (cond (decide ((m.uV.n:Int) > 64)) (some (4)) (cond (decide ((m.fc.n:Int) > 16)) (some (4)) (cond ((m.uV.n:Int) != (m.nU.n:Int)) (some (40)) (cond ((uE m).by (az.aa.exit 0))
    (ti m) (cond ((uE m).by az.aa.ret) (cond (decide ((uE m).st.t4 >= 0)) (some (40))
     (ti m)) none))))))
theorem Tn (m:kE):AZ [(118,A9),(115,ta),(113,s9)] [gY,kY] 70 [Wh m] = (rb m).map (kI .i64):=by
 unfold rb ti th
 try simp only [cJ]
 kernel_rfl
def ue:List KV->KR KV:=cI PG 70 (cR (kI .i64) fun vs=>rb (Jj (v9 vs 0)))
theorem tj:cA PG 70 ue:=gX (av.cons zX (av.cons tH (av.cons tG av.nil))) (rq kJ (rq qT bO.nil)) fun w=>Tn (Jj (g0 88 (w 0)))
def mC (n:Int):Option (Bool):=(cond (decide (n > 0)) (some ((decide (n<=16)))) (some (false)))
theorem PV (n:Int):AZ [] [] 119 [(kI .i64) n] = (mC n).map kB:=by
 unfold mC
 try simp only [cJ]
 kernel_rfl
def Hr:List KV->KR KV:=cI PG 119 (cR kB fun vs=>mC (aw (v9 vs 0)))
theorem Ny:cA PG 119 Hr:=gX av.nil bO.nil fun w=>PV (aw (g0 3 (w 0)))
def vd (t:kb):=mC t.w
def ve (t:kb):=mC t.h
def ni (t:kb):Option (Int):=(cond (vd t).isSome (cond (!((vd t).getD default)) (some (8)) (cond (ve t).isSome (cond (!((ve t).getD default)) (some (8)) (cond ((t.PM.n:Int) != (bB (t.w * t.h))) (some (8)) (some (0)))) none)) none)
theorem Nz (t:kb):AZ [(119,Hr)] [] 72 [Fb t] = (ni t).map (kI .i64):=by
 unfold ni
 try simp only [cJ]
 kernel_rfl
def pI:List KV->KR KV:=cI PG 72 (cR (kI .i64) fun vs=>ni (yi (v9 vs 0)))
theorem o6:cA PG 72 pI:=gX (av.cons Ny av.nil) bO.nil fun w=>Nz (yi (g0 91 (w 0)))
structure mV where
 cE:Int
 t4:Bool
 t7:(Sl Int)
 t8:Int
 t9:Int
instance:Inhabited mV:=⟨⟨default,default,default,default,default⟩⟩
def D8 (x:mV):List KV:=[.int .i64 x.cE,.bool x.t4,dS 3 (kI .i64) x.t7,.int .i64 x.t8,.int .i64 x.t9]
def D9 (x:mV):List (List KV):=[]
def LQ (vs:List KV) (rs:List (List KV)):mV:=⟨aw (v9 vs 0),j3 (v9 vs 1),eG aw (v9 vs 2),aw (v9 vs 3),aw (v9 vs 4)⟩
def PW:aB:=⟨[(0,w9 i9),(4,w9 b9),(7,w9 (n9 3)),(8,w9 i9),(9,w9 i9)],[],[]⟩
def Xt:=GF [] [] 182 26 PW
def nZ (x:mV):ba mV:=(cond (decide (x.t9 < x.t8)) (cond ((decide (0<=x.t9))&&(decide (x.t9 < (x.t7.n:Int)))) (cond (decide ((x.t7.get (Int.toNat x.t9)) < (bB (0 - x.cE)))) (.out az.aa.ret ⟨x.cE,false,x.t7,x.t8,x.t9⟩) (cond (decide ((x.t7.get (Int.toNat x.t9)) > x.cE)) (.out az.aa.ret ⟨x.cE,false,x.t7,x.t8,x.t9⟩) (.next ⟨x.cE,x.t4,x.t7,x.t8,(bB (x.t9+1))⟩))) .fail) (.out (az.aa.exit 0) x))
theorem Tp (x:mV):Xt (D8 x) (D9 x)=ba.enc D8 D9 (nZ x):=by
 unfold nZ
 try simp only [ba.dt]
 kernel_rfl
def PX:Lp:=⟨182,26,PW,fun vs rs=>eC D8 D9 (goN nZ (LQ vs rs)) [az.aa.exit 0,az.aa.ret],false⟩
theorem Xu:PX.Ok PG:=zS av.nil bO.nil (pa:=LQ) Tp
def Dn (cE:Int) (l:(Sl Int)):=goN nZ ⟨cE,false,l,(l.n:Int),0⟩
def Bl (cE:Int) (l:(Sl Int)):Option (Bool):=(cond ((Dn cE l).by (az.aa.exit 0)) (some (true)) (cond ((Dn cE l).by az.aa.ret) (some ((Dn cE l).st.t4)) none))
theorem acS (cE:Int) (l:(Sl Int)):AZ [] [PX] 182 [(kI .i64) cE,(dS 3 (kI .i64)) l] = (Bl cE l).map kB:=by
 unfold Bl
 try simp only [cJ]
 kernel_rfl
def Yz:List KV->KR KV:=cI PG 182 (cR kB fun vs=>Bl (aw (v9 vs 0)) ((eG aw) (v9 vs 1)))
theorem aar:cA PG 182 Yz:=gX av.nil (rq Xu bO.nil) fun w=>acS (aw (g0 3 (w 0))) ((eG aw) (g0 36 (w 1)))
def vI (m:fM):Option (Bool):=(cond (decide (m.e0.e0 < (-(1024:Int)))) (some (false)) (cond (decide (m.e0.e0 > 1024)) (some (false)) (cond (decide (m.e0.e1 < (-(1024:Int)))) (some (false)) (cond (decide (m.e0.e1 > 1024)) (some (false)) (cond (decide (m.e0.e2 < (-(1024:Int)))) (some (false)) (cond (decide (m.e0.e2 > 1024)) (some (false)) (cond (decide (m.e1.e0 < (-(1024:Int)))) (some (false)) (cond (decide (m.e1.e0 > 1024)) (some (false)) (cond (decide (m.e1.e1 < (-(1024:Int)))) (some (false)) (cond (decide (m.e1.e1 > 1024)) (some (false)) (cond (decide (m.e1.e2 < (-(1024:Int)))) (some (false)) (cond (decide (m.e1.e2 > 1024)) (some (false)) (cond (decide (m.e2.e0 < (-(1024:Int)))) (some (false)) (cond (decide (m.e2.e0 > 1024)) (some (false)) (cond (decide (m.e2.e1 < (-(1024:Int)))) (some (false)) (cond (decide (m.e2.e1 > 1024)) (some (false)) (cond (decide (m.e2.e2 < (-(1024:Int)))) (some (false)) (cond (decide (m.e2.e2 > 1024)) (some (false)) (some (true))))))))))))))))))))
theorem Xv (m:fM):AZ [] [] 181 [acQ m] = (vI m).map kB:=by
 unfold vI
 try simp only [cJ]
 kernel_rfl
def SP:List KV->KR KV:=cI PG 181 (cR kB fun vs=>vI (SN (v9 vs 0)))
theorem Wo:cA PG 181 SP:=gX av.nil bO.nil fun w=>Xv (SN (g0 41 (w 0)))
def xd (v:yh):=Bl 4096 (Sl.lit [v.x,v.y,v.z])
def qy (v:yh):Option (Int):=(cond (xd v).isSome (cond (!((xd v).getD default)) (some (20)) (some (0))) none)
theorem Wp (v:yh):AZ [(182,Yz)] [] 134 [agr v] = (qy v).map (kI .i64):=by
 unfold qy
 try simp only [cJ,xd,acz]
 kernel_rfl
def GK:List KV->KR KV:=cI PG 134 (cR (kI .i64) fun vs=>qy (Yy (v9 vs 0)))
theorem Hs:cA PG 134 GK:=gX (av.cons aar av.nil) bO.nil fun w=>Wp (Yy (g0 43 (w 0)))
def xf (m:HK):=vI m.m
def xg (m:HK):=qy m.t
def n3 (m:HK):Option (Int):=(cond (xf m).isSome (cond (!((xf m).getD default)) (some (20)) (cond (xg m).isSome (some (((xg m).getD default))) none)) none)
theorem PY (m:HK):AZ [(134,GK),(181,SP)] [] 133 [an6 m] = (n3 m).map (kI .i64):=by
 unfold n3
 try simp only [cJ]
 kernel_rfl
def Ht:List KV->KR KV:=cI PG 133 (cR (kI .i64) fun vs=>n3 (al4 (v9 vs 0)))
theorem NA:cA PG 133 Ht:=gX (av.cons Hs (av.cons Wo av.nil)) bO.nil fun w=>PY (al4 (g0 45 (w 0)))
structure lY where
 l:(Sl Int)
 t2:Bool
 last:Int
 t6:(Sl Int)
 t7:Int
 t8:Int
instance:Inhabited lY:=⟨by constructor<;>exact default⟩
def zZ (x:lY):List KV:=[dS 3 (kI .i64) x.l,.bool x.t2,.int .i64 x.last,dS 3 (kI .i64) x.t6,.int .i64 x.t7,.int .i64 x.t8]
def z6 (x:lY):List (List KV):=[]
def Hu (vs:List KV) (rs:List (List KV)):lY:=⟨eG aw (v9 vs 0),j3 (v9 vs 1),aw (v9 vs 2),eG aw (v9 vs 3),aw (v9 vs 4),aw (v9 vs 5)⟩
def Jn:aB:=⟨[(0,w9 (n9 3)),(2,w9 b9),(3,w9 i9),(6,w9 (n9 3)),(7,w9 i9),(8,w9 i9)],[],[]⟩
def Tq:=GF [] [] 135 58 Jn
def ig (x:lY):ba lY:=(cond (decide (x.t8 < x.t7)) (cond ((decide (0<=x.t8))&&(decide (x.t8 < (x.t6.n:Int)))) (cond (decide ((x.t6.get (Int.toNat x.t8)) < x.last)) (.out az.aa.ret ⟨x.l,false,x.last,x.t6,x.t7,x.t8⟩) (cond (decide ((x.t6.get (Int.toNat x.t8)) > 8192)) (.out az.aa.ret ⟨x.l,false,x.last,x.t6,x.t7,x.t8⟩) (.next ⟨x.l,x.t2,(x.t6.get (Int.toNat x.t8)),x.t6,x.t7,(bB (x.t8+1))⟩))) .fail) (.out (az.aa.exit 0) x))
theorem PZ (x:lY):Tq (zZ x) (z6 x)=ba.enc zZ z6 (ig x):=by
 unfold ig
 try simp only [ba.dt]
 kernel_rfl
def Jo:Lp:=⟨135,58,Jn,fun vs rs=>eC zZ z6 (goN ig (Hu vs rs)) [az.aa.exit 0,az.aa.ret],false⟩
theorem Tr:Jo.Ok PG:=zS av.nil bO.nil (pa:=Hu) PZ
def uf (l:(Sl Int)):=goN ig ⟨l,false,0,l,(l.n:Int),0⟩
def vJ (l:(Sl Int)):Option (Bool):=(cond ((uf l).by (az.aa.exit 0)) (some ((decide (((uf l).st.l.n:Int)<=16)))) (cond ((uf l).by az.aa.ret) (some ((uf l).st.t2)) none))
theorem Xw (l:(Sl Int)):AZ [] [Jo] 135 [(dS 3 (kI .i64)) l] = (vJ l).map kB:=by
 unfold vJ
 try simp only [cJ]
 kernel_rfl
def SQ:List KV->KR KV:=cI PG 135 (cR kB fun vs=>vJ ((eG aw) (v9 vs 0)))
theorem Wq:cA PG 135 SQ:=gX av.nil (rq Tr bO.nil) fun w=>Xw ((eG aw) (g0 36 (w 0)))
def z7 (n:Node):=n3 n.nB
def z8 (n:Node):=qy n.lI
def Aa (n:Node):=vJ n.xw
def rf (n:Node):Option (Node×Bool):=(cond (n.kind==1) (some (⟨n.kind,⟨⟨⟨0,0,0⟩,⟨0,0,0⟩,⟨0,0,0⟩⟩,⟨0,0,0⟩⟩,0,⟨0,0,0⟩,⟨0,(fun i=>0)⟩,0,n.cP⟩,true)) (cond (n.kind==2) (cond (z7 n).isSome (some (⟨n.kind,n.nB,0,⟨0,0,0⟩,⟨0,(fun i=>0)⟩,0,n.cP⟩,(((z7 n).getD default)==0))) none) (cond (n.kind==3) (some (⟨n.kind,⟨⟨⟨0,0,0⟩,⟨0,0,0⟩,⟨0,0,0⟩⟩,⟨0,0,0⟩⟩,n.Tl,⟨0,0,0⟩,⟨0,(fun i=>0)⟩,0,n.cP⟩,true)) (cond (n.kind==4) (cond (z8 n).isSome (cond (((z8 n).getD default)==0) (cond (Aa n).isSome (some (⟨n.kind,⟨⟨⟨0,0,0⟩,⟨0,0,0⟩,⟨0,0,0⟩⟩,⟨0,0,0⟩⟩,0,n.lI,n.xw,0,n.cP⟩,((Aa n).getD default))) none) (some (⟨n.kind,⟨⟨⟨0,0,0⟩,⟨0,0,0⟩,⟨0,0,0⟩⟩,⟨0,0,0⟩⟩,0,n.lI,n.xw,0,n.cP⟩,false))) none) (cond (n.kind==5) (some (⟨n.kind,⟨⟨⟨0,0,0⟩,⟨0,0,0⟩,⟨0,0,0⟩⟩,⟨0,0,0⟩⟩,0,⟨0,0,0⟩,⟨0,(fun i=>0)⟩,n.fR,n.cP⟩,true)) (some (⟨n.kind,⟨⟨⟨0,0,0⟩,⟨0,0,0⟩,⟨0,0,0⟩⟩,⟨0,0,0⟩⟩,0,⟨0,0,0⟩,⟨0,(fun i=>0)⟩,0,n.cP⟩,false)))))))
theorem Ts (n:Node):AZ [(135,SQ),(134,GK),(133,Ht)] [] 79 [Ji n] = (rf n).map (fun (r:Node×Bool)=>KV.ng [Ji r.1,kB r.2]):=by
 unfold rf
 try simp only [cJ]
 kernel_rfl
def LR:List KV->KR KV:=cI PG 79 (cR (fun (r:Node×Bool)=>KV.ng [Ji r.1,kB r.2]) fun vs=>rf (D7 (v9 vs 0)))
theorem RB:cA PG 79 LR:=gX (av.cons Wq (av.cons Hs (av.cons NA av.nil))) bO.nil fun w=>Ts (D7 (g0 77 (w 0)))
structure ff where
 s1:(Sl Int)
 s2:(Sl Int)
 t4:Bool
 t12:Int
 t13:Int
instance:Inhabited ff:=⟨⟨default,default,default,default,default⟩⟩
def pJ (x:ff):List KV:=[dS 3 (kI .i64) x.s1,dS 3 (kI .i64) x.s2,.bool x.t4,.int .i64 x.t12,.int .i64 x.t13]
def pK (x:ff):List (List KV):=[]
def vK (vs:List KV) (rs:List (List KV)):ff:=⟨eG aw (v9 vs 0),eG aw (v9 vs 1),j3 (v9 vs 2),aw (v9 vs 3),aw (v9 vs 4)⟩
def xh:aB:=⟨[(0,w9 (n9 3)),(1,w9 (n9 3)),(4,w9 b9),(12,w9 i9),(13,w9 i9)],[],[]⟩
def Fp:=GF [] [] 127 58 xh
def dy (x:ff):ba ff:=(cond (decide (x.t13 < x.t12)) (cond ((decide (0<=x.t13))&&(decide (x.t13 < (x.s1.n:Int)))) (cond ((decide (0<=x.t13))&&(decide (x.t13 < (x.s2.n:Int)))) (cond ((x.s1.get (Int.toNat x.t13)) != (x.s2.get (Int.toNat x.t13))) (.out az.aa.ret ⟨x.s1,x.s2,false,x.t12,x.t13⟩) (.next ⟨x.s1,x.s2,x.t4,x.t12,(bB (x.t13+1))⟩)) .fail) .fail) (.out (az.aa.exit 0) x))
theorem CJ (x:ff):Fp (pJ x) (pK x)=ba.enc pJ pK (dy x):=by
 unfold dy
 try simp only [ba.dt]
 kernel_rfl
def xi:Lp:=⟨127,58,xh,fun vs rs=>eC pJ pK (goN dy (vK vs rs)) [az.aa.exit 0,az.aa.ret],false⟩
theorem Fq:xi.Ok PG:=zS av.nil bO.nil (pa:=vK) CJ
def nJ (s1:(Sl Int)) (s2:(Sl Int)):=goN dy ⟨s1,s2,false,(s1.n:Int),0⟩
def ko (s1:(Sl Int)) (s2:(Sl Int)):Option (Bool):=(cond ((s1.n:Int) != (s2.n:Int)) (some (false)) (cond ((nJ s1 s2).by (az.aa.exit 0)) (some (true)) (cond ((nJ s1 s2).by az.aa.ret) (some ((nJ s1 s2).st.t4)) none)))
theorem HP (s1:(Sl Int)) (s2:(Sl Int)):AZ [] [xi] 127 [(dS 3 (kI .i64)) s1,(dS 3 (kI .i64)) s2] = (ko s1 s2).map kB:=by
 unfold ko
 try simp only [cJ]
 kernel_rfl
def Au:List KV->KR KV:=cI PG 127 (cR kB fun vs=>ko ((eG aw) (v9 vs 0)) ((eG aw) (v9 vs 1)))
theorem GL:cA PG 127 Au:=gX av.nil (rq Fq bO.nil) fun w=>HP ((eG aw) (g0 36 (w 0))) ((eG aw) (g0 36 (w 1)))
def Cr (a:Node) (b:Node):=ko a.xw b.xw
def qz (a:Node) (b:Node):Option (Bool):=(cond (a.kind==b.kind) (cond ((a.nB.m.e0.e0==b.nB.m.e0.e0)&&((a.nB.m.e0.e1==b.nB.m.e0.e1)&&((a.nB.m.e0.e2==b.nB.m.e0.e2)&&((a.nB.m.e1.e0==b.nB.m.e1.e0)&&((a.nB.m.e1.e1==b.nB.m.e1.e1)&&((a.nB.m.e1.e2==b.nB.m.e1.e2)&&((a.nB.m.e2.e0==b.nB.m.e2.e0)&&((a.nB.m.e2.e1==b.nB.m.e2.e1)&&((a.nB.m.e2.e2==b.nB.m.e2.e2)&&((a.nB.t.x==b.nB.t.x)&&((a.nB.t.y==b.nB.t.y)&&((a.nB.t.z==b.nB.t.z)&&true)))))))))))) (cond (a.Tl==b.Tl) (cond ((a.lI.x==b.lI.x)&&((a.lI.y==b.lI.y)&&((a.lI.z==b.lI.z)&&true))) (cond (Cr a b).isSome (cond ((Cr a b).getD default) (cond (a.fR==b.fR) (some (((a.cP.dn.e0==b.cP.dn.e0)&&((a.cP.dn.e1==b.cP.dn.e1)&&((a.cP.dn.e2==b.cP.dn.e2)&&((a.cP.dn.e3==b.cP.dn.e3)&&((a.cP.dn.e4==b.cP.dn.e4)&&((a.cP.look.color.e0==b.cP.look.color.e0)&&((a.cP.look.color.e1==b.cP.look.color.e1)&&((a.cP.look.color.e2==b.cP.look.color.e2)&&((a.cP.look.color.e3==b.cP.look.color.e3)&&((a.cP.look.fN==b.cP.look.fN)&&((a.cP.look.sv==b.cP.look.sv)&&((a.cP.look.qQ==b.cP.look.qQ)&&((a.cP.look.oV==b.cP.look.oV)&&((a.cP.look.bin==b.cP.look.bin)&&true)))))))))))))))) (some (false))) (some (false))) none) (some (false))) (some (false))) (some (false))) (some (false)))
theorem Wr (a:Node) (b:Node):AZ [(127,Au)] [] 76 [Ji a,Ji b] = (qz a b).map kB:=by
 unfold qz
 try simp only [cJ]
 kernel_rfl
def tl:List KV->KR KV:=cI PG 76 (cR kB fun vs=>qz (D7 (v9 vs 0)) (D7 (v9 vs 1)))
theorem qU:cA PG 76 tl:=gX (av.cons GL av.nil) bO.nil fun w=>Wr (D7 (g0 77 (w 0))) (D7 (g0 77 (w 1)))
def o7 (s:aE) (n:Node):=rf n
def tJ (s:aE) (n:Node):=qz ((o7 s n).getD default).fst n
def tK (s:aE) (n:Node):=nY n.cP
def oE (s:aE) (n:Node):Option (Int):=(cond (n.cP.dn.e1 != 0) (cond (decide (n.cP.look.fN >= (s.iR.n:Int))) (some (8)) (some (0))) (some (0)))
def mn (s:aE) (n:Node):Option (Int):=(cond (o7 s n).isSome (cond (!((o7 s n).getD default).snd) (some (8)) (cond (tJ s n).isSome (cond (!((tJ s n).getD default)) (some (8)) (cond (tK s n).isSome (cond (((tK s n).getD default) != 0) (some (8)) (cond (n.kind==5) (cond (decide (n.fR < 0)) (some (8)) (cond (decide (n.fR >= (s.fE.n:Int))) (some (8))
      (oE s n)))
     (oE s n))) none)) none)) none)
theorem K7 (s:aE) (n:Node):AZ [(80,Hn),(76,tl),(79,LR)] [] 27 [wU s,Ji n] = (mn s n).map (kI .i64):=by
 unfold mn oE
 try simp only [cJ]
 kernel_rfl
def oG:List KV->KR KV:=cI PG 27 (cR (kI .i64) fun vs=>mn (mR (v9 vs 0)) (D7 (v9 vs 1)))
theorem oH:cA PG 27 oG:=gX (av.cons Nu (av.cons qU (av.cons RB av.nil))) bO.nil fun w=>K7 (mR (g0 34 (w 0))) (D7 (g0 77 (w 1)))
structure bf where
 s:(Sl kE)
 t4:Int
 t7:Int
 t8:Int
instance:Inhabited bf:=⟨⟨default,default,default,default⟩⟩
def gN (x:bf):List KV:=[dS 88 Wh x.s,.fn (.func 69) [] [],.int .i64 x.t4,.int .i64 x.t7,.int .i64 x.t8]
def gP (x:bf):List (List KV):=[]
def kL (vs:List KV) (rs:List (List KV)):bf:=⟨eG Jj (v9 vs 0),aw (v9 vs 2),aw (v9 vs 3),aw (v9 vs 4)⟩
def kZ:aB:=⟨[(0,w9 (n9 88)),(1,⟨false,[.lit (.fn (.func 69) [] [])]⟩),(4,w9 i9),(7,w9 i9),(8,w9 i9)],[],[]⟩
def qV:=GF [(77,ss),(27,oG),(76,tl),(73,su),(72,pI),(70,ue)] [] 125 26 kZ
def gw (x:bf):=rb (x.s.get (Int.toNat x.t8))
def bp (x:bf):ba bf:=(cond (decide (x.t8 < x.t7)) (cond ((decide (0<=x.t8))&&(decide (x.t8 < (x.s.n:Int)))) (cond (gw x).isSome (cond (((gw x).getD default) != 0) (.out az.aa.ret ⟨x.s,x.t8,x.t7,x.t8⟩) (.next ⟨x.s,x.t4,x.t7,(bB (x.t8+1))⟩)) .fail) .fail) (.out (az.aa.exit 0) x))
theorem pT (x:bf):qV (gN x) (gP x)=ba.enc gN gP (bp x):=by
 unfold bp
 try simp only [ba.dt]
 kernel_rfl
def eP:Lp:=⟨125,26,kZ,fun vs rs=>eC gN gP (goN bp (kL vs rs)) [az.aa.exit 0,az.aa.ret],false⟩
theorem gQ:eP.Ok PG:=zS (av.cons oz (av.cons oH (av.cons qU (av.cons rP (av.cons o6 (av.cons tj av.nil)))))) bO.nil (pa:=kL) pT
structure bh where
 s:(Sl kb)
 t4:Int
 t7:Int
 t8:Int
instance:Inhabited bh:=⟨⟨default,default,default,default⟩⟩
def gR (x:bh):List KV:=[dS 91 Fb x.s,.fn (.func 71) [] [],.int .i64 x.t4,.int .i64 x.t7,.int .i64 x.t8]
def gS (x:bh):List (List KV):=[]
def kM (vs:List KV) (rs:List (List KV)):bh:=⟨eG yi (v9 vs 0),aw (v9 vs 2),aw (v9 vs 3),aw (v9 vs 4)⟩
def k7:aB:=⟨[(0,w9 (n9 91)),(1,⟨false,[.lit (.fn (.func 71) [] [])]⟩),(4,w9 i9),(7,w9 i9),(8,w9 i9)],[],[]⟩
def qW:=GF [(77,ss),(27,oG),(76,tl),(73,su),(72,pI),(70,ue)] [eP] 126 26 k7
def gx (x:bh):=ni (x.s.get (Int.toNat x.t8))
def bq (x:bh):ba bh:=(cond (decide (x.t8 < x.t7)) (cond ((decide (0<=x.t8))&&(decide (x.t8 < (x.s.n:Int)))) (cond (gx x).isSome (cond (((gx x).getD default) != 0) (.out az.aa.ret ⟨x.s,x.t8,x.t7,x.t8⟩) (.next ⟨x.s,x.t4,x.t7,(bB (x.t8+1))⟩)) .fail) .fail) (.out (az.aa.exit 0) x))
theorem pU (x:bh):qW (gR x) (gS x)=ba.enc gR gS (bq x):=by
 unfold bq
 try simp only [ba.dt]
 kernel_rfl
def gZ:Lp:=⟨126,26,k7,fun vs rs=>eC gR gS (goN bq (kM vs rs)) [az.aa.exit 0,az.aa.ret],false⟩
theorem kN:gZ.Ok PG:=zS (av.cons oz (av.cons oH (av.cons qU (av.cons rP (av.cons o6 (av.cons tj av.nil)))))) (rq gQ bO.nil) (pa:=kM) pU
structure ef where
 t2:Int
 t46:(Sl Node)
 t47:Int
 t48:Int
 s:aE
instance:Inhabited ef:=⟨⟨default,default,default,default,default⟩⟩
def vf (x:ef):List KV:=[.int .i64 x.t2,dS 77 Ji x.t46,.int .i64 x.t47,.int .i64 x.t48]
def vg (x:ef):List (List KV):=[yQ x.s]
def Cs (vs:List KV) (rs:List (List KV)):ef:=⟨aw (v9 vs 0),eG D7 (v9 vs 1),aw (v9 vs 2),aw (v9 vs 3),yR (r9 rs 0)⟩
def Dp:aB:=⟨[(2,w9 i9),(46,w9 (n9 77)),(47,w9 i9),(48,w9 i9)],[(1,[n9 111,n9 35,n9 77,n9 88,n9 91,i9,i9],1)],[(1,0,0)]⟩
def NB:=GF [(77,ss),(27,oG),(76,tl),(73,su),(72,pI),(70,ue)] [eP,gZ] 25 250 Dp
def tL (x:ef):=qz (x.t46.get (Int.toNat x.t48)) ⟨0,⟨⟨⟨0,0,0⟩,⟨0,0,0⟩,⟨0,0,0⟩⟩,⟨0,0,0⟩⟩,0,⟨0,0,0⟩,⟨0,(fun i=>0)⟩,0,⟨⟨0,0,0,0,0⟩,⟨⟨0,0,0,0⟩,0,0,0,false,0⟩⟩⟩
def tM (x:ef):=mn x.s (x.t46.get (Int.toNat x.t48))
def jM (x:ef):ba ef:=(cond ((decide (0<=x.t48))&&(decide (x.t48 < (x.s.graph.b5.ct.n:Int)))) (cond (x.s.graph.b5.ct.get (Int.toNat x.t48)).live (cond (tM x).isSome (cond (((tM x).getD default) != 0) (.out az.aa.ret ⟨8,x.t46,x.t47,x.t48,x.s⟩) (cond ((x.t46.get (Int.toNat x.t48)).kind==5) (cond ((decide (0<=x.t48))&&(decide (x.t48 < (x.s.graph.kids.n:Int)))) (cond (decide (((x.s.graph.kids.get (Int.toNat x.t48)).n:Int) > 0)) (.out az.aa.ret ⟨8,x.t46,x.t47,x.t48,x.s⟩) (.next ⟨x.t2,x.t46,x.t47,(bB (x.t48+1)),x.s⟩)) .fail) (.next ⟨x.t2,x.t46,x.t47,(bB (x.t48+1)),x.s⟩))) .fail) (.next ⟨x.t2,x.t46,x.t47,(bB (x.t48+1)),x.s⟩)) .fail)
def fg (x:ef):ba ef:=(cond (decide (x.t48 < x.t47)) (cond ((decide (0<=x.t48))&&(decide (x.t48 < (x.t46.n:Int)))) (cond ((decide (0<=x.t48))&&(decide (x.t48 < (x.s.graph.b5.ct.n:Int)))) (cond (!(x.s.graph.b5.ct.get (Int.toNat x.t48)).live) (cond (tL x).isSome (cond (!((tL x).getD default)) (.out az.aa.ret ⟨8,x.t46,x.t47,x.t48,x.s⟩)
    (jM x)) .fail)
   (jM x)) .fail) .fail) (.out (az.aa.exit 0) x))
theorem Jp (x:ef):NB (vf x) (vg x)=ba.enc vf vg (fg x):=by
 unfold fg jM
 try simp only [ba.dt]
 kernel_rfl
def Dq:Lp:=⟨25,250,Dp,fun vs rs=>eC vf vg (goN fg (Cs vs rs)) [az.aa.exit 0,az.aa.ret],false⟩
theorem NC:Dq.Ok PG:=zS (av.cons oz (av.cons oH (av.cons qU (av.cons rP (av.cons o6 (av.cons tj av.nil)))))) (rq gQ (rq kN bO.nil)) (pa:=Cs) Jp
def Ab (s:aE):=Cb s.graph
def uG (s:aE):=goN bp ⟨s.fE,0,(s.fE.n:Int),0⟩
def uH (s:aE):=goN bq ⟨s.iR,0,(s.iR.n:Int),0⟩
def kO (s:aE):=goN fg ⟨0,s.nodes,(s.nodes.n:Int),0,s⟩
def Ac (s:aE):=de (kO s).st.s.graph.b5 (kO s).st.s.root
def tq (s:aE):Option (Int):=(cond ((kO s).by (az.aa.exit 0)) (cond (!(((kO s).st.s.root.slot==0)&&(((kO s).st.s.root.gen==0)&&true))) (cond (Ac s).isSome (cond (!((Ac s).getD default)) (some (8)) (some (0))) none) (some (0))) (cond ((kO s).by az.aa.ret) (some ((kO s).st.t2)) none))
def tr (s:aE):Option (Int):=(cond (decide ((s.iR.n:Int) > 16)) (some (8)) (cond ((uH s).by (az.aa.exit 0))
  (tq s) (cond ((uH s).by az.aa.ret) (cond (decide ((uH s).st.t4 >= 0)) (some (8))
   (tq s)) none)))
def lJ (s:aE):Option (Int):=(cond (Ab s).isSome (cond (((Ab s).getD default) != 0) (some (8)) (cond ((s.nodes.n:Int) != (s.graph.kids.n:Int)) (some (8)) (cond (decide ((s.fE.n:Int) > 32)) (some (8)) (cond ((uG s).by (az.aa.exit 0))
    (tr s) (cond ((uG s).by az.aa.ret) (cond (decide ((uG s).st.t4 >= 0)) (some (8))
     (tr s)) none))))) none)
theorem Tt (s:aE):AZ [(77,ss),(27,oG),(76,tl),(73,su),(72,pI),(70,ue)] [Dq,eP,gZ] 25 [wU s] = (lJ s).map (kI .i64):=by
 unfold lJ tr tq
 try simp only [cJ]
 kernel_rfl
def ug:List KV->KR KV:=cI PG 25 (cR (kI .i64) fun vs=>lJ (mR (v9 vs 0)))
theorem tt:cA PG 25 ug:=gX (av.cons oz (av.cons oH (av.cons qU (av.cons rP (av.cons o6 (av.cons tj av.nil)))))) (rq NC (rq gQ (rq kN bO.nil))) fun w=>Tt (mR (g0 34 (w 0)))
def Dr:List (Nat×(List KV->KR KV)):=[]
def Dt:List Lp:=[]
theorem K8:av Tryz.prog Dr:=av.nil
theorem K9:bO Tryz.prog Dt:=bO.nil
def yw (s:(Sl Int)):Option ((Sl Int)):=(cond (Nat.blt 0 s.n) (cond ((Nat.blt 0 s.n)&&(mv 8 0 s.n)) (some (((Sl.lit []).join s))) none) none)
theorem ND (s:(Sl Int)):x8 Tryz.prog (mA Tryz.prog Dr Dt (fun _=>false)) 9 9 98 [(dS 3 (kI .i64)) s] = (yw s).map (dS 3 (kI .i64)):=by
 unfold yw
 try simp only [cJ,ahu,acz,ajG]
 kernel_rfl
def RC:List KV->KR KV:=cI Tryz.prog 98 (cR (dS 3 (kI .i64)) fun vs=>yw ((eG aw) (vs.getD 0 .bz)))
theorem Av (w:Nat->KV):pz Tryz.prog [36] w 0 = [(dS 3 (kI .i64)) ((eG aw) (gW Tryz.prog (bU Tryz.prog df) 36 (w 0)))]:=by kernel_rfl
theorem Lb:cA Tryz.prog 98 RC:=SI funcs mixed K8 K9 (L:=9) (n:=9) fun w=>by
 have e:bL Tryz.prog 98 = [36]:=by kernel_rfl
 rw [e,Av]
 exact (ND ((eG aw) (gW Tryz.prog (bU Tryz.prog df) 36 (w 0)))).trans (by kernel_rfl)
end
end Go.Proofs.YtckbdndhmcoihaaGreat.b
end
section
namespace Go.K
open Go Go.az
variable {P:Program} {E:Env}
theorem ahA {t e:TypeId} {i:TypeInfo} (h:P.underlying t=some (.slice e)) (hi:P.info? e=some i) (b:Addr) (a:Option Addr) (c:Nat) (w:World):(Builtin.append_ #[t,t] t #[.slice (some b) 0 0,.slice a 0 c]).run P w = .ok (.slice (some b) 0 0) w:=by
 cases a <;> simp [Builtin.append_,az.aV h,sizeOf,typeInfo,hi,Builtin.lenOf,Builtin.firstCells,loadCells,loadCellsFrom,storeCells]
structure YA (P:Program) (g:FuncId) (e:TypeId):Prop where
 nil:∀ c w,Calls P g #[.slice none 0 c] w fun r w'=>r = .returned (.slice none 0 0)/\w' = w
 some:∀ a c w,Calls P g #[.slice (some a) 0 c] w fun r w'=>r = .returned (.slice (some ⟨w.heap.size,0,none⟩) 0 0)/\w' = w.alloc (.cells #[] e)
def zv {α:Type} (b:Nat) (s:Sl α):Option (Sl α):=cond (mv b 0 s.n) (some s) none
theorem Sl.ahB {α:Type} [Inhabited α] (s:Sl α):(Sl.lit []).join s=s:=by
 cases s with
 | mk n f=>
  unfold Sl.join Sl.lit;simp only [Fz,bG];congr 1
theorem VK.ajZ {T:TypeId} {a:Option Addr} {acc:Nat->KV} (h:OW E (aI P T) a 0 []):VK P E (.ts T .any 0 [] acc) (.slice a 0 0):=by
 simp only [VK];exact ⟨⟨rfl,fun i hi=>absurd hi (nF _),rfl⟩,[],.nil,a,0,rfl,ao _,h,trivial⟩
theorem acT {g:FuncId} {T t:TypeId} {b:Nat} {α:Type} {k:α->KV} {p:KV->α} {f1:Sl α->Option (Sl α)} [Inhabited α] (hn:YA P g T) (ht:bL P g = [t]) (hf:∀ s,f1 s=cond (Nat.blt 0 s.n) (cond (Nat.blt 0 s.n&&mv b 0 s.n) (some ((Sl.lit []).join s)) none) none)
  (amS:∀ w,pz P [t] w 0 = [dS T k (eG p (gW P (bU P df) t (w 0)))]) (h1:cA P g (cI P g (cR (dS T k) fun vs=>f1 (eG p (vs.getD 0 .bz))))) (hc:pq P g) :
  cA P g (cI P g (cR (dS T k) fun vs=>zv b (eG p (vs.getD 0 .bz)))):=by
 intro args v hF hlen;refine ⟨hc,?_⟩;have hF0:=hF;unfold cI at hF;obtain ⟨hb,hF⟩:=aA.cond hF;obtain ⟨ww,hw⟩:=Ca 0 hb;rw [ht] at hw;rw [amS] at hw;rw [ht,hw] at hF;unfold cR at hF;obtain ⟨h2,h3⟩:=aA.iH hF;have es:(([dS T k (eG p (gW P (bU P df) t (ww 0)))] : List KV).getD 0 .bz)=dS T k (eG p (gW P (bU P df) t (ww 0))):=rfl;have h2:(zv b (eG p (([dS T k (eG p (gW P (bU P df) t (ww 0)))] : List KV).getD 0 .bz))).isSome=true:=h2;have h3:dS T k ((zv b (eG p (([dS T k (eG p (gW P (bU P df) t (ww 0)))] : List KV).getD 0 .bz))).getD default)=v:=h3;rw [es] at h2 h3;generalize hs:eG p (dS T k (eG p (gW P (bU P df) t (ww 0))))=s at h2 h3;cases hq:Nat.blt 0 s.n with
 | true=>
  have:aA (cI P g (cR (dS T k) fun vs=>f1 (eG p (vs.getD 0 .bz))) (normArgs P (bL P g) args)) v:=by
   unfold cI;rw [hb,ah,ht,hw];show aA (KR.iH (f1 (eG p (([dS T k (eG p (gW P (bU P df) t (ww 0)))] : List KV).getD 0 .bz))).isSome (dS T k ((f1 (eG p (([dS T k (eG p (gW P (bU P df) t (ww 0)))] : List KV).getD 0 .bz))).getD default))) v;rw [es,hs,hf,hq];unfold zv at h2 h3;cases ha:mv b 0 s.n with
   | false=>rw [ha] at h2; simp at h2
   | true=>
    rw [ha] at h3;simp only [cY,ah,Sl.ahB];exact ⟨rfl,h3⟩
  exact (h1 args v this hlen).2
 | false=>
  have hz:s.n=0:=by
   apply Classical.byContradiction;intro hk;have:Nat.blt 0 s.n=true:=by rw [b7]; omega
   rw [hq] at this;simp at this
  have hv0:v = .ts T .any 0 [] fun i=>k (s.get i):=by
   have ha:mv b 0 s.n=true:=by
    unfold zv at h2;cases ha:mv b 0 s.n with
    | true=>rfl
    | false=>rw [ha] at h2; simp at h2
   rw [<- h3];unfold zv;rw [ha];show dS T k s=_;unfold dS;rw [hz];rfl
  intro E A B ρ base w bN hv hj;have vN:ny P E ρ (normArgs P (bL P g) args) bN:=by
   obtain ⟨m,h1,h2⟩:=hv;exact ⟨m,aK.Gu (.of rfl) h1 hlen,h2⟩
  rw [ht,hw] at vN;obtain ⟨u,us,rfl,hu,ED⟩:=vN.qP;obtain rfl:=ED.PK;have W0:(eG p (gW P (bU P df) t (ww 0))).n=0:=(congrArg Sl.n hs).trans hz;unfold dS at hu;rw [W0] at hu;obtain ⟨u',hk,hr⟩:=hu;obtain ⟨_,aP,_,a,cap,rfl,_,_,_⟩:=hk.jz;subst hv0;cases a with
  | none=>
   rw [hr.e8];refine (hn.nil cap w).mono ?_;rintro r w' ⟨rfl,rfl⟩;exact ⟨_,E,B,ρ,rfl,⟨.slice none 0 0,VK.ajZ (.inl ⟨rfl,rfl⟩),by simp [VR]⟩,.refl hj.k hj.s⟩
  | some a=>
   obtain ⟨_,_,_,a',c',_,_,_,_,rfl⟩:=hr.iD;refine (hn.some a' c' w).mono ?_;rintro r w' ⟨rfl,rfl⟩;have g:=Lh (cs:=[]) (c:=#[]) (aQ:=aI P T) T hj.s (by unfold cz; rfl) (fun v hv=>by simp at hv);refine ⟨_,E.dW B.next ⟨[],aI P T,true,none⟩,B.new (.row [] (aI P T) true none),ρ.set B.next ⟨w.heap.size,0,0,aI P T⟩,rfl,⟨.slice (some ⟨B.next,0,none⟩) 0 0,VK.ajZ (.inr ⟨B.next,0,⟨[],aI P T,true,none⟩,rfl,by simp [Env.dW],rfl,fun i x hi=>by simp at hi⟩),?_⟩,(cF.U7 hj.k).ev g⟩;simp only [VR];exact ⟨trivial,ao _,⟨w.heap.size,0,0,aI P T⟩,⟨w.heap.size,0,none⟩,0,by simp [Ren.set],ao _,fun h=>absurd rfl h,by simp,rfl⟩
end Go.K
end
section
set_option maxRecDepth 20000
namespace Go.Proofs.YtckbdndhmcoihaaGreat.b
open Go Go.RowKit Go.Lib Go.Shelf Go.K
noncomputable section
set_option maxHeartbeats 4000000 in
theorem Xx:YA Tryz.prog 98 3:=by
 have mixed:=nodes.s0;have t36:=Tryz.underlying36; have a36:=Tryz.isAgg36; have z36:=Tryz.sizeOf36; have v36:=Tryz.zeroValue36; have u36:=run_underlying Tryz.underlying36;have t3:=Tryz.underlying3; have a3:=Tryz.isAgg3; have z3:=Tryz.sizeOf3; have v3:=Tryz.zeroValue3; have u3:=run_underlying Tryz.underlying3;have h1:=fun (a:Option Addr) (n c:Nat) (w:World)=>Lib.run_eql_slice_nil (P:=Tryz.prog) w 36 3 a n c 0 0 Tryz.underlying36;have h2:=fun b=>ahA Tryz.underlying36 (show Tryz.prog.info? 3=some _ from rfl) b;refine ⟨fun c w=>?_,fun a c w=>?_⟩
 ·go_enter Tryz.func98,Tryz.ntmps98
  go_wp2
  go_ret
  exact ⟨rfl,rfl⟩
 ·go_enter Tryz.func98,Tryz.ntmps98
  go_wp2
  go_ret
  exact ⟨rfl,rfl⟩
def qA (s:(Sl Int)):Option (Sl Int):=zv 8 s
def vh:List KV->KR KV:=cI Tryz.prog 98 (cR (dS 3 (kI .i64)) fun vs=>qA ((eG aw) (vs.getD 0 .bz)))
theorem xF:cA Tryz.prog 98 vh:=acT (b:=8) Xx (by kernel_rfl) (fun _=>rfl) Av Lb ⟨by kernel_rfl,_,Tryz.func98,rfl,by kernel_rfl⟩
set_option maxHeartbeats 4000000 in
set_option maxHeartbeats 4000000 in
set_option maxHeartbeats 4000000 in
set_option maxHeartbeats 4000000 in
end
end Go.Proofs.YtckbdndhmcoihaaGreat.b
end
section
namespace Go.Proofs.YtckbdndhmcoihaaGreat.b
open Go.K
noncomputable section
structure Path where
 nodes:(Sl Handle)
 kids:(Sl Int)
instance:Inhabited Path:=⟨⟨default,default⟩⟩
def NF (x:Path):List KV:=[dS 32 jJ x.nodes,dS 3 (kI .i64) x.kids]
def vi (x:Path):KV:=.agg (NF x)
def NG (c:Nat->KV):Path:=⟨eG jK (c 0),eG aw (c 1)⟩
def yx (v:KV):Path:=NG fun k=>v.cells.getD k .bz
structure fH where
 t5:Bool
 t19:(Sl Int)
 t20:Int
 t21:Int
 s:aE
 t4:Path
 p:Path
 h:Handle
instance:Inhabited fH:=⟨by constructor<;>exact default⟩
def sC (x:fH):List KV:=[.bool x.t5,dS 3 (kI .i64) x.t19,.int .i64 x.t20,.int .i64 x.t21]
def sD (x:fH):List (List KV):=[yQ x.s,NF x.t4,NF x.p,acE x.h]
def zw (vs:List KV) (rs:List (List KV)):fH:=⟨j3 (v9 vs 0),eG aw (v9 vs 1),aw (v9 vs 2),aw (v9 vs 3),yR (r9 rs 0),NG (r9 rs 1),NG (r9 rs 2),acF (r9 rs 3)⟩
def Aw:aB:=⟨[(5,w9 b9),(19,w9 (n9 3)),(20,w9 i9),(21,w9 i9)],[(2,[n9 111,n9 35,n9 77,n9 88,n9 91,i9,i9],1),(4,[.aF 32,n9 3],1),(6,[.aF 32,n9 3],1),(7,[i9,i9],1)],[(2,0,0),(4,1,0),(6,2,0),(7,3,0)]⟩
def Jq:=GF [(98,vh)] [] 51 122 Aw
def kU (x:fH):ba fH:=(cond (cond (ck x.p.nodes.n x.p.nodes.n) true false) (.out az.aa.ret ⟨false,x.t19,x.t20,x.t21,x.s,⟨⟨0,(fun i=>⟨0,0⟩)⟩,⟨0,(fun i=>0)⟩⟩,x.p,x.h⟩) .fail)
def iV (x:fH):ba fH:=(cond (decide (x.t21 < x.t20)) (cond ((decide (0<=x.t21))&&(decide (x.t21 < (x.t19.n:Int)))) (cond ((decide (0<=x.h.slot))&&(decide (x.h.slot < (x.s.graph.kids.n:Int)))) (cond (decide ((x.t19.get (Int.toNat x.t21)) < 0))
   (kU x) (cond (decide ((x.t19.get (Int.toNat x.t21)) >= ((x.s.graph.kids.get (Int.toNat x.h.slot)).n:Int)))
    (kU x) (cond ((decide (0<=(x.t19.get (Int.toNat x.t21))))&&(decide ((x.t19.get (Int.toNat x.t21)) < ((x.s.graph.kids.get (Int.toNat x.h.slot)).n:Int)))) (cond ((ck x.p.nodes.n x.p.nodes.n)&&(mv 16 x.p.nodes.n 1)) (cond (cond (ck (x.p.nodes.n+1) (x.p.nodes.n+1)) (ck x.t4.nodes.n x.t4.nodes.n) false) (.next ⟨x.t5,x.t19,x.t20,(bB (x.t21+1)),x.s,x.t4,⟨(x.p.nodes.push ((x.s.graph.kids.get (Int.toNat x.h.slot)).get (Int.toNat (x.t19.get (Int.toNat x.t21))))),x.p.kids⟩,((x.s.graph.kids.get (Int.toNat x.h.slot)).get (Int.toNat (x.t19.get (Int.toNat x.t21))))⟩) .fail) .fail) .fail))) .fail) .fail) (cond (cond (ck x.p.nodes.n x.p.nodes.n) (ck x.t4.nodes.n x.t4.nodes.n) false) (.out (az.aa.exit 0) x) .fail))
theorem GM (x:fH):Jq (sC x) (sD x)=ba.enc sC sD (iV x):=by
 unfold iV kU
 try simp only [ba.dt,GG]
 kernel_rfl
def Ax:Lp:=⟨51,122,Aw,fun vs rs=>eC sC sD (goN iV (zw vs rs)) [az.aa.exit 0,az.aa.ret],false⟩
theorem Jr:Ax.Ok PG:=zS (av.cons xF av.nil) bO.nil (pa:=zw) GM
def rQ (s:aE) (kids:(Sl Int)):=qA kids
def ke (s:aE) (kids:(Sl Int)):=goN iV ⟨false,kids,(kids.n:Int),1,s,⟨⟨0,(fun i=>⟨0,0⟩)⟩,⟨0,(fun i=>0)⟩⟩,⟨((Sl.lit [s.root]).push ((s.graph.kids.get (Int.toNat s.root.slot)).get (Int.toNat (kids.get 0)))),((rQ s kids).getD default)⟩,((s.graph.kids.get (Int.toNat s.root.slot)).get (Int.toNat (kids.get 0)))⟩
def qB (s:aE) (kids:(Sl Int)):Option (Path×Bool):=(some (⟨⟨0,(fun i=>⟨0,0⟩)⟩,⟨0,(fun i=>0)⟩⟩,false))
def n4 (s:aE) (kids:(Sl Int)):Option (Path×Bool):=(cond (rQ s kids).isSome (cond (decide (0 < (kids.n:Int))) (cond (decide (0 < (kids.n:Int))) (cond ((decide (0<=s.root.slot))&&(decide (s.root.slot < (s.graph.kids.n:Int)))) (cond (decide ((kids.get 0) < 0))
    (qB s kids) (cond (decide ((kids.get 0) >= ((s.graph.kids.get (Int.toNat s.root.slot)).n:Int)))
    (qB s kids) (cond ((decide (0<=(kids.get 0)))&&(decide ((kids.get 0) < ((s.graph.kids.get (Int.toNat s.root.slot)).n:Int)))) (cond ((ke s kids).by (az.aa.exit 0)) (some ((ke s kids).st.p,true)) (cond ((ke s kids).by az.aa.ret) (some ((ke s kids).st.t4,(ke s kids).st.t5)) none)) none))) none) none) (some (⟨(Sl.lit [s.root]),((rQ s kids).getD default)⟩,true))) none)
theorem P0 (s:aE) (kids:(Sl Int)):AZ [(98,vh)] [Ax] 51 [wU s,(dS 3 (kI .i64)) kids] = (n4 s kids).map (fun (r:Path×Bool)=>KV.ng [vi r.1,kB r.2]):=by
 unfold n4 qB
 try simp only [cJ,ke,GG,acG,acH]
 kernel_rfl
def Hv:List KV->KR KV:=cI PG 51 (cR (fun (r:Path×Bool)=>KV.ng [vi r.1,kB r.2]) fun vs=>n4 (mR (v9 vs 0)) ((eG aw) (v9 vs 1)))
theorem NH:cA PG 51 Hv:=gX (av.cons xF av.nil) (rq Jr bO.nil) fun w=>P0 (mR (g0 34 (w 0))) ((eG aw) (g0 36 (w 1)))
structure nK where
 s1:(Sl Handle)
 s2:(Sl Handle)
 t4:Bool
 t12:Int
 t13:Int
instance:Inhabited nK:=⟨⟨default,default,default,default,default⟩⟩
def gT (x:nK):ba nK:=(cond (decide (x.t13 < x.t12)) (cond ((decide (0<=x.t13))&&(decide (x.t13 < (x.s1.n:Int)))) (cond ((decide (0<=x.t13))&&(decide (x.t13 < (x.s2.n:Int)))) (cond (!(((x.s1.get (Int.toNat x.t13)).slot==(x.s2.get (Int.toNat x.t13)).slot)&&(((x.s1.get (Int.toNat x.t13)).gen==(x.s2.get (Int.toNat x.t13)).gen)&&true))) (.out az.aa.ret ⟨x.s1,x.s2,false,x.t12,x.t13⟩) (.next ⟨x.s1,x.s2,x.t4,x.t12,(bB (x.t13+1))⟩)) .fail) .fail) (.out (az.aa.exit 0) x))
def oI (s1:(Sl Handle)) (s2:(Sl Handle)):=goN gT ⟨s1,s2,false,(s1.n:Int),0⟩
def Ct (s1:(Sl Handle)) (s2:(Sl Handle)):Option (Bool):=(cond ((s1.n:Int) != (s2.n:Int)) (some (false)) (cond ((oI s1 s2).by (az.aa.exit 0)) (some (true)) (cond ((oI s1 s2).by az.aa.ret) (some ((oI s1 s2).st.t4)) none)))
def Ad (down:Int->Sl Int×Sl Int->Option (Sl Int×Sl Int)) (l:Sl Handle):Nat->Int×Int×(Sl Int×Sl Int)->Option (Int×Int×(Sl Int×Sl Int))
 | 0,x=>some x
 | k+1,x=>(Ad down l k x).bind fun y=>(down (l.get k).slot y.2.2).bind fun z=>
   some (max y.1 (z.1.get (l.get k).slot.toNat),min (bB (y.2.1+z.2.get (l.get k).slot.toNat)) 257,z)
def qC (s:aE):Nat->Int->Sl Int×Sl Int->Option (Sl Int×Sl Int)
 | 0,_,_=>none
 | f+1,slot,x=>cond (decide (0<=slot)&&decide (slot < (x.1.n:Int))&&decide (slot < (s.graph.kids.n:Int))&&decide (slot < (s.nodes.n:Int)))
   (cond (decide (x.1.get slot.toNat > 0)) (some x)
    ((Ad (qC s f) (s.graph.kids.get slot.toNat) (s.graph.kids.get slot.toNat).n (0,0,x)).bind fun y=>
     some (y.2.2.1.set slot.toNat (bB (y.1+1)),y.2.2.2.set slot.toNat (cond ((s.nodes.get slot.toNat).kind==5) 1 y.2.1)))) none
def Fits (s:aE):Prop:=s.nodes.n<=1000000/\∀ i,i < s.graph.kids.n->(s.graph.kids.get i).n<=1000000
open Classical in
def dE (s:aE):Option (Sl Int×Sl Int):=if Fits s then qC s 250 s.root.slot (⟨s.nodes.n,fun _=>0⟩,⟨s.nodes.n,fun _=>0⟩) else none
def qX:List KV->KR KV:=cI Tryz.prog 91 (cR (fun (r:Sl Int×Sl Int)=>KV.ng [(dS 3 (kI .i64)) r.1,(dS 3 (kI .i64)) r.2]) fun vs=>dE (mR (vs.getD 0 .bz)))
end
end Go.Proofs.YtckbdndhmcoihaaGreat.b
end
section
set_option maxRecDepth 20000
namespace Go.Proofs.YtckbdndhmcoihaaGreat.DR
open Go Go.RowKit Go.Lib Go.Shelf Go.K
open nodes (s0)
structure Q where
 ka:Option Addr
 kc:Nat
 ia:Nat->Option Addr
 ic:Nat->Nat
 na:Option Addr
 nc:Nat
structure QAt (s:b.aE) (q:Q) (B:Nat) (W:World):Prop where
 kids:∀ i,i < s.graph.kids.n->∃ b off,q.ka=some ⟨b,off,none⟩/\b < B/\W.cell? ⟨b,off+i,none⟩=some (.slice (q.ia i) (s.graph.kids.get i).n (q.ic i))
 row:∀ i,i < s.graph.kids.n->∀ k,k < (s.graph.kids.get i).n->∃ b off,q.ia i=some ⟨b,off,none⟩/\b < B/\W.cell? ⟨b,off+k * 2,none⟩=some (.int .i64 ((s.graph.kids.get i).get k).slot)/\W.cell? ⟨b,off+k * 2+1,none⟩=some (.int .i64 ((s.graph.kids.get i).get k).gen)
 kind:∀ i,i < s.nodes.n->∃ b off,q.na=some ⟨b,off,none⟩/\b < B/\W.cell? ⟨b,off+i * 33,none⟩=some (.int .u8 (s.nodes.get i).kind)
structure vQ (d m:Nat) (W W' : World):Prop where
 os:W'.os=W.os
 tape:W'.tape=W.tape
 output:W'.output=W.output
 size:W.heap.size<=W'.heap.size
 block:∀ k,k < W.heap.size->k≠d->k≠m->W'.heap[k]? = W.heap[k]?
theorem vQ.refl (d m:Nat) (W:World):vQ d m W W:=⟨rfl,rfl,rfl,ao _,fun _ _ _ _=>rfl⟩
theorem vQ.trans {d m:Nat} {W W' W2:World} (h:vQ d m W W') (k:vQ d m W' W2):vQ d m W W2:=
 ⟨k.os.trans h.os,k.tape.trans h.tape,k.output.trans h.output,dA h.size k.size,fun j hj hn Uv=>(k.block j (dG hj h.size) hn Uv).trans (h.block j hj hn Uv)⟩
theorem vQ.cell {d m:Nat} {W W' : World} (h:vQ d m W W') {b j:Nat} (hb:b < W.heap.size) (hd:b≠d) (hm:b≠m):W'.cell? ⟨b,j,none⟩=W.cell? ⟨b,j,none⟩:=by
 have:=h.block b hb hd hm;unfold World.cell?;simp only [this]
theorem vQ.alloc {d m:Nat} (W:World) (o:Obj):vQ d m W (W.alloc o):=⟨rfl,rfl,rfl,by simp,fun k hk _ _=>Below.heap_alloc W o k hk⟩
theorem vQ.drew (d m:Nat) (W:World):vQ d m W W.drew:=⟨rfl,rfl,rfl,ao _,fun _ _ _ _=>rfl⟩
theorem QAt.dj {s:b.aE} {q:Q} {B d m:Nat} {W W' : World} (h:QAt s q B W) (k:vQ d m W W') (hB:B<=W.heap.size) (hd:B<=d) (hm:B<=m):QAt s q B W':=by
 refine ⟨fun i hi=>?_,fun i hi j hj=>?_,fun i hi=>?_⟩
 ·obtain ⟨b,off,h1,h2,h3⟩:=h.kids i hi
  exact ⟨b,off,h1,h2,by rw [k.cell (by omega) (by omega) (by omega)]; exact h3⟩
 ·obtain ⟨b,off,h1,h2,h3,h4⟩:=h.row i hi j hj
  exact ⟨b,off,h1,h2,by rw [k.cell (by omega) (by omega) (by omega)]; exact h3,by rw [k.cell (by omega) (by omega) (by omega)]; exact h4⟩
 ·obtain ⟨b,off,h1,h2,h3⟩:=h.kind i hi
  exact ⟨b,off,h1,h2,by rw [k.cell (by omega) (by omega) (by omega)]; exact h3⟩
structure Cu (s:b.aE) (q:Q) (B b1 b2 b3 b4 d m N:Nat) (W:World) (x:Sl Int×Sl Int):Prop where
 at_:QAt s q B W
 eB:B<=W.heap.size
 l1:b1 < W.heap.size/\b1≠d/\b1≠m
 l2:b2 < W.heap.size/\b2≠d/\b2≠m
 l3:b3 < W.heap.size/\b3≠d/\b3≠m
 l4:b4 < W.heap.size/\b4≠d/\b4≠m
 ld:B<=d/\d < W.heap.size
 lm:B<=m/\m < W.heap.size
 ne:d≠m
 n1:x.1.n=N
 n2:x.2.n=N
 c1:W.cell? ⟨b1,0,none⟩=some (.slice (some ⟨d,0,none⟩) N N)
 c2:W.cell? ⟨b2,1,none⟩=some (.slice q.ka s.graph.kids.n q.kc)
 e2:W.cell? ⟨b2,2,none⟩=some (.slice q.na s.nodes.n q.nc)
 c3:W.cell? ⟨b3,0,none⟩=some (.func (.func 162) #[] #[.pointer (some ⟨b1,0,none⟩),.pointer (some ⟨b2,0,none⟩),.pointer (some ⟨b3,0,none⟩),.pointer (some ⟨b4,0,none⟩)])
 c4:W.cell? ⟨b4,0,none⟩=some (.slice (some ⟨m,0,none⟩) N N)
 cd:∀ i,i < N->W.cell? ⟨d,i,none⟩=some (.int .i64 (x.1.get i))
 cm:∀ i,i < N->W.cell? ⟨m,i,none⟩=some (.int .i64 (x.2.get i))
 fd:∀ i,W.frozen? ⟨d,i,none⟩=false
 fm:∀ i,W.frozen? ⟨m,i,none⟩=false
theorem Cu.grow {s:b.aE} {q:Q} {B b1 b2 b3 b4 d m N:Nat} {W W' : World} {x:Sl Int×Sl Int} (h:Cu s q B b1 b2 b3 b4 d m N W x) (k:vQ d m W W') (hd:W'.heap[d]? = W.heap[d]?) (hm:W'.heap[m]? = W.heap[m]?):Cu s q B b1 b2 b3 b4 d m N W' x where
 at_:=h.at_.dj k h.eB h.ld.1 h.lm.1
 eB:=dA h.eB k.size
 l1:=⟨dG h.l1.1 k.size,h.l1.2⟩
 l2:=⟨dG h.l2.1 k.size,h.l2.2⟩
 l3:=⟨dG h.l3.1 k.size,h.l3.2⟩
 l4:=⟨dG h.l4.1 k.size,h.l4.2⟩
 ld:=⟨h.ld.1,dG h.ld.2 k.size⟩
 lm:=⟨h.lm.1,dG h.lm.2 k.size⟩
 ne:=h.ne
 n1:=h.n1
 n2:=h.n2
 c1:=(k.cell h.l1.1 h.l1.2.1 h.l1.2.2).trans h.c1
 c2:=(k.cell h.l2.1 h.l2.2.1 h.l2.2.2).trans h.c2
 e2:=(k.cell h.l2.1 h.l2.2.1 h.l2.2.2).trans h.e2
 c3:=(k.cell h.l3.1 h.l3.2.1 h.l3.2.2).trans h.c3
 c4:=(k.cell h.l4.1 h.l4.2.1 h.l4.2.2).trans h.c4
 cd i hi:=by rw [<- h.cd i hi]; unfold World.cell?; simp only [hd]
 cm i hi:=by rw [<- h.cm i hi]; unfold World.cell?; simp only [hm]
 fd i:=by rw [<- h.fd i]; unfold World.frozen?; simp only [hd]
 fm i:=by rw [<- h.fm i]; unfold World.frozen?; simp only [hm]
theorem vQ.set (d m:Nat) (W:World) (i k:Nat) (u v:Value):vQ d m W ((W.setCell ⟨d,i,none⟩ u).setCell ⟨m,k,none⟩ v):=
 ⟨rfl,rfl,rfl,by simp,fun j _ h1 h2=>by rw [heap_setCell_other _ _ _ _ h2,heap_setCell_other _ _ _ _ h1]⟩
theorem Cu.put {s:b.aE} {q:Q} {B b1 b2 b3 b4 d m N:Nat} {W:World} {x:Sl Int×Sl Int} (h:Cu s q B b1 b2 b3 b4 d m N W x) {i:Nat} (hi:i < N) (u v:Int) :
  Cu s q B b1 b2 b3 b4 d m N ((W.setCell ⟨d,i,none⟩ (.int .i64 u)).setCell ⟨m,i,none⟩ (.int .i64 v)) (x.1.set i u,x.2.set i v):=by
 have k:=vQ.set d m W i i (.int .i64 u) (.int .i64 v);have bx:∀ {a c:Nat} {j l:Nat},a≠c->(⟨a,j,none⟩:Addr)≠⟨c,l,none⟩:=fun h e=>h (by simpa using congrArg Addr.block e);have OI:∀ {a:Nat} {j l:Nat},j≠l->(⟨a,j,none⟩:Addr)≠⟨a,l,none⟩:=fun h e=>h (by simpa using congrArg Addr.off e);have Bw:∀ {s:Sl Int} {j:Nat} {w:Int},(s.set i w).get j=if j=i then w else s.get j:=fun {s j w}=>by
  by_cases e:j=i
  ·subst e
   show cond (Nat.beq j j) w (s.get j)=_;rw [p8,ax rfl]; rfl
  ·have:Nat.beq j i=false:=by
    cases q:Nat.beq j i with
    | false=>rfl
    | true=>exact absurd (aD q) e
   show cond (Nat.beq j i) w (s.get j)=_;rw [this,ae e]; rfl
 refine ⟨h.at_.dj k h.eB h.ld.1 h.lm.1,dA h.eB k.size,⟨dG h.l1.1 k.size,h.l1.2⟩,⟨dG h.l2.1 k.size,h.l2.2⟩,⟨dG h.l3.1 k.size,h.l3.2⟩,⟨dG h.l4.1 k.size,h.l4.2⟩,
  ⟨h.ld.1,dG h.ld.2 k.size⟩,⟨h.lm.1,dG h.lm.2 k.size⟩,h.ne,h.n1,h.n2,(k.cell h.l1.1 h.l1.2.1 h.l1.2.2).trans h.c1,(k.cell h.l2.1 h.l2.2.1 h.l2.2.2).trans h.c2,(k.cell h.l2.1 h.l2.2.1 h.l2.2.2).trans h.e2,
  (k.cell h.l3.1 h.l3.2.1 h.l3.2.2).trans h.c3,(k.cell h.l4.1 h.l4.2.1 h.l4.2.2).trans h.c4,fun j hj=>?_,fun j hj=>?_,fun j=>by rw [World.frozen?_setCell,World.frozen?_setCell]; exact h.fd j,fun j=>by rw [World.frozen?_setCell,World.frozen?_setCell]; exact h.fm j⟩
 ·rw [World.cell?_setCell_other (h:=bx h.ne.symm)]
  show _=some (Value.int .i64 ((x.1.set i u).get j));rw [Bw];by_cases e:j=i
  ·subst e; rw [ax rfl]; exact World.cell?_setCell_same _ _ _ (h.cd j hj)
  ·rw [ae e,World.cell?_setCell_other (h:=OI (Ne.symm e))]; exact h.cd j hj
 ·show _=some (Value.int .i64 ((x.2.set i v).get j))
  rw [Bw];by_cases e:j=i
  ·subst e
   rw [ax rfl];exact World.cell?_setCell_same _ _ _ (by rw [World.cell?_setCell_other (h:=bx h.ne)]; exact h.cm j hj)
  ·rw [ae e,World.cell?_setCell_other (h:=OI (Ne.symm e)),World.cell?_setCell_other (h:=bx h.ne)]; exact h.cm j hj
def al5 (s:b.aE) (slot:Int) (z:Int×Int×(Sl Int×Sl Int)) (v:Int):Sl Int×Sl Int:=(z.2.2.1.set slot.toNat (bB (z.1+1)),z.2.2.2.set slot.toNat v)
theorem ahC {s:b.aE} {f:Nat} {i:Int} {x x' : Sl Int×Sl Int} (h:b.qC s f i x=some x'):0<=i/\i < (x.1.n:Int):=by
 cases f with
 | zero=>simp [b.qC] at h
 | succ f=>
  unfold b.qC at h;by_cases h1:0<=i
  ·by_cases h2:i < (x.1.n:Int)
   ·exact ⟨h1,h2⟩
   ·simp [h2] at h
  ·simp [h1] at h
set_option maxHeartbeats 4000000 in
theorem down (s:b.aE) (q:Q) (B b1 b2 b3 b4 d m N:Nat) (dC:∀ i,i < s.graph.kids.n->(s.graph.kids.get i).n<=1000000):∀ (f:Nat) (slot:Int) (x x' : Sl Int×Sl Int) (W:World),b.qC s f slot x=some x'->Cu s q B b1 b2 b3 b4 d m N W x->
  Calls Tryz.prog 162 #[.int .i64 slot,.pointer (some ⟨b1,0,none⟩),.pointer (some ⟨b2,0,none⟩),.pointer (some ⟨b3,0,none⟩),.pointer (some ⟨b4,0,none⟩)] W fun e W'=>e = .returned (.tuple #[])/\Cu s q B b1 b2 b3 b4 d m N W' x'/\vQ d m W W'
 | 0,_,_,_,_,h,_=>by simp [b.qC] at h
 | f+1,slot,x,x',W,h,L=>by
  have mixed:=s0;have t3:=Tryz.underlying3; have a3:=Tryz.isAgg3; have z3:=Tryz.sizeOf3; have v3:=Tryz.zeroValue3; have u3:=run_underlying Tryz.underlying3;have t48:=Tryz.underlying36; have a48:=Tryz.isAgg36; have z48:=Tryz.sizeOf36; have v48:=Tryz.zeroValue36; have u48:=run_underlying Tryz.underlying36;have t32:=Tryz.underlying32; have a32:=Tryz.isAgg32; have z32:=Tryz.sizeOf32; have v32:=Tryz.zeroValue32; have u32:=run_underlying Tryz.underlying32;have t34:=Tryz.underlying34; have a34:=Tryz.isAgg34; have z34:=Tryz.sizeOf34; have v34:=Tryz.zeroValue34; have u34:=run_underlying Tryz.underlying34;have t27:=Tryz.underlying27; have a27:=Tryz.isAgg27; have z27:=Tryz.sizeOf27; have v27:=Tryz.zeroValue27; have u27:=run_underlying Tryz.underlying27;have t25:=Tryz.underlying25; have a25:=Tryz.isAgg25; have z25:=Tryz.sizeOf25; have v25:=Tryz.zeroValue25; have u25:=run_underlying Tryz.underlying25;have t47:=Tryz.underlying35; have a47:=Tryz.isAgg35; have z47:=Tryz.sizeOf35; have v47:=Tryz.zeroValue35; have u47:=run_underlying Tryz.underlying35;have t28:=Tryz.underlying28; have a28:=Tryz.isAgg28; have z28:=Tryz.sizeOf28; have v28:=Tryz.zeroValue28; have u28:=run_underlying Tryz.underlying28;have t64:=Tryz.underlying77; have a64:=Tryz.isAgg77; have z64:=Tryz.sizeOf77; have v64:=Tryz.zeroValue77; have u64:=run_underlying Tryz.underlying77;have t5:=Tryz.underlying5; have a5:=Tryz.isAgg5; have z5:=Tryz.sizeOf5; have v5:=Tryz.zeroValue5; have u5:=run_underlying Tryz.underlying5;have t143:=Tryz.underlying229; have a143:=Tryz.isAgg229; have z143:=Tryz.sizeOf229; have v143:=Tryz.zeroValue229; have an8:=run_underlying Tryz.underlying229;unfold b.qC at h;by_cases hb:0<=slot/\slot < (x.1.n:Int)/\slot < (s.graph.kids.n:Int)/\slot < (s.nodes.n:Int)
  case neg=>
   exfalso;have:(decide (0<=slot)&&decide (slot < (x.1.n:Int))&&decide (slot < (s.graph.kids.n:Int))&&decide (slot < (s.nodes.n:Int)))=false:=by
    rw [<- Bool.not_eq_true];simp only [aj,jP];rintro ⟨⟨⟨q1,q2⟩,q3⟩,q4⟩;exact hb ⟨q1,q2,q3,q4⟩
   rw [this] at h;simp at h
  obtain ⟨hp,hN,hK,hV⟩:=hb;rw [aq hp,aq hN,aq hK,aq hV] at h;simp only [cY,ah] at h;rw [L.n1] at hN;have c1:=L.c1;have cd:=L.cd slot.toNat (by omega);by_cases hz:x.1.get slot.toNat > 0
  ·rw [aq hz,ah] at h
   have:=yz h;subst this
   go_enter Tryz.func162,Tryz.ntmps162
   go_wp2
   refine bodyPost_ret (results_none rfl _ _ _) rfl ?_;exact ⟨rfl,L,.refl _ _ _⟩
  ·rw [bu hz,ay] at h
   cases hk:b.Ad (b.qC s f) (s.graph.kids.get slot.toNat) (s.graph.kids.get slot.toNat).n (0,0,x) with
   | none=>rw [hk] at h; simp at h
   | some y=>
   rw [hk] at h
   replace h:=yz h
   have Ll:∀ k,k<=(s.graph.kids.get slot.toNat).n->∃ z,b.Ad (b.qC s f) (s.graph.kids.get slot.toNat) k (0,0,x)=some z:=by
    intro k pd;obtain ⟨r,hr⟩:∃ r,(s.graph.kids.get slot.toNat).n=k+r:=⟨(s.graph.kids.get slot.toNat).n - k,by omega⟩
    rw [hr] at hk;clear hr pd;clear h
    induction r generalizing y with
    | zero=>exact ⟨y,hk⟩
    | succ r ih=>
     rw [show k+(r+1)=(k+r)+1 by omega] at hk;unfold b.Ad at hk;obtain ⟨z,h1,_⟩:=aO.1 hk;exact ih z h1
   have c2:=L.c2;have e2:=L.e2;obtain ⟨bk,ok,hka,hbk,hkd⟩:=L.at_.kids slot.toNat (by omega);obtain ⟨bn,on,zJ,DG,hkn⟩:=L.at_.kind slot.toNat (by omega);rw [hka] at c2;rw [zJ] at e2;have hcnt:=dC slot.toNat (by omega);generalize hcn:(s.graph.kids.get slot.toNat).n=cn at *
   go_enter Tryz.func162,Tryz.ntmps162
   go_wp2
   go_loopg [6,7,22] cn (fun gg s6 s7 s22 wr=>∃ kk:Nat,kk<=cn/\cn - kk<=gg/\s22 = .int .i64 kk/\∃ z,b.Ad (b.qC s f) (s.graph.kids.get slot.toNat) kk (0,0,x)=some z/\s6 = .int .i64 z.1/\s7 = .int .i64 z.2.1/\Aside (Cu s q B b1 b2 b3 b4 d m N wr z.2.2/\vQ d m W wr))
   case atStart=>exact ⟨0,mc _,by omega,rfl,_,rfl,rfl,rfl,L,.refl _ _ _⟩
   case round=>
    obtain ⟨kk,Zb,hgg,rfl,z,FV,rfl,rfl,BW⟩:=hrel;obtain ⟨LZ,KZ⟩:=BW.out;clear BW;by_cases aJ:kk < cn
    ·have acC:(kk:Int) < (cn:Int):=by omega
     obtain ⟨z2,vO⟩:=Ll (kk+1) (by omega);unfold b.Ad at vO;rw [FV] at vO;have vO:((b.qC s f ((s.graph.kids.get slot.toNat).get kk).slot z.2.2).bind fun z'=>some (max z.1 (z'.1.get ((s.graph.kids.get slot.toNat).get kk).slot.toNat),min (bB (z.2.1+z'.2.get ((s.graph.kids.get slot.toNat).get kk).slot.toNat)) 257,z'))=some z2:=vO;obtain ⟨zz,hzz,hz3⟩:=aO.1 vO;obtain ⟨bc,oc,hia,S9,oP,ot⟩:=LZ.at_.row slot.toNat (by omega) kk (by omega);have KA:=vQ.alloc (d:=d) (m:=m) wr (.cells #[.int .i64 ((s.graph.kids.get slot.toNat).get kk).slot,.int .i64 ((s.graph.kids.get slot.toNat).get kk).gen] 32);have LA:=LZ.grow KA (Below.heap_alloc wr _ d LZ.ld.2) (Below.heap_alloc wr _ m LZ.lm.2);have c3A:=LA.c3;have h0A:(wr.alloc (.cells #[.int .i64 ((s.graph.kids.get slot.toNat).get kk).slot,.int .i64 ((s.graph.kids.get slot.toNat).get kk).gen] 32)).cell? ⟨wr.heap.size,0,none⟩=some (.int .i64 ((s.graph.kids.get slot.toNat).get kk).slot):=by simp
     have dR:=down s q B b1 b2 b3 b4 d m N dC f ((s.graph.kids.get slot.toNat).get kk).slot z.2.2 zz _ hzz LA;have hd9:wr.heap.size≠d/\wr.heap.size≠m:=by have:=LZ.ld.2; have:=LZ.lm.2; omega
     have an9:wr.heap.size < (wr.alloc (.cells #[.int .i64 ((s.graph.kids.get slot.toNat).get kk).slot,.int .i64 ((s.graph.kids.get slot.toNat).get kk).gen] 32)).heap.size:=by simp
     generalize Wb:((s.graph.kids.get slot.toNat).get kk).slot=ks at *;generalize hWA:wr.alloc (.cells #[.int .i64 ks,.int .i64 ((s.graph.kids.get slot.toNat).get kk).gen] 32)=WA at *
     go_wp2_with (go_at_call 162; go_loud (refine dR.mono ?_; rintro e w2 ⟨rfl,L2,K2⟩; have g1:=L2.c1; have g4:=L2.c4; have g9:=(K2.cell an9 hd9.1 hd9.2).trans h0A))
     have mr:=ahC hzz;rw [LZ.n1] at mr;have g2:=L2.cd ks.toNat (by omega);have g3:=L2.cm ks.toNat (by omega);have hin1:=mr.1;have aj0:=mr.2
     go_region_held3 (fun w'=>w'.cell? ⟨b1,0,none⟩=some (.slice (some ⟨d,0,none⟩) N N)/\w'.cell? ⟨b4,0,none⟩=some (.slice (some ⟨m,0,none⟩) N N)/\w'.cell? ⟨wr.heap.size,0,none⟩=some (.int .i64 ks)/\w'.cell? ⟨d,ks.toNat,none⟩=some (.int .i64 (zz.1.get ks.toNat))/\w'.cell? ⟨m,ks.toNat,none⟩=some (.int .i64 (zz.2.get ks.toNat))) (go_keep) (fail)
     all_goals
      replace hz3:=yz hz3
      have hkM:b.Ad (b.qC s f) (s.graph.kids.get slot.toNat) (kk+1) (0,0,x)=some z2:=by
       unfold b.Ad;rw [FV];show ((b.qC s f ((s.graph.kids.get slot.toNat).get kk).slot z.2.2).bind _)=_;rw [Wb,hzz];exact congrArg some hz3
      have Ak:Aside (Cu s q B b1 b2 b3 b4 d m N w2.drew z2.2.2/\vQ d m W w2.drew):=by
       rw [<- hz3];exact ⟨L2.grow (.drew _ _ _) rfl rfl,KZ.trans (KA.trans (K2.trans (.drew _ _ _)))⟩
      have h61:max z.1 (zz.1.get ks.toNat)=z2.1:=by rw [<- hz3]
      have h71:min (IntKind.i64.wrap (z.2.1+zz.2.get ks.toNat)) 257=z2.2.1:=by rw [<- hz3]
      clear LZ LA KZ KA K2 L2 dR Ll vO hz3 oP ot
      go_wp2
      simp only [<- hia]
      go_roundg (cn - (kk+1))
     all_goals first | omega | exact ⟨kk+1,by omega,by omega,by go_num,z2,hkM,by rw [h61],by rw [h71],Ak⟩
    ·have acC : ¬ (kk:Int) < (cn:Int):=by omega
     have:kk=cn:=by omega
     subst this;rw [FV] at hk;have:=yz hk;subst this;have g1:=LZ.c1;have g4:=LZ.c4;have g2:=LZ.e2;rw [zJ] at g2;obtain ⟨bn2,on2,al6,hbn2,hkn2⟩:=LZ.at_.kind slot.toNat (by omega);rw [zJ] at al6;obtain ⟨rfl,rfl⟩:bn=bn2/\on=on2:=by simpa using al6
     have e1:z.2.2.1.n=N:=LZ.n1;have f1:=LZ.cd slot.toNat (by omega);have f4:=LZ.fd slot.toNat;have f5:=LZ.fm slot.toNat;have f6:=LZ.cm slot.toNat (by omega);have hdm:=LZ.ne;have hb1d:=LZ.l1.2.1;have hb1m:=LZ.l1.2.2;have hb4d:=LZ.l4.2.1;have hb4m:=LZ.l4.2.2;have hb1d':=LZ.l1.2.1.symm;have hb4d':=LZ.l4.2.1.symm;have hb1m':=LZ.l1.2.2.symm;have hb4m':=LZ.l4.2.2.symm;have hmd:=LZ.ne.symm;have fin:∀ v,((al5 s slot z v)=x'->Ending.returned (.tuple #[]) = .returned (.tuple #[])/\Cu s q B b1 b2 b3 b4 d m N ((wr.setCell ⟨d,slot.toNat,none⟩ (.int .i64 (bB (z.1+1)))).setCell ⟨m,slot.toNat,none⟩ (.int .i64 v)).drew x'/\vQ d m W ((wr.setCell ⟨d,slot.toNat,none⟩ (.int .i64 (bB (z.1+1)))).setCell ⟨m,slot.toNat,none⟩ (.int .i64 v)).drew):=fun v hv=>by
      subst hv;exact ⟨rfl,(LZ.put (by omega) _ v).grow (.drew _ _ _) rfl rfl,KZ.trans ((vQ.set d m wr _ _ _ _).trans (.drew _ _ _))⟩
     have hx:al5 s slot z (cond ((s.nodes.get slot.toNat).kind==5) 1 z.2.1)=x':=h;clear h LZ KZ L Ll hkd;by_cases hk5:(s.nodes.get slot.toNat).kind=5
     ·have aj1:((s.nodes.get slot.toNat).kind==5)=true:=by simp [hk5]
      rw [aj1] at hx;have Ak:=fin 1 hx
      go_wp2
      go_region_held3 (fun w'=>w'.cell? ⟨b1,0,none⟩=some (.slice (some ⟨d,0,none⟩) N N)/\w'.cell? ⟨b4,0,none⟩=some (.slice (some ⟨m,0,none⟩) N N)/\(w'.cell? ⟨d,slot.toNat,none⟩).isSome=true/\(w'.cell? ⟨m,slot.toNat,none⟩).isSome=true/\w'.frozen? ⟨d,slot.toNat,none⟩=false/\w'.frozen? ⟨m,slot.toNat,none⟩=false) (simp [*,World.cell?_setCell_far,World.cell?_setCell_same']) (fail)
      all_goals (go_wp2; go_end0; exact ⟨rfl,Ak.2⟩)
     ·have aj1:((s.nodes.get slot.toNat).kind==5)=false:=by simp [hk5]
      rw [aj1] at hx;have Ak:=fin z.2.1 hx
      go_wp2
      go_region_held3 (fun w'=>w'.cell? ⟨b1,0,none⟩=some (.slice (some ⟨d,0,none⟩) N N)/\w'.cell? ⟨b4,0,none⟩=some (.slice (some ⟨m,0,none⟩) N N)/\(w'.cell? ⟨d,slot.toNat,none⟩).isSome=true/\(w'.cell? ⟨m,slot.toNat,none⟩).isSome=true/\w'.frozen? ⟨d,slot.toNat,none⟩=false/\w'.frozen? ⟨m,slot.toNat,none⟩=false) (simp [*,World.cell?_setCell_far,World.cell?_setCell_same']) (fail)
      all_goals (go_wp2; go_end0; exact ⟨rfl,Ak.2⟩)
end Go.Proofs.YtckbdndhmcoihaaGreat.DR
end
section
namespace Go.K
open Go Go.az
variable {P:Program} {E:Env}
theorem cF.trans {E1 E2 E3:Env} {A1 A2 A3:ai} {B1 B2 B3:St} (aj2:B1.next<=B2.next) (h:cF P E1 A1 B1 E2 A2 B2) (k:cF P E2 A2 B2 E3 A3 B3):cF P E1 A1 B1 E3 A3 B3 where
 dI:=k.dI
 le:=Env.le_trans h.le k.le
 next:=dA h.next k.next
 dj x hx hn ha:=by
  refine (k.dj x (dG hx aj2) (fun b e=>?_) fun q=>?_).trans (h.dj x hx hn ha)
  ·rcases h.new b x e with e | e
   ·exact hn b e
   ·omega
  ·rcases h.lU x q with e | e
   ·exact ha e
   ·omega
 new b x e:=by
  rcases k.new b x e with e | e
  ·exact h.new b x e
  ·exact .inr (by omega)
 qN b r e:=by
  rcases k.qN b r e with e | e | e
  ·exact h.qN b r e
  ·exact .inr (h.jR b e)
  ·exact .inr (.inr (by omega))
 pk b g e:=by
  rcases k.pk b g e with e | e
  ·exact h.pk b g e
  ·exact .inr (by omega)
 nw g hg hn ha:=by
  refine (k.nw g (dG hg aj2) (fun b e=>?_) fun q=>?_).trans (h.nw g hg hn ha)
  ·rcases h.pk b g e with e | e
   ·exact hn b e
   ·omega
  ·rcases h.j6 g q with e | e
   ·exact ha e
   ·omega
 jR x e:=by
  rcases k.jR x e with e | e
  ·exact h.jR x e
  ·exact .inr (by omega)
 j6 g e:=by
  rcases k.j6 g e with e | e
  ·exact h.j6 g e
  ·exact .inr (by omega)
 rJ g y e:=by
  rcases k.rJ g y e with e | e
  ·exact h.rJ g y e
  ·exact .inr (by omega)
 lU y e:=by
  rcases k.lU y e with e | e
  ·exact h.lU y e
  ·exact .inr (by omega)
 rows y hy cs e own aZ q:=by
  obtain ⟨c1,h1,h2⟩:=k.rows y (dG hy aj2) cs e own aZ q;obtain ⟨c0,h3,h4⟩:=h.rows y hy c1 e own aZ h1;exact ⟨c0,h3,h4.trans h2⟩
def Ws (ρ:Ren) (B:St) (k:Nat):Prop:=∀ b l,B.get b≠none->B.get b≠some .dead->ρ b=some l->l.cb≠k
structure Made (ρ:Ren) (base:Nat) (w w1:World) (k aQ:Nat) (cs:List Value):Prop where
 base:base<=k
 new:w.heap.size<=k
 gC:k < w1.heap.size
 cells:∀ (i:Nat) (v:Value),cs[i]? = some v->∃ v',w1.cell? ⟨k,i,.none⟩=some v'/\VR ρ v v'/\scalar v=true
 free:∀ j,w1.frozen? ⟨k,j,.none⟩=false
theorem Made.mono {ρ ak:Ren} {base:Nat} {w w1:World} {k aQ:Nat} {cs:List Value} (h:Made ρ base w w1 k aQ cs) (m:ρ.le ak):Made ak base w w1 k aQ cs:=
 ⟨h.base,h.new,h.gC,fun i v hi=>by obtain ⟨v',h1,h2,h3⟩:=h.cells i v hi; exact ⟨v',h1,h2.mono m,h3⟩,h.free⟩
theorem cp.late {base:Nat} {ρ fC:Ren} {B B1:St} {w w1:World} (g:cp base ρ B w fC B1 w1) {k aQ:Nat} {cs:List Value} (hm:Made fC base w w1 k aQ cs) (hf:Ws fC B1 k) :
  cp base ρ B w (fC.set B1.next ⟨k,0,cs.length,aQ⟩) (B1.new (.row cs aQ true none)) w1:=by
 have hs:=g.dI;have hle:=hs.um ⟨k,0,cs.length,aQ⟩;have hk:∀ b o l',B1.get b=some o->o≠.dead->fC b=some l'->l'.cb≠k:=fun b o l' h1 h2 h3=>hf b l' (by rw [h1]; simp) (by rw [h1]; simpa using h2) h3;refine ⟨⟨.qd ?_ ?_ ?_,?_,hs.size,hs.lL.mono hle⟩,?_,g.kept,by have:=g.next; simp; omega,by simpa using g.low,?_,?_⟩
 ·intro b o' hg hd
  rw [St.cV] at hg;split at hg
  ·rename_i e; subst e; simp at hg; subst hg
   refine ⟨_,Ren.dk _ _ _,⟨fun i v hi=>?_,fun h=>by simp at h,fun _=>hm.base,fun _ j hj=>?_,by simp,fun _ _=>by simp,rfl,hm.gC,fun _ _ j=>hm.free j⟩⟩
   ·obtain ⟨v',h1,h2,h3⟩:=hm.cells i v hi
    exact ⟨v',by rw [bG]; exact h1,h2.mono hle,h3⟩
   ·have hj:j < cs.length:=hj
    obtain ⟨v',h1,_⟩:=hm.cells j _ (cl hj);exact ⟨by rw [h1]; rfl,hm.free j⟩
  ·obtain ⟨l',h1,h2⟩:=hs.rel.obj hg hd
   exact ⟨l',hle _ _ h1,h2.dj hle rfl (ao _)⟩
 ·intro b1 b2 o1 o2 l1 l2 bx g1 g2 m1 m2 r1 r2 vM
  have hd1:o1≠.dead:=by intro e; subst e; simp [aY.cr] at m1
  have hd2:o2≠.dead:=by intro e; subst e; simp [aY.cr] at m2
  rw [St.cV] at g1 g2;by_cases e1:b1=B1.next
  ·have e2:b2≠B1.next:=fun e=>bx (e1.trans e.symm)
   rw [ae e2] at g2;rw [e1,Ren.dk] at r1;rw [Ren.cX _ _ e2] at r2;simp at r1; subst r1;exact absurd vM.symm (hk b2 o2 l2 g2 hd2 r2)
  ·rw [ae e1] at g1
   rw [Ren.cX _ _ e1] at r1;by_cases e2:b2=B1.next
   ·rw [e2,Ren.dk] at r2
    simp at r2; subst r2;exact absurd vM (hk b1 o1 l1 g1 hd1 r1)
   ·rw [ae e2] at g2
    rw [Ren.cX _ _ e2] at r2;exact hs.rel.apart b1 b2 o1 o2 l1 l2 bx g1 g2 m1 m2 r1 r2 vM
 ·intro b o' aF f hg pd
  rw [St.cV] at hg;split at hg
  ·simp at hg; subst hg; simp [aY.hO] at pd
  ·exact hs.rel.aX b o' aF f hg pd
 ·intro b l' h
  rw [St.cv];by_cases e:b=B1.next
  ·omega
  ·rw [Ren.cX _ _ e] at h; have:=hs.fT b l' h; omega
 ·intro b hb
  rw [Ren.cX _ _ (by have:=g.next; omega)];exact g.ext b hb
 ·intro b hb qf
  rw [St.cV,ae (by have:=g.next; omega)];exact g.same b hb (by simpa using qf)
 ·rintro k' pd ⟨b,o',l',hg,Ey,hr,rfl⟩
  by_cases e:b=B1.next
  ·subst e
   rw [Ren.dk] at hr;simp at hr; subst hr;have:=hm.new;simp only at pd;omega
  ·rw [St.cV,ae e] at hg
   rw [Ren.cX _ _ e] at hr;exact g.S4 _ pd ⟨b,o',l',hg,Ey,hr,rfl⟩
theorem Wt {base:Nat} {ρ:Ren} {B:St} {w:World} (h:iu ρ B base w) {k:Nat} (hk:w.heap.size<=k):Ws ρ B k:=fun b l h1 h2 h3=>by
 cases hg:B.get b with
 | none=>exact absurd hg h1
 | some o=>
  have hd:o≠.dead:=fun e=>h2 (by rw [hg,e]);obtain ⟨l',e,ok⟩:=h.rel.obj hg hd;rw [h3] at e; simp at e; subst e;have:=ok.lt hd;omega
theorem Ws.late {ρ:Ren} {B:St} {k k' aQ:Nat} {cs:List Value} (h:Ws ρ B k) (bx:k'≠k):Ws (ρ.set B.next ⟨k',0,cs.length,aQ⟩) (B.new (.row cs aQ true none)) k:=fun b l h1 h2 h3=>by
 by_cases e:b=B.next
 ·subst e
  rw [Ren.dk] at h3;simp at h3; subst h3;exact bx
 ·rw [St.cV,ae e] at h1 h2
  rw [Ren.cX _ _ e] at h3;exact h b l h1 h2 h3
theorem SR {ρ:Ren} {b k:Nat} {s:Sl Int} {T:TypeId} (hT:aI P T=1) (Vh:dp (aH P T) ((List.range s.n).map fun i=>kI .i64 (s.get i))=true) (hz:E.z b=some ⟨(List.range s.n).map fun i=>.int .i64 (s.get i),1,true,none⟩) (iY:ρ b=some ⟨k,0,s.n,1⟩) :
  VC P E ρ (dS T (kI .i64) s) (.slice (some ⟨k,0,.none⟩) s.n s.n):=by
 have hvk:∀ (l:List Nat),aK P E (l.map fun i=>kI .i64 (s.get i)) (l.map fun i=>.int .i64 (s.get i)):=by
  intro l
  induction l with
  | nil=>exact .nil
  | cons x l ih=>exact .cons .mkInt ih
 refine ⟨.slice (some ⟨b,0,.none⟩) s.n s.n,?_,?_⟩
 ·unfold dS
  simp only [VK];refine ⟨⟨by simp,fun i hi=>?_,Vh⟩,_,hvk _,some ⟨b,0,.none⟩,s.n,rfl,ao _,.inr ⟨b,0,⟨_,1,true,.none⟩,rfl,hz,hT.symm,?_⟩,trivial⟩
  ·rw [eN,mf,List.getElem?_range hi]
   rfl
  ·rw [hT]
   intro i y hy;refine ⟨?_,fun j z hz=>?_⟩
   ·rw [mf] at hy
    obtain ⟨x,_,rfl⟩:=aU.1 hy;rfl
   ·rw [mf] at hy
    obtain ⟨x,hx,rfl⟩:=aU.1 hy;have hj:j < 1:=(jg.1 hz).1;have:j=0:=by omega
    subst this;rw [show 0+i * 1+0=i by omega,mf,hx];exact hz
 ·simp only [VR]
  exact ⟨trivial,ao _,⟨k,0,s.n,1⟩,⟨k,0,.none⟩,s.n,iY,ao _,fun _=>rfl,by simp,rfl⟩
structure Du (w w1:World) (k:Nat) (s:Sl Int):Prop where
 new:w.heap.size<=k
 gC:k < w1.heap.size
 cells:∀ i,i < s.n->w1.cell? ⟨k,i,.none⟩=some (.int .i64 (s.get i))
 free:∀ j,w1.frozen? ⟨k,j,.none⟩=false
theorem Du.made {ρ:Ren} {base:Nat} {w w1:World} {k:Nat} {s:Sl Int} (h:Du w w1 k s) (hb:base<=w.heap.size):Made ρ base w w1 k 1 ((List.range s.n).map fun i=>.int .i64 (s.get i)):=
 ⟨dA hb h.new,h.new,h.gC,fun i v hi=>by
  rw [mf] at hi;obtain ⟨x,hx,rfl⟩:=aU.1 hi;obtain ⟨hl,rfl⟩:=cw.1 hx;rw [List.length_range] at hl;rw [List.getElem_range];exact ⟨_,h.cells i hl,by simp [VR],rfl⟩,h.free⟩
theorem ahD {g:FuncId} {F:List KV->KR KV} {T:TypeId} (hc:pq P g) (hT:aI P T=1) (Vh:∀ s:Sl Int,dp (aH P T) ((List.range s.n).map fun i=>kI .i64 (s.get i))=true)
  (h:∀ args v (E:Env) (A:ai) (B:St) (ρ:Ren) (base:Nat) (w:World) (bN:List Value),aA (F (normArgs P (bL P g) args)) v->args.length=(bL P g).length->ny P E ρ args bN->KJ P E A B ρ base w->
   Calls P g bN.toArray w fun e w'=>∃ (s1 s2:Sl Int) (k1 k2:Nat),v = .ng [dS T (kI .i64) s1,dS T (kI .i64) s2]/\e = .returned (.tuple #[.slice (some ⟨k1,0,.none⟩) s1.n s1.n,.slice (some ⟨k2,0,.none⟩) s2.n s2.n])/\k1≠k2/\Du w w' k1 s1/\Du w w' k2 s2/\RowKit.Below w.heap.size w w'):cA P g F:=
 fun args v hF hlen=>⟨hc,fun E A B ρ base w bN hv hj=>(h args v E A B ρ base w bN hF hlen hv hj).mono fun e w' ⟨s1,s2,k1,k2,h1,h2,bx,i1,i2,hb⟩=>by
  subst h1;have g0:=cp.below hj.s hb;have g1:=cp.late g0 (i1.made hj.s.size) (Wt hj.s i1.new);have aoa:=hj.s.um ⟨k1,0,((List.range s1.n).map fun i=>Value.int .i64 (s1.get i)).length,1⟩;have g2:=cp.late g1 ((i2.made hj.s.size).mono aoa) ((Wt hj.s i2.new).late bx);have z1:=cF.U7 (bX:=(List.range s1.n).map fun i=>Value.int .i64 (s1.get i)) (aQ:=1) hj.k;have z2:=cF.U7 (bX:=(List.range s2.n).map fun i=>Value.int .i64 (s2.get i)) (aQ:=1) z1.dI;have z:=z1.trans (by simp) z2;have alJ:=g1.dI.um ⟨k2,0,((List.range s2.n).map fun i=>Value.int .i64 (s2.get i)).length,1⟩;refine ⟨_,_,_,_,h2,?_,z.ev g2⟩;have q1:=SR (P:=P) (b:=B.next) (k:=k1) (s:=s1) hT (Vh s1) (E:=E.dW B.next ⟨(List.range s1.n).map fun i=>Value.int .i64 (s1.get i),1,true,.none⟩) (by simp [Env.dW]) (ρ:=ρ.set B.next ⟨k1,0,((List.range s1.n).map fun i=>Value.int .i64 (s1.get i)).length,1⟩) (by simp [Ren.set]);have q2:=SR (P:=P) (b:=(B.new (.row ((List.range s1.n).map fun i=>Value.int .i64 (s1.get i)) 1 true none)).next) (k:=k2) (s:=s2) hT (Vh s2) (E:=(E.dW B.next ⟨(List.range s1.n).map fun i=>Value.int .i64 (s1.get i),1,true,.none⟩).dW (B.new (.row ((List.range s1.n).map fun i=>Value.int .i64 (s1.get i)) 1 true none)).next ⟨(List.range s2.n).map fun i=>Value.int .i64 (s2.get i),1,true,.none⟩) (by simp [Env.dW]) (ρ:=(ρ.set B.next ⟨k1,0,((List.range s1.n).map fun i=>Value.int .i64 (s1.get i)).length,1⟩).set (B.new (.row ((List.range s1.n).map fun i=>Value.int .i64 (s1.get i)) 1 true none)).next ⟨k2,0,((List.range s2.n).map fun i=>Value.int .i64 (s2.get i)).length,1⟩) (by simp [Ren.set]);obtain ⟨m,a1,a2⟩:ny P _ _ [dS T (kI .i64) s1,dS T (kI .i64) s2] [.slice (some ⟨k1,0,.none⟩) s1.n s1.n,.slice (some ⟨k2,0,.none⟩) s2.n s2.n]:=ny.zp (q1.mono z2.le alJ) (ny.zp q2 ⟨[],.nil,.nil⟩);exact ⟨.tuple ⟨m⟩,.Q0 a1,VR.mkTuple (l':=[.slice (some ⟨k1,0,.none⟩) s1.n s1.n,.slice (some ⟨k2,0,.none⟩) s2.n s2.n]) a2⟩⟩
end Go.K
end
