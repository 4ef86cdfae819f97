/- Part of the proof of PathsWhole: the machine, shown to be the model's, and plain models. No conditions. -/
import Derived.Test.YtckbdndhmcoihaaGreatHq
import Derived.Deep.RegionHeld3
set_option linter.unusedSimpArgs false
set_option linter.unusedVariables false
section
namespace Go.Proofs.YtckbdndhmcoihaaGreat.b
open Go.K
noncomputable section
structure gz where
 bZ:lX
 kids:(Sl (Sl Handle))
instance:Inhabited gz:=⟨⟨default,default⟩⟩
def af0 (x:gz):List KV:=[dD 111 VH x.bZ.cu,dD 35 (dD 32 jL) x.kids]
def Z6 (x:gz):KV:=.agg (af0 x)
def af1 (c:Nat->KV):gz:=⟨⟨eA QZ (c 0)⟩,eA (eA jM) (c 1)⟩
def Ku (v:KV):gz:=af1 fun k=>v.cells.getD k .bx
structure lr where
 t2:Bool
 n:Int
 i:Int
 g:gz
instance:Inhabited lr:=⟨⟨default,default,default,default⟩⟩
def w7 (x:lr):List KV:=[.bool x.t2,.int .i64 x.n,.int .i64 x.i]
def w8 (x:lr):List (List KV):=[af0 x.g]
def Dp (vs:List KV) (rs:List (List KV)):lr:=⟨j6 (v9 vs 0),av (v9 vs 1),av (v9 vs 2),af1 (r9 rs 0)⟩
def Fk:aB:=⟨[(2,w9 b9),(3,w9 i9),(4,w9 i9)],[(1,[n9 111,n9 35],1)],[(1,0,0)]⟩
def Po:=wU PG (mS PG [] [] (fun q=>Nat.beq q 4)) 9 9 41 122 (uI PG 41 122) Fk
def kq (x:lr):ba lr:=(cond (decide (x.i < (x.g.kids.n:Int))) (cond ((decide (0<=x.i))&&(decide (x.i < (x.g.kids.n:Int)))) (cond (decide ((bR (x.n+((x.g.kids.get (Int.toNat x.i)).n:Int))) > 400)) (.out aA.aa.ret ⟨true,(bR (x.n+((x.g.kids.get (Int.toNat x.i)).n:Int))),x.i,x.g⟩) (.next ⟨x.t2,(bR (x.n+((x.g.kids.get (Int.toNat x.i)).n:Int))),(bR (x.i+1)),x.g⟩)) .fail) (.out (aA.aa.exit 0) x))
theorem KN (x:lr):Po (w7 x) (w8 x)=ba.enc w7 w8 (kq x):=by
 unfold kq
 try simp only [ba.dr]
 kernel_rfl
def Fl:Lp:=⟨41,122,Fk,fun vs rs=>eE w7 w8 (goN kq (Dp vs rs)) [aA.aa.exit 0,aA.aa.ret],false⟩
theorem Pp:Fl.Ok PG:=zZ aw.nil bP.nil (pa:=Dp) KN
def xa (g:gz):=goN kq ⟨false,0,0,g⟩
def ov (g:gz):Option (Bool):=(cond (decide ((g.bZ.cu.n:Int) > 200)) (some (true)) (cond (decide ((g.kids.n:Int) > 200)) (some (true)) (cond ((xa g).by (aA.aa.exit 0)) (some (false)) (cond ((xa g).by aA.aa.ret) (some ((xa g).st.t2)) none))))
theorem VM (g:gz):zS PG (mS PG [] [Fl] (fun q=>Nat.beq q 4)) 9 9 41 [Z6 g] = (ov g).map kB:=by
 unfold ov
 try simp only [cK]
 kernel_rfl
def Ba:List KV->KR KV:=cJ PG 41 (cU kB fun vs=>ov (Ku (v9 vs 0)))
theorem z6:cB PG 41 Ba:=ir aw.nil (qP Pp bP.nil) fun w=>VM (Ku (g0 27 (w 0)))
end
end Go.Proofs.YtckbdndhmcoihaaGreat.b
end
section
namespace Go.K
open Go Go.aA
variable {P:Program} {E:Env}
theorem VC.af2 {ρ:Ren} {cs:List KV} {u:Value} (h:VC P E ρ (.agg cs) u):∃ l,u = .agg ⟨l⟩/\ny P E ρ cs l:=by
 obtain ⟨u',h1,h2⟩:=h;obtain ⟨l,rfl,q⟩:=h1.ju;obtain ⟨l',e,h3⟩:=h2.ju;exact ⟨l'.toList,e,l,q,h3⟩
theorem Br {A:ai} {B:St} {ρ:Ren} {base:Nat} {w:World} (hj:KJ P E A B ρ base w) {T:TypeId} {m:Mk} {n:Nat} {es:List KV} {acc:Nat->KV} {u:Value} (h:VC P E ρ (.ts T m n es acc) u) :
  ∃ a c,u = .slice a n c/\∀ i,i < n->∃ b off,a=some ⟨b,off,none⟩/\b < w.heap.size/\∀ k c',(acc i).cells[k]? = some c'->∃ z,w.cell? ⟨b,off+i * aJ P T+k,none⟩=some z/\VC P E ρ c' z:=by
 obtain ⟨u',hk,hr⟩:=h;obtain ⟨ht,aP,MH,a,cap,rfl,aeT,Gz,_⟩:=hk.jC;cases a with
 | none=>
  have:=hr.ff;subst this;refine ⟨none,cap,rfl,fun i hi=>?_⟩;rcases Gz with ⟨_,h0⟩ | ⟨b,off,r,e,_⟩
  ·omega
  ·simp at e
 | some a=>
  obtain ⟨ua,AK,lc,a',c',hl,ri,BF,jI,rfl⟩:=hr.iG;refine ⟨some a',c',rfl,fun i hi=>?_⟩;rcases Gz with ⟨e,_⟩ | ⟨b,off,r,e,hz,cS,anE⟩
  ·simp at e
  ·simp only [aR] at e
   subst e;have dB:=hj.k.z b r hz;obtain ⟨l,iL,ok⟩:=hj.s.rel.row _ _ _ _ _ dB;rw [hl] at iL;have:=wa iL;subst this;have KC:i < es.length:=by have:=ht.len; omega
   refine ⟨lc.cb,lc.cg+off,by rw [BF (by omega)],ok.gF,fun k c1 hc1=>?_⟩;have hg:es[i]? = some (acc i):=by
    rw [ht.acc i (by omega),eO,cl KC];rfl
   obtain ⟨y,hy,hvy⟩:=MH.get hg;have hkn:=(fw (fI ht.typed hg)).2;obtain ⟨hys,hyc⟩:=anE i y hy;obtain ⟨z,F7,vY⟩:=(hvy.cells hkn).get hc1;have:=hyc k z (by simpa using F7);obtain ⟨z',q1,q2,_⟩:=ok.cells _ z this;exact ⟨z',by rw [show lc.cg+off+i * aJ P T+k=lc.cg+(off+i * aJ P T+k) by omega]; exact q1,z,vY,q2⟩
end Go.K
end
section
namespace Go.K
open Go Go.aA
variable {P:Program} {E:Env}
def Trie.acq {α β:Type} (f:α->β):Trie α->Trie β
 | .leaf=>.leaf
 | .node v l r=>.node (v.map f) (Trie.acq f l) (Trie.acq f r)
theorem Trie.Q3 {α β:Type} (f:α->β):∀ (t:Trie α) (n:Nat),(Trie.acq f t).get n=(t.get n).map f
 | .leaf,n=>rfl
 | .node v l r,n=>by
  rw [Trie.get_eq,Trie.get_eq];cases n with
  | zero=>rfl
  | succ m=>
   have hl:=Trie.Q3 f l (Nat.div m 2);have hr:=Trie.Q3 f r (Nat.div m 2);rw [Trie.get_eq,Trie.get_eq] at hl hr;simp only [Trie.acq,Trie.wg];cases Nat.beq (Nat.mod m 2) 0 with
   | true=>exact hl
   | false=>exact hr
def aY.still:aY->aY
 | .row cs aQ _ _=>.row cs aQ false none
 | _=>.dead
def St.still (B:St):St:=⟨Trie.acq aY.still B.heap,B.next,0,.leaf⟩
theorem St.VN (B:St) (b:Nat):(St.still B).get b=(B.get b).map aY.still:=Trie.Q3 _ _ _
theorem St.ad6 (B:St) (g:Nat):(St.still B).members g = []:=rfl
def Env.still (E:Env):Env:={ κ:=fun _=>Option.none,z:=fun b=>(E.z b).map fun r=>{ r with own:=false,aZ:=Option.none },φ:=fun _=>Option.none,α:=fun _=>Option.none }
theorem Env.ahd (E:Env):SU E E.still:=fun b r e=>⟨{ r with own:=false,aZ:=Option.none },by simp [Env.still,e],rfl,rfl⟩
theorem St.M7 {B:St} {b:Nat} {o:aY} (h:(St.still B).get b=some o) (hd:o≠.dead):∃ cs aQ own aZ,B.get b=some (.row cs aQ own aZ)/\o = .row cs aQ false none:=by
 rw [St.VN] at h;cases hb:B.get b with
 | none=>rw [hb] at h; simp at h
 | some x=>
  rw [hb] at h;have h:some (aY.still x)=some o:=h;have h:=wa h;cases x <;> first
   | exact ⟨_,_,_,_,rfl,h.symm⟩
   | exact absurd h.symm hd
theorem St.Sm {B:St} {b:Nat} {o:aY} (h:(St.still B).get b=some o):o.ct=false:=by
 by_cases hd:o = .dead
 ·subst hd; rfl
 ·obtain ⟨_,_,_,_,_,rfl⟩:=St.M7 h hd
  rfl
theorem St.ad7 {B:St} {b:Nat} {o:aY} (h:(St.still B).get b=some o):o.hO=none:=by
 by_cases hd:o = .dead
 ·subst hd; rfl
 ·obtain ⟨_,_,_,_,_,rfl⟩:=St.M7 h hd
  rfl
theorem iv.still {ρ:Ren} {B:St} {base:Nat} {w:World} (h:iv ρ B base w):iv ρ (St.still B) w.heap.size w:=by
 refine ⟨.qe (fun b o hg hd=>?_) (fun b1 b2 o1 o2 l1 l2 _ h1 _ hm=>?_) (fun b o aF f hg hk=>?_),h.fZ,ao _,h.lK⟩
 ·obtain ⟨cs,aQ,own,aZ,e,rfl⟩:=St.M7 hg hd
  obtain ⟨l,e2,ok⟩:=h.rel.row _ _ _ _ _ e;refine ⟨l,e2,?_⟩;exact ⟨ok.cells,fun _=>ok.gF,fun e=>by simp at e,fun e=>by simp at e,ok.fits,fun e=>by simp at e,ok.aQ,ok.gF,fun e=>by simp at e⟩
 ·rw [St.Sm h1] at hm; simp at hm
 ·rw [St.ad7 hg] at hk; simp at hk
theorem du.still {A:ai} {B:St} (h:du P E A B):du P E.still .empty (St.still B) where
 row b cs aQ hb:=by simp [ai.empty,ai.get] at hb
 aF b top sz hb:=by simp [ai.empty,ai.get] at hb
 z b r e:=by
  simp only [Env.still,aU] at e;obtain ⟨r0,e,rfl⟩:=e;rw [St.VN,h.z b r0 e];rfl
 apart b x e:=by simp [Env.still] at e
 inj b c x e:=by simp [Env.still] at e
 iB b c g _ _ _ _ _ _ e:=by simp [Env.still] at e
 fZ b x e:=by simp [Env.still] at e
 lk b g e:=by simp [Env.still] at e
 live b o hb:=by simp [ai.empty,ai.get] at hb
 eD b x e:=by simp [Env.still] at e
 lT b r e:=by
  simp only [Env.still,aU] at e;obtain ⟨r0,e,rfl⟩:=e;exact h.lT b r0 e
 iU b g e:=by simp [Env.still] at e
 fresh g _:=rfl
 mem g x hx:=by rw [St.ad6] at hx; simp at hx
 ar:=by
  have hn:∀ b v,¬ ai.empty.get b=some (.arr v):=fun b v hb=>by simp [ai.empty,ai.get] at hb
  exact ⟨fun b v hb=>(hn b v hb).elim,fun b v hb=>by simp [ai.empty,ai.get] at hb,fun x ⟨b,v,_,_,hb,_⟩=>(hn b v hb).elim,fun b c v u x L N L' N' hb=>(hn b v hb).elim,fun b c v u x y L N L' N' cs e own g k b5 e' nJ k' hb=>(hn b v hb).elim,fun b x e=>by simp [Env.still] at e,fun b p e=>by simp [Env.still] at e,fun b x L N e=>by simp [Env.still] at e,fun b v x L N cs e own g k hb=>(hn b v hb).elim,fun b v hb=>(hn b v hb).elim⟩
theorem Sn {A:ai} {B:St} {ρ:Ren} {base:Nat} {w W:World} (hj:KJ P E A B ρ base w) (hw:RowKit.Below w.heap.size w W) {g:FuncId} {F:List KV->KR KV} (hpu:cB P g F) {args:List KV} {v:KV} {bM:List Value}
  (hF:az (F (normArgs P (bK P g) (normArgs P (bK P g) args))) v) (hlen:args.length=(bK P g).length) (hv:ny P E ρ args bM) :
  Calls P g bM.toArray W fun e W'=>∃ v' E' ak,e = .returned v'/\VC P E' ak v v'/\RowKit.Below W.heap.size W W':=by
 have hs:=iv.still (cq.below hj.s hw).dI;obtain ⟨m,h1,h2⟩:=hv;have vX:ny P E.still ρ (normArgs P (bK P g) args) bM:=⟨m,aK.GG (Env.ahd E) h1 hlen,h2⟩
 obtain ⟨_,kx⟩:=hpu _ v hF (Fe hlen);refine (kx E.still .empty (St.still B) ρ W.heap.size W bM vX ⟨hj.k.still,hs⟩).mono ?_;rintro e W' ⟨v',E',B',ak,rfl,q1,q2⟩;refine ⟨v',E',ak,rfl,q1,?_⟩;have k:=q2.gG.kept;refine ⟨k.os,k.tape,k.output,k.size,fun j hj=>k.block j hj ?_⟩;rintro ⟨b,o,l,ho,hm,_⟩;rw [St.Sm ho] at hm;simp at hm
theorem Pq {g:FuncId} {R:Type} [Inhabited R] {k:R->KV} {r:List KV->Option R} {aob:List KV} {x:R} (ha:jS P (bK P g) aob=true) (hr:r aob=some x):az (cJ P g (cU k r) aob) (k x):=by
 unfold cJ cU;rw [ha,hr];exact ⟨rfl,rfl⟩
theorem VC.bO {ρ:Ren} {k:IntKind} {n:Int} {v:Value} (h:VC P E ρ (.int k n) v):v = .int k n:=by
 obtain ⟨u,h1,h2⟩:=h;have h1:u = .int k n:=by simpa [VK] using h1
 subst h1;exact h2.bO
theorem ny.qQ {ρ:Ren} {c:KV} {cs:List KV} {l:List Value} (h:ny P E ρ (c::cs) l):∃ x xs,l=x::xs/\VC P E ρ c x/\ny P E ρ cs xs:=by
 obtain ⟨m,h1,h2⟩:=h;obtain ⟨y,ys,rfl,h3,h4⟩:=h1.cons_inv;obtain ⟨z,zs,rfl,h5,h6⟩:=h2.cons_inv;exact ⟨z,zs,rfl,⟨y,h3,h5⟩,⟨ys,h4,h6⟩⟩
theorem ny.Pr {ρ:Ren} {l:List Value} (h:ny P E ρ [] l):l = []:=by
 obtain ⟨m,h1,h2⟩:=h;rw [h1.bz] at h2;exact h2.bz
theorem ny.zv {ρ:Ren} {c:KV} {cs:List KV} {x:Value} {xs:List Value} (h:VC P E ρ c x) (h' : ny P E ρ cs xs):ny P E ρ (c::cs) (x::xs):=by
 obtain ⟨y,h1,h2⟩:=h;obtain ⟨ys,h3,h4⟩:=h';exact ⟨y::ys,.cons h1 h3,.cons h2 h4⟩
theorem ny.Tq {ρ:Ren} : ny P E ρ [] []:=⟨[],.nil,.nil⟩
theorem VC.af3 {ρ:Ren} {cs:List KV} {xs:List Value} (h:ny P E ρ cs xs):VC P E ρ (.agg cs) (.agg ⟨xs⟩):=by
 obtain ⟨ys,h3,h4⟩:=h;exact ⟨.agg ⟨ys⟩,by simp only [VK]; exact ⟨ys,rfl,h3⟩,by simp only [VR]; exact ⟨⟨xs⟩,by simpa [oh] using h4,rfl⟩⟩
end Go.K
end
section
set_option maxRecDepth 20000
namespace Go.Proofs.YtckbdndhmcoihaaGreat.nodes
open Go Go.RowKit Go.Lib Go.Shelf Go.K
abbrev hp (h:b.Handle):Int×Int:=(h.slot,h.gen)
structure VO (q:G) (B:Nat) (W:World):Prop where
 kids:∀ i,i < q.kn->∃ b off,q.ka=some ⟨b,off,none⟩/\b < B/\W.cell? ⟨b,off+i,none⟩=some (.slice (q.ia i) (q.im i) (q.ic i))
 row:∀ i,i < q.kn->∀ k,k < q.im i->∃ b off,q.ia i=some ⟨b,off,none⟩/\b < B/\W.cell? ⟨b,off+k * 2,none⟩=some (.int .i64 (q.cR i k).1)/\W.cell? ⟨b,off+k * 2+1,none⟩=some (.int .i64 (q.cR i k).2)
theorem VO.with {q:G} {B:Nat} {W:World} (h:VO q B W) (hs:∀ i,i < q.kn->q.im i<=1000000):GAt q B W:=⟨h.kids,hs,h.row⟩
theorem VO.di {q:G} {B mb:Nat} {W W' : World} (h:VO q B W) (k:Kp mb W W') (hB:B<=W.heap.size) (hm:B<=mb):VO q B W':=by
 refine ⟨fun i hi=>?_,fun i hi j hj=>?_⟩
 ·obtain ⟨b,off,h1,h2,h3⟩:=h.kids i hi
  exact ⟨b,off,h1,h2,by rw [k.cell (by omega) (by omega)]; exact h3⟩
 ·obtain ⟨b,off,h1,h2,h3,h4⟩:=h.row i hi j hj
  exact ⟨b,off,h1,h2,by rw [k.cell (by omega) (by omega)]; exact h3,by rw [k.cell (by omega) (by omega)]; exact h4⟩
structure Of (q:G) (g:b.gz) (B:Nat) (W:World):Prop where
 sn:q.sn=g.bZ.cu.n
 kn:q.kn=g.kids.n
 im:∀ i,q.im i=(g.kids.get i).n
 cR:∀ i k,q.cR i k=hp ((g.kids.get i).get k)
 slot:∀ i,i < q.sn->∃ b off,q.sa=some ⟨b,off,none⟩/\b < B/\W.cell? ⟨b,off+i * 2,none⟩=some (.int .i64 (g.bZ.cu.get i).gen)/\W.cell? ⟨b,off+i * 2+1,none⟩=some (.bool (g.bZ.cu.get i).live)
theorem Of.di {q:G} {g:b.gz} {B mb:Nat} {W W' : World} (h:Of q g B W) (k:Kp mb W W') (hB:B<=W.heap.size) (hm:B<=mb):Of q g B W':=by
 refine ⟨h.sn,h.kn,h.im,h.cR,fun i hi=>?_⟩;obtain ⟨b,off,h1,h2,h3,h4⟩:=h.slot i hi;exact ⟨b,off,h1,h2,by rw [k.cell (by omega) (by omega)]; exact h3,by rw [k.cell (by omega) (by omega)]; exact h4⟩
theorem anF:aJ Tryz.prog 35=1:=by kernel_rfl
theorem ajr:aJ Tryz.prog 32=2:=by kernel_rfl
theorem amu:aJ Tryz.prog 111=2:=by kernel_rfl
theorem ahe {E:Env} {A:ai} {B:aA.St} {ρ:aA.Ren} {base:Nat} {w:World} {g:b.gz} {u:Value} (hj:KJ Tryz.prog E A B ρ base w) (h:VC Tryz.prog E ρ (b.Z6 g) u) :
  ∃ q:G,u=gv q/\VO q w.heap.size w/\Of q g w.heap.size w/\VC Tryz.prog E ρ (b.rN g.bZ) (.agg #[.slice q.sa q.sn q.sc]):=by
 obtain ⟨l,rfl,hl⟩:=h.af2;obtain ⟨x,xs,rfl,h1,iM⟩:=hl.qQ;obtain ⟨y,ys,rfl,h2,WR⟩:=iM.qQ;obtain rfl:=WR.Pr;obtain ⟨sa,sc,rfl,H1⟩:=Br hj h1;obtain ⟨ka,kc,rfl,H2⟩:=Br hj h2;have H3:∀ i,∃ p:Option Addr×Nat,i < g.kids.n->(∃ b off,ka=some ⟨b,off,none⟩/\b < w.heap.size/\w.cell? ⟨b,off+i,none⟩=some (.slice p.1 (g.kids.get i).n p.2))/\
   ∀ k,k < (g.kids.get i).n->∃ b off,p.1=some ⟨b,off,none⟩/\b < w.heap.size/\w.cell? ⟨b,off+k * 2,none⟩=some (.int .i64 ((g.kids.get i).get k).slot)/\w.cell? ⟨b,off+k * 2+1,none⟩=some (.int .i64 ((g.kids.get i).get k).gen):=by
  intro i;by_cases hi:i < g.kids.n
  ·obtain ⟨bb,off,e1,e2,e3⟩:=H2 i hi
   obtain ⟨z,z1,z2⟩:=e3 0 (dD 32 b.jL (g.kids.get i)) rfl;obtain ⟨a,c,rfl,H⟩:=Br hj z2;rw [anF] at z1;refine ⟨(a,c),fun _=>⟨⟨bb,off,e1,e2,by rw [show off+i=off+i * 1+0 by omega]; exact z1⟩,fun k hk=>?_⟩⟩;obtain ⟨bc,ajs,r1,r2,r3⟩:=H k hk;obtain ⟨z,s1,s2⟩:=r3 0 (.int .i64 ((g.kids.get i).get k).slot) rfl;obtain ⟨z',t1,t2⟩:=r3 1 (.int .i64 ((g.kids.get i).get k).gen) rfl;rw [ajr] at s1 t1;rw [s2.bO] at s1;rw [t2.bO] at t1;exact ⟨bc,ajs,r1,r2,s1,t1⟩
  ·exact ⟨(none,0),fun h=>absurd h hi⟩
 obtain ⟨f,hf⟩:=Classical.axiomOfChoice H3;refine ⟨⟨sa,g.bZ.cu.n,sc,ka,g.kids.n,kc,fun i=>(f i).1,fun i=>(g.kids.get i).n,fun i=>(f i).2,fun i k=>hp ((g.kids.get i).get k)⟩,rfl,⟨fun i hi=>(hf i hi).1,fun i hi k hk=>(hf i hi).2 k hk⟩,⟨rfl,rfl,fun _=>rfl,fun _ _=>rfl,fun i hi=>?_⟩,.af3 (.zv h1 .Tq)⟩;obtain ⟨bb,off,e1,e2,e3⟩:=H1 i hi;obtain ⟨z,s1,s2⟩:=e3 0 (.int .i64 (g.bZ.cu.get i).gen) rfl;obtain ⟨z',t1,t2⟩:=e3 1 (.bool (g.bZ.cu.get i).live) rfl;rw [amu] at s1 t1;rw [s2.bO] at s1;rw [t2.dq] at t1;exact ⟨bb,off,e1,e2,s1,t1⟩
theorem acr {E:Env} {A:ai} {B:aA.St} {ρ:aA.Ren} {base:Nat} {w W:World} (hj:KJ Tryz.prog E A B ρ base w) (hw:Below w.heap.size w W) {a:b.lX} {x:Value} (hx:VC Tryz.prog E ρ (b.rN a) x) {n:Int} (hn:b.dz a=some n) :
  Calls Tryz.prog 120 #[x] W fun e W'=>e = .returned (.int .i64 n)/\Below W.heap.size W W':=by
 have ep:bK Tryz.prog 120 = [24]:=by kernel_rfl
 have en:normArgs Tryz.prog (bK Tryz.prog 120) (normArgs Tryz.prog (bK Tryz.prog 120) [b.rN a]) = [b.rN a]:=by rw [ep]; kernel_rfl
 refine (Sn hj hw b.Dn (args:=[b.rN a]) (v:=kI .i64 n) (by rw [en]; exact Pq (by rw [ep]; kernel_rfl) hn) (by rw [ep]; rfl) (.zv hx .Tq)).mono ?_;rintro e W' ⟨v',E',ak,rfl,q1,q2⟩;exact ⟨by rw [q1.bO],q2⟩
theorem acs {E:Env} {A:ai} {B:aA.St} {ρ:aA.Ren} {base:Nat} {w W:World} (hj:KJ Tryz.prog E A B ρ base w) (hw:Below w.heap.size w W) {a:b.lX} {x:Value} (hx:VC Tryz.prog E ρ (b.rN a) x) {h:Int×Int} {r:Bool} (hn:b.de a ⟨h.1,h.2⟩=some r) :
  Calls Tryz.prog 77 #[x,hv h] W fun e W'=>e = .returned (.bool r)/\Below W.heap.size W W':=by
 have ep:bK Tryz.prog 77 = [24,32]:=by kernel_rfl
 have en:normArgs Tryz.prog (bK Tryz.prog 77) (normArgs Tryz.prog (bK Tryz.prog 77) [b.rN a,b.jL ⟨h.1,h.2⟩]) = [b.rN a,b.jL ⟨h.1,h.2⟩]:=by rw [ep]; kernel_rfl
 have hh:VC Tryz.prog E ρ (b.jL ⟨h.1,h.2⟩) (hv h):=.af3 (.zv ⟨_,.mkInt,by simp [aA.VR]⟩ (.zv ⟨_,.mkInt,by simp [aA.VR]⟩ .Tq));refine (Sn hj hw b.ou (args:=[b.rN a,b.jL ⟨h.1,h.2⟩]) (v:=kB r) (by rw [en]; exact Pq (by rw [ep]; kernel_rfl) hn) (by rw [ep]; rfl) (.zv hx (.zv hh .Tq))).mono ?_;rintro e W' ⟨v',E',ak,rfl,q1,q2⟩;exact ⟨by rw [q1.dq],q2⟩
set_option maxHeartbeats 4000000 in
theorem np {E:Env} {A:ai} {B:aA.St} {ρ:aA.Ren} {base:Nat} {w W:World} (hj:KJ Tryz.prog E A B ρ base w) (hw:Below w.heap.size w W) {a:b.lX} {q:G} (hx:VC Tryz.prog E ρ (b.rN a) (.agg #[.slice q.sa q.sn q.sc])) (h:Int×Int) {r:Bool} (hn:b.de a ⟨h.1,h.2⟩=some r)
  {bg:Nat} (hbg:bg < W.heap.size) (c0:W.cell? ⟨bg,0,none⟩=some (.slice q.sa q.sn q.sc)) :
  Calls Tryz.prog 121 #[hv h,.pointer (some ⟨bg,0,none⟩)] W fun e W'=>e = .returned (.bool (!r))/\Below W.heap.size W W':=by
 have mixed:=s5;have t32:=Tryz.underlying32; have a32:=Tryz.isAgg32; have z32:=Tryz.sizeOf32; have v32:=Tryz.zeroValue32; have u32:=run_underlying Tryz.underlying32;have t27:=Tryz.underlying27; have a27:=Tryz.isAgg27; have z27:=Tryz.sizeOf27; have v27:=Tryz.zeroValue27; have u27:=run_underlying Tryz.underlying27;have t24:=Tryz.underlying24; have a24:=Tryz.isAgg24; have z24:=Tryz.sizeOf24; have v24:=Tryz.zeroValue24; have u24:=run_underlying Tryz.underlying24;have t22:=Tryz.underlying22; have a22:=Tryz.isAgg22; have z22:=Tryz.sizeOf22; have v22:=Tryz.zeroValue22; have u22:=run_underlying Tryz.underlying22;have t4:=Tryz.underlying4; have a4:=Tryz.isAgg4; have z4:=Tryz.sizeOf4; have v4:=Tryz.zeroValue4; have u4:=run_underlying Tryz.underlying4;have hc:=acs hj (W:=W.alloc (.cells #[.int .i64 h.1,.int .i64 h.2] 32)) (hw.alloc hw.size _) hx hn;have c1:(W.alloc (.cells #[.int .i64 h.1,.int .i64 h.2] 32)).cell? ⟨bg,0,none⟩=some (.slice q.sa q.sn q.sc):=((Kp.alloc (mb:=W.heap.size) W _).cell hbg (by omega)).trans c0
 go_enter Tryz.func121,Tryz.ntmps121
 go_wp2_with (go_at_call 77; refine hc.mono ?_; rintro e w' ⟨rfl,hk⟩)
 go_wp2
 go_ret
 exact ⟨rfl,(Below.refl _ _ |>.alloc (ao _) _).trans (hk.mono (by simp))⟩
set_option maxHeartbeats 4000000 in
theorem under (q:G) (B mb:Nat) (pA to:Int×Int) (U:List (Int×Int)) (hU:∀ u∈U,(0<=u.1/\u.1 < (q.kn:Int))/\∀ k,k < q.im u.1.toNat->q.cR u.1.toNat k∈U) (S:List (Int×Int)) (W:World)
  (hf:pA∈U) (hg:GAt q B W) (hB:B<=W.heap.size) (hm:B<=mb) (hM:MapAt mb W S) (ht:to ∉ S) {bg bs bt:Nat} (lg:bg < W.heap.size/\bg≠mb) (ls:bs < W.heap.size/\bs≠mb) (lt:bt < W.heap.size/\bt≠mb)
  (c0:W.cell? ⟨bg,0,none⟩=some (.slice q.sa q.sn q.sc)) (c1:W.cell? ⟨bg,1,none⟩=some (.slice q.ka q.kn q.kc)) (c2:W.cell? ⟨bs,0,none⟩=some (.map (some mb))) (c3:W.cell? ⟨bt,0,none⟩=some (.int .i64 to.1)) (c4:W.cell? ⟨bt,1,none⟩=some (.int .i64 to.2)) :
  Calls Tryz.prog 123 #[hv pA,.pointer (some ⟨bg,0,none⟩),.pointer (some ⟨bs,0,none⟩),.pointer (some ⟨bt,0,none⟩)] W fun e W'=>∃ S' r,e = .returned (.bool r)/\MapAt mb W' S'/\Kp mb W W'/\(r=true/\Reach q to pA\/r=false/\Grow q S pA S'/\to ∉ S'):=by
 have mixed:=s5;have t32:=Tryz.underlying32; have a32:=Tryz.isAgg32; have z32:=Tryz.sizeOf32; have v32:=Tryz.zeroValue32; have u32:=run_underlying Tryz.underlying32;have t27:=Tryz.underlying27; have a27:=Tryz.isAgg27; have z27:=Tryz.sizeOf27; have v27:=Tryz.zeroValue27; have u27:=run_underlying Tryz.underlying27;have t202:=Tryz.underlying202; have afX:=Tryz.isAgg202; have afY:=Tryz.sizeOf202; have afZ:=Tryz.zeroValue202; have Je:=run_underlying Tryz.underlying202;have t4:=Tryz.underlying4; have a4:=Tryz.isAgg4; have z4:=Tryz.sizeOf4; have v4:=Tryz.zeroValue4; have u4:=run_underlying Tryz.underlying4;have SJ:mb < W.heap.size:=by obtain ⟨es,c,h,_⟩:=hM; exact (jh.1 h).1
 have KA:=Kp.alloc (mb:=mb) W (.cells #[.int .i64 pA.1,.int .i64 pA.2] 32);have hM1:MapAt mb (W.alloc (.cells #[.int .i64 pA.1,.int .i64 pA.2] 32)) S:=by
  obtain ⟨es,c,h1,h2⟩:=hM;exact ⟨es,c,by rw [Below.heap_alloc _ _ _ SJ]; exact h1,h2⟩
 have hc:=below q B mb pA to U hU S (W.alloc (.cells #[.int .i64 pA.1,.int .i64 pA.2] 32)) hf (hg.di KA hB hm) (dx hB KA.size) hm hM1 ht;have d0:=(KA.cell lg.1 lg.2).trans c0;have d1:=(KA.cell lg.1 lg.2).trans c1;have d2:=(KA.cell ls.1 ls.2).trans c2;have d3:=(KA.cell lt.1 lt.2).trans c3;have d4:=(KA.cell lt.1 lt.2).trans c4;obtain ⟨f1,f2⟩:=pA;obtain ⟨t1,t2⟩:=to
 go_enter Tryz.func123,Tryz.ntmps123
 go_wp2_with (go_at_call 124; refine hc.mono ?_; rintro e w' ⟨S',r,rfl,hr⟩)
 go_wp2
 go_ret
 exact ⟨S',r,rfl,hr.1,KA.trans hr.2.1,hr.2.2⟩
theorem Jg {q:G} {to:Int×Int} {S:List (Int×Int)} (hS:∀ x∈S,∀ k,k < q.im x.1.toNat->q.cR x.1.toNat k∈S) (ht:to ∉ S):∀ {x:Int×Int},Reach q to x->x ∉ S
 | _,.here=>ht
 | _,.cR h k hk r=>fun hm=>Jg hS ht r (hS h hm k hk)
theorem Grow.closed {q:G} {S S' : List (Int×Int)} {h:Int×Int} (g:Grow q S h S') (hS:∀ x∈S,∀ k,k < q.im x.1.toNat->q.cR x.1.toNat k∈S):∀ x∈S',∀ k,k < q.im x.1.toNat->q.cR x.1.toNat k∈S':=fun x hx k hk=>
 (g.new x hx).elim (fun h1=>g.sub _ (hS x h1 k hk)) fun h1=>h1 k hk
theorem ad8 {W:World} {mb:Nat} {es:Array MapEntry} {clock:Nat} (hm:W.heap[mb]? = some (.map es clock)) :
  (Builtin.clear_ #[202] 0 #[.map (some mb)]).run Tryz.prog W = .ok (.tuple #[]) (put W mb (.map #[] clock)):=by
 have Je:=run_underlying Tryz.underlying202;simp [Builtin.clear_,Je,MapKept.run_getObj_map hm,MapKept.run_setObj_map _ hm,Result.andThen];rfl
theorem run_make (W:World):(Instr.makeMap 202 none).run Tryz.prog W = .ok (.map (some W.heap.size)) (W.alloc (.map #[] 0)):=by
 have Je:=run_underlying Tryz.underlying202;simp [Instr.makeMap,Result.andThen,newObj,Sem.run]
 try rfl
set_option maxHeartbeats 4000000 in
theorem reaches (q:G) (B:Nat) (pA to:Int×Int) (U:List (Int×Int)) (hU:∀ u∈U,(0<=u.1/\u.1 < (q.kn:Int))/\∀ k,k < q.im u.1.toNat->q.cR u.1.toNat k∈U) (W:World)
  (hf:pA∈U) (hg:GAt q B W) (hB:B<=W.heap.size) :
  Calls Tryz.prog 214 #[gv q,hv pA,hv to] W fun e W'=>∃ r,e = .returned (.bool r)/\Below W.heap.size W W'/\(r=true↔Reach q to pA):=by
 have mixed:=s5;have t32:=Tryz.underlying32; have a32:=Tryz.isAgg32; have z32:=Tryz.sizeOf32; have v32:=Tryz.zeroValue32; have u32:=run_underlying Tryz.underlying32;have t27:=Tryz.underlying27; have a27:=Tryz.isAgg27; have z27:=Tryz.sizeOf27; have v27:=Tryz.zeroValue27; have u27:=run_underlying Tryz.underlying27;have t202:=Tryz.underlying202; have afX:=Tryz.isAgg202; have afY:=Tryz.sizeOf202; have afZ:=Tryz.zeroValue202; have Je:=run_underlying Tryz.underlying202;have t4:=Tryz.underlying4; have a4:=Tryz.isAgg4; have z4:=Tryz.sizeOf4; have v4:=Tryz.zeroValue4; have u4:=run_underlying Tryz.underlying4;have KG:=run_make;have qM:Calls Tryz.prog 124 #[gv q,.map (some (W.heap.size+1+1+1)),hv pA,hv to] ((((W.alloc (.cells #[.slice q.sa q.sn q.sc,.slice q.ka q.kn q.kc] 27)).alloc (.cells #[.int .i64 pA.1,.int .i64 pA.2] 32)).alloc (.cells #[.int .i64 to.1,.int .i64 to.2] 32)).alloc (.map #[] 0))
   fun e W'=>∃ r,e = .returned (.bool r)/\Below W.heap.size W W'/\(r=true↔Reach q to pA):=by
  have K1:=((((Kp.alloc (mb:=W.heap.size+1+1+1) W (.cells #[.slice q.sa q.sn q.sc,.slice q.ka q.kn q.kc] 27)).trans (Kp.alloc _ (.cells #[.int .i64 pA.1,.int .i64 pA.2] 32))).trans (Kp.alloc _ (.cells #[.int .i64 to.1,.int .i64 to.2] 32))).trans (Kp.alloc _ (.map #[] 0)))
  refine (below q B (W.heap.size+1+1+1) pA to U hU [] _ hf (hg.di K1 hB (by omega)) (dx hB K1.size) (by omega) ⟨#[],0,rM _ _ _ (by simp),QX⟩ (by simp)).mono ?_;rintro e W' ⟨S',r,rfl,_,k2,hr⟩;refine ⟨r,rfl,(K1.trans k2).below (ao _) (by omega),?_⟩;rcases hr with ⟨rfl,hr⟩ | ⟨rfl,hg,hn⟩
  ·exact ⟨fun _=>hr,fun _=>rfl⟩
  ·exact ⟨fun h=>by simp at h,fun h=>(Jg (hg.closed (by simp)) hn h hg.is).elim⟩
 obtain ⟨f1,f2⟩:=pA;obtain ⟨t1,t2⟩:=to
 go_enter Tryz.func214,Tryz.ntmps214
 go_wp2_with (go_at_call 124; refine qM.mono ?_; rintro e w' ⟨r,rfl,hr⟩)
 go_wp2
 go_ret
 exact ⟨r,rfl,hr⟩
def qOf (g:b.gz):G:=⟨none,0,0,none,g.kids.n,0,fun _=>none,fun i=>(g.kids.get i).n,fun _=>0,fun i k=>hp ((g.kids.get i).get k)⟩
theorem Of.reach {q:G} {g:b.gz} {B:Nat} {W:World} (h:Of q g B W) {to x:Int×Int} : Reach q to x↔Reach (qOf g) to x:=by
 constructor
 ·intro r
  induction r with
  | here=>exact .here
  | cR h' k hk _ ih=>
   rw [h.im] at hk;rw [h.cR] at ih;exact .cR (q:=qOf g) h' k hk ih
 ·intro r
  induction r with
  | here=>exact .here
  | cR h' k hk _ ih=>exact .cR h' k (by rw [h.im]; exact hk) (by rw [h.cR]; exact ih)
def lL (g:b.gz) (i:Nat):Prop:=(g.kids.get i).n<=16/\(0 < (g.kids.get i).n->(g.bZ.cu.get i).live=true)/\∀ k,k < (g.kids.get i).n->b.de g.bZ ((g.kids.get i).get k)=some true
def Aw (g:b.gz) (i:Nat):Prop:=∀ k,k < (g.kids.get i).n->¬ Reach (qOf g) ((i:Int),(g.bZ.cu.get i).gen) (hp ((g.kids.get i).get k))
structure mK (g:b.gz):Prop where
 cu:b.dz g.bZ=some 0
 len:g.kids.n=g.bZ.cu.n
 row:∀ i,i < g.kids.n->lL g i
 free:∀ i,i < g.kids.n->Aw g i
theorem acu {W W' : World} (h:Below W.heap.size W W') (mb:Nat):Kp mb W W':=⟨h.os,h.tape,h.output,h.size,fun k hk _=>h.block k hk⟩
theorem ad9 (a:b.lX) (h:b.Handle) {n:Int} (hn:b.dz a=some n):∃ r,b.de a h=some r:=by
 unfold b.de b.pD b.pE;rw [hn];simp only [nm,ah,iD];cases n==0 with
 | false=>exact ⟨_,rfl⟩
 | true=>
  have:∃ r,b.jX a h=some r:=by
   unfold b.jX;by_cases h1:h.slot >= 0
   ·by_cases h2:h.slot < (a.cu.n:Int)
    ·simp [h1,h2]
    ·simp [h1,h2]
   ·simp [h1]
  obtain ⟨r,hr⟩:=this;rw [hr];exact ⟨r,rfl⟩
theorem Z7 {a:b.lX} (hn:b.dz a=some 0):a.cu.n<=128:=by
 unfold b.dz at hn;by_cases h:((a.cu.n:Nat):Int) > 128
 ·rw [au h,ah] at hn
  simp at hn
 ·omega
theorem ajt {a:b.lX} {h:b.Handle} (hn:b.de a h=some true):0<=h.slot/\h.slot < (a.cu.n:Int):=by
 unfold b.de b.pD b.pE at hn;by_cases h1:h.slot >= 0
 ·by_cases h2:h.slot < (a.cu.n:Int)
  ·exact ⟨h1,h2⟩
  ·exfalso
   revert hn
   cases (b.dz a).isSome with
   | false=>simp
   | true=>
    cases ((b.dz a).getD default==0) with
    | false=>simp
    | true=>simp [b.jX,h1,h2]
 ·exfalso
  revert hn
  cases (b.dz a).isSome with
  | false=>simp
  | true=>
   cases ((b.dz a).getD default==0) with
   | false=>simp
   | true=>simp [b.jX,h1]
set_option maxHeartbeats 8000000 in
theorem check {E:Env} {A:ai} {B:aA.St} {ρ:aA.Ren} {base:Nat} {w:World} (hj:KJ Tryz.prog E A B ρ base w) {g:b.gz} {q:G} (hg:VO q w.heap.size w) (ho:Of q g w.heap.size w) (hx:VC Tryz.prog E ρ (b.rN g.bZ) (.agg #[.slice q.sa q.sn q.sc])) {n:Int} (hn:b.dz g.bZ=some n) :
  Calls Tryz.prog 73 #[gv q] w fun e w'=>∃ n,e = .returned (.int .i64 n)/\Below w.heap.size w w'/\(n=0/\mK g\/n=8/\¬ mK g):=by
 have mixed:=s5;have t46:=Tryz.underlying46; have a46:=Tryz.isAgg46; have z46:=Tryz.sizeOf46; have v46:=Tryz.zeroValue46; have u46:=run_underlying Tryz.underlying46;have t32:=Tryz.underlying32; have a32:=Tryz.isAgg32; have z32:=Tryz.sizeOf32; have v32:=Tryz.zeroValue32; have u32:=run_underlying Tryz.underlying32;have t27:=Tryz.underlying27; have a27:=Tryz.isAgg27; have z27:=Tryz.sizeOf27; have v27:=Tryz.zeroValue27; have u27:=run_underlying Tryz.underlying27;have t24:=Tryz.underlying24; have a24:=Tryz.isAgg24; have z24:=Tryz.sizeOf24; have v24:=Tryz.zeroValue24; have u24:=run_underlying Tryz.underlying24;have t22:=Tryz.underlying22; have a22:=Tryz.isAgg22; have z22:=Tryz.sizeOf22; have v22:=Tryz.zeroValue22; have u22:=run_underlying Tryz.underlying22;have t25:=Tryz.underlying25; have a25:=Tryz.isAgg25; have z25:=Tryz.sizeOf25; have v25:=Tryz.zeroValue25; have u25:=run_underlying Tryz.underlying25;have t35:=Tryz.underlying35; have a35:=Tryz.isAgg35; have z35:=Tryz.sizeOf35; have v35:=Tryz.zeroValue35; have u35:=run_underlying Tryz.underlying35;have t111:=Tryz.underlying111; have a111:=Tryz.isAgg111; have z111:=Tryz.sizeOf111; have v111:=Tryz.zeroValue111; have u111:=run_underlying Tryz.underlying111;have t202:=Tryz.underlying202; have afX:=Tryz.isAgg202; have afY:=Tryz.sizeOf202; have afZ:=Tryz.zeroValue202; have Je:=run_underlying Tryz.underlying202;have t200:=Tryz.underlying200; have alE:=Tryz.isAgg200; have alF:=Tryz.sizeOf200; have alG:=Tryz.zeroValue200; have alH:=run_underlying Tryz.underlying200;have t3:=Tryz.underlying3; have a3:=Tryz.isAgg3; have z3:=Tryz.sizeOf3; have v3:=Tryz.zeroValue3; have u3:=run_underlying Tryz.underlying3;have t4:=Tryz.underlying4; have a4:=Tryz.isAgg4; have z4:=Tryz.sizeOf4; have v4:=Tryz.zeroValue4; have u4:=run_underlying Tryz.underlying4;have Z8:Below w.heap.size w (w.alloc (.cells #[.slice q.sa q.sn q.sc,.slice q.ka q.kn q.kc] 27)):=(Below.refl _ _).alloc (ao _) _;have W7:=acr hj Z8 hx hn;have cg0:(w.alloc (.cells #[.slice q.sa q.sn q.sc,.slice q.ka q.kn q.kc] 27)).cell? ⟨w.heap.size,0,none⟩=some (.slice q.sa q.sn q.sc):=by simp
 have cg1:(w.alloc (.cells #[.slice q.sa q.sn q.sc,.slice q.ka q.kn q.kc] 27)).cell? ⟨w.heap.size,1,none⟩=some (.slice q.ka q.kn q.kc):=by simp
 have sg:(w.alloc (.cells #[.slice q.sa q.sn q.sc,.slice q.ka q.kn q.kc] 27)).heap.size=w.heap.size+1:=by simp
 generalize Q4:w.alloc (.cells #[.slice q.sa q.sn q.sc,.slice q.ka q.kn q.kc] 27)=W1 at W7 Z8 cg0 cg1 sg
 go_enter Tryz.func73,Tryz.ntmps73
 by_cases WH:n=0
 ·subst WH
  have hsm:q.sn<=128:=by rw [ho.sn]; exact Z7 hn
  by_cases hlen:q.kn=q.sn
  ·have MI:((q.kn:Int)==(q.sn:Int))=true:=by rw [hlen]; exact beq_self_eq_true _
   have amv:((q.kn:Int) != (q.sn:Int))=false:=by rw [hlen]; exact bne_self_eq_false _
   have aju:q.kn<=q.sn/\q.sn<=q.kn:=by omega
   clear hlen
   go_wp2_with (go_at_call 120; refine W7.mono ?_; rintro e w2 ⟨rfl,hk⟩; have c0:=(hk.cell (p:=⟨w.heap.size,0,none⟩) (by show w.heap.size < _; omega)).trans cg0; have c1:=(hk.cell (p:=⟨w.heap.size,1,none⟩) (by show w.heap.size < _; omega)).trans cg1)
   have bW:Below W1.heap.size W1 w2:=hk
   go_wp2
   go_loopg [27] q.kn (fun gg s27 wr=>∃ kk:Nat,kk<=q.kn/\q.kn - kk<=gg/\s27 = .int .i64 kk/\Aside (Below W1.heap.size W1 wr/\∀ i,i < kk->lL g i))
   case atStart=>exact ⟨0,mf _,by omega,rfl,bW,fun i hi=>absurd hi (mM _)⟩
   case round=>
    obtain ⟨kk,YT,hgg,rfl,BW⟩:=hrel;clear MI amv;by_cases aI:kk < q.kn
    ·have acm:(kk:Int) < (q.kn:Int):=by omega
     have hltz2:(kk:Int) < (q.sn:Int):=by omega
     have BWw:Below w.heap.size w wr:=Z8.trans (BW.out.1.mono (by omega));have ze:=hg.di (acu BWw w.heap.size) (ao _) (ao _);have hoo:=ho.di (acu BWw w.heap.size) (ao _) (ao _);have e0:=(BW.out.1.cell (p:=⟨w.heap.size,0,none⟩) (by show w.heap.size < _; omega)).trans cg0;have e1:=(BW.out.1.cell (p:=⟨w.heap.size,1,none⟩) (by show w.heap.size < _; omega)).trans cg1;obtain ⟨bk,ok,hka,hbk,dB⟩:=ze.kids kk aI;obtain ⟨bl,ol,hsa,YM,alK,ajv⟩:=hoo.slot kk (by omega);have him:q.im kk<=(g.kids.get kk).n/\(g.kids.get kk).n<=q.im kk:=by rw [ho.im]; exact ⟨ao _,ao _⟩
     have qM:q.im kk<=16->∀ V,Below W1.heap.size W1 V->Calls Tryz.prog 122 #[.slice (q.ia kk) (q.im kk) (q.ic kk),.func (.func 121) #[] #[.pointer (some ⟨w.heap.size,0,none⟩)]] V fun e W'=>∃ r,e = .returned (.bool r)/\Below W1.heap.size W1 W'/\(r=true/\¬ lL g kk\/r=false/\∀ k,k < q.im kk->b.de g.bZ ((g.kids.get kk).get k)=some true):=by
      intro h16 V hV;refine (M5 121 #[.pointer (some ⟨w.heap.size,0,none⟩)] (enters_of Tryz.func121 (by kernel_rfl) rfl) (q.ia kk) (q.im kk) (q.ic kk) (q.cR kk)
       (fun j W'=>Below W1.heap.size W1 W'/\∀ k,k < j->b.de g.bZ ((g.kids.get kk).get k)=some true)
       (fun W'=>Below W1.heap.size W1 W'/\¬ lL g kk) (by omega) (fun W' j N8 hI=>?_) (fun j W' N8 hI=>?_) V ⟨hV,fun k hk=>absurd hk (mM _)⟩).mono ?_
      ·have BW' : Below w.heap.size w W':=Z8.trans (hI.1.mono (by omega))
       obtain ⟨bb,off,r1,_,r2,r3⟩:=(hg.di (acu BW' w.heap.size) (ao _) (ao _)).row kk aI j N8;exact ⟨bb,off,r1,r2,r3⟩
      ·have BW' : Below w.heap.size w W':=Z8.trans (hI.1.mono (by omega))
       obtain ⟨r,hr⟩:=ad9 g.bZ ((g.kids.get kk).get j) hn;have VP:=ho.cR kk j;refine (np hj BW' hx (q.cR kk j) (r:=r) (by rw [VP]; exact hr) (bg:=w.heap.size) (by have:=hI.1.size; omega) ((hI.1.cell (p:=⟨w.heap.size,0,none⟩) (by show w.heap.size < _; omega)).trans cg0)).mono ?_;rintro e W2 ⟨rfl,hb⟩;have KI:Below W1.heap.size W1 W2:=hI.1.trans (hb.mono hI.1.size);cases r with
       | true=>
        refine .inr ⟨rfl,KI,fun k hk=>?_⟩;by_cases ek:k=j
        ·subst ek; exact hr
        ·exact hI.2 k (by omega)
       | false=>exact .inl ⟨rfl,KI,fun h=>by have:=h.2.2 j (by omega); rw [hr] at this; simp at this⟩
      ·rintro e W' ⟨r,rfl,⟨rfl,h1⟩ | ⟨rfl,h1⟩⟩
       ·exact ⟨true,rfl,h1.1,.inl ⟨rfl,h1.2⟩⟩
       ·exact ⟨false,rfl,h1.1,.inr ⟨rfl,h1.2⟩⟩
     have eg:∀ args w,(callFunc 122 args).run Tryz.prog w = .ok (.enter 122 args) w:=enters_of Tryz.func122 (by kernel_rfl) rfl;have af5:∀ W',Below W1.heap.size W1 W'->¬ lL g kk->∃ n,Ending.returned (.int .i64 8) = .returned (.int .i64 n)/\Below w.heap.size w W'/\(n=0/\mK g\/n=8/\¬ mK g):=fun W' hb hr=>
      ⟨8,rfl,Z8.trans (hb.mono (by omega)),.inr ⟨rfl,fun h=>hr (h.row kk (by rw [<- ho.kn]; exact aI))⟩⟩
     have hBW:=BW.out;have C8:∀ W',Below W1.heap.size W1 W'->lL g kk->Below W1.heap.size W1 W'/\∀ i,i < kk+1->lL g i:=fun W' hb hr=>⟨hb,fun i hi=>by
      by_cases e:i=kk
      ·subst e; exact hr
      ·exact hBW.2 i (by omega)⟩
     clear hg ho hj W7 BW;generalize UK:(g.bZ.cu.get kk).live=lv at ajv;by_cases h16:q.im kk<=16
     ·have anG : ¬ (q.im kk:Int) > 16:=by omega
      have ajw:=qM h16;have ajx:=ajw wr hBW.1;clear qM ajw;have Ud:∀ W' r,Below W1.heap.size W1 W'->(r=true/\¬ lL g kk\/r=false/\∀ k,k < q.im kk->b.de g.bZ ((g.kids.get kk).get k)=some true)->(0 < q.im kk->lv=true)->r=true/\(Below W1.heap.size W1 W'/\¬ lL g kk)\/r=false/\(Below W1.heap.size W1 W'/\∀ i,i < kk+1->lL g i):=by
       rintro W' r hb (⟨rfl,hr⟩ | ⟨rfl,hr⟩) hl
       ·exact .inl ⟨rfl,hb,hr⟩
       ·exact .inr ⟨rfl,C8 _ hb ⟨by omega,fun Aq=>by rw [UK]; exact hl (by omega),fun k hk=>hr k (by omega)⟩⟩
      by_cases h0:0 < q.im kk
      ·have h0z:(q.im kk:Int) > 0:=by omega
       cases lv with
       | true=>
        go_wp2_with (go_at_call 122; refine ajx.mono ?_; rintro e w3 ⟨r,rfl,hb,hr⟩; rcases Ud _ _ hb hr (fun _=>rfl) with ⟨rfl,hd⟩ | ⟨rfl,hd⟩)
        ·go_wp2
         go_ret
         exact af5 _ hd.1 hd.2
        ·go_wp2
         simp only [<- hka,<- hsa]
         go_roundg (q.kn - (kk+1))
         case measure=>omega
         case rel=>exact ⟨kk+1,by omega,by omega,by go_num,hd⟩
       | false=>
        go_wp2
        go_ret
        exact af5 _ hBW.1 fun h=>by have:=h.2.1 (by omega); rw [UK] at this; simp at this
      ·have h0z : ¬ (q.im kk:Int) > 0:=by omega
       go_wp2_with (go_at_call 122; refine ajx.mono ?_; rintro e w3 ⟨r,rfl,hb,hr⟩; rcases Ud _ _ hb hr (fun h=>absurd h h0) with ⟨rfl,hd⟩ | ⟨rfl,hd⟩)
       ·go_wp2
        go_ret
        exact af5 _ hd.1 hd.2
       ·go_wp2
        simp only [<- hka,<- hsa]
        go_roundg (q.kn - (kk+1))
        case measure=>omega
        case rel=>exact ⟨kk+1,by omega,by omega,by go_num,hd⟩
     ·have anG:(q.im kk:Int) > 16:=by omega
      go_wp2
      go_ret
      exact af5 _ hBW.1 fun h=>h16 (by have:=h.1; omega)
    ·rename World=>V0
     have acm : ¬ (kk:Int) < (q.kn:Int):=by omega
     have gV:∀ i,i < q.kn->lL g i:=fun i hi=>BW.out.2 i (by omega);have hB1:=BW.out.1;have BWw:Below w.heap.size w V0:=Z8.trans (hB1.mono (by omega));have ze:=(hg.di (acu BWw w.heap.size) (ao _) (ao _)).with fun i hi=>by have:=(gV i hi).1; rw [ho.im]; omega
     have hoo:=ho.di (acu BWw w.heap.size) (ao _) (ao _);have e0:=(hB1.cell (p:=⟨w.heap.size,0,none⟩) (by show w.heap.size < _; omega)).trans cg0;have e1:=(hB1.cell (p:=⟨w.heap.size,1,none⟩) (by show w.heap.size < _; omega)).trans cg1;have KG:=run_make;have sW:w.heap.size < V0.heap.size:=by have:=hB1.size; omega
     have K2:∀ mb,Kp mb V0 ((V0.alloc (.map #[] 0)).alloc (.cells #[.map (some V0.heap.size)] 202)):=fun mb=>(Kp.alloc V0 _).trans (Kp.alloc _ _);have hM2:MapAt V0.heap.size ((V0.alloc (.map #[] 0)).alloc (.cells #[.map (some V0.heap.size)] 202)) []:=⟨#[],0,by rw [Below.heap_alloc _ _ _ (by simp)]; exact rM _ _ _ rfl,QX⟩
     have iy:((V0.alloc (.map #[] 0)).alloc (.cells #[.map (some V0.heap.size)] 202)).cell? ⟨V0.heap.size+1,0,none⟩=some (.map (some V0.heap.size)):=by
      rw [kd (rM _ _ _ (by simp))]; rfl
     have vY:((V0.alloc (.map #[] 0)).alloc (.cells #[.map (some V0.heap.size)] 202)).heap.size=V0.heap.size+2:=by simp
     have f0:=((K2 V0.heap.size).cell (b:=w.heap.size) (j:=0) sW (by omega)).trans e0;have f1:=((K2 V0.heap.size).cell (b:=w.heap.size) (j:=1) sW (by omega)).trans e1;generalize hW2:(V0.alloc (.map #[] 0)).alloc (.cells #[.map (some V0.heap.size)] 202)=W2 at K2 hM2 iy vY f0 f1;have ye:=ze.di (K2 V0.heap.size) (CT sW) (CT sW);have ho2:=hoo.di (K2 V0.heap.size) (CT sW) (CT sW);have alL:∀ W',Kp V0.heap.size W2 W'->Below w.heap.size w W':=fun W' k=>BWw.trans (((K2 V0.heap.size).trans k).below (CT sW) (CT sW));clear W7 hg ze ho hoo BW
     go_wp2
     go_loopg [61] q.kn (fun gg s61 wr2=>∃ jj:Nat,jj<=q.kn/\q.kn - jj<=gg/\s61 = .int .i64 jj/\Aside (Kp V0.heap.size W2 wr2/\(∃ S,MapAt V0.heap.size wr2 S)/\∀ i,i < jj->Aw g i))
     case atStart=>exact ⟨0,mf _,by omega,rfl,Kp.refl _ _,⟨_,hM2⟩,fun i hi=>absurd hi (mM _)⟩
     case round=>
      obtain ⟨jj,hjj,hgg2,rfl,BJ⟩:=hrel;obtain ⟨kj,⟨S0,es0,Sp,hm0,_⟩,aea⟩:=BJ.out;clear BJ;by_cases acv:jj < q.kn
      ·have hjz:(jj:Int) < (q.kn:Int):=by omega
       have hjz2:(jj:Int) < (q.sn:Int):=by omega
       have hgj:=ye.di kj (by omega) (by omega);have W9:=ho2.di kj (by omega) (by omega);have sj:=kj.size;have j0:=(kj.cell (b:=w.heap.size) (j:=0) (by omega) (by omega)).trans f0;have j1:=(kj.cell (b:=w.heap.size) (j:=1) (by omega) (by omega)).trans f1;have js:=(kj.cell (b:=V0.heap.size+1) (j:=0) (by omega) (by omega)).trans iy;obtain ⟨bk,ok,hka,hbk,dB⟩:=hgj.kids jj acv;obtain ⟨bl,ol,hsa,YM,alK,ajv⟩:=W9.slot jj (by omega);have VP:=W9.cR jj;have him:q.im jj<=(g.kids.get jj).n/\(g.kids.get jj).n<=q.im jj:=by rw [W9.im]; exact ⟨ao _,ao _⟩
       generalize Vq:(g.bZ.cu.get jj).gen=gj at alK;have KA:=Kp.alloc (mb:=V0.heap.size) wr (.cells #[.int .i64 jj,.int .i64 gj] 32);have hmA:(wr.alloc (.cells #[.int .i64 jj,.int .i64 gj] 32)).heap[V0.heap.size]? = some (.map es0 Sp):=by rw [Below.heap_alloc _ _ _ (by omega)]; exact hm0
       have anH:=ad8 hmA;have KP:=Kp.put (mb:=V0.heap.size) (wr.alloc (.cells #[.int .i64 jj,.int .i64 gj] 32)) (.map #[] Sp);have jA:=(KA.cell (b:=V0.heap.size+1) (j:=0) (by omega) (by omega)).trans js;have K4:=KA.trans KP;have hM4:MapAt V0.heap.size (put (wr.alloc (.cells #[.int .i64 jj,.int .i64 gj] 32)) V0.heap.size (.map #[] Sp)) []:=⟨#[],Sp,ZJ hmA,QX⟩
       have js4:=(KP.cell (b:=V0.heap.size+1) (j:=0) (by have:=KA.size; omega) (by omega)).trans jA;have jt0:(put (wr.alloc (.cells #[.int .i64 jj,.int .i64 gj] 32)) V0.heap.size (.map #[] Sp)).cell? ⟨wr.heap.size,0,none⟩=some (.int .i64 jj):=by
        rw [KP.cell (by simp) (by omega)]; simp
       have jt1:(put (wr.alloc (.cells #[.int .i64 jj,.int .i64 gj] 32)) V0.heap.size (.map #[] Sp)).cell? ⟨wr.heap.size,1,none⟩=some (.int .i64 gj):=by
        rw [KP.cell (by simp) (by omega)]; simp
       have hz4:wr.heap.size < (put (wr.alloc (.cells #[.int .i64 jj,.int .i64 gj] 32)) V0.heap.size (.map #[] Sp)).heap.size:=by rw [QY]; simp
       generalize hW4:put (wr.alloc (.cells #[.int .i64 jj,.int .i64 gj] 32)) V0.heap.size (.map #[] Sp)=W4 at anH KP K4 hM4 js4 jt0 jt1 hz4;have hU:∀ u∈(List.range q.kn).flatMap (fun i=>(List.range (q.im i)).map fun k=>q.cR i k),(0<=u.1/\u.1 < (q.kn:Int))/\∀ k,k < q.im u.1.toNat->q.cR u.1.toNat k∈(List.range q.kn).flatMap (fun i=>(List.range (q.im i)).map fun k=>q.cR i k):=by
        intro u hu;obtain ⟨i,hi,hu⟩:=FM.1 hu;obtain ⟨k,hk,rfl⟩:=ur.1 hu;rw [wb] at hi hk;have hr:=ajt ((gV i hi).2.2 k (by rw [<- W9.im]; exact hk));rw [<- W9.sn] at hr;have hh:0<=(q.cR i k).1/\(q.cR i k).1 < (q.kn:Int):=by rw [W9.cR]; exact ⟨hr.1,by have:=hr.2; show ((g.kids.get i).get k).slot < _; omega⟩
        exact ⟨hh,fun k' pb=>FM.2 ⟨(q.cR i k).1.toNat,wb.2 (by omega),ur.2 ⟨k',wb.2 pb,rfl⟩⟩⟩
       have qM:Calls Tryz.prog 122 #[.slice (q.ia jj) (q.im jj) (q.ic jj),.func (.func 123) #[] #[.pointer (some ⟨w.heap.size,0,none⟩),.pointer (some ⟨V0.heap.size+1,0,none⟩),.pointer (some ⟨wr.heap.size,0,none⟩)]] W4 fun e W'=>∃ r,e = .returned (.bool r)/\Kp V0.heap.size W4 W'/\(∃ S,MapAt V0.heap.size W' S)/\(r=true/\¬ Aw g jj\/r=false/\Aw g jj):=by
        refine (M5 123 #[.pointer (some ⟨w.heap.size,0,none⟩),.pointer (some ⟨V0.heap.size+1,0,none⟩),.pointer (some ⟨wr.heap.size,0,none⟩)] (enters_of Tryz.func123 (by kernel_rfl) rfl) (q.ia jj) (q.im jj) (q.ic jj) (q.cR jj)
         (fun j W'=>Kp V0.heap.size W4 W'/\∃ S,MapAt V0.heap.size W' S/\((jj:Int),gj) ∉ S/\(∀ x∈S,∀ k,k < q.im x.1.toNat->q.cR x.1.toNat k∈S)/\∀ k,k < j->q.cR jj k∈S)
         (fun W'=>Kp V0.heap.size W4 W'/\(∃ S,MapAt V0.heap.size W' S)/\¬ Aw g jj) (ye.small jj acv) (fun W' j N8 hI=>?_) (fun j W' N8 hI=>?_) W4 ⟨Kp.refl _ _,[],hM4,by simp,by simp,fun k hk=>absurd hk (mM _)⟩).mono ?_
        ·obtain ⟨bb,off,r1,_,r2,r3⟩:=(hgj.di (K4.trans hI.1) (by omega) (by omega)).row jj acv j N8
         exact ⟨bb,off,r1,r2,r3⟩
        ·obtain ⟨oj,S,hS,Qd,BL,oK⟩:=hI
         have kk4:=K4.trans oj;have cS:=oj.size;refine (under q w.heap.size V0.heap.size (q.cR jj j) ((jj:Int),gj) _ hU S W' (FM.2 ⟨jj,wb.2 acv,ur.2 ⟨j,wb.2 N8,rfl⟩⟩) (hgj.di kk4 (by omega) (by omega)) (by omega) (by omega) hS Qd
          (bg:=w.heap.size) (bs:=V0.heap.size+1) (bt:=wr.heap.size) (by omega) (by omega) (by omega)
          ((kk4.cell (b:=w.heap.size) (j:=0) (by omega) (by omega)).trans j0) ((kk4.cell (b:=w.heap.size) (j:=1) (by omega) (by omega)).trans j1) ((oj.cell (b:=V0.heap.size+1) (j:=0) (by omega) (by omega)).trans js4)
          ((oj.cell (b:=wr.heap.size) (j:=0) hz4 (by omega)).trans jt0) ((oj.cell (b:=wr.heap.size) (j:=1) hz4 (by omega)).trans jt1)).mono ?_
         rintro e W5 ⟨S',r,rfl,m5,k5,⟨rfl,hr⟩ | ⟨rfl,AZ,hn5⟩⟩
         ·refine .inl ⟨rfl,oj.trans k5,⟨S',m5⟩,fun hf=>hf j (by omega) ?_⟩
          rw [Vq,<- VP j];exact W9.reach.1 hr
         ·refine .inr ⟨rfl,oj.trans k5,S',m5,hn5,AZ.closed BL,fun k hk=>?_⟩
          by_cases ek:k=j
          ·subst ek; exact AZ.is
          ·exact AZ.sub _ (oK k (by omega))
        ·rintro e W' ⟨r,rfl,⟨rfl,h1⟩ | ⟨rfl,h1,S,h2,h3,h4,h5⟩⟩
         ·exact ⟨true,rfl,h1.1,h1.2.1,.inl ⟨rfl,h1.2.2⟩⟩
         ·refine ⟨false,rfl,h1,⟨S,h2⟩,.inr ⟨rfl,fun k hk hr=>?_⟩⟩
          rw [Vq,<- VP k] at hr;exact Jg h4 h3 (W9.reach.2 hr) (h5 k (by omega))
       have amw:∀ W',Kp V0.heap.size W4 W'->¬ Aw g jj->∃ n,Ending.returned (.int .i64 8) = .returned (.int .i64 n)/\Below w.heap.size w W'/\(n=0/\mK g\/n=8/\¬ mK g):=fun W' hk hf=>
        ⟨8,rfl,alL _ (kj.trans (K4.trans hk)),.inr ⟨rfl,fun h=>hf (h.free jj (by rw [<- W9.kn]; exact acv))⟩⟩
       have gd:∀ W',Kp V0.heap.size W4 W'->(∃ S,MapAt V0.heap.size W' S)->Aw g jj->Kp V0.heap.size W2 W'/\(∃ S,MapAt V0.heap.size W' S)/\∀ i,i < jj+1->Aw g i:=fun W' hk hm hf=>⟨kj.trans (K4.trans hk),hm,fun i hi=>by
        by_cases e:i=jj
        ·subst e; exact hf
        ·exact aea i (by omega)⟩
       clear hU VP ye ho2 hgj W9 gV hW2 Vq aea hm0
       go_wp2_with (go_at_call 122; go_loud (refine qM.mono ?_; rintro e w3 ⟨r,rfl,hb,hm,⟨rfl,hr⟩ | ⟨rfl,hr⟩⟩))
       ·go_wp2
        go_ret
        exact amw _ hb hr
       ·go_wp2
        simp only [<- hka,<- hsa]
        go_roundg (q.kn - (jj+1))
        case measure=>omega
        case rel=>exact ⟨jj+1,by omega,by omega,by go_num,gd _ hb hm hr⟩
      ·have hjz : ¬ (jj:Int) < (q.kn:Int):=by omega
       have hf:mK g:=⟨hn,by rw [<- ho2.kn,<- ho2.sn]; omega,fun i hi=>gV i (by rw [ho2.kn]; exact hi),fun i hi=>aea i (by have:=ho2.kn; omega)⟩
       have hb:=alL _ kj;have Mw:∀ W',Below w.heap.size w W'->∃ n,Ending.returned (.int .i64 0) = .returned (.int .i64 n)/\Below w.heap.size w W'/\(n=0/\mK g\/n=8/\¬ mK g):=fun W' hb=>⟨0,rfl,hb,.inl ⟨rfl,hf⟩⟩
       clear hm0 ye ho2 gV
       go_wp2
       go_ret
       first | exact Mw _ hb | exact ⟨rfl,hb⟩
  ·have MI:((q.kn:Int)==(q.sn:Int))=false:=beq_eq_false_iff_ne.2 fun h=>hlen (by exact_mod_cast h)
   have hlen3 : ¬ (q.kn:Int)=(q.sn:Int):=fun h=>hlen (by exact_mod_cast h)
   go_wp2_with (go_at_call 120; refine W7.mono ?_; rintro e w2 ⟨rfl,hk⟩; have c0:=(hk.cell (p:=⟨w.heap.size,0,none⟩) (by show w.heap.size < _; omega)).trans cg0; have c1:=(hk.cell (p:=⟨w.heap.size,1,none⟩) (by show w.heap.size < _; omega)).trans cg1)
   go_wp2
   go_ret
   exact ⟨8,rfl,Z8.trans (hk.mono (by omega)),.inr ⟨rfl,fun h=>hlen (by rw [ho.kn,ho.sn,h.len])⟩⟩
 ·have hn0' : (n==0)=false:=by simpa using WH
  go_wp2_with (go_at_call 120; refine W7.mono ?_; rintro e w2 ⟨rfl,hk⟩)
  go_wp2
  go_ret
  exact ⟨8,rfl,Z8.trans (hk.mono (by omega)),.inr ⟨rfl,fun h=>by rw [h.cu] at hn; simp only [aR] at hn; omega⟩⟩
end Go.Proofs.YtckbdndhmcoihaaGreat.nodes
end
section
namespace Go.Proofs.YtckbdndhmcoihaaGreat.nodes
open Go Go.RowKit Go.K
open Classical in
noncomputable def zw (g:b.gz):Option Int:=(b.dz g.bZ).map fun _=>if mK g then 0 else 8
noncomputable def acw:List KV->KR KV:=cJ Tryz.prog 73 (cU (kI .i64) fun vs=>zw (b.Ku (vs.getD 0 .bx)))
theorem call73:pq Tryz.prog 73:=by
 refine ⟨by kernel_rfl,_,Tryz.func73,rfl,by kernel_rfl⟩
theorem akJ (w:Nat->KV):pz Tryz.prog [27] w 0 = [b.Z6 (b.Ku (gX Tryz.prog (bX Tryz.prog df) 27 (w 0)))]:=by kernel_rfl
theorem acx:cB Tryz.prog 73 acw:=by
 refine Si call73 fun args v E A B ρ base w bM hF hlen hv hj=>?_;have ep:bK Tryz.prog 73 = [27]:=by kernel_rfl
 unfold acw cJ at hF;obtain ⟨hb,hF⟩:=az.cond hF;obtain ⟨ww,hw⟩:=Cj 0 hb;have vX:ny Tryz.prog E ρ (normArgs Tryz.prog (bK Tryz.prog 73) args) bM:=by
  obtain ⟨m,h1,h2⟩:=hv;exact ⟨m,aK.GG (.of rfl) h1 hlen,h2⟩
 rw [hw,ep,akJ] at hF vX;generalize b.Ku (gX Tryz.prog (bX Tryz.prog df) 27 (ww 0))=g at hF vX;obtain ⟨u,us,rfl,hu,EU⟩:=vX.qQ;obtain rfl:=EU.Pr;obtain ⟨q,rfl,hg,ho,hx⟩:=ahe hj hu;unfold cU at hF;obtain ⟨h1,h2⟩:=az.iJ hF;have h1:(zw g).isSome=true:=h1;have h2:kI .i64 ((zw g).getD default)=v:=h2;cases hn:b.dz g.bZ with
 | none=>simp [zw,hn] at h1
 | some n=>
  refine (check hj hg ho hx hn).mono ?_;rintro e w' ⟨m,rfl,hb,hm⟩;refine ⟨.int .i64 m,rfl,?_,hb⟩;have:v=kI .i64 m:=by
   rw [<- h2];simp only [zw,hn,Option.map_some,iD];rcases hm with ⟨rfl,h⟩ | ⟨rfl,h⟩
   ·rw [ax h]
   ·rw [ae h]
  rw [this];exact ⟨_,.mkInt,by simp [aA.VR]⟩
end Go.Proofs.YtckbdndhmcoihaaGreat.nodes
end
section
namespace Go.Proofs.YtckbdndhmcoihaaGreat.b
open Go.K
noncomputable section
def Ck (g:gz):Option Int:=nodes.zw g
def ss:List KV->KR KV:=cJ Tryz.prog 73 (cU (kI .i64) fun vs=>Ck (Ku (vs.getD 0 .bx)))
theorem rO:cB Tryz.prog 73 ss:=nodes.acx
structure ig where
 e0:Int
 e1:Int
 e2:Int
instance:Inhabited ig:=⟨⟨default,default,default⟩⟩
def ajy (x:ig):List KV:=[.int .i64 x.e0,.int .i64 x.e1,.int .i64 x.e2]
def nA (x:ig):KV:=.agg (ajy x)
def ajz (c:Nat->KV):ig:=⟨av (c 0),av (c 1),av (c 2)⟩
def ui (v:KV):ig:=ajz fun k=>v.cells.getD k .bx
theorem VQ (x:ig):ui (nA x)=x:=rfl
theorem aeb:ui .bx=default:=rfl
theorem Z9 (s:Sl ig) (v:ig):s.push v=ni ui (s.n+1) (dU s.n (fun i=>nA (s.get i)) (qk [nA v])):=(Ks VQ aeb s v).symm
theorem aaa (s t:Sl ig):s.join t=ni ui (s.n+t.n) (dU s.n (fun i=>nA (s.get i)) (fun i=>nA (t.get i))):=(QW VQ s t).symm
structure oQ where
 e0:ig
 e1:ig
 e2:ig
instance:Inhabited oQ:=⟨⟨default,default,default⟩⟩
def acy (x:oQ):List KV:=[.int .i64 x.e0.e0,.int .i64 x.e0.e1,.int .i64 x.e0.e2,.int .i64 x.e1.e0,.int .i64 x.e1.e1,.int .i64 x.e1.e2,.int .i64 x.e2.e0,.int .i64 x.e2.e1,.int .i64 x.e2.e2]
def acz (x:oQ):KV:=.agg (acy x)
def acA (c:Nat->KV):oQ:=⟨⟨av (c 0),av (c 1),av (c 2)⟩,⟨av (c 3),av (c 4),av (c 5)⟩,⟨av (c 6),av (c 7),av (c 8)⟩⟩
def Sq (v:KV):oQ:=acA fun k=>v.cells.getD k .bx
structure Cm where
 x:Int
 y:Int
 z:Int
instance:Inhabited Cm:=⟨⟨default,default,default⟩⟩
def anI (x:Cm):List KV:=[.int .i64 x.x,.int .i64 x.y,.int .i64 x.z]
def af6 (x:Cm):KV:=.agg (anI x)
def anJ (c:Nat->KV):Cm:=⟨av (c 0),av (c 1),av (c 2)⟩
def Yg (v:KV):Cm:=anJ fun k=>v.cells.getD k .bx
structure Ps where
 m:oQ
 t:Cm
instance:Inhabited Ps:=⟨⟨default,default⟩⟩
def anK (x:Ps):List KV:=[.int .i64 x.m.e0.e0,.int .i64 x.m.e0.e1,.int .i64 x.m.e0.e2,.int .i64 x.m.e1.e0,.int .i64 x.m.e1.e1,.int .i64 x.m.e1.e2,.int .i64 x.m.e2.e0,.int .i64 x.m.e2.e1,.int .i64 x.m.e2.e2,.int .i64 x.t.x,.int .i64 x.t.y,.int .i64 x.t.z]
def anL (x:Ps):KV:=.agg (anK x)
def anM (c:Nat->KV):Ps:=⟨⟨⟨av (c 0),av (c 1),av (c 2)⟩,⟨av (c 3),av (c 4),av (c 5)⟩,⟨av (c 6),av (c 7),av (c 8)⟩⟩,⟨av (c 9),av (c 10),av (c 11)⟩⟩
def alM (v:KV):Ps:=anM fun k=>v.cells.getD k .bx
structure ajA where
 e0:Int
 e1:Int
 e2:Int
 e3:Int
 e4:Int
instance:Inhabited ajA:=⟨⟨default,default,default,default,default⟩⟩
structure Color where
 e0:Int
 e1:Int
 e2:Int
 e3:Int
instance:Inhabited Color:=⟨⟨default,default,default,default⟩⟩
def akK (x:Color):List KV:=[.int .u8 x.e0,.int .u8 x.e1,.int .u8 x.e2,.int .u8 x.e3]
def akL (x:Color):KV:=.agg (akK x)
def akM (c:Nat->KV):Color:=⟨av (c 0),av (c 1),av (c 2),av (c 3)⟩
def akN (v:KV):Color:=akM fun k=>v.cells.getD k .bx
structure ow where
 color:Color
 fS:Int
 su:Int
 qR:Int
 oS:Bool
 bin:Int
instance:Inhabited ow:=⟨by constructor<;>exact default⟩
def ajB (x:ow):List KV:=[.int .u8 x.color.e0,.int .u8 x.color.e1,.int .u8 x.color.e2,.int .u8 x.color.e3,.int .i64 x.fS,.int .u8 x.su,.int .i64 x.qR,.bool x.oS,.int .i64 x.bin]
def amx (x:ow):KV:=.agg (ajB x)
def ajC (c:Nat->KV):ow:=⟨⟨av (c 0),av (c 1),av (c 2),av (c 3)⟩,av (c 4),av (c 5),av (c 6),j6 (c 7),av (c 8)⟩
def ajD (v:KV):ow:=ajC fun k=>v.cells.getD k .bx
structure kP where
 dm:ajA
 look:ow
instance:Inhabited kP:=⟨⟨default,default⟩⟩
def af7 (x:kP):List KV:=[.int .u8 x.dm.e0,.int .u8 x.dm.e1,.int .u8 x.dm.e2,.int .u8 x.dm.e3,.int .u8 x.dm.e4,.int .u8 x.look.color.e0,.int .u8 x.look.color.e1,.int .u8 x.look.color.e2,.int .u8 x.look.color.e3,.int .i64 x.look.fS,.int .u8 x.look.su,.int .i64 x.look.qR,.bool x.look.oS,.int .i64 x.look.bin]
def akO (x:kP):KV:=.agg (af7 x)
def af8 (c:Nat->KV):kP:=⟨⟨av (c 0),av (c 1),av (c 2),av (c 3),av (c 4)⟩,⟨⟨av (c 5),av (c 6),av (c 7),av (c 8)⟩,av (c 9),av (c 10),av (c 11),j6 (c 12),av (c 13)⟩⟩
def af9 (v:KV):kP:=af8 fun k=>v.cells.getD k .bx
structure Node where
 kind:Int
 nB:Ps
 SX:Int
 lH:Cm
 xJ:(Sl Int)
 fB:Int
 cO:kP
instance:Inhabited Node:=⟨by constructor<;>exact default⟩
def amy (x:Node):List KV:=[.int .u8 x.kind,.int .i64 x.nB.m.e0.e0,.int .i64 x.nB.m.e0.e1,.int .i64 x.nB.m.e0.e2,.int .i64 x.nB.m.e1.e0,.int .i64 x.nB.m.e1.e1,.int .i64 x.nB.m.e1.e2,.int .i64 x.nB.m.e2.e0,.int .i64 x.nB.m.e2.e1,.int .i64 x.nB.m.e2.e2,.int .i64 x.nB.t.x,.int .i64 x.nB.t.y,.int .i64 x.nB.t.z,.int .u16 x.SX,.int .i64 x.lH.x,.int .i64 x.lH.y,.int .i64 x.lH.z,dD 3 (kI .i64) x.xJ,.int .i64 x.fB,.int .u8 x.cO.dm.e0,.int .u8 x.cO.dm.e1,.int .u8 x.cO.dm.e2,.int .u8 x.cO.dm.e3,.int .u8 x.cO.dm.e4,.int .u8 x.cO.look.color.e0,.int .u8 x.cO.look.color.e1,.int .u8 x.cO.look.color.e2,.int .u8 x.cO.look.color.e3,.int .i64 x.cO.look.fS,.int .u8 x.cO.look.su,.int .i64 x.cO.look.qR,.bool x.cO.look.oS,.int .i64 x.cO.look.bin]
def Jh (x:Node):KV:=.agg (amy x)
def amz (c:Nat->KV):Node:=⟨av (c 0),⟨⟨⟨av (c 1),av (c 2),av (c 3)⟩,⟨av (c 4),av (c 5),av (c 6)⟩,⟨av (c 7),av (c 8),av (c 9)⟩⟩,⟨av (c 10),av (c 11),av (c 12)⟩⟩,av (c 13),⟨av (c 14),av (c 15),av (c 16)⟩,eA av (c 17),av (c 18),⟨⟨av (c 19),av (c 20),av (c 21),av (c 22),av (c 23)⟩,⟨⟨av (c 24),av (c 25),av (c 26),av (c 27)⟩,av (c 28),av (c 29),av (c 30),j6 (c 31),av (c 32)⟩⟩⟩
def Ee (v:KV):Node:=amz fun k=>v.cells.getD k .bx
structure xb where
 e0:Int
 e1:Int
instance:Inhabited xb:=⟨⟨default,default⟩⟩
def ajE (x:xb):List KV:=[.int .i64 x.e0,.int .i64 x.e1]
def VS (x:xb):KV:=.agg (ajE x)
def ajF (c:Nat->KV):xb:=⟨av (c 0),av (c 1)⟩
def Pu (v:KV):xb:=ajF fun k=>v.cells.getD k .bx
structure Prim where
 kind:Int
 index:(Sl Int)
instance:Inhabited Prim:=⟨⟨default,default⟩⟩
def ajG (x:Prim):List KV:=[.int .u8 x.kind,dD 3 (kI .i64) x.index]
def VT (x:Prim):KV:=.agg (ajG x)
def ajH (c:Nat->KV):Prim:=⟨av (c 0),eA av (c 1)⟩
def M8 (v:KV):Prim:=ajH fun k=>v.cells.getD k .bx
structure kD where
 nQ:(Sl Cm)
 uV:(Sl xb)
 fh:(Sl Prim)
instance:Inhabited kD:=⟨⟨default,default,default⟩⟩
def aab (x:kD):List KV:=[dD 43 af6 x.nQ,dD 185 VS x.uV,dD 172 VT x.fh]
def VU (x:kD):KV:=.agg (aab x)
def aac (c:Nat->KV):kD:=⟨eA Yg (c 0),eA Pu (c 1),eA M8 (c 2)⟩
def Ji (v:KV):kD:=aac fun k=>v.cells.getD k .bx
structure kf where
 w:Int
 h:Int
 Pv:(Sl Color)
instance:Inhabited kf:=⟨⟨default,default,default⟩⟩
def ahf (x:kf):List KV:=[.int .i64 x.w,.int .i64 x.h,dD 58 akL x.Pv]
def Fm (x:kf):KV:=.agg (ahf x)
def ahg (c:Nat->KV):kf:=⟨av (c 0),av (c 1),eA akN (c 2)⟩
def yq (v:KV):kf:=ahg fun k=>v.cells.getD k .bx
structure aD where
 graph:gz
 nodes:(Sl Node)
 fJ:(Sl kD)
 iV:(Sl kf)
 root:Handle
instance:Inhabited aD:=⟨⟨default,default,default,default,default⟩⟩
def yW (x:aD):List KV:=[dD 111 VH x.graph.bZ.cu,dD 35 (dD 32 jL) x.graph.kids,dD 77 Jh x.nodes,dD 88 VU x.fJ,dD 91 Fm x.iV,.int .i64 x.root.slot,.int .i64 x.root.gen]
def xc (x:aD):KV:=.agg (yW x)
def yX (c:Nat->KV):aD:=⟨⟨⟨eA QZ (c 0)⟩,eA (eA jM) (c 1)⟩,eA Ee (c 2),eA Ji (c 3),eA yq (c 4),⟨av (c 5),av (c 6)⟩⟩
def mT (v:KV):aD:=yX fun k=>v.cells.getD k .bx
structure kE where
 t2:Bool
 n:Int
 many:(Sl Int)
 step:Int
 s:aD
instance:Inhabited kE:=⟨⟨default,default,default,default,default⟩⟩
def yr (x:kE):List KV:=[.bool x.t2,.int .i64 x.n,dD 3 (kI .i64) x.many,.int .i64 x.step]
def yu (x:kE):List (List KV):=[yW x.s]
def Fo (vs:List KV) (rs:List (List KV)):kE:=⟨j6 (v9 vs 0),av (v9 vs 1),eA av (v9 vs 2),av (v9 vs 3),yX (r9 rs 0)⟩
def Hk:aB:=⟨[(2,w9 b9),(3,w9 i9),(4,⟨false,[.arr 3]⟩),(5,w9 i9)],[(1,[n9 111,n9 35,n9 77,n9 88,n9 91,i9,i9],1)],[(1,0,0)]⟩
structure fY where
 t2:Bool
 n:Int
 many:(Sl Int)
 step:Int
 eB:(Sl Int)
 i:Int
 s:aD
instance:Inhabited fY:=⟨by constructor<;>exact default⟩
def vj (x:fY):List KV:=[.bool x.t2,.int .i64 x.n,dD 3 (kI .i64) x.many,.int .i64 x.step,dD 3 (kI .i64) x.eB,.int .i64 x.i]
def vl (x:fY):List (List KV):=[yW x.s]
def Cn (vs:List KV) (rs:List (List KV)):fY:=⟨j6 (v9 vs 0),av (v9 vs 1),eA av (v9 vs 2),av (v9 vs 3),eA av (v9 vs 4),av (v9 vs 5),yX (r9 rs 0)⟩
def Dq:aB:=⟨[(2,w9 b9),(3,w9 i9),(4,⟨false,[.arr 3]⟩),(5,w9 i9),(6,⟨false,[.arr 3]⟩),(7,w9 i9)],[(1,[n9 111,n9 35,n9 77,n9 88,n9 91,i9,i9],1)],[(1,0,0)]⟩
structure eI where
 t2:Bool
 n:Int
 many:(Sl Int)
 step:Int
 eB:(Sl Int)
 i:Int
 k:Int
 s:aD
instance:Inhabited eI:=⟨by constructor<;>exact default⟩
def rq (x:eI):List KV:=[.bool x.t2,.int .i64 x.n,dD 3 (kI .i64) x.many,.int .i64 x.step,dD 3 (kI .i64) x.eB,.int .i64 x.i,.int .i64 x.k]
def ru (x:eI):List (List KV):=[yW x.s]
def xQ (vs:List KV) (rs:List (List KV)):eI:=⟨j6 (v9 vs 0),av (v9 vs 1),eA av (v9 vs 2),av (v9 vs 3),eA av (v9 vs 4),av (v9 vs 5),av (v9 vs 6),yX (r9 rs 0)⟩
def zx:aB:=⟨[(2,w9 b9),(3,w9 i9),(4,⟨false,[.arr 3]⟩),(5,w9 i9),(6,⟨false,[.arr 3]⟩),(7,w9 i9),(8,w9 i9)],[(1,[n9 111,n9 35,n9 77,n9 88,n9 91,i9,i9],1)],[(1,0,0)]⟩
def HL:=GS [] [] 40 16403018 zx
def kh (x:eI):ba eI:=(cond (cond (bU x.eB.n x.eB.n) (bU x.many.n x.many.n) false) (.next ⟨x.t2,x.n,x.many,x.step,x.eB,x.i,(bR (x.k+1)),x.s⟩) .fail)
def fT (x:eI):ba eI:=(cond ((decide (0<=x.i))&&(decide (x.i < (x.s.graph.kids.n:Int)))) (cond (decide (x.k < ((x.s.graph.kids.get (Int.toNat x.i)).n:Int))) (cond (decide (x.k < 1000)) (cond ((decide (0<=x.i))&&(decide (x.i < (x.s.graph.kids.n:Int)))) (cond ((decide (0<=x.k))&&(decide (x.k < ((x.s.graph.kids.get (Int.toNat x.i)).n:Int)))) (cond (decide (((x.s.graph.kids.get (Int.toNat x.i)).get (Int.toNat x.k)).slot >= 0)) (cond (decide (((x.s.graph.kids.get (Int.toNat x.i)).get (Int.toNat x.k)).slot < x.n)) (cond ((decide (0<=x.i))&&(decide (x.i < (x.eB.n:Int)))) (cond ((decide (0<=((x.s.graph.kids.get (Int.toNat x.i)).get (Int.toNat x.k)).slot))&&(decide (((x.s.graph.kids.get (Int.toNat x.i)).get (Int.toNat x.k)).slot < (x.many.n:Int)))) (cond ((decide (0<=x.i))&&(decide (x.i < (x.eB.n:Int)))) (cond (cond (bU x.eB.n x.eB.n) (bU x.many.n x.many.n) false) (.next ⟨x.t2,x.n,x.many,x.step,(x.eB.set (0+(Int.toNat x.i)) (min (bR ((x.eB.get (0+(Int.toNat x.i)))+(x.many.get (0+(Int.toNat ((x.s.graph.kids.get (Int.toNat x.i)).get (Int.toNat x.k)).slot))))) 100000)),x.i,(bR (x.k+1)),x.s⟩) .fail) .fail) .fail) .fail)
     (kh x))
    (kh x)) .fail) .fail) (cond (cond (bU x.eB.n x.eB.n) (bU x.many.n x.many.n) false) (.out (aA.aa.exit 4) x) .fail)) (cond (cond (bU x.eB.n x.eB.n) (bU x.many.n x.many.n) false) (.out (aA.aa.exit 4) x) .fail)) .fail)
theorem Fp (x:eI):HL (rq x) (ru x)=ba.enc rq ru (fT x):=by
 unfold fT kh
 try simp only [ba.dr,ach]
 kernel_rfl
def oy:Lp:=⟨40,16403018,zx,fun vs rs=>eE rq ru (goN fT (xQ vs rs)) [aA.aa.exit 4],false⟩
theorem rv:oy.Ok PG:=zZ aw.nil bP.nil (pa:=xQ) Fp
def M9:=GS [] [oy] 40 64074 Dq
def aL (x:fY):=goN fT ⟨x.t2,x.n,x.many,x.step,(x.eB.set (0+(Int.toNat x.i)) 1),x.i,0,x.s⟩
def gm (x:fY):ba fY:=(cond (decide (x.i < x.n)) (cond ((decide (0<=x.i))&&(decide (x.i < (x.eB.n:Int)))) (cond (cond (bU x.eB.n x.eB.n) (bU x.many.n x.many.n) false) (cond ((aL x).by (aA.aa.exit 4)) (cond ((decide (0<=(aL x).st.i))&&(decide ((aL x).st.i < ((aL x).st.eB.n:Int)))) (cond (decide (((aL x).st.eB.get (0+(Int.toNat (aL x).st.i))) > 10000)) (cond (cond (bU (aL x).st.eB.n (aL x).st.eB.n) (bU (aL x).st.many.n (aL x).st.many.n) false) (.out aA.aa.ret ⟨true,(aL x).st.n,(aL x).st.many,(aL x).st.step,(aL x).st.eB,(aL x).st.i,(aL x).st.s⟩) .fail) (cond (cond (bU (aL x).st.eB.n (aL x).st.eB.n) (bU (aL x).st.many.n (aL x).st.many.n) false) (.next ⟨(aL x).st.t2,(aL x).st.n,(aL x).st.many,(aL x).st.step,(aL x).st.eB,(bR ((aL x).st.i+1)),(aL x).st.s⟩) .fail)) .fail) .fail) .fail) .fail) (cond (cond (bU x.eB.n x.eB.n) (bU x.many.n x.many.n) false) (.out (aA.aa.exit 2) x) .fail))
theorem Jj (x:fY):M9 (vj x) (vl x)=ba.enc vj vl (gm x):=by
 unfold gm
 try simp only [ba.dr,aL,ach]
 kernel_rfl
def xd:Lp:=⟨40,64074,Dq,fun vs rs=>eE vj vl (goN gm (Cn vs rs)) [aA.aa.exit 2,aA.aa.ret],false⟩
theorem Cp:xd.Ok PG:=zZ aw.nil (qP rv bP.nil) (pa:=Cn) Jj
def Q5:=GS [] [oy,xd] 40 250 Hk
def cN (x:kE):=goN gm ⟨x.t2,x.n,x.many,x.step,⟨(Int.toNat x.n),(fun i=>0)⟩,0,x.s⟩
def lu (x:kE):ba kE:=(cond (decide (x.step < 18)) (cond (((decide (0<=x.n))&&(decide (x.n<=x.n)))&&(Nat.ble (8 * (Int.toNat x.n)) 281474976710656)) (cond (cond (bU (Int.toNat x.n) (Int.toNat x.n)) (bU x.many.n x.many.n) false) (cond ((cN x).by (aA.aa.exit 2)) (cond (bU (cN x).st.eB.n (cN x).st.eB.n) (.next ⟨(cN x).st.t2,(cN x).st.n,(cN x).st.eB,(bR ((cN x).st.step+1)),(cN x).st.s⟩) .fail) (cond ((cN x).by aA.aa.ret) (cond (bU (cN x).st.many.n (cN x).st.many.n) (.out aA.aa.ret ⟨(cN x).st.t2,(cN x).st.n,(cN x).st.many,(cN x).st.step,(cN x).st.s⟩) .fail) .fail)) .fail) .fail) (cond (bU x.many.n x.many.n) (.out (aA.aa.exit 0) x) .fail))
theorem Na (x:kE):Q5 (yr x) (yu x)=ba.enc yr yu (lu x):=by
 unfold lu
 try simp only [ba.dr]
 kernel_rfl
def Hl:Lp:=⟨40,250,Hk,fun vs rs=>eE yr yu (goN lu (Fo vs rs)) [aA.aa.exit 0,aA.aa.ret],false⟩
theorem Q6:Hl.Ok PG:=zZ aw.nil (qP rv (qP Cp bP.nil)) (pa:=Fo) Na
def yY (s:aD):=goN lu ⟨false,(s.graph.kids.n:Int),⟨(Int.toNat (s.graph.kids.n:Int)),(fun i=>0)⟩,0,s⟩
def vO (s:aD):Option (Bool):=(cond (decide ((s.graph.kids.n:Int) > 300)) (some (true)) (cond ((decide ((s.graph.kids.n:Int)<=(s.graph.kids.n:Int)))&&(Nat.ble (8 * (Int.toNat (s.graph.kids.n:Int))) 281474976710656)) (cond (bU (Int.toNat (s.graph.kids.n:Int)) (Int.toNat (s.graph.kids.n:Int))) (cond ((yY s).by (aA.aa.exit 0)) (some (false)) (cond ((yY s).by aA.aa.ret) (some ((yY s).st.t2)) none)) none) none))
theorem Xa (s:aD):A9 [] [oy,xd,Hl] 40 [xc s] = (vO s).map kB:=by
 unfold vO
 try simp only [cK]
 kernel_rfl
def Dr:List KV->KR KV:=cJ PG 40 (cU kB fun vs=>vO (mT (v9 vs 0)))
theorem Cq:cB PG 40 Dr:=ir aw.nil (qP rv (qP Cp (qP Q6 bP.nil))) fun w=>Xa (mT (g0 34 (w 0)))
structure mz where
 l:(Sl kf)
 t2:Bool
 n:Int
 i:Int
instance:Inhabited mz:=⟨⟨default,default,default,default⟩⟩
def yv (x:mz):List KV:=[dD 91 Fm x.l,.bool x.t2,.int .i64 x.n,.int .i64 x.i]
def yw (x:mz):List (List KV):=[]
def Fq (vs:List KV) (rs:List (List KV)):mz:=⟨eA yq (v9 vs 0),j6 (v9 vs 1),av (v9 vs 2),av (v9 vs 3)⟩
def Hm:aB:=⟨[(0,w9 (n9 91)),(2,w9 b9),(3,w9 i9),(4,w9 i9)],[],[]⟩
def Q7:=GS [] [] 42 58 Hm
def ly (x:mz):ba mz:=(cond (decide (x.i < (x.l.n:Int))) (cond (decide (x.i < 100)) (cond ((decide (0<=x.i))&&(decide (x.i < (x.l.n:Int)))) (.next ⟨x.l,x.t2,(bR (x.n+(min ((x.l.get (Int.toNat x.i)).Pv.n:Int) 100000))),(bR (x.i+1))⟩) .fail) (.out (aA.aa.exit 0) x)) (.out (aA.aa.exit 0) x))
theorem Nb (x:mz):Q7 (yv x) (yw x)=ba.enc yv yw (ly x):=by
 unfold ly
 try simp only [ba.dr]
 kernel_rfl
def Hn:Lp:=⟨42,58,Hm,fun vs rs=>eE yv yw (goN ly (Fq vs rs)) [aA.aa.exit 0],false⟩
theorem Q8:Hn.Ok PG:=zZ aw.nil bP.nil (pa:=Fq) Nb
def xf (l:(Sl kf)):=goN ly ⟨l,false,0,0⟩
def oz (l:(Sl kf)):Option (Bool):=(cond ((xf l).by (aA.aa.exit 0)) (cond (decide (((xf l).st.l.n:Int) > 40)) (some (true)) (some ((decide ((xf l).st.n > 20000))))) none)
theorem VV (l:(Sl kf)):A9 [] [Hn] 42 [(dD 91 Fm) l] = (oz l).map kB:=by
 unfold oz
 try simp only [cK]
 kernel_rfl
def Bb:List KV->KR KV:=cJ PG 42 (cU kB fun vs=>oz ((eA yq) (v9 vs 0)))
theorem z7:cB PG 42 Bb:=ir aw.nil (qP Q8 bP.nil) fun w=>VV ((eA yq) (g0 30 (w 0)))
structure kF where
 t2:Bool
 i:Int
 m:kD
instance:Inhabited kF:=⟨⟨default,default,default⟩⟩
def yx (x:kF):List KV:=[.bool x.t2,.int .i64 x.i]
def yy (x:kF):List (List KV):=[aab x.m]
def Fs (vs:List KV) (rs:List (List KV)):kF:=⟨j6 (v9 vs 0),av (v9 vs 1),aac (r9 rs 0)⟩
def Ho:aB:=⟨[(2,w9 b9),(3,w9 i9)],[(1,[n9 43,n9 185,n9 172],1)],[(1,0,0)]⟩
def Q9:=GS [] [] 43 58 Ho
def gC (x:kF):ba kF:=(cond (decide (x.i < (x.m.fh.n:Int))) (cond ((decide (0<=x.i))&&(decide (x.i < (x.m.fh.n:Int)))) (cond (decide (((x.m.fh.get (Int.toNat x.i)).index.n:Int) > 1000)) (.out aA.aa.ret ⟨true,x.i,x.m⟩) (.next ⟨x.t2,(bR (x.i+1)),x.m⟩)) .fail) (.out (aA.aa.exit 0) x))
theorem Nc (x:kF):Q9 (yx x) (yy x)=ba.enc yx yy (gC x):=by
 unfold gC
 try simp only [ba.dr]
 kernel_rfl
def Hp:Lp:=⟨43,58,Ho,fun vs rs=>eE yx yy (goN gC (Fs vs rs)) [aA.aa.exit 0,aA.aa.ret],false⟩
theorem Ra:Hp.Ok PG:=zZ aw.nil bP.nil (pa:=Fs) Nc
def xg (m:kD):=goN gC ⟨false,0,m⟩
def qy (m:kD):Option (Bool):=(cond (decide ((m.nQ.n:Int) > 1000)) (some (true)) (cond (decide ((m.uV.n:Int) > 1000)) (some (true)) (cond (decide ((m.fh.n:Int) > 100)) (some (true)) (cond ((xg m).by (aA.aa.exit 0)) (some (false)) (cond ((xg m).by aA.aa.ret) (some ((xg m).st.t2)) none)))))
theorem VW (m:kD):A9 [] [Hp] 43 [VU m] = (qy m).map kB:=by
 unfold qy
 try simp only [cK]
 kernel_rfl
def Bc:List KV->KR KV:=cJ PG 43 (cU kB fun vs=>qy (Ji (v9 vs 0)))
theorem z8:cB PG 43 Bc:=ir aw.nil (qP Ra bP.nil) fun w=>VW (Ji (g0 88 (w 0)))
structure jN where
 t2:Bool
 i:Int
 s:aD
instance:Inhabited jN:=⟨⟨default,default,default⟩⟩
def xh (x:jN):List KV:=[.bool x.t2,.int .i64 x.i]
def xi (x:jN):List (List KV):=[yW x.s]
def Dt (vs:List KV) (rs:List (List KV)):jN:=⟨j6 (v9 vs 0),av (v9 vs 1),yX (r9 rs 0)⟩
def Ft:aB:=⟨[(2,w9 b9),(3,w9 i9)],[(1,[n9 111,n9 35,n9 77,n9 88,n9 91,i9,i9],1)],[(1,0,0)]⟩
def Pw:=GS [(43,Bc),(42,Bb),(41,Ba),(40,Dr)] [] 12 122 Ft
def fK (x:jN):ba jN:=(cond (decide (x.i < (x.s.nodes.n:Int))) (cond ((decide (0<=x.i))&&(decide (x.i < (x.s.nodes.n:Int)))) (cond (decide (((x.s.nodes.get (Int.toNat x.i)).xJ.n:Int) > 200)) (.out aA.aa.ret ⟨true,x.i,x.s⟩) (.next ⟨x.t2,(bR (x.i+1)),x.s⟩)) .fail) (.out (aA.aa.exit 0) x))
theorem KO (x:jN):Pw (xh x) (xi x)=ba.enc xh xi (fK x):=by
 unfold fK
 try simp only [ba.dr]
 kernel_rfl
def yz:Lp:=⟨12,122,Ft,fun vs rs=>eE xh xi (goN fK (Dt vs rs)) [aA.aa.exit 0,aA.aa.ret],false⟩
theorem Du:yz.Ok PG:=zZ (aw.cons z8 (aw.cons z7 (aw.cons z6 (aw.cons Cq aw.nil)))) bP.nil (pa:=Dt) KO
structure iW where
 t2:Bool
 i:Int
 s:aD
instance:Inhabited iW:=⟨⟨default,default,default⟩⟩
def xj (x:iW):List KV:=[.bool x.t2,.int .i64 x.i]
def xk (x:iW):List (List KV):=[yW x.s]
def Dv (vs:List KV) (rs:List (List KV)):iW:=⟨j6 (v9 vs 0),av (v9 vs 1),yX (r9 rs 0)⟩
def Fu:aB:=⟨[(2,w9 b9),(4,w9 i9)],[(1,[n9 111,n9 35,n9 77,n9 88,n9 91,i9,i9],1)],[(1,0,0)]⟩
def Px:=GS [(43,Bc),(42,Bb),(41,Ba),(40,Dr)] [yz] 12 250 Fu
def vm (x:iW):=qy (x.s.fJ.get (Int.toNat x.i))
def fL (x:iW):ba iW:=(cond (decide (x.i < (x.s.fJ.n:Int))) (cond ((decide (0<=x.i))&&(decide (x.i < (x.s.fJ.n:Int)))) (cond (vm x).isSome (cond ((vm x).getD default) (.out aA.aa.ret ⟨true,x.i,x.s⟩) (.next ⟨x.t2,(bR (x.i+1)),x.s⟩)) .fail) .fail) (.out (aA.aa.exit 2) x))
theorem KQ (x:iW):Px (xj x) (xk x)=ba.enc xj xk (fL x):=by
 unfold fL
 try simp only [ba.dr]
 kernel_rfl
def Fv:Lp:=⟨12,250,Fu,fun vs rs=>eE xj xk (goN fL (Dv vs rs)) [aA.aa.exit 2,aA.aa.ret],false⟩
theorem Py:Fv.Ok PG:=zZ (aw.cons z8 (aw.cons z7 (aw.cons z6 (aw.cons Cq aw.nil)))) (qP Du bP.nil) (pa:=Dv) KQ
def Cr (s:aD):=vO s
def Cs (s:aD):=ov s.graph
def Ct (s:aD):=oz s.iV
def pF (s:aD):=goN fK ⟨false,0,s⟩
def xl (s:aD):=goN fL ⟨(pF s).st.t2,0,(pF s).st.s⟩
def s9 (s:aD):Option (Bool):=(cond (Cr s).isSome (cond ((Cr s).getD default) (some (true)) (cond (Cs s).isSome (cond ((Cs s).getD default) (some (true)) (cond (decide ((s.nodes.n:Int) > 200)) (some (true)) (cond (decide ((s.fJ.n:Int) > 60)) (some (true)) (cond (decide ((s.iV.n:Int) > 60)) (some (true)) (cond (Ct s).isSome (cond ((Ct s).getD default) (some (true)) (cond ((pF s).by (aA.aa.exit 0)) (cond ((xl s).by (aA.aa.exit 2)) (some (false)) (cond ((xl s).by aA.aa.ret) (some ((xl s).st.t2)) none)) (cond ((pF s).by aA.aa.ret) (some ((pF s).st.t2)) none))) none))))) none)) none)
theorem VX (s:aD):A9 [(43,Bc),(42,Bb),(41,Ba),(40,Dr)] [yz,Fv] 12 [xc s] = (s9 s).map kB:=by
 unfold s9
 try simp only [cK]
 kernel_rfl
def Bd:List KV->KR KV:=cJ PG 12 (cU kB fun vs=>s9 (mT (v9 vs 0)))
theorem Aa:cB PG 12 Bd:=ir (aw.cons z8 (aw.cons z7 (aw.cons z6 (aw.cons Cq aw.nil)))) (qP Du (qP Py bP.nil)) fun w=>VX (mT (g0 34 (w 0)))
def kr (l:ow):Option (Int):=(cond (decide (l.fS < (-(1:Int)))) (some (8)) (cond (decide (l.fS >= 16)) (some (8)) (cond (decide (l.su > 2)) (some (8)) (cond (decide (l.qR < (-(1024:Int)))) (some (8)) (cond (decide (l.qR > 1024)) (some (8)) (cond (decide (l.bin < 0)) (some (8)) (cond (decide (l.bin > 15)) (some (8)) (some (0)))))))))
theorem HM (l:ow):W8 [] [] 137 [amx l] = (kr l).map (kI .i64):=by
 unfold kr
 try simp only [cK]
 kernel_rfl
def tI:List KV->KR KV:=cJ PG 137 (cU (kI .i64) fun vs=>kr (ajD (v9 vs 0)))
theorem xm:cB PG 137 tI:=ir aw.nil bP.nil fun w=>HM (ajD (g0 60 (w 0)))
structure b7 where
 t2:Int
 t7:Int
 s:kP
 said:ow
instance:Inhabited b7:=⟨⟨default,default,default,default⟩⟩
def oZ (x:b7):List KV:=[.int .i64 x.t2,.agg [.fn (.func 183) [] [],.fn (.func 184) [] [],.fn (.func 185) [] [],.fn (.func 186) [] [],.fn (.func 187) [] []],.int .i64 x.t7]
def o3 (x:b7):List (List KV):=[af7 x.s,ajB x.said]
def Ax (vs:List KV) (rs:List (List KV)):b7:=⟨av (v9 vs 0),av (v9 vs 2),af8 (r9 rs 0),ajC (r9 rs 1)⟩
def Cu:aB:=⟨[(2,w9 i9),(6,⟨true,[.lit (.fn (.func 183) [] []),.lit (.fn (.func 184) [] []),.lit (.fn (.func 185) [] []),.lit (.fn (.func 186) [] []),.lit (.fn (.func 187) [] [])]⟩),(7,w9 i9)],[(1,[u9,u9,u9,u9,u9,u9,u9,u9,u9,i9,u9,i9,b9,i9],1),(3,[u9,u9,u9,u9,i9,u9,i9,b9,i9],1)],[(1,0,0),(3,1,0)]⟩
def KS:=rk9 [(137,tI)] [] 80 58 Cu
def dK (x:b7):ba b7:=(.next ⟨x.t2,(bR (0+1)),x.s,⟨x.s.look.color,x.said.fS,x.said.su,x.said.qR,x.said.oS,x.said.bin⟩⟩)
def dL (x:b7):ba b7:=(.next ⟨x.t2,(bR (1+1)),x.s,⟨x.said.color,x.s.look.fS,x.said.su,x.said.qR,x.said.oS,x.said.bin⟩⟩)
def dM (x:b7):ba b7:=(.next ⟨x.t2,(bR (2+1)),x.s,⟨x.said.color,x.said.fS,x.s.look.su,x.said.qR,x.said.oS,x.said.bin⟩⟩)
def dN (x:b7):ba b7:=(.next ⟨x.t2,(bR (3+1)),x.s,⟨x.said.color,x.said.fS,x.said.su,x.s.look.qR,x.said.oS,x.said.bin⟩⟩)
def dP (x:b7):ba b7:=(.next ⟨x.t2,(bR (4+1)),x.s,⟨x.said.color,x.said.fS,x.said.su,x.said.qR,x.s.look.oS,x.s.look.bin⟩⟩)
def aW (x:b7):ba b7:=(cond (x.t7==0) (cond (x.s.dm.e0==0) (.next ⟨x.t2,(bR (0+1)),x.s,x.said⟩) (cond (x.s.dm.e0==1)
   (dK x) (cond (x.s.dm.e0==3)
   (dK x) (cond (x.s.dm.e0==5)
    (dK x) (cond (x.s.dm.e0==7)
    (dK x) (.out aA.aa.ret ⟨8,0,x.s,x.said⟩)))))) (cond (x.t7==1) (cond (x.s.dm.e1==0) (.next ⟨x.t2,(bR (1+1)),x.s,x.said⟩) (cond (x.s.dm.e1==1)
   (dL x) (cond (x.s.dm.e1==3)
    (dL x) (cond (x.s.dm.e1==5)
    (dL x) (cond (x.s.dm.e1==7)
     (dL x) (.out aA.aa.ret ⟨8,1,x.s,x.said⟩)))))) (cond (x.t7==2) (cond (x.s.dm.e2==0) (.next ⟨x.t2,(bR (2+1)),x.s,x.said⟩) (cond (x.s.dm.e2==1)
    (dM x) (cond (x.s.dm.e2==3)
    (dM x) (cond (x.s.dm.e2==5)
     (dM x) (cond (x.s.dm.e2==7)
     (dM x) (.out aA.aa.ret ⟨8,2,x.s,x.said⟩)))))) (cond (x.t7==3) (cond (x.s.dm.e3==0) (.next ⟨x.t2,(bR (3+1)),x.s,x.said⟩) (cond (x.s.dm.e3==1)
    (dN x) (cond (x.s.dm.e3==3)
     (dN x) (cond (x.s.dm.e3==5)
     (dN x) (cond (x.s.dm.e3==7)
      (dN x) (.out aA.aa.ret ⟨8,3,x.s,x.said⟩)))))) (cond (x.t7==4) (cond (x.s.dm.e4==0) (.next ⟨x.t2,(bR (4+1)),x.s,x.said⟩) (cond (x.s.dm.e4==1)
     (dP x) (cond (x.s.dm.e4==3)
     (dP x) (cond (x.s.dm.e4==5)
      (dP x) (cond (x.s.dm.e4==7)
      (dP x) (.out aA.aa.ret ⟨8,4,x.s,x.said⟩)))))) (cond (x.t7==5) (.out (aA.aa.exit 0) ⟨x.t2,5,x.s,x.said⟩) .fail))))))
theorem HO (x:b7):aW x = .fail\/KS (oZ x) (o3 x)=ba.enc oZ o3 (aW x):=by
 obtain ⟨t2,t7,s,said⟩:=x
 exact (ba.lit (fun h=>by subst h; (try simp only [ba.dr]); kernel_rfl) (ba.lit (fun h=>by subst h; (try simp only [ba.dr]); kernel_rfl) (ba.lit (fun h=>by subst h; (try simp only [ba.dr]); kernel_rfl) (ba.lit (fun h=>by subst h; (try simp only [ba.dr]); kernel_rfl) (ba.lit (fun h=>by subst h; (try simp only [ba.dr]); kernel_rfl) (ba.lit (fun h=>by subst h; (try simp only [ba.dr]); kernel_rfl) (.inl rfl)))))))
def Cv:Lp:=⟨80,58,Cu,fun vs rs=>eE oZ o3 (goN aW (Ax vs rs)) [aA.aa.exit 0,aA.aa.ret],false⟩
theorem KU:Cv.Ok PG:=Z0 funcs mixed (aw.cons xm aw.nil) bP.nil (L:=9) (n:=9) (step:=aW) (ev:=oZ) (er:=o3) (pa:=Ax) rfl (fun wv wr=>⟨by kernel_rfl,by kernel_rfl⟩) HO
def bN (s:kP):=goN aW ⟨0,0,s,⟨⟨0,0,0,0⟩,0,0,0,false,0⟩⟩
def xn (s:kP):=kr (bN s).st.s.look
def nV (s:kP):Option (Int):=(cond ((bN s).by (aA.aa.exit 0)) (cond (!(((bN s).st.said.color.e0==(bN s).st.s.look.color.e0)&&(((bN s).st.said.color.e1==(bN s).st.s.look.color.e1)&&(((bN s).st.said.color.e2==(bN s).st.s.look.color.e2)&&(((bN s).st.said.color.e3==(bN s).st.s.look.color.e3)&&(((bN s).st.said.fS==(bN s).st.s.look.fS)&&(((bN s).st.said.su==(bN s).st.s.look.su)&&(((bN s).st.said.qR==(bN s).st.s.look.qR)&&(((bN s).st.said.oS==(bN s).st.s.look.oS)&&(((bN s).st.said.bin==(bN s).st.s.look.bin)&&true)))))))))) (some (8)) (cond (xn s).isSome (some (((xn s).getD default))) none)) (cond ((bN s).by aA.aa.ret) (some ((bN s).st.t2)) none))
theorem Pz (s:kP):W8 [(137,tI)] [Cv] 80 [akO s] = (nV s).map (kI .i64):=by
 unfold nV
 try simp only [cK]
 kernel_rfl
def Hq:List KV->KR KV:=cJ PG 80 (cU (kI .i64) fun vs=>nV (af9 (v9 vs 0)))
theorem Nd:cB PG 80 Hq:=ir (aw.cons xm aw.nil) (qP KU bP.nil) fun w=>Pz (af9 (g0 75 (w 0)))
def pG (n:Int) (jO:Int):Option (Bool):=(cond (decide (n >= (bR (0 - jO)))) (some ((decide (n<=jO)))) (some (false)))
theorem Rb (n:Int) (jO:Int):A9 [] [] 114 [(kI .i64) n,(kI .i64) jO] = (pG n jO).map kB:=by
 unfold pG
 try simp only [cK]
 kernel_rfl
def Jk:List KV->KR KV:=cJ PG 114 (cU kB fun vs=>pG (av (v9 vs 0)) (av (v9 vs 1)))
theorem PA:cB PG 114 Jk:=ir aw.nil bP.nil fun w=>Rb (av (g0 3 (w 0))) (av (g0 3 (w 1)))
def Cw (v:Cm):=pG v.x 1024
def Cx (v:Cm):=pG v.y 1024
def Cy (v:Cm):=pG v.z 1024
def yA (v:Cm):Option (Bool):=(cond (Cw v).isSome (cond (!((Cw v).getD default)) (some (true)) (cond (Cx v).isSome (cond (!((Cx v).getD default)) (some (true)) (cond (Cy v).isSome (some ((!((Cy v).getD default)))) none)) none)) none)
theorem Nf (v:Cm):A9 [(114,Jk)] [] 113 [af6 v] = (yA v).map kB:=by
 unfold yA
 try simp only [cK]
 kernel_rfl
def ta:List KV->KR KV:=cJ PG 113 (cU kB fun vs=>yA (Yg (v9 vs 0)))
theorem tJ:cB PG 113 ta:=ir (aw.cons PA aw.nil) bP.nil fun w=>Nf (Yg (g0 43 (w 0)))
def yC (p:xb):Option (Bool):=(cond (decide (p.e0 < 0)) (some (true)) (cond (decide (p.e0 > 255)) (some (true)) (cond (decide (p.e1 < 0)) (some (true)) (some ((decide (p.e1 > 255)))))))
theorem Ng (p:xb):A9 [] [] 115 [VS p] = (yC p).map kB:=by
 unfold yC
 try simp only [cK]
 kernel_rfl
def te:List KV->KR KV:=cJ PG 115 (cU kB fun vs=>yC (Pu (v9 vs 0)))
theorem tK:cB PG 115 te:=ir aw.nil bP.nil fun w=>Ng (Pu (g0 185 (w 0)))
def uL (p:Prim):Option (Bool):=(cond ((p.index.n:Int)==0) (some (true)) (some ((decide ((p.index.n:Int) >= 3)))))
def tf (p:Prim):Option (Bool):=(cond (p.kind==0) (some (((Int.tmod (p.index.n:Int) 3)==0))) (cond (p.kind==1)
  (uL p) (cond (p.kind==2)
   (uL p) (some (false)))))
theorem VY (p:Prim):A9 [] [] 209 [VT p] = (tf p).map kB:=by
 unfold tf uL
 try simp only [cK]
 kernel_rfl
def GV:List KV->KR KV:=cJ PG 209 (cU kB fun vs=>tf (M8 (v9 vs 0)))
theorem Hr:cB PG 209 GV:=ir aw.nil bP.nil fun w=>VY (M8 (g0 172 (w 0)))
structure dA where
 t2:(Sl ig)
 t3:Int
 out:(Sl ig)
 l:(Sl Int)
 i:Int
 p:Prim
instance:Inhabited dA:=⟨by constructor<;>exact default⟩
def xo (x:dA):List KV:=[dD 40 nA x.t2,.int .i64 x.t3,dD 40 nA x.out,dD 3 (kI .i64) x.l,.int .i64 x.i]
def xp (x:dA):List (List KV):=[ajG x.p]
def Dw (vs:List KV) (rs:List (List KV)):dA:=⟨eA ui (v9 vs 0),av (v9 vs 1),eA ui (v9 vs 2),eA av (v9 vs 3),av (v9 vs 4),ajH (r9 rs 0)⟩
def Fw:aB:=⟨[(2,w9 (n9 40)),(3,w9 i9),(4,⟨false,[.aF 40]⟩),(5,w9 (n9 3)),(6,w9 i9)],[(1,[u9,n9 3],1)],[(1,0,0)]⟩
def PB:=GS [(209,GV)] [] 171 250 Fw
def mU (x:dA):ba dA:=(cond ((decide (0<=x.i))&&(decide (x.i < (x.l.n:Int)))) (cond ((decide (0<=(bR (x.i+1))))&&(decide ((bR (x.i+1)) < (x.l.n:Int)))) (cond ((decide (0<=(bR (x.i+2))))&&(decide ((bR (x.i+2)) < (x.l.n:Int)))) (cond ((bU x.out.n x.out.n)&&(lP 24 x.out.n 1)) (cond (bU (x.out.n+1) (x.out.n+1)) (.next ⟨x.t2,x.t3,(x.out.push ⟨(x.l.get (Int.toNat x.i)),(x.l.get (Int.toNat (bR (x.i+1)))),(x.l.get (Int.toNat (bR (x.i+2))))⟩),x.l,(bR (x.i+1)),x.p⟩) .fail) .fail) .fail) .fail) .fail)
def mV (x:dA):ba dA:=(cond (x.p.kind==1) (cond ((decide (0<=(bR (x.i+1))))&&(decide ((bR (x.i+1)) < (x.l.n:Int)))) (cond ((decide (0<=x.i))&&(decide (x.i < (x.l.n:Int)))) (cond ((decide (0<=(bR (x.i+2))))&&(decide ((bR (x.i+2)) < (x.l.n:Int)))) (cond ((bU x.out.n x.out.n)&&(lP 24 x.out.n 1)) (cond (bU (x.out.n+1) (x.out.n+1)) (.next ⟨x.t2,x.t3,(x.out.push ⟨(x.l.get (Int.toNat (bR (x.i+1)))),(x.l.get (Int.toNat x.i)),(x.l.get (Int.toNat (bR (x.i+2))))⟩),x.l,(bR (x.i+1)),x.p⟩) .fail) .fail) .fail) .fail) .fail) (cond (x.p.kind==2) (cond (decide (0 < (x.l.n:Int))) (cond ((decide (0<=(bR (x.i+1))))&&(decide ((bR (x.i+1)) < (x.l.n:Int)))) (cond ((decide (0<=(bR (x.i+2))))&&(decide ((bR (x.i+2)) < (x.l.n:Int)))) (cond ((bU x.out.n x.out.n)&&(lP 24 x.out.n 1)) (cond (bU (x.out.n+1) (x.out.n+1)) (.next ⟨x.t2,x.t3,(x.out.push ⟨(x.l.get 0),(x.l.get (Int.toNat (bR (x.i+1)))),(x.l.get (Int.toNat (bR (x.i+2))))⟩),x.l,(bR (x.i+1)),x.p⟩) .fail) .fail) .fail) .fail) .fail) (cond (bU x.out.n x.out.n) (.next ⟨x.t2,x.t3,x.out,x.l,(bR (x.i+1)),x.p⟩) .fail)))
def mW (x:dA):ba dA:=(cond (x.p.kind==1) (cond ((Int.tmod x.i 2)==0)
  (mU x)
  (mV x))
  (mV x))
def jg (x:dA):ba dA:=(cond (decide ((bR (x.i+2)) < (x.l.n:Int))) (cond (x.p.kind==0) (cond ((Int.tmod x.i 3)==0)
   (mU x)
   (mW x))
  (mW x)) (cond (bU x.out.n x.out.n) (.out (aA.aa.exit 1) x) .fail))
theorem KW (x:dA):PB (xo x) (xp x)=ba.enc xo xp (jg x):=by
 unfold jg mW mV mU
 try simp only [ba.dr,Z9]
 kernel_rfl
def Fx:Lp:=⟨171,250,Fw,fun vs rs=>eE xo xp (goN jg (Dw vs rs)) [aA.aa.exit 1],false⟩
theorem PC:Fx.Ok PG:=zZ (aw.cons Hr aw.nil) bP.nil (pa:=Dw) KW
def Cz (p:Prim):=tf p
def CA (p:Prim):=goN jg ⟨⟨0,(fun i=>⟨0,0,0⟩)⟩,0,⟨0,(fun i=>⟨0,0,0⟩)⟩,p.index,0,p⟩
def tg (p:Prim):Option ((Sl ig)×Int):=(cond (decide (p.kind > 2)) (some (⟨0,(fun i=>⟨0,0,0⟩)⟩,2)) (cond (decide ((p.index.n:Int) > 200)) (some (⟨0,(fun i=>⟨0,0,0⟩)⟩,4)) (cond (Cz p).isSome (cond (!((Cz p).getD default)) (some (⟨0,(fun i=>⟨0,0,0⟩)⟩,40)) (cond ((CA p).by (aA.aa.exit 1)) (some ((CA p).st.out,0)) none)) none)))
theorem VZ (p:Prim):A9 [(209,GV)] [Fx] 171 [VT p] = (tg p).map (fun (r:(Sl ig)×Int)=>KV.nh [(dD 40 nA) r.1,(kI .i64) r.2]):=by
 unfold tg
 try simp only [cK]
 kernel_rfl
def Bf:List KV->KR KV:=cJ PG 171 (cU (fun (r:(Sl ig)×Int)=>KV.nh [(dD 40 nA) r.1,(kI .i64) r.2]) fun vs=>tg (M8 (v9 vs 0)))
theorem Ab:cB PG 171 Bf:=ir (aw.cons Hr aw.nil) (qP PC bP.nil) fun w=>VZ (M8 (g0 172 (w 0)))
structure fa where
 t2:(Sl ig)
 t3:Bool
 out:(Sl ig)
 t12:(Sl Prim)
 t13:Int
 t14:Int
 m:kD
instance:Inhabited fa:=⟨by constructor<;>exact default⟩
def yD (x:fa):List KV:=[dD 40 nA x.t2,.bool x.t3,dD 40 nA x.out,dD 172 VT x.t12,.int .i64 x.t13,.int .i64 x.t14]
def yE (x:fa):List (List KV):=[aab x.m]
def Fy (vs:List KV) (rs:List (List KV)):fa:=⟨eA ui (v9 vs 0),j6 (v9 vs 1),eA ui (v9 vs 2),eA M8 (v9 vs 3),av (v9 vs 4),av (v9 vs 5),aac (r9 rs 0)⟩
def Hs:aB:=⟨[(2,w9 (n9 40)),(3,w9 b9),(4,⟨false,[.aF 40]⟩),(12,w9 (n9 172)),(13,w9 i9),(14,w9 i9)],[(1,[n9 43,n9 185,n9 172],1)],[(1,0,0)]⟩
structure eC where
 t2:(Sl ig)
 t3:Bool
 out:(Sl ig)
 t12:(Sl Prim)
 t13:Int
 t14:Int
 t34:(Sl Int)
 t35:Int
 t36:Int
 m:kD
instance:Inhabited eC:=⟨by constructor<;>exact default⟩
def sv (x:eC):List KV:=[dD 40 nA x.t2,.bool x.t3,dD 40 nA x.out,dD 172 VT x.t12,.int .i64 x.t13,.int .i64 x.t14,dD 3 (kI .i64) x.t34,.int .i64 x.t35,.int .i64 x.t36]
def sA (x:eC):List (List KV):=[aab x.m]
def zy (vs:List KV) (rs:List (List KV)):eC:=⟨eA ui (v9 vs 0),j6 (v9 vs 1),eA ui (v9 vs 2),eA M8 (v9 vs 3),av (v9 vs 4),av (v9 vs 5),eA av (v9 vs 6),av (v9 vs 7),av (v9 vs 8),aac (r9 rs 0)⟩
def Ay:aB:=⟨[(2,w9 (n9 40)),(3,w9 b9),(4,⟨false,[.aF 40]⟩),(12,w9 (n9 172)),(13,w9 i9),(14,w9 i9),(34,w9 (n9 3)),(35,w9 i9),(36,w9 i9)],[(1,[n9 43,n9 185,n9 172],1)],[(1,0,0)]⟩
def Jl:=GS [(171,Bf)] [] 118 119614 Ay
def jb (x:eC):ba eC:=(cond (bU x.out.n x.out.n) (.out aA.aa.ret ⟨⟨0,(fun i=>⟨0,0,0⟩)⟩,false,x.out,x.t12,x.t13,x.t14,x.t34,x.t35,x.t36,x.m⟩) .fail)
def eF (x:eC):ba eC:=(cond (decide (x.t36 < x.t35)) (cond ((decide (0<=x.t36))&&(decide (x.t36 < (x.t34.n:Int)))) (cond (decide ((x.t34.get (Int.toNat x.t36)) < 0))
   (jb x) (cond (decide ((x.t34.get (Int.toNat x.t36)) >= (x.m.nQ.n:Int)))
   (jb x) (cond (bU x.out.n x.out.n) (.next ⟨x.t2,x.t3,x.out,x.t12,x.t13,x.t14,x.t34,x.t35,(bR (x.t36+1)),x.m⟩) .fail))) .fail) (cond (bU x.out.n x.out.n) (.out (aA.aa.exit 2) x) .fail))
theorem GW (x:eC):Jl (sv x) (sA x)=ba.enc sv sA (eF x):=by
 unfold eF jb
 try simp only [ba.dr]
 kernel_rfl
def tL:Lp:=⟨118,119614,Ay,fun vs rs=>eE sv sA (goN eF (zy vs rs)) [aA.aa.exit 2,aA.aa.ret],false⟩
theorem zA:tL.Ok PG:=zZ (aw.cons Ab aw.nil) bP.nil (pa:=zy) GW
def Rc:=GS [(171,Bf)] [tL] 118 58 Hs
def fj (x:fa):=tg (x.t12.get (Int.toNat x.t14))
def bS (x:fa):=goN eF ⟨x.t2,x.t3,(x.out.join ((fj x).getD default).fst),x.t12,x.t13,x.t14,(x.t12.get (Int.toNat x.t14)).index,((x.t12.get (Int.toNat x.t14)).index.n:Int),0,x.m⟩
def nF (x:fa):ba fa:=(cond (bU (x.out.n+((fj x).getD default).fst.n) (x.out.n+((fj x).getD default).fst.n)) (.out aA.aa.ret ⟨⟨0,(fun i=>⟨0,0,0⟩)⟩,false,(x.out.join ((fj x).getD default).fst),x.t12,x.t13,x.t14,x.m⟩) .fail)
def lz (x:fa):ba fa:=(cond (decide (x.t14 < x.t13)) (cond ((decide (0<=x.t14))&&(decide (x.t14 < (x.t12.n:Int)))) (cond (fj x).isSome (cond ((bU x.out.n x.out.n)&&(lP 24 x.out.n ((fj x).getD default).fst.n)) (cond (((fj x).getD default).snd != 0)
    (nF x) (cond (decide ((((x.out.n+((fj x).getD default).fst.n):Nat):Int) > 64))
    (nF x) (cond (bU (x.out.n+((fj x).getD default).fst.n) (x.out.n+((fj x).getD default).fst.n)) (cond ((bS x).by (aA.aa.exit 2)) (cond (bU (bS x).st.out.n (bS x).st.out.n) (.next ⟨(bS x).st.t2,(bS x).st.t3,(bS x).st.out,(bS x).st.t12,(bS x).st.t13,(bR ((bS x).st.t14+1)),(bS x).st.m⟩) .fail) (cond ((bS x).by aA.aa.ret) (cond (bU (bS x).st.out.n (bS x).st.out.n) (.out aA.aa.ret ⟨(bS x).st.t2,(bS x).st.t3,(bS x).st.out,(bS x).st.t12,(bS x).st.t13,(bS x).st.t14,(bS x).st.m⟩) .fail) .fail)) .fail))) .fail) .fail) .fail) (cond (bU x.out.n x.out.n) (.out (aA.aa.exit 0) x) .fail))
theorem Nh (x:fa):Rc (yD x) (yE x)=ba.enc yD yE (lz x):=by
 unfold lz nF
 try simp only [ba.dr,bS,aaa]
 kernel_rfl
def Ht:Lp:=⟨118,58,Hs,fun vs rs=>eE yD yE (goN lz (Fy vs rs)) [aA.aa.exit 0,aA.aa.ret],false⟩
theorem Rd:Ht.Ok PG:=zZ (aw.cons Ab aw.nil) (qP zA bP.nil) (pa:=Fy) Nh
def pH (m:kD):=goN lz ⟨⟨0,(fun i=>⟨0,0,0⟩)⟩,false,⟨0,(fun i=>⟨0,0,0⟩)⟩,m.fh,(m.fh.n:Int),0,m⟩
def th (m:kD):Option ((Sl ig)×Bool):=(cond ((pH m).by (aA.aa.exit 0)) (some ((pH m).st.out,true)) (cond ((pH m).by aA.aa.ret) (some ((pH m).st.t2,(pH m).st.t3)) none))
theorem V1 (m:kD):A9 [(171,Bf)] [tL,Ht] 118 [VU m] = (th m).map (fun (r:(Sl ig)×Bool)=>KV.nh [(dD 40 nA) r.1,kB r.2]):=by
 unfold th
 try simp only [cK]
 kernel_rfl
def Bg:List KV->KR KV:=cJ PG 118 (cU (fun (r:(Sl ig)×Bool)=>KV.nh [(dD 40 nA) r.1,kB r.2]) fun vs=>th (Ji (v9 vs 0)))
theorem Ac:cB PG 118 Bg:=ir (aw.cons Ab aw.nil) (qP zA (qP Rd bP.nil)) fun w=>V1 (Ji (g0 88 (w 0)))
structure bB where
 s:(Sl Cm)
 t4:Int
 t7:Int
 t8:Int
instance:Inhabited bB:=⟨⟨default,default,default,default⟩⟩
def gL (x:bB):List KV:=[dD 43 af6 x.s,.fn (.func 113) [] [],.int .i64 x.t4,.int .i64 x.t7,.int .i64 x.t8]
def gM (x:bB):List (List KV):=[]
def kG (vs:List KV) (rs:List (List KV)):bB:=⟨eA Yg (v9 vs 0),av (v9 vs 2),av (v9 vs 3),av (v9 vs 4)⟩
def kV:aB:=⟨[(0,w9 (n9 43)),(1,⟨false,[.lit (.fn (.func 113) [] [])]⟩),(4,w9 i9),(7,w9 i9),(8,w9 i9)],[],[]⟩
def qS:=GS [(118,Bg),(115,te),(113,ta)] [] 169 26 kV
def bm (x:bB):ba bB:=(cond (decide (x.t8 < x.t7)) (cond ((decide (0<=x.t8))&&(decide (x.t8 < (x.s.n:Int)))) (cond (decide ((x.s.get (Int.toNat x.t8)).x >= (-(1024:Int)))) (cond (!(decide ((x.s.get (Int.toNat x.t8)).x<=1024))) (.out aA.aa.ret ⟨x.s,x.t8,x.t7,x.t8⟩) (cond (decide ((x.s.get (Int.toNat x.t8)).y >= (-(1024:Int)))) (cond (!(decide ((x.s.get (Int.toNat x.t8)).y<=1024))) (.out aA.aa.ret ⟨x.s,x.t8,x.t7,x.t8⟩) (cond (decide ((x.s.get (Int.toNat x.t8)).z >= (-(1024:Int)))) (cond (!(decide ((x.s.get (Int.toNat x.t8)).z<=1024))) (.out aA.aa.ret ⟨x.s,x.t8,x.t7,x.t8⟩) (.next ⟨x.s,x.t4,x.t7,(bR (x.t8+1))⟩)) (.out aA.aa.ret ⟨x.s,x.t8,x.t7,x.t8⟩))) (.out aA.aa.ret ⟨x.s,x.t8,x.t7,x.t8⟩))) (.out aA.aa.ret ⟨x.s,x.t8,x.t7,x.t8⟩)) .fail) (.out (aA.aa.exit 0) x))
theorem pS (x:bB):qS (gL x) (gM x)=ba.enc gL gM (bm x):=by
 unfold bm
 try simp only [ba.dr]
 kernel_rfl
def gY:Lp:=⟨169,26,kV,fun vs rs=>eE gL gM (goN bm (kG vs rs)) [aA.aa.exit 0,aA.aa.ret],false⟩
theorem kH:gY.Ok PG:=zZ (aw.cons Ac (aw.cons tK (aw.cons tJ aw.nil))) bP.nil (pa:=kG) pS
structure bC where
 s:(Sl xb)
 t4:Int
 t7:Int
 t8:Int
instance:Inhabited bC:=⟨⟨default,default,default,default⟩⟩
def gN (x:bC):List KV:=[dD 185 VS x.s,.fn (.func 115) [] [],.int .i64 x.t4,.int .i64 x.t7,.int .i64 x.t8]
def gP (x:bC):List (List KV):=[]
def kJ (vs:List KV) (rs:List (List KV)):bC:=⟨eA Pu (v9 vs 0),av (v9 vs 2),av (v9 vs 3),av (v9 vs 4)⟩
def kW:aB:=⟨[(0,w9 (n9 185)),(1,⟨false,[.lit (.fn (.func 115) [] [])]⟩),(4,w9 i9),(7,w9 i9),(8,w9 i9)],[],[]⟩
def qT:=GS [(118,Bg),(115,te),(113,ta)] [gY] 170 26 kW
def bo (x:bC):ba bC:=(cond (decide (x.t8 < x.t7)) (cond ((decide (0<=x.t8))&&(decide (x.t8 < (x.s.n:Int)))) (cond (decide ((x.s.get (Int.toNat x.t8)).e0 < 0)) (.out aA.aa.ret ⟨x.s,x.t8,x.t7,x.t8⟩) (cond (decide ((x.s.get (Int.toNat x.t8)).e0 > 255)) (.out aA.aa.ret ⟨x.s,x.t8,x.t7,x.t8⟩) (cond (decide ((x.s.get (Int.toNat x.t8)).e1 < 0)) (.out aA.aa.ret ⟨x.s,x.t8,x.t7,x.t8⟩) (cond (decide ((x.s.get (Int.toNat x.t8)).e1 > 255)) (.out aA.aa.ret ⟨x.s,x.t8,x.t7,x.t8⟩) (.next ⟨x.s,x.t4,x.t7,(bR (x.t8+1))⟩))))) .fail) (.out (aA.aa.exit 0) x))
theorem pT (x:bC):qT (gN x) (gP x)=ba.enc gN gP (bo x):=by
 unfold bo
 try simp only [ba.dr]
 kernel_rfl
def kX:Lp:=⟨170,26,kW,fun vs rs=>eE gN gP (goN bo (kJ vs rs)) [aA.aa.exit 0,aA.aa.ret],false⟩
theorem qU:kX.Ok PG:=zZ (aw.cons Ac (aw.cons tK (aw.cons tJ aw.nil))) (qP kH bP.nil) (pa:=kJ) pT
def uM (m:kD):=goN bm ⟨m.nQ,0,(m.nQ.n:Int),0⟩
def uN (m:kD):=goN bo ⟨m.uV,0,(m.uV.n:Int),0⟩
def Ad (m:kD):=th m
def ti (m:kD):Option (Int):=(cond (Ad m).isSome (cond (!((Ad m).getD default).snd) (some (40)) (some (0))) none)
def tj (m:kD):Option (Int):=(cond ((uN m).by (aA.aa.exit 0))
  (ti m) (cond ((uN m).by aA.aa.ret) (cond (decide ((uN m).st.t4 >= 0)) (some (40))
   (ti m)) none))
def rf (m:kD):Option (Int):=(cond (decide ((m.nQ.n:Int) > 64)) (some (4)) (cond (decide ((m.uV.n:Int) > 64)) (some (4)) (cond (decide ((m.fh.n:Int) > 16)) (some (4)) (cond ((m.uV.n:Int) != (m.nQ.n:Int)) (some (40)) (cond ((uM m).by (aA.aa.exit 0))
    (tj m) (cond ((uM m).by aA.aa.ret) (cond (decide ((uM m).st.t4 >= 0)) (some (40))
     (tj m)) none))))))
theorem SY (m:kD):A9 [(118,Bg),(115,te),(113,ta)] [gY,kX] 70 [VU m] = (rf m).map (kI .i64):=by
 unfold rf tj ti
 try simp only [cK]
 kernel_rfl
def uj:List KV->KR KV:=cJ PG 70 (cU (kI .i64) fun vs=>rf (Ji (v9 vs 0)))
theorem tl:cB PG 70 uj:=ir (aw.cons Ac (aw.cons tK (aw.cons tJ aw.nil))) (qP kH (qP qU bP.nil)) fun w=>SY (Ji (g0 88 (w 0)))
def mA (n:Int):Option (Bool):=(cond (decide (n > 0)) (some ((decide (n<=16)))) (some (false)))
theorem PD (n:Int):A9 [] [] 119 [(kI .i64) n] = (mA n).map kB:=by
 unfold mA
 try simp only [cK]
 kernel_rfl
def Hu:List KV->KR KV:=cJ PG 119 (cU kB fun vs=>mA (av (v9 vs 0)))
theorem Ni:cB PG 119 Hu:=ir aw.nil bP.nil fun w=>PD (av (g0 3 (w 0)))
def vo (t:kf):=mA t.w
def vp (t:kf):=mA t.h
def nj (t:kf):Option (Int):=(cond (vo t).isSome (cond (!((vo t).getD default)) (some (8)) (cond (vp t).isSome (cond (!((vp t).getD default)) (some (8)) (cond ((t.Pv.n:Int) != (bR (t.w * t.h))) (some (8)) (some (0)))) none)) none)
theorem Nj (t:kf):A9 [(119,Hu)] [] 72 [Fm t] = (nj t).map (kI .i64):=by
 unfold nj
 try simp only [cK]
 kernel_rfl
def pI:List KV->KR KV:=cJ PG 72 (cU (kI .i64) fun vs=>nj (yq (v9 vs 0)))
theorem o4:cB PG 72 pI:=ir (aw.cons Ni aw.nil) bP.nil fun w=>Nj (yq (g0 91 (w 0)))
structure mX where
 jO:Int
 t4:Bool
 t7:(Sl Int)
 t8:Int
 t9:Int
instance:Inhabited mX:=⟨⟨default,default,default,default,default⟩⟩
def Ef (x:mX):List KV:=[.int .i64 x.jO,.bool x.t4,dD 3 (kI .i64) x.t7,.int .i64 x.t8,.int .i64 x.t9]
def Eg (x:mX):List (List KV):=[]
def LK (vs:List KV) (rs:List (List KV)):mX:=⟨av (v9 vs 0),j6 (v9 vs 1),eA av (v9 vs 2),av (v9 vs 3),av (v9 vs 4)⟩
def PE:aB:=⟨[(0,w9 i9),(4,w9 b9),(7,w9 (n9 3)),(8,w9 i9),(9,w9 i9)],[],[]⟩
def Xb:=GS [] [] 182 26 PE
def nW (x:mX):ba mX:=(cond (decide (x.t9 < x.t8)) (cond ((decide (0<=x.t9))&&(decide (x.t9 < (x.t7.n:Int)))) (cond (decide ((x.t7.get (Int.toNat x.t9)) < (bR (0 - x.jO)))) (.out aA.aa.ret ⟨x.jO,false,x.t7,x.t8,x.t9⟩) (cond (decide ((x.t7.get (Int.toNat x.t9)) > x.jO)) (.out aA.aa.ret ⟨x.jO,false,x.t7,x.t8,x.t9⟩) (.next ⟨x.jO,x.t4,x.t7,x.t8,(bR (x.t9+1))⟩))) .fail) (.out (aA.aa.exit 0) x))
theorem SZ (x:mX):Xb (Ef x) (Eg x)=ba.enc Ef Eg (nW x):=by
 unfold nW
 try simp only [ba.dr]
 kernel_rfl
def PF:Lp:=⟨182,26,PE,fun vs rs=>eE Ef Eg (goN nW (LK vs rs)) [aA.aa.exit 0,aA.aa.ret],false⟩
theorem Xc:PF.Ok PG:=zZ aw.nil bP.nil (pa:=LK) SZ
def Dx (jO:Int) (l:(Sl Int)):=goN nW ⟨jO,false,l,(l.n:Int),0⟩
def Bs (jO:Int) (l:(Sl Int)):Option (Bool):=(cond ((Dx jO l).by (aA.aa.exit 0)) (some (true)) (cond ((Dx jO l).by aA.aa.ret) (some ((Dx jO l).st.t4)) none))
theorem acB (jO:Int) (l:(Sl Int)):A9 [] [PF] 182 [(kI .i64) jO,(dD 3 (kI .i64)) l] = (Bs jO l).map kB:=by
 unfold Bs
 try simp only [cK]
 kernel_rfl
def Yh:List KV->KR KV:=cJ PG 182 (cU kB fun vs=>Bs (av (v9 vs 0)) ((eA av) (v9 vs 1)))
theorem aad:cB PG 182 Yh:=ir aw.nil (qP Xc bP.nil) fun w=>acB (av (g0 3 (w 0))) ((eA av) (g0 36 (w 1)))
def vP (m:oQ):Option (Bool):=(cond (decide (m.e0.e0 < (-(1024:Int)))) (some (false)) (cond (decide (m.e0.e0 > 1024)) (some (false)) (cond (decide (m.e0.e1 < (-(1024:Int)))) (some (false)) (cond (decide (m.e0.e1 > 1024)) (some (false)) (cond (decide (m.e0.e2 < (-(1024:Int)))) (some (false)) (cond (decide (m.e0.e2 > 1024)) (some (false)) (cond (decide (m.e1.e0 < (-(1024:Int)))) (some (false)) (cond (decide (m.e1.e0 > 1024)) (some (false)) (cond (decide (m.e1.e1 < (-(1024:Int)))) (some (false)) (cond (decide (m.e1.e1 > 1024)) (some (false)) (cond (decide (m.e1.e2 < (-(1024:Int)))) (some (false)) (cond (decide (m.e1.e2 > 1024)) (some (false)) (cond (decide (m.e2.e0 < (-(1024:Int)))) (some (false)) (cond (decide (m.e2.e0 > 1024)) (some (false)) (cond (decide (m.e2.e1 < (-(1024:Int)))) (some (false)) (cond (decide (m.e2.e1 > 1024)) (some (false)) (cond (decide (m.e2.e2 < (-(1024:Int)))) (some (false)) (cond (decide (m.e2.e2 > 1024)) (some (false)) (some (true))))))))))))))))))))
theorem Xd (m:oQ):A9 [] [] 181 [acz m] = (vP m).map kB:=by
 unfold vP
 try simp only [cK]
 kernel_rfl
def Sr:List KV->KR KV:=cJ PG 181 (cU kB fun vs=>vP (Sq (v9 vs 0)))
theorem V2:cB PG 181 Sr:=ir aw.nil bP.nil fun w=>Xd (Sq (g0 41 (w 0)))
def xq (v:Cm):=Bs 4096 (Sl.lit [v.x,v.y,v.z])
def qz (v:Cm):Option (Int):=(cond (xq v).isSome (cond (!((xq v).getD default)) (some (20)) (some (0))) none)
theorem V3 (v:Cm):A9 [(182,Yh)] [] 134 [af6 v] = (qz v).map (kI .i64):=by
 unfold qz
 try simp only [cK,xq,aci]
 kernel_rfl
def GX:List KV->KR KV:=cJ PG 134 (cU (kI .i64) fun vs=>qz (Yg (v9 vs 0)))
theorem Hv:cB PG 134 GX:=ir (aw.cons aad aw.nil) bP.nil fun w=>V3 (Yg (g0 43 (w 0)))
def xr (m:Ps):=vP m.m
def xt (m:Ps):=qz m.t
def nX (m:Ps):Option (Int):=(cond (xr m).isSome (cond (!((xr m).getD default)) (some (20)) (cond (xt m).isSome (some (((xt m).getD default))) none)) none)
theorem PH (m:Ps):A9 [(134,GX),(181,Sr)] [] 133 [anL m] = (nX m).map (kI .i64):=by
 unfold nX
 try simp only [cK]
 kernel_rfl
def Hw:List KV->KR KV:=cJ PG 133 (cU (kI .i64) fun vs=>nX (alM (v9 vs 0)))
theorem Nk:cB PG 133 Hw:=ir (aw.cons Hv (aw.cons V2 aw.nil)) bP.nil fun w=>PH (alM (g0 45 (w 0)))
structure lY where
 l:(Sl Int)
 t2:Bool
 last:Int
 t6:(Sl Int)
 t7:Int
 t8:Int
instance:Inhabited lY:=⟨by constructor<;>exact default⟩
def Ae (x:lY):List KV:=[dD 3 (kI .i64) x.l,.bool x.t2,.int .i64 x.last,dD 3 (kI .i64) x.t6,.int .i64 x.t7,.int .i64 x.t8]
def Af (x:lY):List (List KV):=[]
def Hx (vs:List KV) (rs:List (List KV)):lY:=⟨eA av (v9 vs 0),j6 (v9 vs 1),av (v9 vs 2),eA av (v9 vs 3),av (v9 vs 4),av (v9 vs 5)⟩
def Jm:aB:=⟨[(0,w9 (n9 3)),(2,w9 b9),(3,w9 i9),(6,w9 (n9 3)),(7,w9 i9),(8,w9 i9)],[],[]⟩
def S3:=GS [] [] 135 58 Jm
def ij (x:lY):ba lY:=(cond (decide (x.t8 < x.t7)) (cond ((decide (0<=x.t8))&&(decide (x.t8 < (x.t6.n:Int)))) (cond (decide ((x.t6.get (Int.toNat x.t8)) < x.last)) (.out aA.aa.ret ⟨x.l,false,x.last,x.t6,x.t7,x.t8⟩) (cond (decide ((x.t6.get (Int.toNat x.t8)) > 8192)) (.out aA.aa.ret ⟨x.l,false,x.last,x.t6,x.t7,x.t8⟩) (.next ⟨x.l,x.t2,(x.t6.get (Int.toNat x.t8)),x.t6,x.t7,(bR (x.t8+1))⟩))) .fail) (.out (aA.aa.exit 0) x))
theorem PI (x:lY):S3 (Ae x) (Af x)=ba.enc Ae Af (ij x):=by
 unfold ij
 try simp only [ba.dr]
 kernel_rfl
def Jn:Lp:=⟨135,58,Jm,fun vs rs=>eE Ae Af (goN ij (Hx vs rs)) [aA.aa.exit 0,aA.aa.ret],false⟩
theorem S4:Jn.Ok PG:=zZ aw.nil bP.nil (pa:=Hx) PI
def uk (l:(Sl Int)):=goN ij ⟨l,false,0,l,(l.n:Int),0⟩
def vQ (l:(Sl Int)):Option (Bool):=(cond ((uk l).by (aA.aa.exit 0)) (some ((decide (((uk l).st.l.n:Int)<=16)))) (cond ((uk l).by aA.aa.ret) (some ((uk l).st.t2)) none))
theorem Xe (l:(Sl Int)):A9 [] [Jn] 135 [(dD 3 (kI .i64)) l] = (vQ l).map kB:=by
 unfold vQ
 try simp only [cK]
 kernel_rfl
def Ss:List KV->KR KV:=cJ PG 135 (cU kB fun vs=>vQ ((eA av) (v9 vs 0)))
theorem V4:cB PG 135 Ss:=ir aw.nil (qP S4 bP.nil) fun w=>Xe ((eA av) (g0 36 (w 0)))
def Ag (n:Node):=nX n.nB
def Ah (n:Node):=qz n.lH
def Ai (n:Node):=vQ n.xJ
def rh (n:Node):Option (Node×Bool):=(cond (n.kind==1) (some (⟨n.kind,⟨⟨⟨0,0,0⟩,⟨0,0,0⟩,⟨0,0,0⟩⟩,⟨0,0,0⟩⟩,0,⟨0,0,0⟩,⟨0,(fun i=>0)⟩,0,n.cO⟩,true)) (cond (n.kind==2) (cond (Ag n).isSome (some (⟨n.kind,n.nB,0,⟨0,0,0⟩,⟨0,(fun i=>0)⟩,0,n.cO⟩,(((Ag n).getD default)==0))) none) (cond (n.kind==3) (some (⟨n.kind,⟨⟨⟨0,0,0⟩,⟨0,0,0⟩,⟨0,0,0⟩⟩,⟨0,0,0⟩⟩,n.SX,⟨0,0,0⟩,⟨0,(fun i=>0)⟩,0,n.cO⟩,true)) (cond (n.kind==4) (cond (Ah n).isSome (cond (((Ah n).getD default)==0) (cond (Ai n).isSome (some (⟨n.kind,⟨⟨⟨0,0,0⟩,⟨0,0,0⟩,⟨0,0,0⟩⟩,⟨0,0,0⟩⟩,0,n.lH,n.xJ,0,n.cO⟩,((Ai n).getD default))) none) (some (⟨n.kind,⟨⟨⟨0,0,0⟩,⟨0,0,0⟩,⟨0,0,0⟩⟩,⟨0,0,0⟩⟩,0,n.lH,n.xJ,0,n.cO⟩,false))) none) (cond (n.kind==5) (some (⟨n.kind,⟨⟨⟨0,0,0⟩,⟨0,0,0⟩,⟨0,0,0⟩⟩,⟨0,0,0⟩⟩,0,⟨0,0,0⟩,⟨0,(fun i=>0)⟩,n.fB,n.cO⟩,true)) (some (⟨n.kind,⟨⟨⟨0,0,0⟩,⟨0,0,0⟩,⟨0,0,0⟩⟩,⟨0,0,0⟩⟩,0,⟨0,0,0⟩,⟨0,(fun i=>0)⟩,0,n.cO⟩,false)))))))
theorem S5 (n:Node):A9 [(135,Ss),(134,GX),(133,Hw)] [] 79 [Jh n] = (rh n).map (fun (r:Node×Bool)=>KV.nh [Jh r.1,kB r.2]):=by
 unfold rh
 try simp only [cK]
 kernel_rfl
def LL:List KV->KR KV:=cJ PG 79 (cU (fun (r:Node×Bool)=>KV.nh [Jh r.1,kB r.2]) fun vs=>rh (Ee (v9 vs 0)))
theorem Re:cB PG 79 LL:=ir (aw.cons V4 (aw.cons Hv (aw.cons Nk aw.nil))) bP.nil fun w=>S5 (Ee (g0 77 (w 0)))
structure fk where
 s1:(Sl Int)
 s2:(Sl Int)
 t4:Bool
 t12:Int
 t13:Int
instance:Inhabited fk:=⟨⟨default,default,default,default,default⟩⟩
def pJ (x:fk):List KV:=[dD 3 (kI .i64) x.s1,dD 3 (kI .i64) x.s2,.bool x.t4,.int .i64 x.t12,.int .i64 x.t13]
def pK (x:fk):List (List KV):=[]
def vR (vs:List KV) (rs:List (List KV)):fk:=⟨eA av (v9 vs 0),eA av (v9 vs 1),j6 (v9 vs 2),av (v9 vs 3),av (v9 vs 4)⟩
def xu:aB:=⟨[(0,w9 (n9 3)),(1,w9 (n9 3)),(4,w9 b9),(12,w9 i9),(13,w9 i9)],[],[]⟩
def Fz:=GS [] [] 127 58 xu
def dy (x:fk):ba fk:=(cond (decide (x.t13 < x.t12)) (cond ((decide (0<=x.t13))&&(decide (x.t13 < (x.s1.n:Int)))) (cond ((decide (0<=x.t13))&&(decide (x.t13 < (x.s2.n:Int)))) (cond ((x.s1.get (Int.toNat x.t13)) != (x.s2.get (Int.toNat x.t13))) (.out aA.aa.ret ⟨x.s1,x.s2,false,x.t12,x.t13⟩) (.next ⟨x.s1,x.s2,x.t4,x.t12,(bR (x.t13+1))⟩)) .fail) .fail) (.out (aA.aa.exit 0) x))
theorem CR (x:fk):Fz (pJ x) (pK x)=ba.enc pJ pK (dy x):=by
 unfold dy
 try simp only [ba.dr]
 kernel_rfl
def xv:Lp:=⟨127,58,xu,fun vs rs=>eE pJ pK (goN dy (vR vs rs)) [aA.aa.exit 0,aA.aa.ret],false⟩
theorem FB:xv.Ok PG:=zZ aw.nil bP.nil (pa:=vR) CR
def nG (s1:(Sl Int)) (s2:(Sl Int)):=goN dy ⟨s1,s2,false,(s1.n:Int),0⟩
def ku (s1:(Sl Int)) (s2:(Sl Int)):Option (Bool):=(cond ((s1.n:Int) != (s2.n:Int)) (some (false)) (cond ((nG s1 s2).by (aA.aa.exit 0)) (some (true)) (cond ((nG s1 s2).by aA.aa.ret) (some ((nG s1 s2).st.t4)) none)))
theorem HP (s1:(Sl Int)) (s2:(Sl Int)):A9 [] [xv] 127 [(dD 3 (kI .i64)) s1,(dD 3 (kI .i64)) s2] = (ku s1 s2).map kB:=by
 unfold ku
 try simp only [cK]
 kernel_rfl
def Az:List KV->KR KV:=cJ PG 127 (cU kB fun vs=>ku ((eA av) (v9 vs 0)) ((eA av) (v9 vs 1)))
theorem GY:cB PG 127 Az:=ir aw.nil (qP FB bP.nil) fun w=>HP ((eA av) (g0 36 (w 0))) ((eA av) (g0 36 (w 1)))
def CB (a:Node) (b:Node):=ku a.xJ b.xJ
def qA (a:Node) (b:Node):Option (Bool):=(cond (a.kind==b.kind) (cond ((a.nB.m.e0.e0==b.nB.m.e0.e0)&&((a.nB.m.e0.e1==b.nB.m.e0.e1)&&((a.nB.m.e0.e2==b.nB.m.e0.e2)&&((a.nB.m.e1.e0==b.nB.m.e1.e0)&&((a.nB.m.e1.e1==b.nB.m.e1.e1)&&((a.nB.m.e1.e2==b.nB.m.e1.e2)&&((a.nB.m.e2.e0==b.nB.m.e2.e0)&&((a.nB.m.e2.e1==b.nB.m.e2.e1)&&((a.nB.m.e2.e2==b.nB.m.e2.e2)&&((a.nB.t.x==b.nB.t.x)&&((a.nB.t.y==b.nB.t.y)&&((a.nB.t.z==b.nB.t.z)&&true)))))))))))) (cond (a.SX==b.SX) (cond ((a.lH.x==b.lH.x)&&((a.lH.y==b.lH.y)&&((a.lH.z==b.lH.z)&&true))) (cond (CB a b).isSome (cond ((CB a b).getD default) (cond (a.fB==b.fB) (some (((a.cO.dm.e0==b.cO.dm.e0)&&((a.cO.dm.e1==b.cO.dm.e1)&&((a.cO.dm.e2==b.cO.dm.e2)&&((a.cO.dm.e3==b.cO.dm.e3)&&((a.cO.dm.e4==b.cO.dm.e4)&&((a.cO.look.color.e0==b.cO.look.color.e0)&&((a.cO.look.color.e1==b.cO.look.color.e1)&&((a.cO.look.color.e2==b.cO.look.color.e2)&&((a.cO.look.color.e3==b.cO.look.color.e3)&&((a.cO.look.fS==b.cO.look.fS)&&((a.cO.look.su==b.cO.look.su)&&((a.cO.look.qR==b.cO.look.qR)&&((a.cO.look.oS==b.cO.look.oS)&&((a.cO.look.bin==b.cO.look.bin)&&true)))))))))))))))) (some (false))) (some (false))) none) (some (false))) (some (false))) (some (false))) (some (false)))
theorem V5 (a:Node) (b:Node):A9 [(127,Az)] [] 76 [Jh a,Jh b] = (qA a b).map kB:=by
 unfold qA
 try simp only [cK]
 kernel_rfl
def tq:List KV->KR KV:=cJ PG 76 (cU kB fun vs=>qA (Ee (v9 vs 0)) (Ee (v9 vs 1)))
theorem qV:cB PG 76 tq:=ir (aw.cons GY aw.nil) bP.nil fun w=>V5 (Ee (g0 77 (w 0))) (Ee (g0 77 (w 1)))
def o5 (s:aD) (n:Node):=rh n
def tM (s:aD) (n:Node):=qA ((o5 s n).getD default).fst n
def tN (s:aD) (n:Node):=nV n.cO
def oA (s:aD) (n:Node):Option (Int):=(cond (n.cO.dm.e1 != 0) (cond (decide (n.cO.look.fS >= (s.iV.n:Int))) (some (8)) (some (0))) (some (0)))
def mo (s:aD) (n:Node):Option (Int):=(cond (o5 s n).isSome (cond (!((o5 s n).getD default).snd) (some (8)) (cond (tM s n).isSome (cond (!((tM s n).getD default)) (some (8)) (cond (tN s n).isSome (cond (((tN s n).getD default) != 0) (some (8)) (cond (n.kind==5) (cond (decide (n.fB < 0)) (some (8)) (cond (decide (n.fB >= (s.fJ.n:Int))) (some (8))
      (oA s n)))
     (oA s n))) none)) none)) none)
theorem KX (s:aD) (n:Node):A9 [(80,Hq),(76,tq),(79,LL)] [] 27 [xc s,Jh n] = (mo s n).map (kI .i64):=by
 unfold mo oA
 try simp only [cK]
 kernel_rfl
def oB:List KV->KR KV:=cJ PG 27 (cU (kI .i64) fun vs=>mo (mT (v9 vs 0)) (Ee (v9 vs 1)))
theorem oC:cB PG 27 oB:=ir (aw.cons Nd (aw.cons qV (aw.cons Re aw.nil))) bP.nil fun w=>KX (mT (g0 34 (w 0))) (Ee (g0 77 (w 1)))
structure bf where
 s:(Sl kD)
 t4:Int
 t7:Int
 t8:Int
instance:Inhabited bf:=⟨⟨default,default,default,default⟩⟩
def gQ (x:bf):List KV:=[dD 88 VU x.s,.fn (.func 69) [] [],.int .i64 x.t4,.int .i64 x.t7,.int .i64 x.t8]
def gR (x:bf):List (List KV):=[]
def kK (vs:List KV) (rs:List (List KV)):bf:=⟨eA Ji (v9 vs 0),av (v9 vs 2),av (v9 vs 3),av (v9 vs 4)⟩
def kY:aB:=⟨[(0,w9 (n9 88)),(1,⟨false,[.lit (.fn (.func 69) [] [])]⟩),(4,w9 i9),(7,w9 i9),(8,w9 i9)],[],[]⟩
def qW:=GS [(77,sq),(27,oB),(76,tq),(73,ss),(72,pI),(70,uj)] [] 125 26 kY
def gD (x:bf):=rf (x.s.get (Int.toNat x.t8))
def bp (x:bf):ba bf:=(cond (decide (x.t8 < x.t7)) (cond ((decide (0<=x.t8))&&(decide (x.t8 < (x.s.n:Int)))) (cond (gD x).isSome (cond (((gD x).getD default) != 0) (.out aA.aa.ret ⟨x.s,x.t8,x.t7,x.t8⟩) (.next ⟨x.s,x.t4,x.t7,(bR (x.t8+1))⟩)) .fail) .fail) (.out (aA.aa.exit 0) x))
theorem pU (x:bf):qW (gQ x) (gR x)=ba.enc gQ gR (bp x):=by
 unfold bp
 try simp only [ba.dr]
 kernel_rfl
def eR:Lp:=⟨125,26,kY,fun vs rs=>eE gQ gR (goN bp (kK vs rs)) [aA.aa.exit 0,aA.aa.ret],false⟩
theorem gS:eR.Ok PG:=zZ (aw.cons ou (aw.cons oC (aw.cons qV (aw.cons rO (aw.cons o4 (aw.cons tl aw.nil)))))) bP.nil (pa:=kK) pU
structure bh where
 s:(Sl kf)
 t4:Int
 t7:Int
 t8:Int
instance:Inhabited bh:=⟨⟨default,default,default,default⟩⟩
def gT (x:bh):List KV:=[dD 91 Fm x.s,.fn (.func 71) [] [],.int .i64 x.t4,.int .i64 x.t7,.int .i64 x.t8]
def gU (x:bh):List (List KV):=[]
def kL (vs:List KV) (rs:List (List KV)):bh:=⟨eA yq (v9 vs 0),av (v9 vs 2),av (v9 vs 3),av (v9 vs 4)⟩
def kZ:aB:=⟨[(0,w9 (n9 91)),(1,⟨false,[.lit (.fn (.func 71) [] [])]⟩),(4,w9 i9),(7,w9 i9),(8,w9 i9)],[],[]⟩
def qX:=GS [(77,sq),(27,oB),(76,tq),(73,ss),(72,pI),(70,uj)] [eR] 126 26 kZ
def gE (x:bh):=nj (x.s.get (Int.toNat x.t8))
def bq (x:bh):ba bh:=(cond (decide (x.t8 < x.t7)) (cond ((decide (0<=x.t8))&&(decide (x.t8 < (x.s.n:Int)))) (cond (gE x).isSome (cond (((gE x).getD default) != 0) (.out aA.aa.ret ⟨x.s,x.t8,x.t7,x.t8⟩) (.next ⟨x.s,x.t4,x.t7,(bR (x.t8+1))⟩)) .fail) .fail) (.out (aA.aa.exit 0) x))
theorem pV (x:bh):qX (gT x) (gU x)=ba.enc gT gU (bq x):=by
 unfold bq
 try simp only [ba.dr]
 kernel_rfl
def gZ:Lp:=⟨126,26,kZ,fun vs rs=>eE gT gU (goN bq (kL vs rs)) [aA.aa.exit 0,aA.aa.ret],false⟩
theorem kM:gZ.Ok PG:=zZ (aw.cons ou (aw.cons oC (aw.cons qV (aw.cons rO (aw.cons o4 (aw.cons tl aw.nil)))))) (qP gS bP.nil) (pa:=kL) pV
structure dZ where
 t2:Int
 t46:(Sl Node)
 t47:Int
 t48:Int
 s:aD
instance:Inhabited dZ:=⟨⟨default,default,default,default,default⟩⟩
def vq (x:dZ):List KV:=[.int .i64 x.t2,dD 77 Jh x.t46,.int .i64 x.t47,.int .i64 x.t48]
def vr (x:dZ):List (List KV):=[yW x.s]
def CC (vs:List KV) (rs:List (List KV)):dZ:=⟨av (v9 vs 0),eA Ee (v9 vs 1),av (v9 vs 2),av (v9 vs 3),yX (r9 rs 0)⟩
def Dy:aB:=⟨[(2,w9 i9),(46,w9 (n9 77)),(47,w9 i9),(48,w9 i9)],[(1,[n9 111,n9 35,n9 77,n9 88,n9 91,i9,i9],1)],[(1,0,0)]⟩
def Nl:=GS [(77,sq),(27,oB),(76,tq),(73,ss),(72,pI),(70,uj)] [eR,gZ] 25 250 Dy
def tP (x:dZ):=qA (x.t46.get (Int.toNat x.t48)) ⟨0,⟨⟨⟨0,0,0⟩,⟨0,0,0⟩,⟨0,0,0⟩⟩,⟨0,0,0⟩⟩,0,⟨0,0,0⟩,⟨0,(fun i=>0)⟩,0,⟨⟨0,0,0,0,0⟩,⟨⟨0,0,0,0⟩,0,0,0,false,0⟩⟩⟩
def tQ (x:dZ):=mo x.s (x.t46.get (Int.toNat x.t48))
def jP (x:dZ):ba dZ:=(cond ((decide (0<=x.t48))&&(decide (x.t48 < (x.s.graph.bZ.cu.n:Int)))) (cond (x.s.graph.bZ.cu.get (Int.toNat x.t48)).live (cond (tQ x).isSome (cond (((tQ x).getD default) != 0) (.out aA.aa.ret ⟨8,x.t46,x.t47,x.t48,x.s⟩) (cond ((x.t46.get (Int.toNat x.t48)).kind==5) (cond ((decide (0<=x.t48))&&(decide (x.t48 < (x.s.graph.kids.n:Int)))) (cond (decide (((x.s.graph.kids.get (Int.toNat x.t48)).n:Int) > 0)) (.out aA.aa.ret ⟨8,x.t46,x.t47,x.t48,x.s⟩) (.next ⟨x.t2,x.t46,x.t47,(bR (x.t48+1)),x.s⟩)) .fail) (.next ⟨x.t2,x.t46,x.t47,(bR (x.t48+1)),x.s⟩))) .fail) (.next ⟨x.t2,x.t46,x.t47,(bR (x.t48+1)),x.s⟩)) .fail)
def fp (x:dZ):ba dZ:=(cond (decide (x.t48 < x.t47)) (cond ((decide (0<=x.t48))&&(decide (x.t48 < (x.t46.n:Int)))) (cond ((decide (0<=x.t48))&&(decide (x.t48 < (x.s.graph.bZ.cu.n:Int)))) (cond (!(x.s.graph.bZ.cu.get (Int.toNat x.t48)).live) (cond (tP x).isSome (cond (!((tP x).getD default)) (.out aA.aa.ret ⟨8,x.t46,x.t47,x.t48,x.s⟩)
    (jP x)) .fail)
   (jP x)) .fail) .fail) (.out (aA.aa.exit 0) x))
theorem Jo (x:dZ):Nl (vq x) (vr x)=ba.enc vq vr (fp x):=by
 unfold fp jP
 try simp only [ba.dr]
 kernel_rfl
def Dz:Lp:=⟨25,250,Dy,fun vs rs=>eE vq vr (goN fp (CC vs rs)) [aA.aa.exit 0,aA.aa.ret],false⟩
theorem Nn:Dz.Ok PG:=zZ (aw.cons ou (aw.cons oC (aw.cons qV (aw.cons rO (aw.cons o4 (aw.cons tl aw.nil)))))) (qP gS (qP kM bP.nil)) (pa:=CC) Jo
def Aj (s:aD):=Ck s.graph
def uO (s:aD):=goN bp ⟨s.fJ,0,(s.fJ.n:Int),0⟩
def uQ (s:aD):=goN bq ⟨s.iV,0,(s.iV.n:Int),0⟩
def kN (s:aD):=goN fp ⟨0,s.nodes,(s.nodes.n:Int),0,s⟩
def Ak (s:aD):=de (kN s).st.s.graph.bZ (kN s).st.s.root
def tr (s:aD):Option (Int):=(cond ((kN s).by (aA.aa.exit 0)) (cond (!(((kN s).st.s.root.slot==0)&&(((kN s).st.s.root.gen==0)&&true))) (cond (Ak s).isSome (cond (!((Ak s).getD default)) (some (8)) (some (0))) none) (some (0))) (cond ((kN s).by aA.aa.ret) (some ((kN s).st.t2)) none))
def tt (s:aD):Option (Int):=(cond (decide ((s.iV.n:Int) > 16)) (some (8)) (cond ((uQ s).by (aA.aa.exit 0))
  (tr s) (cond ((uQ s).by aA.aa.ret) (cond (decide ((uQ s).st.t4 >= 0)) (some (8))
   (tr s)) none)))
def lI (s:aD):Option (Int):=(cond (Aj s).isSome (cond (((Aj s).getD default) != 0) (some (8)) (cond ((s.nodes.n:Int) != (s.graph.kids.n:Int)) (some (8)) (cond (decide ((s.fJ.n:Int) > 32)) (some (8)) (cond ((uO s).by (aA.aa.exit 0))
    (tt s) (cond ((uO s).by aA.aa.ret) (cond (decide ((uO s).st.t4 >= 0)) (some (8))
     (tt s)) none))))) none)
theorem S6 (s:aD):A9 [(77,sq),(27,oB),(76,tq),(73,ss),(72,pI),(70,uj)] [Dz,eR,gZ] 25 [xc s] = (lI s).map (kI .i64):=by
 unfold lI tt tr
 try simp only [cK]
 kernel_rfl
def um:List KV->KR KV:=cJ PG 25 (cU (kI .i64) fun vs=>lI (mT (v9 vs 0)))
theorem tu:cB PG 25 um:=ir (aw.cons ou (aw.cons oC (aw.cons qV (aw.cons rO (aw.cons o4 (aw.cons tl aw.nil)))))) (qP Nn (qP gS (qP kM bP.nil))) fun w=>S6 (mT (g0 34 (w 0)))
def DA:List (Nat×(List KV->KR KV)):=[]
def DB:List Lp:=[]
theorem KY:aw Tryz.prog DA:=aw.nil
theorem K0:bP Tryz.prog DB:=bP.nil
def yF (s:(Sl Int)):Option ((Sl Int)):=(cond (Nat.blt 0 s.n) (cond ((Nat.blt 0 s.n)&&(lP 8 0 s.n)) (some (((Sl.lit []).join s))) none) none)
theorem Np (s:(Sl Int)):zS Tryz.prog (mS Tryz.prog DA DB (fun _=>false)) 9 9 98 [(dD 3 (kI .i64)) s] = (yF s).map (dD 3 (kI .i64)):=by
 unfold yF
 try simp only [cK,ahb,aci,ajo]
 kernel_rfl
def Rf:List KV->KR KV:=cJ Tryz.prog 98 (cU (dD 3 (kI .i64)) fun vs=>yF ((eA av) (vs.getD 0 .bx)))
theorem AA (w:Nat->KV):pz Tryz.prog [36] w 0 = [(dD 3 (kI .i64)) ((eA av) (gX Tryz.prog (bX Tryz.prog df) 36 (w 0)))]:=by kernel_rfl
theorem K3:cB Tryz.prog 98 Rf:=Sj funcs mixed KY K0 (L:=9) (n:=9) fun w=>by
 have e:bK Tryz.prog 98 = [36]:=by kernel_rfl
 rw [e,AA]
 exact (Np ((eA av) (gX Tryz.prog (bX Tryz.prog df) 36 (w 0)))).trans (by kernel_rfl)
end
end Go.Proofs.YtckbdndhmcoihaaGreat.b
end
section
namespace Go.K
open Go Go.aA
variable {P:Program} {E:Env}
theorem ahh {t e:TypeId} {i:TypeInfo} (h:P.underlying t=some (.slice e)) (hi:P.info? e=some i) (b:Addr) (a:Option Addr) (c:Nat) (w:World):(Builtin.append_ #[t,t] t #[.slice (some b) 0 0,.slice a 0 c]).run P w = .ok (.slice (some b) 0 0) w:=by
 cases a <;> simp [Builtin.append_,aA.aV h,sizeOf,typeInfo,hi,Builtin.lenOf,Builtin.firstCells,loadCells,loadCellsFrom,storeCells]
structure Yi (P:Program) (g:FuncId) (e:TypeId):Prop where
 nil:∀ c w,Calls P g #[.slice none 0 c] w fun r w'=>r = .returned (.slice none 0 0)/\w' = w
 some:∀ a c w,Calls P g #[.slice (some a) 0 c] w fun r w'=>r = .returned (.slice (some ⟨w.heap.size,0,none⟩) 0 0)/\w' = w.alloc (.cells #[] e)
def zB {α:Type} (b:Nat) (s:Sl α):Option (Sl α):=cond (lP b 0 s.n) (some s) none
theorem Sl.ahi {α:Type} [Inhabited α] (s:Sl α):(Sl.lit []).join s=s:=by
 cases s with
 | mk n f=>
  unfold Sl.join Sl.lit;simp only [FL,bF];congr 1
theorem VK.ajI {T:TypeId} {a:Option Addr} {acc:Nat->KV} (h:OD E (aJ P T) a 0 []):VK P E (.ts T .any 0 [] acc) (.slice a 0 0):=by
 simp only [VK];exact ⟨⟨rfl,fun i hi=>absurd hi (mM _),rfl⟩,[],.nil,a,0,rfl,ao _,h,trivial⟩
theorem acC {g:FuncId} {T t:TypeId} {b:Nat} {α:Type} {k:α->KV} {p:KV->α} {f1:Sl α->Option (Sl α)} [Inhabited α] (hn:Yi P g T) (ht:bK P g = [t]) (hf:∀ s,f1 s=cond (Nat.blt 0 s.n) (cond (Nat.blt 0 s.n&&lP b 0 s.n) (some ((Sl.lit []).join s)) none) none)
  (amA:∀ w,pz P [t] w 0 = [dD T k (eA p (gX P (bX P df) t (w 0)))]) (h1:cB P g (cJ P g (cU (dD T k) fun vs=>f1 (eA p (vs.getD 0 .bx))))) (hc:pq P g) :
  cB P g (cJ P g (cU (dD T k) fun vs=>zB b (eA p (vs.getD 0 .bx)))):=by
 intro args v hF hlen;refine ⟨hc,?_⟩;have hF0:=hF;unfold cJ at hF;obtain ⟨hb,hF⟩:=az.cond hF;obtain ⟨ww,hw⟩:=Cj 0 hb;rw [ht] at hw;rw [amA] at hw;rw [ht,hw] at hF;unfold cU at hF;obtain ⟨h2,h3⟩:=az.iJ hF;have es:(([dD T k (eA p (gX P (bX P df) t (ww 0)))] : List KV).getD 0 .bx)=dD T k (eA p (gX P (bX P df) t (ww 0))):=rfl;have h2:(zB b (eA p (([dD T k (eA p (gX P (bX P df) t (ww 0)))] : List KV).getD 0 .bx))).isSome=true:=h2;have h3:dD T k ((zB b (eA p (([dD T k (eA p (gX P (bX P df) t (ww 0)))] : List KV).getD 0 .bx))).getD default)=v:=h3;rw [es] at h2 h3;generalize hs:eA p (dD T k (eA p (gX P (bX P df) t (ww 0))))=s at h2 h3;cases hq:Nat.blt 0 s.n with
 | true=>
  have:az (cJ P g (cU (dD T k) fun vs=>f1 (eA p (vs.getD 0 .bx))) (normArgs P (bK P g) args)) v:=by
   unfold cJ;rw [hb,ah,ht,hw];show az (KR.iJ (f1 (eA p (([dD T k (eA p (gX P (bX P df) t (ww 0)))] : List KV).getD 0 .bx))).isSome (dD T k ((f1 (eA p (([dD T k (eA p (gX P (bX P df) t (ww 0)))] : List KV).getD 0 .bx))).getD default))) v;rw [es,hs,hf,hq];unfold zB at h2 h3;cases ha:lP b 0 s.n with
   | false=>rw [ha] at h2; simp at h2
   | true=>
    rw [ha] at h3;simp only [cY,ah,Sl.ahi];exact ⟨rfl,h3⟩
  exact (h1 args v this hlen).2
 | false=>
  have hz:s.n=0:=by
   apply Classical.byContradiction;intro hk;have:Nat.blt 0 s.n=true:=by rw [b8]; omega
   rw [hq] at this;simp at this
  have hv0:v = .ts T .any 0 [] fun i=>k (s.get i):=by
   have ha:lP b 0 s.n=true:=by
    unfold zB at h2;cases ha:lP b 0 s.n with
    | true=>rfl
    | false=>rw [ha] at h2; simp at h2
   rw [<- h3];unfold zB;rw [ha];show dD T k s=_;unfold dD;rw [hz];rfl
  intro E A B ρ base w bM hv hj;have vX:ny P E ρ (normArgs P (bK P g) args) bM:=by
   obtain ⟨m,h1,h2⟩:=hv;exact ⟨m,aK.GG (.of rfl) h1 hlen,h2⟩
  rw [ht,hw] at vX;obtain ⟨u,us,rfl,hu,EU⟩:=vX.qQ;obtain rfl:=EU.Pr;have WH:(eA p (gX P (bX P df) t (ww 0))).n=0:=(congrArg Sl.n hs).trans hz;unfold dD at hu;rw [WH] at hu;obtain ⟨u',hk,hr⟩:=hu;obtain ⟨_,aP,_,a,cap,rfl,_,_,_⟩:=hk.jC;subst hv0;cases a with
  | none=>
   rw [hr.ff];refine (hn.nil cap w).mono ?_;rintro r w' ⟨rfl,rfl⟩;exact ⟨_,E,B,ρ,rfl,⟨.slice none 0 0,VK.ajI (.inl ⟨rfl,rfl⟩),by simp [VR]⟩,.refl hj.k hj.s⟩
  | some a=>
   obtain ⟨_,_,_,a',c',_,_,_,_,rfl⟩:=hr.iG;refine (hn.some a' c' w).mono ?_;rintro r w' ⟨rfl,rfl⟩;have g:=Lc (cs:=[]) (c:=#[]) (aQ:=aJ P T) T hj.s (by unfold cD; rfl) (fun v hv=>by simp at hv);refine ⟨_,E.dV B.next ⟨[],aJ P T,true,none⟩,B.new (.row [] (aJ P T) true none),ρ.set B.next ⟨w.heap.size,0,0,aJ P T⟩,rfl,⟨.slice (some ⟨B.next,0,none⟩) 0 0,VK.ajI (.inr ⟨B.next,0,⟨[],aJ P T,true,none⟩,rfl,by simp [Env.dV],rfl,fun i x hi=>by simp at hi⟩),?_⟩,(cE.UI hj.k).ev g⟩;simp only [VR];exact ⟨trivial,ao _,⟨w.heap.size,0,0,aJ P T⟩,⟨w.heap.size,0,none⟩,0,by simp [Ren.set],ao _,fun h=>absurd rfl h,by simp,rfl⟩
end Go.K
end
section
set_option maxRecDepth 20000
namespace Go.Proofs.YtckbdndhmcoihaaGreat.b
open Go Go.RowKit Go.Lib Go.Shelf Go.K
noncomputable section
set_option maxHeartbeats 4000000 in
theorem Xf:Yi Tryz.prog 98 3:=by
 have mixed:=nodes.s5;have t36:=Tryz.underlying36; have a36:=Tryz.isAgg36; have z36:=Tryz.sizeOf36; have v36:=Tryz.zeroValue36; have u36:=run_underlying Tryz.underlying36;have t3:=Tryz.underlying3; have a3:=Tryz.isAgg3; have z3:=Tryz.sizeOf3; have v3:=Tryz.zeroValue3; have u3:=run_underlying Tryz.underlying3;have h1:=fun (a:Option Addr) (n c:Nat) (w:World)=>Lib.run_eql_slice_nil (P:=Tryz.prog) w 36 3 a n c 0 0 Tryz.underlying36;have h2:=fun b=>ahh Tryz.underlying36 (show Tryz.prog.info? 3=some _ from rfl) b;refine ⟨fun c w=>?_,fun a c w=>?_⟩
 ·go_enter Tryz.func98,Tryz.ntmps98
  go_wp2
  go_ret
  exact ⟨rfl,rfl⟩
 ·go_enter Tryz.func98,Tryz.ntmps98
  go_wp2
  go_ret
  exact ⟨rfl,rfl⟩
def qB (s:(Sl Int)):Option (Sl Int):=zB 8 s
def vt:List KV->KR KV:=cJ Tryz.prog 98 (cU (dD 3 (kI .i64)) fun vs=>qB ((eA av) (vs.getD 0 .bx)))
theorem xR:cB Tryz.prog 98 vt:=acC (b:=8) Xf (by kernel_rfl) (fun _=>rfl) AA K3 ⟨by kernel_rfl,_,Tryz.func98,rfl,by kernel_rfl⟩
set_option maxHeartbeats 4000000 in
set_option maxHeartbeats 4000000 in
set_option maxHeartbeats 4000000 in
set_option maxHeartbeats 4000000 in
end
end Go.Proofs.YtckbdndhmcoihaaGreat.b
end
section
namespace Go.Proofs.YtckbdndhmcoihaaGreat.b
open Go.K
noncomputable section
structure Path where
 nodes:(Sl Handle)
 kids:(Sl Int)
instance:Inhabited Path:=⟨⟨default,default⟩⟩
def Rg (x:Path):List KV:=[dD 32 jL x.nodes,dD 3 (kI .i64) x.kids]
def xw (x:Path):KV:=.agg (Rg x)
def Rh (c:Nat->KV):Path:=⟨eA jM (c 0),eA av (c 1)⟩
def Eh (v:KV):Path:=Rh fun k=>v.cells.getD k .bx
structure fM where
 t5:Bool
 t19:(Sl Int)
 t20:Int
 t21:Int
 s:aD
 t4:Path
 p:Path
 h:Handle
instance:Inhabited fM:=⟨by constructor<;>exact default⟩
def sB (x:fM):List KV:=[.bool x.t5,dD 3 (kI .i64) x.t19,.int .i64 x.t20,.int .i64 x.t21]
def sC (x:fM):List (List KV):=[yW x.s,Rg x.t4,Rg x.p,VI x.h]
def zC (vs:List KV) (rs:List (List KV)):fM:=⟨j6 (v9 vs 0),eA av (v9 vs 1),av (v9 vs 2),av (v9 vs 3),yX (r9 rs 0),Rh (r9 rs 1),Rh (r9 rs 2),VJ (r9 rs 3)⟩
def AB:aB:=⟨[(5,w9 b9),(19,w9 (n9 3)),(20,w9 i9),(21,w9 i9)],[(2,[n9 111,n9 35,n9 77,n9 88,n9 91,i9,i9],1),(4,[.aF 32,n9 3],1),(6,[.aF 32,n9 3],1),(7,[i9,i9],1)],[(2,0,0),(4,1,0),(6,2,0),(7,3,0)]⟩
def Jp:=GS [(98,vt)] [] 51 122 AB
def kT (x:fM):ba fM:=(cond (cond (bU x.p.nodes.n x.p.nodes.n) true false) (.out aA.aa.ret ⟨false,x.t19,x.t20,x.t21,x.s,⟨⟨0,(fun i=>⟨0,0⟩)⟩,⟨0,(fun i=>0)⟩⟩,x.p,x.h⟩) .fail)
def iX (x:fM):ba fM:=(cond (decide (x.t21 < x.t20)) (cond ((decide (0<=x.t21))&&(decide (x.t21 < (x.t19.n:Int)))) (cond ((decide (0<=x.h.slot))&&(decide (x.h.slot < (x.s.graph.kids.n:Int)))) (cond (decide ((x.t19.get (Int.toNat x.t21)) < 0))
   (kT x) (cond (decide ((x.t19.get (Int.toNat x.t21)) >= ((x.s.graph.kids.get (Int.toNat x.h.slot)).n:Int)))
    (kT x) (cond ((decide (0<=(x.t19.get (Int.toNat x.t21))))&&(decide ((x.t19.get (Int.toNat x.t21)) < ((x.s.graph.kids.get (Int.toNat x.h.slot)).n:Int)))) (cond ((bU x.p.nodes.n x.p.nodes.n)&&(lP 16 x.p.nodes.n 1)) (cond (cond (bU (x.p.nodes.n+1) (x.p.nodes.n+1)) (bU x.t4.nodes.n x.t4.nodes.n) false) (.next ⟨x.t5,x.t19,x.t20,(bR (x.t21+1)),x.s,x.t4,⟨(x.p.nodes.push ((x.s.graph.kids.get (Int.toNat x.h.slot)).get (Int.toNat (x.t19.get (Int.toNat x.t21))))),x.p.kids⟩,((x.s.graph.kids.get (Int.toNat x.h.slot)).get (Int.toNat (x.t19.get (Int.toNat x.t21))))⟩) .fail) .fail) .fail))) .fail) .fail) (cond (cond (bU x.p.nodes.n x.p.nodes.n) (bU x.t4.nodes.n x.t4.nodes.n) false) (.out (aA.aa.exit 0) x) .fail))
theorem GZ (x:fM):Jp (sB x) (sC x)=ba.enc sB sC (iX x):=by
 unfold iX kT
 try simp only [ba.dr,GU]
 kernel_rfl
def AD:Lp:=⟨51,122,AB,fun vs rs=>eE sB sC (goN iX (zC vs rs)) [aA.aa.exit 0,aA.aa.ret],false⟩
theorem Jq:AD.Ok PG:=zZ (aw.cons xR aw.nil) bP.nil (pa:=zC) GZ
def rP (s:aD) (kids:(Sl Int)):=qB kids
def ki (s:aD) (kids:(Sl Int)):=goN iX ⟨false,kids,(kids.n:Int),1,s,⟨⟨0,(fun i=>⟨0,0⟩)⟩,⟨0,(fun i=>0)⟩⟩,⟨((Sl.lit [s.root]).push ((s.graph.kids.get (Int.toNat s.root.slot)).get (Int.toNat (kids.get 0)))),((rP s kids).getD default)⟩,((s.graph.kids.get (Int.toNat s.root.slot)).get (Int.toNat (kids.get 0)))⟩
def qC (s:aD) (kids:(Sl Int)):Option (Path×Bool):=(some (⟨⟨0,(fun i=>⟨0,0⟩)⟩,⟨0,(fun i=>0)⟩⟩,false))
def nY (s:aD) (kids:(Sl Int)):Option (Path×Bool):=(cond (rP s kids).isSome (cond (decide (0 < (kids.n:Int))) (cond (decide (0 < (kids.n:Int))) (cond ((decide (0<=s.root.slot))&&(decide (s.root.slot < (s.graph.kids.n:Int)))) (cond (decide ((kids.get 0) < 0))
    (qC s kids) (cond (decide ((kids.get 0) >= ((s.graph.kids.get (Int.toNat s.root.slot)).n:Int)))
    (qC s kids) (cond ((decide (0<=(kids.get 0)))&&(decide ((kids.get 0) < ((s.graph.kids.get (Int.toNat s.root.slot)).n:Int)))) (cond ((ki s kids).by (aA.aa.exit 0)) (some ((ki s kids).st.p,true)) (cond ((ki s kids).by aA.aa.ret) (some ((ki s kids).st.t4,(ki s kids).st.t5)) none)) none))) none) none) (some (⟨(Sl.lit [s.root]),((rP s kids).getD default)⟩,true))) none)
theorem PJ (s:aD) (kids:(Sl Int)):A9 [(98,vt)] [AD] 51 [xc s,(dD 3 (kI .i64)) kids] = (nY s kids).map (fun (r:Path×Bool)=>KV.nh [xw r.1,kB r.2]):=by
 unfold nY qC
 try simp only [cK,ki,GU,aco,acp]
 kernel_rfl
def Hy:List KV->KR KV:=cJ PG 51 (cU (fun (r:Path×Bool)=>KV.nh [xw r.1,kB r.2]) fun vs=>nY (mT (v9 vs 0)) ((eA av) (v9 vs 1)))
theorem Nq:cB PG 51 Hy:=ir (aw.cons xR aw.nil) (qP Jq bP.nil) fun w=>PJ (mT (g0 34 (w 0))) ((eA av) (g0 36 (w 1)))
def Al (down:Int->Sl Int×Sl Int->Option (Sl Int×Sl Int)) (l:Sl Handle):Nat->Int×Int×(Sl Int×Sl Int)->Option (Int×Int×(Sl Int×Sl Int))
 | 0,x=>some x
 | k+1,x=>(Al down l k x).bind fun y=>(down (l.get k).slot y.2.2).bind fun z=>
   some (max y.1 (z.1.get (l.get k).slot.toNat),min (bR (y.2.1+z.2.get (l.get k).slot.toNat)) 257,z)
def qD (s:aD):Nat->Int->Sl Int×Sl Int->Option (Sl Int×Sl Int)
 | 0,_,_=>none
 | f+1,slot,x=>cond (decide (0<=slot)&&decide (slot < (x.1.n:Int))&&decide (slot < (s.graph.kids.n:Int))&&decide (slot < (s.nodes.n:Int)))
   (cond (decide (x.1.get slot.toNat > 0)) (some x)
    ((Al (qD s f) (s.graph.kids.get slot.toNat) (s.graph.kids.get slot.toNat).n (0,0,x)).bind fun y=>
     some (y.2.2.1.set slot.toNat (bR (y.1+1)),y.2.2.2.set slot.toNat (cond ((s.nodes.get slot.toNat).kind==5) 1 y.2.1)))) none
def Fits (s:aD):Prop:=s.nodes.n<=1000000/\∀ i,i < s.graph.kids.n->(s.graph.kids.get i).n<=1000000
open Classical in
def dE (s:aD):Option (Sl Int×Sl Int):=if Fits s then qD s 250 s.root.slot (⟨s.nodes.n,fun _=>0⟩,⟨s.nodes.n,fun _=>0⟩) else none
def qZ:List KV->KR KV:=cJ Tryz.prog 91 (cU (fun (r:Sl Int×Sl Int)=>KV.nh [(dD 3 (kI .i64)) r.1,(dD 3 (kI .i64)) r.2]) fun vs=>dE (mT (vs.getD 0 .bx)))
end
end Go.Proofs.YtckbdndhmcoihaaGreat.b
end
section
set_option maxRecDepth 20000
namespace Go.Proofs.YtckbdndhmcoihaaGreat.DY
open Go Go.RowKit Go.Lib Go.Shelf Go.K
open nodes (s5)
structure Q where
 ka:Option Addr
 kc:Nat
 ia:Nat->Option Addr
 ic:Nat->Nat
 na:Option Addr
 nc:Nat
structure QAt (s:b.aD) (q:Q) (B:Nat) (W:World):Prop where
 kids:∀ i,i < s.graph.kids.n->∃ b off,q.ka=some ⟨b,off,none⟩/\b < B/\W.cell? ⟨b,off+i,none⟩=some (.slice (q.ia i) (s.graph.kids.get i).n (q.ic i))
 row:∀ i,i < s.graph.kids.n->∀ k,k < (s.graph.kids.get i).n->∃ b off,q.ia i=some ⟨b,off,none⟩/\b < B/\W.cell? ⟨b,off+k * 2,none⟩=some (.int .i64 ((s.graph.kids.get i).get k).slot)/\W.cell? ⟨b,off+k * 2+1,none⟩=some (.int .i64 ((s.graph.kids.get i).get k).gen)
 kind:∀ i,i < s.nodes.n->∃ b off,q.na=some ⟨b,off,none⟩/\b < B/\W.cell? ⟨b,off+i * 33,none⟩=some (.int .u8 (s.nodes.get i).kind)
structure v7 (d m:Nat) (W W' : World):Prop where
 os:W'.os=W.os
 tape:W'.tape=W.tape
 output:W'.output=W.output
 size:W.heap.size<=W'.heap.size
 block:∀ k,k < W.heap.size->k≠d->k≠m->W'.heap[k]? = W.heap[k]?
theorem v7.refl (d m:Nat) (W:World):v7 d m W W:=⟨rfl,rfl,rfl,ao _,fun _ _ _ _=>rfl⟩
theorem v7.trans {d m:Nat} {W W' W2:World} (h:v7 d m W W') (k:v7 d m W' W2):v7 d m W W2:=
 ⟨k.os.trans h.os,k.tape.trans h.tape,k.output.trans h.output,dx h.size k.size,fun j hj hn T7=>(k.block j (dG hj h.size) hn T7).trans (h.block j hj hn T7)⟩
theorem v7.cell {d m:Nat} {W W' : World} (h:v7 d m W W') {b j:Nat} (hb:b < W.heap.size) (hd:b≠d) (hm:b≠m):W'.cell? ⟨b,j,none⟩=W.cell? ⟨b,j,none⟩:=by
 have:=h.block b hb hd hm;unfold World.cell?;simp only [this]
theorem v7.alloc {d m:Nat} (W:World) (o:Obj):v7 d m W (W.alloc o):=⟨rfl,rfl,rfl,by simp,fun k hk _ _=>Below.heap_alloc W o k hk⟩
theorem v7.drew (d m:Nat) (W:World):v7 d m W W.drew:=⟨rfl,rfl,rfl,ao _,fun _ _ _ _=>rfl⟩
theorem QAt.di {s:b.aD} {q:Q} {B d m:Nat} {W W' : World} (h:QAt s q B W) (k:v7 d m W W') (hB:B<=W.heap.size) (hd:B<=d) (hm:B<=m):QAt s q B W':=by
 refine ⟨fun i hi=>?_,fun i hi j hj=>?_,fun i hi=>?_⟩
 ·obtain ⟨b,off,h1,h2,h3⟩:=h.kids i hi
  exact ⟨b,off,h1,h2,by rw [k.cell (by omega) (by omega) (by omega)]; exact h3⟩
 ·obtain ⟨b,off,h1,h2,h3,h4⟩:=h.row i hi j hj
  exact ⟨b,off,h1,h2,by rw [k.cell (by omega) (by omega) (by omega)]; exact h3,by rw [k.cell (by omega) (by omega) (by omega)]; exact h4⟩
 ·obtain ⟨b,off,h1,h2,h3⟩:=h.kind i hi
  exact ⟨b,off,h1,h2,by rw [k.cell (by omega) (by omega) (by omega)]; exact h3⟩
structure CE (s:b.aD) (q:Q) (B b1 b2 b3 b4 d m N:Nat) (W:World) (x:Sl Int×Sl Int):Prop where
 at_:QAt s q B W
 eD:B<=W.heap.size
 l1:b1 < W.heap.size/\b1≠d/\b1≠m
 l2:b2 < W.heap.size/\b2≠d/\b2≠m
 l3:b3 < W.heap.size/\b3≠d/\b3≠m
 l4:b4 < W.heap.size/\b4≠d/\b4≠m
 ld:B<=d/\d < W.heap.size
 lm:B<=m/\m < W.heap.size
 ne:d≠m
 n1:x.1.n=N
 n2:x.2.n=N
 c1:W.cell? ⟨b1,0,none⟩=some (.slice (some ⟨d,0,none⟩) N N)
 c2:W.cell? ⟨b2,1,none⟩=some (.slice q.ka s.graph.kids.n q.kc)
 e2:W.cell? ⟨b2,2,none⟩=some (.slice q.na s.nodes.n q.nc)
 c3:W.cell? ⟨b3,0,none⟩=some (.func (.func 162) #[] #[.pointer (some ⟨b1,0,none⟩),.pointer (some ⟨b2,0,none⟩),.pointer (some ⟨b3,0,none⟩),.pointer (some ⟨b4,0,none⟩)])
 c4:W.cell? ⟨b4,0,none⟩=some (.slice (some ⟨m,0,none⟩) N N)
 cd:∀ i,i < N->W.cell? ⟨d,i,none⟩=some (.int .i64 (x.1.get i))
 cm:∀ i,i < N->W.cell? ⟨m,i,none⟩=some (.int .i64 (x.2.get i))
 fd:∀ i,W.frozen? ⟨d,i,none⟩=false
 fm:∀ i,W.frozen? ⟨m,i,none⟩=false
theorem CE.grow {s:b.aD} {q:Q} {B b1 b2 b3 b4 d m N:Nat} {W W' : World} {x:Sl Int×Sl Int} (h:CE s q B b1 b2 b3 b4 d m N W x) (k:v7 d m W W') (hd:W'.heap[d]? = W.heap[d]?) (hm:W'.heap[m]? = W.heap[m]?):CE s q B b1 b2 b3 b4 d m N W' x where
 at_:=h.at_.di k h.eD h.ld.1 h.lm.1
 eD:=dx h.eD k.size
 l1:=⟨dG h.l1.1 k.size,h.l1.2⟩
 l2:=⟨dG h.l2.1 k.size,h.l2.2⟩
 l3:=⟨dG h.l3.1 k.size,h.l3.2⟩
 l4:=⟨dG h.l4.1 k.size,h.l4.2⟩
 ld:=⟨h.ld.1,dG h.ld.2 k.size⟩
 lm:=⟨h.lm.1,dG h.lm.2 k.size⟩
 ne:=h.ne
 n1:=h.n1
 n2:=h.n2
 c1:=(k.cell h.l1.1 h.l1.2.1 h.l1.2.2).trans h.c1
 c2:=(k.cell h.l2.1 h.l2.2.1 h.l2.2.2).trans h.c2
 e2:=(k.cell h.l2.1 h.l2.2.1 h.l2.2.2).trans h.e2
 c3:=(k.cell h.l3.1 h.l3.2.1 h.l3.2.2).trans h.c3
 c4:=(k.cell h.l4.1 h.l4.2.1 h.l4.2.2).trans h.c4
 cd i hi:=by rw [<- h.cd i hi]; unfold World.cell?; simp only [hd]
 cm i hi:=by rw [<- h.cm i hi]; unfold World.cell?; simp only [hm]
 fd i:=by rw [<- h.fd i]; unfold World.frozen?; simp only [hd]
 fm i:=by rw [<- h.fm i]; unfold World.frozen?; simp only [hm]
theorem v7.set (d m:Nat) (W:World) (i k:Nat) (u v:Value):v7 d m W ((W.setCell ⟨d,i,none⟩ u).setCell ⟨m,k,none⟩ v):=
 ⟨rfl,rfl,rfl,by simp,fun j _ h1 h2=>by rw [heap_setCell_other _ _ _ _ h2,heap_setCell_other _ _ _ _ h1]⟩
theorem CE.put {s:b.aD} {q:Q} {B b1 b2 b3 b4 d m N:Nat} {W:World} {x:Sl Int×Sl Int} (h:CE s q B b1 b2 b3 b4 d m N W x) {i:Nat} (hi:i < N) (u v:Int) :
  CE s q B b1 b2 b3 b4 d m N ((W.setCell ⟨d,i,none⟩ (.int .i64 u)).setCell ⟨m,i,none⟩ (.int .i64 v)) (x.1.set i u,x.2.set i v):=by
 have k:=v7.set d m W i i (.int .i64 u) (.int .i64 v);have bA:∀ {a c:Nat} {j l:Nat},a≠c->(⟨a,j,none⟩:Addr)≠⟨c,l,none⟩:=fun h e=>h (by simpa using congrArg Addr.block e);have Oo:∀ {a:Nat} {j l:Nat},j≠l->(⟨a,j,none⟩:Addr)≠⟨a,l,none⟩:=fun h e=>h (by simpa using congrArg Addr.off e);have BG:∀ {s:Sl Int} {j:Nat} {w:Int},(s.set i w).get j=if j=i then w else s.get j:=fun {s j w}=>by
  by_cases e:j=i
  ·subst e
   show cond (Nat.beq j j) w (s.get j)=_;rw [p9,ax rfl]; rfl
  ·have:Nat.beq j i=false:=by
    cases q:Nat.beq j i with
    | false=>rfl
    | true=>exact absurd (aE q) e
   show cond (Nat.beq j i) w (s.get j)=_;rw [this,ae e]; rfl
 refine ⟨h.at_.di k h.eD h.ld.1 h.lm.1,dx h.eD k.size,⟨dG h.l1.1 k.size,h.l1.2⟩,⟨dG h.l2.1 k.size,h.l2.2⟩,⟨dG h.l3.1 k.size,h.l3.2⟩,⟨dG h.l4.1 k.size,h.l4.2⟩,
  ⟨h.ld.1,dG h.ld.2 k.size⟩,⟨h.lm.1,dG h.lm.2 k.size⟩,h.ne,h.n1,h.n2,(k.cell h.l1.1 h.l1.2.1 h.l1.2.2).trans h.c1,(k.cell h.l2.1 h.l2.2.1 h.l2.2.2).trans h.c2,(k.cell h.l2.1 h.l2.2.1 h.l2.2.2).trans h.e2,
  (k.cell h.l3.1 h.l3.2.1 h.l3.2.2).trans h.c3,(k.cell h.l4.1 h.l4.2.1 h.l4.2.2).trans h.c4,fun j hj=>?_,fun j hj=>?_,fun j=>by rw [World.frozen?_setCell,World.frozen?_setCell]; exact h.fd j,fun j=>by rw [World.frozen?_setCell,World.frozen?_setCell]; exact h.fm j⟩
 ·rw [World.cell?_setCell_other (h:=bA h.ne.symm)]
  show _=some (Value.int .i64 ((x.1.set i u).get j));rw [BG];by_cases e:j=i
  ·subst e; rw [ax rfl]; exact World.cell?_setCell_same _ _ _ (h.cd j hj)
  ·rw [ae e,World.cell?_setCell_other (h:=Oo (Ne.symm e))]; exact h.cd j hj
 ·show _=some (Value.int .i64 ((x.2.set i v).get j))
  rw [BG];by_cases e:j=i
  ·subst e
   rw [ax rfl];exact World.cell?_setCell_same _ _ _ (by rw [World.cell?_setCell_other (h:=bA h.ne)]; exact h.cm j hj)
  ·rw [ae e,World.cell?_setCell_other (h:=Oo (Ne.symm e)),World.cell?_setCell_other (h:=bA h.ne)]; exact h.cm j hj
def alN (s:b.aD) (slot:Int) (z:Int×Int×(Sl Int×Sl Int)) (v:Int):Sl Int×Sl Int:=(z.2.2.1.set slot.toNat (bR (z.1+1)),z.2.2.2.set slot.toNat v)
theorem ahj {s:b.aD} {f:Nat} {i:Int} {x x' : Sl Int×Sl Int} (h:b.qD s f i x=some x'):0<=i/\i < (x.1.n:Int):=by
 cases f with
 | zero=>simp [b.qD] at h
 | succ f=>
  unfold b.qD at h;by_cases h1:0<=i
  ·by_cases h2:i < (x.1.n:Int)
   ·exact ⟨h1,h2⟩
   ·simp [h2] at h
  ·simp [h1] at h
set_option maxHeartbeats 4000000 in
theorem down (s:b.aD) (q:Q) (B b1 b2 b3 b4 d m N:Nat) (dB:∀ i,i < s.graph.kids.n->(s.graph.kids.get i).n<=1000000):∀ (f:Nat) (slot:Int) (x x' : Sl Int×Sl Int) (W:World),b.qD s f slot x=some x'->CE s q B b1 b2 b3 b4 d m N W x->
  Calls Tryz.prog 162 #[.int .i64 slot,.pointer (some ⟨b1,0,none⟩),.pointer (some ⟨b2,0,none⟩),.pointer (some ⟨b3,0,none⟩),.pointer (some ⟨b4,0,none⟩)] W fun e W'=>e = .returned (.tuple #[])/\CE s q B b1 b2 b3 b4 d m N W' x'/\v7 d m W W'
 | 0,_,_,_,_,h,_=>by simp [b.qD] at h
 | f+1,slot,x,x',W,h,L=>by
  have mixed:=s5;have t3:=Tryz.underlying3; have a3:=Tryz.isAgg3; have z3:=Tryz.sizeOf3; have v3:=Tryz.zeroValue3; have u3:=run_underlying Tryz.underlying3;have t48:=Tryz.underlying36; have a48:=Tryz.isAgg36; have z48:=Tryz.sizeOf36; have v48:=Tryz.zeroValue36; have u48:=run_underlying Tryz.underlying36;have t32:=Tryz.underlying32; have a32:=Tryz.isAgg32; have z32:=Tryz.sizeOf32; have v32:=Tryz.zeroValue32; have u32:=run_underlying Tryz.underlying32;have t34:=Tryz.underlying34; have a34:=Tryz.isAgg34; have z34:=Tryz.sizeOf34; have v34:=Tryz.zeroValue34; have u34:=run_underlying Tryz.underlying34;have t27:=Tryz.underlying27; have a27:=Tryz.isAgg27; have z27:=Tryz.sizeOf27; have v27:=Tryz.zeroValue27; have u27:=run_underlying Tryz.underlying27;have t25:=Tryz.underlying25; have a25:=Tryz.isAgg25; have z25:=Tryz.sizeOf25; have v25:=Tryz.zeroValue25; have u25:=run_underlying Tryz.underlying25;have t47:=Tryz.underlying35; have a47:=Tryz.isAgg35; have z47:=Tryz.sizeOf35; have v47:=Tryz.zeroValue35; have u47:=run_underlying Tryz.underlying35;have t28:=Tryz.underlying28; have a28:=Tryz.isAgg28; have z28:=Tryz.sizeOf28; have v28:=Tryz.zeroValue28; have u28:=run_underlying Tryz.underlying28;have t64:=Tryz.underlying77; have a64:=Tryz.isAgg77; have z64:=Tryz.sizeOf77; have v64:=Tryz.zeroValue77; have u64:=run_underlying Tryz.underlying77;have t5:=Tryz.underlying5; have a5:=Tryz.isAgg5; have z5:=Tryz.sizeOf5; have v5:=Tryz.zeroValue5; have u5:=run_underlying Tryz.underlying5;have t143:=Tryz.underlying229; have a143:=Tryz.isAgg229; have z143:=Tryz.sizeOf229; have v143:=Tryz.zeroValue229; have anN:=run_underlying Tryz.underlying229;unfold b.qD at h;by_cases hb:0<=slot/\slot < (x.1.n:Int)/\slot < (s.graph.kids.n:Int)/\slot < (s.nodes.n:Int)
  case neg=>
   exfalso;have:(decide (0<=slot)&&decide (slot < (x.1.n:Int))&&decide (slot < (s.graph.kids.n:Int))&&decide (slot < (s.nodes.n:Int)))=false:=by
    rw [<- Bool.not_eq_true];simp only [aj,jR];rintro ⟨⟨⟨q1,q2⟩,q3⟩,q4⟩;exact hb ⟨q1,q2,q3,q4⟩
   rw [this] at h;simp at h
  obtain ⟨hp,hN,hK,hV⟩:=hb;rw [au hp,au hN,au hK,au hV] at h;simp only [cY,ah] at h;rw [L.n1] at hN;have c1:=L.c1;have cd:=L.cd slot.toNat (by omega);by_cases hz:x.1.get slot.toNat > 0
  ·rw [au hz,ah] at h
   have:=wa h;subst this
   go_enter Tryz.func162,Tryz.ntmps162
   go_wp2
   refine bodyPost_ret (results_none rfl _ _ _) rfl ?_;exact ⟨rfl,L,.refl _ _ _⟩
  ·rw [bu hz,ay] at h
   cases hk:b.Al (b.qD s f) (s.graph.kids.get slot.toNat) (s.graph.kids.get slot.toNat).n (0,0,x) with
   | none=>rw [hk] at h; simp at h
   | some y=>
   rw [hk] at h
   replace h:=wa h
   have Lf:∀ k,k<=(s.graph.kids.get slot.toNat).n->∃ z,b.Al (b.qD s f) (s.graph.kids.get slot.toNat) k (0,0,x)=some z:=by
    intro k pb;obtain ⟨r,hr⟩:∃ r,(s.graph.kids.get slot.toNat).n=k+r:=⟨(s.graph.kids.get slot.toNat).n - k,by omega⟩
    rw [hr] at hk;clear hr pb;clear h
    induction r generalizing y with
    | zero=>exact ⟨y,hk⟩
    | succ r ih=>
     rw [show k+(r+1)=(k+r)+1 by omega] at hk;unfold b.Al at hk;obtain ⟨z,h1,_⟩:=aO.1 hk;exact ih z h1
   have c2:=L.c2;have e2:=L.e2;obtain ⟨bk,ok,hka,hbk,hkd⟩:=L.at_.kids slot.toNat (by omega);obtain ⟨bn,on,zQ,DN,hkn⟩:=L.at_.kind slot.toNat (by omega);rw [hka] at c2;rw [zQ] at e2;have hcnt:=dB slot.toNat (by omega);generalize hcn:(s.graph.kids.get slot.toNat).n=cn at *
   go_enter Tryz.func162,Tryz.ntmps162
   go_wp2
   go_loopg [6,7,22] cn (fun gg s6 s7 s22 wr=>∃ kk:Nat,kk<=cn/\cn - kk<=gg/\s22 = .int .i64 kk/\∃ z,b.Al (b.qD s f) (s.graph.kids.get slot.toNat) kk (0,0,x)=some z/\s6 = .int .i64 z.1/\s7 = .int .i64 z.2.1/\Aside (CE s q B b1 b2 b3 b4 d m N wr z.2.2/\v7 d m W wr))
   case atStart=>exact ⟨0,mf _,by omega,rfl,_,rfl,rfl,rfl,L,.refl _ _ _⟩
   case round=>
    obtain ⟨kk,YT,hgg,rfl,z,F7,rfl,rfl,BW⟩:=hrel;obtain ⟨LZ,KZ⟩:=BW.out;clear BW;by_cases aI:kk < cn
    ·have acm:(kk:Int) < (cn:Int):=by omega
     obtain ⟨z2,vY⟩:=Lf (kk+1) (by omega);unfold b.Al at vY;rw [F7] at vY;have vY:((b.qD s f ((s.graph.kids.get slot.toNat).get kk).slot z.2.2).bind fun z'=>some (max z.1 (z'.1.get ((s.graph.kids.get slot.toNat).get kk).slot.toNat),min (bR (z.2.1+z'.2.get ((s.graph.kids.get slot.toNat).get kk).slot.toNat)) 257,z'))=some z2:=vY;obtain ⟨zz,hzz,hz3⟩:=aO.1 vY;obtain ⟨bc,oc,hia,SK,oJ,oj⟩:=LZ.at_.row slot.toNat (by omega) kk (by omega);have KA:=v7.alloc (d:=d) (m:=m) wr (.cells #[.int .i64 ((s.graph.kids.get slot.toNat).get kk).slot,.int .i64 ((s.graph.kids.get slot.toNat).get kk).gen] 32);have LA:=LZ.grow KA (Below.heap_alloc wr _ d LZ.ld.2) (Below.heap_alloc wr _ m LZ.lm.2);have c3A:=LA.c3;have h0A:(wr.alloc (.cells #[.int .i64 ((s.graph.kids.get slot.toNat).get kk).slot,.int .i64 ((s.graph.kids.get slot.toNat).get kk).gen] 32)).cell? ⟨wr.heap.size,0,none⟩=some (.int .i64 ((s.graph.kids.get slot.toNat).get kk).slot):=by simp
     have dR:=down s q B b1 b2 b3 b4 d m N dB f ((s.graph.kids.get slot.toNat).get kk).slot z.2.2 zz _ hzz LA;have hd9:wr.heap.size≠d/\wr.heap.size≠m:=by have:=LZ.ld.2; have:=LZ.lm.2; omega
     have anO:wr.heap.size < (wr.alloc (.cells #[.int .i64 ((s.graph.kids.get slot.toNat).get kk).slot,.int .i64 ((s.graph.kids.get slot.toNat).get kk).gen] 32)).heap.size:=by simp
     generalize VP:((s.graph.kids.get slot.toNat).get kk).slot=ks at *;generalize hWA:wr.alloc (.cells #[.int .i64 ks,.int .i64 ((s.graph.kids.get slot.toNat).get kk).gen] 32)=WA at *
     go_wp2_with (go_at_call 162; go_loud (refine dR.mono ?_; rintro e w2 ⟨rfl,L2,K2⟩; have g1:=L2.c1; have g4:=L2.c4; have g9:=(K2.cell anO hd9.1 hd9.2).trans h0A))
     have mr:=ahj hzz;rw [LZ.n1] at mr;have g2:=L2.cd ks.toNat (by omega);have g3:=L2.cm ks.toNat (by omega);have hin1:=mr.1;have ajJ:=mr.2
     go_region_held3 (fun w'=>w'.cell? ⟨b1,0,none⟩=some (.slice (some ⟨d,0,none⟩) N N)/\w'.cell? ⟨b4,0,none⟩=some (.slice (some ⟨m,0,none⟩) N N)/\w'.cell? ⟨wr.heap.size,0,none⟩=some (.int .i64 ks)/\w'.cell? ⟨d,ks.toNat,none⟩=some (.int .i64 (zz.1.get ks.toNat))/\w'.cell? ⟨m,ks.toNat,none⟩=some (.int .i64 (zz.2.get ks.toNat))) (go_keep) (fail)
     all_goals
      replace hz3:=wa hz3
      have hkM:b.Al (b.qD s f) (s.graph.kids.get slot.toNat) (kk+1) (0,0,x)=some z2:=by
       unfold b.Al;rw [F7];show ((b.qD s f ((s.graph.kids.get slot.toNat).get kk).slot z.2.2).bind _)=_;rw [VP,hzz];exact congrArg some hz3
      have C8:Aside (CE s q B b1 b2 b3 b4 d m N w2.drew z2.2.2/\v7 d m W w2.drew):=by
       rw [<- hz3];exact ⟨L2.grow (.drew _ _ _) rfl rfl,KZ.trans (KA.trans (K2.trans (.drew _ _ _)))⟩
      have h61:max z.1 (zz.1.get ks.toNat)=z2.1:=by rw [<- hz3]
      have h71:min (IntKind.i64.wrap (z.2.1+zz.2.get ks.toNat)) 257=z2.2.1:=by rw [<- hz3]
      clear LZ LA KZ KA K2 L2 dR Lf vY hz3 oJ oj
      go_wp2
      simp only [<- hia]
      go_roundg (cn - (kk+1))
     all_goals first | omega | exact ⟨kk+1,by omega,by omega,by go_num,z2,hkM,by rw [h61],by rw [h71],C8⟩
    ·have acm : ¬ (kk:Int) < (cn:Int):=by omega
     have:kk=cn:=by omega
     subst this;rw [F7] at hk;have:=wa hk;subst this;have g1:=LZ.c1;have g4:=LZ.c4;have g2:=LZ.e2;rw [zQ] at g2;obtain ⟨bn2,on2,alO,hbn2,hkn2⟩:=LZ.at_.kind slot.toNat (by omega);rw [zQ] at alO;obtain ⟨rfl,rfl⟩:bn=bn2/\on=on2:=by simpa using alO
     have e1:z.2.2.1.n=N:=LZ.n1;have f1:=LZ.cd slot.toNat (by omega);have f4:=LZ.fd slot.toNat;have f5:=LZ.fm slot.toNat;have f6:=LZ.cm slot.toNat (by omega);have hdm:=LZ.ne;have hb1d:=LZ.l1.2.1;have hb1m:=LZ.l1.2.2;have hb4d:=LZ.l4.2.1;have hb4m:=LZ.l4.2.2;have hb1d':=LZ.l1.2.1.symm;have hb4d':=LZ.l4.2.1.symm;have hb1m':=LZ.l1.2.2.symm;have hb4m':=LZ.l4.2.2.symm;have hmd:=LZ.ne.symm;have fin:∀ v,((alN s slot z v)=x'->Ending.returned (.tuple #[]) = .returned (.tuple #[])/\CE s q B b1 b2 b3 b4 d m N ((wr.setCell ⟨d,slot.toNat,none⟩ (.int .i64 (bR (z.1+1)))).setCell ⟨m,slot.toNat,none⟩ (.int .i64 v)).drew x'/\v7 d m W ((wr.setCell ⟨d,slot.toNat,none⟩ (.int .i64 (bR (z.1+1)))).setCell ⟨m,slot.toNat,none⟩ (.int .i64 v)).drew):=fun v hv=>by
      subst hv;exact ⟨rfl,(LZ.put (by omega) _ v).grow (.drew _ _ _) rfl rfl,KZ.trans ((v7.set d m wr _ _ _ _).trans (.drew _ _ _))⟩
     have hx:alN s slot z (cond ((s.nodes.get slot.toNat).kind==5) 1 z.2.1)=x':=h;clear h LZ KZ L Lf hkd;by_cases hk5:(s.nodes.get slot.toNat).kind=5
     ·have ajK:((s.nodes.get slot.toNat).kind==5)=true:=by simp [hk5]
      rw [ajK] at hx;have C8:=fin 1 hx
      go_wp2
      go_region_held3 (fun w'=>w'.cell? ⟨b1,0,none⟩=some (.slice (some ⟨d,0,none⟩) N N)/\w'.cell? ⟨b4,0,none⟩=some (.slice (some ⟨m,0,none⟩) N N)/\(w'.cell? ⟨d,slot.toNat,none⟩).isSome=true/\(w'.cell? ⟨m,slot.toNat,none⟩).isSome=true/\w'.frozen? ⟨d,slot.toNat,none⟩=false/\w'.frozen? ⟨m,slot.toNat,none⟩=false) (simp [*,World.cell?_setCell_far,World.cell?_setCell_same']) (fail)
      all_goals (go_wp2; go_end0; exact ⟨rfl,C8.2⟩)
     ·have ajK:((s.nodes.get slot.toNat).kind==5)=false:=by simp [hk5]
      rw [ajK] at hx;have C8:=fin z.2.1 hx
      go_wp2
      go_region_held3 (fun w'=>w'.cell? ⟨b1,0,none⟩=some (.slice (some ⟨d,0,none⟩) N N)/\w'.cell? ⟨b4,0,none⟩=some (.slice (some ⟨m,0,none⟩) N N)/\(w'.cell? ⟨d,slot.toNat,none⟩).isSome=true/\(w'.cell? ⟨m,slot.toNat,none⟩).isSome=true/\w'.frozen? ⟨d,slot.toNat,none⟩=false/\w'.frozen? ⟨m,slot.toNat,none⟩=false) (simp [*,World.cell?_setCell_far,World.cell?_setCell_same']) (fail)
      all_goals (go_wp2; go_end0; exact ⟨rfl,C8.2⟩)
end Go.Proofs.YtckbdndhmcoihaaGreat.DY
end
section
namespace Go.K
open Go Go.aA
variable {P:Program} {E:Env}
theorem cE.trans {E1 E2 E3:Env} {A1 A2 A3:ai} {B1 B2 B3:St} (ajL:B1.next<=B2.next) (h:cE P E1 A1 B1 E2 A2 B2) (k:cE P E2 A2 B2 E3 A3 B3):cE P E1 A1 B1 E3 A3 B3 where
 dI:=k.dI
 le:=Env.le_trans h.le k.le
 next:=dx h.next k.next
 di x hx hn ha:=by
  refine (k.di x (dG hx ajL) (fun b e=>?_) fun q=>?_).trans (h.di x hx hn ha)
  ·rcases h.new b x e with e | e
   ·exact hn b e
   ·omega
  ·rcases h.lU x q with e | e
   ·exact ha e
   ·omega
 new b x e:=by
  rcases k.new b x e with e | e
  ·exact h.new b x e
  ·have:=h.next; exact .inr (by omega)
 qN b r e:=by
  rcases k.qN b r e with e | e | e
  ·exact h.qN b r e
  ·exact .inr (h.jT b e)
  ·exact .inr (.inr (by omega))
 pj b g e:=by
  rcases k.pj b g e with e | e
  ·exact h.pj b g e
  ·exact .inr (by omega)
 nw g hg hn ha:=by
  refine (k.nw g (dG hg ajL) (fun b e=>?_) fun q=>?_).trans (h.nw g hg hn ha)
  ·rcases h.pj b g e with e | e
   ·exact hn b e
   ·omega
  ·rcases h.j9 g q with e | e
   ·exact ha e
   ·omega
 jT x e:=by
  rcases k.jT x e with e | e
  ·exact h.jT x e
  ·exact .inr (by omega)
 j9 g e:=by
  rcases k.j9 g e with e | e
  ·exact h.j9 g e
  ·exact .inr (by omega)
 rI g y e:=by
  rcases k.rI g y e with e | e
  ·exact h.rI g y e
  ·exact .inr (by omega)
 lU y e:=by
  rcases k.lU y e with e | e
  ·exact h.lU y e
  ·exact .inr (by omega)
 rows y hy cs e own aZ q:=by
  obtain ⟨c1,h1,h2⟩:=k.rows y (dG hy ajL) cs e own aZ q;obtain ⟨c0,h3,h4⟩:=h.rows y hy c1 e own aZ h1;exact ⟨c0,h3,h4.trans h2⟩
def V6 (ρ:Ren) (B:St) (k:Nat):Prop:=∀ b l,B.get b≠none->B.get b≠some .dead->ρ b=some l->l.cb≠k
structure Made (ρ:Ren) (base:Nat) (w w1:World) (k aQ:Nat) (cs:List Value):Prop where
 base:base<=k
 new:w.heap.size<=k
 gF:k < w1.heap.size
 cells:∀ (i:Nat) (v:Value),cs[i]? = some v->∃ v',w1.cell? ⟨k,i,.none⟩=some v'/\VR ρ v v'/\scalar v=true
 free:∀ j,w1.frozen? ⟨k,j,.none⟩=false
theorem Made.mono {ρ ak:Ren} {base:Nat} {w w1:World} {k aQ:Nat} {cs:List Value} (h:Made ρ base w w1 k aQ cs) (m:ρ.le ak):Made ak base w w1 k aQ cs:=
 ⟨h.base,h.new,h.gF,fun i v hi=>by obtain ⟨v',h1,h2,h3⟩:=h.cells i v hi; exact ⟨v',h1,h2.mono m,h3⟩,h.free⟩
theorem cq.late {base:Nat} {ρ fH:Ren} {B B1:St} {w w1:World} (g:cq base ρ B w fH B1 w1) {k aQ:Nat} {cs:List Value} (hm:Made fH base w w1 k aQ cs) (hf:V6 fH B1 k) :
  cq base ρ B w (fH.set B1.next ⟨k,0,cs.length,aQ⟩) (B1.new (.row cs aQ true none)) w1:=by
 have hs:=g.dI;have hle:=hs.uy ⟨k,0,cs.length,aQ⟩;have hk:∀ b o l',B1.get b=some o->o≠.dead->fH b=some l'->l'.cb≠k:=fun b o l' h1 h2 h3=>hf b l' (by rw [h1]; simp) (by rw [h1]; simpa using h2) h3;refine ⟨⟨.qe ?_ ?_ ?_,?_,hs.size,hs.lK.mono hle⟩,?_,g.kept,by have:=g.next; simp; omega,by simpa using g.low,?_,?_⟩
 ·intro b o' hg hd
  rw [St.cV] at hg;split at hg
  ·rename_i e; subst e; simp at hg; subst hg
   refine ⟨_,Ren.dj _ _ _,⟨fun i v hi=>?_,fun h=>by simp at h,fun _=>hm.base,fun _ j hj=>?_,by simp,fun _ _=>by simp,rfl,hm.gF,fun _ _ j=>hm.free j⟩⟩
   ·obtain ⟨v',h1,h2,h3⟩:=hm.cells i v hi
    exact ⟨v',by rw [bF]; exact h1,h2.mono hle,h3⟩
   ·have hj:j < cs.length:=hj
    obtain ⟨v',h1,_⟩:=hm.cells j _ (cl hj);exact ⟨by rw [h1]; rfl,hm.free j⟩
  ·obtain ⟨l',h1,h2⟩:=hs.rel.obj hg hd
   exact ⟨l',hle _ _ h1,h2.di hle rfl (ao _)⟩
 ·intro b1 b2 o1 o2 l1 l2 bA g1 g2 m1 m2 r1 r2 vW
  have hd1:o1≠.dead:=by intro e; subst e; simp [aY.ct] at m1
  have hd2:o2≠.dead:=by intro e; subst e; simp [aY.ct] at m2
  rw [St.cV] at g1 g2;by_cases e1:b1=B1.next
  ·have e2:b2≠B1.next:=fun e=>bA (e1.trans e.symm)
   rw [ae e2] at g2;rw [e1,Ren.dj] at r1;rw [Ren.cX _ _ e2] at r2;simp at r1; subst r1;exact absurd vW.symm (hk b2 o2 l2 g2 hd2 r2)
  ·rw [ae e1] at g1
   rw [Ren.cX _ _ e1] at r1;by_cases e2:b2=B1.next
   ·rw [e2,Ren.dj] at r2
    simp at r2; subst r2;exact absurd vW (hk b1 o1 l1 g1 hd1 r1)
   ·rw [ae e2] at g2
    rw [Ren.cX _ _ e2] at r2;exact hs.rel.apart b1 b2 o1 o2 l1 l2 bA g1 g2 m1 m2 r1 r2 vW
 ·intro b o' aF f hg pb
  rw [St.cV] at hg;split at hg
  ·simp at hg; subst hg; simp [aY.hO] at pb
  ·exact hs.rel.aX b o' aF f hg pb
 ·intro b l' h
  rw [St.cw];by_cases e:b=B1.next
  ·omega
  ·rw [Ren.cX _ _ e] at h; have:=hs.fZ b l' h; omega
 ·intro b hb
  rw [Ren.cX _ _ (by have:=g.next; omega)];exact g.ext b hb
 ·intro b hb qg
  rw [St.cV,ae (by have:=g.next; omega)];exact g.same b hb (by simpa using qg)
 ·rintro k' pb ⟨b,o',l',hg,AI,hr,rfl⟩
  by_cases e:b=B1.next
  ·subst e
   rw [Ren.dj] at hr;simp at hr; subst hr;have:=hm.new;simp only at pb;omega
  ·rw [St.cV,ae e] at hg
   rw [Ren.cX _ _ e] at hr;exact g.SF _ pb ⟨b,o',l',hg,AI,hr,rfl⟩
theorem V7 {base:Nat} {ρ:Ren} {B:St} {w:World} (h:iv ρ B base w) {k:Nat} (hk:w.heap.size<=k):V6 ρ B k:=fun b l h1 h2 h3=>by
 cases hg:B.get b with
 | none=>exact absurd hg h1
 | some o=>
  have hd:o≠.dead:=fun e=>h2 (by rw [hg,e]);obtain ⟨l',e,ok⟩:=h.rel.obj hg hd;rw [h3] at e; simp at e; subst e;have:=ok.lt hd;omega
theorem V6.late {ρ:Ren} {B:St} {k k' aQ:Nat} {cs:List Value} (h:V6 ρ B k) (bA:k'≠k):V6 (ρ.set B.next ⟨k',0,cs.length,aQ⟩) (B.new (.row cs aQ true none)) k:=fun b l h1 h2 h3=>by
 by_cases e:b=B.next
 ·subst e
  rw [Ren.dj] at h3;simp at h3; subst h3;exact bA
 ·rw [St.cV,ae e] at h1 h2
  rw [Ren.cX _ _ e] at h3;exact h b l h1 h2 h3
theorem Su {ρ:Ren} {b k:Nat} {s:Sl Int} {T:TypeId} (hT:aJ P T=1) (UU:dn (aH P T) ((List.range s.n).map fun i=>kI .i64 (s.get i))=true) (hz:E.z b=some ⟨(List.range s.n).map fun i=>.int .i64 (s.get i),1,true,none⟩) (iZ:ρ b=some ⟨k,0,s.n,1⟩) :
  VC P E ρ (dD T (kI .i64) s) (.slice (some ⟨k,0,.none⟩) s.n s.n):=by
 have hvk:∀ (l:List Nat),aK P E (l.map fun i=>kI .i64 (s.get i)) (l.map fun i=>.int .i64 (s.get i)):=by
  intro l
  induction l with
  | nil=>exact .nil
  | cons x l ih=>exact .cons .mkInt ih
 refine ⟨.slice (some ⟨b,0,.none⟩) s.n s.n,?_,?_⟩
 ·unfold dD
  simp only [VK];refine ⟨⟨by simp,fun i hi=>?_,UU⟩,_,hvk _,some ⟨b,0,.none⟩,s.n,rfl,ao _,.inr ⟨b,0,⟨_,1,true,.none⟩,rfl,hz,hT.symm,?_⟩,trivial⟩
  ·rw [eO,mg,List.getElem?_range hi]
   rfl
  ·rw [hT]
   intro i y hy;refine ⟨?_,fun j z hz=>?_⟩
   ·rw [mg] at hy
    obtain ⟨x,_,rfl⟩:=aU.1 hy;rfl
   ·rw [mg] at hy
    obtain ⟨x,hx,rfl⟩:=aU.1 hy;have hj:j < 1:=(jh.1 hz).1;have:j=0:=by omega
    subst this;rw [show 0+i * 1+0=i by omega,mg,hx];exact hz
 ·simp only [VR]
  exact ⟨trivial,ao _,⟨k,0,s.n,1⟩,⟨k,0,.none⟩,s.n,iZ,ao _,fun _=>rfl,by simp,rfl⟩
structure DC (w w1:World) (k:Nat) (s:Sl Int):Prop where
 new:w.heap.size<=k
 gF:k < w1.heap.size
 cells:∀ i,i < s.n->w1.cell? ⟨k,i,.none⟩=some (.int .i64 (s.get i))
 free:∀ j,w1.frozen? ⟨k,j,.none⟩=false
theorem DC.made {ρ:Ren} {base:Nat} {w w1:World} {k:Nat} {s:Sl Int} (h:DC w w1 k s) (hb:base<=w.heap.size):Made ρ base w w1 k 1 ((List.range s.n).map fun i=>.int .i64 (s.get i)):=
 ⟨dx hb h.new,h.new,h.gF,fun i v hi=>by
  rw [mg] at hi;obtain ⟨x,hx,rfl⟩:=aU.1 hi;obtain ⟨hl,rfl⟩:=cp.1 hx;rw [List.length_range] at hl;rw [List.getElem_range];exact ⟨_,h.cells i hl,by simp [VR],rfl⟩,h.free⟩
theorem ahk {g:FuncId} {F:List KV->KR KV} {T:TypeId} (hc:pq P g) (hT:aJ P T=1) (UU:∀ s:Sl Int,dn (aH P T) ((List.range s.n).map fun i=>kI .i64 (s.get i))=true)
  (h:∀ args v (E:Env) (A:ai) (B:St) (ρ:Ren) (base:Nat) (w:World) (bM:List Value),az (F (normArgs P (bK P g) args)) v->args.length=(bK P g).length->ny P E ρ args bM->KJ P E A B ρ base w->
   Calls P g bM.toArray w fun e w'=>∃ (s1 s2:Sl Int) (k1 k2:Nat),v = .nh [dD T (kI .i64) s1,dD T (kI .i64) s2]/\e = .returned (.tuple #[.slice (some ⟨k1,0,.none⟩) s1.n s1.n,.slice (some ⟨k2,0,.none⟩) s2.n s2.n])/\k1≠k2/\DC w w' k1 s1/\DC w w' k2 s2/\RowKit.Below w.heap.size w w'):cB P g F:=
 fun args v hF hlen=>⟨hc,fun E A B ρ base w bM hv hj=>(h args v E A B ρ base w bM hF hlen hv hj).mono fun e w' ⟨s1,s2,k1,k2,h1,h2,bA,i1,i2,hb⟩=>by
  subst h1;have g0:=cq.below hj.s hb;have g1:=cq.late g0 (i1.made hj.s.size) (V7 hj.s i1.new);have anP:=hj.s.uy ⟨k1,0,((List.range s1.n).map fun i=>Value.int .i64 (s1.get i)).length,1⟩;have g2:=cq.late g1 ((i2.made hj.s.size).mono anP) ((V7 hj.s i2.new).late bA);have z1:=cE.UI (b5:=(List.range s1.n).map fun i=>Value.int .i64 (s1.get i)) (aQ:=1) hj.k;have z2:=cE.UI (b5:=(List.range s2.n).map fun i=>Value.int .i64 (s2.get i)) (aQ:=1) z1.dI;have z:=z1.trans (by simp) z2;have alq:=g1.dI.uy ⟨k2,0,((List.range s2.n).map fun i=>Value.int .i64 (s2.get i)).length,1⟩;refine ⟨_,_,_,_,h2,?_,z.ev g2⟩;have q1:=Su (P:=P) (b:=B.next) (k:=k1) (s:=s1) hT (UU s1) (E:=E.dV B.next ⟨(List.range s1.n).map fun i=>Value.int .i64 (s1.get i),1,true,.none⟩) (by simp [Env.dV]) (ρ:=ρ.set B.next ⟨k1,0,((List.range s1.n).map fun i=>Value.int .i64 (s1.get i)).length,1⟩) (by simp [Ren.set]);have q2:=Su (P:=P) (b:=(B.new (.row ((List.range s1.n).map fun i=>Value.int .i64 (s1.get i)) 1 true none)).next) (k:=k2) (s:=s2) hT (UU s2) (E:=(E.dV B.next ⟨(List.range s1.n).map fun i=>Value.int .i64 (s1.get i),1,true,.none⟩).dV (B.new (.row ((List.range s1.n).map fun i=>Value.int .i64 (s1.get i)) 1 true none)).next ⟨(List.range s2.n).map fun i=>Value.int .i64 (s2.get i),1,true,.none⟩) (by simp [Env.dV]) (ρ:=(ρ.set B.next ⟨k1,0,((List.range s1.n).map fun i=>Value.int .i64 (s1.get i)).length,1⟩).set (B.new (.row ((List.range s1.n).map fun i=>Value.int .i64 (s1.get i)) 1 true none)).next ⟨k2,0,((List.range s2.n).map fun i=>Value.int .i64 (s2.get i)).length,1⟩) (by simp [Ren.set]);obtain ⟨m,a1,a2⟩:ny P _ _ [dD T (kI .i64) s1,dD T (kI .i64) s2] [.slice (some ⟨k1,0,.none⟩) s1.n s1.n,.slice (some ⟨k2,0,.none⟩) s2.n s2.n]:=ny.zv (q1.mono z2.le alq) (ny.zv q2 ⟨[],.nil,.nil⟩);exact ⟨.tuple ⟨m⟩,.QE a1,VR.mkTuple (l':=[.slice (some ⟨k1,0,.none⟩) s1.n s1.n,.slice (some ⟨k2,0,.none⟩) s2.n s2.n]) a2⟩⟩
end Go.K
end
