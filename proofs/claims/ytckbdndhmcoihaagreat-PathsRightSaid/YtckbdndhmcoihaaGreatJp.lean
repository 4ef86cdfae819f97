/- Part of the proof of PathsRight: the machine, shown to be the model's, and plain models. No conditions. -/
import Derived.Test.YtckbdndhmcoihaaGreatIp
import Derived.Test.YtckbdndhmcoihaaGreatHp
import Derived.Test.YtckbdndhmcoihaaGreatDp
import Derived.Test.YtckbdndhmcoihaaGreatProg
import Derived.WalkKit
import Derived.Lib.Walk
import Derived.Lib.SliceRun
import Derived.Lib.AppendZerosOnto
import Derived.Lib.Overlaps
import Derived.Laws.IdiomCopy
import Derived.Laws.Externs
import Derived.Shelf.RegionOpenPlain
set_option linter.unusedSimpArgs false
set_option linter.unusedVariables false
section
set_option maxRecDepth 20000
namespace Go.Proofs.YtckbdndhmcoihaaGreat.DR
open Go Go.RowKit Go.Lib Go.Shelf Go.K
open nodes (s0)
theorem aob:aI Tryz.prog 35=1:=by kernel_rfl
theorem ajJ:aI Tryz.prog 32=2:=by kernel_rfl
theorem aoc:aI Tryz.prog 77=33:=by kernel_rfl
theorem ahE {E:Env} {A:ai} {B:az.St} {ρ:az.Ren} {base:Nat} {w:World} {s:b.aE} {u:Value} (hj:KJ Tryz.prog E A B ρ base w) (h:VC Tryz.prog E ρ (b.wU s) u) :
  ∃ (q:Q) (x0 x3 x4:Value),u = .agg #[x0,.slice q.ka s.graph.kids.n q.kc,.slice q.na s.nodes.n q.nc,x3,x4,.int .i64 s.root.slot,.int .i64 s.root.gen]/\QAt s q w.heap.size w:=by
 obtain ⟨l,rfl,hl⟩:=h.agn;obtain ⟨x0,l1,rfl,h0,AG⟩:=hl.qP;obtain ⟨x1,l2,rfl,h1,iK⟩:=AG.qP;obtain ⟨x2,l3,rfl,h2,Xe⟩:=iK.qP;obtain ⟨x3,l4,rfl,h3,hl4⟩:=Xe.qP;obtain ⟨x4,l5,rfl,h4,hl5⟩:=hl4.qP;obtain ⟨x5,l6,rfl,h5,hl6⟩:=hl5.qP;obtain ⟨x6,l7,rfl,h6,hl7⟩:=hl6.qP;obtain rfl:=hl7.PK;obtain ⟨ka,kc,rfl,H2⟩:=Bk hj h1;obtain ⟨na,nc,rfl,HN⟩:=Bk hj h2;obtain rfl:=h5.bQ;obtain rfl:=h6.bQ;have H3:∀ i,∃ p:Option Addr×Nat,i < s.graph.kids.n->(∃ b off,ka=some ⟨b,off,none⟩/\b < w.heap.size/\w.cell? ⟨b,off+i,none⟩=some (.slice p.1 (s.graph.kids.get i).n p.2))/\
   ∀ k,k < (s.graph.kids.get i).n->∃ b off,p.1=some ⟨b,off,none⟩/\b < w.heap.size/\w.cell? ⟨b,off+k * 2,none⟩=some (.int .i64 ((s.graph.kids.get i).get k).slot)/\w.cell? ⟨b,off+k * 2+1,none⟩=some (.int .i64 ((s.graph.kids.get i).get k).gen):=by
  intro i;by_cases hi:i < s.graph.kids.n
  ·obtain ⟨bb,off,e1,e2,e3⟩:=H2 i hi
   obtain ⟨z,z1,z2⟩:=e3 0 (dS 32 b.jJ (s.graph.kids.get i)) rfl;obtain ⟨a,c,rfl,H⟩:=Bk hj z2;rw [aob] at z1;refine ⟨(a,c),fun _=>⟨⟨bb,off,e1,e2,by rw [show off+i=off+i * 1+0 by omega]; exact z1⟩,fun k hk=>?_⟩⟩;obtain ⟨bc,ajK,r1,r2,r3⟩:=H k hk;obtain ⟨z,s1,s2⟩:=r3 0 (.int .i64 ((s.graph.kids.get i).get k).slot) rfl;obtain ⟨z',t1,t2⟩:=r3 1 (.int .i64 ((s.graph.kids.get i).get k).gen) rfl;rw [ajJ] at s1 t1;rw [s2.bQ] at s1;rw [t2.bQ] at t1;exact ⟨bc,ajK,r1,r2,s1,t1⟩
  ·exact ⟨(none,0),fun h=>absurd h hi⟩
 obtain ⟨f,hf⟩:=Classical.axiomOfChoice H3;refine ⟨⟨ka,kc,fun i=>(f i).1,fun i=>(f i).2,na,nc⟩,x0,x3,x4,rfl,⟨fun i hi=>(hf i hi).1,fun i hi k hk=>(hf i hi).2 k hk,fun i hi=>?_⟩⟩;obtain ⟨bb,off,e1,e2,e3⟩:=HN i hi;obtain ⟨z,s1,s2⟩:=e3 0 (.int .u8 (s.nodes.get i).kind) rfl;rw [aoc] at s1;rw [s2.bQ] at s1;exact ⟨bb,off,e1,e2,s1⟩
theorem run_mk (n:Nat) (hn:n<=1000000):∃ Z:Obj,(∀ W,(Instr.makeSlice 36 (.int .i64 (n:Int)) (.int .i64 (n:Int))).run Tryz.prog W = .ok (.slice (some ⟨W.heap.size,0,none⟩) n n) (W.alloc Z))/\(∀ (W:World) (b i:Nat),W.heap[b]? = some Z->i < n->W.cell? ⟨b,i,none⟩=some (.int .i64 0))/\∀ (W:World) (b i:Nat),W.heap[b]? = some Z->W.frozen? ⟨b,i,none⟩=false:=by
 refine ⟨.cells (madeCells #[.int .i64 0] n) 3,fun W=>?_,fun W b i hb hi=>?_,fun W b i hb=>?_⟩
 ·have:=Go.run_make (P:=Tryz.prog) W 36 3 _ (.int .i64 0) Tryz.underlying36 (show Tryz.prog.info? 3=some _ from rfl) rfl .i64 .i64 n n (by omega) (Int.le_refl _) (by show ((8:Nat):Int) * n<=_; omega) (by omega)
  rw [rh] at this;exact (this.trans (by rw [show ∀ k,n * k=n * k from fun _=>rfl]; exact congrArg (fun c=>Result.ok _ (W.alloc (.cells (madeCells #[.int .i64 0] c) 3))) (Nat.mul_one n)))
 ·rw [nodes.j8 hb]
  simp [madeCells,hi,Nat.mod_one]
 ·unfold World.frozen?
  simp [hb]
def Good (W:World) (a:Addr):Prop:=(W.cell? a).isSome=true/\W.frozen? a=false
theorem P1 {W:World} {a:Addr} (h:Good W a):∃ v,W.cell? a=some v:=NT.1 h.1
theorem ak6 {W:World} {a:Addr} (h:Good W a):W.frozen? a=false:=h.2
theorem NI {W:World} {a:Addr} (h:Good W a):Good W.drew a:=h
theorem sE {W:World} {o:Obj} {a:Addr} (h:Good W a):Good (W.alloc o) a:=by
 obtain ⟨v,hv⟩:=P1 h;have aJ:a.block < W.heap.size:=by
  apply Classical.byContradiction;intro hn;unfold World.cell? at hv;rw [Array.getElem?_eq_none (by omega)] at hv;simp at hv
 refine ⟨by rw [World.cell?_alloc_some (h:=h.1)]; exact h.1,?_⟩;have:=h.2;unfold World.frozen? at this ⊢;rw [Below.heap_alloc _ _ _ aJ];exact this
theorem Bm {W:World} {p a:Addr} {x:Value} (h:Good W a):Good (W.setCell p x) a:=by
 obtain ⟨v,hv⟩:=P1 h;obtain ⟨v',h'⟩:=RowKit.cell?_setCell_some (p:=p) (x:=x) hv;exact ⟨by rw [h']; rfl,by rw [World.frozen?_setCell]; exact h.2⟩
theorem qD {W:World} {a:Addr} {v:Value} (h:W.cell? a=some v):W.drew.cell? a=some v:=h
theorem sF {W:World} {o:Obj} {a:Addr} {v:Value} (h:W.cell? a=some v):(W.alloc o).cell? a=some v:=by rw [World.cell?_alloc_some (h:=by rw [h]; rfl)]; exact h
theorem n5 {W:World} {p a:Addr} {x v:Value} (hp:p.block≠a.block) (h:W.cell? a=some v):(W.setCell p x).cell? a=some v:=by rw [World.cell?_setCell_far _ _ _ _ hp]; exact h
theorem three (W:World) (A0 A1 A2:Obj):∃ V,((W.alloc A0).alloc A1).alloc A2=V/\V.heap[W.heap.size]? = some A0/\V.heap[W.heap.size+1]? = some A1/\V.heap[W.heap.size+1+1]? = some A2/\V.heap.size=W.heap.size+3/\RowKit.Below W.heap.size W V:=by
 have s1:(W.alloc A0).heap.size=W.heap.size+1:=by simp
 have s2:((W.alloc A0).alloc A1).heap.size=W.heap.size+2:=by simp
 refine ⟨_,rfl,?_,?_,nodes.rN _ _ _ (by omega),by simp,(((Below.refl _ _).alloc (ao _) _).alloc (by simp) _).alloc (by simp; omega) _⟩
 ·rw [Below.heap_alloc _ _ _ (by omega),Below.heap_alloc _ _ _ (by omega)]
  exact nodes.rN _ _ _ rfl
 ·rw [Below.heap_alloc _ _ _ (by omega)]
  exact nodes.rN _ _ _ (by omega)
theorem Wu {fn:Func} {p q:Tmp} {ty:TypeId} (h:fn.results = #[.cell p ty,.cell q ty]) (tmps:Array Value) (P:Program) (w:World) :
  (results fn tmps).run P w=((asAddr (tmps.getD p undef)).run P w).andThen fun a aiI=>((loadVar ty a).run P aiI).andThen fun v aiE=>((asAddr (tmps.getD q undef)).run P aiE).andThen fun a' aiG=>((loadVar ty a').run P aiG).andThen fun v' aod=>.ok (.tuple #[v,v']) aod:=by
 simp only [results,h];simp [Sem.run_bind,Result.andThen]
theorem filled {w V:World} {Z:Obj} {s:b.aE} {q:Q} {c1 c2:Value} (sV:V.heap.size=w.heap.size+3) (bV:RowKit.Below w.heap.size w V) (e1:V.cell? ⟨w.heap.size,1,none⟩=some c1) (e2:V.cell? ⟨w.heap.size,2,none⟩=some c2)
  (e5:V.cell? ⟨w.heap.size,5,none⟩=some (.int .i64 s.root.slot)) (o1:Good V ⟨w.heap.size+1,0,none⟩) (o2:Good V ⟨w.heap.size+1+1,0,none⟩) (hq:QAt s q w.heap.size w) (u1 u2:Value) :
  ∃ Y,((((V.setCell ⟨w.heap.size+1,0,none⟩ u1).setCell ⟨w.heap.size+1+1,0,none⟩ u2).alloc Z).alloc Z).drew=Y/\Y.heap.size=w.heap.size+5/\RowKit.Below w.heap.size w Y/\Y.cell? ⟨w.heap.size,1,none⟩=some c1/\Y.cell? ⟨w.heap.size,2,none⟩=some c2/\Y.cell? ⟨w.heap.size,5,none⟩=some (.int .i64 s.root.slot)/\
   Y.cell? ⟨w.heap.size+1,0,none⟩=some u1/\Y.cell? ⟨w.heap.size+1+1,0,none⟩=some u2/\Good Y ⟨w.heap.size+1,0,none⟩/\Good Y ⟨w.heap.size+1+1,0,none⟩/\Y.heap[w.heap.size+3]? = some Z/\Y.heap[w.heap.size+3+1]? = some Z/\QAt s q w.heap.size Y:=by
 have bx:∀ {a c:Nat} {j l:Nat},a≠c->(⟨a,j,none⟩:Addr)≠⟨c,l,none⟩:=fun h e=>h (by simpa using congrArg Addr.block e);have hs1:((V.setCell ⟨w.heap.size+1,0,none⟩ u1).setCell ⟨w.heap.size+1+1,0,none⟩ u2).heap.size=w.heap.size+3:=by simp [sV]
 have iw:(((V.setCell ⟨w.heap.size+1,0,none⟩ u1).setCell ⟨w.heap.size+1+1,0,none⟩ u2).alloc Z).heap.size=w.heap.size+3+1:=by simp [sV]
 have bY:RowKit.Below w.heap.size w ((((V.setCell ⟨w.heap.size+1,0,none⟩ u1).setCell ⟨w.heap.size+1+1,0,none⟩ u2).alloc Z).alloc Z).drew:=by
  refine (((bV.setCell ?_ _).setCell ?_ _).alloc ?_ _ |>.alloc ?_ _).drew <;> simp [sV] <;> omega
 have lift:∀ {a:Addr} {v:Value},a.block≠w.heap.size+1->a.block≠w.heap.size+1+1->V.cell? a=some v->((((V.setCell ⟨w.heap.size+1,0,none⟩ u1).setCell ⟨w.heap.size+1+1,0,none⟩ u2).alloc Z).alloc Z).drew.cell? a=some v:=fun h1 h2 h=>qD (sF (sF (n5 (Ne.symm h2) (n5 (Ne.symm h1) h))));refine ⟨_,rfl,by simp [sV],bY,lift (by show w.heap.size≠_; omega) (by show w.heap.size≠_; omega) e1,lift (by show w.heap.size≠_; omega) (by show w.heap.size≠_; omega) e2,lift (by show w.heap.size≠_; omega) (by show w.heap.size≠_; omega) e5,?_,?_,NI (sE (sE (Bm (Bm o1)))),NI (sE (sE (Bm (Bm o2)))),?_,?_,hq.dj (d:=w.heap.size) (m:=w.heap.size) ⟨bY.os,bY.tape,bY.output,bY.size,fun k hk _ _=>bY.block k hk⟩ (ao _) (ao _) (ao _)⟩
 ·obtain ⟨v,hv⟩:=P1 o1
  exact qD (sF (sF (n5 (by show w.heap.size+1+1≠w.heap.size+1; omega) (World.cell?_setCell_same _ _ _ hv))))
 ·obtain ⟨v,hv⟩:=P1 (Bm (p:=⟨w.heap.size+1,0,none⟩) (x:=u1) o2)
  exact qD (sF (sF (World.cell?_setCell_same _ _ _ hv)))
 ·show ((((V.setCell _ _).setCell _ _).alloc Z).alloc Z).heap[w.heap.size+3]? = _
  rw [Below.heap_alloc _ _ _ (by omega)];exact nodes.rN _ _ _ (by omega)
 ·exact nodes.rN _ _ _ (by omega)
theorem vQ.pf {d m:Nat} {W W' : World} (h:vQ d m W W') {b j:Nat} (hb:b < W.heap.size) (hd:b≠d) (hm:b≠m) (g:Good W ⟨b,j,none⟩):Good W' ⟨b,j,none⟩:=by
 have e:=h.block b hb hd hm;refine ⟨by rw [h.cell hb hd hm]; exact g.1,?_⟩;have:=g.2;unfold World.frozen? at this ⊢;rw [e];exact this
abbrev fnV (n:Nat):Value:=.func (.func 162) #[] #[.pointer (some ⟨n+1,0,none⟩),.pointer (some ⟨n,0,none⟩),.pointer (some ⟨n+5,0,none⟩),.pointer (some ⟨n+1+1,0,none⟩)]
theorem start {s:b.aE} {q:Q} {n d m N:Nat} {Y:World} {Z:Obj} (sY:Y.heap.size=n+5) (y1:Y.cell? ⟨n,1,none⟩=some (.slice q.ka s.graph.kids.n q.kc)) (y2:Y.cell? ⟨n,2,none⟩=some (.slice q.na s.nodes.n q.nc)) (w1:Y.cell? ⟨n+1,0,none⟩=some (.slice (some ⟨d,0,none⟩) N N)) (w2:Y.cell? ⟨n+1+1,0,none⟩=some (.slice (some ⟨m,0,none⟩) N N))
  (zd:Y.heap[d]? = some Z) (zm:Y.heap[m]? = some Z) (hd:n+3<=d) (hm:n+3<=m) (bx:d≠m) (hq:QAt s q n Y) (hZ1:∀ (W:World) (b i:Nat),W.heap[b]? = some Z->i < N->W.cell? ⟨b,i,none⟩=some (.int .i64 0)) (hZ2:∀ (W:World) (b i:Nat),W.heap[b]? = some Z->W.frozen? ⟨b,i,none⟩=false) :
  Cu s q n (n+1) n (n+5) (n+1+1) d m N (Y.alloc (.cells #[fnV n] 229)) (⟨N,fun _=>0⟩,⟨N,fun _=>0⟩):=by
 have ld:d < Y.heap.size:=(jg.1 zd).1;have lm:m < Y.heap.size:=(jg.1 zm).1;have k:vQ d m Y (Y.alloc (.cells #[fnV n] 229)):=.alloc _ _;have zd' : (Y.alloc (.cells #[fnV n] 229)).heap[d]? = some Z:=by rw [Below.heap_alloc _ _ _ ld]; exact zd
 have zm' : (Y.alloc (.cells #[fnV n] 229)).heap[m]? = some Z:=by rw [Below.heap_alloc _ _ _ lm]; exact zm
 have hs:(Y.alloc (.cells #[fnV n] 229)).heap.size=n+6:=by simp [sY]
 exact ⟨hq.dj k (by omega) (by omega) (by omega),by omega,by omega,by omega,by omega,by omega,by omega,by omega,bx,rfl,rfl,(k.cell (by omega) (by omega) (by omega)).trans w1,(k.cell (by omega) (by omega) (by omega)).trans y1,(k.cell (by omega) (by omega) (by omega)).trans y2,
  by rw [nodes.j8 (nodes.rN _ _ _ (by omega))]; rfl,(k.cell (by omega) (by omega) (by omega)).trans w2,fun i hi=>hZ1 _ _ _ zd' hi,fun i hi=>hZ1 _ _ _ zm' hi,fun i=>hZ2 _ _ _ zd',fun i=>hZ2 _ _ _ zm'⟩
theorem finish {s:b.aE} {q:Q} {d m N b3:Nat} {w Y W2:World} {o:Obj} {x:Sl Int×Sl Int} (L:Cu s q w.heap.size (w.heap.size+1) w.heap.size b3 (w.heap.size+1+1) d m N W2 x) (k:vQ d m (Y.alloc o) W2) (bY:RowKit.Below w.heap.size w Y) (hd:w.heap.size+3<=d) (hm:w.heap.size+3<=m) (u1 u2:Value) :
  d≠m/\Du w ((W2.setCell ⟨w.heap.size+1,0,none⟩ u1).setCell ⟨w.heap.size+1+1,0,none⟩ u2).drew d x.1/\Du w ((W2.setCell ⟨w.heap.size+1,0,none⟩ u1).setCell ⟨w.heap.size+1+1,0,none⟩ u2).drew m x.2/\RowKit.Below w.heap.size w ((W2.setCell ⟨w.heap.size+1,0,none⟩ u1).setCell ⟨w.heap.size+1+1,0,none⟩ u2).drew:=by
 have b0:RowKit.Below w.heap.size w (Y.alloc o):=bY.alloc bY.size _;have b2:RowKit.Below w.heap.size w W2:=⟨k.os.trans b0.os,k.tape.trans b0.tape,k.output.trans b0.output,dA b0.size k.size,fun j hj=>(k.block j (dG hj b0.size) (by omega) (by omega)).trans (b0.block j hj)⟩
 have n1:=L.n1;have n2:=L.n2;refine ⟨L.ne,⟨by omega,by show d < ((W2.setCell _ _).setCell _ _).heap.size; simpa using L.ld.2,fun i hi=>?_,fun j=>?_⟩,⟨by omega,by show m < ((W2.setCell _ _).setCell _ _).heap.size; simpa using L.lm.2,fun i hi=>?_,fun j=>?_⟩,((b2.setCell (by show w.heap.size<=w.heap.size+1; omega) _).setCell (by show w.heap.size<=w.heap.size+1+1; omega) _).drew⟩
 ·exact qD (n5 (by show w.heap.size+1+1≠d; omega) (n5 (by show w.heap.size+1≠d; omega) (L.cd i (by omega))))
 ·rw [World.frozen?_drew,World.frozen?_setCell,World.frozen?_setCell]; exact L.fd j
 ·exact qD (n5 (by show w.heap.size+1+1≠m; omega) (n5 (by show w.heap.size+1≠m; omega) (L.cm i (by omega))))
 ·rw [World.frozen?_drew,World.frozen?_setCell,World.frozen?_setCell]; exact L.fm j
set_option maxHeartbeats 8000000 in
theorem counts (s:b.aE) (q:Q) (x0 x3 x4:Value) (w:World) (hq:QAt s q w.heap.size w) (x:Sl Int×Sl Int) (WU:b.dE s=some x) :
  Calls Tryz.prog 91 #[.agg #[x0,.slice q.ka s.graph.kids.n q.kc,.slice q.na s.nodes.n q.nc,x3,x4,.int .i64 s.root.slot,.int .i64 s.root.gen]] w fun e w'=>
   ∃ k1 k2,e = .returned (.tuple #[.slice (some ⟨k1,0,.none⟩) x.1.n x.1.n,.slice (some ⟨k2,0,.none⟩) x.2.n x.2.n])/\k1≠k2/\Du w w' k1 x.1/\Du w w' k2 x.2/\RowKit.Below w.heap.size w w':=by
 have jG:b.Fits s:=by
  apply Classical.byContradiction;intro hf;unfold b.dE at WU;rw [ae hf] at WU;simp at WU
 have hx:b.qC s 250 s.root.slot (⟨s.nodes.n,fun _=>0⟩,⟨s.nodes.n,fun _=>0⟩)=some x:=by
  unfold b.dE at WU;rwa [ax jG] at WU
 obtain ⟨hn,dC⟩:=jG;clear WU;have mixed:=s0;have t3:=Tryz.underlying3; have a3:=Tryz.isAgg3; have z3:=Tryz.sizeOf3; have v3:=Tryz.zeroValue3; have u3:=run_underlying Tryz.underlying3;have t48:=Tryz.underlying36; have a48:=Tryz.isAgg36; have z48:=Tryz.sizeOf36; have v48:=Tryz.zeroValue36; have u48:=run_underlying Tryz.underlying36;have t32:=Tryz.underlying32; have a32:=Tryz.isAgg32; have z32:=Tryz.sizeOf32; have v32:=Tryz.zeroValue32; have u32:=run_underlying Tryz.underlying32;have t34:=Tryz.underlying34; have a34:=Tryz.isAgg34; have z34:=Tryz.sizeOf34; have v34:=Tryz.zeroValue34; have u34:=run_underlying Tryz.underlying34;have t28:=Tryz.underlying28; have a28:=Tryz.isAgg28; have z28:=Tryz.sizeOf28; have v28:=Tryz.zeroValue28; have u28:=run_underlying Tryz.underlying28;have t143:=Tryz.underlying229; have a143:=Tryz.isAgg229; have z143:=Tryz.sizeOf229; have v143:=Tryz.zeroValue229; have an8:=run_underlying Tryz.underlying229
 go_enter Tryz.func91,Tryz.ntmps91
 go_wp2
 obtain ⟨V,hV,v0,v1,v2,sV,bV⟩:=three w (Obj.cells #[x0,.slice q.ka s.graph.kids.n q.kc,.slice q.na s.nodes.n q.nc,x3,x4,.int .i64 s.root.slot,.int .i64 s.root.gen] 34) (Obj.cells #[.slice none 0 0] 36) (Obj.cells #[.slice none 0 0] 36);have e1:V.cell? ⟨w.heap.size,1,none⟩=some (.slice q.ka s.graph.kids.n q.kc):=by rw [nodes.j8 v0]; rfl
 have e2:V.cell? ⟨w.heap.size,2,none⟩=some (.slice q.na s.nodes.n q.nc):=by rw [nodes.j8 v0]; rfl
 have e5:V.cell? ⟨w.heap.size,5,none⟩=some (.int .i64 s.root.slot):=by rw [nodes.j8 v0]; rfl
 have o1:V.cell? ⟨w.heap.size+1,0,none⟩=some (.slice none 0 0):=by rw [nodes.j8 v1]; rfl
 have o2:V.cell? ⟨w.heap.size+1+1,0,none⟩=some (.slice none 0 0):=by rw [nodes.j8 v2]; rfl
 have r1:V.frozen? ⟨w.heap.size+1,0,none⟩=false:=by unfold World.frozen?; simp [v1]
 have r2:V.frozen? ⟨w.heap.size+1+1,0,none⟩=false:=by unfold World.frozen?; simp [v2]
 obtain ⟨Z,KN,hZ1,hZ2⟩:=run_mk s.nodes.n hn;rw [hV];clear hV
 go_region_held3 (fun w'=>w'.cell? ⟨w.heap.size,2,none⟩=some (.slice q.na s.nodes.n q.nc)/\(∃ v,w'.cell? ⟨w.heap.size+1,0,none⟩=some v)/\(∃ v,w'.cell? ⟨w.heap.size+1+1,0,none⟩=some v)/\w'.frozen? ⟨w.heap.size+1,0,none⟩=false/\w'.frozen? ⟨w.heap.size+1+1,0,none⟩=false) ((try refine ⟨?_,?_,?_,?_,?_⟩) <;> first | (first | refine P1 ?_ | refine ak6 ?_); (repeat with_reducible first | refine NI ?_ | refine sE ?_ | refine Bm ?_); (exact ⟨by simp [*],by simp [*]⟩) | ((repeat with_reducible first | refine qD ?_ | refine sF ?_ | refine n5 (by dsimp only; omega) ?_); assumption)) (fail)
 all_goals
  have g1:Good V ⟨w.heap.size+1,0,none⟩:=⟨by rw [o1]; rfl,r1⟩
  have g2:Good V ⟨w.heap.size+1+1,0,none⟩:=⟨by rw [o2]; rfl,r2⟩
  first
   | (obtain ⟨Y,hY,sY,bY,y1,y2,y5,w1,w2,p1,p2,z1,z2,qY⟩:=filled (Z:=Z) (s:=s) (q:=q) sV bV e1 e2 e5 g1 g2 hq (.slice (some ⟨w.heap.size+3,0,none⟩) s.nodes.n s.nodes.n) (.slice (some ⟨w.heap.size+3+1,0,none⟩) s.nodes.n s.nodes.n); rw [hY]; clear hY)
   | (obtain ⟨Y,hY,sY,bY,y1,y2,y5,w1,w2,p1,p2,z1,z2,qY⟩:=filled (Z:=Z) (s:=s) (q:=q) sV bV e1 e2 e5 g1 g2 hq (.slice (some ⟨w.heap.size+3+1,0,none⟩) s.nodes.n s.nodes.n) (.slice (some ⟨w.heap.size+3,0,none⟩) s.nodes.n s.nodes.n); rw [hY]; clear hY)
  clear g1 g2 e1 e2 e5 o1 o2 r1 r2 v0 v1 v2 bV sV KN;have hL:∃ d m,w.heap.size+3<=d/\w.heap.size+3<=m/\Cu s q w.heap.size (w.heap.size+1) w.heap.size (w.heap.size+5) (w.heap.size+1+1) d m s.nodes.n (Y.alloc (.cells #[fnV w.heap.size] 229)) (⟨s.nodes.n,fun _=>0⟩,⟨s.nodes.n,fun _=>0⟩):=by
   first
    | exact ⟨_,_,ao _,by omega,start sY y1 y2 w1 w2 z1 z2 (ao _) (by omega) (by omega) qY hZ1 hZ2⟩
    | exact ⟨_,_,by omega,ao _,start sY y1 y2 w1 w2 z2 z1 (by omega) (ao _) (by omega) qY hZ1 hZ2⟩
  obtain ⟨d,m,hd,hm,L⟩:=hL;have qM:=down s q _ _ _ _ _ _ _ _ dC 250 s.root.slot _ x _ hx L;have fin:∀ W2,Cu s q w.heap.size (w.heap.size+1) w.heap.size (w.heap.size+5) (w.heap.size+1+1) d m s.nodes.n W2 x->vQ d m (Y.alloc (.cells #[fnV w.heap.size] 229)) W2->_:=fun W2 L2 K2=>finish L2 K2 bY hd hm (.slice (some ⟨d,0,none⟩) s.nodes.n s.nodes.n) (.slice (some ⟨m,0,none⟩) s.nodes.n s.nodes.n);clear hq hx dC hn z1 z2 qY hZ1 hZ2 bY
  go_wp2_with (go_at_call 162; go_loud (refine qM.mono ?_; rintro e w2 ⟨rfl,L2,K2⟩; have q1:=L2.c1; have q4:=L2.c4; have gA:=vQ.pf K2 (by simp [sY]) (by omega) (by omega) (sE (o:=.cells #[fnV w.heap.size] 229) p1); have gB:=vQ.pf K2 (by simp [sY]) (by omega) (by omega) (sE (o:=.cells #[fnV w.heap.size] 229) p2)))
  have gA1:=gA.1;have gA2:=gA.2;have gB1:=gB.1;have gB2:=gB.2
  go_region_held3 (fun w'=>w'.cell? ⟨w.heap.size+1,0,none⟩=some (.slice (some ⟨d,0,none⟩) s.nodes.n s.nodes.n)/\w'.cell? ⟨w.heap.size+1+1,0,none⟩=some (.slice (some ⟨m,0,none⟩) s.nodes.n s.nodes.n)/\w'.frozen? ⟨w.heap.size+1,0,none⟩=false/\w'.frozen? ⟨w.heap.size+1+1,0,none⟩=false) ((try refine ⟨?_,?_,?_,?_⟩) <;> first | ((repeat with_reducible first | refine qD ?_ | refine n5 (by dsimp only; omega) ?_); first | assumption | exact World.cell?_setCell_same _ _ _ (by first | assumption | exact n5 (by dsimp only; omega) (by assumption))) | simp [*]) (fail)
  all_goals
   go_wp2
   have n1:=L2.n1;have n2:=L2.n2;obtain ⟨f1,f2,f3,f4⟩:=fin _ L2 K2;have h1:((w2.setCell ⟨w.heap.size+1,0,none⟩ (.slice (some ⟨d,0,none⟩) s.nodes.n s.nodes.n)).setCell ⟨w.heap.size+1+1,0,none⟩ (.slice (some ⟨m,0,none⟩) s.nodes.n s.nodes.n)).drew.cell? ⟨w.heap.size+1,0,none⟩=some (.slice (some ⟨d,0,none⟩) s.nodes.n s.nodes.n):=
    qD (n5 (by dsimp only; omega) (World.cell?_setCell_same _ _ _ q1))
   have h2:((w2.setCell ⟨w.heap.size+1,0,none⟩ (.slice (some ⟨d,0,none⟩) s.nodes.n s.nodes.n)).setCell ⟨w.heap.size+1+1,0,none⟩ (.slice (some ⟨m,0,none⟩) s.nodes.n s.nodes.n)).drew.cell? ⟨w.heap.size+1+1,0,none⟩=some (.slice (some ⟨m,0,none⟩) s.nodes.n s.nodes.n):=
    qD (World.cell?_setCell_same _ _ _ (n5 (by dsimp only; omega) q4))
   generalize ((w2.setCell ⟨w.heap.size+1,0,none⟩ (.slice (some ⟨d,0,none⟩) s.nodes.n s.nodes.n)).setCell ⟨w.heap.size+1+1,0,none⟩ (.slice (some ⟨m,0,none⟩) s.nodes.n s.nodes.n)).drew=WE at *;refine bodyPost_ret (v:=.tuple #[.slice (some ⟨d,0,none⟩) s.nodes.n s.nodes.n,.slice (some ⟨m,0,none⟩) s.nodes.n s.nodes.n]) ?_ rfl ⟨d,m,by rw [n1,n2],f1,f2,f3,f4⟩;rw [Wu rfl]
   go_simp
theorem call23:pq Tryz.prog 91:=by
 refine ⟨by kernel_rfl,_,Tryz.func91,rfl,by kernel_rfl⟩
theorem ak7 (w:Nat->KV):pz Tryz.prog [34] w 0 = [b.wU (b.mR (gW Tryz.prog (bU Tryz.prog df) 34 (w 0)))]:=by kernel_rfl
theorem aoe (l:List Nat) (g:Nat->Int):dp (aH Tryz.prog 3) (l.map fun i=>kI .i64 (g i))=true:=by
 induction l with
 | nil=>rfl
 | cons x l ih=>
  show (ca (aH Tryz.prog 3) (kI .i64 (g x))&&dp (aH Tryz.prog 3) (l.map fun i=>kI .i64 (g i)))=true;rw [ih,yD]
  kernel_rfl
end Go.Proofs.YtckbdndhmcoihaaGreat.DR
namespace Go.Proofs.YtckbdndhmcoihaaGreat.b
open Go Go.RowKit Go.K
theorem vj:cA Tryz.prog 91 qX:=by
 refine ahD DR.call23 (by kernel_rfl) (fun s=>DR.aoe _ _) fun args v E A B ρ base w bN hF hlen hv hj=>?_;have ep:bL Tryz.prog 91 = [34]:=by kernel_rfl
 unfold qX cI at hF;obtain ⟨hb,hF⟩:=aA.cond hF;obtain ⟨ww,hw⟩:=Ca 0 hb;have vN:ny Tryz.prog E ρ (normArgs Tryz.prog (bL Tryz.prog 91) args) bN:=by
  obtain ⟨m,h1,h2⟩:=hv;exact ⟨m,aK.Gu (.of rfl) h1 hlen,h2⟩
 rw [hw,ep,DR.ak7] at hF vN;generalize mR (gW Tryz.prog (bU Tryz.prog df) 34 (ww 0))=s at hF vN;obtain ⟨u,us,rfl,hu,ED⟩:=vN.qP;obtain rfl:=ED.PK;obtain ⟨q,x0,x3,x4,rfl,hq⟩:=DR.ahE hj hu;unfold cR at hF;obtain ⟨h1,h2⟩:=aA.iH hF;have h1:(dE s).isSome=true:=h1;obtain ⟨x,hx⟩:=NT.1 h1;have h2:KV.ng [(dS 3 (kI .i64)) ((dE s).getD default).1,(dS 3 (kI .i64)) ((dE s).getD default).2] = v:=h2;rw [hx] at h2;refine (DR.counts s q x0 x3 x4 w hq x hx).mono ?_;rintro e w' ⟨k1,k2,rfl,bx,i1,i2,hb⟩;exact ⟨x.1,x.2,k1,k2,h2.symm,rfl,bx,i1,i2,hb⟩
end Go.Proofs.YtckbdndhmcoihaaGreat.b
end
section
namespace Go.Proofs.YtckbdndhmcoihaaGreat.b
open Go.K
noncomputable section
theorem SS (s:Sl Path) (v:Path):s.push v=nh (fun e=>yx (gW Tryz.prog (bU Tryz.prog 5) 38 e)) (s.n+1) (dV s.n (fun i=>vi (s.get i)) (qj [vi v])):=(Ky (p:=fun e=>yx (gW Tryz.prog (bU Tryz.prog 5) 38 e)) (fun x=>by kernel_rfl) (by kernel_rfl) s v).symm
structure eo where
 h:Handle
 ew:Int
instance:Inhabited eo:=⟨⟨default,default⟩⟩
def aas (x:eo):List KV:=[.int .i64 x.h.slot,.int .i64 x.h.gen,.int .i64 x.ew]
def kf (x:eo):KV:=.agg (aas x)
def aat (c:Nat->KV):eo:=⟨⟨aw (c 0),aw (c 1)⟩,aw (c 2)⟩
def fI (v:KV):eo:=aat fun k=>v.cells.getD k .bz
theorem pL (x:eo):fI (kf x)=x:=rfl
theorem Wv:fI .bz=default:=rfl
theorem Fs (s t:Sl eo):s.join t=nh fI (s.n+t.n) (dV s.n (fun i=>kf (s.get i)) (fun i=>kf (t.get i))):=(Ri pL s t).symm
theorem Hw (l:List eo):Sl.lit l=nh fI l.length (qj (l.map kf)):=(V4 pL Wv l).symm
theorem Hx (s:Sl eo) (i:Nat) (v:eo):s.set i v=nh fI s.n (uv (fun j=>kf (s.get j)) i (kf v)):=(acx pL s i v).symm
theorem Hy (m n n' : Nat) (acc fa:Nat->KV):nh fI m (dV n (fun i=>kf ((nh fI n' acc).get i)) fa)=nh fI m (dV n acc fa):=V5 pL ..
theorem Hz (m n n' : Nat) (acc fa:Nat->KV):nh fI m (dV n acc (fun i=>kf ((nh fI n' fa).get i)))=nh fI m (dV n acc fa):=ajE pL ..
theorem Tu (m n' i:Nat) (acc:Nat->KV) (v:KV):nh fI m (uv (fun j=>kf ((nh fI n' acc).get j)) i v)=nh fI m (uv acc i v):=ajF pL ..
structure dx where
 l:(Sl eo)
 t7:Int
 t8:Int
 t2:Path
 p:Path
instance:Inhabited dx:=⟨⟨default,default,default,default,default⟩⟩
def ij (x:dx):List KV:=[dS 166 kf x.l,.int .i64 x.t7,.int .i64 x.t8]
def ik (x:dx):List (List KV):=[NF x.t2,NF x.p]
def oJ (vs:List KV) (rs:List (List KV)):dx:=⟨eG fI (v9 vs 0),aw (v9 vs 1),aw (v9 vs 2),NG (r9 rs 0),NG (r9 rs 1)⟩
def oY:aB:=⟨[(0,⟨false,[.arr 166]⟩),(7,w9 i9),(8,w9 i9)],[(2,[.aF 32,.aF 3],1),(3,[.aF 32,.aF 3],1)],[(2,0,0),(3,1,0),(6,1000000,0)]⟩
def xj:=GC PG (mA PG [(91,qX),(25,ug)] [] (fun q=>Nat.beq q 166||Nat.beq q 3000166||Nat.beq q 4000166)) 9 9 92 58 (uA PG 92 58) oY
def cB (x:dx):ba dx:=(cond (decide (x.t8 < x.t7)) (cond ((decide (0<=x.t8))&&(decide (x.t8 < (x.l.n:Int)))) (cond ((ck x.p.nodes.n x.p.nodes.n)&&(mv 16 x.p.nodes.n 1)) (cond (decide (x.t8 > 0)) (cond ((decide (0<=(bB (x.t8 - 1))))&&(decide ((bB (x.t8 - 1)) < (x.l.n:Int)))) (cond ((ck x.p.kids.n x.p.kids.n)&&(mv 8 x.p.kids.n 1)) (cond (cond ((((((Nat.beq x.l.n x.l.n)&&true)&&true)&&true)&&true)&&true) (cond (cond (cond (cond (ck (x.p.kids.n+1) (x.p.kids.n+1)) (ck (x.p.nodes.n+1) (x.p.nodes.n+1)) false) (ck x.t2.kids.n x.t2.kids.n) false) (ck x.t2.nodes.n x.t2.nodes.n) false) (ck x.l.n x.l.n) false) false) (.next ⟨x.l,x.t7,(bB (x.t8+1)),x.t2,⟨(x.p.nodes.push (x.l.get (0+(Int.toNat x.t8))).h),(x.p.kids.push (bB ((x.l.get (0+(Int.toNat (bB (x.t8 - 1))))).ew - 1)))⟩⟩) .fail) .fail) .fail) (cond (cond ((((((Nat.beq x.l.n x.l.n)&&true)&&true)&&true)&&true)&&true) (cond (cond (cond (cond (ck x.p.kids.n x.p.kids.n) (ck (x.p.nodes.n+1) (x.p.nodes.n+1)) false) (ck x.t2.kids.n x.t2.kids.n) false) (ck x.t2.nodes.n x.t2.nodes.n) false) (ck x.l.n x.l.n) false) false) (.next ⟨x.l,x.t7,(bB (x.t8+1)),x.t2,⟨(x.p.nodes.push (x.l.get (0+(Int.toNat x.t8))).h),x.p.kids⟩⟩) .fail)) .fail) .fail) (cond (cond ((((((Nat.beq x.l.n x.l.n)&&true)&&true)&&true)&&true)&&true) (cond (cond (cond (cond (ck x.p.kids.n x.p.kids.n) (ck x.p.nodes.n x.p.nodes.n) false) (ck x.t2.kids.n x.t2.kids.n) false) (ck x.t2.nodes.n x.t2.nodes.n) false) (ck x.l.n x.l.n) false) false) (.out (az.aa.exit 0) x) .fail))
theorem vl (x:dx):xj (ij x) (ik x)=ba.enc ij ik (cB x):=by
 unfold cB
 try simp only [ba.dt,GG,aht]
 kernel_rfl
def kR:Lp:=⟨92,58,oY,fun vs rs=>eC ij ik (goN cB (oJ vs rs)) [az.aa.exit 0],true⟩
theorem oK:kR.Ok PG:=aai funcs mixed (av.cons vj (av.cons tt av.nil)) bO.nil (L:=9) (n:=9) (step:=cB) (ev:=ij) (er:=ik) (pa:=oJ) rfl (fun wv wr=>⟨by kernel_rfl,by kernel_rfl⟩) vl
structure cg where
 t2:(Sl Path)
 t3:Int
 out:(Sl Path)
 stack:(Sl eo)
 s:aE
instance:Inhabited cg:=⟨⟨default,default,default,default,default⟩⟩
def oL (x:cg):List KV:=[dS 38 vi x.t2,.int .i64 x.t3,dS 38 vi x.out,dS 166 kf x.stack]
def oM (x:cg):List (List KV):=[yQ x.s]
def zx (vs:List KV) (rs:List (List KV)):cg:=⟨eG yx (v9 vs 0),aw (v9 vs 1),eG yx (v9 vs 2),eG fI (v9 vs 3),yR (r9 rs 0)⟩
def Ay:aB:=⟨[(2,w9 (n9 38)),(3,w9 i9),(7,⟨false,[.aF 38]⟩),(8,⟨false,[.arr 166]⟩)],[(1,[n9 111,n9 35,n9 77,n9 88,n9 91,i9,i9],1)],[(1,0,0)]⟩
def Js:=aag PG (mA PG [(91,qX),(25,ug)] [kR] (fun q=>Nat.beq q 166||Nat.beq q 3000166||Nat.beq q 4000166)) 9 9 35 3 Ay
def hJ (x:cg):=goN cB ⟨x.stack,(x.stack.n:Int),0,⟨⟨0,(fun i=>⟨0,0⟩)⟩,⟨0,(fun i=>0)⟩⟩,⟨⟨0,(fun i=>⟨0,0⟩)⟩,⟨0,(fun i=>0)⟩⟩⟩
def bF (x:cg):ba cg:=(cond ((decide (0<=(bB ((x.stack.n:Int) - 1))))&&(decide ((bB ((x.stack.n:Int) - 1)) < (x.stack.n:Int)))) (cond ((decide (0<=(x.stack.get (0+(Int.toNat (bB ((x.stack.n:Int) - 1))))).h.slot))&&(decide ((x.stack.get (0+(Int.toNat (bB ((x.stack.n:Int) - 1))))).h.slot < (x.s.graph.kids.n:Int)))) (cond (decide ((x.stack.get (0+(Int.toNat (bB ((x.stack.n:Int) - 1))))).ew < ((x.s.graph.kids.get (Int.toNat (x.stack.get (0+(Int.toNat (bB ((x.stack.n:Int) - 1))))).h.slot)).n:Int))) (cond ((decide (0<=(bB (((x.stack.set (0+(Int.toNat (bB ((x.stack.n:Int) - 1)))) ⟨(x.stack.get (0+(Int.toNat (bB ((x.stack.n:Int) - 1))))).h,(bB ((x.stack.get (0+(Int.toNat (bB ((x.stack.n:Int) - 1))))).ew+1))⟩).get (0+(Int.toNat (bB ((x.stack.n:Int) - 1))))).ew - 1))))&&(decide ((bB (((x.stack.set (0+(Int.toNat (bB ((x.stack.n:Int) - 1)))) ⟨(x.stack.get (0+(Int.toNat (bB ((x.stack.n:Int) - 1))))).h,(bB ((x.stack.get (0+(Int.toNat (bB ((x.stack.n:Int) - 1))))).ew+1))⟩).get (0+(Int.toNat (bB ((x.stack.n:Int) - 1))))).ew - 1)) < ((x.s.graph.kids.get (Int.toNat (x.stack.get (0+(Int.toNat (bB ((x.stack.n:Int) - 1))))).h.slot)).n:Int)))) (cond ((Nat.ble ((x.stack.n+1) * 24) 140737488355328)&&(Nat.ble (x.stack.n+1) 17592186044416)) (cond (cond (ck (x.stack.n+1) (x.stack.n+1)) (ck x.out.n x.out.n) false) (.next ⟨x.t2,x.t3,x.out,((x.stack.set (0+(Int.toNat (bB ((x.stack.n:Int) - 1)))) ⟨(x.stack.get (0+(Int.toNat (bB ((x.stack.n:Int) - 1))))).h,(bB ((x.stack.get (0+(Int.toNat (bB ((x.stack.n:Int) - 1))))).ew+1))⟩).join (Sl.lit [⟨((x.s.graph.kids.get (Int.toNat (x.stack.get (0+(Int.toNat (bB ((x.stack.n:Int) - 1))))).h.slot)).get (Int.toNat (bB (((x.stack.set (0+(Int.toNat (bB ((x.stack.n:Int) - 1)))) ⟨(x.stack.get (0+(Int.toNat (bB ((x.stack.n:Int) - 1))))).h,(bB ((x.stack.get (0+(Int.toNat (bB ((x.stack.n:Int) - 1))))).ew+1))⟩).get (0+(Int.toNat (bB ((x.stack.n:Int) - 1))))).ew - 1)))),0⟩])),x.s⟩) .fail) .fail) .fail) (cond ((decide (0<=(x.stack.get (0+(Int.toNat (bB ((x.stack.n:Int) - 1))))).h.slot))&&(decide ((x.stack.get (0+(Int.toNat (bB ((x.stack.n:Int) - 1))))).h.slot < (x.s.nodes.n:Int)))) (cond ((x.s.nodes.get (Int.toNat (x.stack.get (0+(Int.toNat (bB ((x.stack.n:Int) - 1))))).h.slot)).kind==5) (cond (cond ((((((Nat.beq x.stack.n x.stack.n)&&true)&&true)&&true)&&true)&&true) (ck x.stack.n x.stack.n) false) (cond ((hJ x).by (az.aa.exit 0)) (cond ((ck x.out.n x.out.n)&&(mv 48 x.out.n 1)) (cond ((decide (0<=(bB ((x.stack.n:Int) - 1))))&&(decide ((bB ((x.stack.n:Int) - 1))<=(x.stack.n:Int)))) (cond (decide ((((Int.toNat (bB ((x.stack.n:Int) - 1))):Nat):Int) > 0)) (cond (cond (ck (Int.toNat (bB ((x.stack.n:Int) - 1))) (Int.toNat (bB ((x.stack.n:Int) - 1)))) (ck (x.out.n+1) (x.out.n+1)) false) (.next ⟨x.t2,x.t3,(x.out.push (hJ x).st.p),⟨(Int.toNat (bB ((x.stack.n:Int) - 1))),(hJ x).st.l.get⟩,x.s⟩) .fail) (cond (cond (ck (Int.toNat (bB ((x.stack.n:Int) - 1))) (Int.toNat (bB ((x.stack.n:Int) - 1)))) (ck (x.out.n+1) (x.out.n+1)) false) (.out az.aa.ret ⟨(x.out.push (hJ x).st.p),0,(x.out.push (hJ x).st.p),⟨(Int.toNat (bB ((x.stack.n:Int) - 1))),(hJ x).st.l.get⟩,x.s⟩) .fail)) .fail) .fail) .fail) .fail) (cond ((decide (0<=(bB ((x.stack.n:Int) - 1))))&&(decide ((bB ((x.stack.n:Int) - 1))<=(x.stack.n:Int)))) (cond (decide ((((Int.toNat (bB ((x.stack.n:Int) - 1))):Nat):Int) > 0)) (cond (cond (ck (Int.toNat (bB ((x.stack.n:Int) - 1))) (Int.toNat (bB ((x.stack.n:Int) - 1)))) (ck x.out.n x.out.n) false) (.next ⟨x.t2,x.t3,x.out,⟨(Int.toNat (bB ((x.stack.n:Int) - 1))),x.stack.get⟩,x.s⟩) .fail) (cond (cond (ck (Int.toNat (bB ((x.stack.n:Int) - 1))) (Int.toNat (bB ((x.stack.n:Int) - 1)))) (ck x.out.n x.out.n) false) (.out az.aa.ret ⟨x.out,0,x.out,⟨(Int.toNat (bB ((x.stack.n:Int) - 1))),x.stack.get⟩,x.s⟩) .fail)) .fail)) .fail)) .fail) .fail)
theorem GN (x:cg):Js (oL x) (oM x)=ba.enc oL oM (bF x):=by
 unfold bF
 try simp only [ba.dt,Fs,Hw,Hy,Hz,Hx,SS]
 kernel_rfl
def Az:Lp:=⟨35,3,Ay,fun vs rs=>eC oL oM (goN bF (zx vs rs)) [az.aa.exit 999983,az.aa.ret],false⟩
theorem Jt:Az.OkG PG:=aah funcs mixed (av.cons vj (av.cons tt av.nil)) (rq oK bO.nil) (L:=9) (n:=9) (step:=bF) (ev:=oL) (er:=oM) (pa:=zx) rfl (fun wv wr=>⟨by kernel_rfl,by kernel_rfl⟩) GN
def RD (g:ba cg):Option (Sl Path×Int):=
 cond (g.by (az.aa.exit 999983)) (some (g.st.t2,g.st.t3)) (cond (g.by az.aa.ret) (some (g.st.t2,g.st.t3)) none)
def pM:ba cg->Option (Sl Path×Int)
 | .next x=>RD (goN bF x)
 | .out _ x=>some (x.t2,x.t3)
 | .fail=>none
theorem ahF (c:Bool) (a b:ba cg):pM (cond c a b)=cond c (pM a) (pM b):=by cases c <;> rfl
theorem YB (x:cg):pM (.next x)=cond ((goN bF x).by (az.aa.exit 999983)) (some ((goN bF x).st.t2,(goN bF x).st.t3)) (cond ((goN bF x).by az.aa.ret) (some ((goN bF x).st.t2,(goN bF x).st.t3)) none):=rfl
def mD (s:aE):cg:=⟨⟨0,fun _=>⟨⟨0,fun _=>⟨0,0⟩⟩,⟨0,fun _=>0⟩⟩⟩,0,⟨0,fun _=>⟨⟨0,fun _=>⟨0,0⟩⟩,⟨0,fun _=>0⟩⟩⟩,Sl.lit [⟨s.root,0⟩],s⟩
def lZ (s:aE):Option (Sl Path×Int):=
 (cond (lJ s).isSome
  (cond (((lJ s).getD default) != 0)
  (some ((mD s).t2,((lJ s).getD default)))
  (cond ((s.root.slot==0)&&((s.root.gen==0)&&true))
   (some ((mD s).t2,0))
   (cond (dE s).isSome
   (cond ((decide (0<=s.root.slot))&&(decide (s.root.slot < (((dE s).getD default).fst.n:Int))))
    (cond (decide ((((dE s).getD default).fst.get (Int.toNat s.root.slot)) > 16))
    (some ((mD s).t2,120))
    (cond ((decide (0<=s.root.slot))&&(decide (s.root.slot < (((dE s).getD default).snd.n:Int))))
     (cond (decide ((((dE s).getD default).snd.get (Int.toNat s.root.slot)) > 256))
     (some ((mD s).t2,120))
     (pM (bF (mD s))))
     none))
    none)
   none)))
  none)
theorem RE (s:aE):x8 PG (mA PG [(91,qX),(25,ug)] [kR,Az] (fun q=>Nat.beq q 166||Nat.beq q 3000166||Nat.beq q 4000166)) 9 9 35 [wU s] = (lZ s).map (fun (r:Sl Path×Int)=>KV.ng [dS 38 vi r.1,(kI .i64) r.2]):=by
 unfold lZ bF mD;simp only [ahF,YB,cJ,Fs,Hw,Hy,Hz,Tu,Hx,SS]
 kernel_rfl
def Cv:List KV->KR KV:=cI PG 35 (cR (fun (r:Sl Path×Int)=>KV.ng [dS 38 vi r.1,(kI .i64) r.2]) fun vs=>lZ (mR (v9 vs 0)))
theorem Dv:cA PG 35 Cv:=gX (av.cons vj (av.cons tt av.nil)) (rq oK (bO.amG Jt bO.nil)) fun w=>RE (mR (g0 34 (w 0)))
end
end Go.Proofs.YtckbdndhmcoihaaGreat.b
end
section
namespace Go.az
noncomputable section
open Go
structure Ju (P:Program) (f:FuncId) (t e:TypeId) (i0:TypeInfo) (z:Value) (sz:Nat):Prop where
 under:P.underlying t=some (.slice e)
 info:P.info? e=some i0
 zero:i0.zero=some z
 zc:z.cells.size=sz
 size:i0.size=sz
 pos:2<=sz
 fn : ∃ fn, P.funcs[f]? = some fn ∧ fn.body.isSome = true ∧ (fn.name == "runtime.NumGoroutine") = false
 nothing:∀ (w:World) (bs vb:Option Addr) (n c i vc:Nat),i<=n->Calls P f #[.slice bs n c,.int .i64 i,.slice vb 0 vc] w fun e w'=>e = .returned (.slice bs n c)/\w' = w
 fin:∀ (w:World) (bs vb:Option Addr) (n c m vc:Nat),0 < m->∀ (v' : Value) (w' : World),(∀ ty,(Builtin.append_ #[t,t] ty #[.slice bs n c,.slice vb m vc]).run P w = .ok v' w')->
  Calls P f #[.slice bs n c,.int .i64 n,.slice vb m vc] w fun e w2=>e = .returned v'/\w2=w'
 shift:∀ (b off n c i vb sG m vc:Nat) (cs vs:List Value) (w:World),i < n->0 < m->n+m<=c->n+m<=17592186044416->vb≠b->cs.length=n * sz->vs.length=m * sz->
  (∀ (j:Nat) (v:Value),cs[j]? = some v->w.cell? ⟨b,off+j,none⟩=some v)->(∀ j,j < (n+m) * sz->(w.cell? ⟨b,off+j,none⟩).isSome=true)->(∀ j,j < (n+m) * sz->w.frozen? ⟨b,off+j,none⟩=false)->
  (∀ (j:Nat) (v:Value),vs[j]? = some v->w.cell? ⟨vb,sG+j,none⟩=some v)->(∀ v∈cs,v.oneCell' = true)->(∀ v∈vs,v.oneCell' = true)->
  ∀ (tA tB:TypeId) (kA kB:Nat),w.shape? vb=some (tA,kA)->w.shape? b=some (tB,kB)->kB≠0->w.frozen? ⟨vb,sG,none⟩=false->w.frozen? ⟨vb,kA,none⟩=false->
  Calls P f #[.slice (some ⟨b,off,none⟩) n c,.int .i64 i,.slice (some ⟨vb,sG,none⟩) m vc] w fun e w'=>
   e = .returned (.slice (some ⟨b,off,none⟩) (n+m) c)/\w' = (w.drew.setCells b (off+(i+m) * sz) (cs.drop (i * sz))).setCells b (off+i * sz) vs
 grow:∀ (b off n c i vb sG m vc:Nat) (cs vs:List Value) (w:World),i < n->0 < m->n<=c->c < n+m->n+m<=17592186044416->(n+m) * i0.bytes<=140737488355328->cs.length=n * sz->vs.length=m * sz->
  (∀ (j:Nat) (v:Value),cs[j]? = some v->w.cell? ⟨b,off+j,none⟩=some v)->(∀ (j:Nat) (v:Value),vs[j]? = some v->w.cell? ⟨vb,sG+j,none⟩=some v)->(∀ v∈cs,v.oneCell' = true)->(∀ v∈vs,v.oneCell' = true)->
  b < w.heap.size->vb < w.heap.size->
  Calls P f #[.slice (some ⟨b,off,none⟩) n c,.int .i64 i,.slice (some ⟨vb,sG,none⟩) m vc] w fun e' w'=>
   e' = .returned (.slice (some ⟨w.heap.size,0,none⟩) (n+m) (grownCap w (n+m) c e))/\
   w' = (((w.alloc (.cells ((cs.take (i * sz)).toArray++Builtin.zeroCells z.cells (n+m - i)++Builtin.zeroCells z.cells (grownCap w (n+m) c e - (n+m))) e)).drew.setCells w.heap.size (i * sz) vs).drew).setCells w.heap.size ((i+m) * sz) (cs.drop (i * sz))
theorem Ft (b:Nat):∀ (xs ys:List Value) (o:Nat) (w:World),w.setCells b o (xs++ys)=(w.setCells b o xs).setCells b (o+xs.length) ys
 | [],ys,o,w=>by simp [World.setCells]
 | x::xs,ys,o,w=>by
  simp only [List.cons_append,World.setCells];rw [Ft b xs ys (o+1)];simp only [lG];rw [show o+1+xs.length=o+(xs.length+1) by omega]
theorem Xy (w:World) (b i j:Nat) (u v:Value) (h:i≠j):(w.setCell ⟨b,i,none⟩ u).setCell ⟨b,j,none⟩ v=(w.setCell ⟨b,j,none⟩ v).setCell ⟨b,i,none⟩ u:=by
 simp only [World.setCell,Option.isSome_none,CN,if_false];congr 1;apply Array.ext_getElem?;intro k;simp only [Array.getElem?_modify];by_cases hk:b=k
 ·subst hk
  simp only [if_true];cases w.heap[b]? with
  | none=>rfl
  | some o=>
   cases o <;> simp only [Option.map_some];congr 2;apply Array.ext_getElem?;intro m;simp only [Array.getElem?_setIfInBounds,Array.size_setIfInBounds];by_cases h1:j=m <;> by_cases h2:i=m <;> simp_all
 ·simp [hk]
theorem AA (b i:Nat) (u:Value):∀ (ys:List Value) (o:Nat) (w:World),i < o\/o+ys.length<=i->(w.setCell ⟨b,i,none⟩ u).setCells b o ys=(w.setCells b o ys).setCell ⟨b,i,none⟩ u
 | [],o,w,_=>rfl
 | y::ys,o,w,h=>by
  simp only [World.setCells];rw [Xy w b i o u y (by simp at h; omega),AA b i u ys (o+1) _ (by simp at h; omega)]
theorem Jv (b:Nat):∀ (xs ys:List Value) (o1 o2:Nat) (w:World),o1+xs.length<=o2->(w.setCells b o2 ys).setCells b o1 xs=(w.setCells b o1 xs).setCells b o2 ys
 | [],ys,o1,o2,w,_=>rfl
 | x::xs,ys,o1,o2,w,h=>by
  simp only [World.setCells];rw [<- AA b o1 x ys o2 w (by simp at h; omega)];exact Jv b xs ys (o1+1) o2 _ (by simp at h; omega)
def tu (c:Array Value):Nat->List Value->Array Value
 | _,[]=>c
 | o,v::vs=>tu (c.setIfInBounds o v) (o+1) vs
theorem Ba:∀ (vs:List Value) (o:Nat) (c:Array Value),(tu c o vs).size=c.size
 | [],_,_=>rfl
 | v::vs,o,c=>by rw [tu,Ba vs]; simp
theorem Jw:∀ (vs:List Value) (o:Nat) (c:Array Value) (j:Nat),o+vs.length<=c.size->(tu c o vs)[j]? = if o<=j/\j < o+vs.length then vs[j - o]? else c[j]?
 | [],o,c,j,_=>by simp only [tu,Fz,p7]; rw [ae (by omega)]
 | v::vs,o,c,j,h=>by
  rw [tu,Jw vs (o+1) _ j (by simp at h ⊢; omega)];by_cases h1:o+1<=j/\j < o+1+vs.length
  ·rw [ax h1,ax (by simp; omega),show j - o=(j - (o+1))+1 by omega]
   simp
  ·rw [ae h1,Array.getElem?_setIfInBounds]
   by_cases h2:o=j
   ·subst h2
    have:o < c.size:=by simp at h; omega
    simp [this]
   ·rw [ae h2,ae (by simp; omega)]
theorem Ww (w:World) (c:Array Value) (T:TypeId) (o:Nat) (v:Value):(w.alloc (.cells c T)).setCell ⟨w.heap.size,o,none⟩ v=w.alloc (.cells (c.setIfInBounds o v) T):=by
 simp only [World.setCell,Option.isSome_none,CN,if_false,World.alloc];congr 1;apply Array.ext_getElem?;intro k;rw [Array.getElem?_modify];by_cases hk:w.heap.size=k
 ·subst hk; simp
 ·simp only [hk,if_false,Array.getElem?_push]
  rw [ae (fun h=>hk h.symm)];simp [Ne.symm hk]
theorem Ae (w:World) (T:TypeId):∀ (vs:List Value) (o:Nat) (c:Array Value),(w.alloc (.cells c T)).setCells w.heap.size o vs=w.alloc (.cells (tu c o vs) T)
 | [],_,_=>rfl
 | v::vs,o,c=>by rw [World.setCells,Ww,Ae w T vs,tu]
theorem alloc_drew (w:World) (o:Obj):(w.alloc o).drew=w.drew.alloc o:=rfl
theorem GP {ρ:Ren} {A:St} {base:Nat} {w:World} {a:Addr} {n:Nat} {cs:List Value} {l:Loc} (hs:Rel ρ A.get A.members base w) (hl:A.nP a n=some cs) (iY:ρ a.block=some l) :
  a.spot=none/\∃ bX,cz ρ cs bX/\cs.length=n/\(∀ v∈cs,scalar v=true)/\∀ (j:Nat) (v' : Value),bX[j]? = some v'->w.cell? ⟨l.cb,l.cf+a.off+j,none⟩=some v':=by
 simp only [St.nP] at hl;cases hp:bI a with
 | false=>simp [hp] at hl
 | true=>
  rw [hp,ah] at hl;obtain ⟨mI,h1,h2⟩:=aO.1 hl;simp only [qZ] at h1;split at h1
  ·rename_i c e o aZ hg
   simp at h1; subst h1;rw [nV] at h2;obtain ⟨rfl,hlen⟩:=Eu h2;obtain ⟨l',iJ,ok⟩:=hs.row _ _ _ _ _ hg;rw [iY] at iJ; simp at iJ; subst iJ;have fv:∀ (j:Nat) (v:Value),((c.drop a.off).take n)[j]? = some v->j < n/\c[a.off+j]? = some v:=by
    intro j v e;rw [kS] at e;split at e
    ·rename_i hj; rw [lF] at e; exact ⟨hj,e⟩
    ·simp at e
   obtain ⟨bX,hr,hc⟩:=FU (ρ:=ρ) (fun j=>w.cell? ⟨l.cb,l.cf+a.off+j,none⟩) ((c.drop a.off).take n) 0 (fun j v e=>by
    obtain ⟨v',h3,h4,_⟩:=ok.cells _ _ (fv j v e).2;exact ⟨v',by rw [bG,nG]; exact h3,h4⟩)
   refine ⟨QB hp,bX,hr,by rw [ju,Nat.min_eq_left hlen],fun v hv=>?_,fun j v' e=>by simpa using hc j v' e⟩;obtain ⟨j,hj⟩:=List.getElem?_of_mem hv;exact (ok.cells _ _ (fv j v hj).2).choose_spec.2.2
  ·simp at h1
theorem cz.Wx {ρ:Ren} {cs bX:List Value} (h:cz ρ cs bX) (h1:∀ v∈cs,scalar v=true):∀ v∈bX,v.oneCell' = true:=by
 intro v hv;obtain ⟨i,hi⟩:=List.getElem?_of_mem hv;have aJ:i < cs.length:=by rw [<- h.length]; exact (cw.1 hi).1
 obtain ⟨u,hu⟩:∃ u,cs[i]? = some u:=⟨cs[i],cl aJ⟩
 obtain ⟨v2,h7,h8⟩:=h.get hu;rw [hi] at h7; simp at h7; subst h7;exact h8.scalar (h1 u (eS hu))
theorem Jx {w:World} {b o:Nat} (h:(w.cell? ⟨b,o,none⟩).isSome=true):∃ T k,w.shape? b=some (T,k)/\o < k:=by
 simp only [World.cell?,World.shape?] at h ⊢;cases hb:w.heap[b]? with
 | none=>rw [hb] at h; simp at h
 | some ob=>
  rw [hb] at h;cases ob with
  | cells c T fr=>
   simp only at h ⊢;refine ⟨T,c.size,rfl,?_⟩;rcases Nat.lt_or_ge o c.size with h1 | h1
   ·exact h1
   ·simp [Array.getElem?_eq_none h1] at h
  | _=>simp at h
theorem Xz {P:Program} {f:FuncId} {t e:TypeId} {i0:TypeInfo} {z:Value} {sz:Nat} (H:Ju P f t e i0 z sz) {args bN:List Value} {A B:St} {v:Value} {ρ:Ren} {base:Nat} {w:World}
  (h:T5 sz i0.bytes A args=some (v,B)) (ha:cz ρ args bN) (hs:iu ρ A base w):Calls P f bN.toArray w fun ex w'=>∃ ak v',ex = .returned v'/\VR ak v v'/\cp base ρ A w ak B w':=by
 have cT:=H.pos;unfold T5 at h;split at h
 ·rename_i bs n c iz vb k vc
  obtain ⟨s',r1,rfl,Mu,ha1⟩:=ha.cons_inv;obtain ⟨i',r2,rfl,hiv,Oi⟩:=ha1.cons_inv;obtain ⟨x',r3,rfl,QC,ha3⟩:=Oi.cons_inv;have:=ha3.bA;subst this;clear ha ha1 Oi ha3;have:=hiv.bQ;subst this;obtain ⟨i,hi,hh⟩:=aO.1 h;clear h;obtain ⟨rfl,aJ⟩:=sM hi;have h:=hh;clear hh;obtain ⟨bs',c',rfl⟩:=FX Mu;obtain ⟨vb',vc',rfl⟩:=FX QC;cases oP:Nat.beq k 0 with
  | true=>
   rw [oP,ah] at h;have:=aD oP;subst this;simp at h;obtain ⟨rfl,rfl⟩:=h;refine (H.nothing w bs' vb' n c' i vc' (by omega)).mono ?_;rintro ex w' ⟨rfl,rfl⟩;exact ⟨ρ,_,rfl,Mu,.refl hs⟩
  | false=>
   rw [oP,ay] at h;have hk:0 < k:=Nat.pos_of_ne_zero (Nat.ne_of_beq_eq_false oP);cases mr:Nat.beq i n with
   | true=>
    rw [mr,ah] at h;have:=aD mr;subst this;have abR:Br P t=true:=by unfold Br; rw [H.under]
    rw [<- H.size] at h;obtain ⟨ak,v',w',h1,h2,h3⟩:=Ie (ty:=0) H.under H.info H.zero abR (by rw [H.size]; omega) (by rw [H.zc,H.size]) hs Mu QC h;refine (H.fin w bs' vb' i c' k vc' hk v' w' (fun ty=>h1)).mono ?_;rintro ex w2 ⟨rfl,rfl⟩;exact ⟨ak,v',rfl,h2,h3⟩
   | false=>
    rw [mr,ay] at h;have al7:i < n:=by have:=Nat.ne_of_beq_eq_false mr; omega
    split at h
    ·rename_i a b
     cases hc:(bI a&&sH A a.block sz&&Qq A a b&&Nat.ble ((n+k) * i0.bytes) 140737488355328&&Nat.ble (n+k) 17592186044416) with
     | false=>rw [hc] at h; simp at h
     | true=>
      rw [hc,ah] at h;simp only [aj] at hc;obtain ⟨⟨⟨⟨Tb,hre⟩,haw⟩,uN⟩,qf⟩:=hc;have uN:=cM uN;have qf:=cM qf;have FY:(n+k) * i0.bytes<=140737488355328:=uN;obtain ⟨new,mh,h⟩:=aO.1 h;obtain ⟨eB,hold,h⟩:=aO.1 h;obtain ⟨tail,amT,h⟩:=aO.1 h;obtain ⟨_,hnc,lc,a',c2,hl,ri,Bv,jG,hse⟩:=Mu.iD;simp only [Value.slice.injEq,true_and] at hse;obtain ⟨rfl,rfl⟩:=hse;obtain ⟨_,hkc,lv,b',vc2,U9,hvc,KQ,_,Um⟩:=QC.iD;simp only [Value.slice.injEq,true_and] at Um;obtain ⟨rfl,rfl⟩:=Um;have ha:=Bv (by omega);subst ha;have hb:=KQ (by omega);subst hb;have Tb:=QB Tb;obtain ⟨_,bK,q1,q2,q3,q4⟩:=GP hs.rel mh U9;obtain ⟨_,jH,p1,p2,p3,p4⟩:=GP hs.rel hold hl;obtain ⟨_,rA,t1,t2,t3,t4⟩:=GP hs.rel amT hl;simp only at t4;have Ms:jH.length=i * sz:=by rw [p1.length,p2]
      have Th:bK.length=k * sz:=by rw [q1.length,q2]
      have htl:rA.length=(n - i) * sz:=by rw [t1.length,t2]
      have hni:i * sz+(n - i) * sz=n * sz:=by rw [<- Nat.add_mul]; congr 1; omega
      have BA:(jH++rA).length=n * sz:=by rw [gd,Ms,htl,hni]
      have AD:∀ (j:Nat) (u:Value),(jH++rA)[j]? = some u->w.cell? ⟨lc.cb,lc.cf+a.off+j,none⟩=some u:=by
       intro j u hj;rw [List.getElem?_append] at hj;split at hj
       ·exact p4 j u hj
       ·rename_i Mt
        have:=t4 _ u hj;rw [<- this];congr 2;rw [Ms] at Mt ⊢;omega
      have aj3:(jH++rA).drop (i * sz)=rA:=by rw [<- Ms]; simp
      have Va:(jH++rA).take (i * sz)=jH:=by rw [<- Ms]; simp
      have h1c:∀ u∈jH++rA,u.oneCell' = true:=fun u hu=>(eX.1 hu).elim (p1.Wx p3 u) (t1.Wx t3 u);have h1v:=q1.Wx q3;obtain ⟨cs,own,aZ,dC⟩:=Mq hre;obtain ⟨l2,iK,ok⟩:=hs.rel.row _ _ _ _ _ dC;rw [hl] at iK; simp at iK; subst iK;have Qy:lc.aQ=sz:=ok.aQ;rw [Qy] at jG;obtain ⟨iv,e2,aj4,he2,aiK⟩:∃ iv e2,A.get b.block=some (.row iv e2 true none)/\e2≠1/\a.block≠b.block:=by
       unfold Qq at haw;simp only [aj,iy] at haw;obtain ⟨⟨h1,_⟩,h2⟩:=haw;split at h2
       ·rename_i iv e2 hg
        exact ⟨iv,e2,hg,fun e=>by subst e; simp at h2,Nat.ne_of_beq_eq_false h1⟩
       ·simp at h2
      obtain ⟨l3,Xe,okv⟩:=hs.rel.row _ _ _ _ _ aj4;rw [U9] at Xe; simp at Xe; subst Xe;have aj5:∀ j,w.frozen? ⟨lv.cb,j,none⟩=false:=okv.mark rfl (by rw [okv.aQ]; exact he2);have ak8:(w.cell? ⟨lv.cb,lv.cf+b.off,none⟩).isSome=true:=by
       have aJ:0 < bK.length:=by rw [Th]; exact Nat.mul_pos hk (by omega)
       have:=q4 0 _ (cl aJ);rw [p7] at this;rw [this]; rfl
      obtain ⟨tA,kA,hsa,_⟩:=Jx ak8;have ak9:(w.cell? ⟨lc.cb,lc.cf+a.off,none⟩).isSome=true:=by
       have aJ:0 < (jH++rA).length:=by rw [BA]; exact Nat.mul_pos (by omega) (by omega)
       have:=AD 0 _ (cl aJ);rw [p7] at this;rw [this]; rfl
      obtain ⟨tB,kB,Y7,hkB⟩:=Jx ak9;have inPlace:own=true->n+k<=c'->Calls P f #[.slice (some ⟨lc.cb,lc.cf+a.off,none⟩) n c',.int .i64 i,.slice (some ⟨lv.cb,lv.cf+b.off,none⟩) k vc'] w fun ex w'=>
        ex = .returned (.slice (some ⟨lc.cb,lc.cf+a.off,none⟩) (n+k) c')/\w' = w.drew.setCells lc.cb (lc.cf+a.off+i * sz) (bK++rA):=by
       intro SU lh;have aj0:∀ j,j < (n+k) * sz->lc.cf+a.off+j < lc.rW:=fun j hj=>by
        have:(n+k) * sz<=c' * sz:=Nat.mul_le_mul_right _ lh;omega
       have aof:lv.cb≠lc.cb:=by
        intro e;subst SU;obtain ⟨aF,f1,f2,e1,_⟩:=hs.rel.apart b.block a.block _ _ lv lc aiK.symm aj4 dC rfl rfl U9 hl e;simp [aY.hO] at e1
       refine (H.shift lc.cb (lc.cf+a.off) n c' i lv.cb (lv.cf+b.off) k vc' (jH++rA) bK w al7 hk lh qf aof BA Th AD (fun j hj=>(ok.there SU _ (aj0 j hj)).1) (fun j hj=>(ok.there SU _ (aj0 j hj)).2)
        q4 h1c h1v tA tB kA kB hsa Y7 (by omega) (aj5 _) (aj5 _)).mono ?_
       rintro ex w' ⟨rfl,rfl⟩;refine ⟨rfl,?_⟩;rw [aj3,Ft];have e1:lc.cf+a.off+i * sz+bK.length=lc.cf+a.off+(i+k) * sz:=by rw [Th,Nat.add_mul]; omega
       rw [e1];exact Jv _ _ _ _ _ _ (by rw [Th,Nat.add_mul]; omega)
      have XU:∀ (aF fo:Nat) (K:St),K=A\/(∃ x lo hi L,K=A.kill x lo hi L)->c' < n+k->
        Calls P f #[.slice (some ⟨lc.cb,lc.cf+a.off,none⟩) n c',.int .i64 i,.slice (some ⟨lv.cb,lv.cf+b.off,none⟩) k vc'] w fun ex w'=>
         ∃ ak v',ex = .returned v'/\VR ak (.slice (some ⟨A.next,0,none⟩) (n+k) (n+k)) v'/\cp base ρ A w ak (K.grow aF fo (eB++(new++tail)) sz) w':=by
       intro aF fo K hK EL;have Mt:=grownCap_ge w (n+k) c' e;refine (H.grow lc.cb (lc.cf+a.off) n c' i lv.cb (lv.cf+b.off) k vc' (jH++rA) bK w al7 hk (by omega) EL qf FY BA Th AD q4 h1c h1v ok.gC okv.gC).mono ?_;rintro ex w' ⟨rfl,rfl⟩;rw [aj3,Va];generalize YC:(jH.toArray++Builtin.zeroCells z.cells (n+k - i)++Builtin.zeroCells z.cells (grownCap w (n+k) c' e - (n+k)))=Cw;have zG:Cw.size=grownCap w (n+k) c' e * sz:=by
        rw [<- YC];rw [Array.size_append,Array.size_append,Ic,Ic,H.zc,List.size_toArray,Ms,<- Nat.add_mul,<- Nat.add_mul];congr 1; omega
       have hnk:(n+k) * sz<=Cw.size:=by rw [zG]; exact Nat.mul_le_mul_right _ Mt
       have aog:(n+k) * sz=i * sz+k * sz+(n - i) * sz:=by rw [<- Nat.add_mul,<- Nat.add_mul]; congr 1; omega
       have e1:(w.alloc (.cells Cw e)).drew.setCells w.heap.size (i * sz) bK=(w.drew.alloc (.cells (tu Cw (i * sz) bK) e)):=by
        rw [alloc_drew];exact Ae w.drew e bK (i * sz) Cw
       have e2:(((w.alloc (.cells Cw e)).drew.setCells w.heap.size (i * sz) bK).drew).setCells w.heap.size ((i+k) * sz) rA=w.drew.drew.alloc (.cells (tu (tu Cw (i * sz) bK) ((i+k) * sz) rA) e):=by
        rw [e1,alloc_drew];exact Ae w.drew.drew e rA ((i+k) * sz) _
       rw [e2];generalize hF:tu (tu Cw (i * sz) bK) ((i+k) * sz) rA=F;have agv:F.size=grownCap w (n+k) c' e * sz:=by rw [<- hF,Ba,Ba,zG]
       have amU:∀ (j:Nat) (u:Value),(jH++(bK++rA))[j]? = some u->F[j]? = some u:=by
        intro j u hj;rw [<- hF,Jw _ _ _ _ (by rw [Ba,htl,Nat.add_mul]; omega),Jw _ _ _ _ (by rw [Th]; omega),htl,Th];rw [List.getElem?_append] at hj;split at hj
        ·rename_i hj1
         rw [Ms] at hj1;rw [ae (by rw [Nat.add_mul]; omega),ae (by omega),<- YC];rw [Array.getElem?_append_left (by simp [Ms]; omega),Array.getElem?_append_left (by simpa [Ms] using hj1)];simpa using hj
        ·rename_i hj1
         rw [Ms] at hj1 hj;rw [List.getElem?_append] at hj;split at hj
         ·rename_i hj2
          rw [Th] at hj2;rw [ae (by rw [Nat.add_mul]; omega),ax (by omega)];exact hj
         ·rename_i hj2
          rw [Th] at hj2 hj;have hj3:j - i * sz - k * sz < rA.length:=(cw.1 hj).1;rw [htl] at hj3;rw [ax (by rw [Nat.add_mul]; omega)];rw [<- hj];congr 1;rw [Nat.add_mul]; omega
       have hkg:cp base ρ A w ρ K w.drew.drew:=by
        have hd:∀ (K:St) (w1:World),cp base ρ A w ρ K w1->cp base ρ A w ρ K w1.drew.drew:=fun K w1 h=>(h.trans (cp.drew h.dI)).trans (cp.drew (h.trans (cp.drew h.dI)).dI);rcases hK with rfl | ⟨x,lo,hi,L,rfl⟩
        ·exact hd _ _ (.refl hs)
        ·exact hd _ _ (Mr hs x lo hi L)
       have hKn:K.next=A.next:=by
        rcases hK with rfl | ⟨x,lo,hi,L,rfl⟩
        ·rfl
        ·simp
       have y7:=Ib (w:=w.drew.drew) (n:=sz) (aF:=aF) (f:=fo) (c:=F) e hkg.dI (p1.append (q1.append t1))
        (fun u hu=>(eX.1 hu).elim (p3 u) fun h=>(eX.1 h).elim (q3 u) (t3 u)) amU (by
        rw [agv,gd,gd,p2,q2,t2,<- nG,<- aog];exact Nat.mul_le_mul_right _ Mt)
       refine ⟨_,_,rfl,?_,hkg.trans y7⟩;simp only [VR];refine ⟨trivial,ao _,_,⟨w.heap.size,0,none⟩,grownCap w (n+k) c' e,by rw [hKn]; exact Ren.dk _ _ _,Mt,fun _=>rfl,?_,rfl⟩;show 0+0+grownCap w (n+k) c' e * sz<=F.size;rw [agv];omega
      show Calls P f #[.slice (some ⟨lc.cb,lc.cf+a.off,none⟩) n c',.int .i64 i,.slice (some ⟨lv.cb,lv.cf+b.off,none⟩) k vc'] w _;have gU:cz ρ (new++tail) (bK++rA):=q1.append t1;have aj6:∀ u∈new++tail,scalar u=true:=fun u hu=>(eX.1 hu).elim (q3 u) (t3 u);cases lh:Nat.ble (n+k) c with
      | true=>
       rw [lh,ah] at h;have lh:=cM lh;obtain ⟨B',eU,h⟩:=aU.1 h;simp at h;obtain ⟨rfl,rfl⟩:=h;simp only [St.rE,dC] at eU;cases hp:(bI ⟨a.block,a.off+i * sz,none⟩&&(new++tail).all scalar) with
       | false=>rw [hp] at eU; simp at eU
       | true=>
        rw [hp,ah] at eU;cases own with
        | false=>simp at eU
        | true=>
         obtain ⟨cs3,hw3,rfl⟩:=aU.1 eU;have Td:=cp.drew (w:=w) hs;have y7:=Og (w:=w.drew) Td.dI dC hw3 gU aj6 hl;refine (inPlace rfl (by omega)).mono ?_;rintro ex w' ⟨rfl,rfl⟩;refine ⟨ρ,_,rfl,?_,?_⟩
         ·simp only [VR]
          exact ⟨Tb,lh,lc,_,c',hl,ri,fun _=>rfl,by rw [Qy]; exact jG,rfl⟩
         ·rw [nG lc.cf]
          exact Td.trans y7
      | false=>
       rw [lh,ay] at h;have lh:c < n+k:=by
        have : ¬ (n+k<=c):=fun h=>by rw [Nat.ble_eq_true_of_le h] at lh; simp at lh
        omega
       cases hex:nf A sz c (some a) with
       | false=>rw [hex] at h; simp at h
       | true=>
        rw [hex,ah] at h;unfold ae4 at h;simp only [dC] at h;cases SU:own with
        | false=>rw [SU] at h; simp at h
        | true=>
         rw [SU] at h;have hbq:Nat.beq sz sz=true:=by simp
         rw [hbq] at h;simp only [cY,ah] at h;cases aZ with
         | none=>
          simp at h;obtain ⟨rfl,rfl⟩:=h;have Um:a.off+c * sz=cs.length:=by
           unfold nf at hex;simp only [dC] at hex;exact aD hex
          have amj:=ok.ends SU rfl;have Ul:c' < n+k:=by
           have h9:c' * sz<=c * sz:=by omega
           have:=Nat.le_of_mul_le_mul_right h9 (by omega);omega
          exact XU A.next 0 A (.inl rfl) Ul
         | some p=>
          obtain ⟨aF,fo⟩:=p;simp at h;obtain ⟨rfl,rfl⟩:=h;by_cases Ul:c' < n+k
          ·have:=XU aF (fo+a.off) (A.kill A.next (fo+(a.off+i * sz)) (fo+(a.off+i * sz)+(new.length+tail.length)) (A.members aF)) (.inr ⟨_,_,_,_,rfl⟩) Ul
           exact this
          ·have Td:=cp.drew (w:=w) hs
           subst SU;have y7:=Oo (w:=w.drew) (fK:=a.off) (s:=i * sz) Td.dI dC hl p1 p3 p2 (fun j v' hj=>p4 j v' hj) gU aj6 (by
            rw [gd,q2,t2];have h9:(n+k) * sz<=c' * sz:=Nat.mul_le_mul_right _ (by omega);have qg:(n+k) * sz=i * sz+k * sz+(n - i) * sz:=by rw [<- Nat.add_mul,<- Nat.add_mul]; congr 1; omega
            omega)
           refine (inPlace rfl (by omega)).mono ?_;rintro ex w' ⟨rfl,rfl⟩;refine ⟨ρ.set A.next ⟨lc.cb,lc.cf+a.off,lc.rW,sz⟩,_,rfl,?_,?_⟩
           rotate_left
           ·have:=Td.trans y7
            rw [gd] at this;exact this
           ·simp only [VR]
            refine ⟨trivial,ao _,_,_,c',Ren.dk _ _ _,by omega,fun _=>rfl,?_,rfl⟩;show lc.cf+a.off+0+c' * sz<=lc.rW;omega
    ·simp at h
 ·simp at h
theorem aau {P:Program} {f:FuncId} {t e:TypeId} {i0:TypeInfo} {z:Value} {sz:Nat} (H:Ju P f t e i0 z sz):J8 P (CR [(f,sz,i0.bytes)]):=by
 intro g fn hS args A v B hg;simp only [CR] at hS;cases hb:Nat.beq g f with
 | false=>rw [hb] at hS; simp at hS
 | true=>
  rw [hb] at hS;have:=aD hb;subst this;simp at hS;subst hS;exact ⟨H.fn,fun ρ bN base w hv hs=>Xz H hg hv hs⟩
end
end Go.az
end
section
namespace Go.Proofs.YtckbdndhmcoihaaGreat.insert
open Go
theorem GQ {P:Program} (w:World) (dT sT ty elem:TypeId) (size b o Ei alu:Nat) (a:Addr) (cq jS:Nat) (cs:List Value)
  (hu:P.underlying dT=some (.slice elem)) (hs:(P.info? elem).map (·.size)=some size) (hn:cs.length=Nat.min cq Ei * size)
  (abR:∀ (j:Nat) (v:Value),cs[j]? = some v->w.cell? (a.add j)=some v) (hc:∀ j,j < cs.length->(w.cell? ⟨b,o+j,none⟩).isSome=true) (hf:∀ j,j < cs.length->w.frozen? ⟨b,o+j,none⟩=false) (h1:∀ v∈cs,v.oneCell' = true) :
  (Builtin.copy_ #[dT,sT] ty #[.slice (some ⟨b,o,none⟩) Ei alu,.slice (some a) cq jS]).run P w = .ok (goInt (Nat.min cq Ei)) (w.setCells b o cs):=by
 have hl:=run_loadCells_list (P:=P) w a cs abR;have eU:=run_storeCells_cells (P:=P) b o cs 0 w (by simpa using hc) (by simpa using hf) h1;cases hq:P.info? elem with
 | none=>simp [hq] at hs
 | some i=>
  have hi:i.size=size:=by simpa [hq] using hs
  rw [hn] at hl;simp [Builtin.copy_,run_underlying hu,Builtin.lenOf,Builtin.firstCells,sizeOf,typeInfo,hq,hi,hl,eU]
theorem SV {P:Program} {ops:Array Oper} {o:Oper} {a:Act} {w:World} {K:Act->World->Prop} {Q:Exit->Act->World->Prop} {E:Prop}
  (hg:o.guard=none) (d x:Operand) (dT sT:TypeId) (YS:o.op=Op.call { callee:=Callee.builtin Builtin.copy,args:=#[d,x],argTypes:=#[dT,sT] })
  (v u:Value) (hd:a.eval d=v) (hx:a.eval x=u) {v' : Value} {w' : World} (hr:(Builtin.copy_ #[dT,sT] o.type #[v,u]).run P w = .ok v' w') (hK:K (a.put o.dst v') w') :
  if Region.wanted o (yielded ops a.tmps)=true then Oper.wp P o a w K Q else E:=by
 have hw:Region.wanted o (yielded ops a.tmps)=true:=by simp [Region.wanted,hg]
 rw [ax hw];unfold Oper.wp;simp [execOp,YS,resolve,invoke,builtin,hd,hx,hr,Result.andThen];exact hK
theorem isSome_setCells (b:Nat) (vs:List Value) (o:Nat) (w:World) (k:Nat) (hk:(w.cell? ⟨b,k,none⟩).isSome=true):((w.setCells b o vs).cell? ⟨b,k,none⟩).isSome=true:=by
 rw [az.sK]; exact hk
theorem ahG (w:World) (bs vb:Option Addr) (n c i vc:Nat) (hi:i<=n) :
  Calls Tryz.prog 215 #[.slice bs n c,.int .i64 i,.slice vb 0 vc] w fun e w'=>e = .returned (.slice bs n c)/\w' = w:=by
 have uT:=run_underlying Tryz.underlying35
 go_enter Tryz.func215,Tryz.ntmps215
 go_wp2
 all_goals (go_ret; exact ⟨rfl,rfl⟩)
theorem aj7 (w:World) (bs vb:Option Addr) (n c m vc:Nat) (hm:0 < m) (v' : Value) (w' : World) (hr:∀ ty,(Builtin.append_ #[35,35] ty #[.slice bs n c,.slice vb m vc]).run Tryz.prog w = .ok v' w') :
  Calls Tryz.prog 215 #[.slice bs n c,.int .i64 n,.slice vb m vc] w fun e w2=>e = .returned v'/\w2=w':=by
 have uT:=run_underlying Tryz.underlying35;have FV : ¬ ((m:Int)=0):=by omega
 go_enter Tryz.func215,Tryz.ntmps215
 go_wp2_with (at_builtin; refine Lib.wpList_append_run _ rfl _ _ _ _ rfl _ _ rfl rfl _ _ (hr _) ?_)
 all_goals (go_ret; exact ⟨rfl,rfl⟩)
set_option maxHeartbeats 4000000 in
set_option maxRecDepth 100000 in
theorem aev (b off n c i vb sG m vc:Nat) (cs vs:List Value) (w:World) (hi:i < n) (hm:0 < m) (lh:n+m<=c) (agh:n+m<=17592186044416) (hvb:vb≠b)
  (BA:cs.length=n * 2) (CF:vs.length=m * 2)
  (AD:∀ (j:Nat) (v:Value),cs[j]? = some v->w.cell? ⟨b,off+j,none⟩=some v) (tV:∀ j,j < (n+m) * 2->(w.cell? ⟨b,off+j,none⟩).isSome=true) (O0:∀ j,j < (n+m) * 2->w.frozen? ⟨b,off+j,none⟩=false)
  (Ug:∀ (j:Nat) (v:Value),vs[j]? = some v->w.cell? ⟨vb,sG+j,none⟩=some v) (h1c:∀ v∈cs,v.oneCell' = true) (h1v:∀ v∈vs,v.oneCell' = true)
  (tA tB:TypeId) (kA kB:Nat) (hsa:w.shape? vb=some (tA,kA)) (Y7:w.shape? b=some (tB,kB)) (hkB:kB≠0) (hfa:w.frozen? ⟨vb,sG,none⟩=false) (hfe:w.frozen? ⟨vb,kA,none⟩=false) :
  Calls Tryz.prog 215 #[.slice (some ⟨b,off,none⟩) n c,.int .i64 i,.slice (some ⟨vb,sG,none⟩) m vc] w fun e w'=>
   e = .returned (.slice (some ⟨b,off,none⟩) (n+m) c)/\w' = (w.drew.setCells b (off+(i+m) * 2) (cs.drop (i * 2))).setCells b (off+i * 2) vs:=by
 have uT:=run_underlying Tryz.underlying35;have FV : ¬ ((m:Int)=0):=by omega
 have vO : ¬ ((i:Int)=(n:Int)):=by omega
 have cT:(Tryz.prog.info? 32).map (·.size)=some 2:=by kernel_rfl
 have hov:∀ lb cb,(callFunc 224 #[.slice (some ⟨vb,sG,none⟩) m vc,.slice (some ⟨b,off+(i+m) * 2,none⟩) lb cb]).run Tryz.prog w = .ok (.value (.bool false)) w:=fun lb cb=>by
  rw [run_callFunc_extern Tryz.func224 (by kernel_rfl) (by kernel_rfl) (by kernel_rfl) (e:=Extern.SlicesOverlaps.overlaps #[35,35] #[4]) (by kernel_rfl),
   Lib.run_overlaps_apart w 35 4 32 Tryz.underlying35 2 (Tryz.sizeOf32) ⟨vb,sG,none⟩ ⟨b,off+(i+m) * 2,none⟩ m vc lb cb hvb tA tB kA kB hsa Y7 hkB hfa hfe]
  rfl
 have hdl:(cs.drop (i * 2)).length=(n - i) * 2:=by rw [List.length_drop,BA]; omega
 have hw1:IntKind.i64.wrap ((i:Int)+(m:Int))=(i:Int)+(m:Int):=by rw [IntKind.wrap_i64]; omega
 have hw2:IntKind.i64.wrap ((n:Int)+(m:Int))=(n:Int)+(m:Int):=by rw [IntKind.wrap_i64]; omega
 have uN:(0:Int)<=(i:Int)+(m:Int):=by omega
 have mr:i<=n:=by omega
 have MZ:((i:Int)+(m:Int)).toNat=i+m:=by omega
 have qf : ¬ (c=i+m):=by omega
 have hb3:(i:Int)<=(n:Int)+(m:Int):=by omega
 have hb4 : ¬ (c=i):=by omega
 have al8:∀ ty dc sc,(Builtin.copy_ #[35,35] ty #[.slice (some ⟨b,off+(i+m) * 2,none⟩) (n+m - (i+m)) dc,.slice (some ⟨b,off+i * 2,none⟩) (n+m - i) sc]).run Tryz.prog w.drew = .ok (goInt ((n - i:Nat):Int)) (w.drew.setCells b (off+(i+m) * 2) (cs.drop (i * 2))):=fun ty dc sc=>by
  have Jy:Nat.min (n+m - i) (n+m - (i+m))=n - i:=by simp only [Nat.min_def]; split <;> omega
  have:=GQ (P:=Tryz.prog) w.drew 35 35 ty 32 2 b (off+(i+m) * 2) (n+m - (i+m)) dc ⟨b,off+i * 2,none⟩ (n+m - i) sc (cs.drop (i * 2)) Tryz.underlying35 cT (by rw [hdl,Jy])
   (fun j v hj=>by rw [Addr.add_lit,nG]; exact AD (i * 2+j) v (by rwa [lF] at hj))
   (fun j hj=>by rw [nG]; exact tV _ (by omega)) (fun j hj=>by rw [nG]; exact O0 _ (by omega)) (fun v hv=>h1c v (List.mem_of_mem_drop hv))
  rw [Jy] at this;exact this
 obtain ⟨W1,Rr⟩:∃ W1,W1=w.drew.setCells b (off+(i+m) * 2) (cs.drop (i * 2)):=⟨_,rfl⟩
 have aoh:∀ k,k < (n+m) * 2->(W1.cell? ⟨b,off+k,none⟩).isSome=true:=fun k hk=>by
  rw [Rr];exact isSome_setCells b _ _ _ _ (tV k hk)
 have aoi:∀ (W:World),(∀ x,W.cell? x=W1.cell? x)->(∀ x,W.frozen? x=W1.frozen? x)->∀ ty dc,(Builtin.copy_ #[35,35] ty #[.slice (some ⟨b,off+i * 2,none⟩) (n+m - i) dc,.slice (some ⟨vb,sG,none⟩) m vc]).run Tryz.prog W = .ok (goInt m) (W.setCells b (off+i * 2) vs):=fun W hWc hWf ty dc=>by
  have Jy:Nat.min m (n+m - i)=m:=by simp only [Nat.min_def]; split <;> omega
  have:=GQ (P:=Tryz.prog) W 35 35 ty 32 2 b (off+i * 2) (n+m - i) dc ⟨vb,sG,none⟩ m vc vs Tryz.underlying35 cT (by rw [CF,Jy])
   (fun j v hj=>by
    rw [Addr.add_lit,hWc,Rr,World.cell?_setCells_out b _ _ _ _ (fun h _=>absurd h hvb)];exact Ug j v hj)
   (fun j hj=>by rw [hWc,nG]; exact aoh _ (by omega)) (fun j hj=>by rw [hWf,Rr,World.frozen?_setCells,nG]; exact O0 _ (by omega)) h1v
  rw [Jy] at this;exact this
 rw [<- Rr] at al8;have mixed:Tryz.prog.follows .mixedOrders=true:=by kernel_rfl
 go_enter Tryz.func215,Tryz.ntmps215
 go_wp2_with (simp only [hov])
 go_region_law_o (refine SV rfl _ _ 35 35 rfl _ _ (by simp [Act.eval,Act.put]) (by simp [Act.eval,Act.put]) (al8 _ _ _) ?_)
 go_wp2_with (at_builtin; refine LS _ rfl _ _ 35 35 rfl _ _ rfl rfl (aoi _ (fun _=>rfl) (fun _=>rfl) _ _) ?_)
 go_ret
 first | exact ⟨rfl,rfl⟩ | exact ⟨rfl,by rw [Rr]⟩
set_option maxHeartbeats 4000000 in
set_option maxRecDepth 100000 in
theorem ahH (b off n c i vb sG m vc:Nat) (cs vs:List Value) (w:World) (i0:TypeInfo) (z:Value) (hi0:Tryz.prog.info? 32=some i0) (IU:i0.zero=some z) (hzc:z.cells.size=2) (hi:i < n) (hm:0 < m) (hnc:n<=c) (lh:c < n+m) (agh:n+m<=17592186044416) (FY:(n+m) * i0.bytes<=140737488355328)
  (BA:cs.length=n * 2) (CF:vs.length=m * 2) (Uv:i0.size=2)
  (AD:∀ (j:Nat) (v:Value),cs[j]? = some v->w.cell? ⟨b,off+j,none⟩=some v)
  (Ug:∀ (j:Nat) (v:Value),vs[j]? = some v->w.cell? ⟨vb,sG+j,none⟩=some v) (h1c:∀ v∈cs,v.oneCell' = true) (h1v:∀ v∈vs,v.oneCell' = true) (hbw:b < w.heap.size) (hvw:vb < w.heap.size) :
  Calls Tryz.prog 215 #[.slice (some ⟨b,off,none⟩) n c,.int .i64 i,.slice (some ⟨vb,sG,none⟩) m vc] w fun e w'=>
   e = .returned (.slice (some ⟨w.heap.size,0,none⟩) (n+m) (grownCap w (n+m) c 32))/\
   w' = (((w.alloc (.cells ((cs.take (i * 2)).toArray++Builtin.zeroCells z.cells (n+m - i)++Builtin.zeroCells z.cells (grownCap w (n+m) c 32 - (n+m))) 32)).drew.setCells w.heap.size (i * 2) vs).drew).setCells w.heap.size ((i+m) * 2) (cs.drop (i * 2)):=by
 have uT:=run_underlying Tryz.underlying35;have mixed:Tryz.prog.follows .mixedOrders=true:=by kernel_rfl
 have FV : ¬ ((m:Int)=0):=by omega
 have vO : ¬ ((i:Int)=(n:Int)):=by omega
 have hz3:(c:Int) < (n:Int)+(m:Int):=by omega
 have cT:(Tryz.prog.info? 32).map (·.size)=some 2:=by rw [hi0]; simp [Uv]
 have Zb:(n:Int)+(m:Int) - (i:Int)=((n+m - i:Nat):Int):=by omega
 have hik:i+(n+m - i)=n+m:=by omega
 have hold:(Builtin.firstCells i0.size i (.slice (some ⟨b,off,none⟩) i c)).run Tryz.prog w.drew = .ok (cs.take (i * 2)).toArray w.drew:=by
  rw [Uv];exact run_firstCells_some w.drew 2 i ⟨b,off,none⟩ i c (cs.take (i * 2)) (by rw [ju]; omega) (fun j v hj=>by
   rw [Addr.add_lit];rw [kS] at hj;split at hj
   ·exact AD j v hj
   ·cases hj)
 have hkb:(n+m - i) * i0.bytes<=281474976710656:=dA (Nat.mul_le_mul_right _ (by omega:n+m - i<=n+m)) (by omega);have hrz:∀ ty,(Builtin.append_ #[35,3] ty #[.slice (some ⟨b,off,none⟩) i c,.int .i64 ((n:Int)+(m:Int) - (i:Int))]).run Tryz.prog w =
   .ok (.slice (some ⟨w.heap.size,0,none⟩) (n+m) (grownCap w (n+m) c 32)) (w.drew.alloc (.cells ((cs.take (i * 2)).toArray++Builtin.zeroCells z.cells (n+m - i)++Builtin.zeroCells z.cells (grownCap w (n+m) c 32 - (n+m))) 32)):=fun ty=>by
  have h:=Lib.run_append_grow_zeros w 35 3 ty 32 i0 _ .i64 .i64 Tryz.underlying35 Tryz.underlying3 hi0 IU (some ⟨b,off,none⟩) i c (cs.take (i * 2)) hold (n+m - i) (by omega) (by omega) (by omega) (by omega) hkb (by rw [hik]; exact growslice_fits lh FY);rw [hik] at h;rw [Zb];exact h
 obtain ⟨G,hG⟩:∃ G,G=grownCap w (n+m) c 32:=⟨_,rfl⟩
 obtain ⟨Cw,YC⟩:∃ Cw:Array Value,Cw=(cs.take (i * 2)).toArray++Builtin.zeroCells z.cells (n+m - i)++Builtin.zeroCells z.cells (G - (n+m)):=⟨_,rfl⟩
 rw [<- hG] at hrz ⊢;rw [<- YC] at hrz ⊢;have hRl:(n+m) * 2<=Cw.size:=by
  rw [YC];simp [Builtin.zeroCells,hzc];omega
 obtain ⟨W1,Rr⟩:∃ W1,W1=w.drew.alloc (.cells Cw 32):=⟨_,rfl⟩
 rw [<- Rr] at hrz;have hN:∀ j,j < (n+m) * 2->(W1.cell? ⟨w.heap.size,j,none⟩).isSome=true:=fun j hj=>by
  rw [Rr];have:=World.cell?_alloc_new w.drew Cw 32 j;rw [show w.heap.size=w.drew.heap.size from rfl,this,Array.getElem?_eq_getElem (by omega)]; rfl
 have hNf:∀ j,W1.frozen? ⟨w.heap.size,j,none⟩=false:=fun j=>by rw [Rr]; exact World.frozen?_alloc_new w.drew Cw 32 j
 have hOb:∀ (j:Nat) (v:Value),w.cell? ⟨b,j,none⟩=some v->W1.cell? ⟨b,j,none⟩=some v:=fun j v h=>by rw [Rr,World.cell?_alloc_lt (w:=w.drew) _ _ (by exact hbw)]; exact h
 have hOv:∀ (j:Nat) (v:Value),w.cell? ⟨vb,j,none⟩=some v->W1.cell? ⟨vb,j,none⟩=some v:=fun j v h=>by rw [Rr,World.cell?_alloc_lt (w:=w.drew) _ _ (by exact hvw)]; exact h
 have aoj:∀ (W:World),(∀ x,W.cell? x=W1.cell? x)->(∀ x,W.frozen? x=W1.frozen? x)->∀ ty dc,(Builtin.copy_ #[35,35] ty #[.slice (some ⟨w.heap.size,i * 2,none⟩) (n+m - i) dc,.slice (some ⟨vb,sG,none⟩) m vc]).run Tryz.prog W = .ok (goInt m) (W.setCells w.heap.size (i * 2) vs):=fun W hWc hWf ty dc=>by
  have Jy:Nat.min m (n+m - i)=m:=by simp only [Nat.min_def]; split <;> omega
  have:=GQ (P:=Tryz.prog) W 35 35 ty 32 2 w.heap.size (i * 2) (n+m - i) dc ⟨vb,sG,none⟩ m vc vs Tryz.underlying35 cT (by rw [CF,Jy])
   (fun j v hj=>by rw [Addr.add_lit,hWc]; exact hOv _ v (Ug j v hj))
   (fun j hj=>by rw [hWc]; exact hN _ (by omega)) (fun j hj=>by rw [hWf]; exact hNf _) h1v
  rw [Jy] at this;exact this
 have hGn:n+m<=G:=by rw [hG]; exact grownCap_ge w _ _ _
 have hG63:G<=9223372036854775807:=by
  have:=grownCap_le_maxLen w (n+m) c 32 (by unfold maxLen; omega);rw [<- hG] at this;unfold maxLen at this;omega
 have hGi : ¬ (G=i):=by omega
 have hGim : ¬ (G=i+m):=by omega
 have hci : ¬ (c=i):=by omega
 have hbN:b≠w.heap.size:=by omega
 have hdl:(cs.drop (i * 2)).length=(n - i) * 2:=by rw [List.length_drop,BA]; omega
 have al9:∀ (W:World),(∀ x,W.cell? x=(W1.setCells w.heap.size (i * 2) vs).cell? x)->(∀ x,W.frozen? x=(W1.setCells w.heap.size (i * 2) vs).frozen? x)->∀ ty dc sc,(Builtin.copy_ #[35,35] ty #[.slice (some ⟨w.heap.size,(i+m) * 2,none⟩) (n+m - (i+m)) dc,.slice (some ⟨b,off+i * 2,none⟩) (n - i) sc]).run Tryz.prog W = .ok (goInt ((n - i:Nat):Int)) (W.setCells w.heap.size ((i+m) * 2) (cs.drop (i * 2))):=fun W hWc hWf ty dc sc=>by
  have Jy:Nat.min (n - i) (n+m - (i+m))=n - i:=by simp only [Nat.min_def]; split <;> omega
  have:=GQ (P:=Tryz.prog) W 35 35 ty 32 2 w.heap.size ((i+m) * 2) (n+m - (i+m)) dc ⟨b,off+i * 2,none⟩ (n - i) sc (cs.drop (i * 2)) Tryz.underlying35 cT (by rw [hdl,Jy])
   (fun j v hj=>by
    rw [Addr.add_lit,hWc,World.cell?_setCells_out _ _ _ _ _ (fun h _=>absurd h hbN),nG];exact hOb _ v (AD (i * 2+j) v (by rwa [lF] at hj)))
   (fun j hj=>by rw [hWc]; exact isSome_setCells _ _ _ _ _ (hN _ (by omega)))
   (fun j hj=>by rw [hWf,World.frozen?_setCells]; exact hNf _) (fun v hv=>h1c v (List.mem_of_mem_drop hv))
  rw [Jy] at this;exact this
 subst Rr;have hE1:∀ x,((w.alloc (.cells Cw 32)).drew).cell? x=(w.drew.alloc (.cells Cw 32)).cell? x:=fun x=>rfl;have hE2:∀ x,((w.alloc (.cells Cw 32)).drew).frozen? x=(w.drew.alloc (.cells Cw 32)).frozen? x:=fun x=>rfl;have hF1:∀ x,(((w.alloc (.cells Cw 32)).drew.setCells w.heap.size (i * 2) vs).drew).cell? x=((w.drew.alloc (.cells Cw 32)).setCells w.heap.size (i * 2) vs).cell? x:=fun x=>rfl;have hF2:∀ x,(((w.alloc (.cells Cw 32)).drew.setCells w.heap.size (i * 2) vs).drew).frozen? x=((w.drew.alloc (.cells Cw 32)).setCells w.heap.size (i * 2) vs).frozen? x:=fun x=>rfl;have hw1:IntKind.i64.wrap ((i:Int)+(m:Int))=(i:Int)+(m:Int):=by rw [IntKind.wrap_i64]; omega
 have hw2:IntKind.i64.wrap ((n:Int)+(m:Int))=(n:Int)+(m:Int):=by rw [IntKind.wrap_i64]; omega
 have hw3:IntKind.i64.wrap ((n:Int)+(m:Int) - (i:Int))=(n:Int)+(m:Int) - (i:Int):=by rw [IntKind.wrap_i64]; omega
 have uN:(0:Int)<=(i:Int)+(m:Int):=by omega
 have mr:i<=n:=by omega
 have MZ:((i:Int)+(m:Int)).toNat=i+m:=by omega
 have hb3:(i:Int)<=(n:Int):=by omega
 clear Zb hik hold YC hG hRl
 go_enter Tryz.func215,Tryz.ntmps215
 go_wp2_with (first
  | (at_builtin; refine Lib.wpList_append_run _ rfl _ _ _ _ rfl _ _ rfl rfl _ _ (hrz _) ?_)
  | (at_builtin; refine LS _ rfl _ _ 35 35 rfl _ _ rfl rfl (aoj _ hE1 hE2 _ _) ?_)
  | (at_builtin; refine LS _ rfl _ _ 35 35 rfl _ _ rfl rfl (al9 _ (fun _=>rfl) (fun _=>rfl) _ _ _) ?_))
 go_region_law_o (refine SV rfl _ _ 35 35 rfl (.slice (some ⟨w.heap.size,(i+m) * 2,none⟩) (n+m - (i+m)) (G - (i+m))) (.slice (some ⟨b,off+i * 2,none⟩) (n - i) (c - i)) (by simp [Act.eval,Act.put]) (by simp [Act.eval,Act.put]) (al9 _ hF1 hF2 3 (G - (i+m)) (c - i)) ?_)
 go_wp2
 go_ret
 exact ⟨rfl,rfl⟩
noncomputable def yy:TypeInfo:=(Tryz.prog.info? 32).getD default
noncomputable def KC:Value:=yy.zero.getD (.tuple #[])
theorem told:az.J8 Tryz.prog (az.CR [(215,2,16)]):=by
 have hi:Tryz.prog.info? 32=some yy:=by kernel_rfl
 have hz:yy.zero=some KC:=by kernel_rfl
 have hc:KC.cells.size=2:=by kernel_rfl
 have hs:yy.size=2:=by kernel_rfl
 have hb:yy.bytes=16:=by kernel_rfl
 have H:az.Ju Tryz.prog 215 35 32 yy KC 2:={
  under:=Tryz.underlying35
  info:=hi
  zero:=hz
  zc:=hc
  size:=hs
  pos:=ao 2
  fn:=⟨Tryz.f215,Tryz.func215,by kernel_rfl,by kernel_rfl⟩
  nothing:=fun w bs vb n c i vc h=>ahG w bs vb n c i vc h
  fin:=fun w bs vb n c m vc h v' w' hr=>aj7 w bs vb n c m vc h v' w' hr
  shift:=fun b off n c i vb sG m vc cs vs w h1 h2 h3 h4 h5 h6 h7 h8 h9 qg Vc h12 h13 tA tB kA kB h14 h15 h16 h17 h18=>aev b off n c i vb sG m vc cs vs w h1 h2 h3 h4 h5 h6 h7 h8 h9 qg Vc h12 h13 tA tB kA kB h14 h15 h16 h17 h18
  grow:=fun b off n c i vb sG m vc cs vs w h1 h2 h3 h4 h5 h6 h7 h8 h9 qg Vc h12 h13 h14=>ahH b off n c i vb sG m vc cs vs w yy KC hi hz hc h1 h2 h3 h4 h5 h6 h7 h8 hs h9 qg Vc h12 h13 h14 }
 have:=az.aau H;rwa [hb] at this
end Go.Proofs.YtckbdndhmcoihaaGreat.insert
end
section
namespace Go.K
open Go Go.az
variable {P:Program} {E:Env}
theorem XA {T:az.Told} (hT:J8 P T) {g:FuncId} (hP:P.funcs.toList.all gh=true) (hm:P.follows .mixedOrders=true) {L n:Nat} (hp:bL P g = []) (h:Et (H6 P T L n g [] St.empty)=true) (hy:Nat.blt g yB=true:=by rfl):cA P g fun _=>.ok (.bool true):=by
 have dR:pq P g:=by
  unfold Et at h;split at h
  ·rename_i b B hc
   exact ⟨hy,(C1 hT hP hm L n _ _ _ _ _ hc).1 hy⟩
  ·simp at h
 refine SH dR fun args v E A B ρ base w bN hF hlen hv hj=>?_;rw [hp] at hlen;have:args = []:=lE.1 (by simpa using hlen);subst this;obtain ⟨m,h1,h2⟩:=hv;rw [h1.bA] at h2;rw [h2.bA];have hF:KV.bool true=v:=hF;subst hF;exact (abk hT hP hm h w hy).mono fun _ _ ⟨h1,h2⟩=>⟨_,h1,⟨_,.nH,by simp [VR]⟩,h2⟩
end Go.K
end
section
namespace Go.Proofs.YtckbdndhmcoihaaGreat.b
open Go.K
noncomputable def GS:List KV->KR KV:=fun _=>.ok (.bool true)
theorem HA:cA PG 34 GS:=XA insert.told funcs mixed (L:=400) (n:=100) (by kernel_rfl) (by kernel_rfl)
end Go.Proofs.YtckbdndhmcoihaaGreat.b
end
section
namespace Go.Proofs.YtckbdndhmcoihaaGreat.b
open Go.K
noncomputable section
def oa (n:Int) (cE:Int):Option (Bool):=(cond (decide (n >= (bB (0 - cE)))) (some ((decide (n<=cE)))) (some (false)))
def LU (m:fM) (cE:Int):=oa m.e0.e0 cE
def LV (m:fM) (cE:Int):=oa m.e0.e1 cE
def LW (m:fM) (cE:Int):=oa m.e0.e2 cE
def LX (m:fM) (cE:Int):=oa m.e1.e0 cE
def LY (m:fM) (cE:Int):=oa m.e1.e1 cE
def L3 (m:fM) (cE:Int):=oa m.e1.e2 cE
def L4 (m:fM) (cE:Int):=oa m.e2.e0 cE
def L5 (m:fM) (cE:Int):=oa m.e2.e1 cE
def L6 (m:fM) (cE:Int):=oa m.e2.e2 cE
def acU (m:fM) (cE:Int):Option (Bool):=(cond (LU m cE).isSome (cond (!((LU m cE).getD default)) (some (false)) (cond (LV m cE).isSome (cond (!((LV m cE).getD default)) (some (false)) (cond (LW m cE).isSome (cond (!((LW m cE).getD default)) (some (false)) (cond (LX m cE).isSome (cond (!((LX m cE).getD default)) (some (false)) (cond (LY m cE).isSome (cond (!((LY m cE).getD default)) (some (false)) (cond (L3 m cE).isSome (cond (!((L3 m cE).getD default)) (some (false)) (cond (L4 m cE).isSome (cond (!((L4 m cE).getD default)) (some (false)) (cond (L5 m cE).isSome (cond (!((L5 m cE).getD default)) (some (false)) (cond (L6 m cE).isSome (cond (!((L6 m cE).getD default)) (some (false)) (some (true))) none)) none)) none)) none)) none)) none)) none)) none)) none)
def P2 (v:yh) (cE:Int):=oa v.x cE
def P3 (v:yh) (cE:Int):=oa v.y cE
def P4 (v:yh) (cE:Int):=oa v.z cE
def aew (v:yh) (cE:Int):Option (Bool):=(cond (P2 v cE).isSome (cond ((P2 v cE).getD default) (cond (P3 v cE).isSome (cond ((P3 v cE).getD default) (cond (P4 v cE).isSome (some (((P4 v cE).getD default))) none) (some (false))) none) (some (false))) none)
def GU (m:HK):=acU m.m 1024
def GV (m:HK):=aew m.t 4096
def Wy (m:HK):Option (Bool):=(cond (GU m).isSome (cond ((GU m).getD default) (cond (GV m).isSome (some (((GV m).getD default))) none) (some (false))) none)
structure jk where
 a:(Sl Int)
 b:(Sl Int)
 t4:Bool
 i:Int
instance:Inhabited jk:=⟨⟨default,default,default,default⟩⟩
def vm (x:jk):List KV:=[dS 3 (kI .i64) x.a,dS 3 (kI .i64) x.b,.bool x.t4,.int .i64 x.i]
def vo (x:jk):List (List KV):=[]
def Cx (vs:List KV) (rs:List (List KV)):jk:=⟨eG aw (v9 vs 0),eG aw (v9 vs 1),j3 (v9 vs 2),aw (v9 vs 3)⟩
def Dx:aB:=⟨[(0,w9 (n9 3)),(1,w9 (n9 3)),(4,w9 b9),(5,w9 i9)],[],[]⟩
def NJ:=rk9 [] [] 61 58 Dx
def fh (x:jk):ba jk:=(cond (decide (x.i < (x.a.n:Int))) (cond ((decide (0<=x.i))&&(decide (x.i < (x.a.n:Int)))) (cond ((decide (0<=x.i))&&(decide (x.i < (x.b.n:Int)))) (cond ((x.a.get (Int.toNat x.i)) != (x.b.get (Int.toNat x.i))) (.out az.aa.ret ⟨x.a,x.b,false,x.i⟩) (.next ⟨x.a,x.b,x.t4,(bB (x.i+1))⟩)) .fail) .fail) (.out (az.aa.exit 0) x))
theorem Jz (x:jk):NJ (vm x) (vo x)=ba.enc vm vo (fh x):=by
 unfold fh
 try simp only [ba.dt]
 kernel_rfl
def Dy:Lp:=⟨61,58,Dx,fun vs rs=>eC vm vo (goN fh (Cx vs rs)) [az.aa.exit 0,az.aa.ret],false⟩
theorem NK:Dy.Ok PG:=zS av.nil bO.nil (pa:=Cx) Jz
def tv (a:(Sl Int)) (b:(Sl Int)):=goN fh ⟨a,b,false,0⟩
def pN (a:(Sl Int)) (b:(Sl Int)):Option (Bool):=(cond ((a.n:Int) != (b.n:Int)) (some (false)) (cond ((tv a b).by (az.aa.exit 0)) (some (true)) (cond ((tv a b).by az.aa.ret) (some ((tv a b).st.t4)) none)))
theorem RF (a:(Sl Int)) (b:(Sl Int)):Xq [] [Dy] 61 [(dS 3 (kI .i64)) a,(dS 3 (kI .i64)) b] = (pN a b).map kB:=by
 unfold pN
 try simp only [cJ]
 kernel_rfl
def JA:List KV->KR KV:=cI PG 61 (cR kB fun vs=>pN ((eG aw) (v9 vs 0)) ((eG aw) (v9 vs 1)))
theorem P5:cA PG 61 JA:=gX av.nil (rq NK bO.nil) fun w=>RF ((eG aw) (g0 36 (w 0))) ((eG aw) (g0 36 (w 1)))
structure fy where
 a:(Sl Handle)
 b:(Sl Handle)
 t4:Bool
 i:Int
instance:Inhabited fy:=⟨⟨default,default,default,default⟩⟩
def qE (x:fy):List KV:=[dS 32 jJ x.a,dS 32 jJ x.b,.bool x.t4,.int .i64 x.i]
def qF (x:fy):List (List KV):=[]
def xk (vs:List KV) (rs:List (List KV)):fy:=⟨eG jK (v9 vs 0),eG jK (v9 vs 1),j3 (v9 vs 2),aw (v9 vs 3)⟩
def xG:aB:=⟨[(0,w9 (n9 32)),(1,w9 (n9 32)),(4,w9 b9),(5,w9 i9)],[],[]⟩
def GW:=rk9 [] [] 60 58 xG
def dQ (x:fy):ba fy:=(cond (decide (x.i < (x.a.n:Int))) (cond ((decide (0<=x.i))&&(decide (x.i < (x.a.n:Int)))) (cond ((decide (0<=x.i))&&(decide (x.i < (x.b.n:Int)))) (cond (!(((x.a.get (Int.toNat x.i)).slot==(x.b.get (Int.toNat x.i)).slot)&&(((x.a.get (Int.toNat x.i)).gen==(x.b.get (Int.toNat x.i)).gen)&&true))) (.out az.aa.ret ⟨x.a,x.b,false,x.i⟩) (.next ⟨x.a,x.b,x.t4,(bB (x.i+1))⟩)) .fail) .fail) (.out (az.aa.exit 0) x))
theorem Ea (x:fy):GW (qE x) (qF x)=ba.enc qE qF (dQ x):=by
 unfold dQ
 try simp only [ba.dt]
 kernel_rfl
def xH:Lp:=⟨60,58,xG,fun vs rs=>eC qE qF (goN dQ (xk vs rs)) [az.aa.exit 0,az.aa.ret],false⟩
theorem GX:xH.Ok PG:=zS av.nil bO.nil (pa:=xk) Ea
def oO (a:(Sl Handle)) (b:(Sl Handle)):=goN dQ ⟨a,b,false,0⟩
def lC (a:(Sl Handle)) (b:(Sl Handle)):Option (Bool):=(cond ((a.n:Int) != (b.n:Int)) (some (false)) (cond ((oO a b).by (az.aa.exit 0)) (some (true)) (cond ((oO a b).by az.aa.ret) (some ((oO a b).st.t4)) none)))
theorem JB (a:(Sl Handle)) (b:(Sl Handle)):Xq [] [xH] 60 [(dS 32 jJ) a,(dS 32 jJ) b] = (lC a b).map kB:=by
 unfold lC
 try simp only [cJ]
 kernel_rfl
def Cy:List KV->KR KV:=cI PG 60 (cR kB fun vs=>lC ((eG jK) (v9 vs 0)) ((eG jK) (v9 vs 1)))
theorem HQ:cA PG 60 Cy:=gX av.nil (rq GX bO.nil) fun w=>JB ((eG jK) (g0 35 (w 0))) ((eG jK) (g0 35 (w 1)))
def rR (s:aE) (kids:(Sl Int)):=lJ s
def rS (s:aE) (kids:(Sl Int)):=n4 s kids
def od (s:aE) (kids:(Sl Int)):Option (Path×Int):=(cond (rR s kids).isSome (cond (((rR s kids).getD default) != 0) (some (⟨⟨0,(fun i=>⟨0,0⟩)⟩,⟨0,(fun i=>0)⟩⟩,((rR s kids).getD default))) (cond ((s.root.slot==0)&&((s.root.gen==0)&&true)) (some (⟨⟨0,(fun i=>⟨0,0⟩)⟩,⟨0,(fun i=>0)⟩⟩,6)) (cond (rS s kids).isSome (cond (!((rS s kids).getD default).snd) (some (⟨⟨0,(fun i=>⟨0,0⟩)⟩,⟨0,(fun i=>0)⟩⟩,2)) (some (((rS s kids).getD default).fst,0))) none))) none)
theorem P6 (s:aE) (kids:(Sl Int)):Xq [(51,Hv),(25,ug)] [] 16 [wU s,(dS 3 (kI .i64)) kids] = (od s kids).map (fun (r:Path×Int)=>KV.ng [vi r.1,(kI .i64) r.2]):=by
 unfold od
 try simp only [cJ]
 kernel_rfl
def Af:List KV->KR KV:=cI PG 16 (cR (fun (r:Path×Int)=>KV.ng [vi r.1,(kI .i64) r.2]) fun vs=>od (mR (v9 vs 0)) ((eG aw) (v9 vs 1)))
theorem Cz:cA PG 16 Af:=gX (av.cons NH (av.cons tt av.nil)) bO.nil fun w=>P6 (mR (g0 34 (w 0))) ((eG aw) (g0 36 (w 1)))
def xl (a:Path) (b:Path):=lC a.nodes b.nodes
def xm (a:Path) (b:Path):=pN a.kids b.kids
def oe (a:Path) (b:Path):Option (Bool):=(cond (xl a b).isSome (cond ((xl a b).getD default) (cond (xm a b).isSome (some (((xm a b).getD default))) none) (some (false))) none)
theorem P7 (a:Path) (b:Path):Xq [(61,JA),(60,Cy)] [] 22 [vi a,vi b] = (oe a b).map kB:=by
 unfold oe
 try simp only [cJ]
 kernel_rfl
def Ag:List KV->KR KV:=cI PG 22 (cR kB fun vs=>oe (yx (v9 vs 0)) (yx (v9 vs 1)))
theorem CA:cA PG 22 Ag:=gX (av.cons P5 (av.cons HQ av.nil)) bO.nil fun w=>P7 (yx (g0 38 (w 0))) (yx (g0 38 (w 1)))
structure nC where
 t4:Bool
 i:Int
 a:Path
 b:Path
instance:Inhabited nC:=⟨⟨default,default,default,default⟩⟩
def Ah (x:nC):List KV:=[.bool x.t4,.int .i64 x.i]
def Ai (x:nC):List (List KV):=[NF x.a,NF x.b]
def HB (vs:List KV) (rs:List (List KV)):nC:=⟨j3 (v9 vs 0),aw (v9 vs 1),NG (r9 rs 0),NG (r9 rs 1)⟩
def JC:aB:=⟨[(4,w9 b9),(5,w9 i9)],[(2,[n9 32,n9 3],1),(3,[n9 32,n9 3],1)],[(2,0,0),(3,1,0)]⟩
def Tv:=rk9 [] [] 36 26 JC
def mo (x:nC):ba nC:=(cond (decide (x.i < (x.a.kids.n:Int))) (cond (decide (x.i < (x.b.kids.n:Int))) (cond ((decide (0<=x.i))&&(decide (x.i < (x.a.kids.n:Int)))) (cond ((decide (0<=x.i))&&(decide (x.i < (x.b.kids.n:Int)))) (cond ((x.a.kids.get (Int.toNat x.i)) != (x.b.kids.get (Int.toNat x.i))) (cond ((decide (0<=x.i))&&(decide (x.i < (x.a.kids.n:Int)))) (cond ((decide (0<=x.i))&&(decide (x.i < (x.b.kids.n:Int)))) (.out az.aa.ret ⟨(decide ((x.a.kids.get (Int.toNat x.i)) < (x.b.kids.get (Int.toNat x.i)))),x.i,x.a,x.b⟩) .fail) .fail) (.next ⟨x.t4,(bB (x.i+1)),x.a,x.b⟩)) .fail) .fail) (.out (az.aa.exit 0) x)) (.out (az.aa.exit 0) x))
theorem P8 (x:nC):Tv (Ah x) (Ai x)=ba.enc Ah Ai (mo x):=by
 unfold mo
 try simp only [ba.dt]
 kernel_rfl
def JD:Lp:=⟨36,26,JC,fun vs rs=>eC Ah Ai (goN mo (HB vs rs)) [az.aa.exit 0,az.aa.ret],false⟩
theorem Tw:JD.Ok PG:=zS av.nil bO.nil (pa:=HB) P8
def P9:List (Nat×(List KV->KR KV)):=[]
def Qa:List Lp:=[JD]
theorem Wz:av PG P9:=av.nil
theorem WB:bO PG Qa:=(rq Tw bO.nil)
def yT (a:Path) (b:Path):=goN mo ⟨false,0,a,b⟩
def vL (a:Path) (b:Path):Option (Bool):=(cond ((yT a b).by (az.aa.exit 0)) (some (false)) (cond ((yT a b).by az.aa.ret) (some ((yT a b).st.t4)) none))
theorem XB (a:Path) (b:Path):x8 PG (mA PG P9 Qa) 9 9 36 [vi a,vi b] = (vL a b).map kB:=by
 unfold vL
 try simp only [cJ]
 kernel_rfl
def JE:List KV->KR KV:=cI PG 36 (cR kB fun vs=>vL (yx (v9 vs 0)) (yx (v9 vs 1)))
theorem JF:cA PG 36 JE:=gX Wz WB fun w=>XB (yx (g0 38 (w 0))) (yx (g0 38 (w 1)))
structure di where
 t2:Bool
 l:(Sl Path)
 i:Int
 s:aE
instance:Inhabited di:=⟨⟨default,default,default,default⟩⟩
def qG (x:di):List KV:=[.bool x.t2,dS 38 vi x.l,.int .i64 x.i]
def qH (x:di):List (List KV):=[yQ x.s]
def xn (vs:List KV) (rs:List (List KV)):di:=⟨j3 (v9 vs 0),eG yx (v9 vs 1),aw (v9 vs 2),yR (r9 rs 0)⟩
def xI:aB:=⟨[(2,w9 b9),(4,w9 (n9 38)),(6,w9 i9)],[(1,[n9 111,n9 35,n9 77,n9 88,n9 91,i9,i9],1)],[(1,0,0)]⟩
def GY:=rk9 [(36,JE),(22,Ag),(16,Af),(35,Cv),(12,GH),(34,GS)] [] 7 506 xI
def jN (x:di):=od x.s (x.l.get (Int.toNat x.i)).kids
def pO (x:di):=oe ((jN x).getD default).fst (x.l.get (Int.toNat x.i))
def mq (x:di):=vL (x.l.get (Int.toNat (bB (x.i - 1)))) (x.l.get (Int.toNat x.i))
def il (x:di):ba di:=(cond ((decide (0<=x.i))&&(decide (x.i < (x.l.n:Int)))) (cond (jN x).isSome (cond (((jN x).getD default).snd != 0) (.out az.aa.ret ⟨false,x.l,x.i,x.s⟩) (cond ((decide (0<=x.i))&&(decide (x.i < (x.l.n:Int)))) (cond (pO x).isSome (cond (!((pO x).getD default)) (.out az.aa.ret ⟨false,x.l,x.i,x.s⟩) (cond ((decide (0<=x.i))&&(decide (x.i < (x.l.n:Int)))) (cond (decide (((x.l.get (Int.toNat x.i)).nodes.n:Int) < 1)) (.out az.aa.ret ⟨false,x.l,x.i,x.s⟩) (cond ((decide (0<=x.i))&&(decide (x.i < (x.l.n:Int)))) (cond (decide (((x.l.get (Int.toNat x.i)).nodes.n:Int) > 16)) (.out az.aa.ret ⟨false,x.l,x.i,x.s⟩) (cond ((decide (0<=x.i))&&(decide (x.i < (x.l.n:Int)))) (cond ((decide (0<=x.i))&&(decide (x.i < (x.l.n:Int)))) (cond ((decide (0<=(bB (((x.l.get (Int.toNat x.i)).nodes.n:Int) - 1))))&&(decide ((bB (((x.l.get (Int.toNat x.i)).nodes.n:Int) - 1)) < ((x.l.get (Int.toNat x.i)).nodes.n:Int)))) (cond ((decide (0<=((x.l.get (Int.toNat x.i)).nodes.get (Int.toNat (bB (((x.l.get (Int.toNat x.i)).nodes.n:Int) - 1)))).slot))&&(decide (((x.l.get (Int.toNat x.i)).nodes.get (Int.toNat (bB (((x.l.get (Int.toNat x.i)).nodes.n:Int) - 1)))).slot < (x.s.nodes.n:Int)))) (cond ((x.s.nodes.get (Int.toNat ((x.l.get (Int.toNat x.i)).nodes.get (Int.toNat (bB (((x.l.get (Int.toNat x.i)).nodes.n:Int) - 1)))).slot)).kind != 5) (.out az.aa.ret ⟨false,x.l,x.i,x.s⟩) (cond (decide (x.i > 0)) (cond ((decide (0<=(bB (x.i - 1))))&&(decide ((bB (x.i - 1)) < (x.l.n:Int)))) (cond ((decide (0<=x.i))&&(decide (x.i < (x.l.n:Int)))) (cond (mq x).isSome (cond (!((mq x).getD default)) (.out az.aa.ret ⟨false,x.l,x.i,x.s⟩) (.next ⟨x.t2,x.l,(bB (x.i+1)),x.s⟩)) .fail) .fail) .fail) (.next ⟨x.t2,x.l,(bB (x.i+1)),x.s⟩))) .fail) .fail) .fail) .fail)) .fail)) .fail)) .fail) .fail)) .fail) .fail)
def cC (x:di):ba di:=(cond (decide (x.i < (x.l.n:Int))) (cond (decide (x.i > 24)) (cond (decide (x.i < (bB ((x.l.n:Int) - 3)))) (.next ⟨x.t2,x.l,(bB (x.i+1)),x.s⟩)
   (il x))
  (il x)) (.out (az.aa.exit 0) x))
theorem Eb (x:di):GY (qG x) (qH x)=ba.enc qG qH (cC x):=by
 unfold cC il
 try simp only [ba.dt]
 kernel_rfl
def xJ:Lp:=⟨7,506,xI,fun vs rs=>eC qG qH (goN cC (xn vs rs)) [az.aa.exit 0,az.aa.ret],false⟩
theorem GZ:xJ.Ok PG:=zS (av.cons JF (av.cons CA (av.cons Cz (av.cons Dv (av.cons Hm (av.cons HA av.nil)))))) bO.nil (pa:=xn) Eb
def vp:List (Nat×(List KV->KR KV)):=[(36,JE),(22,Ag),(16,Af),(35,Cv),(12,GH),(34,GS)]
def vq:List Lp:=[xJ]
theorem JG:av PG vp:=(av.cons JF (av.cons CA (av.cons Cz (av.cons Dv (av.cons Hm (av.cons HA av.nil))))))
theorem JH:bO PG vq:=(rq GZ bO.nil)
def tN (s:aE):=s5 s
def kq (s:aE):=lZ s
def kr (s:aE):=goN cC ⟨false,((kq s).getD default).fst,0,s⟩
def rT (s:aE):Option (Bool):=(cond (tN s).isSome (cond ((tN s).getD default) (some (true)) (cond (kq s).isSome (cond (((kq s).getD default).snd != 0) (some (((((kq s).getD default).fst.n:Int)==0))) (cond ((kr s).by (az.aa.exit 0)) (some ((decide (((kr s).st.l.n:Int)<=256)))) (cond ((kr s).by az.aa.ret) (some ((kr s).st.t2)) none))) none)) none)
theorem Lc (s:aE):x8 PG (mA PG vp vq) 9 9 7 [wU s] = (rT s).map kB:=by
 unfold rT
 try simp only [cJ]
 kernel_rfl
theorem JI (w:Nat->KV):pz PG [34] w 0 = [wU (mR (g0 34 (w 0)))]:=by kernel_rfl
end
end Go.Proofs.YtckbdndhmcoihaaGreat.b
end
section
namespace Go.vr
theorem agw:∀ (n:Nat) (g:Nat->Nat),(∀ j,j<=n->g j < n)->∃ i j,i < j/\j<=n/\g i=g j
 | 0,g,h=>absurd (h 0 (ao 0)) (nF _)
 | n+1,g,h=>by
  by_cases he:∃ i,i<=n/\g i=g (n+1)
  ·obtain ⟨i,hi,e⟩:=he
   exact ⟨i,n+1,by omega,ao _,e⟩
  ·have bx:∀ i,i<=n->g i≠g (n+1):=fun i hi e=>he ⟨i,hi,e⟩
   have hl:=h (n+1) (ao _);obtain ⟨i,j,h1,h2,h3⟩:=agw n (fun j=>if g j=n then g (n+1) else g j) fun j hj=>by
    have h1:=h j (by omega);have h2:=bx j hj;show (if g j=n then g (n+1) else g j) < n;split <;> omega
   refine ⟨i,j,h1,by omega,?_⟩;have hi:=bx i (by omega);have hj:=bx j h2;have h3:(if g i=n then g (n+1) else g i)=if g j=n then g (n+1) else g j:=h3;split at h3 <;> split at h3 <;> omega
section
variable (n:Nat) (kv:Nat->Nat) (c:Nat->Nat->Nat)
inductive Below (to:Nat):Nat->Prop where
 | here:Below to to
 | dw (i k:Nat) (hk:k < kv i) (r:Below to (c i k)):Below to i
def Ap:Prop:=∀ i,i < n->∀ k,k < kv i->¬ Below kv c i (c i k)
variable {n kv c}
end
end Go.vr
end
section
namespace Go.vr
variable {n:Nat} {kv:Nat->Nat} {c:Nat->Nat->Nat}
def xo {H:Type} (kv:H->Nat) (c:H->Nat->H):Nat->H->Prop
 | 0,_=>False
 | t+1,i=>∀ k,k < kv i->xo kv c t (c i k)
theorem Qb (mr:∀ i,i < n->∀ k,k < kv i->c i k < n) (hf:Ap n kv c):∀ i,i < n->xo kv c n i:=by
 intro i0 hi0;apply Classical.byContradiction;intro h0;have hc:∀ p:Nat×Nat,∃ j,p.2 < n->¬ xo kv c (p.1+1) p.2->(j < n/\¬ xo kv c p.1 j/\∃ k,k < kv p.2/\c p.2 k=j):=by
  rintro ⟨t,i⟩;by_cases hi:i < n
  ·by_cases hq:xo kv c (t+1) i
   ·exact ⟨0,fun _ k=>absurd hq k⟩
   ·have:∃ k,k < kv i/\¬ xo kv c t (c i k):=by
     apply Classical.byContradiction;intro hn;exact hq fun k hk=>Classical.byContradiction fun h=>hn ⟨k,hk,h⟩
    obtain ⟨k,h1,h2⟩:=this;exact ⟨c i k,fun _ _=>⟨mr i hi k h1,h2,k,h1,rfl⟩⟩
  ·exact ⟨0,fun k=>absurd k hi⟩
 obtain ⟨g,hg⟩:=Classical.axiomOfChoice hc
 let it:Nat->Nat:=fun j=>Nat.rec i0 (fun j x=>g (n - (j+1),x)) j
 have hit:∀ j,j<=n->it j < n/\¬ xo kv c (n - j) (it j):=by
  intro j
  induction j with
  | zero=>exact fun _=>⟨hi0,h0⟩
  | succ j ih=>
   intro hj;obtain ⟨h1,h2⟩:=ih (by omega);have e:n - j=n - (j+1)+1:=by omega
   rw [e] at h2;have:=hg (n - (j+1),it j) h1 h2;exact ⟨this.1,this.2.1⟩
 have eU:∀ j,j < n->∃ k,k < kv (it j)/\c (it j) k=it (j+1):=by
  intro j hj;obtain ⟨h1,h2⟩:=hit j (by omega);have e:n - j=n - (j+1)+1:=by omega
  rw [e] at h2;exact (hg (n - (j+1),it j) h1 h2).2.2
 have hup:∀ d j,j+d<=n->Below kv c (it (j+d)) (it j):=by
  intro d
  induction d with
  | zero=>exact fun j _=>.here
  | succ d ih=>
   intro j hj;obtain ⟨k,h1,h2⟩:=eU j (by omega);have:=ih (j+1) (by omega);rw [show j+1+d=j+(d+1) by omega] at this;refine .dw _ k h1 ?_;rw [h2];exact this
 obtain ⟨i,j,h1,h2,h3⟩:=agw n it fun j hj=>(hit j hj).1;obtain ⟨k,q1,q2⟩:=eU i (by omega);refine hf _ (hit i (by omega)).1 k q1 ?_;rw [q2];have:=hup (j - (i+1)) (i+1) (by omega);rw [show i+1+(j - (i+1))=j by omega,<- h3] at this;exact this
section
variable {H:Type} {kv:H->Nat} {c:H->Nat->H}
theorem xo.more:∀ (t:Nat) (i:H),xo kv c t i->xo kv c (t+1) i
 | 0,_,h=>h.elim
 | t+1,_,h=>fun k hk=>(h k hk).more t _
theorem xo.le {t u:Nat} {i:H} (h:xo kv c t i) (hle:t<=u):xo kv c u i:=by
 induction hle with
 | refl=>exact h
 | step _ ih=>exact ih.more _ _
def Qc (f:Nat->Nat):Nat->Nat
 | 0=>0
 | k+1=>max (Qc f k) (f k)
def JJ (f:Nat->Nat):Nat->Nat
 | 0=>0
 | k+1=>min (JJ f k+f k) 257
theorem WC {f g:Nat->Nat} : ∀ k,(∀ j,j < k->f j=g j)->Qc f k=Qc g k
 | 0,_=>rfl
 | k+1,h=>by rw [Qc,Qc,WC k fun j hj=>h j (by omega),h k (by omega)]
theorem G0 {f g:Nat->Nat} : ∀ k,(∀ j,j < k->f j=g j)->JJ f k=JJ g k
 | 0,_=>rfl
 | k+1,h=>by rw [JJ,JJ,G0 k fun j hj=>h j (by omega),h k (by omega)]
theorem aav (f:Nat->Nat):∀ k j,j < k->f j<=Qc f k
 | k+1,j,h=>by
  rw [Qc];by_cases e:j=k
  ·subst e; omega
  ·have:=aav f k j (by omega); omega
theorem agx (f:Nat->Nat):∀ k,JJ f k<=257
 | 0=>by rw [JJ]; omega
 | k+1=>by rw [JJ]; omega
def CE {H:Type} (kv:H->Nat) (c:H->Nat->H):Nat->H->Nat
 | 0,_=>0
 | t+1,i=>Qc (fun k=>CE kv c t (c i k)) (kv i)+1
def G1 {H:Type} (kv:H->Nat) (c:H->Nat->H) (m:H->Bool):Nat->H->Nat
 | 0,_=>0
 | t+1,i=>cond (m i) 1 (JJ (fun k=>G1 kv c m t (c i k)) (kv i))
theorem YD:∀ (t:Nat) (i:H),xo kv c t i->CE kv c (t+1) i=CE kv c t i
 | 0,_,h=>h.elim
 | t+1,i,h=>by
  rw [CE,CE,WC _ fun k hk=>YD t _ (h k hk)]
theorem RG (m:H->Bool):∀ (t:Nat) (i:H),xo kv c t i->G1 kv c m (t+1) i=G1 kv c m t i
 | 0,_,h=>h.elim
 | t+1,i,h=>by
  rw [G1,G1,G0 _ fun k hk=>RG m t _ (h k hk)]
theorem agy {m:H->Bool} {t u:Nat} {i:H} (h:xo kv c t i) (hle:t<=u):G1 kv c m u i=G1 kv c m t i:=by
 induction hle with
 | refl=>rfl
 | step hle ih=>rw [RG _ _ _ (h.le hle),ih]
theorem acV:∀ (t:Nat) (i:H),xo kv c t i->xo kv c (CE kv c t i) i
 | 0,_,h=>h.elim
 | t+1,i,h=>fun k hk=>(acV t _ (h k hk)).le (aav (fun k=>CE kv c t (c i k)) _ k hk)
theorem NL:∀ (t:Nat) (i:H),CE kv c t i<=t
 | 0,_=>ao _
 | t+1,i=>by
  have:∀ k,Qc (fun k=>CE kv c t (c i k)) k<=t:=by
   intro k
   induction k with
   | zero=>exact mc _
   | succ k ih=>
    have:=NL t (c i k);rw [Qc];omega
  have:=this (kv i);rw [CE];omega
end
theorem ahI (mr:∀ i,i < n->∀ k,k < kv i->c i k < n) (hf:Ap n kv c) {i:Nat} (hi:i < n):CE kv c n i=Qc (fun k=>CE kv c n (c i k)) (kv i)+1:=by
 rw [<- YD n i (Qb mr hf i hi),CE]
theorem ahJ (m:Nat->Bool) (mr:∀ i,i < n->∀ k,k < kv i->c i k < n) (hf:Ap n kv c) {i:Nat} (hi:i < n):G1 kv c m n i=cond (m i) 1 (JJ (fun k=>G1 kv c m n (c i k)) (kv i)):=by
 rw [<- RG m n i (Qb mr hf i hi),G1]
end Go.vr
end
section
namespace Go.K
open Go Go.az
theorem ba.go_rule {X:Type} {step:X->ba X} {I:Nat->X->Prop} {Q:aa->X->Prop} {n:Nat}
  (h:∀ j x,j<=n->I j x->(∃ x',step x = .next x'/\j < n/\I (j+1) x')\/∃ e x',step x = .out e x'/\lu e=false/\Q e x') :
  ∀ (r j:Nat) (x:X),j+r=n->I j x->∀ N,r < N->∃ e x',ba.go step N x = .out e x'/\Q e x'
 | r,j,x,hj,hI,0,hN=>by omega
 | r,j,x,hj,hI,N+1,hN=>by
  rcases h j x (by omega) hI with ⟨x',h1,h2,h3⟩ | ⟨e,x',h1,h2,h3⟩
  ·obtain ⟨r',rfl⟩:∃ r',r=r' + 1:=⟨r - 1,by omega⟩
   obtain ⟨e,y,h4,h5⟩:=ba.go_rule h r' (j+1) x' (by omega) h3 N (by omega);exact ⟨e,y,by simp only [ba.go,h1,h4],h5⟩
  ·exact ⟨e,x',by simp only [ba.go,h1,h2,ay],h3⟩
theorem ku {X:Type} {step:X->ba X} (I:Nat->X->Prop) (Q:aa->X->Prop) (n:Nat) (hn:n < gI)
  (h:∀ j x,j<=n->I j x->(∃ x',step x = .next x'/\j < n/\I (j+1) x')\/∃ e x',step x = .out e x'/\lu e=false/\Q e x') {x:X} (h0:I 0 x) :
  ∃ e x',goN step x = .out e x'/\Q e x':=ba.go_rule h n 0 x (by omega) h0 gI hn
theorem lD {X:Type} {step:X->ba X} (n:Nat) (hn:n < gI) (st:Nat->X) (C:Nat->Prop) {e0 er:aa} (h0:lu e0=false) (hr:lu er=false) (R:X->Prop) {xe:X}
  (aex:∀ j,j < n->(C j->step (st j) = .next (st (j+1)))/\(¬ C j->∃ x',step (st j) = .out er x'/\R x')) (xy:step (st n) = .out e0 xe) :
  (goN step (st 0) = .out e0 xe/\∀ j,j < n->C j)\/∃ x',goN step (st 0) = .out er x'/\R x'/\∃ j,j < n/\¬ C j:=by
 obtain ⟨e,x',h1,h2⟩:=ku (step:=step) (fun j x=>x=st j/\∀ i,i < j->C i) (fun e x'=>(e=e0/\x' = xe/\∀ j,j < n->C j)\/(e=er/\R x'/\∃ j,j < n/\¬ C j)) n hn (fun j x hj ⟨hx,bM⟩=>by
  subst hx;by_cases aJ:j < n
  ·obtain ⟨q1,q2⟩:=aex j aJ
   by_cases hc:C j
   ·exact .inl ⟨_,q1 hc,aJ,rfl,fun i hi=>by
     by_cases e:i=j
     ·subst e; exact hc
     ·exact bM i (by omega)⟩
   ·obtain ⟨x',h3,h4⟩:=q2 hc
    exact .inr ⟨_,_,h3,hr,.inr ⟨rfl,h4,j,aJ,hc⟩⟩
  ·have:j=n:=by omega
   subst this;exact .inr ⟨_,_,xy,h0,.inl ⟨rfl,rfl,bM⟩⟩) (x:=st 0) ⟨rfl,fun i hi=>absurd hi (nF _)⟩
 rcases h2 with ⟨rfl,rfl,h2⟩ | ⟨rfl,h2,h3⟩
 ·exact .inl ⟨h1,h2⟩
 ·exact .inr ⟨x',h1,h2,h3⟩
theorem ba.qI {X:Type} (e:aa) (x:X) (e' : aa):(ba.out e x).by e' = vG e e':=rfl
theorem ba.nL {X:Type} [Inhabited X] (e:aa) (x:X):(ba.out e x).st=x:=rfl
theorem eE {n:Int} (h : -9223372036854775808<=n) (h' : n < 9223372036854775808):bB n=n:=by
 show IntKind.wrap .i64 n=n;unfold IntKind.wrap;by_cases hn:0<=n
 ·have h1:n % (2 ^ IntKind.i64.bits:Int)=n:=Int.emod_eq_of_lt hn (by show n < 18446744073709551616; omega)
  simp only [h1];rw [ae];intro hc;simp only [aj,jP] at hc;have:n >= 9223372036854775808:=hc.2;omega
 ·have h1:n % (2 ^ IntKind.i64.bits:Int)=n+18446744073709551616:=by
   show n % 18446744073709551616=n+18446744073709551616;omega
  simp only [h1];rw [ax]
  ·show n+18446744073709551616 - 18446744073709551616=n
   omega
  ·simp only [aj,jP]
   refine ⟨rfl,?_⟩;show n+18446744073709551616 >= 9223372036854775808;omega
theorem YE {b n m:Nat} (h:(n+m) * b<=140737488355328) (h2:n+m<=17592186044416):mv b n m=true:=by
 unfold mv;rw [aj];exact ⟨Nat.ble_eq_true_of_le h,Nat.ble_eq_true_of_le h2⟩
theorem appOk_small {b n m:Nat} (hb:b<=1000000) (hn:n<=1000000) (hm:m<=1000000) (_:0 < m\/n=0):mv b n m=true:=
 YE (dA (Nat.mul_le_mul (by omega:n+m<=2000000) hb) (by decide)) (by omega)
theorem vt {b n m:Nat} (hb:b<=1000000:=by omega) (hn:n<=1000000:=by omega) (hm:m<=1000000:=by omega):mv b n m=true:=
 YE (dA (Nat.mul_le_mul (by omega:n+m<=2000000) hb) (by decide)) (by omega)
@[simp] theorem fj (n:Nat):ck n n=true:=p8 n
theorem Sl.TM {α:Type} [Inhabited α] (s:Sl α) (v:α):(s.push v).n=s.n+1:=rfl
theorem Sl.KD {α:Type} [Inhabited α] {s:Sl α} {v:α} {i:Nat} (h:i < s.n):(s.push v).get i=s.get i:=by
 have:Nat.blt i s.n=true:=by rw [b7]; exact h
 simp only [Sl.push,this,ah]
theorem Sl.Fu {α:Type} [Inhabited α] {s:Sl α} {v:α} : (s.push v).get s.n=v:=by
 have:Nat.blt s.n s.n=false:=by
  cases h:Nat.blt s.n s.n with
  | false=>rfl
  | true=>rw [b7] at h; omega
 simp only [Sl.push,this,ay,p8,ah]
theorem Sl.WD {α:Type} {s t:Sl α} {i:Nat} (h:i < s.n):(s.join t).get i=s.get i:=by
 have:Nat.blt i s.n=true:=by rw [b7]; exact h
 simp only [Sl.join,this,ah]
theorem Sl.acW {α:Type} {s t:Sl α} {i:Nat} (h:s.n<=i):(s.join t).get i=t.get (i - s.n):=by
 have:Nat.blt i s.n=false:=by
  cases h' : Nat.blt i s.n with
  | false=>rfl
  | true=>rw [b7] at h'; omega
 simp only [Sl.join,this,ay]
end Go.K
end
section
namespace Go.Proofs.YtckbdndhmcoihaaGreat.sc
open Go Go.K
def JK (n cE:Int):Prop:=-cE<=n/\n<=cE
instance (n cE:Int):Decidable (JK n cE):=by unfold JK; exact inferInstance
def xp (v:b.yh) (k:Int):Prop:=JK v.x k/\JK v.y k/\JK v.z k
instance (v:b.yh) (k:Int):Decidable (xp v k):=by unfold xp; exact inferInstance
def aaw (r:b.ie):Prop:=JK r.e0 1024/\JK r.e1 1024/\JK r.e2 1024
def RowsIn (m:b.fM):Prop:=aaw m.e0/\aaw m.e1/\aaw m.e2
def NM (m:b.HK):Prop:=RowsIn m.m/\xp m.t 4096
theorem chain {p:Prop} [Decidable p] {x:Option Bool} {Q:Prop} (h1:p->¬ Q) (h2 : ¬ p->∃ r,x=some r/\(r=true↔Q)):∃ r,cond (decide p) (some false) x=some r/\(r=true↔Q):=by
 by_cases h:p
 ·rw [aq h]
  exact ⟨false,rfl,⟨fun k=>by simp at k,fun k=>absurd k (h1 h)⟩⟩
 ·rw [bu h]
  exact h2 h
theorem ahK (cE:Int) (l:Sl Int) (h:0<=cE) (h' : cE<=1000000) (hn:l.n < 1000000):∃ r,b.Bl cE l=some r/\(r=true↔∀ i,i < l.n->JK (l.get i) cE):=by
 unfold b.Bl b.Dn;obtain ⟨e,x',h1,h2⟩:∃ e x',goN b.nZ (⟨cE,false,l,((l.n:Nat):Int),(0:Int)⟩:b.mV) = .out e x'/\((e = .exit 0/\∀ i,i < l.n->JK (l.get i) cE)\/(e = .ret/\x'.t4=false/\∃ i,i < l.n/\¬ JK (l.get i) cE)):=by
  refine ku (X:=b.mV) (fun j x=>x=⟨cE,false,l,((l.n:Nat):Int),(j:Int)⟩/\∀ i,i < j->JK (l.get i) cE) (fun e x'=>(e = .exit 0/\∀ i,i < l.n->JK (l.get i) cE)\/(e = .ret/\x'.t4=false/\∃ i,i < l.n/\¬ JK (l.get i) cE)) l.n (by unfold gI; omega) ?_ ⟨rfl,fun i hi=>absurd hi (nF _)⟩;rintro j _ hj ⟨rfl,bM⟩;unfold b.nZ
  dsimp only
  by_cases aJ:(j:Int) < (l.n:Int)
  ·have h0:(0:Int)<=(j:Int):=by omega
   rw [aq aJ,aq h0,eE (n:=0 - cE) (by omega) (by omega)];simp only [yD,ah];have ej:Int.toNat (j:Int)=j:=rfl;rw [ej];by_cases q1:l.get j < 0 - cE
   ·rw [aq q1]
    exact .inr ⟨_,_,rfl,rfl,.inr ⟨rfl,rfl,j,by omega,fun k=>by have:=k.1; omega⟩⟩
   ·rw [bu q1,ay]
    by_cases q2:l.get j > cE
    ·rw [aq q2]
     exact .inr ⟨_,_,rfl,rfl,.inr ⟨rfl,rfl,j,by omega,fun k=>by have:=k.2; omega⟩⟩
    ·rw [bu q2,ay,eE (by omega) (by omega)]
     refine .inl ⟨_,rfl,by omega,by congr 1,fun i hi=>?_⟩;by_cases e:i=j
     ·subst e; exact ⟨by omega,by omega⟩
     ·exact bM i (by omega)
  ·rw [bu aJ,ay]
   exact .inr ⟨_,_,rfl,rfl,.inl ⟨rfl,fun i hi=>bM i (by omega)⟩⟩
 rw [h1];rcases h2 with ⟨rfl,h2⟩ | ⟨rfl,h2,i,h3,h4⟩
 ·exact ⟨true,rfl,⟨fun _=>h2,fun _=>rfl⟩⟩
 ·exact ⟨x'.t4,rfl,⟨fun k=>by rw [h2] at k; simp at k,fun k=>absurd (k i h3) h4⟩⟩
theorem aok {P:Int->Prop} {x y z:Int} : (∀ i,i < (Sl.lit [x,y,z]).n->P ((Sl.lit [x,y,z]).get i))↔P x/\P y/\P z:=by
 constructor
 ·exact fun h=>⟨h 0 (show 0 < 3 by omega),h 1 (show 1 < 3 by omega),h 2 (show 2 < 3 by omega)⟩
 ·rintro ⟨h1,h2,h3⟩ i hi
  have hi:i < 3:=hi;rcases (by omega:i=0\/i=1\/i=2) with rfl | rfl | rfl
  ·exact h1
  ·exact h2
  ·exact h3
theorem SW (v:b.yh):b.qy v=some (if xp v 4096 then 0 else 20):=by
 unfold b.qy b.xd;obtain ⟨r,h1,h2⟩:=ahK 4096 (Sl.lit [v.x,v.y,v.z]) (by omega) (by omega) (by show 3 < 1000000; omega);have h2:r=true↔xp v 4096:=h2.trans (aok (P:=fun n=>JK n 4096));rw [h1];cases r with
 | true=>rw [ax (h2.1 rfl)]; rfl
 | false=>rw [ae fun k=>by have:=h2.2 k; simp at this]; rfl
theorem aey (m:b.fM):∃ r,b.vI m=some r/\(r=true↔RowsIn m):=by
 unfold b.vI RowsIn aaw JK
 iterate 18 refine chain (fun h k=>by omega) fun _=>?_
 exact ⟨true,rfl,⟨fun _=>by omega,fun _=>rfl⟩⟩
theorem WG (m:b.HK):(∃ e,b.n3 m=some e/\(e=0/\NM m\/e=20/\¬ NM m)):=by
 unfold b.n3 b.xf b.xg NM;obtain ⟨r,h1,h2⟩:=aey m.m;rw [h1,SW];cases r with
 | false=>exact ⟨20,rfl,.inr ⟨rfl,fun k=>by have:=h2.2 k.1; simp at this⟩⟩
 | true=>
  by_cases h3:xp m.t 4096
  ·rw [ax h3]; exact ⟨0,rfl,.inl ⟨rfl,h2.1 rfl,h3⟩⟩
  ·rw [ae h3]; exact ⟨20,rfl,.inr ⟨rfl,fun k=>h3 k.2⟩⟩
def NN (t:b.kb):Prop:=0 < t.w/\t.w<=16/\0 < t.h/\t.h<=16/\((t.PM.n:Nat):Int)=bB (t.w * t.h)
theorem WH (n:Int):∃ r,b.mC n=some r/\(r=true↔0 < n/\n<=16):=by
 unfold b.mC;by_cases h1:n > 0
 ·rw [aq h1]
  exact ⟨_,rfl,by rw [decide_eq_true_iff]; omega⟩
 ·rw [bu h1]
  exact ⟨false,rfl,⟨fun k=>by simp at k,fun k=>absurd k.1 h1⟩⟩
theorem ahL (t:b.kb):∃ e,b.ni t=some e/\(e=0/\NN t\/e=8/\¬ NN t):=by
 unfold b.ni b.vd b.ve NN;obtain ⟨r,h1,h2⟩:=WH t.w;obtain ⟨q,h3,h4⟩:=WH t.h;rw [h1,h3];simp only [nj,iB,ah];cases r with
 | false=>exact ⟨8,rfl,.inr ⟨rfl,fun k=>by have:=h2.2 ⟨k.1,k.2.1⟩; simp at this⟩⟩
 | true=>
  have h2:=h2.1 rfl;cases q with
  | false=>exact ⟨8,rfl,.inr ⟨rfl,fun k=>by have:=h4.2 ⟨k.2.2.1,k.2.2.2.1⟩; simp at this⟩⟩
  | true=>
   have h4:=h4.1 rfl;by_cases h5:((t.PM.n:Nat):Int)=bB (t.w * t.h)
   ·rw [bne_eq_false_iff_eq.2 h5]
    exact ⟨0,rfl,.inl ⟨rfl,h2.1,h2.2,h4.1,h4.2,h5⟩⟩
   ·rw [bne_iff_ne.2 h5]
    exact ⟨8,rfl,.inr ⟨rfl,fun k=>h5 k.2.2.2.2⟩⟩
def aax (p:b.Prim):Prop:=p.kind<=2/\p.index.n<=200/\(p.kind=0->p.index.n % 3=0)/\(p.kind > 0->p.index.n=0\/3<=p.index.n)
def G2 (k:Int) (j:Nat):Nat:=if k=0 then (j+2) / 3 else j
def DR (p:b.Prim):Nat:=G2 p.kind (p.index.n - 2)
theorem aez (p:b.Prim) (h0:0<=p.kind) (h2:p.kind<=2) (hn:p.index.n<=200) (z:Sl b.ie) (t:Int) :
  ∃ x',goN b.jf (⟨z,t,⟨0,fun _=>⟨0,0,0⟩⟩,p.index,(0:Int),p⟩:b.dB) = .out (.exit 1) x'/\x'.out.n=DR p:=by
 have y7:=fun aex=>ku (X:=b.dB) (step:=b.jf) (fun j x=>∃ o:Sl b.ie,x=⟨z,t,o,p.index,(j:Int),p⟩/\o.n=G2 p.kind j) (fun e x'=>e = .exit 1/\x'.out.n=DR p) (p.index.n - 2) (by unfold gI; omega) aex (x:=⟨z,t,⟨0,fun _=>⟨0,0,0⟩⟩,p.index,(0:Int),p⟩) ⟨_,rfl,by unfold G2; split <;> rfl⟩;refine Exists.elim (y7 ?_) fun e ⟨x,h1,he,h3⟩=>?_
 rotate_left
 ·subst he; exact ⟨x,h1,h3⟩
 rintro j _ hj ⟨o,rfl,ho⟩;have ho200:o.n<=200:=by rw [ho]; unfold G2; split <;> omega
 unfold b.jf b.mU b.mT b.mS
 dsimp only
 have e1:bB ((j:Int)+1)=((j+1:Nat):Int):=by rw [eE (by omega) (by omega)]; omega
 have e2:bB ((j:Int)+2)=((j+2:Nat):Int):=by rw [eE (by omega) (by omega)]; omega
 rw [e1,e2];by_cases aJ:((j+2:Nat):Int) < (p.index.n:Int)
 ·have d1:decide ((0:Int)<=(j:Int))=true:=aq (by omega)
  have d2:decide ((j:Int) < (p.index.n:Int))=true:=aq (by omega);have d3:decide ((0:Int)<=((j+1:Nat):Int))=true:=aq (by omega);have d4:decide (((j+1:Nat):Int) < (p.index.n:Int))=true:=aq (by omega);have d5:decide ((0:Int)<=((j+2:Nat):Int))=true:=aq (by omega);have d6:decide (((j+2:Nat):Int) < (p.index.n:Int))=true:=aq aJ;have d7:decide ((0:Int) < (p.index.n:Int))=true:=aq (by omega);have da:mv 24 o.n 1=true:=vt;rw [d1,d2,d3,d4,d5,d6,d7,da];simp only [fj,yD,cY,ah];have Vv:j < p.index.n - 2:=by omega
  rcases (by omega:p.kind=0\/p.kind=1\/p.kind=2) with hk | hk | hk
  ·rw [hk]
   by_cases h3:Int.tmod (j:Int) 3=0
   ·rw [rC.2 h3]
    refine .inl ⟨_,rfl,Vv,_,rfl,?_⟩;rw [Sl.TM,ho,hk];have:Int.tmod (j:Int) 3=((j % 3:Nat):Int):=rfl;unfold G2;rw [ax rfl,ax rfl];omega
   ·rw [beq_eq_false_iff_ne.2 h3]
    refine .inl ⟨_,rfl,Vv,_,rfl,?_⟩;rw [ho,hk];have:Int.tmod (j:Int) 3=((j % 3:Nat):Int):=rfl;unfold G2;rw [ax rfl,ax rfl];omega
  ·rw [hk]
   have hc:∀ j,G2 1 j=j:=fun j=>rfl;by_cases h3:Int.tmod (j:Int) 2=0
   ·rw [rC.2 h3]
    exact .inl ⟨_,rfl,Vv,_,rfl,by rw [Sl.TM,ho,hk,hc,hc]⟩
   ·rw [beq_eq_false_iff_ne.2 h3]
    exact .inl ⟨_,rfl,Vv,_,rfl,by rw [Sl.TM,ho,hk,hc,hc]⟩
  ·rw [hk]
   have hc:∀ j,G2 2 j=j:=fun j=>rfl;exact .inl ⟨_,rfl,Vv,_,rfl,by rw [Sl.TM,ho,hk,hc,hc]⟩
 ·rw [bu aJ,ay]
  simp only [fj,ah];refine .inr ⟨_,_,rfl,rfl,rfl,?_⟩;show o.n=_;rw [ho];have:j=p.index.n - 2:=by omega
  subst this;rfl
theorem aeA (p:b.Prim) (h0:0<=p.kind) (h2:p.kind<=2):∃ r,b.te p=some r/\(r=true↔(p.kind=0->p.index.n % 3=0)/\(p.kind > 0->p.index.n=0\/3<=p.index.n)):=by
 unfold b.te b.uD;have key:∀ {k:Int},(p.kind=k->k > 0)->∃ r,cond (((p.index.n:Nat):Int)==(0:Int)) (some true) (some (decide (((p.index.n:Nat):Int) >= (3:Int))))=some r/\(r=true↔(p.index.n=0\/3<=p.index.n)):=by
  intro k _;by_cases h:((p.index.n:Nat):Int)=0
  ·rw [rC.2 h]
   exact ⟨true,rfl,⟨fun _=>.inl (by omega),fun _=>rfl⟩⟩
  ·rw [beq_eq_false_iff_ne.2 h]
   exact ⟨_,rfl,by rw [decide_eq_true_iff]; omega⟩
 rcases (by omega:p.kind=0\/p.kind=1\/p.kind=2) with hk | hk | hk
 ·rw [hk]
  refine ⟨_,rfl,?_⟩;rw [rC];have:Int.tmod ((p.index.n:Nat):Int) 3=((p.index.n % 3:Nat):Int):=rfl;rw [this];exact ⟨fun h=>⟨fun _=>by omega,fun h=>absurd h (by omega)⟩,fun h=>by have:=h.1 rfl; omega⟩
 ·rw [hk]
  obtain ⟨r,h1,h3⟩:=key (k:=1) (fun _=>by omega);exact ⟨r,h1,h3.trans ⟨fun h=>⟨fun k=>absurd k (by omega),fun _=>h⟩,fun h=>h.2 (by omega)⟩⟩
 ·rw [hk]
  obtain ⟨r,h1,h3⟩:=key (k:=2) (fun _=>by omega);exact ⟨r,h1,h3.trans ⟨fun h=>⟨fun k=>absurd k (by omega),fun _=>h⟩,fun h=>h.2 (by omega)⟩⟩
theorem aeB (p:b.Prim) (h0:0<=p.kind):∃ l e,b.tf p=some (l,e)/\(e=0/\aax p/\l.n=DR p\/e≠0/\¬ aax p/\l.n=0):=by
 unfold b.tf;by_cases h1:p.kind > 2
 ·rw [aq h1]
  exact ⟨_,_,rfl,.inr ⟨by decide,fun k=>by have:=k.1; omega,rfl⟩⟩
 ·rw [bu h1,ay]
  by_cases h2:((p.index.n:Nat):Int) > 200
  ·rw [aq h2]
   exact ⟨_,_,rfl,.inr ⟨by decide,fun k=>by have:=k.2.1; omega,rfl⟩⟩
  ·rw [bu h2,ay]
   unfold b.Cp b.Cq;obtain ⟨r,h3,h4⟩:=aeA p h0 (by omega);rw [h3];cases r with
   | false=>
    exact ⟨_,_,rfl,.inr ⟨by decide,fun k=>by have:=h4.2 k.2.2; simp at this,rfl⟩⟩
   | true=>
    obtain ⟨x',h5,h6⟩:=aez p h0 (by omega) (by omega) ⟨0,fun _=>⟨0,0,0⟩⟩ 0;rw [h5];exact ⟨_,_,rfl,.inl ⟨rfl,⟨by omega,by omega,h4.1 rfl⟩,h6⟩⟩
def XC (m:b.kE):Nat->Nat
 | 0=>0
 | k+1=>XC m k+DR (m.fc.get k)
theorem ahM (m:b.kE) {i j:Nat} (h:i<=j):XC m i<=XC m j:=by
 induction j with
 | zero=>have:i=0:=by omega
         subst this; exact ao _
 | succ j ih=>
  by_cases e:i=j+1
  ·subst e; exact ao _
  ·have:=ih (by omega)
   show XC m i<=XC m j+_;omega
def agz (m:b.kE) (k:Nat):Prop:=aax (m.fc.get k)/\∀ i,i < (m.fc.get k).index.n->0<=(m.fc.get k).index.get i/\(m.fc.get k).index.get i < (m.nU.n:Int)
def KF (m:b.kE):Prop:=(∀ k,k < m.fc.n->agz m k)/\XC m m.fc.n<=64
def JL (m:b.kE):Prop:=∀ k,k < m.fc.n->0<=(m.fc.get k).kind
theorem acX (z o:Sl b.ie) (t:Bool) (q:Sl b.Prim) (a c:Int) (l:Sl Int) (hl:l.n<=1000) (m:b.kE) :
  (∃ k,goN b.eD (⟨z,t,o,q,a,c,l,((l.n:Nat):Int),(0:Int),m⟩:b.eA) = .out (.exit 2) ⟨z,t,o,q,a,c,l,((l.n:Nat):Int),k,m⟩/\∀ i,i < l.n->0<=l.get i/\l.get i < (m.nU.n:Int))\/
  ∃ x',goN b.eD (⟨z,t,o,q,a,c,l,((l.n:Nat):Int),(0:Int),m⟩:b.eA) = .out .ret x'/\x'.t3=false/\∃ i,i < l.n/\¬ (0<=l.get i/\l.get i < (m.nU.n:Int)):=by
 have key:=lD (step:=b.eD) l.n (by unfold gI; omega) (fun j=>⟨z,t,o,q,a,c,l,((l.n:Nat):Int),(j:Int),m⟩) (fun i=>0<=l.get i/\l.get i < (m.nU.n:Int)) (e0:=.exit 2) (er:=.ret) rfl rfl (fun x'=>x'.t3=false) (xe:=⟨z,t,o,q,a,c,l,((l.n:Nat):Int),((l.n:Nat):Int),m⟩) (fun j hj=>by
  have e1:bB ((j:Int)+1)=((j+1:Nat):Int):=by rw [eE (by omega) (by omega)]; omega
  have d1:decide ((j:Int) < ((l.n:Nat):Int))=true:=aq (by omega);have d2:decide ((0:Int)<=(j:Int))=true:=aq (by omega);have ej:Int.toNat (j:Int)=j:=rfl;unfold b.eD b.ja
  dsimp only
  rw [d1,d2,ej,e1];simp only [fj,cY,ah];constructor
  ·rintro ⟨h1,h2⟩
   rw [bu (show ¬ l.get j < 0 by omega),bu (show ¬ l.get j >= (m.nU.n:Int) by omega)];rfl
  ·intro h
   by_cases h1:l.get j < 0
   ·rw [aq h1]
    exact ⟨_,rfl,rfl⟩
   ·rw [bu h1,aq (show l.get j >= (m.nU.n:Int) by omega)]
    exact ⟨_,rfl,rfl⟩) (by
  unfold b.eD b.ja
  dsimp only
  rw [bu (Int.lt_irrefl _)];simp only [fj,ah,ay])
 rcases key with ⟨h1,h2⟩ | ⟨x',h1,h2,h3⟩
 ·exact .inl ⟨_,h1,h2⟩
 ·exact .inr ⟨x',h1,h2,h3⟩
theorem aeC (m:b.kE) (hk:JL m) (hp:m.fc.n < 1000000):∃ l r,b.tg m=some (l,r)/\(r=true↔KF m):=by
 unfold b.tg b.pH;obtain ⟨e,x',h1,h2⟩:∃ e x',goN b.lB (⟨⟨0,fun _=>⟨0,0,0⟩⟩,false,⟨0,fun _=>⟨0,0,0⟩⟩,m.fc,((m.fc.n:Nat):Int),(0:Int),m⟩:b.eW) = .out e x'/\((e = .exit 0/\KF m)\/(e = .ret/\x'.t3=false/\¬ KF m)):=by
  refine ku (X:=b.eW) (fun j x=>∃ o:Sl b.ie,x=⟨⟨0,fun _=>⟨0,0,0⟩⟩,false,o,m.fc,((m.fc.n:Nat):Int),(j:Int),m⟩/\o.n=XC m j/\XC m j<=64/\∀ k,k < j->agz m k) (fun e x'=>(e = .exit 0/\KF m)\/(e = .ret/\x'.t3=false/\¬ KF m)) m.fc.n (by unfold gI; omega) ?_ ⟨_,rfl,rfl,by show 0<=64; omega,fun k hk=>absurd hk (nF _)⟩;rintro j _ hj ⟨o,rfl,ho,ht,gU⟩;unfold b.lB b.nI b.bS b.fe
  dsimp only
  by_cases aJ:(j:Int) < ((m.fc.n:Nat):Int)
  ·have d1:decide ((j:Int) < ((m.fc.n:Nat):Int))=true:=aq aJ
   have d2:decide ((0:Int)<=(j:Int))=true:=aq (by omega);have ej:Int.toNat (j:Int)=j:=rfl;obtain ⟨l,e,h1,h2⟩:=aeB (m.fc.get j) (hk j (by omega));have hln:l.n<=200:=by
    rcases h2 with ⟨_,q,h⟩ | ⟨_,_,h⟩
    ·rw [h]; have:=q.2.1; unfold DR G2; split <;> omega
    ·omega
   have da:mv 24 o.n l.n=true:=vt;rw [d1,d2,ej,h1];simp only [nj,iB,ah,cY,fj,da];rcases h2 with ⟨rfl,hpo,hn⟩ | ⟨he,hpo,hn⟩
   ·have bx:((0:Int) != 0)=false:=rfl
    rw [bx,ay];have hs:XC m (j+1)=o.n+l.n:=by show XC m j+DR _=_; rw [ho,hn]
    by_cases h64:(((o.n+l.n:Nat)):Int) > 64
    ·rw [aq h64]
     exact .inr ⟨_,_,rfl,rfl,.inr ⟨rfl,rfl,fun k=>by have:=ahM m (show j+1<=m.fc.n by omega); have:=k.2; omega⟩⟩
    ·rw [bu h64,ay]
     have e1:bB ((j:Int)+1)=((j+1:Nat):Int):=by rw [eE (by omega) (by omega)]; omega
     rcases acX ⟨0,fun _=>⟨0,0,0⟩⟩ (o.join l) false m.fc ((m.fc.n:Nat):Int) (j:Int) (m.fc.get j).index (by have:=hpo.2.1; omega) m with ⟨k,q1,q2⟩ | ⟨x',q1,q2,i,q3,q4⟩
     ·rw [q1]
      simp only [ba.qI,ba.nL,fj,ah];rw [e1];refine .inl ⟨_,rfl,by omega,o.join l,rfl,by rw [hs]; rfl,by omega,fun k' pd=>?_⟩;by_cases e:k' = j
      ·subst e; exact ⟨hpo,q2⟩
      ·exact gU k' (by omega)
     ·rw [q1]
      simp only [ba.qI,ba.nL,fj,ah];exact .inr ⟨_,_,rfl,rfl,.inr ⟨rfl,q2,fun k=>q4 ((k.1 j (by omega)).2 i q3)⟩⟩
   ·have bx:(e != (0:Int))=true:=by rw [bne_iff_ne]; exact he
    rw [bx];exact .inr ⟨_,_,rfl,rfl,.inr ⟨rfl,rfl,fun k=>hpo (k.1 j (by omega)).1⟩⟩
  ·rw [bu aJ,ay]
   simp only [fj,ah];have:j=m.fc.n:=by omega
   subst this;exact .inr ⟨_,_,rfl,rfl,.inl ⟨rfl,gU,ht⟩⟩
 rw [h1];rcases h2 with ⟨rfl,h2⟩ | ⟨rfl,h2,h3⟩
 ·exact ⟨_,true,rfl,⟨fun _=>h2,fun _=>rfl⟩⟩
 ·exact ⟨_,x'.t3,rfl,⟨fun k=>by rw [h2] at k; simp at k,fun k=>absurd k h3⟩⟩
def acY (q:b.wT):Prop:=0<=q.e0/\q.e0<=255/\0<=q.e1/\q.e1<=255
def aay (m:b.kE):Prop:=m.nU.n<=64/\m.uV.n<=64/\m.fc.n<=16
def G3 (m:b.kE):Prop:=aay m/\m.uV.n=m.nU.n/\(∀ i,i < m.nU.n->xp (m.nU.get i) 1024)/\(∀ i,i < m.uV.n->acY (m.uV.get i))/\KF m
theorem acZ (s:Sl b.yh) (hs:s.n<=64):(∃ x',goN b.bm (⟨s,(0:Int),((s.n:Nat):Int),(0:Int)⟩:b.bC) = .out (.exit 0) x'/\∀ i,i < s.n->xp (s.get i) 1024)\/
  ∃ x',goN b.bm (⟨s,(0:Int),((s.n:Nat):Int),(0:Int)⟩:b.bC) = .out .ret x'/\x'.t4 >= 0/\∃ i,i < s.n/\¬ xp (s.get i) 1024:=by
 have key:=lD (step:=b.bm) s.n (by unfold gI; omega) (fun j=>⟨s,(0:Int),((s.n:Nat):Int),(j:Int)⟩) (fun k=>xp (s.get k) 1024) (e0:=.exit 0) (er:=.ret) rfl rfl (fun x'=>x'.t4 >= 0) (xe:=⟨s,(0:Int),((s.n:Nat):Int),((s.n:Nat):Int)⟩) (fun j hj=>by
  have e1:bB ((j:Int)+1)=((j+1:Nat):Int):=by rw [eE (by omega) (by omega)]; omega
  have d1:decide ((j:Int) < ((s.n:Nat):Int))=true:=aq (by omega);have d2:decide ((0:Int)<=(j:Int))=true:=aq (by omega);have ej:Int.toNat (j:Int)=j:=rfl;unfold b.bm xp JK
  dsimp only
  rw [d1,d2,ej,e1];simp only [cY,ah];generalize s.get j=v;have HJ:(j:Int) >= 0:=by omega
  by_cases h1:v.x >= -1024
  ·by_cases h2:v.x<=1024
   ·by_cases h3:v.y >= -1024
    ·by_cases h4:v.y<=1024
     ·by_cases h5:v.z >= -1024
      ·by_cases h6:v.z<=1024
       ·rw [aq h1,aq h2,aq h3,aq h4,aq h5,aq h6]
        exact ⟨fun _=>rfl,fun h=>absurd ⟨⟨h1,h2⟩,⟨h3,h4⟩,h5,h6⟩ h⟩
       ·rw [aq h1,aq h2,aq h3,aq h4,aq h5,bu h6]
        exact ⟨fun h=>absurd h.2.2.2 h6,fun h=>⟨_,rfl,HJ⟩⟩
      ·rw [aq h1,aq h2,aq h3,aq h4,bu h5]
       exact ⟨fun h=>absurd h.2.2.1 h5,fun h=>⟨_,rfl,HJ⟩⟩
     ·rw [aq h1,aq h2,aq h3,bu h4]
      exact ⟨fun h=>absurd h.2.1.2 h4,fun h=>⟨_,rfl,HJ⟩⟩
    ·rw [aq h1,aq h2,bu h3]
     exact ⟨fun h=>absurd h.2.1.1 h3,fun h=>⟨_,rfl,HJ⟩⟩
   ·rw [aq h1,bu h2]
    exact ⟨fun h=>absurd h.1.2 h2,fun h=>⟨_,rfl,HJ⟩⟩
  ·rw [bu h1]
   exact ⟨fun h=>absurd h.1.1 h1,fun h=>⟨_,rfl,HJ⟩⟩) (by
  unfold b.bm
  dsimp only
  rw [bu (Int.lt_irrefl _)];rfl)
 rcases key with ⟨h1,h2⟩ | ⟨x',h1,h2,h3⟩
 ·exact .inl ⟨_,h1,h2⟩
 ·exact .inr ⟨x',h1,h2,h3⟩
theorem ahN (s:Sl b.wT) (hs:s.n<=64):(∃ x',goN b.bo (⟨s,(0:Int),((s.n:Nat):Int),(0:Int)⟩:b.bD) = .out (.exit 0) x'/\∀ i,i < s.n->acY (s.get i))\/
  ∃ x',goN b.bo (⟨s,(0:Int),((s.n:Nat):Int),(0:Int)⟩:b.bD) = .out .ret x'/\x'.t4 >= 0/\∃ i,i < s.n/\¬ acY (s.get i):=by
 have key:=lD (step:=b.bo) s.n (by unfold gI; omega) (fun j=>⟨s,(0:Int),((s.n:Nat):Int),(j:Int)⟩) (fun k=>acY (s.get k)) (e0:=.exit 0) (er:=.ret) rfl rfl (fun x'=>x'.t4 >= 0) (xe:=⟨s,(0:Int),((s.n:Nat):Int),((s.n:Nat):Int)⟩) (fun j hj=>by
  have e1:bB ((j:Int)+1)=((j+1:Nat):Int):=by rw [eE (by omega) (by omega)]; omega
  have d1:decide ((j:Int) < ((s.n:Nat):Int))=true:=aq (by omega);have d2:decide ((0:Int)<=(j:Int))=true:=aq (by omega);have ej:Int.toNat (j:Int)=j:=rfl;unfold b.bo acY
  dsimp only
  rw [d1,d2,ej,e1];simp only [cY,ah];generalize s.get j=v;have HJ:(j:Int) >= 0:=by omega
  by_cases h1:v.e0 < 0
  ·rw [aq h1]
   exact ⟨fun h=>absurd h.1 (by omega),fun h=>⟨_,rfl,HJ⟩⟩
  ·by_cases h2:v.e0 > 255
   ·rw [bu h1,aq h2]
    exact ⟨fun h=>absurd h.2.1 (by omega),fun h=>⟨_,rfl,HJ⟩⟩
   ·by_cases h3:v.e1 < 0
    ·rw [bu h1,bu h2,aq h3]
     exact ⟨fun h=>absurd h.2.2.1 (by omega),fun h=>⟨_,rfl,HJ⟩⟩
    ·by_cases h4:v.e1 > 255
     ·rw [bu h1,bu h2,bu h3,aq h4]
      exact ⟨fun h=>absurd h.2.2.2 (by omega),fun h=>⟨_,rfl,HJ⟩⟩
     ·rw [bu h1,bu h2,bu h3,bu h4]
      exact ⟨fun _=>rfl,fun h=>absurd ⟨by omega,by omega,by omega,by omega⟩ h⟩) (by
  unfold b.bo
  dsimp only
  rw [bu (Int.lt_irrefl _)];rfl)
 rcases key with ⟨h1,h2⟩ | ⟨x',h1,h2,h3⟩
 ·exact .inl ⟨_,h1,h2⟩
 ·exact .inr ⟨x',h1,h2,h3⟩
open Classical in
noncomputable def JM (m:b.kE):Int:=if aay m then (if G3 m then 0 else 40) else 4
theorem aeD (m:b.kE) (hk:JL m):b.rb m=some (JM m):=by
 unfold b.rb b.ti b.th JM;by_cases h1:((m.nU.n:Nat):Int) > 64
 ·rw [aq h1,ae fun k=>by have:=k.1; omega]; rfl
 rw [bu h1];by_cases h2:((m.uV.n:Nat):Int) > 64
 ·rw [aq h2,ae fun k=>by have:=k.2.1; omega]; rfl
 rw [bu h2];by_cases h3:((m.fc.n:Nat):Int) > 16
 ·rw [aq h3,ae fun k=>by have:=k.2.2; omega]; rfl
 rw [bu h3];have hf:aay m:=⟨by omega,by omega,by omega⟩
 rw [ax hf];simp only [ay];by_cases h4:((m.uV.n:Nat):Int)=((m.nU.n:Nat):Int)
 ·rw [bne_eq_false_iff_eq.2 h4,ay]
  unfold b.uE b.uF b.zY;rcases acZ m.nU hf.1 with ⟨x',q1,q2⟩ | ⟨x',q1,q2,i,q3,q4⟩
  ·rw [q1]
   rcases ahN m.uV hf.2.1 with ⟨y',r1,r2⟩ | ⟨y',r1,r2,i,r3,r4⟩
   ·rw [r1]
    obtain ⟨l,r,s1,s2⟩:=aeC m hk (by have:=hf.2.2; omega);rw [s1];cases r with
    | true=>rw [ax ⟨hf,by omega,q2,r2,s2.1 rfl⟩]; rfl
    | false=>rw [ae fun k=>by have:=s2.2 k.2.2.2.2; simp at this]; rfl
   ·rw [r1,ae fun k=>r4 (k.2.2.2.1 i r3)]
    simp only [ba.qI,ba.nL,r2,decide_true];rfl
  ·rw [q1,ae fun k=>q4 (k.2.2.1 i q3)]
   simp only [ba.qI,ba.nL,q2,decide_true];rfl
 ·rw [bne_iff_ne.2 h4,ae fun k=>h4 (by rw [k.2.1])]; rfl
def TN (l:b.oB):Prop:=-1<=l.fN/\l.fN < 16/\l.sv<=2/\-1024<=l.qQ/\l.qQ<=1024/\0<=l.bin/\l.bin<=15
theorem alb {p:Prop} [Decidable p] {x:Option Int} {Q:Prop} (h1:p->¬ Q) (h2 : ¬ p->∃ e,x=some e/\(e=0/\Q\/e=8/\¬ Q)):∃ e,cond (decide p) (some 8) x=some e/\(e=0/\Q\/e=8/\¬ Q):=by
 by_cases h:p
 ·rw [aq h]
  exact ⟨8,rfl,.inr ⟨rfl,h1 h⟩⟩
 ·rw [bu h]
  exact h2 h
theorem aeE (l:b.oB):∃ e,b.kl l=some e/\(e=0/\TN l\/e=8/\¬ TN l):=by
 unfold b.kl TN
 iterate 7 refine alb (fun h k=>by omega) fun _=>?_
 exact ⟨0,rfl,.inl ⟨rfl,by omega⟩⟩
def mF (n:Int):Prop:=n=0\/n=1\/n=3\/n=5\/n=7
def NP (s:b.kQ) (l:b.oB):b.oB:=if s.dn.e0=0 then l else ⟨s.look.color,l.fN,l.sv,l.qQ,l.oV,l.bin⟩
theorem aol (t:Int) (s:b.kQ) (l:b.oB):(mF s.dn.e0->b.aW ⟨t,0,s,l⟩ = .next ⟨t,1,s,NP s l⟩)/\(¬ mF s.dn.e0->∃ x',b.aW ⟨t,0,s,l⟩ = .out .ret x'/\x'.t2=8):=by
 unfold b.aW b.dP b.dN b.dM b.dL b.dK mF NP
 dsimp only
 have e1:bB ((0:Int)+1)=1:=by decide
 rw [e1];constructor
 ·rintro (h | h | h | h | h) <;> rw [h] <;> rfl
 ·intro h
  rw [beq_eq_false_iff_ne.2 (fun k=>h (by omega):s.dn.e0≠0),beq_eq_false_iff_ne.2 (fun k=>h (by omega):s.dn.e0≠1),beq_eq_false_iff_ne.2 (fun k=>h (by omega):s.dn.e0≠3),beq_eq_false_iff_ne.2 (fun k=>h (by omega):s.dn.e0≠5),beq_eq_false_iff_ne.2 (fun k=>h (by omega):s.dn.e0≠7)];exact ⟨_,rfl,rfl⟩
def RH (s:b.kQ) (l:b.oB):b.oB:=if s.dn.e1=0 then l else ⟨l.color,s.look.fN,l.sv,l.qQ,l.oV,l.bin⟩
theorem aom (t:Int) (s:b.kQ) (l:b.oB):(mF s.dn.e1->b.aW ⟨t,1,s,l⟩ = .next ⟨t,2,s,RH s l⟩)/\(¬ mF s.dn.e1->∃ x',b.aW ⟨t,1,s,l⟩ = .out .ret x'/\x'.t2=8):=by
 unfold b.aW b.dP b.dN b.dM b.dL b.dK mF RH
 dsimp only
 have e1:bB ((1:Int)+1)=2:=by decide
 rw [e1];constructor
 ·rintro (h | h | h | h | h) <;> rw [h] <;> rfl
 ·intro h
  rw [beq_eq_false_iff_ne.2 (fun k=>h (by omega):s.dn.e1≠0),beq_eq_false_iff_ne.2 (fun k=>h (by omega):s.dn.e1≠1),beq_eq_false_iff_ne.2 (fun k=>h (by omega):s.dn.e1≠3),beq_eq_false_iff_ne.2 (fun k=>h (by omega):s.dn.e1≠5),beq_eq_false_iff_ne.2 (fun k=>h (by omega):s.dn.e1≠7)];exact ⟨_,rfl,rfl⟩
def WI (s:b.kQ) (l:b.oB):b.oB:=if s.dn.e2=0 then l else ⟨l.color,l.fN,s.look.sv,l.qQ,l.oV,l.bin⟩
theorem aon (t:Int) (s:b.kQ) (l:b.oB):(mF s.dn.e2->b.aW ⟨t,2,s,l⟩ = .next ⟨t,3,s,WI s l⟩)/\(¬ mF s.dn.e2->∃ x',b.aW ⟨t,2,s,l⟩ = .out .ret x'/\x'.t2=8):=by
 unfold b.aW b.dP b.dN b.dM b.dL b.dK mF WI
 dsimp only
 have e1:bB ((2:Int)+1)=3:=by decide
 rw [e1];constructor
 ·rintro (h | h | h | h | h) <;> rw [h] <;> rfl
 ·intro h
  rw [beq_eq_false_iff_ne.2 (fun k=>h (by omega):s.dn.e2≠0),beq_eq_false_iff_ne.2 (fun k=>h (by omega):s.dn.e2≠1),beq_eq_false_iff_ne.2 (fun k=>h (by omega):s.dn.e2≠3),beq_eq_false_iff_ne.2 (fun k=>h (by omega):s.dn.e2≠5),beq_eq_false_iff_ne.2 (fun k=>h (by omega):s.dn.e2≠7)];exact ⟨_,rfl,rfl⟩
def aaz (s:b.kQ) (l:b.oB):b.oB:=if s.dn.e3=0 then l else ⟨l.color,l.fN,l.sv,s.look.qQ,l.oV,l.bin⟩
theorem aoo (t:Int) (s:b.kQ) (l:b.oB):(mF s.dn.e3->b.aW ⟨t,3,s,l⟩ = .next ⟨t,4,s,aaz s l⟩)/\(¬ mF s.dn.e3->∃ x',b.aW ⟨t,3,s,l⟩ = .out .ret x'/\x'.t2=8):=by
 unfold b.aW b.dP b.dN b.dM b.dL b.dK mF aaz
 dsimp only
 have e1:bB ((3:Int)+1)=4:=by decide
 rw [e1];constructor
 ·rintro (h | h | h | h | h) <;> rw [h] <;> rfl
 ·intro h
  rw [beq_eq_false_iff_ne.2 (fun k=>h (by omega):s.dn.e3≠0),beq_eq_false_iff_ne.2 (fun k=>h (by omega):s.dn.e3≠1),beq_eq_false_iff_ne.2 (fun k=>h (by omega):s.dn.e3≠3),beq_eq_false_iff_ne.2 (fun k=>h (by omega):s.dn.e3≠5),beq_eq_false_iff_ne.2 (fun k=>h (by omega):s.dn.e3≠7)];exact ⟨_,rfl,rfl⟩
def aeF (s:b.kQ) (l:b.oB):b.oB:=if s.dn.e4=0 then l else ⟨l.color,l.fN,l.sv,l.qQ,s.look.oV,s.look.bin⟩
theorem aop (t:Int) (s:b.kQ) (l:b.oB):(mF s.dn.e4->b.aW ⟨t,4,s,l⟩ = .next ⟨t,5,s,aeF s l⟩)/\(¬ mF s.dn.e4->∃ x',b.aW ⟨t,4,s,l⟩ = .out .ret x'/\x'.t2=8):=by
 unfold b.aW b.dP b.dN b.dM b.dL b.dK mF aeF
 dsimp only
 have e1:bB ((4:Int)+1)=5:=by decide
 rw [e1];constructor
 ·rintro (h | h | h | h | h) <;> rw [h] <;> rfl
 ·intro h
  rw [beq_eq_false_iff_ne.2 (fun k=>h (by omega):s.dn.e4≠0),beq_eq_false_iff_ne.2 (fun k=>h (by omega):s.dn.e4≠1),beq_eq_false_iff_ne.2 (fun k=>h (by omega):s.dn.e4≠3),beq_eq_false_iff_ne.2 (fun k=>h (by omega):s.dn.e4≠5),beq_eq_false_iff_ne.2 (fun k=>h (by omega):s.dn.e4≠7)];exact ⟨_,rfl,rfl⟩
def G4:b.oB:=⟨⟨0,0,0,0⟩,0,0,0,false,0⟩
def said (s:b.kQ):b.oB:=aeF s (aaz s (WI s (RH s (NP s G4))))
def aaA (s:b.kQ):Prop:=mF s.dn.e0/\mF s.dn.e1/\mF s.dn.e2/\mF s.dn.e3/\mF s.dn.e4
def Qd (s:b.kQ):Prop:=aaA s/\said s=s.look/\TN s.look
theorem aeG (s:b.kQ):(goN b.aW (⟨0,0,s,G4⟩:b.b6) = .out (.exit 0) ⟨0,5,s,said s⟩/\aaA s)\/∃ x',goN b.aW (⟨0,0,s,G4⟩:b.b6) = .out .ret x'/\x'.t2=8/\¬ aaA s:=by
 have key:=lD (step:=b.aW) 5 (by unfold gI; omega) (fun j=>match j with
  | 0=>⟨0,0,s,G4⟩
  | 1=>⟨0,1,s,NP s G4⟩
  | 2=>⟨0,2,s,RH s (NP s G4)⟩
  | 3=>⟨0,3,s,WI s (RH s (NP s G4))⟩
  | 4=>⟨0,4,s,aaz s (WI s (RH s (NP s G4)))⟩
  | _=>⟨0,5,s,said s⟩) (fun j=>match j with
  | 0=>mF s.dn.e0
  | 1=>mF s.dn.e1
  | 2=>mF s.dn.e2
  | 3=>mF s.dn.e3
  | _=>mF s.dn.e4) (e0:=.exit 0) (er:=.ret) rfl rfl (fun x'=>x'.t2=8) (xe:=⟨0,5,s,said s⟩) (fun j hj=>by
   rcases (by omega:j=0\/j=1\/j=2\/j=3\/j=4) with rfl | rfl | rfl | rfl | rfl
   ·exact aol 0 s _
   ·exact aom 0 s _
   ·exact aon 0 s _
   ·exact aoo 0 s _
   ·exact aop 0 s _) rfl
 rcases key with ⟨h1,h2⟩ | ⟨x',h1,h2,j,h3,h4⟩
 ·exact .inl ⟨h1,h2 0 (by omega),h2 1 (by omega),h2 2 (by omega),h2 3 (by omega),h2 4 (by omega)⟩
 ·refine .inr ⟨x',h1,h2,fun k=>h4 ?_⟩
  obtain ⟨k0,k1,k2,k3,k4⟩:=k;rcases (by omega:j=0\/j=1\/j=2\/j=3\/j=4) with rfl | rfl | rfl | rfl | rfl <;> assumption
theorem look_eq (a c:b.oB):((a.color.e0==c.color.e0)&&((a.color.e1==c.color.e1)&&((a.color.e2==c.color.e2)&&((a.color.e3==c.color.e3)&&((a.fN==c.fN)&&((a.sv==c.sv)&&((a.qQ==c.qQ)&&((a.oV==c.oV)&&((a.bin==c.bin)&&true)))))))))=true↔a=c:=by
 obtain ⟨⟨a0,a1,a2,a3⟩,a4,a5,a6,a7,a8⟩:=a;obtain ⟨⟨c0,c1,c2,c3⟩,c4,c5,c6,c7,c8⟩:=c;simp [aj,and_assoc]
theorem ac0 (s:b.kQ):∃ e,b.nY s=some e/\(e=0/\Qd s\/e=8/\¬ Qd s):=by
 unfold b.nY b.xa b.bP;have e0:(⟨0,0,s,⟨⟨0,0,0,0⟩,0,0,0,false,0⟩⟩:b.b6)=⟨0,0,s,G4⟩:=rfl;rw [e0];rcases aeG s with ⟨h1,h2⟩ | ⟨x',h1,h2,h3⟩
 ·rw [h1]
  simp only [ba.qI,ba.nL];by_cases hl:said s=s.look
  ·rw [(look_eq _ _).2 hl]
   obtain ⟨e,q1,q2⟩:=aeE s.look;rw [q1];refine ⟨e,rfl,?_⟩;rcases q2 with ⟨rfl,q2⟩ | ⟨rfl,q2⟩
   ·exact .inl ⟨rfl,h2,hl,q2⟩
   ·exact .inr ⟨rfl,fun k=>q2 k.2.2⟩
  ·rw [Bool.eq_false_iff.2 fun k=>hl ((look_eq _ _).1 k)]
   exact ⟨8,rfl,.inr ⟨rfl,fun k=>hl k.2.1⟩⟩
 ·rw [h1]
  exact ⟨x'.t2,rfl,.inr ⟨h2,fun k=>h3 k.1⟩⟩
theorem cc {α:Type} (a c:Bool) (F X:α):cond a (cond c F X) X=cond (a&&c) F X:=by cases a <;> cases c <;> rfl
theorem cc2 {α:Type} (a c d:Bool) (F X:α):cond a (cond c F (cond d F X)) X=cond (a&&(c||d)) F X:=by cases a <;> cases c <;> cases d <;> rfl
def TP (s:b.kQ):Prop:=(0<=s.dn.e0/\s.dn.e0<=255)/\(0<=s.dn.e1/\s.dn.e1<=255)/\(0<=s.dn.e2/\s.dn.e2<=255)/\(0<=s.dn.e3/\s.dn.e3<=255)/\(0<=s.dn.e4/\s.dn.e4<=255)
def KG (l:Sl Int):Nat->Int
 | 0=>0
 | k+1=>l.get k
def aeH (l:Sl Int):Prop:=(∀ j,j < l.n->KG l j<=l.get j/\l.get j<=8192)/\l.n<=16
theorem ahO (l:Sl Int) (hn:l.n < 1000000):∃ r,b.vJ l=some r/\(r=true↔aeH l):=by
 unfold b.vJ b.uf;have key:=lD (step:=b.ig) l.n (by unfold gI; omega) (fun j=>⟨l,false,KG l j,l,((l.n:Nat):Int),(j:Int)⟩) (fun j=>KG l j<=l.get j/\l.get j<=8192) (e0:=.exit 0) (er:=.ret) rfl rfl (fun x'=>x'.t2=false) (xe:=⟨l,false,KG l l.n,l,((l.n:Nat):Int),((l.n:Nat):Int)⟩) (fun j hj=>by
  have e1:bB ((j:Int)+1)=((j+1:Nat):Int):=by rw [eE (by omega) (by omega)]; omega
  have d1:decide ((j:Int) < ((l.n:Nat):Int))=true:=aq (by omega);have d2:decide ((0:Int)<=(j:Int))=true:=aq (by omega);have ej:Int.toNat (j:Int)=j:=rfl;unfold b.ig
  dsimp only
  rw [d1,d2,ej,e1];simp only [cY,ah];by_cases h1:l.get j < KG l j
  ·rw [aq h1]
   exact ⟨fun h=>absurd h.1 (by omega),fun _=>⟨_,rfl,rfl⟩⟩
  ·by_cases h2:l.get j > 8192
   ·rw [bu h1,aq h2]
    exact ⟨fun h=>absurd h.2 (by omega),fun _=>⟨_,rfl,rfl⟩⟩
   ·rw [bu h1,bu h2]
    exact ⟨fun _=>rfl,fun h=>absurd ⟨by omega,by omega⟩ h⟩) (by
  unfold b.ig
  dsimp only
  rw [bu (Int.lt_irrefl _)];rfl)
 have e0:goN b.ig (⟨l,false,(0:Int),l,((l.n:Nat):Int),(0:Int)⟩:b.lY)=goN b.ig ⟨l,false,KG l 0,l,((l.n:Nat):Int),((0:Nat):Int)⟩:=rfl;rw [e0];rcases key with ⟨h1,h2⟩ | ⟨x',h1,h2,j,h3,h4⟩
 ·rw [h1]
  refine ⟨decide (((l.n:Nat):Int)<=16),rfl,?_⟩;rw [decide_eq_true_iff];exact ⟨fun h=>⟨h2,by omega⟩,fun h=>by have:=h.2; omega⟩
 ·rw [h1]
  exact ⟨x'.t2,rfl,⟨fun h=>by rw [h2] at h; simp at h,fun h=>absurd (h.1 j h3) h4⟩⟩
def JN {α:Type} (a c:Sl α):Prop:=a.n=c.n/\∀ i,i < a.n->a.get i=c.get i
theorem JN.refl {α:Type} (a:Sl α):JN a a:=⟨rfl,fun _ _=>rfl⟩
theorem IJ (a c:Sl Int) (hn:a.n < 1000000):∃ r,b.ko a c=some r/\(r=true↔JN a c):=by
 unfold b.ko b.nJ;by_cases hq:a.n=c.n
 ·have bx:(((a.n:Nat):Int) != ((c.n:Nat):Int))=false:=by simp [hq]
  rw [bx,ay];have key:=lD (step:=b.dy) a.n (by unfold gI; omega) (fun j=>⟨a,c,false,((a.n:Nat):Int),(j:Int)⟩) (fun j=>a.get j=c.get j) (e0:=.exit 0) (er:=.ret) rfl rfl (fun x'=>x'.t4=false) (xe:=⟨a,c,false,((a.n:Nat):Int),((a.n:Nat):Int)⟩) (fun j hj=>by
   have e1:bB ((j:Int)+1)=((j+1:Nat):Int):=by rw [eE (by omega) (by omega)]; omega
   have d1:decide ((j:Int) < ((a.n:Nat):Int))=true:=aq (by omega);have d2:decide ((0:Int)<=(j:Int))=true:=aq (by omega);have d3:decide ((j:Int) < ((c.n:Nat):Int))=true:=aq (by omega);have ej:Int.toNat (j:Int)=j:=rfl;unfold b.dy
   dsimp only
   rw [d1,d2,d3,ej,e1];simp only [cY,ah];by_cases h1:a.get j=c.get j
   ·have:(a.get j != c.get j)=false:=by simp [h1]
    rw [this];exact ⟨fun _=>rfl,fun h=>absurd h1 h⟩
   ·have:(a.get j != c.get j)=true:=by simp [h1]
    rw [this];exact ⟨fun h=>absurd h h1,fun _=>⟨_,rfl,rfl⟩⟩) (by
   unfold b.dy
   dsimp only
   rw [bu (Int.lt_irrefl _)];rfl)
  have e0:goN b.dy (⟨a,c,false,((a.n:Nat):Int),(0:Int)⟩:b.ff)=goN b.dy ⟨a,c,false,((a.n:Nat):Int),((0:Nat):Int)⟩:=rfl;rw [e0];rcases key with ⟨h1,h2⟩ | ⟨x',h1,h2,j,h3,h4⟩
  ·rw [h1]
   exact ⟨true,rfl,⟨fun _=>⟨hq,h2⟩,fun _=>rfl⟩⟩
  ·rw [h1]
   exact ⟨x'.t4,rfl,⟨fun h=>by rw [h2] at h; simp at h,fun h=>absurd (h.2 j h3) h4⟩⟩
 ·have bx:(((a.n:Nat):Int) != ((c.n:Nat):Int))=true:=by simp; omega
  rw [bx,ah];exact ⟨false,rfl,⟨fun h=>by simp at h,fun h=>absurd h.1 hq⟩⟩
theorem ahP (a c:Sl Int) (hn:a.n < 1000000):∃ r,b.pN a c=some r/\(r=true↔JN a c):=by
 unfold b.pN b.tv;by_cases hq:a.n=c.n
 ·have bx:(((a.n:Nat):Int) != ((c.n:Nat):Int))=false:=by simp [hq]
  rw [bx,ay];have key:=lD (step:=b.fh) a.n (by unfold gI; omega) (fun j=>⟨a,c,false,(j:Int)⟩) (fun j=>a.get j=c.get j) (e0:=.exit 0) (er:=.ret) rfl rfl (fun x'=>x'.t4=false) (xe:=⟨a,c,false,((a.n:Nat):Int)⟩) (fun j hj=>by
   have e1:bB ((j:Int)+1)=((j+1:Nat):Int):=by rw [eE (by omega) (by omega)]; omega
   have d1:decide ((j:Int) < ((a.n:Nat):Int))=true:=aq (by omega);have d2:decide ((0:Int)<=(j:Int))=true:=aq (by omega);have d3:decide ((j:Int) < ((c.n:Nat):Int))=true:=aq (by omega);have ej:Int.toNat (j:Int)=j:=rfl;unfold b.fh
   dsimp only
   rw [d1,d2,d3,ej,e1];simp only [cY,ah];by_cases h1:a.get j=c.get j
   ·have:(a.get j != c.get j)=false:=by simp [h1]
    rw [this];exact ⟨fun _=>rfl,fun h=>absurd h1 h⟩
   ·have:(a.get j != c.get j)=true:=by simp [h1]
    rw [this];exact ⟨fun h=>absurd h h1,fun _=>⟨_,rfl,rfl⟩⟩) (by
   unfold b.fh
   dsimp only
   rw [bu (Int.lt_irrefl _)];rfl)
  have e0:goN b.fh (⟨a,c,false,(0:Int)⟩:b.jk)=goN b.fh ⟨a,c,false,((0:Nat):Int)⟩:=rfl;rw [e0];rcases key with ⟨h1,h2⟩ | ⟨x',h1,h2,j,h3,h4⟩
  ·rw [h1]
   exact ⟨true,rfl,⟨fun _=>⟨hq,h2⟩,fun _=>rfl⟩⟩
  ·rw [h1]
   exact ⟨x'.t4,rfl,⟨fun h=>by rw [h2] at h; simp at h,fun h=>absurd (h.2 j h3) h4⟩⟩
 ·have bx:(((a.n:Nat):Int) != ((c.n:Nat):Int))=true:=by simp; omega
  rw [bx,ah];exact ⟨false,rfl,⟨fun h=>by simp at h,fun h=>absurd h.1 hq⟩⟩
def RI (a c:b.Node):Prop:=a.kind=c.kind/\a.nB=c.nB/\a.Tl=c.Tl/\a.lI=c.lI/\JN a.xw c.xw/\a.fR=c.fR/\a.cP=c.cP
theorem alc (a c:b.HK):((a.m.e0.e0==c.m.e0.e0)&&((a.m.e0.e1==c.m.e0.e1)&&((a.m.e0.e2==c.m.e0.e2)&&((a.m.e1.e0==c.m.e1.e0)&&((a.m.e1.e1==c.m.e1.e1)&&((a.m.e1.e2==c.m.e1.e2)&&((a.m.e2.e0==c.m.e2.e0)&&((a.m.e2.e1==c.m.e2.e1)&&((a.m.e2.e2==c.m.e2.e2)&&((a.t.x==c.t.x)&&((a.t.y==c.t.y)&&((a.t.z==c.t.z)&&true))))))))))))=true↔a=c:=by
 obtain ⟨⟨⟨a0,a1,a2⟩,⟨a3,a4,a5⟩,⟨a6,a7,a8⟩⟩,⟨a9,a10,a11⟩⟩:=a;obtain ⟨⟨⟨c0,c1,c2⟩,⟨c3,c4,c5⟩,⟨c6,c7,c8⟩⟩,⟨c9,c10,c11⟩⟩:=c;simp [and_assoc]
theorem ald (a c:b.yh):((a.x==c.x)&&((a.y==c.y)&&((a.z==c.z)&&true)))=true↔a=c:=by
 obtain ⟨a0,a1,a2⟩:=a;obtain ⟨c0,c1,c2⟩:=c;simp
theorem ahQ (a c:b.kQ):((a.dn.e0==c.dn.e0)&&((a.dn.e1==c.dn.e1)&&((a.dn.e2==c.dn.e2)&&((a.dn.e3==c.dn.e3)&&((a.dn.e4==c.dn.e4)&&((a.look.color.e0==c.look.color.e0)&&((a.look.color.e1==c.look.color.e1)&&((a.look.color.e2==c.look.color.e2)&&((a.look.color.e3==c.look.color.e3)&&((a.look.fN==c.look.fN)&&((a.look.sv==c.look.sv)&&((a.look.qQ==c.look.qQ)&&((a.look.oV==c.look.oV)&&((a.look.bin==c.look.bin)&&true))))))))))))))=true↔a=c:=by
 obtain ⟨⟨a0,a1,a2,a3,a4⟩,⟨⟨a5,a6,a7,a8⟩,a9,a10,a11,a12,a13⟩⟩:=a;obtain ⟨⟨c0,c1,c2,c3,c4⟩,⟨⟨c5,c6,c7,c8⟩,c9,c10,c11,c12,c13⟩⟩:=c;simp [and_assoc]
theorem RJ {p:Prop} {c:Bool} {x:Option Bool} {Q:Prop} (hc:c=true↔p) (h1 : ¬ p->¬ Q) (h2:p->∃ r,x=some r/\(r=true↔Q)):∃ r,cond c x (some false)=some r/\(r=true↔Q):=by
 cases c with
 | false=>exact ⟨false,rfl,⟨fun k=>by simp at k,fun k=>absurd k (h1 fun q=>by have:=hc.2 q; simp at this)⟩⟩
 | true=>exact h2 (hc.1 rfl)
theorem WJ (a c:b.Node) (hn:a.xw.n < 1000000):∃ r,b.qz a c=some r/\(r=true↔RI a c):=by
 unfold b.qz b.Cr;obtain ⟨r,q1,q2⟩:=IJ a.xw c.xw hn;rw [q1,nj,iB,ah];refine RJ rC (fun h k=>h k.1) fun g1=>?_;refine RJ (alc _ _) (fun h k=>h k.2.1) fun g2=>?_;refine RJ rC (fun h k=>h k.2.2.1) fun g3=>?_;refine RJ (ald _ _) (fun h k=>h k.2.2.2.1) fun g4=>?_;refine RJ q2 (fun h k=>h k.2.2.2.2.1) fun g5=>?_;refine RJ rC (fun h k=>h k.2.2.2.2.2.1) fun g6=>?_;exact ⟨_,rfl,(ahQ _ _).trans ⟨fun h=>⟨g1,g2,g3,g4,g5,g6,h⟩,fun h=>h.2.2.2.2.2.2⟩⟩
def YF:b.HK:=⟨⟨⟨0,0,0⟩,⟨0,0,0⟩,⟨0,0,0⟩⟩,⟨0,0,0⟩⟩
def YG:b.yh:=⟨0,0,0⟩
def agA:Sl Int:=⟨0,fun _=>0⟩
def aaB (s:b.aE) (n:b.Node):Prop:=(1<=n.kind/\n.kind<=5)/\Qd n.cP/\(n.cP.dn.e1=0\/n.cP.look.fN < (s.iR.n:Int))/\(n.kind=2->NM n.nB)/\(n.kind≠2->n.nB=YF)/\(n.kind≠3->n.Tl=0)/\(n.kind=4->xp n.lI 4096/\aeH n.xw)/\(n.kind≠4->n.lI=YG/\n.xw.n=0)/\(n.kind=5->0<=n.fR/\n.fR < (s.fE.n:Int))/\(n.kind≠5->n.fR=0)
theorem ac1 {c:Bool} {p:Prop} (h:c=true↔p):(!c)=true↔¬ p:=by
 cases c <;> simp at h ⊢ <;> exact h
theorem ama {c d:Bool} {p q:Prop} (h:c=true↔p) (k:d=true↔q):(c&&d)=true↔p/\q:=by
 rw [aj,h,k]
theorem orI {c d:Bool} {p q:Prop} (h:c=true↔p) (k:d=true↔q):(c||d)=true↔p\/q:=by
 rw [oh,h,k]
theorem Qe {p:Prop} [Decidable p] : decide p=true↔p:=decide_eq_true_iff
theorem S3 {x y:Int} : (x==y)=true↔x=y:=rC
theorem neI {x y:Int} : (x != y)=true↔x≠y:=bne_iff_ne
def WK (n:b.Node):Prop:=(1<=n.kind/\n.kind<=5)/\(n.kind=2->NM n.nB)/\(n.kind=4->xp n.lI 4096/\aeH n.xw)
open Classical in
theorem ac2 (n:b.Node) (hn:n.xw.n < 1000000):∃ ok,b.rf n=some (⟨n.kind,if n.kind=2 then n.nB else YF,if n.kind=3 then n.Tl else 0,if n.kind=4 then n.lI else YG,if n.kind=4 then n.xw else agA,if n.kind=5 then n.fR else 0,n.cP⟩,ok)/\(ok=true↔WK n):=by
 unfold b.rf b.z7 b.z8 b.Aa;obtain ⟨e1,q1,i1⟩:=WG n.nB;have q2:=SW n.lI;obtain ⟨r3,q3,i3⟩:=ahO n.xw hn;simp only [q1,q2,q3,nj,iB,ah];obtain ⟨k,m,o,c,f,x,st⟩:=n
 dsimp only at *
 unfold WK
 dsimp only
 by_cases h1:k=1
 ·subst h1
  exact ⟨true,rfl,by simp⟩
 have g1:(k==(1:Int))=false:=by rw [<- Bool.not_eq_true,S3]; exact h1
 rw [g1,ay];by_cases h2:k=2
 ·subst h2
  refine ⟨_,rfl,?_⟩;rw [S3];rcases i1 with ⟨a,c⟩ | ⟨a,c⟩ <;> simp [a,c]
 have g2:(k==(2:Int))=false:=by rw [<- Bool.not_eq_true,S3]; exact h2
 rw [g2,ay];by_cases h3:k=3
 ·subst h3
  exact ⟨true,rfl,by simp⟩
 have g3:(k==(3:Int))=false:=by rw [<- Bool.not_eq_true,S3]; exact h3
 rw [g3,ay];by_cases h4:k=4
 ·subst h4
  by_cases hv:xp c 4096
  ·rw [ax hv]
   exact ⟨r3,rfl,i3.trans (by simp [hv])⟩
  ·rw [ae hv]
   exact ⟨false,rfl,by simp [hv]⟩
 have g4:(k==(4:Int))=false:=by rw [<- Bool.not_eq_true,S3]; exact h4
 rw [g4,ay];by_cases h5:k=5
 ·subst h5
  exact ⟨true,rfl,by simp⟩
 have g5:(k==(5:Int))=false:=by rw [<- Bool.not_eq_true,S3]; exact h5
 rw [g5,ay,ae h2,ae h3,ae h4,ae h4,ae h5];exact ⟨false,rfl,by simp; omega⟩
theorem Ec {p:Prop} {c:Bool} {x:Option Int} {Q:Prop} (hc:c=true↔p) (h1:p->¬ Q) (h2 : ¬ p->∃ e,x=some e/\(e=0/\Q\/e=8/\¬ Q)):∃ e,cond c (some 8) x=some e/\(e=0/\Q\/e=8/\¬ Q):=by
 cases c with
 | true=>exact ⟨8,rfl,.inr ⟨rfl,h1 (hc.1 rfl)⟩⟩
 | false=>exact h2 fun q=>by have:=hc.2 q; simp at this
theorem aeI (s:b.aE) (n:b.Node) (hs:TP n.cP) (hn:n.xw.n < 1000000):∃ e,b.mn s n=some e/\(e=0/\aaB s n\/e=8/\¬ aaB s n):=by
 unfold b.mn b.oE b.tJ b.o7 b.tK;obtain ⟨ok,q1,i1⟩:=ac2 n hn;simp only [q1,nj,iB,ah];obtain ⟨r2,q2,i2⟩:=WJ ⟨n.kind,if n.kind=2 then n.nB else YF,if n.kind=3 then n.Tl else 0,if n.kind=4 then n.lI else YG,if n.kind=4 then n.xw else agA,if n.kind=5 then n.fR else 0,n.cP⟩ n (by
  by_cases h:n.kind=4
  ·simp only [ax h]; exact hn
  ·simp only [ae h]; exact (by decide:(0:Nat) < 1000000))
 obtain ⟨e3,q3,i3⟩:=ac0 n.cP;simp only [q2,q3,nj,iB,ah,cc2,cc];have amb:0<=n.cP.dn.e1:=hs.2.1.1;have i2' : r2=true↔(n.kind≠2->n.nB=YF)/\(n.kind≠3->n.Tl=0)/\(n.kind≠4->n.lI=YG/\n.xw.n=0)/\(n.kind≠5->n.fR=0):=by
  rw [i2];unfold RI
  dsimp only
  constructor
  ·rintro ⟨_,a2,a3,a4,a5,a6,_⟩
   refine ⟨fun h=>?_,fun h=>?_,fun h=>⟨?_,?_⟩,fun h=>?_⟩
   ·rw [ae h] at a2; exact a2.symm
   ·rw [ae h] at a3; exact a3.symm
   ·rw [ae h] at a4; exact a4.symm
   ·rw [ae h] at a5; exact a5.1.symm
   ·rw [ae h] at a6; exact a6.symm
  ·rintro ⟨a1,a2,a3,a4⟩
   refine ⟨rfl,?_,?_,?_,?_,?_,rfl⟩
   ·by_cases h:n.kind=2
    ·rw [ax h]
    ·rw [ae h]; exact (a1 h).symm
   ·by_cases h:n.kind=3
    ·rw [ax h]
    ·rw [ae h]; exact (a2 h).symm
   ·by_cases h:n.kind=4
    ·rw [ax h]
    ·rw [ae h]; exact (a3 h).1.symm
   ·by_cases h:n.kind=4
    ·rw [ax h]; exact JN.refl _
    ·rw [ae h]; exact ⟨(a3 h).2.symm,fun i hi=>absurd hi (nF i)⟩
   ·by_cases h:n.kind=5
    ·rw [ax h]
    ·rw [ae h]; exact (a4 h).symm
 refine Ec (ac1 i1) (fun h k=>h ⟨k.1,k.2.2.2.1,k.2.2.2.2.2.2.1⟩) fun k1=>?_;refine Ec (ac1 i2') (fun h k=>h ⟨k.2.2.2.2.1,k.2.2.2.2.2.1,k.2.2.2.2.2.2.2.1,k.2.2.2.2.2.2.2.2.2⟩) fun k2=>?_;refine Ec neI (fun h k=>by
  rcases i3 with g | g
  ·exact h g.1
  ·exact g.2 k.2.1) fun k3=>?_
 have c1:WK n:=Classical.byContradiction k1;have c2:=Classical.byContradiction k2;have c3:Qd n.cP:=by
  rcases i3 with g | g
  ·exact g.2
  ·exact absurd (fun h=>by rw [g.1] at h; simp at h) k3
 refine Ec (ama S3 (orI Qe Qe)) (fun h k=>by have:=k.2.2.2.2.2.2.2.2.1 h.1; omega) fun k4=>?_;refine Ec (ama neI Qe) (fun h k=>by rcases k.2.2.1 with g | g <;> omega) fun k5=>?_;exact ⟨0,rfl,.inl ⟨rfl,c1.1,c3,by omega,c1.2.1,c2.1,c2.2.1,c1.2.2,c2.2.2.1,fun h=>by omega,c2.2.2.2⟩⟩
end Go.Proofs.YtckbdndhmcoihaaGreat.sc
end
section
namespace Go.Proofs.YtckbdndhmcoihaaGreat.nodes
open Go Go.K
def aaC (s:b.Slot):Prop:=1<=s.gen/\s.gen<=1073741824
structure zy (a:b.lX):Prop where
 few:a.ct.n<=128
 amc:∀ i,i < a.ct.n->aaC (a.ct.get i)
theorem JO (a:b.lX):∃ n,b.dz a=some n/\(n=0/\zy a\/n=8/\¬ zy a):=by
 unfold b.dz;by_cases h:((a.ct.n:Nat):Int) > 128
 ·rw [aq h,ah]
  exact ⟨8,rfl,.inr ⟨rfl,fun k=>by have:=k.few; omega⟩⟩
 ·rw [bu h,ay]
  obtain ⟨e,x',h1,h2⟩:∃ e x',b.pC a = .out e x'/\((e = .exit 0/\∀ i,i < a.ct.n->aaC (a.ct.get i))\/(e = .ret/\0<=x'.t4/\¬ zy a)):=by
   unfold b.pC;refine ku (X:=b.bR) (fun j x=>x.s=a.ct/\x.t7=(a.ct.n:Int)/\x.t8=(j:Int)/\∀ i,i < j->aaC (a.ct.get i)) (fun e x'=>(e = .exit 0/\∀ i,i < a.ct.n->aaC (a.ct.get i))\/(e = .ret/\0<=x'.t4/\¬ zy a)) a.ct.n (by unfold gI; omega) ?_ ⟨rfl,rfl,rfl,fun i hi=>absurd hi (nF _)⟩;rintro j ⟨s,t4,t7,t8⟩ hj ⟨rfl,rfl,rfl,bM⟩;unfold b.db
   dsimp only
   by_cases aJ:(j:Int) < (a.ct.n:Int)
   ·have h0:(0:Int)<=(j:Int):=by omega
    rw [aq aJ,aq h0,ah,yD,ah];have ej:Int.toNat (j:Int)=j:=rfl;rw [ej];by_cases g1:(a.ct.get j).gen < 1
    ·rw [aq g1,ah]
     exact .inr ⟨_,_,rfl,rfl,.inr ⟨rfl,h0,fun k=>by have:=(k.amc j (by omega)).1; omega⟩⟩
    ·rw [bu g1,ay]
     by_cases g2:(a.ct.get j).gen > 1073741824
     ·rw [aq g2,ah]
      exact .inr ⟨_,_,rfl,rfl,.inr ⟨rfl,h0,fun k=>by have:=(k.amc j (by omega)).2; omega⟩⟩
     ·rw [bu g2,ay]
      refine .inl ⟨_,rfl,by omega,rfl,rfl,?_,fun i hi=>?_⟩
      ·show bB ((j:Int)+1)=_
       rw [eE (by omega) (by omega)];omega
      ·by_cases e:i=j
       ·subst e; exact ⟨by omega,by omega⟩
       ·exact bM i (by omega)
   ·rw [bu aJ,ay]
    exact .inr ⟨_,_,rfl,rfl,.inl ⟨rfl,fun i hi=>bM i (by omega)⟩⟩
  rw [h1];rcases h2 with ⟨rfl,h2⟩ | ⟨rfl,h2,h3⟩
  ·exact ⟨0,rfl,.inl ⟨rfl,by omega,h2⟩⟩
  ·refine ⟨8,?_,.inr ⟨rfl,h3⟩⟩
   show cond false _ (cond true (cond (decide (x'.t4 >= 0)) _ _) _)=_;rw [aq (show x'.t4 >= 0 from h2)];rfl
def iW (a:b.lX) (h:b.Handle):Prop:=0<=h.slot/\h.slot < (a.ct.n:Int)/\(a.ct.get h.slot.toNat).gen=h.gen/\(a.ct.get h.slot.toNat).live=true
theorem aeJ (a:b.lX) (h:b.Handle):∃ r,b.jU a h=some r/\(r=true↔iW a h):=by
 unfold b.jU iW;by_cases h1:h.slot >= 0
 ·by_cases h2:h.slot < (a.ct.n:Int)
  ·rw [aq h1,aq h2,ah,ah]
   refine ⟨_,rfl,?_⟩;simp only [aj,rC,yD];exact ⟨fun k=>⟨h1,h2,k.1,k.2⟩,fun k=>⟨k.2.2.1,k.2.2.2⟩⟩
  ·rw [aq h1,bu h2,ah,ay]
   exact ⟨false,rfl,⟨fun k=>by simp at k,fun k=>absurd k.2.1 h2⟩⟩
 ·rw [bu h1,ay]
  exact ⟨false,rfl,⟨fun k=>by simp at k,fun k=>absurd k.1 h1⟩⟩
theorem SX (a:b.lX) (h:b.Handle):∃ r,b.de a h=some r/\(r=true↔zy a/\iW a h):=by
 obtain ⟨n,hn,hs⟩:=JO a;obtain ⟨r,hr,hh⟩:=aeJ a h;unfold b.de b.pD b.pE;rw [hn,hr];rcases hs with ⟨rfl,ha⟩ | ⟨rfl,ha⟩
 ·exact ⟨r,rfl,hh.trans ⟨fun k=>⟨ha,k⟩,fun k=>k.2⟩⟩
 ·exact ⟨false,rfl,⟨fun k=>by simp at k,fun k=>absurd k.1 ha⟩⟩
def ac3 (g:b.gq) (i:Nat):Prop:=(g.kids.get i).n<=16/\(0 < (g.kids.get i).n->(g.b5.ct.get i).live=true)/\∀ k,k < (g.kids.get i).n->iW g.b5 ((g.kids.get i).get k)
theorem agB {g:b.gq} (ha:zy g.b5) (i:Nat):lM g i↔ac3 g i:=by
 have key:∀ h,b.de g.b5 h=some true↔iW g.b5 h:=fun h=>by
  obtain ⟨r,hr,hh⟩:=SX g.b5 h;rw [hr,aR,hh];exact ⟨fun k=>k.2,fun k=>⟨ha,k⟩⟩
 exact ⟨fun h=>⟨h.1,h.2.1,fun k hk=>(key _).1 (h.2.2 k hk)⟩,fun h=>⟨h.1,h.2.1,fun k hk=>(key _).2 (h.2.2 k hk)⟩⟩
theorem Fv (g:b.gq):mL g↔zy g.b5/\g.kids.n=g.b5.ct.n/\(∀ i,i < g.kids.n->ac3 g i)/\∀ i,i < g.kids.n->Ap g i:=by
 obtain ⟨n,hn,hs⟩:=JO g.b5;constructor
 ·intro h
  rcases hs with ⟨rfl,ha⟩ | ⟨rfl,ha⟩
  ·exact ⟨ha,h.len,fun i hi=>(agB ha i).1 (h.row i hi),h.free⟩
  ·have:=h.ct
   rw [hn] at this;simp at this
 ·rintro ⟨ha,hl,hr,hf⟩
  rcases hs with ⟨rfl,_⟩ | ⟨rfl,hb⟩
  ·exact ⟨hn,hl,fun i hi=>(agB ha i).2 (hr i hi),hf⟩
  ·exact absurd ha hb
end Go.Proofs.YtckbdndhmcoihaaGreat.nodes
end
section
namespace Go.Proofs.YtckbdndhmcoihaaGreat.nodes
open Go Go.K Go.vr
def dg (g:b.gq) (i:Nat):Nat:=(g.kids.get i).n
def ch (g:b.gq) (i k:Nat):Nat:=((g.kids.get i).get k).slot.toNat
structure Fit (g:b.gq):Prop where
 small:g.kids.n < 1000000
 few:∀ i,i < g.kids.n->dg g i < 1000000
 inr:∀ i,i < g.kids.n->∀ k,k < dg g i->0<=((g.kids.get i).get k).slot/\((g.kids.get i).get k).slot < (g.kids.n:Int)
theorem ahR {g:b.gq} {i:Nat} {x:Int×Int} (h:Reach (qOf g) ((i:Int),(g.b5.ct.get i).gen) x):vr.Below (dg g) (ch g) i x.1.toNat:=by
 induction h with
 | here=>exact .here
 | dw h k hk _ ih=>exact .dw h.1.toNat k hk ih
theorem ahS {g:b.gq} (hr:∀ i,i < g.kids.n->ac3 g i) (hlen:g.kids.n=g.b5.ct.n) {i j:Nat} (h:vr.Below (dg g) (ch g) i j):∀ x:b.Handle,x.slot.toNat=j->iW g.b5 x->Reach (qOf g) ((i:Int),(g.b5.ct.get i).gen) (hp x):=by
 induction h with
 | here=>
  rintro ⟨s,gn⟩ e ⟨h1,h2,h3,_⟩;have h1:0<=s:=h1;have e:s.toNat=i:=e;have h3:(g.b5.ct.get s.toNat).gen=gn:=h3;have:hp ⟨s,gn⟩=((i:Int),(g.b5.ct.get i).gen):=by
   show (s,gn)=_;rw [<- h3,e];congr 1;omega
  rw [this];exact .here
 | dw j k hk _ ih=>
  rintro x e ⟨h1,h2,_,_⟩;subst e;have hj:x.slot.toNat < g.kids.n:=by omega
  exact .dw (q:=qOf g) (hp x) k hk (ih ((g.kids.get x.slot.toNat).get k) rfl ((hr _ hj).2.2 k hk))
theorem ahT {g:b.gq} (hr:∀ i,i < g.kids.n->ac3 g i) (hlen:g.kids.n=g.b5.ct.n):(∀ i,i < g.kids.n->nodes.Ap g i)↔vr.Ap g.kids.n (dg g) (ch g):=
 ⟨fun h i hi k hk hb=>h i hi k hk (ahS hr hlen hb _ rfl ((hr i hi).2.2 k hk)),fun h i hi k hk hb=>h i hi k hk (ahR hb)⟩
theorem ale {g:b.gq} (ha:zy g.b5) (hlen:g.kids.n=g.b5.ct.n) (hr:∀ i,i < g.kids.n->ac3 g i):Fit g:=by
 have:=ha.few;exact ⟨by omega,fun i hi=>by have:=(hr i hi).1; unfold dg; omega,fun i hi k hk=>by have:=(hr i hi).2.2 k hk; exact ⟨this.1,by rw [hlen]; exact this.2.1⟩⟩
open Classical in
theorem ac4 (g:b.gq):zq g=some (if mL g then 0 else 8):=by
 obtain ⟨n,hn,_⟩:=JO g.b5;unfold zq;rw [hn];rfl
end Go.Proofs.YtckbdndhmcoihaaGreat.nodes
end
section
namespace Go.Proofs.YtckbdndhmcoihaaGreat.sc
open Go Go.K Go.Proofs.YtckbdndhmcoihaaGreat.nodes
theorem XD (m:b.kE):JM m=0↔G3 m:=by
 unfold JM;by_cases h:aay m
 ·rw [ax h]
  by_cases k:G3 m
  ·rw [ax k]; exact ⟨fun _=>k,fun _=>rfl⟩
  ·rw [ae k]; exact ⟨fun q=>by simp at q,fun q=>absurd q k⟩
 ·rw [ae h]; exact ⟨fun q=>by simp at q,fun q=>absurd q.1 h⟩
def aeK:b.Node:=⟨0,YF,0,YG,agA,0,⟨⟨0,0,0,0,0⟩,⟨⟨0,0,0,0⟩,0,0,0,false,0⟩⟩⟩
def vu:b.Handle:=⟨0,0⟩
def Qf (s:b.aE) (i:Nat):Prop:=((s.graph.b5.ct.get i).live=true->aaB s (s.nodes.get i))/\((s.graph.b5.ct.get i).live=false->RI (s.nodes.get i) aeK)/\((s.nodes.get i).kind=5->(s.graph.kids.get i).n=0)
def ahU (s:b.aE):Prop:=s.fE.n<=32/\s.iR.n<=16/\(∀ i,i < s.fE.n->G3 (s.fE.get i))/\∀ i,i < s.iR.n->NN (s.iR.get i)
def kh (s:b.aE):Prop:=mL s.graph/\s.nodes.n=s.graph.kids.n/\ahU s/\(∀ i,i < s.nodes.n->Qf s i)/\(s.root=vu\/iW s.graph.b5 s.root)
def Fw (s:b.aE):Prop:=(∀ i,i < s.nodes.n->TP (s.nodes.get i).cP/\(s.nodes.get i).xw.n < 1000000)/\(∀ i,i < s.fE.n->JL (s.fE.get i))/\s.graph.b5.ct.n < 1000000/\s.nodes.n < 1000000/\s.fE.n < 1000000/\s.iR.n < 1000000
theorem aaD (s:Sl b.kE) (hs:s.n<=1000) (hk:∀ i,i < s.n->JL (s.get i)):(∃ x',goN b.bp (⟨s,(0:Int),((s.n:Nat):Int),(0:Int)⟩:b.bf) = .out (.exit 0) x'/\∀ i,i < s.n->G3 (s.get i))\/
  ∃ x',goN b.bp (⟨s,(0:Int),((s.n:Nat):Int),(0:Int)⟩:b.bf) = .out .ret x'/\x'.t4 >= 0/\∃ i,i < s.n/\¬ G3 (s.get i):=by
 have key:=lD (step:=b.bp) s.n (by unfold gI; omega) (fun j=>⟨s,(0:Int),((s.n:Nat):Int),(j:Int)⟩) (fun k=>G3 (s.get k)) (e0:=.exit 0) (er:=.ret) rfl rfl (fun x'=>x'.t4 >= 0) (xe:=⟨s,(0:Int),((s.n:Nat):Int),((s.n:Nat):Int)⟩) (fun j hj=>by
  have e1:bB ((j:Int)+1)=((j+1:Nat):Int):=by rw [eE (by omega) (by omega)]; omega
  have d1:decide ((j:Int) < ((s.n:Nat):Int))=true:=aq (by omega);have d2:decide ((0:Int)<=(j:Int))=true:=aq (by omega);have ej:Int.toNat (j:Int)=j:=rfl;unfold b.bp b.gw
  dsimp only
  have HJ:(j:Int) >= 0:=by omega
  rw [d1,d2,ej,e1,aeD _ (hk j hj)];simp only [cY,ah,nj,iB];rw [<- XD];by_cases h:JM (s.get j)=0
  ·rw [bne_eq_false_iff_eq.2 h]
   exact ⟨fun _=>rfl,fun k=>absurd h k⟩
  ·rw [bne_iff_ne.2 h]
   exact ⟨fun k=>absurd k h,fun _=>⟨_,rfl,HJ⟩⟩) (by
  unfold b.bp
  dsimp only
  rw [bu (Int.lt_irrefl _)];rfl)
 rcases key with ⟨h1,h2⟩ | ⟨x',h1,h2,h3⟩
 ·exact .inl ⟨_,h1,h2⟩
 ·exact .inr ⟨x',h1,h2,h3⟩
theorem aeL (s:Sl b.kb) (hs:s.n<=1000):(∃ x',goN b.bq (⟨s,(0:Int),((s.n:Nat):Int),(0:Int)⟩:b.bh) = .out (.exit 0) x'/\∀ i,i < s.n->NN (s.get i))\/
  ∃ x',goN b.bq (⟨s,(0:Int),((s.n:Nat):Int),(0:Int)⟩:b.bh) = .out .ret x'/\x'.t4 >= 0/\∃ i,i < s.n/\¬ NN (s.get i):=by
 have key:=lD (step:=b.bq) s.n (by unfold gI; omega) (fun j=>⟨s,(0:Int),((s.n:Nat):Int),(j:Int)⟩) (fun k=>NN (s.get k)) (e0:=.exit 0) (er:=.ret) rfl rfl (fun x'=>x'.t4 >= 0) (xe:=⟨s,(0:Int),((s.n:Nat):Int),((s.n:Nat):Int)⟩) (fun j hj=>by
  have e1:bB ((j:Int)+1)=((j+1:Nat):Int):=by rw [eE (by omega) (by omega)]; omega
  have d1:decide ((j:Int) < ((s.n:Nat):Int))=true:=aq (by omega);have d2:decide ((0:Int)<=(j:Int))=true:=aq (by omega);have ej:Int.toNat (j:Int)=j:=rfl;unfold b.bq b.gx
  dsimp only
  have HJ:(j:Int) >= 0:=by omega
  obtain ⟨e,q1,q2⟩:=ahL (s.get j);rw [d1,d2,ej,e1,q1];simp only [cY,ah,nj,iB];rcases q2 with ⟨h,k⟩ | ⟨h,k⟩
  ·rw [h]
   exact ⟨fun _=>rfl,fun g=>absurd k g⟩
  ·rw [h]
   exact ⟨fun g=>absurd g k,fun _=>⟨_,rfl,HJ⟩⟩) (by
  unfold b.bq
  dsimp only
  rw [bu (Int.lt_irrefl _)];rfl)
 rcases key with ⟨h1,h2⟩ | ⟨x',h1,h2,h3⟩
 ·exact .inl ⟨_,h1,h2⟩
 ·exact .inr ⟨x',h1,h2,h3⟩
end Go.Proofs.YtckbdndhmcoihaaGreat.sc
end
