/- Part of the proof of PathsWhole: the machine, shown to be the model's, and plain models. No conditions. -/
import Derived.Test.YtckbdndhmcoihaaGreatIq
import Derived.Test.YtckbdndhmcoihaaGreatHq
import Derived.Test.YtckbdndhmcoihaaGreatDq
import Derived.Test.YtckbdndhmcoihaaGreatProg
import Derived.WalkKit
import Derived.Lib.Walk
import Derived.Lib.SliceRun
import Derived.Lib.AppendZerosOnto
import Derived.Lib.Overlaps
import Derived.Laws.IdiomCopy
import Derived.Laws.Externs
import Derived.Shelf.RegionOpenPlain
set_option linter.unusedSimpArgs false
set_option linter.unusedVariables false
section
set_option maxRecDepth 20000
namespace Go.Proofs.YtckbdndhmcoihaaGreat.DY
open Go Go.RowKit Go.Lib Go.Shelf Go.K
open nodes (s5)
theorem anQ:aJ Tryz.prog 35=1:=by kernel_rfl
theorem ajr:aJ Tryz.prog 32=2:=by kernel_rfl
theorem anR:aJ Tryz.prog 77=33:=by kernel_rfl
theorem ahl {E:Env} {A:ai} {B:aA.St} {ρ:aA.Ren} {base:Nat} {w:World} {s:b.aD} {u:Value} (hj:KJ Tryz.prog E A B ρ base w) (h:VC Tryz.prog E ρ (b.xc s) u) :
  ∃ (q:Q) (x0 x3 x4:Value),u = .agg #[x0,.slice q.ka s.graph.kids.n q.kc,.slice q.na s.nodes.n q.nc,x3,x4,.int .i64 s.root.slot,.int .i64 s.root.gen]/\QAt s q w.heap.size w:=by
 obtain ⟨l,rfl,hl⟩:=h.af2;obtain ⟨x0,l1,rfl,h0,AL⟩:=hl.qQ;obtain ⟨x1,l2,rfl,h1,iM⟩:=AL.qQ;obtain ⟨x2,l3,rfl,h2,WR⟩:=iM.qQ;obtain ⟨x3,l4,rfl,h3,hl4⟩:=WR.qQ;obtain ⟨x4,l5,rfl,h4,hl5⟩:=hl4.qQ;obtain ⟨x5,l6,rfl,h5,hl6⟩:=hl5.qQ;obtain ⟨x6,l7,rfl,h6,hl7⟩:=hl6.qQ;obtain rfl:=hl7.Pr;obtain ⟨ka,kc,rfl,H2⟩:=Br hj h1;obtain ⟨na,nc,rfl,HN⟩:=Br hj h2;obtain rfl:=h5.bO;obtain rfl:=h6.bO;have H3:∀ i,∃ p:Option Addr×Nat,i < s.graph.kids.n->(∃ b off,ka=some ⟨b,off,none⟩/\b < w.heap.size/\w.cell? ⟨b,off+i,none⟩=some (.slice p.1 (s.graph.kids.get i).n p.2))/\
   ∀ k,k < (s.graph.kids.get i).n->∃ b off,p.1=some ⟨b,off,none⟩/\b < w.heap.size/\w.cell? ⟨b,off+k * 2,none⟩=some (.int .i64 ((s.graph.kids.get i).get k).slot)/\w.cell? ⟨b,off+k * 2+1,none⟩=some (.int .i64 ((s.graph.kids.get i).get k).gen):=by
  intro i;by_cases hi:i < s.graph.kids.n
  ·obtain ⟨bb,off,e1,e2,e3⟩:=H2 i hi
   obtain ⟨z,z1,z2⟩:=e3 0 (dD 32 b.jL (s.graph.kids.get i)) rfl;obtain ⟨a,c,rfl,H⟩:=Br hj z2;rw [anQ] at z1;refine ⟨(a,c),fun _=>⟨⟨bb,off,e1,e2,by rw [show off+i=off+i * 1+0 by omega]; exact z1⟩,fun k hk=>?_⟩⟩;obtain ⟨bc,ajs,r1,r2,r3⟩:=H k hk;obtain ⟨z,s1,s2⟩:=r3 0 (.int .i64 ((s.graph.kids.get i).get k).slot) rfl;obtain ⟨z',t1,t2⟩:=r3 1 (.int .i64 ((s.graph.kids.get i).get k).gen) rfl;rw [ajr] at s1 t1;rw [s2.bO] at s1;rw [t2.bO] at t1;exact ⟨bc,ajs,r1,r2,s1,t1⟩
  ·exact ⟨(none,0),fun h=>absurd h hi⟩
 obtain ⟨f,hf⟩:=Classical.axiomOfChoice H3;refine ⟨⟨ka,kc,fun i=>(f i).1,fun i=>(f i).2,na,nc⟩,x0,x3,x4,rfl,⟨fun i hi=>(hf i hi).1,fun i hi k hk=>(hf i hi).2 k hk,fun i hi=>?_⟩⟩;obtain ⟨bb,off,e1,e2,e3⟩:=HN i hi;obtain ⟨z,s1,s2⟩:=e3 0 (.int .u8 (s.nodes.get i).kind) rfl;rw [anR] at s1;rw [s2.bO] at s1;exact ⟨bb,off,e1,e2,s1⟩
theorem run_mk (n:Nat) (hn:n<=1000000):∃ Z:Obj,(∀ W,(Instr.makeSlice 36 (.int .i64 (n:Int)) (.int .i64 (n:Int))).run Tryz.prog W = .ok (.slice (some ⟨W.heap.size,0,none⟩) n n) (W.alloc Z))/\(∀ (W:World) (b i:Nat),W.heap[b]? = some Z->i < n->W.cell? ⟨b,i,none⟩=some (.int .i64 0))/\∀ (W:World) (b i:Nat),W.heap[b]? = some Z->W.frozen? ⟨b,i,none⟩=false:=by
 refine ⟨.cells (madeCells #[.int .i64 0] n) 3,fun W=>?_,fun W b i hb hi=>?_,fun W b i hb=>?_⟩
 ·have:=Go.run_make (P:=Tryz.prog) W 36 3 _ (.int .i64 0) Tryz.underlying36 (show Tryz.prog.info? 3=some _ from rfl) rfl .i64 .i64 n n (by omega) (Int.le_refl _) (by show ((8:Nat):Int) * n<=_; omega) (by omega)
  rw [tD] at this;exact (this.trans (by rw [show ∀ k,n * k=n * k from fun _=>rfl]; exact congrArg (fun c=>Result.ok _ (W.alloc (.cells (madeCells #[.int .i64 0] c) 3))) (Nat.mul_one n)))
 ·rw [nodes.kd hb]
  simp [madeCells,hi,Nat.mod_one]
 ·unfold World.frozen?
  simp [hb]
def Good (W:World) (a:Addr):Prop:=(W.cell? a).isSome=true/\W.frozen? a=false
theorem PK {W:World} {a:Addr} (h:Good W a):∃ v,W.cell? a=some v:=NB.1 h.1
theorem akP {W:World} {a:Addr} (h:Good W a):W.frozen? a=false:=h.2
theorem Nr {W:World} {a:Addr} (h:Good W a):Good W.drew a:=h
theorem sD {W:World} {o:Obj} {a:Addr} (h:Good W a):Good (W.alloc o) a:=by
 obtain ⟨v,hv⟩:=PK h;have aI:a.block < W.heap.size:=by
  apply Classical.byContradiction;intro hn;unfold World.cell? at hv;rw [Array.getElem?_eq_none (by omega)] at hv;simp at hv
 refine ⟨by rw [World.cell?_alloc_some (h:=h.1)]; exact h.1,?_⟩;have:=h.2;unfold World.frozen? at this ⊢;rw [Below.heap_alloc _ _ _ aI];exact this
theorem Bt {W:World} {p a:Addr} {x:Value} (h:Good W a):Good (W.setCell p x) a:=by
 obtain ⟨v,hv⟩:=PK h;obtain ⟨v',h'⟩:=RowKit.cell?_setCell_some (p:=p) (x:=x) hv;exact ⟨by rw [h']; rfl,by rw [World.frozen?_setCell]; exact h.2⟩
theorem qE {W:World} {a:Addr} {v:Value} (h:W.cell? a=some v):W.drew.cell? a=some v:=h
theorem sE {W:World} {o:Obj} {a:Addr} {v:Value} (h:W.cell? a=some v):(W.alloc o).cell? a=some v:=by rw [World.cell?_alloc_some (h:=by rw [h]; rfl)]; exact h
theorem nZ {W:World} {p a:Addr} {x v:Value} (hp:p.block≠a.block) (h:W.cell? a=some v):(W.setCell p x).cell? a=some v:=by rw [World.cell?_setCell_far _ _ _ _ hp]; exact h
theorem three (W:World) (A0 A1 A2:Obj):∃ V,((W.alloc A0).alloc A1).alloc A2=V/\V.heap[W.heap.size]? = some A0/\V.heap[W.heap.size+1]? = some A1/\V.heap[W.heap.size+1+1]? = some A2/\V.heap.size=W.heap.size+3/\RowKit.Below W.heap.size W V:=by
 have s1:(W.alloc A0).heap.size=W.heap.size+1:=by simp
 have s2:((W.alloc A0).alloc A1).heap.size=W.heap.size+2:=by simp
 refine ⟨_,rfl,?_,?_,nodes.rM _ _ _ (by omega),by simp,(((Below.refl _ _).alloc (ao _) _).alloc (by simp) _).alloc (by simp; omega) _⟩
 ·rw [Below.heap_alloc _ _ _ (by omega),Below.heap_alloc _ _ _ (by omega)]
  exact nodes.rM _ _ _ rfl
 ·rw [Below.heap_alloc _ _ _ (by omega)]
  exact nodes.rM _ _ _ (by omega)
theorem V8 {fn:Func} {p q:Tmp} {ty:TypeId} (h:fn.results = #[.cell p ty,.cell q ty]) (tmps:Array Value) (P:Program) (w:World) :
  (results fn tmps).run P w=((asAddr (tmps.getD p undef)).run P w).andThen fun a aiq=>((loadVar ty a).run P aiq).andThen fun v aim=>((asAddr (tmps.getD q undef)).run P aim).andThen fun a' aio=>((loadVar ty a').run P aio).andThen fun v' anS=>.ok (.tuple #[v,v']) anS:=by
 simp only [results,h];simp [Sem.run_bind,Result.andThen]
theorem filled {w V:World} {Z:Obj} {s:b.aD} {q:Q} {c1 c2:Value} (sV:V.heap.size=w.heap.size+3) (bV:RowKit.Below w.heap.size w V) (e1:V.cell? ⟨w.heap.size,1,none⟩=some c1) (e2:V.cell? ⟨w.heap.size,2,none⟩=some c2)
  (e5:V.cell? ⟨w.heap.size,5,none⟩=some (.int .i64 s.root.slot)) (o1:Good V ⟨w.heap.size+1,0,none⟩) (o2:Good V ⟨w.heap.size+1+1,0,none⟩) (hq:QAt s q w.heap.size w) (u1 u2:Value) :
  ∃ Y,((((V.setCell ⟨w.heap.size+1,0,none⟩ u1).setCell ⟨w.heap.size+1+1,0,none⟩ u2).alloc Z).alloc Z).drew=Y/\Y.heap.size=w.heap.size+5/\RowKit.Below w.heap.size w Y/\Y.cell? ⟨w.heap.size,1,none⟩=some c1/\Y.cell? ⟨w.heap.size,2,none⟩=some c2/\Y.cell? ⟨w.heap.size,5,none⟩=some (.int .i64 s.root.slot)/\
   Y.cell? ⟨w.heap.size+1,0,none⟩=some u1/\Y.cell? ⟨w.heap.size+1+1,0,none⟩=some u2/\Good Y ⟨w.heap.size+1,0,none⟩/\Good Y ⟨w.heap.size+1+1,0,none⟩/\Y.heap[w.heap.size+3]? = some Z/\Y.heap[w.heap.size+3+1]? = some Z/\QAt s q w.heap.size Y:=by
 have bA:∀ {a c:Nat} {j l:Nat},a≠c->(⟨a,j,none⟩:Addr)≠⟨c,l,none⟩:=fun h e=>h (by simpa using congrArg Addr.block e);have hs1:((V.setCell ⟨w.heap.size+1,0,none⟩ u1).setCell ⟨w.heap.size+1+1,0,none⟩ u2).heap.size=w.heap.size+3:=by simp [sV]
 have iy:(((V.setCell ⟨w.heap.size+1,0,none⟩ u1).setCell ⟨w.heap.size+1+1,0,none⟩ u2).alloc Z).heap.size=w.heap.size+3+1:=by simp [sV]
 have bY:RowKit.Below w.heap.size w ((((V.setCell ⟨w.heap.size+1,0,none⟩ u1).setCell ⟨w.heap.size+1+1,0,none⟩ u2).alloc Z).alloc Z).drew:=by
  refine (((bV.setCell ?_ _).setCell ?_ _).alloc ?_ _ |>.alloc ?_ _).drew <;> simp [sV] <;> omega
 have lift:∀ {a:Addr} {v:Value},a.block≠w.heap.size+1->a.block≠w.heap.size+1+1->V.cell? a=some v->((((V.setCell ⟨w.heap.size+1,0,none⟩ u1).setCell ⟨w.heap.size+1+1,0,none⟩ u2).alloc Z).alloc Z).drew.cell? a=some v:=fun h1 h2 h=>qE (sE (sE (nZ (Ne.symm h2) (nZ (Ne.symm h1) h))));refine ⟨_,rfl,by simp [sV],bY,lift (by show w.heap.size≠_; omega) (by show w.heap.size≠_; omega) e1,lift (by show w.heap.size≠_; omega) (by show w.heap.size≠_; omega) e2,lift (by show w.heap.size≠_; omega) (by show w.heap.size≠_; omega) e5,?_,?_,Nr (sD (sD (Bt (Bt o1)))),Nr (sD (sD (Bt (Bt o2)))),?_,?_,hq.di (d:=w.heap.size) (m:=w.heap.size) ⟨bY.os,bY.tape,bY.output,bY.size,fun k hk _ _=>bY.block k hk⟩ (ao _) (ao _) (ao _)⟩
 ·obtain ⟨v,hv⟩:=PK o1
  exact qE (sE (sE (nZ (by show w.heap.size+1+1≠w.heap.size+1; omega) (World.cell?_setCell_same _ _ _ hv))))
 ·obtain ⟨v,hv⟩:=PK (Bt (p:=⟨w.heap.size+1,0,none⟩) (x:=u1) o2)
  exact qE (sE (sE (World.cell?_setCell_same _ _ _ hv)))
 ·show ((((V.setCell _ _).setCell _ _).alloc Z).alloc Z).heap[w.heap.size+3]? = _
  rw [Below.heap_alloc _ _ _ (by omega)];exact nodes.rM _ _ _ (by omega)
 ·exact nodes.rM _ _ _ (by omega)
theorem v7.pe {d m:Nat} {W W' : World} (h:v7 d m W W') {b j:Nat} (hb:b < W.heap.size) (hd:b≠d) (hm:b≠m) (g:Good W ⟨b,j,none⟩):Good W' ⟨b,j,none⟩:=by
 have e:=h.block b hb hd hm;refine ⟨by rw [h.cell hb hd hm]; exact g.1,?_⟩;have:=g.2;unfold World.frozen? at this ⊢;rw [e];exact this
abbrev fnV (n:Nat):Value:=.func (.func 162) #[] #[.pointer (some ⟨n+1,0,none⟩),.pointer (some ⟨n,0,none⟩),.pointer (some ⟨n+5,0,none⟩),.pointer (some ⟨n+1+1,0,none⟩)]
theorem start {s:b.aD} {q:Q} {n d m N:Nat} {Y:World} {Z:Obj} (sY:Y.heap.size=n+5) (y1:Y.cell? ⟨n,1,none⟩=some (.slice q.ka s.graph.kids.n q.kc)) (y2:Y.cell? ⟨n,2,none⟩=some (.slice q.na s.nodes.n q.nc)) (w1:Y.cell? ⟨n+1,0,none⟩=some (.slice (some ⟨d,0,none⟩) N N)) (w2:Y.cell? ⟨n+1+1,0,none⟩=some (.slice (some ⟨m,0,none⟩) N N))
  (zd:Y.heap[d]? = some Z) (zm:Y.heap[m]? = some Z) (hd:n+3<=d) (hm:n+3<=m) (bA:d≠m) (hq:QAt s q n Y) (hZ1:∀ (W:World) (b i:Nat),W.heap[b]? = some Z->i < N->W.cell? ⟨b,i,none⟩=some (.int .i64 0)) (hZ2:∀ (W:World) (b i:Nat),W.heap[b]? = some Z->W.frozen? ⟨b,i,none⟩=false) :
  CE s q n (n+1) n (n+5) (n+1+1) d m N (Y.alloc (.cells #[fnV n] 229)) (⟨N,fun _=>0⟩,⟨N,fun _=>0⟩):=by
 have ld:d < Y.heap.size:=(jh.1 zd).1;have lm:m < Y.heap.size:=(jh.1 zm).1;have k:v7 d m Y (Y.alloc (.cells #[fnV n] 229)):=.alloc _ _;have zd' : (Y.alloc (.cells #[fnV n] 229)).heap[d]? = some Z:=by rw [Below.heap_alloc _ _ _ ld]; exact zd
 have zm' : (Y.alloc (.cells #[fnV n] 229)).heap[m]? = some Z:=by rw [Below.heap_alloc _ _ _ lm]; exact zm
 have hs:(Y.alloc (.cells #[fnV n] 229)).heap.size=n+6:=by simp [sY]
 exact ⟨hq.di k (by omega) (by omega) (by omega),by omega,by omega,by omega,by omega,by omega,by omega,by omega,bA,rfl,rfl,(k.cell (by omega) (by omega) (by omega)).trans w1,(k.cell (by omega) (by omega) (by omega)).trans y1,(k.cell (by omega) (by omega) (by omega)).trans y2,
  by rw [nodes.kd (nodes.rM _ _ _ (by omega))]; rfl,(k.cell (by omega) (by omega) (by omega)).trans w2,fun i hi=>hZ1 _ _ _ zd' hi,fun i hi=>hZ1 _ _ _ zm' hi,fun i=>hZ2 _ _ _ zd',fun i=>hZ2 _ _ _ zm'⟩
theorem finish {s:b.aD} {q:Q} {d m N b3:Nat} {w Y W2:World} {o:Obj} {x:Sl Int×Sl Int} (L:CE s q w.heap.size (w.heap.size+1) w.heap.size b3 (w.heap.size+1+1) d m N W2 x) (k:v7 d m (Y.alloc o) W2) (bY:RowKit.Below w.heap.size w Y) (hd:w.heap.size+3<=d) (hm:w.heap.size+3<=m) (u1 u2:Value) :
  d≠m/\DC w ((W2.setCell ⟨w.heap.size+1,0,none⟩ u1).setCell ⟨w.heap.size+1+1,0,none⟩ u2).drew d x.1/\DC w ((W2.setCell ⟨w.heap.size+1,0,none⟩ u1).setCell ⟨w.heap.size+1+1,0,none⟩ u2).drew m x.2/\RowKit.Below w.heap.size w ((W2.setCell ⟨w.heap.size+1,0,none⟩ u1).setCell ⟨w.heap.size+1+1,0,none⟩ u2).drew:=by
 have b0:RowKit.Below w.heap.size w (Y.alloc o):=bY.alloc bY.size _;have b2:RowKit.Below w.heap.size w W2:=⟨k.os.trans b0.os,k.tape.trans b0.tape,k.output.trans b0.output,dx b0.size k.size,fun j hj=>(k.block j (dG hj b0.size) (by omega) (by omega)).trans (b0.block j hj)⟩
 have n1:=L.n1;have n2:=L.n2;refine ⟨L.ne,⟨by omega,by show d < ((W2.setCell _ _).setCell _ _).heap.size; simpa using L.ld.2,fun i hi=>?_,fun j=>?_⟩,⟨by omega,by show m < ((W2.setCell _ _).setCell _ _).heap.size; simpa using L.lm.2,fun i hi=>?_,fun j=>?_⟩,((b2.setCell (by show w.heap.size<=w.heap.size+1; omega) _).setCell (by show w.heap.size<=w.heap.size+1+1; omega) _).drew⟩
 ·exact qE (nZ (by show w.heap.size+1+1≠d; omega) (nZ (by show w.heap.size+1≠d; omega) (L.cd i (by omega))))
 ·rw [World.frozen?_drew,World.frozen?_setCell,World.frozen?_setCell]; exact L.fd j
 ·exact qE (nZ (by show w.heap.size+1+1≠m; omega) (nZ (by show w.heap.size+1≠m; omega) (L.cm i (by omega))))
 ·rw [World.frozen?_drew,World.frozen?_setCell,World.frozen?_setCell]; exact L.fm j
set_option maxHeartbeats 8000000 in
theorem counts (s:b.aD) (q:Q) (x0 x3 x4:Value) (w:World) (hq:QAt s q w.heap.size w) (x:Sl Int×Sl Int) (Wy:b.dE s=some x) :
  Calls Tryz.prog 91 #[.agg #[x0,.slice q.ka s.graph.kids.n q.kc,.slice q.na s.nodes.n q.nc,x3,x4,.int .i64 s.root.slot,.int .i64 s.root.gen]] w fun e w'=>
   ∃ k1 k2,e = .returned (.tuple #[.slice (some ⟨k1,0,.none⟩) x.1.n x.1.n,.slice (some ⟨k2,0,.none⟩) x.2.n x.2.n])/\k1≠k2/\DC w w' k1 x.1/\DC w w' k2 x.2/\RowKit.Below w.heap.size w w':=by
 have jI:b.Fits s:=by
  apply Classical.byContradiction;intro hf;unfold b.dE at Wy;rw [ae hf] at Wy;simp at Wy
 have hx:b.qD s 250 s.root.slot (⟨s.nodes.n,fun _=>0⟩,⟨s.nodes.n,fun _=>0⟩)=some x:=by
  unfold b.dE at Wy;rwa [ax jI] at Wy
 obtain ⟨hn,dB⟩:=jI;clear Wy;have mixed:=s5;have t3:=Tryz.underlying3; have a3:=Tryz.isAgg3; have z3:=Tryz.sizeOf3; have v3:=Tryz.zeroValue3; have u3:=run_underlying Tryz.underlying3;have t48:=Tryz.underlying36; have a48:=Tryz.isAgg36; have z48:=Tryz.sizeOf36; have v48:=Tryz.zeroValue36; have u48:=run_underlying Tryz.underlying36;have t32:=Tryz.underlying32; have a32:=Tryz.isAgg32; have z32:=Tryz.sizeOf32; have v32:=Tryz.zeroValue32; have u32:=run_underlying Tryz.underlying32;have t34:=Tryz.underlying34; have a34:=Tryz.isAgg34; have z34:=Tryz.sizeOf34; have v34:=Tryz.zeroValue34; have u34:=run_underlying Tryz.underlying34;have t28:=Tryz.underlying28; have a28:=Tryz.isAgg28; have z28:=Tryz.sizeOf28; have v28:=Tryz.zeroValue28; have u28:=run_underlying Tryz.underlying28;have t143:=Tryz.underlying229; have a143:=Tryz.isAgg229; have z143:=Tryz.sizeOf229; have v143:=Tryz.zeroValue229; have anN:=run_underlying Tryz.underlying229
 go_enter Tryz.func91,Tryz.ntmps91
 go_wp2
 obtain ⟨V,hV,v0,v1,v2,sV,bV⟩:=three w (Obj.cells #[x0,.slice q.ka s.graph.kids.n q.kc,.slice q.na s.nodes.n q.nc,x3,x4,.int .i64 s.root.slot,.int .i64 s.root.gen] 34) (Obj.cells #[.slice none 0 0] 36) (Obj.cells #[.slice none 0 0] 36);have e1:V.cell? ⟨w.heap.size,1,none⟩=some (.slice q.ka s.graph.kids.n q.kc):=by rw [nodes.kd v0]; rfl
 have e2:V.cell? ⟨w.heap.size,2,none⟩=some (.slice q.na s.nodes.n q.nc):=by rw [nodes.kd v0]; rfl
 have e5:V.cell? ⟨w.heap.size,5,none⟩=some (.int .i64 s.root.slot):=by rw [nodes.kd v0]; rfl
 have o1:V.cell? ⟨w.heap.size+1,0,none⟩=some (.slice none 0 0):=by rw [nodes.kd v1]; rfl
 have o2:V.cell? ⟨w.heap.size+1+1,0,none⟩=some (.slice none 0 0):=by rw [nodes.kd v2]; rfl
 have r1:V.frozen? ⟨w.heap.size+1,0,none⟩=false:=by unfold World.frozen?; simp [v1]
 have r2:V.frozen? ⟨w.heap.size+1+1,0,none⟩=false:=by unfold World.frozen?; simp [v2]
 obtain ⟨Z,KG,hZ1,hZ2⟩:=run_mk s.nodes.n hn;rw [hV];clear hV
 go_region_held3 (fun w'=>w'.cell? ⟨w.heap.size,2,none⟩=some (.slice q.na s.nodes.n q.nc)/\(∃ v,w'.cell? ⟨w.heap.size+1,0,none⟩=some v)/\(∃ v,w'.cell? ⟨w.heap.size+1+1,0,none⟩=some v)/\w'.frozen? ⟨w.heap.size+1,0,none⟩=false/\w'.frozen? ⟨w.heap.size+1+1,0,none⟩=false) ((try refine ⟨?_,?_,?_,?_,?_⟩) <;> first | (first | refine PK ?_ | refine akP ?_); (repeat with_reducible first | refine Nr ?_ | refine sD ?_ | refine Bt ?_); (exact ⟨by simp [*],by simp [*]⟩) | ((repeat with_reducible first | refine qE ?_ | refine sE ?_ | refine nZ (by dsimp only; omega) ?_); assumption)) (fail)
 all_goals
  have g1:Good V ⟨w.heap.size+1,0,none⟩:=⟨by rw [o1]; rfl,r1⟩
  have g2:Good V ⟨w.heap.size+1+1,0,none⟩:=⟨by rw [o2]; rfl,r2⟩
  first
   | (obtain ⟨Y,hY,sY,bY,y1,y2,y5,w1,w2,p1,p2,z1,z2,qY⟩:=filled (Z:=Z) (s:=s) (q:=q) sV bV e1 e2 e5 g1 g2 hq (.slice (some ⟨w.heap.size+3,0,none⟩) s.nodes.n s.nodes.n) (.slice (some ⟨w.heap.size+3+1,0,none⟩) s.nodes.n s.nodes.n); rw [hY]; clear hY)
   | (obtain ⟨Y,hY,sY,bY,y1,y2,y5,w1,w2,p1,p2,z1,z2,qY⟩:=filled (Z:=Z) (s:=s) (q:=q) sV bV e1 e2 e5 g1 g2 hq (.slice (some ⟨w.heap.size+3+1,0,none⟩) s.nodes.n s.nodes.n) (.slice (some ⟨w.heap.size+3,0,none⟩) s.nodes.n s.nodes.n); rw [hY]; clear hY)
  clear g1 g2 e1 e2 e5 o1 o2 r1 r2 v0 v1 v2 bV sV KG;have hL:∃ d m,w.heap.size+3<=d/\w.heap.size+3<=m/\CE s q w.heap.size (w.heap.size+1) w.heap.size (w.heap.size+5) (w.heap.size+1+1) d m s.nodes.n (Y.alloc (.cells #[fnV w.heap.size] 229)) (⟨s.nodes.n,fun _=>0⟩,⟨s.nodes.n,fun _=>0⟩):=by
   first
    | exact ⟨_,_,ao _,by omega,start sY y1 y2 w1 w2 z1 z2 (ao _) (by omega) (by omega) qY hZ1 hZ2⟩
    | exact ⟨_,_,by omega,ao _,start sY y1 y2 w1 w2 z2 z1 (by omega) (ao _) (by omega) qY hZ1 hZ2⟩
  obtain ⟨d,m,hd,hm,L⟩:=hL;have qM:=down s q _ _ _ _ _ _ _ _ dB 250 s.root.slot _ x _ hx L;have fin:∀ W2,CE s q w.heap.size (w.heap.size+1) w.heap.size (w.heap.size+5) (w.heap.size+1+1) d m s.nodes.n W2 x->v7 d m (Y.alloc (.cells #[fnV w.heap.size] 229)) W2->_:=fun W2 L2 K2=>finish L2 K2 bY hd hm (.slice (some ⟨d,0,none⟩) s.nodes.n s.nodes.n) (.slice (some ⟨m,0,none⟩) s.nodes.n s.nodes.n);clear hq hx dB hn z1 z2 qY hZ1 hZ2 bY
  go_wp2_with (go_at_call 162; go_loud (refine qM.mono ?_; rintro e w2 ⟨rfl,L2,K2⟩; have q1:=L2.c1; have q4:=L2.c4; have gA:=v7.pe K2 (by simp [sY]) (by omega) (by omega) (sD (o:=.cells #[fnV w.heap.size] 229) p1); have gB:=v7.pe K2 (by simp [sY]) (by omega) (by omega) (sD (o:=.cells #[fnV w.heap.size] 229) p2)))
  have gA1:=gA.1;have gA2:=gA.2;have gB1:=gB.1;have gB2:=gB.2
  go_region_held3 (fun w'=>w'.cell? ⟨w.heap.size+1,0,none⟩=some (.slice (some ⟨d,0,none⟩) s.nodes.n s.nodes.n)/\w'.cell? ⟨w.heap.size+1+1,0,none⟩=some (.slice (some ⟨m,0,none⟩) s.nodes.n s.nodes.n)/\w'.frozen? ⟨w.heap.size+1,0,none⟩=false/\w'.frozen? ⟨w.heap.size+1+1,0,none⟩=false) ((try refine ⟨?_,?_,?_,?_⟩) <;> first | ((repeat with_reducible first | refine qE ?_ | refine nZ (by dsimp only; omega) ?_); first | assumption | exact World.cell?_setCell_same _ _ _ (by first | assumption | exact nZ (by dsimp only; omega) (by assumption))) | simp [*]) (fail)
  all_goals
   go_wp2
   have n1:=L2.n1;have n2:=L2.n2;obtain ⟨f1,f2,f3,f4⟩:=fin _ L2 K2;have h1:((w2.setCell ⟨w.heap.size+1,0,none⟩ (.slice (some ⟨d,0,none⟩) s.nodes.n s.nodes.n)).setCell ⟨w.heap.size+1+1,0,none⟩ (.slice (some ⟨m,0,none⟩) s.nodes.n s.nodes.n)).drew.cell? ⟨w.heap.size+1,0,none⟩=some (.slice (some ⟨d,0,none⟩) s.nodes.n s.nodes.n):=
    qE (nZ (by dsimp only; omega) (World.cell?_setCell_same _ _ _ q1))
   have h2:((w2.setCell ⟨w.heap.size+1,0,none⟩ (.slice (some ⟨d,0,none⟩) s.nodes.n s.nodes.n)).setCell ⟨w.heap.size+1+1,0,none⟩ (.slice (some ⟨m,0,none⟩) s.nodes.n s.nodes.n)).drew.cell? ⟨w.heap.size+1+1,0,none⟩=some (.slice (some ⟨m,0,none⟩) s.nodes.n s.nodes.n):=
    qE (World.cell?_setCell_same _ _ _ (nZ (by dsimp only; omega) q4))
   generalize ((w2.setCell ⟨w.heap.size+1,0,none⟩ (.slice (some ⟨d,0,none⟩) s.nodes.n s.nodes.n)).setCell ⟨w.heap.size+1+1,0,none⟩ (.slice (some ⟨m,0,none⟩) s.nodes.n s.nodes.n)).drew=WE at *;refine bodyPost_ret (v:=.tuple #[.slice (some ⟨d,0,none⟩) s.nodes.n s.nodes.n,.slice (some ⟨m,0,none⟩) s.nodes.n s.nodes.n]) ?_ rfl ⟨d,m,by rw [n1,n2],f1,f2,f3,f4⟩;rw [V8 rfl]
   go_simp
theorem call23:pq Tryz.prog 91:=by
 refine ⟨by kernel_rfl,_,Tryz.func91,rfl,by kernel_rfl⟩
theorem akQ (w:Nat->KV):pz Tryz.prog [34] w 0 = [b.xc (b.mT (gX Tryz.prog (bX Tryz.prog df) 34 (w 0)))]:=by kernel_rfl
theorem anT (l:List Nat) (g:Nat->Int):dn (aH Tryz.prog 3) (l.map fun i=>kI .i64 (g i))=true:=by
 induction l with
 | nil=>rfl
 | cons x l ih=>
  show (cf (aH Tryz.prog 3) (kI .i64 (g x))&&dn (aH Tryz.prog 3) (l.map fun i=>kI .i64 (g i)))=true;rw [ih,yI]
  kernel_rfl
end Go.Proofs.YtckbdndhmcoihaaGreat.DY
namespace Go.Proofs.YtckbdndhmcoihaaGreat.b
open Go Go.RowKit Go.K
theorem vu:cB Tryz.prog 91 qZ:=by
 refine ahk DY.call23 (by kernel_rfl) (fun s=>DY.anT _ _) fun args v E A B ρ base w bM hF hlen hv hj=>?_;have ep:bK Tryz.prog 91 = [34]:=by kernel_rfl
 unfold qZ cJ at hF;obtain ⟨hb,hF⟩:=az.cond hF;obtain ⟨ww,hw⟩:=Cj 0 hb;have vX:ny Tryz.prog E ρ (normArgs Tryz.prog (bK Tryz.prog 91) args) bM:=by
  obtain ⟨m,h1,h2⟩:=hv;exact ⟨m,aK.GG (.of rfl) h1 hlen,h2⟩
 rw [hw,ep,DY.akQ] at hF vX;generalize mT (gX Tryz.prog (bX Tryz.prog df) 34 (ww 0))=s at hF vX;obtain ⟨u,us,rfl,hu,EU⟩:=vX.qQ;obtain rfl:=EU.Pr;obtain ⟨q,x0,x3,x4,rfl,hq⟩:=DY.ahl hj hu;unfold cU at hF;obtain ⟨h1,h2⟩:=az.iJ hF;have h1:(dE s).isSome=true:=h1;obtain ⟨x,hx⟩:=NB.1 h1;have h2:KV.nh [(dD 3 (kI .i64)) ((dE s).getD default).1,(dD 3 (kI .i64)) ((dE s).getD default).2] = v:=h2;rw [hx] at h2;refine (DY.counts s q x0 x3 x4 w hq x hx).mono ?_;rintro e w' ⟨k1,k2,rfl,bA,i1,i2,hb⟩;exact ⟨x.1,x.2,k1,k2,h2.symm,rfl,bA,i1,i2,hb⟩
end Go.Proofs.YtckbdndhmcoihaaGreat.b
end
section
namespace Go.Proofs.YtckbdndhmcoihaaGreat.b
open Go.K
noncomputable section
theorem Sv (s:Sl Path) (v:Path):s.push v=ni (fun e=>Eh (gX Tryz.prog (bX Tryz.prog 5) 38 e)) (s.n+1) (dU s.n (fun i=>xw (s.get i)) (qk [xw v])):=(Ks (p:=fun e=>Eh (gX Tryz.prog (bX Tryz.prog 5) 38 e)) (fun x=>by kernel_rfl) (by kernel_rfl) s v).symm
structure eo where
 h:Handle
 eB:Int
instance:Inhabited eo:=⟨⟨default,default⟩⟩
def aae (x:eo):List KV:=[.int .i64 x.h.slot,.int .i64 x.h.gen,.int .i64 x.eB]
def kl (x:eo):KV:=.agg (aae x)
def aaf (c:Nat->KV):eo:=⟨⟨av (c 0),av (c 1)⟩,av (c 2)⟩
def fN (v:KV):eo:=aaf fun k=>v.cells.getD k .bx
theorem pL (x:eo):fN (kl x)=x:=rfl
theorem V9:fN .bx=default:=rfl
theorem FC (s t:Sl eo):s.join t=ni fN (s.n+t.n) (dU s.n (fun i=>kl (s.get i)) (fun i=>kl (t.get i))):=(QW pL s t).symm
theorem Hz (l:List eo):Sl.lit l=ni fN l.length (qk (l.map kl)):=(VF pL V9 l).symm
theorem HA (s:Sl eo) (i:Nat) (v:eo):s.set i v=ni fN s.n (uD (fun j=>kl (s.get j)) i (kl v)):=(acg pL s i v).symm
theorem HB (m n n' : Nat) (acc fg:Nat->KV):ni fN m (dU n (fun i=>kl ((ni fN n' acc).get i)) fg)=ni fN m (dU n acc fg):=VG pL ..
theorem HC (m n n' : Nat) (acc fg:Nat->KV):ni fN m (dU n acc (fun i=>kl ((ni fN n' fg).get i)))=ni fN m (dU n acc fg):=ajm pL ..
theorem S7 (m n' i:Nat) (acc:Nat->KV) (v:KV):ni fN m (uD (fun j=>kl ((ni fN n' acc).get j)) i v)=ni fN m (uD acc i v):=ajn pL ..
structure dw where
 l:(Sl eo)
 t7:Int
 t8:Int
 t2:Path
 p:Path
instance:Inhabited dw:=⟨⟨default,default,default,default,default⟩⟩
def ik (x:dw):List KV:=[dD 166 kl x.l,.int .i64 x.t7,.int .i64 x.t8]
def il (x:dw):List (List KV):=[Rg x.t2,Rg x.p]
def oD (vs:List KV) (rs:List (List KV)):dw:=⟨eA fN (v9 vs 0),av (v9 vs 1),av (v9 vs 2),Rh (r9 rs 0),Rh (r9 rs 1)⟩
def oX:aB:=⟨[(0,⟨false,[.arr 166]⟩),(7,w9 i9),(8,w9 i9)],[(2,[.aF 32,.aF 3],1),(3,[.aF 32,.aF 3],1)],[(2,0,0),(3,1,0),(6,1000000,0)]⟩
def xx:=GP PG (mS PG [(91,qZ),(25,um)] [] (fun q=>Nat.beq q 166||Nat.beq q 3000166||Nat.beq q 4000166)) 9 9 92 58 (uI PG 92 58) oX
def cz (x:dw):ba dw:=(cond (decide (x.t8 < x.t7)) (cond ((decide (0<=x.t8))&&(decide (x.t8 < (x.l.n:Int)))) (cond ((bU x.p.nodes.n x.p.nodes.n)&&(lP 16 x.p.nodes.n 1)) (cond (decide (x.t8 > 0)) (cond ((decide (0<=(bR (x.t8 - 1))))&&(decide ((bR (x.t8 - 1)) < (x.l.n:Int)))) (cond ((bU x.p.kids.n x.p.kids.n)&&(lP 8 x.p.kids.n 1)) (cond (cond ((((((Nat.beq x.l.n x.l.n)&&true)&&true)&&true)&&true)&&true) (cond (cond (cond (cond (bU (x.p.kids.n+1) (x.p.kids.n+1)) (bU (x.p.nodes.n+1) (x.p.nodes.n+1)) false) (bU x.t2.kids.n x.t2.kids.n) false) (bU x.t2.nodes.n x.t2.nodes.n) false) (bU x.l.n x.l.n) false) false) (.next ⟨x.l,x.t7,(bR (x.t8+1)),x.t2,⟨(x.p.nodes.push (x.l.get (0+(Int.toNat x.t8))).h),(x.p.kids.push (bR ((x.l.get (0+(Int.toNat (bR (x.t8 - 1))))).eB - 1)))⟩⟩) .fail) .fail) .fail) (cond (cond ((((((Nat.beq x.l.n x.l.n)&&true)&&true)&&true)&&true)&&true) (cond (cond (cond (cond (bU x.p.kids.n x.p.kids.n) (bU (x.p.nodes.n+1) (x.p.nodes.n+1)) false) (bU x.t2.kids.n x.t2.kids.n) false) (bU x.t2.nodes.n x.t2.nodes.n) false) (bU x.l.n x.l.n) false) false) (.next ⟨x.l,x.t7,(bR (x.t8+1)),x.t2,⟨(x.p.nodes.push (x.l.get (0+(Int.toNat x.t8))).h),x.p.kids⟩⟩) .fail)) .fail) .fail) (cond (cond ((((((Nat.beq x.l.n x.l.n)&&true)&&true)&&true)&&true)&&true) (cond (cond (cond (cond (bU x.p.kids.n x.p.kids.n) (bU x.p.nodes.n x.p.nodes.n) false) (bU x.t2.kids.n x.t2.kids.n) false) (bU x.t2.nodes.n x.t2.nodes.n) false) (bU x.l.n x.l.n) false) false) (.out (aA.aa.exit 0) x) .fail))
theorem vv (x:dw):xx (ik x) (il x)=ba.enc ik il (cz x):=by
 unfold cz
 try simp only [ba.dr,GU,Ye]
 kernel_rfl
def kQ:Lp:=⟨92,58,oX,fun vs rs=>eE ik il (goN cz (oD vs rs)) [aA.aa.exit 0],true⟩
theorem oE:kQ.Ok PG:=Z3 funcs mixed (aw.cons vu (aw.cons tu aw.nil)) bP.nil (L:=9) (n:=9) (step:=cz) (ev:=ik) (er:=il) (pa:=oD) rfl (fun wv wr=>⟨by kernel_rfl,by kernel_rfl⟩) vv
structure cj where
 t2:(Sl Path)
 t3:Int
 out:(Sl Path)
 stack:(Sl eo)
 s:aD
instance:Inhabited cj:=⟨⟨default,default,default,default,default⟩⟩
def oG (x:cj):List KV:=[dD 38 xw x.t2,.int .i64 x.t3,dD 38 xw x.out,dD 166 kl x.stack]
def oH (x:cj):List (List KV):=[yW x.s]
def zD (vs:List KV) (rs:List (List KV)):cj:=⟨eA Eh (v9 vs 0),av (v9 vs 1),eA Eh (v9 vs 2),eA fN (v9 vs 3),yX (r9 rs 0)⟩
def AE:aB:=⟨[(2,w9 (n9 38)),(3,w9 i9),(7,⟨false,[.aF 38]⟩),(8,⟨false,[.arr 166]⟩)],[(1,[n9 111,n9 35,n9 77,n9 88,n9 91,i9,i9],1)],[(1,0,0)]⟩
def Jr:=Z1 PG (mS PG [(91,qZ),(25,um)] [kQ] (fun q=>Nat.beq q 166||Nat.beq q 3000166||Nat.beq q 4000166)) 9 9 35 3 AE
def hJ (x:cj):=goN cz ⟨x.stack,(x.stack.n:Int),0,⟨⟨0,(fun i=>⟨0,0⟩)⟩,⟨0,(fun i=>0)⟩⟩,⟨⟨0,(fun i=>⟨0,0⟩)⟩,⟨0,(fun i=>0)⟩⟩⟩
def bD (x:cj):ba cj:=(cond ((decide (0<=(bR ((x.stack.n:Int) - 1))))&&(decide ((bR ((x.stack.n:Int) - 1)) < (x.stack.n:Int)))) (cond ((decide (0<=(x.stack.get (0+(Int.toNat (bR ((x.stack.n:Int) - 1))))).h.slot))&&(decide ((x.stack.get (0+(Int.toNat (bR ((x.stack.n:Int) - 1))))).h.slot < (x.s.graph.kids.n:Int)))) (cond (decide ((x.stack.get (0+(Int.toNat (bR ((x.stack.n:Int) - 1))))).eB < ((x.s.graph.kids.get (Int.toNat (x.stack.get (0+(Int.toNat (bR ((x.stack.n:Int) - 1))))).h.slot)).n:Int))) (cond ((decide (0<=(bR (((x.stack.set (0+(Int.toNat (bR ((x.stack.n:Int) - 1)))) ⟨(x.stack.get (0+(Int.toNat (bR ((x.stack.n:Int) - 1))))).h,(bR ((x.stack.get (0+(Int.toNat (bR ((x.stack.n:Int) - 1))))).eB+1))⟩).get (0+(Int.toNat (bR ((x.stack.n:Int) - 1))))).eB - 1))))&&(decide ((bR (((x.stack.set (0+(Int.toNat (bR ((x.stack.n:Int) - 1)))) ⟨(x.stack.get (0+(Int.toNat (bR ((x.stack.n:Int) - 1))))).h,(bR ((x.stack.get (0+(Int.toNat (bR ((x.stack.n:Int) - 1))))).eB+1))⟩).get (0+(Int.toNat (bR ((x.stack.n:Int) - 1))))).eB - 1)) < ((x.s.graph.kids.get (Int.toNat (x.stack.get (0+(Int.toNat (bR ((x.stack.n:Int) - 1))))).h.slot)).n:Int)))) (cond ((Nat.ble ((x.stack.n+1) * 24) 140737488355328)&&(Nat.ble (x.stack.n+1) 17592186044416)) (cond (cond (bU (x.stack.n+1) (x.stack.n+1)) (bU x.out.n x.out.n) false) (.next ⟨x.t2,x.t3,x.out,((x.stack.set (0+(Int.toNat (bR ((x.stack.n:Int) - 1)))) ⟨(x.stack.get (0+(Int.toNat (bR ((x.stack.n:Int) - 1))))).h,(bR ((x.stack.get (0+(Int.toNat (bR ((x.stack.n:Int) - 1))))).eB+1))⟩).join (Sl.lit [⟨((x.s.graph.kids.get (Int.toNat (x.stack.get (0+(Int.toNat (bR ((x.stack.n:Int) - 1))))).h.slot)).get (Int.toNat (bR (((x.stack.set (0+(Int.toNat (bR ((x.stack.n:Int) - 1)))) ⟨(x.stack.get (0+(Int.toNat (bR ((x.stack.n:Int) - 1))))).h,(bR ((x.stack.get (0+(Int.toNat (bR ((x.stack.n:Int) - 1))))).eB+1))⟩).get (0+(Int.toNat (bR ((x.stack.n:Int) - 1))))).eB - 1)))),0⟩])),x.s⟩) .fail) .fail) .fail) (cond ((decide (0<=(x.stack.get (0+(Int.toNat (bR ((x.stack.n:Int) - 1))))).h.slot))&&(decide ((x.stack.get (0+(Int.toNat (bR ((x.stack.n:Int) - 1))))).h.slot < (x.s.nodes.n:Int)))) (cond ((x.s.nodes.get (Int.toNat (x.stack.get (0+(Int.toNat (bR ((x.stack.n:Int) - 1))))).h.slot)).kind==5) (cond (cond ((((((Nat.beq x.stack.n x.stack.n)&&true)&&true)&&true)&&true)&&true) (bU x.stack.n x.stack.n) false) (cond ((hJ x).by (aA.aa.exit 0)) (cond ((bU x.out.n x.out.n)&&(lP 48 x.out.n 1)) (cond ((decide (0<=(bR ((x.stack.n:Int) - 1))))&&(decide ((bR ((x.stack.n:Int) - 1))<=(x.stack.n:Int)))) (cond (decide ((((Int.toNat (bR ((x.stack.n:Int) - 1))):Nat):Int) > 0)) (cond (cond (bU (Int.toNat (bR ((x.stack.n:Int) - 1))) (Int.toNat (bR ((x.stack.n:Int) - 1)))) (bU (x.out.n+1) (x.out.n+1)) false) (.next ⟨x.t2,x.t3,(x.out.push (hJ x).st.p),⟨(Int.toNat (bR ((x.stack.n:Int) - 1))),(hJ x).st.l.get⟩,x.s⟩) .fail) (cond (cond (bU (Int.toNat (bR ((x.stack.n:Int) - 1))) (Int.toNat (bR ((x.stack.n:Int) - 1)))) (bU (x.out.n+1) (x.out.n+1)) false) (.out aA.aa.ret ⟨(x.out.push (hJ x).st.p),0,(x.out.push (hJ x).st.p),⟨(Int.toNat (bR ((x.stack.n:Int) - 1))),(hJ x).st.l.get⟩,x.s⟩) .fail)) .fail) .fail) .fail) .fail) (cond ((decide (0<=(bR ((x.stack.n:Int) - 1))))&&(decide ((bR ((x.stack.n:Int) - 1))<=(x.stack.n:Int)))) (cond (decide ((((Int.toNat (bR ((x.stack.n:Int) - 1))):Nat):Int) > 0)) (cond (cond (bU (Int.toNat (bR ((x.stack.n:Int) - 1))) (Int.toNat (bR ((x.stack.n:Int) - 1)))) (bU x.out.n x.out.n) false) (.next ⟨x.t2,x.t3,x.out,⟨(Int.toNat (bR ((x.stack.n:Int) - 1))),x.stack.get⟩,x.s⟩) .fail) (cond (cond (bU (Int.toNat (bR ((x.stack.n:Int) - 1))) (Int.toNat (bR ((x.stack.n:Int) - 1)))) (bU x.out.n x.out.n) false) (.out aA.aa.ret ⟨x.out,0,x.out,⟨(Int.toNat (bR ((x.stack.n:Int) - 1))),x.stack.get⟩,x.s⟩) .fail)) .fail)) .fail)) .fail) .fail)
theorem G0 (x:cj):Jr (oG x) (oH x)=ba.enc oG oH (bD x):=by
 unfold bD
 try simp only [ba.dr,FC,Hz,HB,HC,HA,Sv]
 kernel_rfl
def AG:Lp:=⟨35,3,AE,fun vs rs=>eE oG oH (goN bD (zD vs rs)) [aA.aa.exit 999983,aA.aa.ret],false⟩
theorem Js:AG.OkG PG:=Z2 funcs mixed (aw.cons vu (aw.cons tu aw.nil)) (qP oE bP.nil) (L:=9) (n:=9) (step:=bD) (ev:=oG) (er:=oH) (pa:=zD) rfl (fun wv wr=>⟨by kernel_rfl,by kernel_rfl⟩) G0
def Ri (g:ba cj):Option (Sl Path×Int):=
 cond (g.by (aA.aa.exit 999983)) (some (g.st.t2,g.st.t3)) (cond (g.by aA.aa.ret) (some (g.st.t2,g.st.t3)) none)
def pM:ba cj->Option (Sl Path×Int)
 | .next x=>Ri (goN bD x)
 | .out _ x=>some (x.t2,x.t3)
 | .fail=>none
theorem ahm (c:Bool) (a b:ba cj):pM (cond c a b)=cond c (pM a) (pM b):=by cases c <;> rfl
theorem Yj (x:cj):pM (.next x)=cond ((goN bD x).by (aA.aa.exit 999983)) (some ((goN bD x).st.t2,(goN bD x).st.t3)) (cond ((goN bD x).by aA.aa.ret) (some ((goN bD x).st.t2,(goN bD x).st.t3)) none):=rfl
def mB (s:aD):cj:=⟨⟨0,fun _=>⟨⟨0,fun _=>⟨0,0⟩⟩,⟨0,fun _=>0⟩⟩⟩,0,⟨0,fun _=>⟨⟨0,fun _=>⟨0,0⟩⟩,⟨0,fun _=>0⟩⟩⟩,Sl.lit [⟨s.root,0⟩],s⟩
def lZ (s:aD):Option (Sl Path×Int):=
 (cond (lI s).isSome
  (cond (((lI s).getD default) != 0)
  (some ((mB s).t2,((lI s).getD default)))
  (cond ((s.root.slot==0)&&((s.root.gen==0)&&true))
   (some ((mB s).t2,0))
   (cond (dE s).isSome
   (cond ((decide (0<=s.root.slot))&&(decide (s.root.slot < (((dE s).getD default).fst.n:Int))))
    (cond (decide ((((dE s).getD default).fst.get (Int.toNat s.root.slot)) > 16))
    (some ((mB s).t2,120))
    (cond ((decide (0<=s.root.slot))&&(decide (s.root.slot < (((dE s).getD default).snd.n:Int))))
     (cond (decide ((((dE s).getD default).snd.get (Int.toNat s.root.slot)) > 256))
     (some ((mB s).t2,120))
     (pM (bD (mB s))))
     none))
    none)
   none)))
  none)
theorem Rj (s:aD):zS PG (mS PG [(91,qZ),(25,um)] [kQ,AG] (fun q=>Nat.beq q 166||Nat.beq q 3000166||Nat.beq q 4000166)) 9 9 35 [xc s] = (lZ s).map (fun (r:Sl Path×Int)=>KV.nh [dD 38 xw r.1,(kI .i64) r.2]):=by
 unfold lZ bD mB;simp only [ahm,Yj,cK,FC,Hz,HB,HC,S7,HA,Sv]
 kernel_rfl
def xy:List KV->KR KV:=cJ PG 35 (cU (fun (r:Sl Path×Int)=>KV.nh [dD 38 xw r.1,(kI .i64) r.2]) fun vs=>lZ (mT (v9 vs 0)))
theorem xz:cB PG 35 xy:=ir (aw.cons vu (aw.cons tu aw.nil)) (qP oE (bP.amo Js bP.nil)) fun w=>Rj (mT (g0 34 (w 0)))
end
end Go.Proofs.YtckbdndhmcoihaaGreat.b
end
section
namespace Go.aA
noncomputable section
open Go
structure Jt (P:Program) (f:FuncId) (t e:TypeId) (i0:TypeInfo) (z:Value) (sz:Nat):Prop where
 under:P.underlying t=some (.slice e)
 info:P.info? e=some i0
 zero:i0.zero=some z
 zc:z.cells.size=sz
 size:i0.size=sz
 pos:2<=sz
 fn : ∃ fn, P.funcs[f]? = some fn ∧ fn.body.isSome = true ∧ (fn.name == "runtime.NumGoroutine") = false
 nothing:∀ (w:World) (bs vb:Option Addr) (n c i vc:Nat),i<=n->Calls P f #[.slice bs n c,.int .i64 i,.slice vb 0 vc] w fun e w'=>e = .returned (.slice bs n c)/\w' = w
 fin:∀ (w:World) (bs vb:Option Addr) (n c m vc:Nat),0 < m->∀ (v' : Value) (w' : World),(∀ ty,(Builtin.append_ #[t,t] ty #[.slice bs n c,.slice vb m vc]).run P w = .ok v' w')->
  Calls P f #[.slice bs n c,.int .i64 n,.slice vb m vc] w fun e w2=>e = .returned v'/\w2=w'
 shift:∀ (b off n c i vb sF m vc:Nat) (cs vs:List Value) (w:World),i < n->0 < m->n+m<=c->n+m<=17592186044416->vb≠b->cs.length=n * sz->vs.length=m * sz->
  (∀ (j:Nat) (v:Value),cs[j]? = some v->w.cell? ⟨b,off+j,none⟩=some v)->(∀ j,j < (n+m) * sz->(w.cell? ⟨b,off+j,none⟩).isSome=true)->(∀ j,j < (n+m) * sz->w.frozen? ⟨b,off+j,none⟩=false)->
  (∀ (j:Nat) (v:Value),vs[j]? = some v->w.cell? ⟨vb,sF+j,none⟩=some v)->(∀ v∈cs,v.oneCell' = true)->(∀ v∈vs,v.oneCell' = true)->
  ∀ (tA tB:TypeId) (kA kB:Nat),w.shape? vb=some (tA,kA)->w.shape? b=some (tB,kB)->kB≠0->w.frozen? ⟨vb,sF,none⟩=false->w.frozen? ⟨vb,kA,none⟩=false->
  Calls P f #[.slice (some ⟨b,off,none⟩) n c,.int .i64 i,.slice (some ⟨vb,sF,none⟩) m vc] w fun e w'=>
   e = .returned (.slice (some ⟨b,off,none⟩) (n+m) c)/\w' = (w.drew.setCells b (off+(i+m) * sz) (cs.drop (i * sz))).setCells b (off+i * sz) vs
 grow:∀ (b off n c i vb sF m vc:Nat) (cs vs:List Value) (w:World),i < n->0 < m->n<=c->c < n+m->n+m<=17592186044416->(n+m) * i0.bytes<=140737488355328->cs.length=n * sz->vs.length=m * sz->
  (∀ (j:Nat) (v:Value),cs[j]? = some v->w.cell? ⟨b,off+j,none⟩=some v)->(∀ (j:Nat) (v:Value),vs[j]? = some v->w.cell? ⟨vb,sF+j,none⟩=some v)->(∀ v∈cs,v.oneCell' = true)->(∀ v∈vs,v.oneCell' = true)->
  b < w.heap.size->vb < w.heap.size->
  Calls P f #[.slice (some ⟨b,off,none⟩) n c,.int .i64 i,.slice (some ⟨vb,sF,none⟩) m vc] w fun e' w'=>
   e' = .returned (.slice (some ⟨w.heap.size,0,none⟩) (n+m) (grownCap w (n+m) c e))/\
   w' = (((w.alloc (.cells ((cs.take (i * sz)).toArray++Builtin.zeroCells z.cells (n+m - i)++Builtin.zeroCells z.cells (grownCap w (n+m) c e - (n+m))) e)).drew.setCells w.heap.size (i * sz) vs).drew).setCells w.heap.size ((i+m) * sz) (cs.drop (i * sz))
theorem FD (b:Nat):∀ (xs ys:List Value) (o:Nat) (w:World),w.setCells b o (xs++ys)=(w.setCells b o xs).setCells b (o+xs.length) ys
 | [],ys,o,w=>by simp [World.setCells]
 | x::xs,ys,o,w=>by
  simp only [List.cons_append,World.setCells];rw [FD b xs ys (o+1)];simp only [lF];rw [show o+1+xs.length=o+(xs.length+1) by omega]
theorem Xg (w:World) (b i j:Nat) (u v:Value) (h:i≠j):(w.setCell ⟨b,i,none⟩ u).setCell ⟨b,j,none⟩ v=(w.setCell ⟨b,j,none⟩ v).setCell ⟨b,i,none⟩ u:=by
 simp only [World.setCell,Option.isSome_none,CU,if_false];congr 1;apply Array.ext_getElem?;intro k;simp only [Array.getElem?_modify];by_cases hk:b=k
 ·subst hk
  simp only [if_true];cases w.heap[b]? with
  | none=>rfl
  | some o=>
   cases o <;> simp only [Option.map_some];congr 2;apply Array.ext_getElem?;intro m;simp only [Array.getElem?_setIfInBounds,Array.size_setIfInBounds];by_cases h1:j=m <;> by_cases h2:i=m <;> simp_all
 ·simp [hk]
theorem AH (b i:Nat) (u:Value):∀ (ys:List Value) (o:Nat) (w:World),i < o\/o+ys.length<=i->(w.setCell ⟨b,i,none⟩ u).setCells b o ys=(w.setCells b o ys).setCell ⟨b,i,none⟩ u
 | [],o,w,_=>rfl
 | y::ys,o,w,h=>by
  simp only [World.setCells];rw [Xg w b i o u y (by simp at h; omega),AH b i u ys (o+1) _ (by simp at h; omega)]
theorem Ju (b:Nat):∀ (xs ys:List Value) (o1 o2:Nat) (w:World),o1+xs.length<=o2->(w.setCells b o2 ys).setCells b o1 xs=(w.setCells b o1 xs).setCells b o2 ys
 | [],ys,o1,o2,w,_=>rfl
 | x::xs,ys,o1,o2,w,h=>by
  simp only [World.setCells];rw [<- AH b o1 x ys o2 w (by simp at h; omega)];exact Ju b xs ys (o1+1) o2 _ (by simp at h; omega)
def tv (c:Array Value):Nat->List Value->Array Value
 | _,[]=>c
 | o,v::vs=>tv (c.setIfInBounds o v) (o+1) vs
theorem Bh:∀ (vs:List Value) (o:Nat) (c:Array Value),(tv c o vs).size=c.size
 | [],_,_=>rfl
 | v::vs,o,c=>by rw [tv,Bh vs]; simp
theorem Jv:∀ (vs:List Value) (o:Nat) (c:Array Value) (j:Nat),o+vs.length<=c.size->(tv c o vs)[j]? = if o<=j/\j < o+vs.length then vs[j - o]? else c[j]?
 | [],o,c,j,_=>by simp only [tv,FL,p8]; rw [ae (by omega)]
 | v::vs,o,c,j,h=>by
  rw [tv,Jv vs (o+1) _ j (by simp at h ⊢; omega)];by_cases h1:o+1<=j/\j < o+1+vs.length
  ·rw [ax h1,ax (by simp; omega),show j - o=(j - (o+1))+1 by omega]
   simp
  ·rw [ae h1,Array.getElem?_setIfInBounds]
   by_cases h2:o=j
   ·subst h2
    have:o < c.size:=by simp at h; omega
    simp [this]
   ·rw [ae h2,ae (by simp; omega)]
theorem Wa (w:World) (c:Array Value) (T:TypeId) (o:Nat) (v:Value):(w.alloc (.cells c T)).setCell ⟨w.heap.size,o,none⟩ v=w.alloc (.cells (c.setIfInBounds o v) T):=by
 simp only [World.setCell,Option.isSome_none,CU,if_false,World.alloc];congr 1;apply Array.ext_getElem?;intro k;rw [Array.getElem?_modify];by_cases hk:w.heap.size=k
 ·subst hk; simp
 ·simp only [hk,if_false,Array.getElem?_push]
  rw [ae (fun h=>hk h.symm)];simp [Ne.symm hk]
theorem Ao (w:World) (T:TypeId):∀ (vs:List Value) (o:Nat) (c:Array Value),(w.alloc (.cells c T)).setCells w.heap.size o vs=w.alloc (.cells (tv c o vs) T)
 | [],_,_=>rfl
 | v::vs,o,c=>by rw [World.setCells,Wa,Ao w T vs,tv]
theorem alloc_drew (w:World) (o:Obj):(w.alloc o).drew=w.drew.alloc o:=rfl
theorem G1 {ρ:Ren} {A:St} {base:Nat} {w:World} {a:Addr} {n:Nat} {cs:List Value} {l:Loc} (hs:Rel ρ A.get A.members base w) (hl:A.nK a n=some cs) (iZ:ρ a.block=some l) :
  a.spot=none/\∃ b5,cD ρ cs b5/\cs.length=n/\(∀ v∈cs,scalar v=true)/\∀ (j:Nat) (v' : Value),b5[j]? = some v'->w.cell? ⟨l.cb,l.cg+a.off+j,none⟩=some v':=by
 simp only [St.nK] at hl;cases hp:bH a with
 | false=>simp [hp] at hl
 | true=>
  rw [hp,ah] at hl;obtain ⟨mG,h1,h2⟩:=aO.1 hl;simp only [q8] at h1;split at h1
  ·rename_i c e o aZ hg
   simp at h1; subst h1;rw [nS] at h2;obtain ⟨rfl,hlen⟩:=EM h2;obtain ⟨l',iL,ok⟩:=hs.row _ _ _ _ _ hg;rw [iZ] at iL; simp at iL; subst iL;have fA:∀ (j:Nat) (v:Value),((c.drop a.off).take n)[j]? = some v->j < n/\c[a.off+j]? = some v:=by
    intro j v e;rw [kR] at e;split at e
    ·rename_i hj; rw [lE] at e; exact ⟨hj,e⟩
    ·simp at e
   obtain ⟨b5,hr,hc⟩:=F6 (ρ:=ρ) (fun j=>w.cell? ⟨l.cb,l.cg+a.off+j,none⟩) ((c.drop a.off).take n) 0 (fun j v e=>by
    obtain ⟨v',h3,h4,_⟩:=ok.cells _ _ (fA j v e).2;exact ⟨v',by rw [bF,nD]; exact h3,h4⟩)
   refine ⟨Qf hp,b5,hr,by rw [jw,Nat.min_eq_left hlen],fun v hv=>?_,fun j v' e=>by simpa using hc j v' e⟩;obtain ⟨j,hj⟩:=List.getElem?_of_mem hv;exact (ok.cells _ _ (fA j v hj).2).choose_spec.2.2
  ·simp at h1
theorem cD.Wb {ρ:Ren} {cs b5:List Value} (h:cD ρ cs b5) (h1:∀ v∈cs,scalar v=true):∀ v∈b5,v.oneCell' = true:=by
 intro v hv;obtain ⟨i,hi⟩:=List.getElem?_of_mem hv;have aI:i < cs.length:=by rw [<- h.length]; exact (cp.1 hi).1
 obtain ⟨u,hu⟩:∃ u,cs[i]? = some u:=⟨cs[i],cl aI⟩
 obtain ⟨v2,h7,h8⟩:=h.get hu;rw [hi] at h7; simp at h7; subst h7;exact h8.scalar (h1 u (eW hu))
theorem Jw {w:World} {b o:Nat} (h:(w.cell? ⟨b,o,none⟩).isSome=true):∃ T k,w.shape? b=some (T,k)/\o < k:=by
 simp only [World.cell?,World.shape?] at h ⊢;cases hb:w.heap[b]? with
 | none=>rw [hb] at h; simp at h
 | some ob=>
  rw [hb] at h;cases ob with
  | cells c T fr=>
   simp only at h ⊢;refine ⟨T,c.size,rfl,?_⟩;rcases Nat.lt_or_ge o c.size with h1 | h1
   ·exact h1
   ·simp [Array.getElem?_eq_none h1] at h
  | _=>simp at h
theorem Xh {P:Program} {f:FuncId} {t e:TypeId} {i0:TypeInfo} {z:Value} {sz:Nat} (H:Jt P f t e i0 z sz) {args bM:List Value} {A B:St} {v:Value} {ρ:Ren} {base:Nat} {w:World}
  (h:TH sz i0.bytes A args=some (v,B)) (ha:cD ρ args bM) (hs:iv ρ A base w):Calls P f bM.toArray w fun ex w'=>∃ ak v',ex = .returned v'/\VR ak v v'/\cq base ρ A w ak B w':=by
 have cS:=H.pos;unfold TH at h;split at h
 ·rename_i bs n c iz vb k vc
  obtain ⟨s',r1,rfl,Mf,ha1⟩:=ha.cons_inv;obtain ⟨i',r2,rfl,hiv,NW⟩:=ha1.cons_inv;obtain ⟨x',r3,rfl,Qg,ha3⟩:=NW.cons_inv;have:=ha3.bz;subst this;clear ha ha1 NW ha3;have:=hiv.bO;subst this;obtain ⟨i,hi,hh⟩:=aO.1 h;clear h;obtain ⟨rfl,aI⟩:=sN hi;have h:=hh;clear hh;obtain ⟨bs',c',rfl⟩:=F9 Mf;obtain ⟨vb',vc',rfl⟩:=F9 Qg;cases oJ:Nat.beq k 0 with
  | true=>
   rw [oJ,ah] at h;have:=aE oJ;subst this;simp at h;obtain ⟨rfl,rfl⟩:=h;refine (H.nothing w bs' vb' n c' i vc' (by omega)).mono ?_;rintro ex w' ⟨rfl,rfl⟩;exact ⟨ρ,_,rfl,Mf,.refl hs⟩
  | false=>
   rw [oJ,ay] at h;have hk:0 < k:=Nat.pos_of_ne_zero (Nat.ne_of_beq_eq_false oJ);cases mr:Nat.beq i n with
   | true=>
    rw [mr,ah] at h;have:=aE mr;subst this;have abD:BA P t=true:=by unfold BA; rw [H.under]
    rw [<- H.size] at h;obtain ⟨ak,v',w',h1,h2,h3⟩:=Ie (ty:=0) H.under H.info H.zero abD (by rw [H.size]; omega) (by rw [H.zc,H.size]) hs Mf Qg h;refine (H.fin w bs' vb' i c' k vc' hk v' w' (fun ty=>h1)).mono ?_;rintro ex w2 ⟨rfl,rfl⟩;exact ⟨ak,v',rfl,h2,h3⟩
   | false=>
    rw [mr,ay] at h;have alP:i < n:=by have:=Nat.ne_of_beq_eq_false mr; omega
    split at h
    ·rename_i a b
     cases hc:(bH a&&sI A a.block sz&&P4 A a b&&Nat.ble ((n+k) * i0.bytes) 140737488355328&&Nat.ble (n+k) 17592186044416) with
     | false=>rw [hc] at h; simp at h
     | true=>
      rw [hc,ah] at h;simp only [aj] at hc;obtain ⟨⟨⟨⟨SM,hre⟩,haw⟩,u6⟩,qg⟩:=hc;have u6:=cL u6;have qg:=cL qg;have Ga:(n+k) * i0.bytes<=140737488355328:=u6;obtain ⟨new,mi,h⟩:=aO.1 h;obtain ⟨eD,hold,h⟩:=aO.1 h;obtain ⟨tail,amB,h⟩:=aO.1 h;obtain ⟨_,hnc,lc,a',c2,hl,ri,BF,jI,hse⟩:=Mf.iG;simp only [Value.slice.injEq,true_and] at hse;obtain ⟨rfl,rfl⟩:=hse;obtain ⟨_,hkc,lv,b',vc2,UK,hvc,KI,_,T0⟩:=Qg.iG;simp only [Value.slice.injEq,true_and] at T0;obtain ⟨rfl,rfl⟩:=T0;have ha:=BF (by omega);subst ha;have hb:=KI (by omega);subst hb;have SM:=Qf SM;obtain ⟨_,bJ,q1,q2,q3,q4⟩:=G1 hs.rel mi UK;obtain ⟨_,jJ,p1,p2,p3,p4⟩:=G1 hs.rel hold hl;obtain ⟨_,rz,t1,t2,t3,t4⟩:=G1 hs.rel amB hl;simp only at t4;have Mc:jJ.length=i * sz:=by rw [p1.length,p2]
      have SS:bJ.length=k * sz:=by rw [q1.length,q2]
      have htl:rz.length=(n - i) * sz:=by rw [t1.length,t2]
      have hni:i * sz+(n - i) * sz=n * sz:=by rw [<- Nat.add_mul]; congr 1; omega
      have BL:(jJ++rz).length=n * sz:=by rw [fE,Mc,htl,hni]
      have AJ:∀ (j:Nat) (u:Value),(jJ++rz)[j]? = some u->w.cell? ⟨lc.cb,lc.cg+a.off+j,none⟩=some u:=by
       intro j u hj;rw [List.getElem?_append] at hj;split at hj
       ·exact p4 j u hj
       ·rename_i Md
        have:=t4 _ u hj;rw [<- this];congr 2;rw [Mc] at Md ⊢;omega
      have ajM:(jJ++rz).drop (i * sz)=rz:=by rw [<- Mc]; simp
      have UL:(jJ++rz).take (i * sz)=jJ:=by rw [<- Mc]; simp
      have h1c:∀ u∈jJ++rz,u.oneCell' = true:=fun u hu=>(eP.1 hu).elim (p1.Wb p3 u) (t1.Wb t3 u);have h1v:=q1.Wb q3;obtain ⟨cs,own,aZ,dB⟩:=Ma hre;obtain ⟨l2,iM,ok⟩:=hs.rel.row _ _ _ _ _ dB;rw [hl] at iM; simp at iM; subst iM;have Qc:lc.aQ=sz:=ok.aQ;rw [Qc] at jI;obtain ⟨iw,e2,ajN,he2,ais⟩:∃ iw e2,A.get b.block=some (.row iw e2 true none)/\e2≠1/\a.block≠b.block:=by
       unfold P4 at haw;simp only [aj,iA] at haw;obtain ⟨⟨h1,_⟩,h2⟩:=haw;split at h2
       ·rename_i iw e2 hg
        exact ⟨iw,e2,hg,fun e=>by subst e; simp at h2,Nat.ne_of_beq_eq_false h1⟩
       ·simp at h2
      obtain ⟨l3,WR,okv⟩:=hs.rel.row _ _ _ _ _ ajN;rw [UK] at WR; simp at WR; subst WR;have ajO:∀ j,w.frozen? ⟨lv.cb,j,none⟩=false:=okv.mark rfl (by rw [okv.aQ]; exact he2);have akR:(w.cell? ⟨lv.cb,lv.cg+b.off,none⟩).isSome=true:=by
       have aI:0 < bJ.length:=by rw [SS]; exact Nat.mul_pos hk (by omega)
       have:=q4 0 _ (cl aI);rw [p8] at this;rw [this]; rfl
      obtain ⟨tA,kA,hsa,_⟩:=Jw akR;have akS:(w.cell? ⟨lc.cb,lc.cg+a.off,none⟩).isSome=true:=by
       have aI:0 < (jJ++rz).length:=by rw [BL]; exact Nat.mul_pos (by omega) (by omega)
       have:=AJ 0 _ (cl aI);rw [p8] at this;rw [this]; rfl
      obtain ⟨tB,kB,YP,hkB⟩:=Jw akS;have inPlace:own=true->n+k<=c'->Calls P f #[.slice (some ⟨lc.cb,lc.cg+a.off,none⟩) n c',.int .i64 i,.slice (some ⟨lv.cb,lv.cg+b.off,none⟩) k vc'] w fun ex w'=>
        ex = .returned (.slice (some ⟨lc.cb,lc.cg+a.off,none⟩) (n+k) c')/\w' = w.drew.setCells lc.cb (lc.cg+a.off+i * sz) (bJ++rz):=by
       intro Sx la;have ajJ:∀ j,j < (n+k) * sz->lc.cg+a.off+j < lc.rV:=fun j hj=>by
        have:(n+k) * sz<=c' * sz:=Nat.mul_le_mul_right _ la;omega
       have anU:lv.cb≠lc.cb:=by
        intro e;subst Sx;obtain ⟨aF,f1,f2,e1,_⟩:=hs.rel.apart b.block a.block _ _ lv lc ais.symm ajN dB rfl rfl UK hl e;simp [aY.hO] at e1
       refine (H.shift lc.cb (lc.cg+a.off) n c' i lv.cb (lv.cg+b.off) k vc' (jJ++rz) bJ w alP hk la qg anU BL SS AJ (fun j hj=>(ok.there Sx _ (ajJ j hj)).1) (fun j hj=>(ok.there Sx _ (ajJ j hj)).2)
        q4 h1c h1v tA tB kA kB hsa YP (by omega) (ajO _) (ajO _)).mono ?_
       rintro ex w' ⟨rfl,rfl⟩;refine ⟨rfl,?_⟩;rw [ajM,FD];have e1:lc.cg+a.off+i * sz+bJ.length=lc.cg+a.off+(i+k) * sz:=by rw [SS,Nat.add_mul]; omega
       rw [e1];exact Ju _ _ _ _ _ _ (by rw [SS,Nat.add_mul]; omega)
      have XA:∀ (aF fo:Nat) (K:St),K=A\/(∃ x lo hi L,K=A.kill x lo hi L)->c' < n+k->
        Calls P f #[.slice (some ⟨lc.cb,lc.cg+a.off,none⟩) n c',.int .i64 i,.slice (some ⟨lv.cb,lv.cg+b.off,none⟩) k vc'] w fun ex w'=>
         ∃ ak v',ex = .returned v'/\VR ak (.slice (some ⟨A.next,0,none⟩) (n+k) (n+k)) v'/\cq base ρ A w ak (K.grow aF fo (eD++(new++tail)) sz) w':=by
       intro aF fo K hK EX;have Md:=grownCap_ge w (n+k) c' e;refine (H.grow lc.cb (lc.cg+a.off) n c' i lv.cb (lv.cg+b.off) k vc' (jJ++rz) bJ w alP hk (by omega) EX qg Ga BL SS AJ q4 h1c h1v ok.gF okv.gF).mono ?_;rintro ex w' ⟨rfl,rfl⟩;rw [ajM,UL];generalize Yk:(jJ.toArray++Builtin.zeroCells z.cells (n+k - i)++Builtin.zeroCells z.cells (grownCap w (n+k) c' e - (n+k)))=CF;have zN:CF.size=grownCap w (n+k) c' e * sz:=by
        rw [<- Yk];rw [Array.size_append,Array.size_append,Ic,Ic,H.zc,List.size_toArray,Mc,<- Nat.add_mul,<- Nat.add_mul];congr 1; omega
       have hnk:(n+k) * sz<=CF.size:=by rw [zN]; exact Nat.mul_le_mul_right _ Md
       have anV:(n+k) * sz=i * sz+k * sz+(n - i) * sz:=by rw [<- Nat.add_mul,<- Nat.add_mul]; congr 1; omega
       have e1:(w.alloc (.cells CF e)).drew.setCells w.heap.size (i * sz) bJ=(w.drew.alloc (.cells (tv CF (i * sz) bJ) e)):=by
        rw [alloc_drew];exact Ao w.drew e bJ (i * sz) CF
       have e2:(((w.alloc (.cells CF e)).drew.setCells w.heap.size (i * sz) bJ).drew).setCells w.heap.size ((i+k) * sz) rz=w.drew.drew.alloc (.cells (tv (tv CF (i * sz) bJ) ((i+k) * sz) rz) e):=by
        rw [e1,alloc_drew];exact Ao w.drew.drew e rz ((i+k) * sz) _
       rw [e2];generalize hF:tv (tv CF (i * sz) bJ) ((i+k) * sz) rz=F;have aga:F.size=grownCap w (n+k) c' e * sz:=by rw [<- hF,Bh,Bh,zN]
       have amC:∀ (j:Nat) (u:Value),(jJ++(bJ++rz))[j]? = some u->F[j]? = some u:=by
        intro j u hj;rw [<- hF,Jv _ _ _ _ (by rw [Bh,htl,Nat.add_mul]; omega),Jv _ _ _ _ (by rw [SS]; omega),htl,SS];rw [List.getElem?_append] at hj;split at hj
        ·rename_i hj1
         rw [Mc] at hj1;rw [ae (by rw [Nat.add_mul]; omega),ae (by omega),<- Yk];rw [Array.getElem?_append_left (by simp [Mc]; omega),Array.getElem?_append_left (by simpa [Mc] using hj1)];simpa using hj
        ·rename_i hj1
         rw [Mc] at hj1 hj;rw [List.getElem?_append] at hj;split at hj
         ·rename_i hj2
          rw [SS] at hj2;rw [ae (by rw [Nat.add_mul]; omega),ax (by omega)];exact hj
         ·rename_i hj2
          rw [SS] at hj2 hj;have hj3:j - i * sz - k * sz < rz.length:=(cp.1 hj).1;rw [htl] at hj3;rw [ax (by rw [Nat.add_mul]; omega)];rw [<- hj];congr 1;rw [Nat.add_mul]; omega
       have hkg:cq base ρ A w ρ K w.drew.drew:=by
        have hd:∀ (K:St) (w1:World),cq base ρ A w ρ K w1->cq base ρ A w ρ K w1.drew.drew:=fun K w1 h=>(h.trans (cq.drew h.dI)).trans (cq.drew (h.trans (cq.drew h.dI)).dI);rcases hK with rfl | ⟨x,lo,hi,L,rfl⟩
        ·exact hd _ _ (.refl hs)
        ·exact hd _ _ (Mb hs x lo hi L)
       have hKn:K.next=A.next:=by
        rcases hK with rfl | ⟨x,lo,hi,L,rfl⟩
        ·rfl
        ·simp
       have ze:=Ib (w:=w.drew.drew) (n:=sz) (aF:=aF) (f:=fo) (c:=F) e hkg.dI (p1.append (q1.append t1))
        (fun u hu=>(eP.1 hu).elim (p3 u) fun h=>(eP.1 h).elim (q3 u) (t3 u)) amC (by
        rw [aga,fE,fE,p2,q2,t2,<- nD,<- anV];exact Nat.mul_le_mul_right _ Md)
       refine ⟨_,_,rfl,?_,hkg.trans ze⟩;simp only [VR];refine ⟨trivial,ao _,_,⟨w.heap.size,0,none⟩,grownCap w (n+k) c' e,by rw [hKn]; exact Ren.dj _ _ _,Md,fun _=>rfl,?_,rfl⟩;show 0+0+grownCap w (n+k) c' e * sz<=F.size;rw [aga];omega
      show Calls P f #[.slice (some ⟨lc.cb,lc.cg+a.off,none⟩) n c',.int .i64 i,.slice (some ⟨lv.cb,lv.cg+b.off,none⟩) k vc'] w _;have gV:cD ρ (new++tail) (bJ++rz):=q1.append t1;have ajP:∀ u∈new++tail,scalar u=true:=fun u hu=>(eP.1 hu).elim (q3 u) (t3 u);cases la:Nat.ble (n+k) c with
      | true=>
       rw [la,ah] at h;have la:=cL la;obtain ⟨B',eZ,h⟩:=aU.1 h;simp at h;obtain ⟨rfl,rfl⟩:=h;simp only [St.rD,dB] at eZ;cases hp:(bH ⟨a.block,a.off+i * sz,none⟩&&(new++tail).all scalar) with
       | false=>rw [hp] at eZ; simp at eZ
       | true=>
        rw [hp,ah] at eZ;cases own with
        | false=>simp at eZ
        | true=>
         obtain ⟨cs3,hw3,rfl⟩:=aU.1 eZ;have SN:=cq.drew (w:=w) hs;have ze:=NU (w:=w.drew) SN.dI dB hw3 gV ajP hl;refine (inPlace rfl (by omega)).mono ?_;rintro ex w' ⟨rfl,rfl⟩;refine ⟨ρ,_,rfl,?_,?_⟩
         ·simp only [VR]
          exact ⟨SM,la,lc,_,c',hl,ri,fun _=>rfl,by rw [Qc]; exact jI,rfl⟩
         ·rw [nD lc.cg]
          exact SN.trans ze
      | false=>
       rw [la,ay] at h;have la:c < n+k:=by
        have : ¬ (n+k<=c):=fun h=>by rw [Nat.ble_eq_true_of_le h] at la; simp at la
        omega
       cases hex:ng A sz c (some a) with
       | false=>rw [hex] at h; simp at h
       | true=>
        rw [hex,ah] at h;unfold aeJ at h;simp only [dB] at h;cases Sx:own with
        | false=>rw [Sx] at h; simp at h
        | true=>
         rw [Sx] at h;have hbq:Nat.beq sz sz=true:=by simp
         rw [hbq] at h;simp only [cY,ah] at h;cases aZ with
         | none=>
          simp at h;obtain ⟨rfl,rfl⟩:=h;have T0:a.off+c * sz=cs.length:=by
           unfold ng at hex;simp only [dB] at hex;exact aE hex
          have al1:=ok.ends Sx rfl;have TZ:c' < n+k:=by
           have h9:c' * sz<=c * sz:=by omega
           have:=Nat.le_of_mul_le_mul_right h9 (by omega);omega
          exact XA A.next 0 A (.inl rfl) TZ
         | some p=>
          obtain ⟨aF,fo⟩:=p;simp at h;obtain ⟨rfl,rfl⟩:=h;by_cases TZ:c' < n+k
          ·have:=XA aF (fo+a.off) (A.kill A.next (fo+(a.off+i * sz)) (fo+(a.off+i * sz)+(new.length+tail.length)) (A.members aF)) (.inr ⟨_,_,_,_,rfl⟩) TZ
           exact this
          ·have SN:=cq.drew (w:=w) hs
           subst Sx;have ze:=N3 (w:=w.drew) (fQ:=a.off) (s:=i * sz) SN.dI dB hl p1 p3 p2 (fun j v' hj=>p4 j v' hj) gV ajP (by
            rw [fE,q2,t2];have h9:(n+k) * sz<=c' * sz:=Nat.mul_le_mul_right _ (by omega);have qh:(n+k) * sz=i * sz+k * sz+(n - i) * sz:=by rw [<- Nat.add_mul,<- Nat.add_mul]; congr 1; omega
            omega)
           refine (inPlace rfl (by omega)).mono ?_;rintro ex w' ⟨rfl,rfl⟩;refine ⟨ρ.set A.next ⟨lc.cb,lc.cg+a.off,lc.rV,sz⟩,_,rfl,?_,?_⟩
           rotate_left
           ·have:=SN.trans ze
            rw [fE] at this;exact this
           ·simp only [VR]
            refine ⟨trivial,ao _,_,_,c',Ren.dj _ _ _,by omega,fun _=>rfl,?_,rfl⟩;show lc.cg+a.off+0+c' * sz<=lc.rV;omega
    ·simp at h
 ·simp at h
theorem aag {P:Program} {f:FuncId} {t e:TypeId} {i0:TypeInfo} {z:Value} {sz:Nat} (H:Jt P f t e i0 z sz):J2 P (CY [(f,sz,i0.bytes)]):=by
 intro g fn hS args A v B hg;simp only [CY] at hS;cases hb:Nat.beq g f with
 | false=>rw [hb] at hS; simp at hS
 | true=>
  rw [hb] at hS;have:=aE hb;subst this;simp at hS;subst hS;exact ⟨H.fn,fun ρ bM base w hv hs=>Xh H hg hv hs⟩
end
end Go.aA
end
section
namespace Go.Proofs.YtckbdndhmcoihaaGreat.insert
open Go
theorem G2 {P:Program} (w:World) (dT sT ty elem:TypeId) (size b o Eu alb:Nat) (a:Addr) (cr jU:Nat) (cs:List Value)
  (hu:P.underlying dT=some (.slice elem)) (hs:(P.info? elem).map (·.size)=some size) (hn:cs.length=Nat.min cr Eu * size)
  (abD:∀ (j:Nat) (v:Value),cs[j]? = some v->w.cell? (a.add j)=some v) (hc:∀ j,j < cs.length->(w.cell? ⟨b,o+j,none⟩).isSome=true) (hf:∀ j,j < cs.length->w.frozen? ⟨b,o+j,none⟩=false) (h1:∀ v∈cs,v.oneCell' = true) :
  (Builtin.copy_ #[dT,sT] ty #[.slice (some ⟨b,o,none⟩) Eu alb,.slice (some a) cr jU]).run P w = .ok (goInt (Nat.min cr Eu)) (w.setCells b o cs):=by
 have hl:=run_loadCells_list (P:=P) w a cs abD;have eZ:=run_storeCells_cells (P:=P) b o cs 0 w (by simpa using hc) (by simpa using hf) h1;cases hq:P.info? elem with
 | none=>simp [hq] at hs
 | some i=>
  have hi:i.size=size:=by simpa [hq] using hs
  rw [hn] at hl;simp [Builtin.copy_,run_underlying hu,Builtin.lenOf,Builtin.firstCells,sizeOf,typeInfo,hq,hi,hl,eZ]
theorem Sy {P:Program} {ops:Array Oper} {o:Oper} {a:Act} {w:World} {K:Act->World->Prop} {Q:Exit->Act->World->Prop} {E:Prop}
  (hg:o.guard=none) (d x:Operand) (dT sT:TypeId) (YA:o.op=Op.call { callee:=Callee.builtin Builtin.copy,args:=#[d,x],argTypes:=#[dT,sT] })
  (v u:Value) (hd:a.eval d=v) (hx:a.eval x=u) {v' : Value} {w' : World} (hr:(Builtin.copy_ #[dT,sT] o.type #[v,u]).run P w = .ok v' w') (hK:K (a.put o.dst v') w') :
  if Region.wanted o (yielded ops a.tmps)=true then Oper.wp P o a w K Q else E:=by
 have hw:Region.wanted o (yielded ops a.tmps)=true:=by simp [Region.wanted,hg]
 rw [ax hw];unfold Oper.wp;simp [execOp,YA,resolve,invoke,builtin,hd,hx,hr,Result.andThen];exact hK
theorem isSome_setCells (b:Nat) (vs:List Value) (o:Nat) (w:World) (k:Nat) (hk:(w.cell? ⟨b,k,none⟩).isSome=true):((w.setCells b o vs).cell? ⟨b,k,none⟩).isSome=true:=by
 rw [aA.sL]; exact hk
theorem ahn (w:World) (bs vb:Option Addr) (n c i vc:Nat) (hi:i<=n) :
  Calls Tryz.prog 215 #[.slice bs n c,.int .i64 i,.slice vb 0 vc] w fun e w'=>e = .returned (.slice bs n c)/\w' = w:=by
 have uT:=run_underlying Tryz.underlying35
 go_enter Tryz.func215,Tryz.ntmps215
 go_wp2
 all_goals (go_ret; exact ⟨rfl,rfl⟩)
theorem ajQ (w:World) (bs vb:Option Addr) (n c m vc:Nat) (hm:0 < m) (v' : Value) (w' : World) (hr:∀ ty,(Builtin.append_ #[35,35] ty #[.slice bs n c,.slice vb m vc]).run Tryz.prog w = .ok v' w') :
  Calls Tryz.prog 215 #[.slice bs n c,.int .i64 n,.slice vb m vc] w fun e w2=>e = .returned v'/\w2=w':=by
 have uT:=run_underlying Tryz.underlying35;have F7 : ¬ ((m:Int)=0):=by omega
 go_enter Tryz.func215,Tryz.ntmps215
 go_wp2_with (at_builtin; refine Lib.wpList_append_run _ rfl _ _ _ _ rfl _ _ rfl rfl _ _ (hr _) ?_)
 all_goals (go_ret; exact ⟨rfl,rfl⟩)
set_option maxHeartbeats 4000000 in
set_option maxRecDepth 100000 in
theorem aec (b off n c i vb sF m vc:Nat) (cs vs:List Value) (w:World) (hi:i < n) (hm:0 < m) (la:n+m<=c) (afW:n+m<=17592186044416) (hvb:vb≠b)
  (BL:cs.length=n * 2) (CN:vs.length=m * 2)
  (AJ:∀ (j:Nat) (v:Value),cs[j]? = some v->w.cell? ⟨b,off+j,none⟩=some v) (ua:∀ j,j < (n+m) * 2->(w.cell? ⟨b,off+j,none⟩).isSome=true) (OI:∀ j,j < (n+m) * 2->w.frozen? ⟨b,off+j,none⟩=false)
  (TU:∀ (j:Nat) (v:Value),vs[j]? = some v->w.cell? ⟨vb,sF+j,none⟩=some v) (h1c:∀ v∈cs,v.oneCell' = true) (h1v:∀ v∈vs,v.oneCell' = true)
  (tA tB:TypeId) (kA kB:Nat) (hsa:w.shape? vb=some (tA,kA)) (YP:w.shape? b=some (tB,kB)) (hkB:kB≠0) (hfa:w.frozen? ⟨vb,sF,none⟩=false) (hfe:w.frozen? ⟨vb,kA,none⟩=false) :
  Calls Tryz.prog 215 #[.slice (some ⟨b,off,none⟩) n c,.int .i64 i,.slice (some ⟨vb,sF,none⟩) m vc] w fun e w'=>
   e = .returned (.slice (some ⟨b,off,none⟩) (n+m) c)/\w' = (w.drew.setCells b (off+(i+m) * 2) (cs.drop (i * 2))).setCells b (off+i * 2) vs:=by
 have uT:=run_underlying Tryz.underlying35;have F7 : ¬ ((m:Int)=0):=by omega
 have vY : ¬ ((i:Int)=(n:Int)):=by omega
 have cS:(Tryz.prog.info? 32).map (·.size)=some 2:=by kernel_rfl
 have hov:∀ lb cb,(callFunc 224 #[.slice (some ⟨vb,sF,none⟩) m vc,.slice (some ⟨b,off+(i+m) * 2,none⟩) lb cb]).run Tryz.prog w = .ok (.value (.bool false)) w:=fun lb cb=>by
  rw [run_callFunc_extern Tryz.func224 (by kernel_rfl) (by kernel_rfl) (by kernel_rfl) (e:=Extern.SlicesOverlaps.overlaps #[35,35] #[4]) (by kernel_rfl),
   Lib.run_overlaps_apart w 35 4 32 Tryz.underlying35 2 (Tryz.sizeOf32) ⟨vb,sF,none⟩ ⟨b,off+(i+m) * 2,none⟩ m vc lb cb hvb tA tB kA kB hsa YP hkB hfa hfe]
  rfl
 have hdl:(cs.drop (i * 2)).length=(n - i) * 2:=by rw [List.length_drop,BL]; omega
 have hw1:IntKind.i64.wrap ((i:Int)+(m:Int))=(i:Int)+(m:Int):=by rw [IntKind.wrap_i64]; omega
 have hw2:IntKind.i64.wrap ((n:Int)+(m:Int))=(n:Int)+(m:Int):=by rw [IntKind.wrap_i64]; omega
 have u6:(0:Int)<=(i:Int)+(m:Int):=by omega
 have mr:i<=n:=by omega
 have MK:((i:Int)+(m:Int)).toNat=i+m:=by omega
 have qg : ¬ (c=i+m):=by omega
 have hb3:(i:Int)<=(n:Int)+(m:Int):=by omega
 have hb4 : ¬ (c=i):=by omega
 have alQ:∀ ty dc sc,(Builtin.copy_ #[35,35] ty #[.slice (some ⟨b,off+(i+m) * 2,none⟩) (n+m - (i+m)) dc,.slice (some ⟨b,off+i * 2,none⟩) (n+m - i) sc]).run Tryz.prog w.drew = .ok (goInt ((n - i:Nat):Int)) (w.drew.setCells b (off+(i+m) * 2) (cs.drop (i * 2))):=fun ty dc sc=>by
  have Jx:Nat.min (n+m - i) (n+m - (i+m))=n - i:=by simp only [Nat.min_def]; split <;> omega
  have:=G2 (P:=Tryz.prog) w.drew 35 35 ty 32 2 b (off+(i+m) * 2) (n+m - (i+m)) dc ⟨b,off+i * 2,none⟩ (n+m - i) sc (cs.drop (i * 2)) Tryz.underlying35 cS (by rw [hdl,Jx])
   (fun j v hj=>by rw [Addr.add_lit,nD]; exact AJ (i * 2+j) v (by rwa [lE] at hj))
   (fun j hj=>by rw [nD]; exact ua _ (by omega)) (fun j hj=>by rw [nD]; exact OI _ (by omega)) (fun v hv=>h1c v (List.mem_of_mem_drop hv))
  rw [Jx] at this;exact this
 obtain ⟨W1,Q4⟩:∃ W1,W1=w.drew.setCells b (off+(i+m) * 2) (cs.drop (i * 2)):=⟨_,rfl⟩
 have anW:∀ k,k < (n+m) * 2->(W1.cell? ⟨b,off+k,none⟩).isSome=true:=fun k hk=>by
  rw [Q4];exact isSome_setCells b _ _ _ _ (ua k hk)
 have anX:∀ (W:World),(∀ x,W.cell? x=W1.cell? x)->(∀ x,W.frozen? x=W1.frozen? x)->∀ ty dc,(Builtin.copy_ #[35,35] ty #[.slice (some ⟨b,off+i * 2,none⟩) (n+m - i) dc,.slice (some ⟨vb,sF,none⟩) m vc]).run Tryz.prog W = .ok (goInt m) (W.setCells b (off+i * 2) vs):=fun W hWc hWf ty dc=>by
  have Jx:Nat.min m (n+m - i)=m:=by simp only [Nat.min_def]; split <;> omega
  have:=G2 (P:=Tryz.prog) W 35 35 ty 32 2 b (off+i * 2) (n+m - i) dc ⟨vb,sF,none⟩ m vc vs Tryz.underlying35 cS (by rw [CN,Jx])
   (fun j v hj=>by
    rw [Addr.add_lit,hWc,Q4,World.cell?_setCells_out b _ _ _ _ (fun h _=>absurd h hvb)];exact TU j v hj)
   (fun j hj=>by rw [hWc,nD]; exact anW _ (by omega)) (fun j hj=>by rw [hWf,Q4,World.frozen?_setCells,nD]; exact OI _ (by omega)) h1v
  rw [Jx] at this;exact this
 rw [<- Q4] at alQ;have mixed:Tryz.prog.follows .mixedOrders=true:=by kernel_rfl
 go_enter Tryz.func215,Tryz.ntmps215
 go_wp2_with (simp only [hov])
 go_region_law_o (refine Sy rfl _ _ 35 35 rfl _ _ (by simp [Act.eval,Act.put]) (by simp [Act.eval,Act.put]) (alQ _ _ _) ?_)
 go_wp2_with (at_builtin; refine LM _ rfl _ _ 35 35 rfl _ _ rfl rfl (anX _ (fun _=>rfl) (fun _=>rfl) _ _) ?_)
 go_ret
 first | exact ⟨rfl,rfl⟩ | exact ⟨rfl,by rw [Q4]⟩
set_option maxHeartbeats 4000000 in
set_option maxRecDepth 100000 in
theorem aho (b off n c i vb sF m vc:Nat) (cs vs:List Value) (w:World) (i0:TypeInfo) (z:Value) (hi0:Tryz.prog.info? 32=some i0) (HJ:i0.zero=some z) (hzc:z.cells.size=2) (hi:i < n) (hm:0 < m) (hnc:n<=c) (la:c < n+m) (afW:n+m<=17592186044416) (Ga:(n+m) * i0.bytes<=140737488355328)
  (BL:cs.length=n * 2) (CN:vs.length=m * 2) (T7:i0.size=2)
  (AJ:∀ (j:Nat) (v:Value),cs[j]? = some v->w.cell? ⟨b,off+j,none⟩=some v)
  (TU:∀ (j:Nat) (v:Value),vs[j]? = some v->w.cell? ⟨vb,sF+j,none⟩=some v) (h1c:∀ v∈cs,v.oneCell' = true) (h1v:∀ v∈vs,v.oneCell' = true) (hbw:b < w.heap.size) (hvw:vb < w.heap.size) :
  Calls Tryz.prog 215 #[.slice (some ⟨b,off,none⟩) n c,.int .i64 i,.slice (some ⟨vb,sF,none⟩) m vc] w fun e w'=>
   e = .returned (.slice (some ⟨w.heap.size,0,none⟩) (n+m) (grownCap w (n+m) c 32))/\
   w' = (((w.alloc (.cells ((cs.take (i * 2)).toArray++Builtin.zeroCells z.cells (n+m - i)++Builtin.zeroCells z.cells (grownCap w (n+m) c 32 - (n+m))) 32)).drew.setCells w.heap.size (i * 2) vs).drew).setCells w.heap.size ((i+m) * 2) (cs.drop (i * 2)):=by
 have uT:=run_underlying Tryz.underlying35;have mixed:Tryz.prog.follows .mixedOrders=true:=by kernel_rfl
 have F7 : ¬ ((m:Int)=0):=by omega
 have vY : ¬ ((i:Int)=(n:Int)):=by omega
 have hz3:(c:Int) < (n:Int)+(m:Int):=by omega
 have cS:(Tryz.prog.info? 32).map (·.size)=some 2:=by rw [hi0]; simp [T7]
 have YT:(n:Int)+(m:Int) - (i:Int)=((n+m - i:Nat):Int):=by omega
 have hik:i+(n+m - i)=n+m:=by omega
 have hold:(Builtin.firstCells i0.size i (.slice (some ⟨b,off,none⟩) i c)).run Tryz.prog w.drew = .ok (cs.take (i * 2)).toArray w.drew:=by
  rw [T7];exact run_firstCells_some w.drew 2 i ⟨b,off,none⟩ i c (cs.take (i * 2)) (by rw [jw]; omega) (fun j v hj=>by
   rw [Addr.add_lit];rw [kR] at hj;split at hj
   ·exact AJ j v hj
   ·cases hj)
 have hkb:(n+m - i) * i0.bytes<=281474976710656:=dx (Nat.mul_le_mul_right _ (by omega:n+m - i<=n+m)) (by omega);have hrz:∀ ty,(Builtin.append_ #[35,3] ty #[.slice (some ⟨b,off,none⟩) i c,.int .i64 ((n:Int)+(m:Int) - (i:Int))]).run Tryz.prog w =
   .ok (.slice (some ⟨w.heap.size,0,none⟩) (n+m) (grownCap w (n+m) c 32)) (w.drew.alloc (.cells ((cs.take (i * 2)).toArray++Builtin.zeroCells z.cells (n+m - i)++Builtin.zeroCells z.cells (grownCap w (n+m) c 32 - (n+m))) 32)):=fun ty=>by
  have h:=Lib.run_append_grow_zeros w 35 3 ty 32 i0 _ .i64 .i64 Tryz.underlying35 Tryz.underlying3 hi0 HJ (some ⟨b,off,none⟩) i c (cs.take (i * 2)) hold (n+m - i) (by omega) (by omega) (by omega) (by omega) hkb (by rw [hik]; exact growslice_fits la Ga);rw [hik] at h;rw [YT];exact h
 obtain ⟨G,hG⟩:∃ G,G=grownCap w (n+m) c 32:=⟨_,rfl⟩
 obtain ⟨CF,Yk⟩:∃ CF:Array Value,CF=(cs.take (i * 2)).toArray++Builtin.zeroCells z.cells (n+m - i)++Builtin.zeroCells z.cells (G - (n+m)):=⟨_,rfl⟩
 rw [<- hG] at hrz ⊢;rw [<- Yk] at hrz ⊢;have hRl:(n+m) * 2<=CF.size:=by
  rw [Yk];simp [Builtin.zeroCells,hzc];omega
 obtain ⟨W1,Q4⟩:∃ W1,W1=w.drew.alloc (.cells CF 32):=⟨_,rfl⟩
 rw [<- Q4] at hrz;have hN:∀ j,j < (n+m) * 2->(W1.cell? ⟨w.heap.size,j,none⟩).isSome=true:=fun j hj=>by
  rw [Q4];have:=World.cell?_alloc_new w.drew CF 32 j;rw [show w.heap.size=w.drew.heap.size from rfl,this,Array.getElem?_eq_getElem (by omega)]; rfl
 have hNf:∀ j,W1.frozen? ⟨w.heap.size,j,none⟩=false:=fun j=>by rw [Q4]; exact World.frozen?_alloc_new w.drew CF 32 j
 have hOb:∀ (j:Nat) (v:Value),w.cell? ⟨b,j,none⟩=some v->W1.cell? ⟨b,j,none⟩=some v:=fun j v h=>by rw [Q4,World.cell?_alloc_lt (w:=w.drew) _ _ (by exact hbw)]; exact h
 have hOv:∀ (j:Nat) (v:Value),w.cell? ⟨vb,j,none⟩=some v->W1.cell? ⟨vb,j,none⟩=some v:=fun j v h=>by rw [Q4,World.cell?_alloc_lt (w:=w.drew) _ _ (by exact hvw)]; exact h
 have anY:∀ (W:World),(∀ x,W.cell? x=W1.cell? x)->(∀ x,W.frozen? x=W1.frozen? x)->∀ ty dc,(Builtin.copy_ #[35,35] ty #[.slice (some ⟨w.heap.size,i * 2,none⟩) (n+m - i) dc,.slice (some ⟨vb,sF,none⟩) m vc]).run Tryz.prog W = .ok (goInt m) (W.setCells w.heap.size (i * 2) vs):=fun W hWc hWf ty dc=>by
  have Jx:Nat.min m (n+m - i)=m:=by simp only [Nat.min_def]; split <;> omega
  have:=G2 (P:=Tryz.prog) W 35 35 ty 32 2 w.heap.size (i * 2) (n+m - i) dc ⟨vb,sF,none⟩ m vc vs Tryz.underlying35 cS (by rw [CN,Jx])
   (fun j v hj=>by rw [Addr.add_lit,hWc]; exact hOv _ v (TU j v hj))
   (fun j hj=>by rw [hWc]; exact hN _ (by omega)) (fun j hj=>by rw [hWf]; exact hNf _) h1v
  rw [Jx] at this;exact this
 have hGn:n+m<=G:=by rw [hG]; exact grownCap_ge w _ _ _
 have hG63:G<=9223372036854775807:=by
  have:=grownCap_le_maxLen w (n+m) c 32 (by unfold maxLen; omega);rw [<- hG] at this;unfold maxLen at this;omega
 have hGi : ¬ (G=i):=by omega
 have hGim : ¬ (G=i+m):=by omega
 have hci : ¬ (c=i):=by omega
 have hbN:b≠w.heap.size:=by omega
 have hdl:(cs.drop (i * 2)).length=(n - i) * 2:=by rw [List.length_drop,BL]; omega
 have alR:∀ (W:World),(∀ x,W.cell? x=(W1.setCells w.heap.size (i * 2) vs).cell? x)->(∀ x,W.frozen? x=(W1.setCells w.heap.size (i * 2) vs).frozen? x)->∀ ty dc sc,(Builtin.copy_ #[35,35] ty #[.slice (some ⟨w.heap.size,(i+m) * 2,none⟩) (n+m - (i+m)) dc,.slice (some ⟨b,off+i * 2,none⟩) (n - i) sc]).run Tryz.prog W = .ok (goInt ((n - i:Nat):Int)) (W.setCells w.heap.size ((i+m) * 2) (cs.drop (i * 2))):=fun W hWc hWf ty dc sc=>by
  have Jx:Nat.min (n - i) (n+m - (i+m))=n - i:=by simp only [Nat.min_def]; split <;> omega
  have:=G2 (P:=Tryz.prog) W 35 35 ty 32 2 w.heap.size ((i+m) * 2) (n+m - (i+m)) dc ⟨b,off+i * 2,none⟩ (n - i) sc (cs.drop (i * 2)) Tryz.underlying35 cS (by rw [hdl,Jx])
   (fun j v hj=>by
    rw [Addr.add_lit,hWc,World.cell?_setCells_out _ _ _ _ _ (fun h _=>absurd h hbN),nD];exact hOb _ v (AJ (i * 2+j) v (by rwa [lE] at hj)))
   (fun j hj=>by rw [hWc]; exact isSome_setCells _ _ _ _ _ (hN _ (by omega)))
   (fun j hj=>by rw [hWf,World.frozen?_setCells]; exact hNf _) (fun v hv=>h1c v (List.mem_of_mem_drop hv))
  rw [Jx] at this;exact this
 subst Q4;have hE1:∀ x,((w.alloc (.cells CF 32)).drew).cell? x=(w.drew.alloc (.cells CF 32)).cell? x:=fun x=>rfl;have hE2:∀ x,((w.alloc (.cells CF 32)).drew).frozen? x=(w.drew.alloc (.cells CF 32)).frozen? x:=fun x=>rfl;have hF1:∀ x,(((w.alloc (.cells CF 32)).drew.setCells w.heap.size (i * 2) vs).drew).cell? x=((w.drew.alloc (.cells CF 32)).setCells w.heap.size (i * 2) vs).cell? x:=fun x=>rfl;have hF2:∀ x,(((w.alloc (.cells CF 32)).drew.setCells w.heap.size (i * 2) vs).drew).frozen? x=((w.drew.alloc (.cells CF 32)).setCells w.heap.size (i * 2) vs).frozen? x:=fun x=>rfl;have hw1:IntKind.i64.wrap ((i:Int)+(m:Int))=(i:Int)+(m:Int):=by rw [IntKind.wrap_i64]; omega
 have hw2:IntKind.i64.wrap ((n:Int)+(m:Int))=(n:Int)+(m:Int):=by rw [IntKind.wrap_i64]; omega
 have hw3:IntKind.i64.wrap ((n:Int)+(m:Int) - (i:Int))=(n:Int)+(m:Int) - (i:Int):=by rw [IntKind.wrap_i64]; omega
 have u6:(0:Int)<=(i:Int)+(m:Int):=by omega
 have mr:i<=n:=by omega
 have MK:((i:Int)+(m:Int)).toNat=i+m:=by omega
 have hb3:(i:Int)<=(n:Int):=by omega
 clear YT hik hold Yk hG hRl
 go_enter Tryz.func215,Tryz.ntmps215
 go_wp2_with (first
  | (at_builtin; refine Lib.wpList_append_run _ rfl _ _ _ _ rfl _ _ rfl rfl _ _ (hrz _) ?_)
  | (at_builtin; refine LM _ rfl _ _ 35 35 rfl _ _ rfl rfl (anY _ hE1 hE2 _ _) ?_)
  | (at_builtin; refine LM _ rfl _ _ 35 35 rfl _ _ rfl rfl (alR _ (fun _=>rfl) (fun _=>rfl) _ _ _) ?_))
 go_region_law_o (refine Sy rfl _ _ 35 35 rfl (.slice (some ⟨w.heap.size,(i+m) * 2,none⟩) (n+m - (i+m)) (G - (i+m))) (.slice (some ⟨b,off+i * 2,none⟩) (n - i) (c - i)) (by simp [Act.eval,Act.put]) (by simp [Act.eval,Act.put]) (alR _ hF1 hF2 3 (G - (i+m)) (c - i)) ?_)
 go_wp2
 go_ret
 exact ⟨rfl,rfl⟩
noncomputable def yG:TypeInfo:=(Tryz.prog.info? 32).getD default
noncomputable def Kv:Value:=yG.zero.getD (.tuple #[])
theorem told:aA.J2 Tryz.prog (aA.CY [(215,2,16)]):=by
 have hi:Tryz.prog.info? 32=some yG:=by kernel_rfl
 have hz:yG.zero=some Kv:=by kernel_rfl
 have hc:Kv.cells.size=2:=by kernel_rfl
 have hs:yG.size=2:=by kernel_rfl
 have hb:yG.bytes=16:=by kernel_rfl
 have H:aA.Jt Tryz.prog 215 35 32 yG Kv 2:={
  under:=Tryz.underlying35
  info:=hi
  zero:=hz
  zc:=hc
  size:=hs
  pos:=ao 2
  fn:=⟨Tryz.f215,Tryz.func215,by kernel_rfl,by kernel_rfl⟩
  nothing:=fun w bs vb n c i vc h=>ahn w bs vb n c i vc h
  fin:=fun w bs vb n c m vc h v' w' hr=>ajQ w bs vb n c m vc h v' w' hr
  shift:=fun b off n c i vb sF m vc cs vs w h1 h2 h3 h4 h5 h6 h7 h8 h9 qh UN h12 h13 tA tB kA kB h14 h15 h16 h17 h18=>aec b off n c i vb sF m vc cs vs w h1 h2 h3 h4 h5 h6 h7 h8 h9 qh UN h12 h13 tA tB kA kB h14 h15 h16 h17 h18
  grow:=fun b off n c i vb sF m vc cs vs w h1 h2 h3 h4 h5 h6 h7 h8 h9 qh UN h12 h13 h14=>aho b off n c i vb sF m vc cs vs w yG Kv hi hz hc h1 h2 h3 h4 h5 h6 h7 h8 hs h9 qh UN h12 h13 h14 }
 have:=aA.aag H;rwa [hb] at this
end Go.Proofs.YtckbdndhmcoihaaGreat.insert
end
section
namespace Go.K
open Go Go.aA
variable {P:Program} {E:Env}
theorem Xi {T:aA.Told} (hT:J2 P T) {g:FuncId} (hP:P.funcs.toList.all gq=true) (hm:P.follows .mixedOrders=true) {L n:Nat} (hp:bK P g = []) (h:EL (H6 P T L n g [] St.empty)=true) (hy:Nat.blt g yB=true:=by rfl):cB P g fun _=>.ok (.bool true):=by
 have dR:pq P g:=by
  unfold EL at h;split at h
  ·rename_i b B hc
   exact ⟨hy,(C9 hT hP hm L n _ _ _ _ _ hc).1 hy⟩
  ·simp at h
 refine Si dR fun args v E A B ρ base w bM hF hlen hv hj=>?_;rw [hp] at hlen;have:args = []:=lD.1 (by simpa using hlen);subst this;obtain ⟨m,h1,h2⟩:=hv;rw [h1.bz] at h2;rw [h2.bz];have hF:KV.bool true=v:=hF;subst hF;exact (aa6 hT hP hm h w hy).mono fun _ _ ⟨h1,h2⟩=>⟨_,h1,⟨_,.nE,by simp [VR]⟩,h2⟩
end Go.K
end
section
namespace Go.Proofs.YtckbdndhmcoihaaGreat.b
open Go.K
noncomputable def Bi:List KV->KR KV:=fun _=>.ok (.bool true)
theorem Ap:cB PG 34 Bi:=Xi insert.told funcs mixed (L:=400) (n:=100) (by kernel_rfl) (by kernel_rfl)
end Go.Proofs.YtckbdndhmcoihaaGreat.b
end
section
namespace Go.Proofs.YtckbdndhmcoihaaGreat.b
open Go.K
noncomputable section
structure jl where
 a:(Sl Int)
 b:(Sl Int)
 t4:Bool
 i:Int
instance:Inhabited jl:=⟨⟨default,default,default,default⟩⟩
def vw (x:jl):List KV:=[dD 3 (kI .i64) x.a,dD 3 (kI .i64) x.b,.bool x.t4,.int .i64 x.i]
def vx (x:jl):List (List KV):=[]
def CG (vs:List KV) (rs:List (List KV)):jl:=⟨eA av (v9 vs 0),eA av (v9 vs 1),j6 (v9 vs 2),av (v9 vs 3)⟩
def DD:aB:=⟨[(0,w9 (n9 3)),(1,w9 (n9 3)),(4,w9 b9),(5,w9 i9)],[],[]⟩
def Ns:=rk9 [] [] 61 58 DD
def fq (x:jl):ba jl:=(cond (decide (x.i < (x.a.n:Int))) (cond ((decide (0<=x.i))&&(decide (x.i < (x.a.n:Int)))) (cond ((decide (0<=x.i))&&(decide (x.i < (x.b.n:Int)))) (cond ((x.a.get (Int.toNat x.i)) != (x.b.get (Int.toNat x.i))) (.out aA.aa.ret ⟨x.a,x.b,false,x.i⟩) (.next ⟨x.a,x.b,x.t4,(bR (x.i+1))⟩)) .fail) .fail) (.out (aA.aa.exit 0) x))
theorem Jy (x:jl):Ns (vw x) (vx x)=ba.enc vw vx (fq x):=by
 unfold fq
 try simp only [ba.dr]
 kernel_rfl
def DE:Lp:=⟨61,58,DD,fun vs rs=>eE vw vx (goN fq (CG vs rs)) [aA.aa.exit 0,aA.aa.ret],false⟩
theorem Nt:DE.Ok PG:=zZ aw.nil bP.nil (pa:=CG) Jy
def tw (a:(Sl Int)) (b:(Sl Int)):=goN fq ⟨a,b,false,0⟩
def pN (a:(Sl Int)) (b:(Sl Int)):Option (Bool):=(cond ((a.n:Int) != (b.n:Int)) (some (false)) (cond ((tw a b).by (aA.aa.exit 0)) (some (true)) (cond ((tw a b).by aA.aa.ret) (some ((tw a b).st.t4)) none)))
theorem Rl (a:(Sl Int)) (b:(Sl Int)):W8 [] [DE] 61 [(dD 3 (kI .i64)) a,(dD 3 (kI .i64)) b] = (pN a b).map kB:=by
 unfold pN
 try simp only [cK]
 kernel_rfl
def Jz:List KV->KR KV:=cJ PG 61 (cU kB fun vs=>pN ((eA av) (v9 vs 0)) ((eA av) (v9 vs 1)))
theorem PL:cB PG 61 Jz:=ir aw.nil (qP Nt bP.nil) fun w=>Rl ((eA av) (g0 36 (w 0))) ((eA av) (g0 36 (w 1)))
structure fD where
 a:(Sl Handle)
 b:(Sl Handle)
 t4:Bool
 i:Int
instance:Inhabited fD:=⟨⟨default,default,default,default⟩⟩
def qF (x:fD):List KV:=[dD 32 jL x.a,dD 32 jL x.b,.bool x.t4,.int .i64 x.i]
def qG (x:fD):List (List KV):=[]
def xA (vs:List KV) (rs:List (List KV)):fD:=⟨eA jM (v9 vs 0),eA jM (v9 vs 1),j6 (v9 vs 2),av (v9 vs 3)⟩
def xS:aB:=⟨[(0,w9 (n9 32)),(1,w9 (n9 32)),(4,w9 b9),(5,w9 i9)],[],[]⟩
def G3:=rk9 [] [] 60 58 xS
def dQ (x:fD):ba fD:=(cond (decide (x.i < (x.a.n:Int))) (cond ((decide (0<=x.i))&&(decide (x.i < (x.a.n:Int)))) (cond ((decide (0<=x.i))&&(decide (x.i < (x.b.n:Int)))) (cond (!(((x.a.get (Int.toNat x.i)).slot==(x.b.get (Int.toNat x.i)).slot)&&(((x.a.get (Int.toNat x.i)).gen==(x.b.get (Int.toNat x.i)).gen)&&true))) (.out aA.aa.ret ⟨x.a,x.b,false,x.i⟩) (.next ⟨x.a,x.b,x.t4,(bR (x.i+1))⟩)) .fail) .fail) (.out (aA.aa.exit 0) x))
theorem Ei (x:fD):G3 (qF x) (qG x)=ba.enc qF qG (dQ x):=by
 unfold dQ
 try simp only [ba.dr]
 kernel_rfl
def xT:Lp:=⟨60,58,xS,fun vs rs=>eE qF qG (goN dQ (xA vs rs)) [aA.aa.exit 0,aA.aa.ret],false⟩
theorem G4:xT.Ok PG:=zZ aw.nil bP.nil (pa:=xA) Ei
def oI (a:(Sl Handle)) (b:(Sl Handle)):=goN dQ ⟨a,b,false,0⟩
def lA (a:(Sl Handle)) (b:(Sl Handle)):Option (Bool):=(cond ((a.n:Int) != (b.n:Int)) (some (false)) (cond ((oI a b).by (aA.aa.exit 0)) (some (true)) (cond ((oI a b).by aA.aa.ret) (some ((oI a b).st.t4)) none)))
theorem JA (a:(Sl Handle)) (b:(Sl Handle)):W8 [] [xT] 60 [(dD 32 jL) a,(dD 32 jL) b] = (lA a b).map kB:=by
 unfold lA
 try simp only [cK]
 kernel_rfl
def CH:List KV->KR KV:=cJ PG 60 (cU kB fun vs=>lA ((eA jM) (v9 vs 0)) ((eA jM) (v9 vs 1)))
theorem HQ:cB PG 60 CH:=ir aw.nil (qP G4 bP.nil) fun w=>JA ((eA jM) (g0 35 (w 0))) ((eA jM) (g0 35 (w 1)))
def rQ (s:aD) (kids:(Sl Int)):=lI s
def rR (s:aD) (kids:(Sl Int)):=nY s kids
def n3 (s:aD) (kids:(Sl Int)):Option (Path×Int):=(cond (rQ s kids).isSome (cond (((rQ s kids).getD default) != 0) (some (⟨⟨0,(fun i=>⟨0,0⟩)⟩,⟨0,(fun i=>0)⟩⟩,((rQ s kids).getD default))) (cond ((s.root.slot==0)&&((s.root.gen==0)&&true)) (some (⟨⟨0,(fun i=>⟨0,0⟩)⟩,⟨0,(fun i=>0)⟩⟩,6)) (cond (rR s kids).isSome (cond (!((rR s kids).getD default).snd) (some (⟨⟨0,(fun i=>⟨0,0⟩)⟩,⟨0,(fun i=>0)⟩⟩,2)) (some (((rR s kids).getD default).fst,0))) none))) none)
theorem PM (s:aD) (kids:(Sl Int)):W8 [(51,Hy),(25,um)] [] 16 [xc s,(dD 3 (kI .i64)) kids] = (n3 s kids).map (fun (r:Path×Int)=>KV.nh [xw r.1,(kI .i64) r.2]):=by
 unfold n3
 try simp only [cK]
 kernel_rfl
def uR:List KV->KR KV:=cJ PG 16 (cU (fun (r:Path×Int)=>KV.nh [xw r.1,(kI .i64) r.2]) fun vs=>n3 (mT (v9 vs 0)) ((eA av) (v9 vs 1)))
theorem vy:cB PG 16 uR:=ir (aw.cons Nq (aw.cons tu aw.nil)) bP.nil fun w=>PM (mT (g0 34 (w 0))) ((eA av) (g0 36 (w 1)))
def xB (a:Path) (b:Path):=lA a.nodes b.nodes
def xC (a:Path) (b:Path):=pN a.kids b.kids
def mC (a:Path) (b:Path):Option (Bool):=(cond (xB a b).isSome (cond ((xB a b).getD default) (cond (xC a b).isSome (some (((xC a b).getD default))) none) (some (false))) none)
theorem PN (a:Path) (b:Path):W8 [(61,Jz),(60,CH)] [] 22 [xw a,xw b] = (mC a b).map kB:=by
 unfold mC
 try simp only [cK]
 kernel_rfl
def uU:List KV->KR KV:=cJ PG 22 (cU kB fun vs=>mC (Eh (v9 vs 0)) (Eh (v9 vs 1)))
theorem vz:cB PG 22 uU:=ir (aw.cons PL (aw.cons HQ aw.nil)) bP.nil fun w=>PN (Eh (g0 38 (w 0))) (Eh (g0 38 (w 1)))
structure eG where
 cC:(Sl Int)
 t4:Bool
 l:(Sl Path)
 kids:(Sl Int)
 i:Int
 s:aD
 h:Handle
instance:Inhabited eG:=⟨by constructor<;>exact default⟩
def pO (x:eG):List KV:=[dD 3 (kI .i64) x.cC,.bool x.t4,dD 38 xw x.l,dD 3 (kI .i64) x.kids,.int .i64 x.i]
def pP (x:eG):List (List KV):=[yW x.s,VI x.h]
def vS (vs:List KV) (rs:List (List KV)):eG:=⟨eA av (v9 vs 0),j6 (v9 vs 1),eA Eh (v9 vs 2),eA av (v9 vs 3),av (v9 vs 4),yX (r9 rs 0),VJ (r9 rs 1)⟩
def xD:aB:=⟨[(1,w9 (n9 3)),(4,w9 b9),(6,w9 (n9 38)),(8,⟨false,[.aF 3]⟩),(10,w9 i9)],[(2,[n9 111,n9 35,n9 77,n9 88,n9 91,i9,i9],1),(9,[i9,i9],1)],[(2,0,0),(9,1,0)]⟩
def FE:=rk9 [(22,uU),(16,uR),(35,xy),(12,Bd),(34,Bi)] [] 8 2042 xD
def ew (x:eG):ba eG:=(cond (decide (x.i < (x.cC.n:Int))) (cond ((decide (0<=x.h.slot))&&(decide (x.h.slot < (x.s.graph.kids.n:Int)))) (cond (((x.s.graph.kids.get (Int.toNat x.h.slot)).n:Int)==0) (cond (bU x.kids.n x.kids.n) (.out (aA.aa.exit 0) x) .fail) (cond ((decide (0<=x.i))&&(decide (x.i < (x.cC.n:Int)))) (cond (decide ((x.cC.get (Int.toNat x.i)) < 0)) (cond (bU x.kids.n x.kids.n) (.out (aA.aa.exit 0) x) .fail) (cond ((decide (0<=x.i))&&(decide (x.i < (x.cC.n:Int)))) (cond (!(decide (((x.s.graph.kids.get (Int.toNat x.h.slot)).n:Int)=0))) (cond ((bU x.kids.n x.kids.n)&&(lP 8 x.kids.n 1)) (cond ((decide (0<=x.h.slot))&&(decide (x.h.slot < (x.s.graph.kids.n:Int)))) (cond ((decide (0<=x.i))&&(decide (x.i < (x.cC.n:Int)))) (cond (!(decide (((x.s.graph.kids.get (Int.toNat x.h.slot)).n:Int)=0))) (cond ((decide (0<=(Int.tmod (x.cC.get (Int.toNat x.i)) ((x.s.graph.kids.get (Int.toNat x.h.slot)).n:Int))))&&(decide ((Int.tmod (x.cC.get (Int.toNat x.i)) ((x.s.graph.kids.get (Int.toNat x.h.slot)).n:Int)) < ((x.s.graph.kids.get (Int.toNat x.h.slot)).n:Int)))) (cond (bU (x.kids.n+1) (x.kids.n+1)) (.next ⟨x.cC,x.t4,x.l,(x.kids.push (Int.tmod (x.cC.get (Int.toNat x.i)) ((x.s.graph.kids.get (Int.toNat x.h.slot)).n:Int))),(bR (x.i+1)),x.s,((x.s.graph.kids.get (Int.toNat x.h.slot)).get (Int.toNat (Int.tmod (x.cC.get (Int.toNat x.i)) ((x.s.graph.kids.get (Int.toNat x.h.slot)).n:Int))))⟩) .fail) .fail) .fail) .fail) .fail) .fail) .fail) .fail)) .fail)) .fail) (cond (bU x.kids.n x.kids.n) (.out (aA.aa.exit 0) x) .fail))
theorem CS (x:eG):FE (pO x) (pP x)=ba.enc pO pP (ew x):=by
 unfold ew
 try simp only [ba.dr,Ye]
 kernel_rfl
def qH:Lp:=⟨8,2042,xD,fun vs rs=>eE pO pP (goN ew (vS vs rs)) [aA.aa.exit 0],false⟩
theorem vT:qH.Ok PG:=zZ (aw.cons vz (aw.cons vy (aw.cons xz (aw.cons Aa (aw.cons Ap aw.nil))))) bP.nil (pa:=vS) CS
structure eS where
 t4:Bool
 l:(Sl Path)
 n:Int
 i:Int
 p:Path
instance:Inhabited eS:=⟨⟨default,default,default,default,default⟩⟩
def oT (x:eS):List KV:=[.bool x.t4,dD 38 xw x.l,.int .i64 x.n,.int .i64 x.i]
def oU (x:eS):List (List KV):=[Rg x.p]
def uo (vs:List KV) (rs:List (List KV)):eS:=⟨j6 (v9 vs 0),eA Eh (v9 vs 1),av (v9 vs 2),av (v9 vs 3),Rh (r9 rs 0)⟩
def vU:aB:=⟨[(4,w9 b9),(6,w9 (n9 38)),(14,w9 i9),(15,w9 i9)],[(12,[n9 32,n9 3],1)],[(12,0,0)]⟩
def Ej:=rk9 [(22,uU),(16,uR),(35,xy),(12,Bd),(34,Bi)] [qH] 8 65530 vU
def nR (x:eS):=mC (x.l.get (Int.toNat x.i)) x.p
def eN (x:eS):ba eS:=(cond (decide (x.i < (x.l.n:Int))) (cond ((decide (0<=x.i))&&(decide (x.i < (x.l.n:Int)))) (cond (nR x).isSome (cond ((nR x).getD default) (.next ⟨x.t4,x.l,(bR (x.n+1)),(bR (x.i+1)),x.p⟩) (.next ⟨x.t4,x.l,x.n,(bR (x.i+1)),x.p⟩)) .fail) .fail) (.out (aA.aa.exit 2) x))
theorem CI (x:eS):Ej (oT x) (oU x)=ba.enc oT oU (eN x):=by
 unfold eN
 try simp only [ba.dr]
 kernel_rfl
def vV:Lp:=⟨8,65530,vU,fun vs rs=>eE oT oU (goN eN (uo vs rs)) [aA.aa.exit 2],false⟩
theorem Ek:vV.Ok PG:=zZ (aw.cons vz (aw.cons vy (aw.cons xz (aw.cons Aa (aw.cons Ap aw.nil))))) (qP vT bP.nil) (pa:=uo) CI
def vA:List (Nat×(List KV->KR KV)):=[(22,uU),(16,uR),(35,xy),(12,Bd),(34,Bi)]
def vB:List Lp:=[qH,vV]
theorem JB:aw PG vA:=(aw.cons vz (aw.cons vy (aw.cons xz (aw.cons Aa (aw.cons Ap aw.nil)))))
theorem JC:bP PG vB:=(qP vT (qP Ek bP.nil))
def tR (s:aD) (cC:(Sl Int)):=s9 s
def fO (s:aD) (cC:(Sl Int)):=lZ s
def dt (s:aD) (cC:(Sl Int)):=goN ew ⟨cC,false,((fO s cC).getD default).fst,⟨0,(fun i=>0)⟩,0,s,s.root⟩
def o6 (s:aD) (cC:(Sl Int)):=n3 (dt s cC).st.s (dt s cC).st.kids
def tS (s:aD) (cC:(Sl Int)):=goN eN ⟨(dt s cC).st.t4,(dt s cC).st.l,0,0,((o6 s cC).getD default).fst⟩
def l8 (s:aD) (cC:(Sl Int)):Option (Bool):=(cond ((((fO s cC).getD default).fst.n:Int)==0) (cond (((fO s cC).getD default).snd==0) (some (true)) (cond (((fO s cC).getD default).snd==120) (some (true)) (some ((((fO s cC).getD default).snd==8))))) (some (false)))
def rS (s:aD) (cC:(Sl Int)):Option (Bool):=(cond (tR s cC).isSome (cond ((tR s cC).getD default) (some (true)) (cond (decide ((cC.n:Int) > 200)) (some (true)) (cond (fO s cC).isSome (cond (((fO s cC).getD default).snd != 0)
    (l8 s cC) (cond ((s.root.slot==0)&&((s.root.gen==0)&&true))
    (l8 s cC) (cond ((dt s cC).by (aA.aa.exit 0)) (cond ((decide (0<=(dt s cC).st.h.slot))&&(decide ((dt s cC).st.h.slot < ((dt s cC).st.s.nodes.n:Int)))) (cond (((dt s cC).st.s.nodes.get (Int.toNat (dt s cC).st.h.slot)).kind != 5) (some (true)) (cond (o6 s cC).isSome (cond (((o6 s cC).getD default).snd != 0) (some (false)) (cond ((tS s cC).by (aA.aa.exit 2)) (some (((tS s cC).st.n==1))) none)) none)) none) none))) none))) none)
theorem K5 (s:aD) (cC:(Sl Int)):zS PG (mS PG vA vB) 9 9 8 [xc s,(dD 3 (kI .i64)) cC] = (rS s cC).map kB:=by
 unfold rS l8
 try simp only [cK]
 kernel_rfl
theorem JD (w:Nat->KV):pz PG [34,36] w 0 = [xc (mT (g0 34 (w 0))),(dD 3 (kI .i64)) ((eA av) (g0 36 (w 1)))]:=by kernel_rfl
end
end Go.Proofs.YtckbdndhmcoihaaGreat.b
end
section
namespace Go.tT
theorem agb:∀ (n:Nat) (g:Nat->Nat),(∀ j,j<=n->g j < n)->∃ i j,i < j/\j<=n/\g i=g j
 | 0,g,h=>absurd (h 0 (ao 0)) (mM _)
 | n+1,g,h=>by
  by_cases he:∃ i,i<=n/\g i=g (n+1)
  ·obtain ⟨i,hi,e⟩:=he
   exact ⟨i,n+1,by omega,ao _,e⟩
  ·have bA:∀ i,i<=n->g i≠g (n+1):=fun i hi e=>he ⟨i,hi,e⟩
   have hl:=h (n+1) (ao _);obtain ⟨i,j,h1,h2,h3⟩:=agb n (fun j=>if g j=n then g (n+1) else g j) fun j hj=>by
    have h1:=h j (by omega);have h2:=bA j hj;show (if g j=n then g (n+1) else g j) < n;split <;> omega
   refine ⟨i,j,h1,by omega,?_⟩;have hi:=bA i (by omega);have hj:=bA j h2;have h3:(if g i=n then g (n+1) else g i)=if g j=n then g (n+1) else g j:=h3;split at h3 <;> split at h3 <;> omega
section
variable (n:Nat) (kv:Nat->Nat) (c:Nat->Nat->Nat)
inductive Below (to:Nat):Nat->Prop where
 | here:Below to to
 | cR (i k:Nat) (hk:k < kv i) (r:Below to (c i k)):Below to i
def Aw:Prop:=∀ i,i < n->∀ k,k < kv i->¬ Below kv c i (c i k)
variable {n kv c}
end
end Go.tT
end
section
namespace Go.tT
variable {n:Nat} {kv:Nat->Nat} {c:Nat->Nat->Nat}
def v8 {H:Type} (kv:H->Nat) (c:H->Nat->H):Nat->H->Prop
 | 0,_=>False
 | t+1,i=>∀ k,k < kv i->v8 kv c t (c i k)
theorem PO (mr:∀ i,i < n->∀ k,k < kv i->c i k < n) (hf:Aw n kv c):∀ i,i < n->v8 kv c n i:=by
 intro i0 hi0;apply Classical.byContradiction;intro h0;have hc:∀ p:Nat×Nat,∃ j,p.2 < n->¬ v8 kv c (p.1+1) p.2->(j < n/\¬ v8 kv c p.1 j/\∃ k,k < kv p.2/\c p.2 k=j):=by
  rintro ⟨t,i⟩;by_cases hi:i < n
  ·by_cases hq:v8 kv c (t+1) i
   ·exact ⟨0,fun _ k=>absurd hq k⟩
   ·have:∃ k,k < kv i/\¬ v8 kv c t (c i k):=by
     apply Classical.byContradiction;intro hn;exact hq fun k hk=>Classical.byContradiction fun h=>hn ⟨k,hk,h⟩
    obtain ⟨k,h1,h2⟩:=this;exact ⟨c i k,fun _ _=>⟨mr i hi k h1,h2,k,h1,rfl⟩⟩
  ·exact ⟨0,fun k=>absurd k hi⟩
 obtain ⟨g,hg⟩:=Classical.axiomOfChoice hc
 let it:Nat->Nat:=fun j=>Nat.rec i0 (fun j x=>g (n - (j+1),x)) j
 have hit:∀ j,j<=n->it j < n/\¬ v8 kv c (n - j) (it j):=by
  intro j
  induction j with
  | zero=>exact fun _=>⟨hi0,h0⟩
  | succ j ih=>
   intro hj;obtain ⟨h1,h2⟩:=ih (by omega);have e:n - j=n - (j+1)+1:=by omega
   rw [e] at h2;have:=hg (n - (j+1),it j) h1 h2;exact ⟨this.1,this.2.1⟩
 have eZ:∀ j,j < n->∃ k,k < kv (it j)/\c (it j) k=it (j+1):=by
  intro j hj;obtain ⟨h1,h2⟩:=hit j (by omega);have e:n - j=n - (j+1)+1:=by omega
  rw [e] at h2;exact (hg (n - (j+1),it j) h1 h2).2.2
 have hup:∀ d j,j+d<=n->Below kv c (it (j+d)) (it j):=by
  intro d
  induction d with
  | zero=>exact fun j _=>.here
  | succ d ih=>
   intro j hj;obtain ⟨k,h1,h2⟩:=eZ j (by omega);have:=ih (j+1) (by omega);rw [show j+1+d=j+(d+1) by omega] at this;refine .cR _ k h1 ?_;rw [h2];exact this
 obtain ⟨i,j,h1,h2,h3⟩:=agb n it fun j hj=>(hit j hj).1;obtain ⟨k,q1,q2⟩:=eZ i (by omega);refine hf _ (hit i (by omega)).1 k q1 ?_;rw [q2];have:=hup (j - (i+1)) (i+1) (by omega);rw [show i+1+(j - (i+1))=j by omega,<- h3] at this;exact this
section
variable {H:Type} {kv:H->Nat} {c:H->Nat->H}
theorem v8.more:∀ (t:Nat) (i:H),v8 kv c t i->v8 kv c (t+1) i
 | 0,_,h=>h.elim
 | t+1,_,h=>fun k hk=>(h k hk).more t _
theorem v8.le {t u:Nat} {i:H} (h:v8 kv c t i) (hle:t<=u):v8 kv c u i:=by
 induction hle with
 | refl=>exact h
 | step _ ih=>exact ih.more _ _
def PQ (f:Nat->Nat):Nat->Nat
 | 0=>0
 | k+1=>max (PQ f k) (f k)
def JE (f:Nat->Nat):Nat->Nat
 | 0=>0
 | k+1=>min (JE f k+f k) 257
theorem Wc {f g:Nat->Nat} : ∀ k,(∀ j,j < k->f j=g j)->PQ f k=PQ g k
 | 0,_=>rfl
 | k+1,h=>by rw [PQ,PQ,Wc k fun j hj=>h j (by omega),h k (by omega)]
theorem G5 {f g:Nat->Nat} : ∀ k,(∀ j,j < k->f j=g j)->JE f k=JE g k
 | 0,_=>rfl
 | k+1,h=>by rw [JE,JE,G5 k fun j hj=>h j (by omega),h k (by omega)]
theorem aah (f:Nat->Nat):∀ k j,j < k->f j<=PQ f k
 | k+1,j,h=>by
  rw [PQ];by_cases e:j=k
  ·subst e; omega
  ·have:=aah f k j (by omega); omega
theorem agc (f:Nat->Nat):∀ k,JE f k<=257
 | 0=>by rw [JE]; omega
 | k+1=>by rw [JE]; omega
def CM {H:Type} (kv:H->Nat) (c:H->Nat->H):Nat->H->Nat
 | 0,_=>0
 | t+1,i=>PQ (fun k=>CM kv c t (c i k)) (kv i)+1
def G6 {H:Type} (kv:H->Nat) (c:H->Nat->H) (m:H->Bool):Nat->H->Nat
 | 0,_=>0
 | t+1,i=>cond (m i) 1 (JE (fun k=>G6 kv c m t (c i k)) (kv i))
theorem Yl:∀ (t:Nat) (i:H),v8 kv c t i->CM kv c (t+1) i=CM kv c t i
 | 0,_,h=>h.elim
 | t+1,i,h=>by
  rw [CM,CM,Wc _ fun k hk=>Yl t _ (h k hk)]
theorem Rm (m:H->Bool):∀ (t:Nat) (i:H),v8 kv c t i->G6 kv c m (t+1) i=G6 kv c m t i
 | 0,_,h=>h.elim
 | t+1,i,h=>by
  rw [G6,G6,G5 _ fun k hk=>Rm m t _ (h k hk)]
theorem agd {m:H->Bool} {t u:Nat} {i:H} (h:v8 kv c t i) (hle:t<=u):G6 kv c m u i=G6 kv c m t i:=by
 induction hle with
 | refl=>rfl
 | step hle ih=>rw [Rm _ _ _ (h.le hle),ih]
theorem acD:∀ (t:Nat) (i:H),v8 kv c t i->v8 kv c (CM kv c t i) i
 | 0,_,h=>h.elim
 | t+1,i,h=>fun k hk=>(acD t _ (h k hk)).le (aah (fun k=>CM kv c t (c i k)) _ k hk)
theorem Nu:∀ (t:Nat) (i:H),CM kv c t i<=t
 | 0,_=>ao _
 | t+1,i=>by
  have:∀ k,PQ (fun k=>CM kv c t (c i k)) k<=t:=by
   intro k
   induction k with
   | zero=>exact mf _
   | succ k ih=>
    have:=Nu t (c i k);rw [PQ];omega
  have:=this (kv i);rw [CM];omega
end
theorem ahp (mr:∀ i,i < n->∀ k,k < kv i->c i k < n) (hf:Aw n kv c) {i:Nat} (hi:i < n):CM kv c n i=PQ (fun k=>CM kv c n (c i k)) (kv i)+1:=by
 rw [<- Yl n i (PO mr hf i hi),CM]
theorem ahq (m:Nat->Bool) (mr:∀ i,i < n->∀ k,k < kv i->c i k < n) (hf:Aw n kv c) {i:Nat} (hi:i < n):G6 kv c m n i=cond (m i) 1 (JE (fun k=>G6 kv c m n (c i k)) (kv i)):=by
 rw [<- Rm m n i (PO mr hf i hi),G6]
end Go.tT
end
section
namespace Go.K
open Go Go.aA
theorem ba.go_rule {X:Type} {step:X->ba X} {I:Nat->X->Prop} {Q:aa->X->Prop} {n:Nat}
  (h:∀ j x,j<=n->I j x->(∃ x',step x = .next x'/\j < n/\I (j+1) x')\/∃ e x',step x = .out e x'/\ko e=false/\Q e x') :
  ∀ (r j:Nat) (x:X),j+r=n->I j x->∀ N,r < N->∃ e x',ba.go step N x = .out e x'/\Q e x'
 | r,j,x,hj,hI,0,hN=>by omega
 | r,j,x,hj,hI,N+1,hN=>by
  rcases h j x (by omega) hI with ⟨x',h1,h2,h3⟩ | ⟨e,x',h1,h2,h3⟩
  ·obtain ⟨r',rfl⟩:∃ r',r=r' + 1:=⟨r - 1,by omega⟩
   obtain ⟨e,y,h4,h5⟩:=ba.go_rule h r' (j+1) x' (by omega) h3 N (by omega);exact ⟨e,y,by simp only [ba.go,h1,h4],h5⟩
  ·exact ⟨e,x',by simp only [ba.go,h1,h2,ay],h3⟩
theorem lB {X:Type} {step:X->ba X} (I:Nat->X->Prop) (Q:aa->X->Prop) (n:Nat) (hn:n < hX)
  (h:∀ j x,j<=n->I j x->(∃ x',step x = .next x'/\j < n/\I (j+1) x')\/∃ e x',step x = .out e x'/\ko e=false/\Q e x') {x:X} (h0:I 0 x) :
  ∃ e x',goN step x = .out e x'/\Q e x':=ba.go_rule h n 0 x (by omega) h0 hX hn
theorem mq {X:Type} {step:X->ba X} (n:Nat) (hn:n < hX) (st:Nat->X) (C:Nat->Prop) {e0 er:aa} (h0:ko e0=false) (hr:ko er=false) (R:X->Prop) {xe:X}
  (aed:∀ j,j < n->(C j->step (st j) = .next (st (j+1)))/\(¬ C j->∃ x',step (st j) = .out er x'/\R x')) (Ar:step (st n) = .out e0 xe) :
  (goN step (st 0) = .out e0 xe/\∀ j,j < n->C j)\/∃ x',goN step (st 0) = .out er x'/\R x'/\∃ j,j < n/\¬ C j:=by
 obtain ⟨e,x',h1,h2⟩:=lB (step:=step) (fun j x=>x=st j/\∀ i,i < j->C i) (fun e x'=>(e=e0/\x' = xe/\∀ j,j < n->C j)\/(e=er/\R x'/\∃ j,j < n/\¬ C j)) n hn (fun j x hj ⟨hx,bL⟩=>by
  subst hx;by_cases aI:j < n
  ·obtain ⟨q1,q2⟩:=aed j aI
   by_cases hc:C j
   ·exact .inl ⟨_,q1 hc,aI,rfl,fun i hi=>by
     by_cases e:i=j
     ·subst e; exact hc
     ·exact bL i (by omega)⟩
   ·obtain ⟨x',h3,h4⟩:=q2 hc
    exact .inr ⟨_,_,h3,hr,.inr ⟨rfl,h4,j,aI,hc⟩⟩
  ·have:j=n:=by omega
   subst this;exact .inr ⟨_,_,Ar,h0,.inl ⟨rfl,rfl,bL⟩⟩) (x:=st 0) ⟨rfl,fun i hi=>absurd hi (mM _)⟩
 rcases h2 with ⟨rfl,rfl,h2⟩ | ⟨rfl,h2,h3⟩
 ·exact .inl ⟨h1,h2⟩
 ·exact .inr ⟨x',h1,h2,h3⟩
theorem ba.qI {X:Type} (e:aa) (x:X) (e' : aa):(ba.out e x).by e' = vN e e':=rfl
theorem ba.nH {X:Type} [Inhabited X] (e:aa) (x:X):(ba.out e x).st=x:=rfl
theorem eX {n:Int} (h : -9223372036854775808<=n) (h' : n < 9223372036854775808):bR n=n:=by
 show IntKind.wrap .i64 n=n;unfold IntKind.wrap;by_cases hn:0<=n
 ·have h1:n % (2 ^ IntKind.i64.bits:Int)=n:=Int.emod_eq_of_lt hn (by show n < 18446744073709551616; omega)
  simp only [h1];rw [ae];intro hc;simp only [aj,jR] at hc;have:n >= 9223372036854775808:=hc.2;omega
 ·have h1:n % (2 ^ IntKind.i64.bits:Int)=n+18446744073709551616:=by
   show n % 18446744073709551616=n+18446744073709551616;omega
  simp only [h1];rw [ax]
  ·show n+18446744073709551616 - 18446744073709551616=n
   omega
  ·simp only [aj,jR]
   refine ⟨rfl,?_⟩;show n+18446744073709551616 >= 9223372036854775808;omega
theorem ahr {b n m:Nat} (h:(n+m) * b<=140737488355328) (h2:n+m<=17592186044416):lP b n m=true:=by
 unfold lP;rw [aj];exact ⟨Nat.ble_eq_true_of_le h,Nat.ble_eq_true_of_le h2⟩
theorem sG {b n m:Nat} (hb:b<=1000000:=by omega) (hn:n<=1000000:=by omega) (hm:m<=1000000:=by omega):lP b n m=true:=
 ahr (dx (Nat.mul_le_mul (by omega:n+m<=2000000) hb) (by decide)) (by omega)
@[simp] theorem eT (n:Nat):bU n n=true:=p9 n
theorem Sl.Tr {α:Type} [Inhabited α] (s:Sl α) (v:α):(s.push v).n=s.n+1:=rfl
theorem Sl.FF {α:Type} [Inhabited α] {s:Sl α} {v:α} {i:Nat} (h:i < s.n):(s.push v).get i=s.get i:=by
 have:Nat.blt i s.n=true:=by rw [b8]; exact h
 simp only [Sl.push,this,ah]
theorem Sl.Bu {α:Type} [Inhabited α] {s:Sl α} {v:α} : (s.push v).get s.n=v:=by
 have:Nat.blt s.n s.n=false:=by
  cases h:Nat.blt s.n s.n with
  | false=>rfl
  | true=>rw [b8] at h; omega
 simp only [Sl.push,this,ay,p9,ah]
theorem Sl.Wf {α:Type} {s t:Sl α} {i:Nat} (h:i < s.n):(s.join t).get i=s.get i:=by
 have:Nat.blt i s.n=true:=by rw [b8]; exact h
 simp only [Sl.join,this,ah]
theorem Sl.acE {α:Type} {s t:Sl α} {i:Nat} (h:s.n<=i):(s.join t).get i=t.get (i - s.n):=by
 have:Nat.blt i s.n=false:=by
  cases h' : Nat.blt i s.n with
  | false=>rfl
  | true=>rw [b8] at h'; omega
 simp only [Sl.join,this,ay]
end Go.K
end
section
namespace Go.Proofs.YtckbdndhmcoihaaGreat.sc
open Go Go.K
def JF (n jO:Int):Prop:=-jO<=n/\n<=jO
instance (n jO:Int):Decidable (JF n jO):=by unfold JF; exact inferInstance
def xE (v:b.Cm) (k:Int):Prop:=JF v.x k/\JF v.y k/\JF v.z k
instance (v:b.Cm) (k:Int):Decidable (xE v k):=by unfold xE; exact inferInstance
def aai (r:b.ig):Prop:=JF r.e0 1024/\JF r.e1 1024/\JF r.e2 1024
def RowsIn (m:b.oQ):Prop:=aai m.e0/\aai m.e1/\aai m.e2
def Wg (m:b.Ps):Prop:=RowsIn m.m/\xE m.t 4096
theorem chain {p:Prop} [Decidable p] {x:Option Bool} {Q:Prop} (h1:p->¬ Q) (h2 : ¬ p->∃ r,x=some r/\(r=true↔Q)):∃ r,cond (decide p) (some false) x=some r/\(r=true↔Q):=by
 by_cases h:p
 ·rw [au h]
  exact ⟨false,rfl,⟨fun k=>by simp at k,fun k=>absurd k (h1 h)⟩⟩
 ·rw [bu h]
  exact h2 h
theorem ahs (jO:Int) (l:Sl Int) (h:0<=jO) (h' : jO<=1000000) (hn:l.n < 1000000):∃ r,b.Bs jO l=some r/\(r=true↔∀ i,i < l.n->JF (l.get i) jO):=by
 unfold b.Bs b.Dx;obtain ⟨e,x',h1,h2⟩:∃ e x',goN b.nW (⟨jO,false,l,((l.n:Nat):Int),(0:Int)⟩:b.mX) = .out e x'/\((e = .exit 0/\∀ i,i < l.n->JF (l.get i) jO)\/(e = .ret/\x'.t4=false/\∃ i,i < l.n/\¬ JF (l.get i) jO)):=by
  refine lB (X:=b.mX) (fun j x=>x=⟨jO,false,l,((l.n:Nat):Int),(j:Int)⟩/\∀ i,i < j->JF (l.get i) jO) (fun e x'=>(e = .exit 0/\∀ i,i < l.n->JF (l.get i) jO)\/(e = .ret/\x'.t4=false/\∃ i,i < l.n/\¬ JF (l.get i) jO)) l.n (by unfold hX; omega) ?_ ⟨rfl,fun i hi=>absurd hi (mM _)⟩;rintro j _ hj ⟨rfl,bL⟩;unfold b.nW
  dsimp only
  by_cases aI:(j:Int) < (l.n:Int)
  ·have h0:(0:Int)<=(j:Int):=by omega
   rw [au aI,au h0,eX (n:=0 - jO) (by omega) (by omega)];simp only [yI,ah];have ej:Int.toNat (j:Int)=j:=rfl;rw [ej];by_cases q1:l.get j < 0 - jO
   ·rw [au q1]
    exact .inr ⟨_,_,rfl,rfl,.inr ⟨rfl,rfl,j,by omega,fun k=>by have:=k.1; omega⟩⟩
   ·rw [bu q1,ay]
    by_cases q2:l.get j > jO
    ·rw [au q2]
     exact .inr ⟨_,_,rfl,rfl,.inr ⟨rfl,rfl,j,by omega,fun k=>by have:=k.2; omega⟩⟩
    ·rw [bu q2,ay,eX (by omega) (by omega)]
     refine .inl ⟨_,rfl,by omega,by congr 1,fun i hi=>?_⟩;by_cases e:i=j
     ·subst e; exact ⟨by omega,by omega⟩
     ·exact bL i (by omega)
  ·rw [bu aI,ay]
   exact .inr ⟨_,_,rfl,rfl,.inl ⟨rfl,fun i hi=>bL i (by omega)⟩⟩
 rw [h1];rcases h2 with ⟨rfl,h2⟩ | ⟨rfl,h2,i,h3,h4⟩
 ·exact ⟨true,rfl,⟨fun _=>h2,fun _=>rfl⟩⟩
 ·exact ⟨x'.t4,rfl,⟨fun k=>by rw [h2] at k; simp at k,fun k=>absurd (k i h3) h4⟩⟩
theorem anZ {P:Int->Prop} {x y z:Int} : (∀ i,i < (Sl.lit [x,y,z]).n->P ((Sl.lit [x,y,z]).get i))↔P x/\P y/\P z:=by
 constructor
 ·exact fun h=>⟨h 0 (show 0 < 3 by omega),h 1 (show 1 < 3 by omega),h 2 (show 2 < 3 by omega)⟩
 ·rintro ⟨h1,h2,h3⟩ i hi
  have hi:i < 3:=hi;rcases (by omega:i=0\/i=1\/i=2) with rfl | rfl | rfl
  ·exact h1
  ·exact h2
  ·exact h3
theorem Sz (v:b.Cm):b.qz v=some (if xE v 4096 then 0 else 20):=by
 unfold b.qz b.xq;obtain ⟨r,h1,h2⟩:=ahs 4096 (Sl.lit [v.x,v.y,v.z]) (by omega) (by omega) (by show 3 < 1000000; omega);have h2:r=true↔xE v 4096:=h2.trans (anZ (P:=fun n=>JF n 4096));rw [h1];cases r with
 | true=>rw [ax (h2.1 rfl)]; rfl
 | false=>rw [ae fun k=>by have:=h2.2 k; simp at this]; rfl
theorem aee (m:b.oQ):∃ r,b.vP m=some r/\(r=true↔RowsIn m):=by
 unfold b.vP RowsIn aai JF
 iterate 18 refine chain (fun h k=>by omega) fun _=>?_
 exact ⟨true,rfl,⟨fun _=>by omega,fun _=>rfl⟩⟩
theorem Wh (m:b.Ps):(∃ e,b.nX m=some e/\(e=0/\Wg m\/e=20/\¬ Wg m)):=by
 unfold b.nX b.xr b.xt Wg;obtain ⟨r,h1,h2⟩:=aee m.m;rw [h1,Sz];cases r with
 | false=>exact ⟨20,rfl,.inr ⟨rfl,fun k=>by have:=h2.2 k.1; simp at this⟩⟩
 | true=>
  by_cases h3:xE m.t 4096
  ·rw [ax h3]; exact ⟨0,rfl,.inl ⟨rfl,h2.1 rfl,h3⟩⟩
  ·rw [ae h3]; exact ⟨20,rfl,.inr ⟨rfl,fun k=>h3 k.2⟩⟩
def Nv (t:b.kf):Prop:=0 < t.w/\t.w<=16/\0 < t.h/\t.h<=16/\((t.Pv.n:Nat):Int)=bR (t.w * t.h)
theorem Wi (n:Int):∃ r,b.mA n=some r/\(r=true↔0 < n/\n<=16):=by
 unfold b.mA;by_cases h1:n > 0
 ·rw [au h1]
  exact ⟨_,rfl,by rw [decide_eq_true_iff]; omega⟩
 ·rw [bu h1]
  exact ⟨false,rfl,⟨fun k=>by simp at k,fun k=>absurd k.1 h1⟩⟩
theorem aht (t:b.kf):∃ e,b.nj t=some e/\(e=0/\Nv t\/e=8/\¬ Nv t):=by
 unfold b.nj b.vo b.vp Nv;obtain ⟨r,h1,h2⟩:=Wi t.w;obtain ⟨q,h3,h4⟩:=Wi t.h;rw [h1,h3];simp only [nm,iD,ah];cases r with
 | false=>exact ⟨8,rfl,.inr ⟨rfl,fun k=>by have:=h2.2 ⟨k.1,k.2.1⟩; simp at this⟩⟩
 | true=>
  have h2:=h2.1 rfl;cases q with
  | false=>exact ⟨8,rfl,.inr ⟨rfl,fun k=>by have:=h4.2 ⟨k.2.2.1,k.2.2.2.1⟩; simp at this⟩⟩
  | true=>
   have h4:=h4.1 rfl;by_cases h5:((t.Pv.n:Nat):Int)=bR (t.w * t.h)
   ·rw [bne_eq_false_iff_eq.2 h5]
    exact ⟨0,rfl,.inl ⟨rfl,h2.1,h2.2,h4.1,h4.2,h5⟩⟩
   ·rw [bne_iff_ne.2 h5]
    exact ⟨8,rfl,.inr ⟨rfl,fun k=>h5 k.2.2.2.2⟩⟩
def aaj (p:b.Prim):Prop:=p.kind<=2/\p.index.n<=200/\(p.kind=0->p.index.n % 3=0)/\(p.kind > 0->p.index.n=0\/3<=p.index.n)
def G7 (k:Int) (j:Nat):Nat:=if k=0 then (j+2) / 3 else j
def DY (p:b.Prim):Nat:=G7 p.kind (p.index.n - 2)
theorem aef (p:b.Prim) (h0:0<=p.kind) (h2:p.kind<=2) (hn:p.index.n<=200) (z:Sl b.ig) (t:Int) :
  ∃ x',goN b.jg (⟨z,t,⟨0,fun _=>⟨0,0,0⟩⟩,p.index,(0:Int),p⟩:b.dA) = .out (.exit 1) x'/\x'.out.n=DY p:=by
 have ze:=fun aed=>lB (X:=b.dA) (step:=b.jg) (fun j x=>∃ o:Sl b.ig,x=⟨z,t,o,p.index,(j:Int),p⟩/\o.n=G7 p.kind j) (fun e x'=>e = .exit 1/\x'.out.n=DY p) (p.index.n - 2) (by unfold hX; omega) aed (x:=⟨z,t,⟨0,fun _=>⟨0,0,0⟩⟩,p.index,(0:Int),p⟩) ⟨_,rfl,by unfold G7; split <;> rfl⟩;refine Exists.elim (ze ?_) fun e ⟨x,h1,he,h3⟩=>?_
 rotate_left
 ·subst he; exact ⟨x,h1,h3⟩
 rintro j _ hj ⟨o,rfl,ho⟩;have ho200:o.n<=200:=by rw [ho]; unfold G7; split <;> omega
 unfold b.jg b.mW b.mV b.mU
 dsimp only
 have e1:bR ((j:Int)+1)=((j+1:Nat):Int):=by rw [eX (by omega) (by omega)]; omega
 have e2:bR ((j:Int)+2)=((j+2:Nat):Int):=by rw [eX (by omega) (by omega)]; omega
 rw [e1,e2];by_cases aI:((j+2:Nat):Int) < (p.index.n:Int)
 ·have d1:decide ((0:Int)<=(j:Int))=true:=au (by omega)
  have d2:decide ((j:Int) < (p.index.n:Int))=true:=au (by omega);have d3:decide ((0:Int)<=((j+1:Nat):Int))=true:=au (by omega);have d4:decide (((j+1:Nat):Int) < (p.index.n:Int))=true:=au (by omega);have d5:decide ((0:Int)<=((j+2:Nat):Int))=true:=au (by omega);have d6:decide (((j+2:Nat):Int) < (p.index.n:Int))=true:=au aI;have d7:decide ((0:Int) < (p.index.n:Int))=true:=au (by omega);have da:lP 24 o.n 1=true:=sG;rw [d1,d2,d3,d4,d5,d6,d7,da];simp only [eT,yI,cY,ah];have U9:j < p.index.n - 2:=by omega
  rcases (by omega:p.kind=0\/p.kind=1\/p.kind=2) with hk | hk | hk
  ·rw [hk]
   by_cases h3:Int.tmod (j:Int) 3=0
   ·rw [rB.2 h3]
    refine .inl ⟨_,rfl,U9,_,rfl,?_⟩;rw [Sl.Tr,ho,hk];have:Int.tmod (j:Int) 3=((j % 3:Nat):Int):=rfl;unfold G7;rw [ax rfl,ax rfl];omega
   ·rw [beq_eq_false_iff_ne.2 h3]
    refine .inl ⟨_,rfl,U9,_,rfl,?_⟩;rw [ho,hk];have:Int.tmod (j:Int) 3=((j % 3:Nat):Int):=rfl;unfold G7;rw [ax rfl,ax rfl];omega
  ·rw [hk]
   have hc:∀ j,G7 1 j=j:=fun j=>rfl;by_cases h3:Int.tmod (j:Int) 2=0
   ·rw [rB.2 h3]
    exact .inl ⟨_,rfl,U9,_,rfl,by rw [Sl.Tr,ho,hk,hc,hc]⟩
   ·rw [beq_eq_false_iff_ne.2 h3]
    exact .inl ⟨_,rfl,U9,_,rfl,by rw [Sl.Tr,ho,hk,hc,hc]⟩
  ·rw [hk]
   have hc:∀ j,G7 2 j=j:=fun j=>rfl;exact .inl ⟨_,rfl,U9,_,rfl,by rw [Sl.Tr,ho,hk,hc,hc]⟩
 ·rw [bu aI,ay]
  simp only [eT,ah];refine .inr ⟨_,_,rfl,rfl,rfl,?_⟩;show o.n=_;rw [ho];have:j=p.index.n - 2:=by omega
  subst this;rfl
theorem aeg (p:b.Prim) (h0:0<=p.kind) (h2:p.kind<=2):∃ r,b.tf p=some r/\(r=true↔(p.kind=0->p.index.n % 3=0)/\(p.kind > 0->p.index.n=0\/3<=p.index.n)):=by
 unfold b.tf b.uL;have key:∀ {k:Int},(p.kind=k->k > 0)->∃ r,cond (((p.index.n:Nat):Int)==(0:Int)) (some true) (some (decide (((p.index.n:Nat):Int) >= (3:Int))))=some r/\(r=true↔(p.index.n=0\/3<=p.index.n)):=by
  intro k _;by_cases h:((p.index.n:Nat):Int)=0
  ·rw [rB.2 h]
   exact ⟨true,rfl,⟨fun _=>.inl (by omega),fun _=>rfl⟩⟩
  ·rw [beq_eq_false_iff_ne.2 h]
   exact ⟨_,rfl,by rw [decide_eq_true_iff]; omega⟩
 rcases (by omega:p.kind=0\/p.kind=1\/p.kind=2) with hk | hk | hk
 ·rw [hk]
  refine ⟨_,rfl,?_⟩;rw [rB];have:Int.tmod ((p.index.n:Nat):Int) 3=((p.index.n % 3:Nat):Int):=rfl;rw [this];exact ⟨fun h=>⟨fun _=>by omega,fun h=>absurd h (by omega)⟩,fun h=>by have:=h.1 rfl; omega⟩
 ·rw [hk]
  obtain ⟨r,h1,h3⟩:=key (k:=1) (fun _=>by omega);exact ⟨r,h1,h3.trans ⟨fun h=>⟨fun k=>absurd k (by omega),fun _=>h⟩,fun h=>h.2 (by omega)⟩⟩
 ·rw [hk]
  obtain ⟨r,h1,h3⟩:=key (k:=2) (fun _=>by omega);exact ⟨r,h1,h3.trans ⟨fun h=>⟨fun k=>absurd k (by omega),fun _=>h⟩,fun h=>h.2 (by omega)⟩⟩
theorem aeh (p:b.Prim) (h0:0<=p.kind):∃ l e,b.tg p=some (l,e)/\(e=0/\aaj p/\l.n=DY p\/e≠0/\¬ aaj p/\l.n=0):=by
 unfold b.tg;by_cases h1:p.kind > 2
 ·rw [au h1]
  exact ⟨_,_,rfl,.inr ⟨by decide,fun k=>by have:=k.1; omega,rfl⟩⟩
 ·rw [bu h1,ay]
  by_cases h2:((p.index.n:Nat):Int) > 200
  ·rw [au h2]
   exact ⟨_,_,rfl,.inr ⟨by decide,fun k=>by have:=k.2.1; omega,rfl⟩⟩
  ·rw [bu h2,ay]
   unfold b.Cz b.CA;obtain ⟨r,h3,h4⟩:=aeg p h0 (by omega);rw [h3];cases r with
   | false=>
    exact ⟨_,_,rfl,.inr ⟨by decide,fun k=>by have:=h4.2 k.2.2; simp at this,rfl⟩⟩
   | true=>
    obtain ⟨x',h5,h6⟩:=aef p h0 (by omega) (by omega) ⟨0,fun _=>⟨0,0,0⟩⟩ 0;rw [h5];exact ⟨_,_,rfl,.inl ⟨rfl,⟨by omega,by omega,h4.1 rfl⟩,h6⟩⟩
def Xj (m:b.kD):Nat->Nat
 | 0=>0
 | k+1=>Xj m k+DY (m.fh.get k)
theorem ahu (m:b.kD) {i j:Nat} (h:i<=j):Xj m i<=Xj m j:=by
 induction j with
 | zero=>have:i=0:=by omega
         subst this; exact ao _
 | succ j ih=>
  by_cases e:i=j+1
  ·subst e; exact ao _
  ·have:=ih (by omega)
   show Xj m i<=Xj m j+_;omega
def age (m:b.kD) (k:Nat):Prop:=aaj (m.fh.get k)/\∀ i,i < (m.fh.get k).index.n->0<=(m.fh.get k).index.get i/\(m.fh.get k).index.get i < (m.nQ.n:Int)
def Kw (m:b.kD):Prop:=(∀ k,k < m.fh.n->age m k)/\Xj m m.fh.n<=64
def JG (m:b.kD):Prop:=∀ k,k < m.fh.n->0<=(m.fh.get k).kind
theorem acF (z o:Sl b.ig) (t:Bool) (q:Sl b.Prim) (a c:Int) (l:Sl Int) (hl:l.n<=1000) (m:b.kD) :
  (∃ k,goN b.eF (⟨z,t,o,q,a,c,l,((l.n:Nat):Int),(0:Int),m⟩:b.eC) = .out (.exit 2) ⟨z,t,o,q,a,c,l,((l.n:Nat):Int),k,m⟩/\∀ i,i < l.n->0<=l.get i/\l.get i < (m.nQ.n:Int))\/
  ∃ x',goN b.eF (⟨z,t,o,q,a,c,l,((l.n:Nat):Int),(0:Int),m⟩:b.eC) = .out .ret x'/\x'.t3=false/\∃ i,i < l.n/\¬ (0<=l.get i/\l.get i < (m.nQ.n:Int)):=by
 have key:=mq (step:=b.eF) l.n (by unfold hX; omega) (fun j=>⟨z,t,o,q,a,c,l,((l.n:Nat):Int),(j:Int),m⟩) (fun i=>0<=l.get i/\l.get i < (m.nQ.n:Int)) (e0:=.exit 2) (er:=.ret) rfl rfl (fun x'=>x'.t3=false) (xe:=⟨z,t,o,q,a,c,l,((l.n:Nat):Int),((l.n:Nat):Int),m⟩) (fun j hj=>by
  have e1:bR ((j:Int)+1)=((j+1:Nat):Int):=by rw [eX (by omega) (by omega)]; omega
  have d1:decide ((j:Int) < ((l.n:Nat):Int))=true:=au (by omega);have d2:decide ((0:Int)<=(j:Int))=true:=au (by omega);have ej:Int.toNat (j:Int)=j:=rfl;unfold b.eF b.jb
  dsimp only
  rw [d1,d2,ej,e1];simp only [eT,cY,ah];constructor
  ·rintro ⟨h1,h2⟩
   rw [bu (show ¬ l.get j < 0 by omega),bu (show ¬ l.get j >= (m.nQ.n:Int) by omega)];rfl
  ·intro h
   by_cases h1:l.get j < 0
   ·rw [au h1]
    exact ⟨_,rfl,rfl⟩
   ·rw [bu h1,au (show l.get j >= (m.nQ.n:Int) by omega)]
    exact ⟨_,rfl,rfl⟩) (by
  unfold b.eF b.jb
  dsimp only
  rw [bu (Int.lt_irrefl _)];simp only [eT,ah,ay])
 rcases key with ⟨h1,h2⟩ | ⟨x',h1,h2,h3⟩
 ·exact .inl ⟨_,h1,h2⟩
 ·exact .inr ⟨x',h1,h2,h3⟩
theorem aei (m:b.kD) (hk:JG m) (hp:m.fh.n < 1000000):∃ l r,b.th m=some (l,r)/\(r=true↔Kw m):=by
 unfold b.th b.pH;obtain ⟨e,x',h1,h2⟩:∃ e x',goN b.lz (⟨⟨0,fun _=>⟨0,0,0⟩⟩,false,⟨0,fun _=>⟨0,0,0⟩⟩,m.fh,((m.fh.n:Nat):Int),(0:Int),m⟩:b.fa) = .out e x'/\((e = .exit 0/\Kw m)\/(e = .ret/\x'.t3=false/\¬ Kw m)):=by
  refine lB (X:=b.fa) (fun j x=>∃ o:Sl b.ig,x=⟨⟨0,fun _=>⟨0,0,0⟩⟩,false,o,m.fh,((m.fh.n:Nat):Int),(j:Int),m⟩/\o.n=Xj m j/\Xj m j<=64/\∀ k,k < j->age m k) (fun e x'=>(e = .exit 0/\Kw m)\/(e = .ret/\x'.t3=false/\¬ Kw m)) m.fh.n (by unfold hX; omega) ?_ ⟨_,rfl,rfl,by show 0<=64; omega,fun k hk=>absurd hk (mM _)⟩;rintro j _ hj ⟨o,rfl,ho,ht,gV⟩;unfold b.lz b.nF b.bS b.fj
  dsimp only
  by_cases aI:(j:Int) < ((m.fh.n:Nat):Int)
  ·have d1:decide ((j:Int) < ((m.fh.n:Nat):Int))=true:=au aI
   have d2:decide ((0:Int)<=(j:Int))=true:=au (by omega);have ej:Int.toNat (j:Int)=j:=rfl;obtain ⟨l,e,h1,h2⟩:=aeh (m.fh.get j) (hk j (by omega));have hln:l.n<=200:=by
    rcases h2 with ⟨_,q,h⟩ | ⟨_,_,h⟩
    ·rw [h]; have:=q.2.1; unfold DY G7; split <;> omega
    ·omega
   have da:lP 24 o.n l.n=true:=sG;rw [d1,d2,ej,h1];simp only [nm,iD,ah,cY,eT,da];rcases h2 with ⟨rfl,hpo,hn⟩ | ⟨he,hpo,hn⟩
   ·have bA:((0:Int) != 0)=false:=rfl
    rw [bA,ay];have hs:Xj m (j+1)=o.n+l.n:=by show Xj m j+DY _=_; rw [ho,hn]
    by_cases h64:(((o.n+l.n:Nat)):Int) > 64
    ·rw [au h64]
     exact .inr ⟨_,_,rfl,rfl,.inr ⟨rfl,rfl,fun k=>by have:=ahu m (show j+1<=m.fh.n by omega); have:=k.2; omega⟩⟩
    ·rw [bu h64,ay]
     have e1:bR ((j:Int)+1)=((j+1:Nat):Int):=by rw [eX (by omega) (by omega)]; omega
     rcases acF ⟨0,fun _=>⟨0,0,0⟩⟩ (o.join l) false m.fh ((m.fh.n:Nat):Int) (j:Int) (m.fh.get j).index (by have:=hpo.2.1; omega) m with ⟨k,q1,q2⟩ | ⟨x',q1,q2,i,q3,q4⟩
     ·rw [q1]
      simp only [ba.qI,ba.nH,eT,ah];rw [e1];refine .inl ⟨_,rfl,by omega,o.join l,rfl,by rw [hs]; rfl,by omega,fun k' pb=>?_⟩;by_cases e:k' = j
      ·subst e; exact ⟨hpo,q2⟩
      ·exact gV k' (by omega)
     ·rw [q1]
      simp only [ba.qI,ba.nH,eT,ah];exact .inr ⟨_,_,rfl,rfl,.inr ⟨rfl,q2,fun k=>q4 ((k.1 j (by omega)).2 i q3)⟩⟩
   ·have bA:(e != (0:Int))=true:=by rw [bne_iff_ne]; exact he
    rw [bA];exact .inr ⟨_,_,rfl,rfl,.inr ⟨rfl,rfl,fun k=>hpo (k.1 j (by omega)).1⟩⟩
  ·rw [bu aI,ay]
   simp only [eT,ah];have:j=m.fh.n:=by omega
   subst this;exact .inr ⟨_,_,rfl,rfl,.inl ⟨rfl,gV,ht⟩⟩
 rw [h1];rcases h2 with ⟨rfl,h2⟩ | ⟨rfl,h2,h3⟩
 ·exact ⟨_,true,rfl,⟨fun _=>h2,fun _=>rfl⟩⟩
 ·exact ⟨_,x'.t3,rfl,⟨fun k=>by rw [h2] at k; simp at k,fun k=>absurd k h3⟩⟩
def acG (q:b.xb):Prop:=0<=q.e0/\q.e0<=255/\0<=q.e1/\q.e1<=255
def aak (m:b.kD):Prop:=m.nQ.n<=64/\m.uV.n<=64/\m.fh.n<=16
def G8 (m:b.kD):Prop:=aak m/\m.uV.n=m.nQ.n/\(∀ i,i < m.nQ.n->xE (m.nQ.get i) 1024)/\(∀ i,i < m.uV.n->acG (m.uV.get i))/\Kw m
theorem acH (s:Sl b.Cm) (hs:s.n<=64):(∃ x',goN b.bm (⟨s,(0:Int),((s.n:Nat):Int),(0:Int)⟩:b.bB) = .out (.exit 0) x'/\∀ i,i < s.n->xE (s.get i) 1024)\/
  ∃ x',goN b.bm (⟨s,(0:Int),((s.n:Nat):Int),(0:Int)⟩:b.bB) = .out .ret x'/\x'.t4 >= 0/\∃ i,i < s.n/\¬ xE (s.get i) 1024:=by
 have key:=mq (step:=b.bm) s.n (by unfold hX; omega) (fun j=>⟨s,(0:Int),((s.n:Nat):Int),(j:Int)⟩) (fun k=>xE (s.get k) 1024) (e0:=.exit 0) (er:=.ret) rfl rfl (fun x'=>x'.t4 >= 0) (xe:=⟨s,(0:Int),((s.n:Nat):Int),((s.n:Nat):Int)⟩) (fun j hj=>by
  have e1:bR ((j:Int)+1)=((j+1:Nat):Int):=by rw [eX (by omega) (by omega)]; omega
  have d1:decide ((j:Int) < ((s.n:Nat):Int))=true:=au (by omega);have d2:decide ((0:Int)<=(j:Int))=true:=au (by omega);have ej:Int.toNat (j:Int)=j:=rfl;unfold b.bm xE JF
  dsimp only
  rw [d1,d2,ej,e1];simp only [cY,ah];generalize s.get j=v;have Ch:(j:Int) >= 0:=by omega
  by_cases h1:v.x >= -1024
  ·by_cases h2:v.x<=1024
   ·by_cases h3:v.y >= -1024
    ·by_cases h4:v.y<=1024
     ·by_cases h5:v.z >= -1024
      ·by_cases h6:v.z<=1024
       ·rw [au h1,au h2,au h3,au h4,au h5,au h6]
        exact ⟨fun _=>rfl,fun h=>absurd ⟨⟨h1,h2⟩,⟨h3,h4⟩,h5,h6⟩ h⟩
       ·rw [au h1,au h2,au h3,au h4,au h5,bu h6]
        exact ⟨fun h=>absurd h.2.2.2 h6,fun h=>⟨_,rfl,Ch⟩⟩
      ·rw [au h1,au h2,au h3,au h4,bu h5]
       exact ⟨fun h=>absurd h.2.2.1 h5,fun h=>⟨_,rfl,Ch⟩⟩
     ·rw [au h1,au h2,au h3,bu h4]
      exact ⟨fun h=>absurd h.2.1.2 h4,fun h=>⟨_,rfl,Ch⟩⟩
    ·rw [au h1,au h2,bu h3]
     exact ⟨fun h=>absurd h.2.1.1 h3,fun h=>⟨_,rfl,Ch⟩⟩
   ·rw [au h1,bu h2]
    exact ⟨fun h=>absurd h.1.2 h2,fun h=>⟨_,rfl,Ch⟩⟩
  ·rw [bu h1]
   exact ⟨fun h=>absurd h.1.1 h1,fun h=>⟨_,rfl,Ch⟩⟩) (by
  unfold b.bm
  dsimp only
  rw [bu (Int.lt_irrefl _)];rfl)
 rcases key with ⟨h1,h2⟩ | ⟨x',h1,h2,h3⟩
 ·exact .inl ⟨_,h1,h2⟩
 ·exact .inr ⟨x',h1,h2,h3⟩
theorem ahv (s:Sl b.xb) (hs:s.n<=64):(∃ x',goN b.bo (⟨s,(0:Int),((s.n:Nat):Int),(0:Int)⟩:b.bC) = .out (.exit 0) x'/\∀ i,i < s.n->acG (s.get i))\/
  ∃ x',goN b.bo (⟨s,(0:Int),((s.n:Nat):Int),(0:Int)⟩:b.bC) = .out .ret x'/\x'.t4 >= 0/\∃ i,i < s.n/\¬ acG (s.get i):=by
 have key:=mq (step:=b.bo) s.n (by unfold hX; omega) (fun j=>⟨s,(0:Int),((s.n:Nat):Int),(j:Int)⟩) (fun k=>acG (s.get k)) (e0:=.exit 0) (er:=.ret) rfl rfl (fun x'=>x'.t4 >= 0) (xe:=⟨s,(0:Int),((s.n:Nat):Int),((s.n:Nat):Int)⟩) (fun j hj=>by
  have e1:bR ((j:Int)+1)=((j+1:Nat):Int):=by rw [eX (by omega) (by omega)]; omega
  have d1:decide ((j:Int) < ((s.n:Nat):Int))=true:=au (by omega);have d2:decide ((0:Int)<=(j:Int))=true:=au (by omega);have ej:Int.toNat (j:Int)=j:=rfl;unfold b.bo acG
  dsimp only
  rw [d1,d2,ej,e1];simp only [cY,ah];generalize s.get j=v;have Ch:(j:Int) >= 0:=by omega
  by_cases h1:v.e0 < 0
  ·rw [au h1]
   exact ⟨fun h=>absurd h.1 (by omega),fun h=>⟨_,rfl,Ch⟩⟩
  ·by_cases h2:v.e0 > 255
   ·rw [bu h1,au h2]
    exact ⟨fun h=>absurd h.2.1 (by omega),fun h=>⟨_,rfl,Ch⟩⟩
   ·by_cases h3:v.e1 < 0
    ·rw [bu h1,bu h2,au h3]
     exact ⟨fun h=>absurd h.2.2.1 (by omega),fun h=>⟨_,rfl,Ch⟩⟩
    ·by_cases h4:v.e1 > 255
     ·rw [bu h1,bu h2,bu h3,au h4]
      exact ⟨fun h=>absurd h.2.2.2 (by omega),fun h=>⟨_,rfl,Ch⟩⟩
     ·rw [bu h1,bu h2,bu h3,bu h4]
      exact ⟨fun _=>rfl,fun h=>absurd ⟨by omega,by omega,by omega,by omega⟩ h⟩) (by
  unfold b.bo
  dsimp only
  rw [bu (Int.lt_irrefl _)];rfl)
 rcases key with ⟨h1,h2⟩ | ⟨x',h1,h2,h3⟩
 ·exact .inl ⟨_,h1,h2⟩
 ·exact .inr ⟨x',h1,h2,h3⟩
open Classical in
noncomputable def JH (m:b.kD):Int:=if aak m then (if G8 m then 0 else 40) else 4
theorem aej (m:b.kD) (hk:JG m):b.rf m=some (JH m):=by
 unfold b.rf b.tj b.ti JH;by_cases h1:((m.nQ.n:Nat):Int) > 64
 ·rw [au h1,ae fun k=>by have:=k.1; omega]; rfl
 rw [bu h1];by_cases h2:((m.uV.n:Nat):Int) > 64
 ·rw [au h2,ae fun k=>by have:=k.2.1; omega]; rfl
 rw [bu h2];by_cases h3:((m.fh.n:Nat):Int) > 16
 ·rw [au h3,ae fun k=>by have:=k.2.2; omega]; rfl
 rw [bu h3];have hf:aak m:=⟨by omega,by omega,by omega⟩
 rw [ax hf];simp only [ay];by_cases h4:((m.uV.n:Nat):Int)=((m.nQ.n:Nat):Int)
 ·rw [bne_eq_false_iff_eq.2 h4,ay]
  unfold b.uM b.uN b.Ad;rcases acH m.nQ hf.1 with ⟨x',q1,q2⟩ | ⟨x',q1,q2,i,q3,q4⟩
  ·rw [q1]
   rcases ahv m.uV hf.2.1 with ⟨y',r1,r2⟩ | ⟨y',r1,r2,i,r3,r4⟩
   ·rw [r1]
    obtain ⟨l,r,s1,s2⟩:=aei m hk (by have:=hf.2.2; omega);rw [s1];cases r with
    | true=>rw [ax ⟨hf,by omega,q2,r2,s2.1 rfl⟩]; rfl
    | false=>rw [ae fun k=>by have:=s2.2 k.2.2.2.2; simp at this]; rfl
   ·rw [r1,ae fun k=>r4 (k.2.2.2.1 i r3)]
    simp only [ba.qI,ba.nH,r2,decide_true];rfl
  ·rw [q1,ae fun k=>q4 (k.2.2.1 i q3)]
   simp only [ba.qI,ba.nH,q2,decide_true];rfl
 ·rw [bne_iff_ne.2 h4,ae fun k=>h4 (by rw [k.2.1])]; rfl
def Ts (l:b.ow):Prop:=-1<=l.fS/\l.fS < 16/\l.su<=2/\-1024<=l.qR/\l.qR<=1024/\0<=l.bin/\l.bin<=15
theorem akU {p:Prop} [Decidable p] {x:Option Int} {Q:Prop} (h1:p->¬ Q) (h2 : ¬ p->∃ e,x=some e/\(e=0/\Q\/e=8/\¬ Q)):∃ e,cond (decide p) (some 8) x=some e/\(e=0/\Q\/e=8/\¬ Q):=by
 by_cases h:p
 ·rw [au h]
  exact ⟨8,rfl,.inr ⟨rfl,h1 h⟩⟩
 ·rw [bu h]
  exact h2 h
theorem aek (l:b.ow):∃ e,b.kr l=some e/\(e=0/\Ts l\/e=8/\¬ Ts l):=by
 unfold b.kr Ts
 iterate 7 refine akU (fun h k=>by omega) fun _=>?_
 exact ⟨0,rfl,.inl ⟨rfl,by omega⟩⟩
def mD (n:Int):Prop:=n=0\/n=1\/n=3\/n=5\/n=7
def Nw (s:b.kP) (l:b.ow):b.ow:=if s.dm.e0=0 then l else ⟨s.look.color,l.fS,l.su,l.qR,l.oS,l.bin⟩
theorem an0 (t:Int) (s:b.kP) (l:b.ow):(mD s.dm.e0->b.aW ⟨t,0,s,l⟩ = .next ⟨t,1,s,Nw s l⟩)/\(¬ mD s.dm.e0->∃ x',b.aW ⟨t,0,s,l⟩ = .out .ret x'/\x'.t2=8):=by
 unfold b.aW b.dP b.dN b.dM b.dL b.dK mD Nw
 dsimp only
 have e1:bR ((0:Int)+1)=1:=by decide
 rw [e1];constructor
 ·rintro (h | h | h | h | h) <;> rw [h] <;> rfl
 ·intro h
  rw [beq_eq_false_iff_ne.2 (fun k=>h (by omega):s.dm.e0≠0),beq_eq_false_iff_ne.2 (fun k=>h (by omega):s.dm.e0≠1),beq_eq_false_iff_ne.2 (fun k=>h (by omega):s.dm.e0≠3),beq_eq_false_iff_ne.2 (fun k=>h (by omega):s.dm.e0≠5),beq_eq_false_iff_ne.2 (fun k=>h (by omega):s.dm.e0≠7)];exact ⟨_,rfl,rfl⟩
def Rn (s:b.kP) (l:b.ow):b.ow:=if s.dm.e1=0 then l else ⟨l.color,s.look.fS,l.su,l.qR,l.oS,l.bin⟩
theorem an1 (t:Int) (s:b.kP) (l:b.ow):(mD s.dm.e1->b.aW ⟨t,1,s,l⟩ = .next ⟨t,2,s,Rn s l⟩)/\(¬ mD s.dm.e1->∃ x',b.aW ⟨t,1,s,l⟩ = .out .ret x'/\x'.t2=8):=by
 unfold b.aW b.dP b.dN b.dM b.dL b.dK mD Rn
 dsimp only
 have e1:bR ((1:Int)+1)=2:=by decide
 rw [e1];constructor
 ·rintro (h | h | h | h | h) <;> rw [h] <;> rfl
 ·intro h
  rw [beq_eq_false_iff_ne.2 (fun k=>h (by omega):s.dm.e1≠0),beq_eq_false_iff_ne.2 (fun k=>h (by omega):s.dm.e1≠1),beq_eq_false_iff_ne.2 (fun k=>h (by omega):s.dm.e1≠3),beq_eq_false_iff_ne.2 (fun k=>h (by omega):s.dm.e1≠5),beq_eq_false_iff_ne.2 (fun k=>h (by omega):s.dm.e1≠7)];exact ⟨_,rfl,rfl⟩
def Wj (s:b.kP) (l:b.ow):b.ow:=if s.dm.e2=0 then l else ⟨l.color,l.fS,s.look.su,l.qR,l.oS,l.bin⟩
theorem an2 (t:Int) (s:b.kP) (l:b.ow):(mD s.dm.e2->b.aW ⟨t,2,s,l⟩ = .next ⟨t,3,s,Wj s l⟩)/\(¬ mD s.dm.e2->∃ x',b.aW ⟨t,2,s,l⟩ = .out .ret x'/\x'.t2=8):=by
 unfold b.aW b.dP b.dN b.dM b.dL b.dK mD Wj
 dsimp only
 have e1:bR ((2:Int)+1)=3:=by decide
 rw [e1];constructor
 ·rintro (h | h | h | h | h) <;> rw [h] <;> rfl
 ·intro h
  rw [beq_eq_false_iff_ne.2 (fun k=>h (by omega):s.dm.e2≠0),beq_eq_false_iff_ne.2 (fun k=>h (by omega):s.dm.e2≠1),beq_eq_false_iff_ne.2 (fun k=>h (by omega):s.dm.e2≠3),beq_eq_false_iff_ne.2 (fun k=>h (by omega):s.dm.e2≠5),beq_eq_false_iff_ne.2 (fun k=>h (by omega):s.dm.e2≠7)];exact ⟨_,rfl,rfl⟩
def aal (s:b.kP) (l:b.ow):b.ow:=if s.dm.e3=0 then l else ⟨l.color,l.fS,l.su,s.look.qR,l.oS,l.bin⟩
theorem an3 (t:Int) (s:b.kP) (l:b.ow):(mD s.dm.e3->b.aW ⟨t,3,s,l⟩ = .next ⟨t,4,s,aal s l⟩)/\(¬ mD s.dm.e3->∃ x',b.aW ⟨t,3,s,l⟩ = .out .ret x'/\x'.t2=8):=by
 unfold b.aW b.dP b.dN b.dM b.dL b.dK mD aal
 dsimp only
 have e1:bR ((3:Int)+1)=4:=by decide
 rw [e1];constructor
 ·rintro (h | h | h | h | h) <;> rw [h] <;> rfl
 ·intro h
  rw [beq_eq_false_iff_ne.2 (fun k=>h (by omega):s.dm.e3≠0),beq_eq_false_iff_ne.2 (fun k=>h (by omega):s.dm.e3≠1),beq_eq_false_iff_ne.2 (fun k=>h (by omega):s.dm.e3≠3),beq_eq_false_iff_ne.2 (fun k=>h (by omega):s.dm.e3≠5),beq_eq_false_iff_ne.2 (fun k=>h (by omega):s.dm.e3≠7)];exact ⟨_,rfl,rfl⟩
def ael (s:b.kP) (l:b.ow):b.ow:=if s.dm.e4=0 then l else ⟨l.color,l.fS,l.su,l.qR,s.look.oS,s.look.bin⟩
theorem an4 (t:Int) (s:b.kP) (l:b.ow):(mD s.dm.e4->b.aW ⟨t,4,s,l⟩ = .next ⟨t,5,s,ael s l⟩)/\(¬ mD s.dm.e4->∃ x',b.aW ⟨t,4,s,l⟩ = .out .ret x'/\x'.t2=8):=by
 unfold b.aW b.dP b.dN b.dM b.dL b.dK mD ael
 dsimp only
 have e1:bR ((4:Int)+1)=5:=by decide
 rw [e1];constructor
 ·rintro (h | h | h | h | h) <;> rw [h] <;> rfl
 ·intro h
  rw [beq_eq_false_iff_ne.2 (fun k=>h (by omega):s.dm.e4≠0),beq_eq_false_iff_ne.2 (fun k=>h (by omega):s.dm.e4≠1),beq_eq_false_iff_ne.2 (fun k=>h (by omega):s.dm.e4≠3),beq_eq_false_iff_ne.2 (fun k=>h (by omega):s.dm.e4≠5),beq_eq_false_iff_ne.2 (fun k=>h (by omega):s.dm.e4≠7)];exact ⟨_,rfl,rfl⟩
def G9:b.ow:=⟨⟨0,0,0,0⟩,0,0,0,false,0⟩
def said (s:b.kP):b.ow:=ael s (aal s (Wj s (Rn s (Nw s G9))))
def aam (s:b.kP):Prop:=mD s.dm.e0/\mD s.dm.e1/\mD s.dm.e2/\mD s.dm.e3/\mD s.dm.e4
def PR (s:b.kP):Prop:=aam s/\said s=s.look/\Ts s.look
theorem aem (s:b.kP):(goN b.aW (⟨0,0,s,G9⟩:b.b7) = .out (.exit 0) ⟨0,5,s,said s⟩/\aam s)\/∃ x',goN b.aW (⟨0,0,s,G9⟩:b.b7) = .out .ret x'/\x'.t2=8/\¬ aam s:=by
 have key:=mq (step:=b.aW) 5 (by unfold hX; omega) (fun j=>match j with
  | 0=>⟨0,0,s,G9⟩
  | 1=>⟨0,1,s,Nw s G9⟩
  | 2=>⟨0,2,s,Rn s (Nw s G9)⟩
  | 3=>⟨0,3,s,Wj s (Rn s (Nw s G9))⟩
  | 4=>⟨0,4,s,aal s (Wj s (Rn s (Nw s G9)))⟩
  | _=>⟨0,5,s,said s⟩) (fun j=>match j with
  | 0=>mD s.dm.e0
  | 1=>mD s.dm.e1
  | 2=>mD s.dm.e2
  | 3=>mD s.dm.e3
  | _=>mD s.dm.e4) (e0:=.exit 0) (er:=.ret) rfl rfl (fun x'=>x'.t2=8) (xe:=⟨0,5,s,said s⟩) (fun j hj=>by
   rcases (by omega:j=0\/j=1\/j=2\/j=3\/j=4) with rfl | rfl | rfl | rfl | rfl
   ·exact an0 0 s _
   ·exact an1 0 s _
   ·exact an2 0 s _
   ·exact an3 0 s _
   ·exact an4 0 s _) rfl
 rcases key with ⟨h1,h2⟩ | ⟨x',h1,h2,j,h3,h4⟩
 ·exact .inl ⟨h1,h2 0 (by omega),h2 1 (by omega),h2 2 (by omega),h2 3 (by omega),h2 4 (by omega)⟩
 ·refine .inr ⟨x',h1,h2,fun k=>h4 ?_⟩
  obtain ⟨k0,k1,k2,k3,k4⟩:=k;rcases (by omega:j=0\/j=1\/j=2\/j=3\/j=4) with rfl | rfl | rfl | rfl | rfl <;> assumption
theorem look_eq (a c:b.ow):((a.color.e0==c.color.e0)&&((a.color.e1==c.color.e1)&&((a.color.e2==c.color.e2)&&((a.color.e3==c.color.e3)&&((a.fS==c.fS)&&((a.su==c.su)&&((a.qR==c.qR)&&((a.oS==c.oS)&&((a.bin==c.bin)&&true)))))))))=true↔a=c:=by
 obtain ⟨⟨a0,a1,a2,a3⟩,a4,a5,a6,a7,a8⟩:=a;obtain ⟨⟨c0,c1,c2,c3⟩,c4,c5,c6,c7,c8⟩:=c;simp [aj,and_assoc]
theorem acI (s:b.kP):∃ e,b.nV s=some e/\(e=0/\PR s\/e=8/\¬ PR s):=by
 unfold b.nV b.xn b.bN;have e0:(⟨0,0,s,⟨⟨0,0,0,0⟩,0,0,0,false,0⟩⟩:b.b7)=⟨0,0,s,G9⟩:=rfl;rw [e0];rcases aem s with ⟨h1,h2⟩ | ⟨x',h1,h2,h3⟩
 ·rw [h1]
  simp only [ba.qI,ba.nH];by_cases hl:said s=s.look
  ·rw [(look_eq _ _).2 hl]
   obtain ⟨e,q1,q2⟩:=aek s.look;rw [q1];refine ⟨e,rfl,?_⟩;rcases q2 with ⟨rfl,q2⟩ | ⟨rfl,q2⟩
   ·exact .inl ⟨rfl,h2,hl,q2⟩
   ·exact .inr ⟨rfl,fun k=>q2 k.2.2⟩
  ·rw [Bool.eq_false_iff.2 fun k=>hl ((look_eq _ _).1 k)]
   exact ⟨8,rfl,.inr ⟨rfl,fun k=>hl k.2.1⟩⟩
 ·rw [h1]
  exact ⟨x'.t2,rfl,.inr ⟨h2,fun k=>h3 k.1⟩⟩
theorem cc {α:Type} (a c:Bool) (F X:α):cond a (cond c F X) X=cond (a&&c) F X:=by cases a <;> cases c <;> rfl
theorem cc2 {α:Type} (a c d:Bool) (F X:α):cond a (cond c F (cond d F X)) X=cond (a&&(c||d)) F X:=by cases a <;> cases c <;> cases d <;> rfl
def Tt (s:b.kP):Prop:=(0<=s.dm.e0/\s.dm.e0<=255)/\(0<=s.dm.e1/\s.dm.e1<=255)/\(0<=s.dm.e2/\s.dm.e2<=255)/\(0<=s.dm.e3/\s.dm.e3<=255)/\(0<=s.dm.e4/\s.dm.e4<=255)
def Kx (l:Sl Int):Nat->Int
 | 0=>0
 | k+1=>l.get k
def aen (l:Sl Int):Prop:=(∀ j,j < l.n->Kx l j<=l.get j/\l.get j<=8192)/\l.n<=16
theorem ahw (l:Sl Int) (hn:l.n < 1000000):∃ r,b.vQ l=some r/\(r=true↔aen l):=by
 unfold b.vQ b.uk;have key:=mq (step:=b.ij) l.n (by unfold hX; omega) (fun j=>⟨l,false,Kx l j,l,((l.n:Nat):Int),(j:Int)⟩) (fun j=>Kx l j<=l.get j/\l.get j<=8192) (e0:=.exit 0) (er:=.ret) rfl rfl (fun x'=>x'.t2=false) (xe:=⟨l,false,Kx l l.n,l,((l.n:Nat):Int),((l.n:Nat):Int)⟩) (fun j hj=>by
  have e1:bR ((j:Int)+1)=((j+1:Nat):Int):=by rw [eX (by omega) (by omega)]; omega
  have d1:decide ((j:Int) < ((l.n:Nat):Int))=true:=au (by omega);have d2:decide ((0:Int)<=(j:Int))=true:=au (by omega);have ej:Int.toNat (j:Int)=j:=rfl;unfold b.ij
  dsimp only
  rw [d1,d2,ej,e1];simp only [cY,ah];by_cases h1:l.get j < Kx l j
  ·rw [au h1]
   exact ⟨fun h=>absurd h.1 (by omega),fun _=>⟨_,rfl,rfl⟩⟩
  ·by_cases h2:l.get j > 8192
   ·rw [bu h1,au h2]
    exact ⟨fun h=>absurd h.2 (by omega),fun _=>⟨_,rfl,rfl⟩⟩
   ·rw [bu h1,bu h2]
    exact ⟨fun _=>rfl,fun h=>absurd ⟨by omega,by omega⟩ h⟩) (by
  unfold b.ij
  dsimp only
  rw [bu (Int.lt_irrefl _)];rfl)
 have e0:goN b.ij (⟨l,false,(0:Int),l,((l.n:Nat):Int),(0:Int)⟩:b.lY)=goN b.ij ⟨l,false,Kx l 0,l,((l.n:Nat):Int),((0:Nat):Int)⟩:=rfl;rw [e0];rcases key with ⟨h1,h2⟩ | ⟨x',h1,h2,j,h3,h4⟩
 ·rw [h1]
  refine ⟨decide (((l.n:Nat):Int)<=16),rfl,?_⟩;rw [decide_eq_true_iff];exact ⟨fun h=>⟨h2,by omega⟩,fun h=>by have:=h.2; omega⟩
 ·rw [h1]
  exact ⟨x'.t2,rfl,⟨fun h=>by rw [h2] at h; simp at h,fun h=>absurd (h.1 j h3) h4⟩⟩
def JI {α:Type} (a c:Sl α):Prop:=a.n=c.n/\∀ i,i < a.n->a.get i=c.get i
theorem JI.refl {α:Type} (a:Sl α):JI a a:=⟨rfl,fun _ _=>rfl⟩
theorem IJ (a c:Sl Int) (hn:a.n < 1000000):∃ r,b.ku a c=some r/\(r=true↔JI a c):=by
 unfold b.ku b.nG;by_cases hq:a.n=c.n
 ·have bA:(((a.n:Nat):Int) != ((c.n:Nat):Int))=false:=by simp [hq]
  rw [bA,ay];have key:=mq (step:=b.dy) a.n (by unfold hX; omega) (fun j=>⟨a,c,false,((a.n:Nat):Int),(j:Int)⟩) (fun j=>a.get j=c.get j) (e0:=.exit 0) (er:=.ret) rfl rfl (fun x'=>x'.t4=false) (xe:=⟨a,c,false,((a.n:Nat):Int),((a.n:Nat):Int)⟩) (fun j hj=>by
   have e1:bR ((j:Int)+1)=((j+1:Nat):Int):=by rw [eX (by omega) (by omega)]; omega
   have d1:decide ((j:Int) < ((a.n:Nat):Int))=true:=au (by omega);have d2:decide ((0:Int)<=(j:Int))=true:=au (by omega);have d3:decide ((j:Int) < ((c.n:Nat):Int))=true:=au (by omega);have ej:Int.toNat (j:Int)=j:=rfl;unfold b.dy
   dsimp only
   rw [d1,d2,d3,ej,e1];simp only [cY,ah];by_cases h1:a.get j=c.get j
   ·have:(a.get j != c.get j)=false:=by simp [h1]
    rw [this];exact ⟨fun _=>rfl,fun h=>absurd h1 h⟩
   ·have:(a.get j != c.get j)=true:=by simp [h1]
    rw [this];exact ⟨fun h=>absurd h h1,fun _=>⟨_,rfl,rfl⟩⟩) (by
   unfold b.dy
   dsimp only
   rw [bu (Int.lt_irrefl _)];rfl)
  have e0:goN b.dy (⟨a,c,false,((a.n:Nat):Int),(0:Int)⟩:b.fk)=goN b.dy ⟨a,c,false,((a.n:Nat):Int),((0:Nat):Int)⟩:=rfl;rw [e0];rcases key with ⟨h1,h2⟩ | ⟨x',h1,h2,j,h3,h4⟩
  ·rw [h1]
   exact ⟨true,rfl,⟨fun _=>⟨hq,h2⟩,fun _=>rfl⟩⟩
  ·rw [h1]
   exact ⟨x'.t4,rfl,⟨fun h=>by rw [h2] at h; simp at h,fun h=>absurd (h.2 j h3) h4⟩⟩
 ·have bA:(((a.n:Nat):Int) != ((c.n:Nat):Int))=true:=by simp; omega
  rw [bA,ah];exact ⟨false,rfl,⟨fun h=>by simp at h,fun h=>absurd h.1 hq⟩⟩
theorem ahx (a c:Sl Int) (hn:a.n < 1000000):∃ r,b.pN a c=some r/\(r=true↔JI a c):=by
 unfold b.pN b.tw;by_cases hq:a.n=c.n
 ·have bA:(((a.n:Nat):Int) != ((c.n:Nat):Int))=false:=by simp [hq]
  rw [bA,ay];have key:=mq (step:=b.fq) a.n (by unfold hX; omega) (fun j=>⟨a,c,false,(j:Int)⟩) (fun j=>a.get j=c.get j) (e0:=.exit 0) (er:=.ret) rfl rfl (fun x'=>x'.t4=false) (xe:=⟨a,c,false,((a.n:Nat):Int)⟩) (fun j hj=>by
   have e1:bR ((j:Int)+1)=((j+1:Nat):Int):=by rw [eX (by omega) (by omega)]; omega
   have d1:decide ((j:Int) < ((a.n:Nat):Int))=true:=au (by omega);have d2:decide ((0:Int)<=(j:Int))=true:=au (by omega);have d3:decide ((j:Int) < ((c.n:Nat):Int))=true:=au (by omega);have ej:Int.toNat (j:Int)=j:=rfl;unfold b.fq
   dsimp only
   rw [d1,d2,d3,ej,e1];simp only [cY,ah];by_cases h1:a.get j=c.get j
   ·have:(a.get j != c.get j)=false:=by simp [h1]
    rw [this];exact ⟨fun _=>rfl,fun h=>absurd h1 h⟩
   ·have:(a.get j != c.get j)=true:=by simp [h1]
    rw [this];exact ⟨fun h=>absurd h h1,fun _=>⟨_,rfl,rfl⟩⟩) (by
   unfold b.fq
   dsimp only
   rw [bu (Int.lt_irrefl _)];rfl)
  have e0:goN b.fq (⟨a,c,false,(0:Int)⟩:b.jl)=goN b.fq ⟨a,c,false,((0:Nat):Int)⟩:=rfl;rw [e0];rcases key with ⟨h1,h2⟩ | ⟨x',h1,h2,j,h3,h4⟩
  ·rw [h1]
   exact ⟨true,rfl,⟨fun _=>⟨hq,h2⟩,fun _=>rfl⟩⟩
  ·rw [h1]
   exact ⟨x'.t4,rfl,⟨fun h=>by rw [h2] at h; simp at h,fun h=>absurd (h.2 j h3) h4⟩⟩
 ·have bA:(((a.n:Nat):Int) != ((c.n:Nat):Int))=true:=by simp; omega
  rw [bA,ah];exact ⟨false,rfl,⟨fun h=>by simp at h,fun h=>absurd h.1 hq⟩⟩
def Ro (a c:b.Node):Prop:=a.kind=c.kind/\a.nB=c.nB/\a.SX=c.SX/\a.lH=c.lH/\JI a.xJ c.xJ/\a.fB=c.fB/\a.cO=c.cO
theorem akV (a c:b.Ps):((a.m.e0.e0==c.m.e0.e0)&&((a.m.e0.e1==c.m.e0.e1)&&((a.m.e0.e2==c.m.e0.e2)&&((a.m.e1.e0==c.m.e1.e0)&&((a.m.e1.e1==c.m.e1.e1)&&((a.m.e1.e2==c.m.e1.e2)&&((a.m.e2.e0==c.m.e2.e0)&&((a.m.e2.e1==c.m.e2.e1)&&((a.m.e2.e2==c.m.e2.e2)&&((a.t.x==c.t.x)&&((a.t.y==c.t.y)&&((a.t.z==c.t.z)&&true))))))))))))=true↔a=c:=by
 obtain ⟨⟨⟨a0,a1,a2⟩,⟨a3,a4,a5⟩,⟨a6,a7,a8⟩⟩,⟨a9,a10,a11⟩⟩:=a;obtain ⟨⟨⟨c0,c1,c2⟩,⟨c3,c4,c5⟩,⟨c6,c7,c8⟩⟩,⟨c9,c10,c11⟩⟩:=c;simp [and_assoc]
theorem akW (a c:b.Cm):((a.x==c.x)&&((a.y==c.y)&&((a.z==c.z)&&true)))=true↔a=c:=by
 obtain ⟨a0,a1,a2⟩:=a;obtain ⟨c0,c1,c2⟩:=c;simp
theorem ahy (a c:b.kP):((a.dm.e0==c.dm.e0)&&((a.dm.e1==c.dm.e1)&&((a.dm.e2==c.dm.e2)&&((a.dm.e3==c.dm.e3)&&((a.dm.e4==c.dm.e4)&&((a.look.color.e0==c.look.color.e0)&&((a.look.color.e1==c.look.color.e1)&&((a.look.color.e2==c.look.color.e2)&&((a.look.color.e3==c.look.color.e3)&&((a.look.fS==c.look.fS)&&((a.look.su==c.look.su)&&((a.look.qR==c.look.qR)&&((a.look.oS==c.look.oS)&&((a.look.bin==c.look.bin)&&true))))))))))))))=true↔a=c:=by
 obtain ⟨⟨a0,a1,a2,a3,a4⟩,⟨⟨a5,a6,a7,a8⟩,a9,a10,a11,a12,a13⟩⟩:=a;obtain ⟨⟨c0,c1,c2,c3,c4⟩,⟨⟨c5,c6,c7,c8⟩,c9,c10,c11,c12,c13⟩⟩:=c;simp [and_assoc]
theorem Rp {p:Prop} {c:Bool} {x:Option Bool} {Q:Prop} (hc:c=true↔p) (h1 : ¬ p->¬ Q) (h2:p->∃ r,x=some r/\(r=true↔Q)):∃ r,cond c x (some false)=some r/\(r=true↔Q):=by
 cases c with
 | false=>exact ⟨false,rfl,⟨fun k=>by simp at k,fun k=>absurd k (h1 fun q=>by have:=hc.2 q; simp at this)⟩⟩
 | true=>exact h2 (hc.1 rfl)
theorem Wk (a c:b.Node) (hn:a.xJ.n < 1000000):∃ r,b.qA a c=some r/\(r=true↔Ro a c):=by
 unfold b.qA b.CB;obtain ⟨r,q1,q2⟩:=IJ a.xJ c.xJ hn;rw [q1,nm,iD,ah];refine Rp rB (fun h k=>h k.1) fun g1=>?_;refine Rp (akV _ _) (fun h k=>h k.2.1) fun g2=>?_;refine Rp rB (fun h k=>h k.2.2.1) fun g3=>?_;refine Rp (akW _ _) (fun h k=>h k.2.2.2.1) fun g4=>?_;refine Rp q2 (fun h k=>h k.2.2.2.2.1) fun g5=>?_;refine Rp rB (fun h k=>h k.2.2.2.2.2.1) fun g6=>?_;exact ⟨_,rfl,(ahy _ _).trans ⟨fun h=>⟨g1,g2,g3,g4,g5,g6,h⟩,fun h=>h.2.2.2.2.2.2⟩⟩
def Ym:b.Ps:=⟨⟨⟨0,0,0⟩,⟨0,0,0⟩,⟨0,0,0⟩⟩,⟨0,0,0⟩⟩
def Yn:b.Cm:=⟨0,0,0⟩
def agf:Sl Int:=⟨0,fun _=>0⟩
def aan (s:b.aD) (n:b.Node):Prop:=(1<=n.kind/\n.kind<=5)/\PR n.cO/\(n.cO.dm.e1=0\/n.cO.look.fS < (s.iV.n:Int))/\(n.kind=2->Wg n.nB)/\(n.kind≠2->n.nB=Ym)/\(n.kind≠3->n.SX=0)/\(n.kind=4->xE n.lH 4096/\aen n.xJ)/\(n.kind≠4->n.lH=Yn/\n.xJ.n=0)/\(n.kind=5->0<=n.fB/\n.fB < (s.fJ.n:Int))/\(n.kind≠5->n.fB=0)
theorem acJ {c:Bool} {p:Prop} (h:c=true↔p):(!c)=true↔¬ p:=by
 cases c <;> simp at h ⊢ <;> exact h
theorem alS {c d:Bool} {p q:Prop} (h:c=true↔p) (k:d=true↔q):(c&&d)=true↔p/\q:=by
 rw [aj,h,k]
theorem orI {c d:Bool} {p q:Prop} (h:c=true↔p) (k:d=true↔q):(c||d)=true↔p\/q:=by
 rw [oa,h,k]
theorem PS {p:Prop} [Decidable p] : decide p=true↔p:=decide_eq_true_iff
theorem SE {x y:Int} : (x==y)=true↔x=y:=rB
theorem neI {x y:Int} : (x != y)=true↔x≠y:=bne_iff_ne
def Wl (n:b.Node):Prop:=(1<=n.kind/\n.kind<=5)/\(n.kind=2->Wg n.nB)/\(n.kind=4->xE n.lH 4096/\aen n.xJ)
open Classical in
theorem acK (n:b.Node) (hn:n.xJ.n < 1000000):∃ ok,b.rh n=some (⟨n.kind,if n.kind=2 then n.nB else Ym,if n.kind=3 then n.SX else 0,if n.kind=4 then n.lH else Yn,if n.kind=4 then n.xJ else agf,if n.kind=5 then n.fB else 0,n.cO⟩,ok)/\(ok=true↔Wl n):=by
 unfold b.rh b.Ag b.Ah b.Ai;obtain ⟨e1,q1,i1⟩:=Wh n.nB;have q2:=Sz n.lH;obtain ⟨r3,q3,i3⟩:=ahw n.xJ hn;simp only [q1,q2,q3,nm,iD,ah];obtain ⟨k,m,o,c,f,x,st⟩:=n
 dsimp only at *
 unfold Wl
 dsimp only
 by_cases h1:k=1
 ·subst h1
  exact ⟨true,rfl,by simp⟩
 have g1:(k==(1:Int))=false:=by rw [<- Bool.not_eq_true,SE]; exact h1
 rw [g1,ay];by_cases h2:k=2
 ·subst h2
  refine ⟨_,rfl,?_⟩;rw [SE];rcases i1 with ⟨a,c⟩ | ⟨a,c⟩ <;> simp [a,c]
 have g2:(k==(2:Int))=false:=by rw [<- Bool.not_eq_true,SE]; exact h2
 rw [g2,ay];by_cases h3:k=3
 ·subst h3
  exact ⟨true,rfl,by simp⟩
 have g3:(k==(3:Int))=false:=by rw [<- Bool.not_eq_true,SE]; exact h3
 rw [g3,ay];by_cases h4:k=4
 ·subst h4
  by_cases hv:xE c 4096
  ·rw [ax hv]
   exact ⟨r3,rfl,i3.trans (by simp [hv])⟩
  ·rw [ae hv]
   exact ⟨false,rfl,by simp [hv]⟩
 have g4:(k==(4:Int))=false:=by rw [<- Bool.not_eq_true,SE]; exact h4
 rw [g4,ay];by_cases h5:k=5
 ·subst h5
  exact ⟨true,rfl,by simp⟩
 have g5:(k==(5:Int))=false:=by rw [<- Bool.not_eq_true,SE]; exact h5
 rw [g5,ay,ae h2,ae h3,ae h4,ae h4,ae h5];exact ⟨false,rfl,by simp; omega⟩
theorem El {p:Prop} {c:Bool} {x:Option Int} {Q:Prop} (hc:c=true↔p) (h1:p->¬ Q) (h2 : ¬ p->∃ e,x=some e/\(e=0/\Q\/e=8/\¬ Q)):∃ e,cond c (some 8) x=some e/\(e=0/\Q\/e=8/\¬ Q):=by
 cases c with
 | true=>exact ⟨8,rfl,.inr ⟨rfl,h1 (hc.1 rfl)⟩⟩
 | false=>exact h2 fun q=>by have:=hc.2 q; simp at this
theorem aeo (s:b.aD) (n:b.Node) (hs:Tt n.cO) (hn:n.xJ.n < 1000000):∃ e,b.mo s n=some e/\(e=0/\aan s n\/e=8/\¬ aan s n):=by
 unfold b.mo b.oA b.tM b.o5 b.tN;obtain ⟨ok,q1,i1⟩:=acK n hn;simp only [q1,nm,iD,ah];obtain ⟨r2,q2,i2⟩:=Wk ⟨n.kind,if n.kind=2 then n.nB else Ym,if n.kind=3 then n.SX else 0,if n.kind=4 then n.lH else Yn,if n.kind=4 then n.xJ else agf,if n.kind=5 then n.fB else 0,n.cO⟩ n (by
  by_cases h:n.kind=4
  ·simp only [ax h]; exact hn
  ·simp only [ae h]; exact (by decide:(0:Nat) < 1000000))
 obtain ⟨e3,q3,i3⟩:=acI n.cO;simp only [q2,q3,nm,iD,ah,cc2,cc];have alT:0<=n.cO.dm.e1:=hs.2.1.1;have i2' : r2=true↔(n.kind≠2->n.nB=Ym)/\(n.kind≠3->n.SX=0)/\(n.kind≠4->n.lH=Yn/\n.xJ.n=0)/\(n.kind≠5->n.fB=0):=by
  rw [i2];unfold Ro
  dsimp only
  constructor
  ·rintro ⟨_,a2,a3,a4,a5,a6,_⟩
   refine ⟨fun h=>?_,fun h=>?_,fun h=>⟨?_,?_⟩,fun h=>?_⟩
   ·rw [ae h] at a2; exact a2.symm
   ·rw [ae h] at a3; exact a3.symm
   ·rw [ae h] at a4; exact a4.symm
   ·rw [ae h] at a5; exact a5.1.symm
   ·rw [ae h] at a6; exact a6.symm
  ·rintro ⟨a1,a2,a3,a4⟩
   refine ⟨rfl,?_,?_,?_,?_,?_,rfl⟩
   ·by_cases h:n.kind=2
    ·rw [ax h]
    ·rw [ae h]; exact (a1 h).symm
   ·by_cases h:n.kind=3
    ·rw [ax h]
    ·rw [ae h]; exact (a2 h).symm
   ·by_cases h:n.kind=4
    ·rw [ax h]
    ·rw [ae h]; exact (a3 h).1.symm
   ·by_cases h:n.kind=4
    ·rw [ax h]; exact JI.refl _
    ·rw [ae h]; exact ⟨(a3 h).2.symm,fun i hi=>absurd hi (mM i)⟩
   ·by_cases h:n.kind=5
    ·rw [ax h]
    ·rw [ae h]; exact (a4 h).symm
 refine El (acJ i1) (fun h k=>h ⟨k.1,k.2.2.2.1,k.2.2.2.2.2.2.1⟩) fun k1=>?_;refine El (acJ i2') (fun h k=>h ⟨k.2.2.2.2.1,k.2.2.2.2.2.1,k.2.2.2.2.2.2.2.1,k.2.2.2.2.2.2.2.2.2⟩) fun k2=>?_;refine El neI (fun h k=>by
  rcases i3 with g | g
  ·exact h g.1
  ·exact g.2 k.2.1) fun k3=>?_
 have c1:Wl n:=Classical.byContradiction k1;have c2:=Classical.byContradiction k2;have c3:PR n.cO:=by
  rcases i3 with g | g
  ·exact g.2
  ·exact absurd (fun h=>by rw [g.1] at h; simp at h) k3
 refine El (alS SE (orI PS PS)) (fun h k=>by have:=k.2.2.2.2.2.2.2.2.1 h.1; omega) fun k4=>?_;refine El (alS neI PS) (fun h k=>by rcases k.2.2.1 with g | g <;> omega) fun k5=>?_;exact ⟨0,rfl,.inl ⟨rfl,c1.1,c3,by omega,c1.2.1,c2.1,c2.2.1,c1.2.2,c2.2.2.1,fun h=>by omega,c2.2.2.2⟩⟩
end Go.Proofs.YtckbdndhmcoihaaGreat.sc
end
section
namespace Go.Proofs.YtckbdndhmcoihaaGreat.nodes
open Go Go.K
def aao (s:b.Slot):Prop:=1<=s.gen/\s.gen<=1073741824
structure zF (a:b.lX):Prop where
 few:a.cu.n<=128
 alU:∀ i,i < a.cu.n->aao (a.cu.get i)
theorem JJ (a:b.lX):∃ n,b.dz a=some n/\(n=0/\zF a\/n=8/\¬ zF a):=by
 unfold b.dz;by_cases h:((a.cu.n:Nat):Int) > 128
 ·rw [au h,ah]
  exact ⟨8,rfl,.inr ⟨rfl,fun k=>by have:=k.few; omega⟩⟩
 ·rw [bu h,ay]
  obtain ⟨e,x',h1,h2⟩:∃ e x',b.pC a = .out e x'/\((e = .exit 0/\∀ i,i < a.cu.n->aao (a.cu.get i))\/(e = .ret/\0<=x'.t4/\¬ zF a)):=by
   unfold b.pC;refine lB (X:=b.bQ) (fun j x=>x.s=a.cu/\x.t7=(a.cu.n:Int)/\x.t8=(j:Int)/\∀ i,i < j->aao (a.cu.get i)) (fun e x'=>(e = .exit 0/\∀ i,i < a.cu.n->aao (a.cu.get i))\/(e = .ret/\0<=x'.t4/\¬ zF a)) a.cu.n (by unfold hX; omega) ?_ ⟨rfl,rfl,rfl,fun i hi=>absurd hi (mM _)⟩;rintro j ⟨s,t4,t7,t8⟩ hj ⟨rfl,rfl,rfl,bL⟩;unfold b.db
   dsimp only
   by_cases aI:(j:Int) < (a.cu.n:Int)
   ·have h0:(0:Int)<=(j:Int):=by omega
    rw [au aI,au h0,ah,yI,ah];have ej:Int.toNat (j:Int)=j:=rfl;rw [ej];by_cases g1:(a.cu.get j).gen < 1
    ·rw [au g1,ah]
     exact .inr ⟨_,_,rfl,rfl,.inr ⟨rfl,h0,fun k=>by have:=(k.alU j (by omega)).1; omega⟩⟩
    ·rw [bu g1,ay]
     by_cases g2:(a.cu.get j).gen > 1073741824
     ·rw [au g2,ah]
      exact .inr ⟨_,_,rfl,rfl,.inr ⟨rfl,h0,fun k=>by have:=(k.alU j (by omega)).2; omega⟩⟩
     ·rw [bu g2,ay]
      refine .inl ⟨_,rfl,by omega,rfl,rfl,?_,fun i hi=>?_⟩
      ·show bR ((j:Int)+1)=_
       rw [eX (by omega) (by omega)];omega
      ·by_cases e:i=j
       ·subst e; exact ⟨by omega,by omega⟩
       ·exact bL i (by omega)
   ·rw [bu aI,ay]
    exact .inr ⟨_,_,rfl,rfl,.inl ⟨rfl,fun i hi=>bL i (by omega)⟩⟩
  rw [h1];rcases h2 with ⟨rfl,h2⟩ | ⟨rfl,h2,h3⟩
  ·exact ⟨0,rfl,.inl ⟨rfl,by omega,h2⟩⟩
  ·refine ⟨8,?_,.inr ⟨rfl,h3⟩⟩
   show cond false _ (cond true (cond (decide (x'.t4 >= 0)) _ _) _)=_;rw [au (show x'.t4 >= 0 from h2)];rfl
def iC (a:b.lX) (h:b.Handle):Prop:=0<=h.slot/\h.slot < (a.cu.n:Int)/\(a.cu.get h.slot.toNat).gen=h.gen/\(a.cu.get h.slot.toNat).live=true
theorem aep (a:b.lX) (h:b.Handle):∃ r,b.jX a h=some r/\(r=true↔iC a h):=by
 unfold b.jX iC;by_cases h1:h.slot >= 0
 ·by_cases h2:h.slot < (a.cu.n:Int)
  ·rw [au h1,au h2,ah,ah]
   refine ⟨_,rfl,?_⟩;simp only [aj,rB,yI];exact ⟨fun k=>⟨h1,h2,k.1,k.2⟩,fun k=>⟨k.2.2.1,k.2.2.2⟩⟩
  ·rw [au h1,bu h2,ah,ay]
   exact ⟨false,rfl,⟨fun k=>by simp at k,fun k=>absurd k.2.1 h2⟩⟩
 ·rw [bu h1,ay]
  exact ⟨false,rfl,⟨fun k=>by simp at k,fun k=>absurd k.1 h1⟩⟩
theorem SA (a:b.lX) (h:b.Handle):∃ r,b.de a h=some r/\(r=true↔zF a/\iC a h):=by
 obtain ⟨n,hn,hs⟩:=JJ a;obtain ⟨r,hr,hh⟩:=aep a h;unfold b.de b.pD b.pE;rw [hn,hr];rcases hs with ⟨rfl,ha⟩ | ⟨rfl,ha⟩
 ·exact ⟨r,rfl,hh.trans ⟨fun k=>⟨ha,k⟩,fun k=>k.2⟩⟩
 ·exact ⟨false,rfl,⟨fun k=>by simp at k,fun k=>absurd k.1 ha⟩⟩
def acL (g:b.gz) (i:Nat):Prop:=(g.kids.get i).n<=16/\(0 < (g.kids.get i).n->(g.bZ.cu.get i).live=true)/\∀ k,k < (g.kids.get i).n->iC g.bZ ((g.kids.get i).get k)
theorem agh {g:b.gz} (ha:zF g.bZ) (i:Nat):lL g i↔acL g i:=by
 have key:∀ h,b.de g.bZ h=some true↔iC g.bZ h:=fun h=>by
  obtain ⟨r,hr,hh⟩:=SA g.bZ h;rw [hr,aR,hh];exact ⟨fun k=>k.2,fun k=>⟨ha,k⟩⟩
 exact ⟨fun h=>⟨h.1,h.2.1,fun k hk=>(key _).1 (h.2.2 k hk)⟩,fun h=>⟨h.1,h.2.1,fun k hk=>(key _).2 (h.2.2 k hk)⟩⟩
theorem FG (g:b.gz):mK g↔zF g.bZ/\g.kids.n=g.bZ.cu.n/\(∀ i,i < g.kids.n->acL g i)/\∀ i,i < g.kids.n->Aw g i:=by
 obtain ⟨n,hn,hs⟩:=JJ g.bZ;constructor
 ·intro h
  rcases hs with ⟨rfl,ha⟩ | ⟨rfl,ha⟩
  ·exact ⟨ha,h.len,fun i hi=>(agh ha i).1 (h.row i hi),h.free⟩
  ·have:=h.cu
   rw [hn] at this;simp at this
 ·rintro ⟨ha,hl,hr,hf⟩
  rcases hs with ⟨rfl,_⟩ | ⟨rfl,hb⟩
  ·exact ⟨hn,hl,fun i hi=>(agh ha i).2 (hr i hi),hf⟩
  ·exact absurd ha hb
end Go.Proofs.YtckbdndhmcoihaaGreat.nodes
end
section
namespace Go.Proofs.YtckbdndhmcoihaaGreat.nodes
open Go Go.K Go.tT
def dg (g:b.gz) (i:Nat):Nat:=(g.kids.get i).n
def ch (g:b.gz) (i k:Nat):Nat:=((g.kids.get i).get k).slot.toNat
structure Fit (g:b.gz):Prop where
 small:g.kids.n < 1000000
 few:∀ i,i < g.kids.n->dg g i < 1000000
 inr:∀ i,i < g.kids.n->∀ k,k < dg g i->0<=((g.kids.get i).get k).slot/\((g.kids.get i).get k).slot < (g.kids.n:Int)
theorem ahz {g:b.gz} {i:Nat} {x:Int×Int} (h:Reach (qOf g) ((i:Int),(g.bZ.cu.get i).gen) x):tT.Below (dg g) (ch g) i x.1.toNat:=by
 induction h with
 | here=>exact .here
 | cR h k hk _ ih=>exact .cR h.1.toNat k hk ih
theorem ahA {g:b.gz} (hr:∀ i,i < g.kids.n->acL g i) (hlen:g.kids.n=g.bZ.cu.n) {i j:Nat} (h:tT.Below (dg g) (ch g) i j):∀ x:b.Handle,x.slot.toNat=j->iC g.bZ x->Reach (qOf g) ((i:Int),(g.bZ.cu.get i).gen) (hp x):=by
 induction h with
 | here=>
  rintro ⟨s,gn⟩ e ⟨h1,h2,h3,_⟩;have h1:0<=s:=h1;have e:s.toNat=i:=e;have h3:(g.bZ.cu.get s.toNat).gen=gn:=h3;have:hp ⟨s,gn⟩=((i:Int),(g.bZ.cu.get i).gen):=by
   show (s,gn)=_;rw [<- h3,e];congr 1;omega
  rw [this];exact .here
 | cR j k hk _ ih=>
  rintro x e ⟨h1,h2,_,_⟩;subst e;have hj:x.slot.toNat < g.kids.n:=by omega
  exact .cR (q:=qOf g) (hp x) k hk (ih ((g.kids.get x.slot.toNat).get k) rfl ((hr _ hj).2.2 k hk))
theorem ahB {g:b.gz} (hr:∀ i,i < g.kids.n->acL g i) (hlen:g.kids.n=g.bZ.cu.n):(∀ i,i < g.kids.n->nodes.Aw g i)↔tT.Aw g.kids.n (dg g) (ch g):=
 ⟨fun h i hi k hk hb=>h i hi k hk (ahA hr hlen hb _ rfl ((hr i hi).2.2 k hk)),fun h i hi k hk hb=>h i hi k hk (ahz hb)⟩
theorem akX {g:b.gz} (ha:zF g.bZ) (hlen:g.kids.n=g.bZ.cu.n) (hr:∀ i,i < g.kids.n->acL g i):Fit g:=by
 have:=ha.few;exact ⟨by omega,fun i hi=>by have:=(hr i hi).1; unfold dg; omega,fun i hi k hk=>by have:=(hr i hi).2.2 k hk; exact ⟨this.1,by rw [hlen]; exact this.2.1⟩⟩
open Classical in
theorem acM (g:b.gz):zw g=some (if mK g then 0 else 8):=by
 obtain ⟨n,hn,_⟩:=JJ g.bZ;unfold zw;rw [hn];rfl
end Go.Proofs.YtckbdndhmcoihaaGreat.nodes
end
section
namespace Go.Proofs.YtckbdndhmcoihaaGreat.sc
open Go Go.K Go.Proofs.YtckbdndhmcoihaaGreat.nodes
theorem Xk (m:b.kD):JH m=0↔G8 m:=by
 unfold JH;by_cases h:aak m
 ·rw [ax h]
  by_cases k:G8 m
  ·rw [ax k]; exact ⟨fun _=>k,fun _=>rfl⟩
  ·rw [ae k]; exact ⟨fun q=>by simp at q,fun q=>absurd q k⟩
 ·rw [ae h]; exact ⟨fun q=>by simp at q,fun q=>absurd q.1 h⟩
def aeq:b.Node:=⟨0,Ym,0,Yn,agf,0,⟨⟨0,0,0,0,0⟩,⟨⟨0,0,0,0⟩,0,0,0,false,0⟩⟩⟩
def sH:b.Handle:=⟨0,0⟩
def PT (s:b.aD) (i:Nat):Prop:=((s.graph.bZ.cu.get i).live=true->aan s (s.nodes.get i))/\((s.graph.bZ.cu.get i).live=false->Ro (s.nodes.get i) aeq)/\((s.nodes.get i).kind=5->(s.graph.kids.get i).n=0)
def ahC (s:b.aD):Prop:=s.fJ.n<=32/\s.iV.n<=16/\(∀ i,i < s.fJ.n->G8 (s.fJ.get i))/\∀ i,i < s.iV.n->Nv (s.iV.get i)
def jQ (s:b.aD):Prop:=mK s.graph/\s.nodes.n=s.graph.kids.n/\ahC s/\(∀ i,i < s.nodes.n->PT s i)/\(s.root=sH\/iC s.graph.bZ s.root)
def FH (s:b.aD):Prop:=(∀ i,i < s.nodes.n->Tt (s.nodes.get i).cO/\(s.nodes.get i).xJ.n < 1000000)/\(∀ i,i < s.fJ.n->JG (s.fJ.get i))/\s.graph.bZ.cu.n < 1000000/\s.nodes.n < 1000000/\s.fJ.n < 1000000/\s.iV.n < 1000000
theorem aap (s:Sl b.kD) (hs:s.n<=1000) (hk:∀ i,i < s.n->JG (s.get i)):(∃ x',goN b.bp (⟨s,(0:Int),((s.n:Nat):Int),(0:Int)⟩:b.bf) = .out (.exit 0) x'/\∀ i,i < s.n->G8 (s.get i))\/
  ∃ x',goN b.bp (⟨s,(0:Int),((s.n:Nat):Int),(0:Int)⟩:b.bf) = .out .ret x'/\x'.t4 >= 0/\∃ i,i < s.n/\¬ G8 (s.get i):=by
 have key:=mq (step:=b.bp) s.n (by unfold hX; omega) (fun j=>⟨s,(0:Int),((s.n:Nat):Int),(j:Int)⟩) (fun k=>G8 (s.get k)) (e0:=.exit 0) (er:=.ret) rfl rfl (fun x'=>x'.t4 >= 0) (xe:=⟨s,(0:Int),((s.n:Nat):Int),((s.n:Nat):Int)⟩) (fun j hj=>by
  have e1:bR ((j:Int)+1)=((j+1:Nat):Int):=by rw [eX (by omega) (by omega)]; omega
  have d1:decide ((j:Int) < ((s.n:Nat):Int))=true:=au (by omega);have d2:decide ((0:Int)<=(j:Int))=true:=au (by omega);have ej:Int.toNat (j:Int)=j:=rfl;unfold b.bp b.gD
  dsimp only
  have Ch:(j:Int) >= 0:=by omega
  rw [d1,d2,ej,e1,aej _ (hk j hj)];simp only [cY,ah,nm,iD];rw [<- Xk];by_cases h:JH (s.get j)=0
  ·rw [bne_eq_false_iff_eq.2 h]
   exact ⟨fun _=>rfl,fun k=>absurd h k⟩
  ·rw [bne_iff_ne.2 h]
   exact ⟨fun k=>absurd k h,fun _=>⟨_,rfl,Ch⟩⟩) (by
  unfold b.bp
  dsimp only
  rw [bu (Int.lt_irrefl _)];rfl)
 rcases key with ⟨h1,h2⟩ | ⟨x',h1,h2,h3⟩
 ·exact .inl ⟨_,h1,h2⟩
 ·exact .inr ⟨x',h1,h2,h3⟩
theorem aer (s:Sl b.kf) (hs:s.n<=1000):(∃ x',goN b.bq (⟨s,(0:Int),((s.n:Nat):Int),(0:Int)⟩:b.bh) = .out (.exit 0) x'/\∀ i,i < s.n->Nv (s.get i))\/
  ∃ x',goN b.bq (⟨s,(0:Int),((s.n:Nat):Int),(0:Int)⟩:b.bh) = .out .ret x'/\x'.t4 >= 0/\∃ i,i < s.n/\¬ Nv (s.get i):=by
 have key:=mq (step:=b.bq) s.n (by unfold hX; omega) (fun j=>⟨s,(0:Int),((s.n:Nat):Int),(j:Int)⟩) (fun k=>Nv (s.get k)) (e0:=.exit 0) (er:=.ret) rfl rfl (fun x'=>x'.t4 >= 0) (xe:=⟨s,(0:Int),((s.n:Nat):Int),((s.n:Nat):Int)⟩) (fun j hj=>by
  have e1:bR ((j:Int)+1)=((j+1:Nat):Int):=by rw [eX (by omega) (by omega)]; omega
  have d1:decide ((j:Int) < ((s.n:Nat):Int))=true:=au (by omega);have d2:decide ((0:Int)<=(j:Int))=true:=au (by omega);have ej:Int.toNat (j:Int)=j:=rfl;unfold b.bq b.gE
  dsimp only
  have Ch:(j:Int) >= 0:=by omega
  obtain ⟨e,q1,q2⟩:=aht (s.get j);rw [d1,d2,ej,e1,q1];simp only [cY,ah,nm,iD];rcases q2 with ⟨h,k⟩ | ⟨h,k⟩
  ·rw [h]
   exact ⟨fun _=>rfl,fun g=>absurd k g⟩
  ·rw [h]
   exact ⟨fun g=>absurd g k,fun _=>⟨_,rfl,Ch⟩⟩) (by
  unfold b.bq
  dsimp only
  rw [bu (Int.lt_irrefl _)];rfl)
 rcases key with ⟨h1,h2⟩ | ⟨x',h1,h2,h3⟩
 ·exact .inl ⟨_,h1,h2⟩
 ·exact .inr ⟨x',h1,h2,h3⟩
theorem acN (s:b.aD) (mr:FH s) (hlen:s.nodes.n=s.graph.kids.n) (hg:s.graph.kids.n=s.graph.bZ.cu.n):(goN b.fp (⟨0,s.nodes,((s.nodes.n:Nat):Int),(0:Int),s⟩:b.dZ) = .out (.exit 0) ⟨0,s.nodes,((s.nodes.n:Nat):Int),((s.nodes.n:Nat):Int),s⟩/\∀ i,i < s.nodes.n->PT s i)\/
  ∃ x',goN b.fp (⟨0,s.nodes,((s.nodes.n:Nat):Int),(0:Int),s⟩:b.dZ) = .out .ret x'/\x'.t2=8/\∃ i,i < s.nodes.n/\¬ PT s i:=by
 have hn:=mr.2.2.2.1;exact mq (step:=b.fp) s.nodes.n (by unfold hX; omega) (fun j=>⟨0,s.nodes,((s.nodes.n:Nat):Int),(j:Int),s⟩) (fun k=>PT s k) (e0:=.exit 0) (er:=.ret) rfl rfl (fun x'=>x'.t2=8) (xe:=⟨0,s.nodes,((s.nodes.n:Nat):Int),((s.nodes.n:Nat):Int),s⟩) (fun j hj=>by
  have e1:bR ((j:Int)+1)=((j+1:Nat):Int):=by rw [eX (by omega) (by omega)]; omega
  have d1:decide ((j:Int) < ((s.nodes.n:Nat):Int))=true:=au (by omega);have d2:decide ((0:Int)<=(j:Int))=true:=au (by omega);have d3:decide ((j:Int) < ((s.graph.bZ.cu.n:Nat):Int))=true:=au (by omega);have d4:decide ((j:Int) < ((s.graph.kids.n:Nat):Int))=true:=au (by omega);have ej:Int.toNat (j:Int)=j:=rfl;obtain ⟨alT,C0⟩:=mr.1 j hj;unfold b.fp b.jP b.tP b.tQ
  dsimp only
  rw [ej];obtain ⟨r,q1,q2⟩:=Wk (s.nodes.get j) aeq C0;obtain ⟨e,g1,g2⟩:=aeo s (s.nodes.get j) alT C0;unfold aeq Ym Yn agf at q1;rw [d1,d2,d3,d4,e1,q1,g1];unfold PT;cases hl:(s.graph.bZ.cu.get j).live with
  | false=>
   simp only [cY,ah,ay,nm,iD,Bool.not_false,Bool.not_true];cases r with
   | true=>
    have hz:=q2.1 rfl;have h0:(s.nodes.get j).kind=0:=hz.1;exact ⟨fun _=>rfl,fun k=>absurd ⟨fun h=>by simp at h,fun _=>hz,fun h=>by omega⟩ k⟩
   | false=>exact ⟨fun k=>by have:=q2.2 (k.2.1 trivial); simp at this,fun _=>⟨_,rfl,rfl⟩⟩
  | true=>
   simp only [cY,ah,ay,nm,iD,Bool.not_false,Bool.not_true];rcases g2 with ⟨g3,g4⟩ | ⟨g3,g4⟩
   ·rw [g3]
    have:((0:Int) != 0)=false:=rfl;rw [this,ay];by_cases h5:(s.nodes.get j).kind=5
    ·rw [rB.2 h5,ah]
     by_cases hk:(((s.graph.kids.get j).n:Nat):Int) > 0
     ·rw [au hk]
      exact ⟨fun k=>absurd (k.2.2 h5) (by omega),fun _=>⟨_,rfl,rfl⟩⟩
     ·rw [bu hk]
      exact ⟨fun _=>rfl,fun k=>absurd ⟨fun _=>g4,fun h=>by simp at h,fun _=>by omega⟩ k⟩
    ·have:((s.nodes.get j).kind==(5:Int))=false:=by rw [<- Bool.not_eq_true,SE]; exact h5
     rw [this,ay];exact ⟨fun _=>rfl,fun k=>absurd ⟨fun _=>g4,fun h=>by simp at h,fun h=>absurd h h5⟩ k⟩
   ·rw [g3]
    exact ⟨fun k=>absurd (k.1 trivial) g4,fun _=>⟨_,rfl,rfl⟩⟩) (by
  unfold b.fp b.jP
  dsimp only
  rw [bu (Int.lt_irrefl _)];rfl)
theorem ajR (h:b.Handle):((h.slot==(0:Int))&&((h.gen==(0:Int))&&true))=true↔h=sH:=by
 obtain ⟨x,y⟩:=h;unfold sH;simp
theorem aes {s:b.aD} (hg:mK s.graph) (h:b.Handle):b.de s.graph.bZ h=some (decide (b.de s.graph.bZ h=some true))/\(b.de s.graph.bZ h=some true↔iC s.graph.bZ h):=by
 obtain ⟨r,q1,q2⟩:=SA s.graph.bZ h;have ha:=((FG s.graph).1 hg).1;rw [q1];cases r with
 | true=>exact ⟨rfl,fun _=>(q2.1 rfl).2,fun _=>rfl⟩
 | false=>exact ⟨rfl,fun k=>by simp at k,fun k=>by have:=q2.2 ⟨ha,k⟩; simp at this⟩
open Classical in
theorem Nx (s:b.aD) (mr:FH s):∃ e,b.lI s=some e/\(e=0/\jQ s\/e=8/\¬ jQ s):=by
 unfold b.lI b.tt b.tr b.Aj b.Ak;have hq:b.Ck s.graph=some (if mK s.graph then 0 else 8):=acM s.graph;rw [hq];simp only [nm,iD,ah];by_cases hg:mK s.graph
 ·rw [ax hg]
  have hlen:=((FG s.graph).1 hg).2.1;refine El neI (fun h=>absurd rfl h) fun _=>?_;refine El neI (fun h k=>h (by rw [k.2.1])) fun k1=>?_;refine El PS (fun h k=>by have:=k.2.2.1.1; omega) fun k2=>?_;unfold b.uO;rcases aap s.fJ (by omega) mr.2.1 with ⟨x',q1,q2⟩ | ⟨x',q1,q2,i,q3,q4⟩
  ·rw [q1]
   simp only [ba.qI,ba.nH];have ex:vN (.exit 0) (.exit 0)=true:=rfl;rw [ex,ah];refine El PS (fun h k=>by have:=k.2.2.1.2.1; omega) fun k3=>?_;unfold b.uQ;rcases aer s.iV (by omega) with ⟨y',r1,r2⟩ | ⟨y',r1,r2,i,r3,r4⟩
   ·rw [r1]
    simp only [ba.qI,ba.nH];rw [ex,ah];unfold b.kN;rcases acN s mr (by omega) hlen with ⟨s1,s2⟩ | ⟨z',s1,s2,i,s3,s4⟩
    ·rw [s1]
     simp only [ba.qI,ba.nH];rw [ex,ah];obtain ⟨t1,t2⟩:=aes hg s.root;by_cases hr:s.root=sH
     ·rw [(acJ (ajR s.root) |> fun h=>by rw [<- Bool.not_eq_true,h]; exact fun k=>k hr:(!((s.root.slot==(0:Int))&&((s.root.gen==(0:Int))&&true)))=false)]
      exact ⟨0,rfl,.inl ⟨rfl,hg,by omega,⟨by omega,by omega,q2,r2⟩,s2,.inl hr⟩⟩
     ·rw [(acJ (ajR s.root)).2 hr]
      rw [t1];simp only [nm,iD,ah];refine El (acJ PS) (fun h k=>by
       rcases k.2.2.2.2 with g | g
       ·exact hr g
       ·exact h (t2.2 g)) fun k5=>?_
      exact ⟨0,rfl,.inl ⟨rfl,hg,by omega,⟨by omega,by omega,q2,r2⟩,s2,.inr (t2.1 (Classical.byContradiction k5))⟩⟩
    ·rw [s1]
     exact ⟨z'.t2,rfl,.inr ⟨s2,fun k=>s4 (k.2.2.2.1 i s3)⟩⟩
   ·rw [r1]
    simp only [ba.qI,ba.nH,r2,decide_true];exact ⟨8,rfl,.inr ⟨rfl,fun k=>r4 (k.2.2.1.2.2.2 i r3)⟩⟩
  ·rw [q1]
   simp only [ba.qI,ba.nH,q2,decide_true];exact ⟨8,rfl,.inr ⟨rfl,fun k=>q4 (k.2.2.1.2.2.1 i q3)⟩⟩
 ·rw [ae hg]
  exact ⟨8,rfl,.inr ⟨rfl,fun k=>hg k.1⟩⟩
end Go.Proofs.YtckbdndhmcoihaaGreat.sc
end
