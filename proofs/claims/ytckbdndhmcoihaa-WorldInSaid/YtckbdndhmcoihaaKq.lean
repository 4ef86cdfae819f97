/- Part of the proof of WorldIn: the machine, shown to be the model's, and plain models. No conditions. -/
import Derived.Test.YtckbdndhmcoihaaIq
import Derived.Test.YtckbdndhmcoihaaJq
import Derived.Test.YtckbdndhmcoihaaHq
import Derived.Test.YtckbdndhmcoihaaGq
import Derived.Below
import Derived.ChangeSame
import Derived.ProofKit
import Derived.WideKeyArgs
set_option linter.unusedSimpArgs false
set_option linter.unusedVariables false
section
namespace Go.Proofs.Ytckbdndhmcoihaa.b
open Go.K
noncomputable section
structure eZ where
 h:Handle
 ff:Int
instance:Inhabited eZ:=⟨⟨default,default⟩⟩
def afL (x:eZ):List KV:=[.int .i64 x.h.slot,.int .i64 x.h.gen,.int .i64 x.ff]
def mJ (x:eZ):KV:=.agg (afL x)
def afM (c:Nat->KV):eZ:=⟨⟨aq (c 0),aq (c 1)⟩,aq (c 2)⟩
def gS (v:KV):eZ:=afM fun k=>v.cells.getD k .bh
theorem wo (x:eZ):gS (mJ x)=x:=rfl
theorem acU:gS .bh=default:=rfl
theorem M5 (s t:Sl eZ):s.join t=aw gS (s.n+t.n) (ax s.n (fun i=>mJ (s.get i)) (fun i=>mJ (t.get i))):=(gW wo s t).symm
theorem O5 (l:List eZ):Sl.lit l=aw gS l.length (cY (l.map mJ)):=(jR wo acU l).symm
theorem O6 (s:Sl eZ) (i:Nat) (v:eZ):s.set i v=aw gS s.n (bR (fun j=>mJ (s.get j)) i (mJ v)):=(jS wo s i v).symm
theorem O7 (m n n' : Nat) (acc ay:Nat->KV):aw gS m (ax n (fun i=>mJ ((aw gS n' acc).get i)) ay)=aw gS m (ax n acc ay):=kh wo ..
theorem O8 (m n n' : Nat) (acc ay:Nat->KV):aw gS m (ax n acc (fun i=>mJ ((aw gS n' ay).get i)))=aw gS m (ax n acc ay):=ki wo ..
theorem ZT (m n' i:Nat) (acc:Nat->KV) (v:KV):aw gS m (bR (fun j=>mJ ((aw gS n' acc).get j)) i v)=aw gS m (bR acc i v):=kl wo ..
structure dS where
 l:(Sl eZ)
 t7:Int
 t8:Int
 t2:Path
 p:Path
instance:Inhabited dS:=⟨⟨default,default,default,default,default⟩⟩
def jC (x:dS):List KV:=[dq 98 mJ x.l,.int .i64 x.t7,.int .i64 x.t8]
def jD (x:dS):List (List KV):=[Uq x.t2,Uq x.p]
def uD (vs:List KV) (rs:List (List KV)):dS:=⟨dM gS (v9 vs 0),aq (v9 vs 1),aq (v9 vs 2),Ur (r9 rs 0),Ur (r9 rs 1)⟩
def u7:aJ:=⟨[(0,⟨false,[.arr 98]⟩),(7,w9 i9),(8,w9 i9)],[(2,[.aP 32,.aP 3],1),(3,[.aP 32,.aP 3],1)],[(2,0,0),(3,1,0),(6,1000000,0)]⟩
def Ei:=N6 PG (ra PG [(23,xZ),(22,BG)] [] (fun q=>Nat.beq q 98||Nat.beq q 3000098||Nat.beq q 4000098)) 9 9 24 58 (DE PG 24 58) u7
def cV (x:dS):aW dS:=(cond (decide (x.t8 < x.t7)) (cond ((decide (0<=x.t8))&&(decide (x.t8 < (x.l.n:Int)))) (cond ((ak x.p.nodes.n x.p.nodes.n)&&(dP 16 x.p.nodes.n 1)) (cond (decide (x.t8 > 0)) (cond ((decide (0<=(aK (x.t8 - 1))))&&(decide ((aK (x.t8 - 1)) < (x.l.n:Int)))) (cond ((ak x.p.kids.n x.p.kids.n)&&(dP 8 x.p.kids.n 1)) (cond (cond ((((((Nat.beq x.l.n x.l.n)&&true)&&true)&&true)&&true)&&true) (cond (cond (cond (cond (ak (x.p.kids.n+1) (x.p.kids.n+1)) (ak (x.p.nodes.n+1) (x.p.nodes.n+1)) false) (ak x.t2.kids.n x.t2.kids.n) false) (ak x.t2.nodes.n x.t2.nodes.n) false) (ak x.l.n x.l.n) false) false) (.next ⟨x.l,x.t7,(aK (x.t8+1)),x.t2,⟨(x.p.nodes.push (x.l.get (0+(Int.toNat x.t8))).h),(x.p.kids.push (aK ((x.l.get (0+(Int.toNat (aK (x.t8 - 1))))).ff - 1)))⟩⟩) .fail) .fail) .fail) (cond (cond ((((((Nat.beq x.l.n x.l.n)&&true)&&true)&&true)&&true)&&true) (cond (cond (cond (cond (ak x.p.kids.n x.p.kids.n) (ak (x.p.nodes.n+1) (x.p.nodes.n+1)) false) (ak x.t2.kids.n x.t2.kids.n) false) (ak x.t2.nodes.n x.t2.nodes.n) false) (ak x.l.n x.l.n) false) false) (.next ⟨x.l,x.t7,(aK (x.t8+1)),x.t2,⟨(x.p.nodes.push (x.l.get (0+(Int.toNat x.t8))).h),x.p.kids⟩⟩) .fail)) .fail) .fail) (cond (cond ((((((Nat.beq x.l.n x.l.n)&&true)&&true)&&true)&&true)&&true) (cond (cond (cond (cond (ak x.p.kids.n x.p.kids.n) (ak x.p.nodes.n x.p.nodes.n) false) (ak x.t2.kids.n x.t2.kids.n) false) (ak x.t2.nodes.n x.t2.nodes.n) false) (ak x.l.n x.l.n) false) false) (.out (aG.ah.exit 0) x) .fail))
theorem CI (x:dS):Ei (jC x) (jD x)=aW.enc jC jD (cV x):=by
 unfold cV
 try simp only [aW.cw,iA,rK]
 kernel_rfl
def nX:Lp:=⟨24,58,u7,fun vs rs=>dK jC jD (goN cV (uD vs rs)) [aG.ah.exit 0],true⟩
theorem uE:nX.Ok PG:=afs funcs mixed (ai.cons CH (ai.cons Av ai.nil)) bj.nil (L:=9) (n:=9) (step:=cV) (ev:=jC) (er:=jD) (pa:=uD) rfl (fun wv wr=>⟨by kernel_rfl,by kernel_rfl⟩) CI
structure cB where
 t2:(Sl Path)
 t3:Int
 out:(Sl Path)
 stack:(Sl eZ)
 s:aA
instance:Inhabited cB:=⟨⟨default,default,default,default,default⟩⟩
def uF (x:cB):List KV:=[dq 50 Cz x.t2,.int .i64 x.t3,dq 50 Cz x.out,dq 98 mJ x.stack]
def uG (x:cB):List (List KV):=[w4 x.s]
def Gs (vs:List KV) (rs:List (List KV)):cB:=⟨dM CA (v9 vs 0),aq (v9 vs 1),dM CA (v9 vs 2),dM gS (v9 vs 3),w5 (r9 rs 0)⟩
def HC:aJ:=⟨[(2,w9 (n9 50)),(3,w9 i9),(7,⟨false,[.aP 50]⟩),(8,⟨false,[.arr 98]⟩)],[(1,[n9 139,n9 47,n9 64,n9 79,n9 118,i9,i9],1)],[(1,0,0)]⟩
def QW:=afq PG (ra PG [(23,xZ),(22,BG)] [nX] (fun q=>Nat.beq q 98||Nat.beq q 3000098||Nat.beq q 4000098)) 9 9 9 3 HC
def jo (x:cB):=goN cV ⟨x.stack,(x.stack.n:Int),0,⟨⟨0,(fun i=>⟨0,0⟩)⟩,⟨0,(fun i=>0)⟩⟩,⟨⟨0,(fun i=>⟨0,0⟩)⟩,⟨0,(fun i=>0)⟩⟩⟩
def bS (x:cB):aW cB:=(cond ((decide (0<=(aK ((x.stack.n:Int) - 1))))&&(decide ((aK ((x.stack.n:Int) - 1)) < (x.stack.n:Int)))) (cond ((decide (0<=(x.stack.get (0+(Int.toNat (aK ((x.stack.n:Int) - 1))))).h.slot))&&(decide ((x.stack.get (0+(Int.toNat (aK ((x.stack.n:Int) - 1))))).h.slot < (x.s.graph.kids.n:Int)))) (cond (decide ((x.stack.get (0+(Int.toNat (aK ((x.stack.n:Int) - 1))))).ff < ((x.s.graph.kids.get (Int.toNat (x.stack.get (0+(Int.toNat (aK ((x.stack.n:Int) - 1))))).h.slot)).n:Int))) (cond ((decide (0<=(aK (((x.stack.set (0+(Int.toNat (aK ((x.stack.n:Int) - 1)))) ⟨(x.stack.get (0+(Int.toNat (aK ((x.stack.n:Int) - 1))))).h,(aK ((x.stack.get (0+(Int.toNat (aK ((x.stack.n:Int) - 1))))).ff+1))⟩).get (0+(Int.toNat (aK ((x.stack.n:Int) - 1))))).ff - 1))))&&(decide ((aK (((x.stack.set (0+(Int.toNat (aK ((x.stack.n:Int) - 1)))) ⟨(x.stack.get (0+(Int.toNat (aK ((x.stack.n:Int) - 1))))).h,(aK ((x.stack.get (0+(Int.toNat (aK ((x.stack.n:Int) - 1))))).ff+1))⟩).get (0+(Int.toNat (aK ((x.stack.n:Int) - 1))))).ff - 1)) < ((x.s.graph.kids.get (Int.toNat (x.stack.get (0+(Int.toNat (aK ((x.stack.n:Int) - 1))))).h.slot)).n:Int)))) (cond ((Nat.ble ((x.stack.n+1) * 24) 140737488355328)&&(Nat.ble (x.stack.n+1) 17592186044416)) (cond (cond (ak (x.stack.n+1) (x.stack.n+1)) (ak x.out.n x.out.n) false) (.next ⟨x.t2,x.t3,x.out,((x.stack.set (0+(Int.toNat (aK ((x.stack.n:Int) - 1)))) ⟨(x.stack.get (0+(Int.toNat (aK ((x.stack.n:Int) - 1))))).h,(aK ((x.stack.get (0+(Int.toNat (aK ((x.stack.n:Int) - 1))))).ff+1))⟩).join (Sl.lit [⟨((x.s.graph.kids.get (Int.toNat (x.stack.get (0+(Int.toNat (aK ((x.stack.n:Int) - 1))))).h.slot)).get (Int.toNat (aK (((x.stack.set (0+(Int.toNat (aK ((x.stack.n:Int) - 1)))) ⟨(x.stack.get (0+(Int.toNat (aK ((x.stack.n:Int) - 1))))).h,(aK ((x.stack.get (0+(Int.toNat (aK ((x.stack.n:Int) - 1))))).ff+1))⟩).get (0+(Int.toNat (aK ((x.stack.n:Int) - 1))))).ff - 1)))),0⟩])),x.s⟩) .fail) .fail) .fail) (cond ((decide (0<=(x.stack.get (0+(Int.toNat (aK ((x.stack.n:Int) - 1))))).h.slot))&&(decide ((x.stack.get (0+(Int.toNat (aK ((x.stack.n:Int) - 1))))).h.slot < (x.s.nodes.n:Int)))) (cond ((x.s.nodes.get (Int.toNat (x.stack.get (0+(Int.toNat (aK ((x.stack.n:Int) - 1))))).h.slot)).kind==5) (cond (cond ((((((Nat.beq x.stack.n x.stack.n)&&true)&&true)&&true)&&true)&&true) (ak x.stack.n x.stack.n) false) (cond ((jo x).by (aG.ah.exit 0)) (cond ((ak x.out.n x.out.n)&&(dP 48 x.out.n 1)) (cond ((decide (0<=(aK ((x.stack.n:Int) - 1))))&&(decide ((aK ((x.stack.n:Int) - 1))<=(x.stack.n:Int)))) (cond (decide ((((Int.toNat (aK ((x.stack.n:Int) - 1))):Nat):Int) > 0)) (cond (cond (ak (Int.toNat (aK ((x.stack.n:Int) - 1))) (Int.toNat (aK ((x.stack.n:Int) - 1)))) (ak (x.out.n+1) (x.out.n+1)) false) (.next ⟨x.t2,x.t3,(x.out.push (jo x).st.p),⟨(Int.toNat (aK ((x.stack.n:Int) - 1))),(jo x).st.l.get⟩,x.s⟩) .fail) (cond (cond (ak (Int.toNat (aK ((x.stack.n:Int) - 1))) (Int.toNat (aK ((x.stack.n:Int) - 1)))) (ak (x.out.n+1) (x.out.n+1)) false) (.out aG.ah.ret ⟨(x.out.push (jo x).st.p),0,(x.out.push (jo x).st.p),⟨(Int.toNat (aK ((x.stack.n:Int) - 1))),(jo x).st.l.get⟩,x.s⟩) .fail)) .fail) .fail) .fail) .fail) (cond ((decide (0<=(aK ((x.stack.n:Int) - 1))))&&(decide ((aK ((x.stack.n:Int) - 1))<=(x.stack.n:Int)))) (cond (decide ((((Int.toNat (aK ((x.stack.n:Int) - 1))):Nat):Int) > 0)) (cond (cond (ak (Int.toNat (aK ((x.stack.n:Int) - 1))) (Int.toNat (aK ((x.stack.n:Int) - 1)))) (ak x.out.n x.out.n) false) (.next ⟨x.t2,x.t3,x.out,⟨(Int.toNat (aK ((x.stack.n:Int) - 1))),x.stack.get⟩,x.s⟩) .fail) (cond (cond (ak (Int.toNat (aK ((x.stack.n:Int) - 1))) (Int.toNat (aK ((x.stack.n:Int) - 1)))) (ak x.out.n x.out.n) false) (.out aG.ah.ret ⟨x.out,0,x.out,⟨(Int.toNat (aK ((x.stack.n:Int) - 1))),x.stack.get⟩,x.s⟩) .fail)) .fail)) .fail)) .fail) .fail)
theorem OD (x:cB):QW (uF x) (uG x)=aW.enc uF uG (bS x):=by
 unfold bS
 try simp only [aW.cw,M5,O5,O7,O8,O6,Zw]
 kernel_rfl
def HD:Lp:=⟨9,3,HC,fun vs rs=>dK uF uG (goN bS (Gs vs rs)) [aG.ah.exit 999983,aG.ah.ret],false⟩
theorem QX:HD.OkG PG:=afr funcs mixed (ai.cons CH (ai.cons Av ai.nil)) (rM uE bj.nil) (L:=9) (n:=9) (step:=bS) (ev:=uF) (er:=uG) (pa:=Gs) rfl (fun wv wr=>⟨by kernel_rfl,by kernel_rfl⟩) OD
def Yp (g:aW cB):Option (Sl Path×Int):=
 cond (g.by (aG.ah.exit 999983)) (some (g.st.t2,g.st.t3)) (cond (g.by aG.ah.ret) (some (g.st.t2,g.st.t3)) none)
def wq:aW cB->Option (Sl Path×Int)
 | .next x=>Yp (goN bS x)
 | .out _ x=>some (x.t2,x.t3)
 | .fail=>none
theorem al0 (c:Bool) (a b:aW cB):wq (cond c a b)=cond c (wq a) (wq b):=by cases c <;> rfl
theorem aes (x:cB):wq (.next x)=cond ((goN bS x).by (aG.ah.exit 999983)) (some ((goN bS x).st.t2,(goN bS x).st.t3)) (cond ((goN bS x).by aG.ah.ret) (some ((goN bS x).st.t2,(goN bS x).st.t3)) none):=rfl
def qJ (s:aA):cB:=⟨⟨0,fun _=>⟨⟨0,fun _=>⟨0,0⟩⟩,⟨0,fun _=>0⟩⟩⟩,0,⟨0,fun _=>⟨⟨0,fun _=>⟨0,0⟩⟩,⟨0,fun _=>0⟩⟩⟩,Sl.lit [⟨s.root,0⟩],s⟩
def gm (s:aA):Option (Sl Path×Int):=
 (cond (oT s).isSome
  (cond (((oT s).getD default) != 0)
  (some ((qJ s).t2,((oT s).getD default)))
  (cond ((s.root.slot==0)&&((s.root.gen==0)&&true))
   (some ((qJ s).t2,0))
   (cond (ef s).isSome
   (cond ((decide (0<=s.root.slot))&&(decide (s.root.slot < (((ef s).getD default).fst.n:Int))))
    (cond (decide ((((ef s).getD default).fst.get (Int.toNat s.root.slot)) > 16))
    (some ((qJ s).t2,120))
    (cond ((decide (0<=s.root.slot))&&(decide (s.root.slot < (((ef s).getD default).snd.n:Int))))
     (cond (decide ((((ef s).getD default).snd.get (Int.toNat s.root.slot)) > 256))
     (some ((qJ s).t2,120))
     (wq (bS (qJ s))))
     none))
    none)
   none)))
  none)
theorem Yq (s:aA):EN PG (ra PG [(23,xZ),(22,BG)] [nX,HD] (fun q=>Nat.beq q 98||Nat.beq q 3000098||Nat.beq q 4000098)) 9 9 9 [iY s] = (gm s).map (fun (r:Sl Path×Int)=>KV.kL [dq 50 Cz r.1,(kI .i64) r.2]):=by
 unfold gm bS qJ;simp only [al0,aes,bG,M5,O5,O7,O8,ZT,O6,Zw]
 kernel_rfl
def wu:List KV->KR KV:=bC PG 9 (bO (fun (r:Sl Path×Int)=>KV.kL [dq 50 Cz r.1,(kI .i64) r.2]) fun vs=>gm (dC (v9 vs 0)))
theorem uH:bB PG 9 wu:=dE (ai.cons CH (ai.cons Av ai.nil)) (rM uE (bj.apM QX bj.nil)) fun w=>Yq (dC (g0 34 (w 0)))
end
end Go.Proofs.Ytckbdndhmcoihaa.b
end
section
namespace Go.Proofs.Ytckbdndhmcoihaa.sc
open Go Go.K Go.aG Go.A6 Go.Proofs.Ytckbdndhmcoihaa.nodes
def mj (s:b.aA) (h:b.Handle):Nat:=(s.graph.kids.get h.slot.toNat).n
def gp (s:b.aA) (h:b.Handle) (k:Nat):b.Handle:=(s.graph.kids.get h.slot.toNat).get k
def jI (s:b.aA) (h:b.Handle):Bool:=(s.nodes.get h.slot.toNat).kind==5
def r5 (s:b.aA) (g:Nat->b.eZ):List (b.Handle×Nat)->Prop
 | []=>True
 | (h,n)::r=>g r.length=⟨h,(n:Int)⟩/\n<=mj s h/\mf s.graph.cA h/\C7 (mj s) (gp s) (16 - r.length) h/\r5 s g r
theorem r5.congr {s:b.aA} {g g' : Nat->b.eZ} : ∀ {st:List (b.Handle×Nat)},(∀ i,i < st.length->g' i=g i)->r5 s g st->r5 s g' st
 | [],_,_=>trivial
 | (h,n)::r,hq,hi=>⟨(hq r.length (by simp)).trans hi.1,hi.2.1,hi.2.2.1,hi.2.2.2.1,hi.2.2.2.2.congr fun i hl=>hq i (by simp only [qT]; omega)⟩
theorem r5.at {s:b.aA} {g:Nat->b.eZ} : ∀ {st:List (b.Handle×Nat)},r5 s g st->∀ i,i < st.length->∃ (h:b.Handle) (n:Nat),g i=⟨h,(n:Int)⟩/\n<=mj s h/\mf s.graph.cA h
 | [],_,i,hl=>absurd hl (ph _)
 | (h,n)::r,hi,i,hl=>by
  by_cases e:i=r.length
  ·subst e
   exact ⟨h,n,hi.1,hi.2.1,hi.2.2.1⟩
  ·exact hi.2.2.2.2.at i (by simp only [qT] at hl; omega)
theorem r5.len {s:b.aA} {g:Nat->b.eZ} : ∀ {st:List (b.Handle×Nat)},r5 s g st->st.length<=16
 | [],_=>r6 _
 | (h,n)::r,hi=>by
  have hl:=hi.2.2.2.1;by_cases e:r.length < 16
  ·simp only [qT]; omega
  ·rw [show 16 - r.length=0 by omega] at hl
   exact hl.elim
theorem acV {s:b.aA} (hs:om s) {h:b.Handle} (hh:mf s.graph.cA h):mj s h<=16:=by
 have:=(Gk hs hh)
 exact (ah1 hs).Yd h.slot.toNat (by omega)
def RO (p:b.Path) (g:Nat->b.eZ) (n:Nat):Prop:=p.nodes.n=n/\p.kids.n=n - 1/\(∀ i,i < n->p.nodes.get i=(g i).h)/\∀ i,i+1 < n->p.kids.get i=(g i).ff - 1
theorem ajC (stack:Sl b.eZ) (hn:stack.n<=16) (hb:∀ i,i < stack.n->0<=(stack.get i).ff/\(stack.get i).ff<=1000) :
  ∃ x',goN b.cV ⟨stack,(stack.n:Int),0,⟨⟨0,(fun i=>⟨0,0⟩)⟩,⟨0,(fun i=>0)⟩⟩,⟨⟨0,(fun i=>⟨0,0⟩)⟩,⟨0,(fun i=>0)⟩⟩⟩ = .out (.exit 0) x'/\x'.l=stack/\RO x'.p stack.get stack.n:=by
 obtain ⟨e,x',h1,h2,h3,h4⟩:=ja (step:=b.cV) (fun j x=>x.l=stack/\x.t7=(stack.n:Int)/\x.t8=(j:Int)/\RO x.p stack.get j) (fun e x=>e = .exit 0/\x.l=stack/\RO x.p stack.get stack.n) stack.n (by unfold gx; omega) (fun j x hj hI=>by
  obtain ⟨l,t7,t8,t2,p⟩:=x;obtain ⟨h1,h2,h3,h4⟩:=hI
  dsimp only at h1 h2 h3 h4
  subst h1 h2 h3;obtain ⟨q1,q2,q3,q4⟩:=h4;unfold b.cV
  dsimp only
  by_cases bm:j < l.n
  ·refine .inl ?_
   have d1:decide ((j:Int) < (l.n:Int))=true:=au (by omega);have d2:decide ((0:Int)<=(j:Int))=true:=au (by omega);have e1:aK ((j:Int)+1)=((j+1:Nat):Int):=by rw [cM (by omega) (by omega)]; omega
   have a1:dP 16 p.nodes.n 1=true:=qH;have a2:dP 8 p.kids.n 1=true:=qH;rw [d1,d2,a1,a2];simp only [cq,tT,cz,aj,C9,bd,e1];by_cases h0:0 < j
   ·have d3:decide ((j:Int) > 0)=true:=au (by omega)
    have e2:aK ((j:Int) - 1)=((j - 1:Nat):Int):=by rw [cM (by omega) (by omega)]; omega
    have d4:decide ((0:Int)<=((j - 1:Nat):Int))=true:=au (by omega);have d5:decide (((j - 1:Nat):Int) < (l.n:Int))=true:=au (by omega);rw [d3,e2,d4,d5];simp only [cz,aj,C9];refine ⟨_,rfl,bm,rfl,rfl,rfl,?_⟩;have hbj:=hb (j - 1) (by omega);refine ⟨by show p.nodes.n+1=_; omega,by show p.kids.n+1=_; omega,fun i hi=>?_,fun i hi=>?_⟩
    ·by_cases e:i=j
     ·subst e
      show (p.nodes.push _).get i=_;rw [<- q1];exact Sl.CZ
     ·show (p.nodes.push _).get i=_
      rw [Sl.Fp (by omega)];exact q3 i (by omega)
    ·by_cases e:i+1=j
     ·show (p.kids.push _).get i=_
      have e3:i=p.kids.n:=by omega
      rw [e3,Sl.CZ,<- e3,show j - 1=i by omega];have:=hb i (by omega);exact cM (by omega) (by omega)
     ·show (p.kids.push _).get i=_
      rw [Sl.Fp (by omega)];exact q4 i (by omega)
   ·have d3:decide ((j:Int) > 0)=false:=aZ (by omega)
    rw [d3];simp only [aH];refine ⟨_,rfl,bm,rfl,rfl,rfl,?_⟩;refine ⟨by show p.nodes.n+1=_; omega,by show p.kids.n=_; omega,fun i hi=>?_,fun i hi=>by omega⟩;show (p.nodes.push _).get i=_;have e:i=p.nodes.n:=by omega
    rw [e,Sl.CZ,<- e,show j=i by omega]
  ·have hjn:j=l.n:=by omega
   subst hjn;have d1:decide ((l.n:Int) < (l.n:Int))=false:=aZ (by omega);rw [d1];simp only [cq,tT,cz,aj,aH];exact .inr ⟨_,_,rfl,rfl,rfl,rfl,q1,q2,q3,q4⟩) (x:=⟨stack,(stack.n:Int),0,⟨⟨0,(fun i=>⟨0,0⟩)⟩,⟨0,(fun i=>0)⟩⟩,⟨⟨0,(fun i=>⟨0,0⟩)⟩,⟨0,(fun i=>0)⟩⟩⟩) ⟨rfl,rfl,rfl,rfl,rfl,fun i hi=>absurd hi (ph _),fun i hi=>by omega⟩
 subst h2;exact ⟨x',h1,h3,h4⟩
def L6 (s:b.aA) (o:Sl b.Path) (l:List (List (b.Handle×Nat))):Prop:=o.n=l.length/\∀ j w,l[j]? = some w->∃ g,r5 s g w/\RO (o.get j) g w.length
theorem L6.push {s:b.aA} {o:Sl b.Path} {l:List (List (b.Handle×Nat))} (h:L6 s o l) {w:List (b.Handle×Nat)} {g:Nat->b.eZ} {p:b.Path} (hg:r5 s g w) (hp:RO p g w.length):L6 s (o.push p) (l++[w]):=by
 refine ⟨by show o.n+1=_; rw [kF,h.1]; rfl,fun j v hj=>?_⟩;by_cases hl:j < l.length
 ·rw [qS hl] at hj
  rw [Sl.Fp (by rw [h.1]; exact hl)];exact h.2 j v hj
 ·rw [tS (by omega)] at hj
  have e:j=l.length:=by
   obtain ⟨h3,_⟩:=cH.1 hj;simp only [List.length_singleton] at h3;omega
  subst e;rw [Nat.sub_self] at hj;have e2:w=v:=by simpa using hj
  subst e2;rw [<- h.1,Sl.CZ];exact ⟨g,hg,hp⟩
structure Rel (s:b.aA) (x:b.cB) (y:St b.Handle):Prop where
 sc:x.s=s
 n:x.stack.n=y.1.length
 st:r5 s x.stack.get y.1
 out:L6 s x.out y.2
theorem round {s:b.aA} (hs:om s) {x:b.cB} {h:b.Handle} {n:Nat} {r:List (b.Handle×Nat)} {out:List (List (b.Handle×Nat))} (hx:Rel s x ((h,n)::r,out)) (hb:out.length<=1000) :
  ((nx (mj s) (gp s) (jI s) ((h,n)::r,out)).1≠[]/\∃ x',b.bS x = .next x'/\Rel s x' (nx (mj s) (gp s) (jI s) ((h,n)::r,out)))\/
  ((nx (mj s) (gp s) (jI s) ((h,n)::r,out)).1 = []/\∃ x',b.bS x = .out .ret x'/\x'.t3=0/\L6 s x'.t2 (nx (mj s) (gp s) (jI s) ((h,n)::r,out)).2):=by
 obtain ⟨t2,t3,o,stack,s'⟩:=x;obtain ⟨h1,h2,h3,h4⟩:=hx
 dsimp only at h1 h2 h3 h4
 subst h1;have hlen:=h3.len;have arv:∀ i,i < stack.n->0<=(stack.get i).ff/\(stack.get i).ff<=1000:=fun i hi=>by
  obtain ⟨h',n',e,q1,q2⟩:=h3.at i (by omega);have:=acV hs q2;rw [e]
  dsimp only
  omega
 have h3':=h3;obtain ⟨g1,g2,g3,g4,g5⟩:=h3;obtain ⟨s1,s2,s3⟩:=Gk hs g3;have hdg:=acV hs g3;simp only [qT] at h2 hlen;have e1:aK ((stack.n:Int) - 1)=(r.length:Int):=by rw [cM (by omega) (by omega)]; omega
 have d1:decide ((0:Int)<=(r.length:Int))=true:=au (by omega);have d2:decide ((r.length:Int) < (stack.n:Int))=true:=au (by omega);have d2' : decide ((r.length:Int)<=(stack.n:Int))=true:=au (by omega);have d3:=au s1;have d4:=au s2;have d5:=au s3;have e5:aK ((n:Int)+1)=((n+1:Nat):Int):=by rw [cM (by omega) (by omega)]; omega
 have e6:aK (((n+1:Nat):Int) - 1)=(n:Int):=by rw [cM (by omega) (by omega)]; omega
 have d6:decide ((0:Int)<=(n:Int))=true:=au (by omega);have b1:(Nat.ble ((stack.n+1) * 24) 140737488355328&&Nat.ble (stack.n+1) 17592186044416)=true:=by
  rw [ao];exact ⟨Nat.ble_eq_true_of_le (by omega),Nat.ble_eq_true_of_le (by omega)⟩
 have b2:dP 48 o.n 1=true:=by
  have:=h4.1;exact qH
 unfold b.bS b.jo
 dsimp only
 simp only [e1,C9,bd,g1,fL,e5,e6,d1,d2,d2',d3,d4,d5,d6,b1,b2,cq,tT,cz,BN,aj];by_cases bm:n < mj s' h
 ·have d7:decide ((n:Int) < (((s'.graph.kids.get h.slot.toNat).n:Nat):Int))=true:=au (by unfold mj at bm; omega)
  rw [d7];simp only [aj];have en:nx (mj s') (gp s') (jI s') ((h,n)::r,out)=((gp s' h n,0)::(h,n+1)::r,out):=by
   simp only [nx];rw [au bm,aj]
  rw [en];refine .inl ⟨by simp,_,rfl,⟨rfl,?_,?_,h4⟩⟩
  ·show stack.n+1=_
   simp only [qT];omega
  ·have hk:mf s'.graph.cA (gp s' h n):=Yg hs g3 bm
   have ht:∃ t,16 - r.length=t+1:=⟨16 - r.length - 1,by omega⟩
   obtain ⟨t,ht⟩:=ht;have YB:C7 (mj s') (gp s') (16 - (r.length+1)) (gp s' h n):=by
    rw [ht] at g4;rw [show 16 - (r.length+1)=t by omega];exact g4 n bm
   have OI:(stack.set r.length ⟨h,((n+1:Nat):Int)⟩).n=r.length+1:=h2;refine ⟨?_,r6 _,hk,YB,?_,bm,g3,g4,?_⟩
   ·show (Sl.join _ _).get (r.length+1)=_
    rw [Sl.ahB (by rw [OI]; exact aC _),OI,Nat.sub_self];rfl
   ·show (Sl.join _ _).get r.length=_
    rw [Sl.acs (by rw [OI]; exact Ra _),fL]
   ·refine g5.congr fun i hi=>?_
    show (Sl.join _ _).get i=_;rw [Sl.acs (by rw [OI]; omega),eI _ _ (by omega)]
 ·have d7:decide ((n:Int) < (((s'.graph.kids.get h.slot.toNat).n:Nat):Int))=false:=aZ (by unfold mj at bm; omega)
  rw [d7];simp only [aH];have en:nx (mj s') (gp s') (jI s') ((h,n)::r,out)=(r,cond (jI s' h) (out++[(h,n)::r]) out):=by
   simp only [nx];rw [aZ bm,aH]
  rw [en];have key:∀ (o' : Sl b.Path) (akU:List (List (b.Handle×Nat))) (g:Nat->b.eZ),(∀ i,i < r.length->g i=stack.get i)->L6 s' o' akU->
    (r≠[]/\∃ x',cond (decide ((r.length:Int) > 0)) (aW.next (⟨t2,t3,o',⟨r.length,g⟩,s'⟩:b.cB)) (.out .ret ⟨o',0,o',⟨r.length,g⟩,s'⟩) = .next x'/\Rel s' x' (r,akU))\/
    (r = []/\∃ x',cond (decide ((r.length:Int) > 0)) (aW.next (⟨t2,t3,o',⟨r.length,g⟩,s'⟩:b.cB)) (.out .ret ⟨o',0,o',⟨r.length,g⟩,s'⟩) = .out .ret x'/\x'.t3=0/\L6 s' x'.t2 akU):=by
   intro o' akU g hg ho;cases r with
   | nil=>exact .inr ⟨rfl,_,rfl,rfl,ho⟩
   | cons w r=>
    refine .inl ⟨by simp,?_⟩;rw [au (by simp only [qT]; omega),aj];exact ⟨_,rfl,rfl,rfl,g5.congr hg,ho⟩
  by_cases hm:jI s' h=true
  ·have Pv:((s'.nodes.get h.slot.toNat).kind==5)=true:=hm
   rw [Pv,hm];simp only [aj];obtain ⟨x',q1,q2,q3⟩:=ajC stack (by omega) arv;rw [q1];have es:zS (ah.exit 0) (ah.exit 0)=true:=rfl;simp only [aW.sh,aW.lF,es,aj,q2];exact key _ _ _ (fun i hi=>rfl) (h4.push h3' (by simp only [qT]; rw [<- h2]; exact q3))
  ·rw [Bool.not_eq_true] at hm
   have Pv:((s'.nodes.get h.slot.toNat).kind==5)=false:=hm;rw [Pv,hm];simp only [aH];exact key _ _ _ (fun i hi=>rfl) h4
theorem anT (s:b.aA) (j:Nat) (y:St b.Handle):it (mj s) (gp s) (jI s) (j+1) y=nx (mj s) (gp s) (jI s) (it (mj s) (gp s) (jI s) j y):=OC j 1 y
theorem al1 {s:b.aA} (hs:om s) {y:St b.Handle} {r:Nat} (hr:r < gx) {ah4:List (List (b.Handle×Nat))} (hF:it (mj s) (gp s) (jI s) r y=([],ah4)) (hl:ah4.length<=1000) {x:b.cB} (hx:Rel s x y) (hy:y.1≠[]) :
  ∃ x',goN b.bS x = .out .ret x'/\x'.t3=0/\L6 s x'.t2 ah4:=by
 obtain ⟨e,x',h1,h2,h3,h4⟩:=ja (step:=b.bS) (fun j x=>Rel s x (it (mj s) (gp s) (jI s) j y)/\(it (mj s) (gp s) (jI s) j y).1≠[]) (fun e x=>e = .ret/\x.t3=0/\L6 s x.t2 ah4) r hr (fun j x hj hI=>by
  obtain ⟨q1,q2⟩:=hI;have bm:j < r:=by
   by_cases e:j=r
   ·subst e; rw [hF] at q2; exact absurd rfl q2
   ·omega
  have hn:=anT s j y;have hle:(it (mj s) (gp s) (jI s) j y).2.length<=1000:=by
   have:=akT (dg:=mj s) (dW:=gp s) (fA:=jI s) (r - j) (it (mj s) (gp s) (jI s) j y);rw [<- OC,show j+(r - j)=r by omega,hF] at this;exact hD this hl
  revert q1 q2 hn hle
  generalize hz:it (mj s) (gp s) (jI s) j y=z;obtain ⟨st,out⟩:=z;intro q1 q2 hn hle;cases st with
  | nil=>exact absurd rfl q2
  | cons w st=>
   obtain ⟨h,n⟩:=w;rcases round hs q1 hle with ⟨g1,x',g2,g3⟩ | ⟨g1,x',g2,g3,g4⟩
   ·exact .inl ⟨x',g2,bm,by rw [hn]; exact g3,by rw [hn]; exact g1⟩
   ·refine .inr ⟨_,x',g2,rfl,rfl,g3,?_⟩
    have e2:(nx (mj s) (gp s) (jI s) ((h,n)::st,out))=([],(nx (mj s) (gp s) (jI s) ((h,n)::st,out)).2):=by
     rw [<- g1]
    have e3:=OC (dg:=mj s) (dW:=gp s) (fA:=jI s) (j+1) (r - (j+1)) y;rw [hn,e2,afK,show j+1+(r - (j+1))=r by omega,hF] at e3;have e4:ah4=(nx (mj s) (gp s) (jI s) ((h,n)::st,out)).2:=congrArg (·.2) e3;rw [e4];exact g4) (x:=x) ⟨hx,hy⟩
 subst h2;exact ⟨x',h1,h3,h4⟩
theorem anU {s:b.aA} (h:Down s):∀ (t:Nat) (x:b.Handle) (i:Nat),x.slot=(i:Int)->i < s.graph.kids.n->C7 (dg s.graph) (ch s.graph) t i->C7 (mj s) (gp s) t x
 | 0,_,_,_,_,hl=>hl.elim
 | t+1,x,i,hx,hi,hl=>fun k hk=>by
  unfold mj at hk;unfold gp;rw [hx,C9] at hk ⊢;exact anU h t _ _ (h.slot hi hk) (h.chl i hi k hk) (hl k hk)
theorem anV {s:b.aA} (h:Down s):∀ (t:Nat) (x:b.Handle) (i:Nat),x.slot=(i:Int)->i < s.graph.kids.n->OB (mj s) (gp s) (jI s) t x=OB (dg s.graph) (ch s.graph) (Lh s) t i
 | 0,_,_,_,_=>rfl
 | t+1,x,i,hx,hi=>by
  have e1:jI s x=Lh s i:=by unfold jI Lh; rw [hx,C9]
  have e2:mj s x=dg s.graph i:=by unfold mj dg; rw [hx,C9]
  rw [OB,OB,e1,e2];congr 1;refine OA _ fun k hk=>?_;refine anV h t _ _ ?_ (h.chl i hi k hk);unfold gp;rw [hx,C9];exact h.slot hi hk
def ways (s:b.aA):List (List Nat):=wm (mj s) (gp s) (jI s) 16 s.root
structure Yr (s:b.aA) (p:b.Path) (ks:List Nat):Prop where
 n:p.kids.n=ks.length
 is:∀ (i k:Nat),ks[i]? = some k->p.kids.get i=(k:Int)
 leads:Yf s p.kids
 at_:RJ s p.kids p.nodes
theorem aet {s:b.aA} : ∀ (ks:List Nat) (h:b.Handle) (st:List (b.Handle×Nat)) (g:Nat->b.eZ),r5 s g (oo (mj s) (gp s) st h ks)->
  (oo (mj s) (gp s) st h ks).length=st.length+ks.length+1/\(g st.length).h=h/\(∀ i k:Nat,ks[i]? = some k->(g (st.length+i)).ff=(k:Int)+1/\k < mj s (g (st.length+i)).h/\(g (st.length+(i+1))).h=gp s (g (st.length+i)).h k)
 | [],h,st,g,hi=>⟨rfl,by rw [hi.1],fun i k hk=>by simp at hk⟩
 | k::ks,h,st,g,hi=>by
  obtain ⟨h1,h2,h3⟩:=aet ks (gp s h k) ((h,k+1)::st) g hi;have below:∀ (ks:List Nat) (h:b.Handle) (w:List (b.Handle×Nat)),r5 s g (oo (mj s) (gp s) w h ks)->r5 s g w:=by
   intro ks
   induction ks with
   | nil=>exact fun h w q=>q.2.2.2.2
   | cons k ks ih=>exact fun h w q=>(ih _ _ q).2.2.2.2
  have hb:=below ks _ _ hi;simp only [qT] at h1 h2 h3;refine ⟨by rw [show oo (mj s) (gp s) st h (k::ks)=oo (mj s) (gp s) ((h,k+1)::st) (gp s h k) ks from rfl,h1]; simp only [qT]; omega,by rw [hb.1],fun i k' hk=>?_⟩;cases i with
  | zero=>
   simp only [List.getElem?_cons_zero,bQ] at hk;subst hk;rw [yI,bd,h2,hb.1];refine ⟨by push_cast; rfl,hb.2.1,rfl⟩
  | succ i=>
   simp only [M9] at hk;have:=h3 i k' hk;rw [show st.length+1+i=st.length+(i+1) by omega,show st.length+1+(i+1)=st.length+(i+1+1) by omega] at this;exact this
theorem aoF {s:b.aA} {p:b.Path} {g:Nat->b.eZ} {ks:List Nat} (hg:r5 s g (oo (mj s) (gp s) [] s.root ks)) (hp:RO p g (oo (mj s) (gp s) [] s.root ks).length):Yr s p ks:=by
 obtain ⟨h1,h2,h3⟩:=aet ks s.root [] g hg;simp only [List.length_nil,bd] at h1 h2 h3;rw [h1] at hp;obtain ⟨q1,q2,q3,q4⟩:=hp;have his:∀ (i k:Nat),ks[i]? = some k->p.kids.get i=(k:Int):=fun i k hk=>by
  obtain ⟨hl,_⟩:=cH.1 hk;rw [q4 i (by omega),(h3 i k hk).1];omega
 have vc:∀ i,i<=ks.length->Wu s p.kids i=(g i).h/\∀ j,j < i->Wv s p.kids j:=by
  intro i
  induction i with
  | zero=>exact fun _=>⟨h2.symm,fun j hj=>absurd hj (ph _)⟩
  | succ i ih=>
   intro hi;obtain ⟨e,gz⟩:=ih (by omega);have hk:ks[i]? = some ks[i]:=cJ (by omega);have hh:=h3 i _ hk;have hki:=his i _ hk;refine ⟨?_,fun j hj=>?_⟩
   ·show (s.graph.kids.get (Wu s p.kids i).slot.toNat).get (p.kids.get i).toNat=_
    rw [e,hki,C9,hh.2.2];rfl
   ·by_cases ej:j=i
    ·subst ej
     have:=hh.2.1;unfold mj at this;unfold Wv;rw [hki,e];omega
    ·exact gz j (by omega)
 refine ⟨by omega,his,fun j hj=>(vc (j+1) (by omega)).2 j (Ra _),by omega,fun i hi=>?_⟩;rw [(vc i (by omega)).1];exact q3 i (by omega)
theorem akV {s:b.aA} (hs:om s):∀ h,mf s.graph.cA h->∀ k,k < mj s h->mf s.graph.cA (gp s h k):=fun h hh k hk=>Yg hs hh hk
theorem aoG {s:b.aA} (hs:om s):∀ h,mf s.graph.cA h->jI s h=true->mj s h=0:=fun h hh hm=>by
 have:=Gk hs hh;refine (hs.2.2.2.1 h.slot.toNat (by omega)).2.2 ?_;unfold jI at hm;exact eq_of_beq hm
theorem ah5 {s:b.aA} (rS:zr s) (hs:om s):∃ l e,b.gm s=some (l,e)/\
  ((s.root=CE/\l.n=0/\e=0)\/(s.root≠CE/\l.n=0/\e=120)\/
   (s.root≠CE/\mf s.graph.cA s.root/\C7 (mj s) (gp s) 16 s.root/\e=0/\l.n<=256/\l.n=(ways s).length/\∀ (j:Nat) ks,(ways s)[j]? = some ks->Yr s (l.get j) ks)):=by
 obtain ⟨e,h1,h2⟩:=Uw s rS;have he:e=0:=by
  rcases h2 with h | h
  ·exact h.1
  ·exact absurd hs h.2
 subst he;unfold b.gm;rw [h1];simp only [fj,dI,aj];have hz:((0:Int) != 0)=false:=rfl;rw [hz,aH];by_cases hr:s.root=CE
 ·have:((s.root.slot==0)&&((s.root.gen==0)&&true))=true:=(Wt s.root CE).2 hr
  rw [this,aj];exact ⟨_,_,rfl,.inl ⟨hr,rfl,rfl⟩⟩
 ·have:((s.root.slot==0)&&((s.root.gen==0)&&true))=false:=by
   rw [<- Bool.not_eq_true];exact fun h=>hr ((Wt s.root CE).1 h)
  rw [this,aH];have hh:mf s.graph.cA s.root:=by
   rcases hs.2.2.2.2 with h | h
   ·exact absurd h hr
   ·exact h
  obtain ⟨s1,s2,s3⟩:=Gk hs hh;obtain ⟨r,er⟩:∃ r:Nat,s.root.slot=(r:Int):=⟨s.root.slot.toNat,by omega⟩
  have hd:=ah1 hs;have hi:r < s.graph.kids.n:=by omega
  obtain ⟨c,c1,c2,c3,c4⟩:=afJ hd er hi;have c1a:(b.ef s).isSome=true:=by rw [c1]; rfl
  have c1b:(b.ef s).getD default=c:=by rw [c1]; rfl
  rw [c1a,c1b,aj];have d1:decide ((0:Int)<=s.root.slot)=true:=au s1;have d2:decide (s.root.slot < (c.1.n:Int))=true:=au (by have:=c2.n1; omega);have d3:decide (s.root.slot < (c.2.n:Int))=true:=au (by have:=c2.n2; omega);have en:s.root.slot.toNat=r:=by omega
  rw [d1,d2,d3,en];simp only [cz,aj];by_cases XN:c.1.get r > 16
  ·rw [au XN,aj]
   exact ⟨_,_,rfl,.inr (.inl ⟨hr,rfl,rfl⟩)⟩
  rw [aZ XN,aH];by_cases Ye:c.2.get r > 256
  ·rw [au Ye,aj]
   exact ⟨_,_,rfl,.inr (.inl ⟨hr,rfl,rfl⟩)⟩
  rw [aZ Ye,aH];have Mi:C7 (dg s.graph) (ch s.graph) s.graph.kids.n r:=WG hd.chl hd.free r hi;have hl1:C7 (dg s.graph) (ch s.graph) 16 r:=(ah0 _ _ Mi).le (by rw [c3] at XN; unfold hH at XN; omega);have hl:C7 (mj s) (gp s) 16 s.root:=anU hd 16 s.root r er hi hl1;have arw:OB (dg s.graph) (ch s.graph) (Lh s) 16 r=mH s r:=by
   unfold mH;by_cases hq:s.graph.kids.n<=16
   ·exact akR Mi hq
   ·exact (akR hl1 (by omega)).symm
  have hlen:(ways s).length<=256:=by
   have:=acP (akV hs) (aoG hs) 16 s.root hh;rw [anV hd 16 s.root r er hi,arw] at this;unfold ways;omega
  obtain ⟨rr,r1,r2,r3⟩:=visit (fA:=jI s) (akV hs) (fun h hh=>acV hs hh) 16 s.root hh hl [] [];have hrel:Rel s (b.qJ s) ([(s.root,0)],[]):=⟨rfl,rfl,⟨rfl,r6 _,hh,hl,trivial⟩,⟨rfl,fun j w hj=>by simp at hj⟩⟩
  have SN:∀ l,L6 s l ([]++(wm (mj s) (gp s) (jI s) 16 s.root).map (oo (mj s) (gp s) [] s.root))->(s.root≠CE/\mf s.graph.cA s.root/\C7 (mj s) (gp s) 16 s.root/\(0:Int)=0/\l.n<=256/\l.n=(ways s).length/\∀ (j:Nat) ks,(ways s)[j]? = some ks->Yr s (l.get j) ks):=by
   intro l hq;obtain ⟨q1,q2⟩:=hq;rw [List.nil_append,List.length_map] at q1;refine ⟨hr,hh,hl,rfl,by unfold ways at hlen; omega,q1,fun j ks hj=>?_⟩;obtain ⟨g,g1,g2⟩:=q2 j (oo (mj s) (gp s) [] s.root ks) (by
    rw [List.nil_append,pg];unfold ways at hj;rw [hj];rfl)
   exact aoF g1 g2
  have aoH:([]++(wm (mj s) (gp s) (jI s) 16 s.root).map (oo (mj s) (gp s) [] s.root)).length<=1000:=by
   rw [List.nil_append,List.length_map];unfold ways at hlen;omega
  obtain ⟨m,rfl⟩:∃ m,rr=m+1:=⟨rr - 1,by omega⟩
  have hnx:it (mj s) (gp s) (jI s) m (nx (mj s) (gp s) (jI s) ([(s.root,0)],[]))=([],[]++(wm (mj s) (gp s) (jI s) 16 s.root).map (oo (mj s) (gp s) [] s.root)):=r3;rcases round hs hrel (r6 _) with ⟨g1,x',g2,g3⟩ | ⟨g1,x',g2,g3,g4⟩
  ·rw [g2,b.aes]
   obtain ⟨y,y1,y2,y3⟩:=al1 hs (r:=m) (by unfold gx; omega) hnx aoH g3 g1;rw [y1];have e1:(aW.out ah.ret y).by (ah.exit 999983)=false:=rfl
   have e2:(aW.out ah.ret y).by ah.ret=true:=rfl
   rw [e1,e2,aH,aj];refine ⟨_,_,rfl,.inr (.inr ?_)⟩;rw [aW.lF,y2];exact SN _ y3
  ·rw [g2]
   refine ⟨_,_,rfl,.inr (.inr ?_)⟩;rw [g3];refine SN _ ?_;have e2:(nx (mj s) (gp s) (jI s) ([(s.root,0)],[]))=([],(nx (mj s) (gp s) (jI s) ([(s.root,0)],[])).2):=Prod.ext g1 rfl;rw [e2,afK] at hnx;have e4:=congrArg (·.2) hnx
   dsimp only at e4
   rw [<- e4];exact g4
theorem ajD {s:b.aA} (rS:zr s) (hs : ¬ om s):∃ l,b.gm s=some (l,8)/\l.n=0:=by
 obtain ⟨e,h1,h2⟩:=Uw s rS;have he:e=8:=by
  rcases h2 with h | h
  ·exact absurd h.2 hs
  ·exact h.1
 subst he;unfold b.gm;rw [h1];exact ⟨_,rfl,rfl⟩
end Go.Proofs.Ytckbdndhmcoihaa.sc
end
section
namespace Go.Proofs.Ytckbdndhmcoihaa.b
open Go.K
noncomputable section
theorem afN (s:Sl Place) (v:Place):s.push v=aw (fun e=>RM (gV Try.prog (b8 Try.prog 5) 75 e)) (s.n+1) (ax s.n (fun i=>FV (s.get i)) (cY [FV v])):=(fR (p:=fun e=>RM (gV Try.prog (b8 Try.prog 5) 75 e)) (fun x=>by kernel_rfl) (by kernel_rfl) s v).symm
structure jT where
 t2:(Sl Place)
 t3:Int
 out:(Sl Place)
 t19:(Sl Path)
 t20:Int
 t21:Int
 s:aA
instance:Inhabited jT:=⟨by constructor<;>exact default⟩
def Ba (x:jT):List KV:=[dq 75 FV x.t2,.int .i64 x.t3,dq 75 FV x.out,dq 50 Cz x.t19,.int .i64 x.t20,.int .i64 x.t21]
def Bb (x:jT):List (List KV):=[w4 x.s]
def HF (vs:List KV) (rs:List (List KV)):jT:=⟨dM RM (v9 vs 0),aq (v9 vs 1),dM RM (v9 vs 2),dM CA (v9 vs 3),aq (v9 vs 4),aq (v9 vs 5),w5 (r9 rs 0)⟩
def Kg:aJ:=⟨[(2,w9 (n9 75)),(3,w9 i9),(6,⟨false,[.aP 75]⟩),(19,w9 (n9 50)),(20,w9 i9),(21,w9 i9)],[(1,[n9 139,n9 47,n9 64,n9 79,n9 118,i9,i9],1)],[(1,0,0)]⟩
def Sc:=AP [(21,Kc),(9,wu)] [] 8 250 Kg
def pe (x:jT):=wk x.s (x.t19.get (Int.toNat x.t21))
def fK (x:jT):aW jT:=(cond (decide (x.t21 < x.t20)) (cond ((decide (0<=x.t21))&&(decide (x.t21 < (x.t19.n:Int)))) (cond (pe x).isSome (cond (((pe x).getD default).snd != 0) (cond (ak x.out.n x.out.n) (.out aG.ah.ret ⟨⟨0,(fun i=>⟨⟨⟨0,(fun i=>⟨0,0,0⟩)⟩,⟨0,(fun i=>⟨0,0⟩)⟩,⟨0,(fun i=>⟨0,0,0⟩)⟩,⟨⟨0,0,0,0⟩,0,0,0,false,0⟩,⟨⟨0,0,0⟩,⟨0,0,0⟩⟩⟩,false,⟨0,(fun i=>⟨⟨0,0,0⟩,0,0⟩)⟩⟩)⟩,((pe x).getD default).snd,x.out,x.t19,x.t20,x.t21,x.s⟩) .fail) (cond ((ak x.out.n x.out.n)&&(dP 200 x.out.n 1)) (cond (ak (x.out.n+1) (x.out.n+1)) (.next ⟨x.t2,x.t3,(x.out.push ((pe x).getD default).fst),x.t19,x.t20,(aK (x.t21+1)),x.s⟩) .fail) .fail)) .fail) .fail) (cond (ak x.out.n x.out.n) (.out (aG.ah.exit 0) x) .fail))
theorem Pp (x:jT):Sc (Ba x) (Bb x)=aW.enc Ba Bb (fK x):=by
 unfold fK
 try simp only [aW.cw,afN]
 kernel_rfl
def Kh:Lp:=⟨8,250,Kg,fun vs rs=>dK Ba Bb (goN fK (HF vs rs)) [aG.ah.exit 0,aG.ah.ret],false⟩
theorem Sd:Kh.Ok PG:=Bs (ai.cons Lf (ai.cons uH ai.nil)) bj.nil (pa:=HF) Pp
def oD (s:aA):=gm s
def fX (s:aA):=goN fK ⟨⟨0,(fun i=>⟨⟨⟨0,(fun i=>⟨0,0,0⟩)⟩,⟨0,(fun i=>⟨0,0⟩)⟩,⟨0,(fun i=>⟨0,0,0⟩)⟩,⟨⟨0,0,0,0⟩,0,0,0,false,0⟩,⟨⟨0,0,0⟩,⟨0,0,0⟩⟩⟩,false,⟨0,(fun i=>⟨⟨0,0,0⟩,0,0⟩)⟩⟩)⟩,0,⟨0,(fun i=>⟨⟨⟨0,(fun i=>⟨0,0,0⟩)⟩,⟨0,(fun i=>⟨0,0⟩)⟩,⟨0,(fun i=>⟨0,0,0⟩)⟩,⟨⟨0,0,0,0⟩,0,0,0,false,0⟩,⟨⟨0,0,0⟩,⟨0,0,0⟩⟩⟩,false,⟨0,(fun i=>⟨⟨0,0,0⟩,0,0⟩)⟩⟩)⟩,((oD s).getD default).fst,(((oD s).getD default).fst.n:Int),0,s⟩
def wx (s:aA):Option ((Sl Place)×Int):=(cond (oD s).isSome (cond (((oD s).getD default).snd != 0) (some (⟨0,(fun i=>⟨⟨⟨0,(fun i=>⟨0,0,0⟩)⟩,⟨0,(fun i=>⟨0,0⟩)⟩,⟨0,(fun i=>⟨0,0,0⟩)⟩,⟨⟨0,0,0,0⟩,0,0,0,false,0⟩,⟨⟨0,0,0⟩,⟨0,0,0⟩⟩⟩,false,⟨0,(fun i=>⟨⟨0,0,0⟩,0,0⟩)⟩⟩)⟩,((oD s).getD default).snd)) (cond ((fX s).by (aG.ah.exit 0)) (some ((fX s).st.out,0)) (cond ((fX s).by aG.ah.ret) (some ((fX s).st.t2,(fX s).st.t3)) none))) none)
theorem Ys (s:aA):ou [(21,Kc),(9,wu)] [Kh] 8 [iY s] = (wx s).map (fun (r:(Sl Place)×Int)=>KV.kL [(dq 75 FV) r.1,(kI .i64) r.2]):=by
 unfold wx
 try simp only [bG]
 kernel_rfl
def Ej:List KV->KR KV:=bC PG 8 (bO (fun (r:(Sl Place)×Int)=>KV.kL [(dq 75 FV) r.1,(kI .i64) r.2]) fun vs=>wx (dC (v9 vs 0)))
theorem Ek:bB PG 8 Ej:=dE (ai.cons Lf (ai.cons uH ai.nil)) (rM Sd bj.nil) fun w=>Ys (dC (g0 34 (w 0)))
def yn (a:Int) (b:Int):Option (Int):=(some ((akB ((akB (max a b)) - (akB (min a b))))))
theorem ZU (a:Int) (b:Int):ou [] [] 32 [(kI .i64) a,(kI .i64) b] = (yn a b).map (kI .u64):=by
 unfold yn
 kernel_rfl
def S4:List KV->KR KV:=bC PG 32 (bO (kI .u64) fun vs=>yn (aq (v9 vs 0)) (aq (v9 vs 1)))
theorem Yt:bB PG 32 S4:=dE ai.nil bj.nil fun w=>ZU (aq (g0 3 (w 0))) (aq (g0 3 (w 1)))
def wy (d:Int) (n:Int):Option (Bool):=(cond (decide (n<=0)) (some (true)) (some ((decide (d >= (akB n))))))
theorem UD (d:Int) (n:Int):ou [] [] 33 [(kI .u64) d,(kI .i64) n] = (wy d n).map kB:=by
 unfold wy
 try simp only [bG]
 kernel_rfl
def M6:List KV->KR KV:=bC PG 33 (bO kB fun vs=>wy (aq (v9 vs 0)) (aq (v9 vs 1)))
theorem Se:bB PG 33 M6:=dE ai.nil bj.nil fun w=>UD (aq (g0 113 (w 0))) (aq (g0 3 (w 1)))
def Hc (g:Gate) (from_:fe):=yn g.eR.x from_.x
def Hd (g:Gate) (from_:fe):=yn g.eR.y from_.y
def Hf (g:Gate) (from_:fe):=yn g.eR.z from_.z
def O9 (g:Gate) (from_:fe):=wy (max (max ((Hc g from_).getD default) ((Hd g from_).getD default)) ((Hf g from_).getD default)) g.from_
def Pa (g:Gate) (from_:fe):=wy (max (max ((Hc g from_).getD default) ((Hd g from_).getD default)) ((Hf g from_).getD default)) g.to_
def yo (g:Gate) (from_:fe):Option (Bool):=(cond (Hc g from_).isSome (cond (Hd g from_).isSome (cond (Hf g from_).isSome (cond (O9 g from_).isSome (cond ((O9 g from_).getD default) (cond (Pa g from_).isSome (some ((!((Pa g from_).getD default)))) none) (some (false))) none) none) none) none)
theorem ZV (g:Gate) (from_:fe):ou [(33,M6),(32,S4)] [] 16 [acL g,oG from_] = (yo g from_).map kB:=by
 unfold yo
 try simp only [bG]
 kernel_rfl
def S5:List KV->KR KV:=bC PG 16 (bO kB fun vs=>yo (Yj (v9 vs 0)) (ko (v9 vs 1)))
theorem Yu:bB PG 16 S5:=dE (ai.cons Se (ai.cons Yt ai.nil)) bj.nil fun w=>ZV (Yj (g0 87 (w 0))) (ko (g0 36 (w 1)))
def nT (a:wb) (b:wb):=xu a
def nU (a:wb) (b:wb):=xu b
def BM (a:wb) (b:wb):Option (Bool):=(cond (nT a b).isSome (cond (nU a b).isSome (cond (decide (((nT a b).getD default).e0.low < ((nU a b).getD default).e0.low)) (some (false)) (cond (decide (((nT a b).getD default).e0.high > ((nU a b).getD default).e0.high)) (some (false)) (cond (decide (((nT a b).getD default).e1.low < ((nU a b).getD default).e1.low)) (some (false)) (cond (decide (((nT a b).getD default).e1.high > ((nU a b).getD default).e1.high)) (some (false)) (cond (decide (((nT a b).getD default).e2.low < ((nU a b).getD default).e2.low)) (some (false)) (cond (decide (((nT a b).getD default).e2.high > ((nU a b).getD default).e2.high)) (some (false)) (some (true)))))))) none) none)
theorem ZW (a:wb) (b:wb):ou [(57,Ot)] [] 31 [Et a,Et b] = (BM a b).map kB:=by
 unfold BM
 try simp only [bG]
 kernel_rfl
def S6:List KV->KR KV:=bC PG 31 (bO kB fun vs=>BM (O3 (v9 vs 0)) (O3 (v9 vs 1)))
theorem Yv:bB PG 31 S6:=dE (ai.cons O4 ai.nil) bj.nil fun w=>ZW (O3 (g0 70 (w 0))) (O3 (g0 70 (w 1)))
def El (b:wb) (v:fe):=BM ⟨v,v⟩ b
def AA (b:wb) (v:fe):Option (Bool):=(cond (El b v).isSome (some (((El b v).getD default))) none)
theorem acW (b:wb) (v:fe):ou [(31,S6)] [] 15 [Et b,oG v] = (AA b v).map kB:=by
 unfold AA
 try simp only [bG]
 kernel_rfl
def Ir:List KV->KR KV:=bC PG 15 (bO kB fun vs=>AA (O3 (v9 vs 0)) (ko (v9 vs 1)))
theorem Hg:bB PG 15 Ir:=dE (ai.cons Yv ai.nil) bj.nil fun w=>acW (O3 (g0 70 (w 0))) (ko (g0 36 (w 1)))
def S7:List (Nat×(List KV->KR KV)):=[(16,S5)]
def S8:List Lp:=[]
theorem ZX:ai PG S7:=(ai.cons Yu ai.nil)
theorem ZY:bj PG S8:=bj.nil
def QY  : (Option Bool):=(yo (⟨(⟨(0:Int),(0:Int),(0:Int)⟩:fe),(2:Int),(5:Int)⟩:Gate) (⟨(0:Int),(-(2:Int)),(1:Int)⟩:fe))
def QZ  : (Option Bool):=(yo (⟨(⟨(0:Int),(0:Int),(0:Int)⟩:fe),(2:Int),(5:Int)⟩:Gate) (⟨(5:Int),(0:Int),(0:Int)⟩:fe))
def Q0  : (Option Bool):=(yo (⟨(⟨(0:Int),(0:Int),(0:Int)⟩:fe),(0:Int),(0:Int)⟩:Gate) (⟨(0:Int),(0:Int),(0:Int)⟩:fe))
def Em  : Option (Bool):=(cond QY.isSome (cond (QY.getD default) (cond QZ.isSome (cond (!(QZ.getD default)) (cond Q0.isSome (some ((!(Q0.getD default)))) none) (some (false))) none) (some (false))) none)
theorem acX  : EN PG (ra PG S7 S8 (fun q=>Nat.beq q 3)) 9 9 6 [] = (Em ).map kB:=by
 unfold Em
 try simp only [bG]
 kernel_rfl
def Iu:List KV->KR KV:=bC PG 6 (bO kB fun vs=>Em )
theorem Hh:bB PG 6 Iu:=dE ZX ZY fun w=>acX
end
end Go.Proofs.Ytckbdndhmcoihaa.b
end
section
namespace Go.Proofs.Ytckbdndhmcoihaa.sc
open Go Go.K Go.aG Go.A6 Go.Proofs.Ytckbdndhmcoihaa.nodes
theorem aeu {H:Type} (dW:H->Nat->H):∀ (l:List Nat) (h:H) (k:Nat),goH dW h (l++[k])=dW (goH dW h l) k
 | [],_,_=>rfl
 | a::l,h,k=>aeu dW l (dW h a) k
structure Q1 (kids:Sl Int) (ks:List Nat):Prop where
 n:kids.n=ks.length
 is:∀ (i k:Nat),ks[i]? = some k->kids.get i=(k:Int)
theorem Q1.at {kids:Sl Int} {ks:List Nat} (h:Q1 kids ks) {i:Nat} (hi:i < ks.length):kids.get i=((ks[i] : Nat):Int):=h.is i _ (cJ hi)
theorem akW {s:b.aA} {kids:Sl Int} {ks:List Nat} (h:Q1 kids ks):∀ i,i<=ks.length->Wu s kids i=goH (gp s) s.root (ks.take i)
 | 0,_=>by rw [List.take_zero]; rfl
 | i+1,hi=>by
  rw [List.take_succ_eq_append_getElem (by omega),aeu,<- akW h i (by omega)];show (s.graph.kids.get (Wu s kids i).slot.toNat).get (kids.get i).toNat=_;rw [h.at (by omega),C9];rfl
theorem anW {s:b.aA} {kids:Sl Int} {ks:List Nat} (h:Q1 kids ks):Wu s kids ks.length=goH (gp s) s.root ks:=by
 rw [akW h _ (aC _),List.take_length]
theorem al2 {s:b.aA} (rS:zr s) (Xz:ael s) (hs:om s) (hr:s.root≠CE) (hl:C7 (mj s) (gp s) 16 s.root) {j:Nat} {ks:List Nat} (qL:(ways s)[j]? = some ks) {p:b.Path} (hp:Yr s p ks):vq s p:=by
 have hm:=gu qL;obtain ⟨h1,h2⟩:=acQ _ _ _ hm;have h3:=WI _ _ _ hm;have h4:=UB (mQ:=mj s) (c:=gp s) 16 s.root;have hk:Q1 p.kids ks:=⟨hp.n,hp.is⟩
 have hn:=hp.n;refine ⟨rS,Xz,⟨hs,hr,hp.leads,hp.at_⟩,by omega,?_⟩;have e:=hp.at_.2 p.kids.n (aC _);unfold nodeAt;rw [e,hn,anW hk];exact Er.1 h2
theorem afO {s:b.aA} (l:Sl b.Path) (hl:l.n<=256) (ht:∀ j,j < l.n->vq s (l.get j)) (z o:Sl b.Place) (ho:o.n=0) :
  (∃ x',goN b.fK ⟨z,0,o,l,(l.n:Int),0,s⟩ = .out (.exit 0) x'/\x'.out.n=l.n/\∀ j,j < l.n->M4 s (l.get j) (x'.out.get j) 0)\/
  ∃ x',goN b.fK ⟨z,0,o,l,(l.n:Int),0,s⟩ = .out .ret x'/\x'.t2.n=0/\x'.t3=20:=by
 obtain ⟨e',x',q1,q2⟩:=ja (step:=b.fK)
  (fun j x=>x.t2=z/\x.t3=0/\x.t19=l/\x.t20=(l.n:Int)/\x.t21=(j:Int)/\x.s=s/\x.out.n=j/\∀ k,k < j->M4 s (l.get k) (x.out.get k) 0)
  (fun e' x'=>(e' = .exit 0/\x'.out.n=l.n/\∀ j,j < l.n->M4 s (l.get j) (x'.out.get j) 0)\/(e' = .ret/\x'.t2.n=0/\x'.t3=20))
  l.n (by unfold gx; omega) (by
   rintro j ⟨t2,t3,out,t19,t20,t21,xs⟩ hj ⟨i1,i2,i3,i4,i5,i6,i7,i8⟩
   dsimp only at i1 i2 i3 i4 i5 i6 i7 i8
   subst i1 i2 i3 i4 i5 i6;unfold b.fK b.pe
   dsimp only
   have ej:Int.toNat (j:Int)=j:=rfl;by_cases bm:j < t19.n
   ·have d1:decide ((j:Int) < (t19.n:Int))=true:=au (by omega)
    have d2:decide ((0:Int)<=(j:Int))=true:=au (by omega);have e1:aK ((j:Int)+1)=((j+1:Nat):Int):=by rw [cM (by omega) (by omega)]; omega
    have a1:dP 200 out.n 1=true:=qH;obtain ⟨x,e,p1,p2⟩:=ahZ (ht j bm);rw [d1,d2,ej,e1,a1,p1];simp only [↓aj,↓aH,cq,cz,fj,dI];rcases p2.err with rfl | rfl
    ·rw [show ((0:Int) != 0)=false from rfl]
     refine .inl ⟨_,rfl,by omega,rfl,rfl,rfl,rfl,rfl,rfl,by show out.n+1=j+1; omega,fun k hk=>?_⟩;show M4 xs (t19.get k) ((out.push x).get k) 0;by_cases c:k=j
     ·subst c
      have:=Sl.CZ (s:=out) (v:=x);rw [i7] at this;rw [this];exact p2
     ·rw [Sl.Fp (by omega)]
      exact i8 k (by omega)
    ·rw [show ((20:Int) != 0)=true from rfl]
     exact .inr ⟨_,_,rfl,rfl,.inr ⟨rfl,rfl,rfl⟩⟩
   ·have:j=t19.n:=by omega
    subst this;rw [aZ (Int.lt_irrefl _)];simp only [↓aj,↓aH,cq];exact .inr ⟨_,_,rfl,rfl,.inl ⟨rfl,i7,i8⟩⟩) (x:=⟨z,0,o,l,(l.n:Int),0,s⟩) ⟨rfl,rfl,rfl,rfl,rfl,rfl,ho,fun k hk=>absurd hk (ph _)⟩
 rcases q2 with ⟨rfl,q3,q4⟩ | ⟨rfl,q3,q4⟩
 ·exact .inl ⟨x',q1,q3,q4⟩
 ·exact .inr ⟨x',q1,q3,q4⟩
structure anX (s:b.aA) (l:Sl b.Place) (p:Sl b.Path):Prop where
 n:l.n=p.n
 Yd:p.n<=256
 low:0 < p.n->om s
 way:∀ j,j < p.n->∃ ks,(ways s)[j]? = some ks/\Yr s (p.get j) ks/\vq s (p.get j)
 ok:∀ j,j < p.n->M4 s (p.get j) (l.get j) 0
theorem ah6 {s:b.aA} (rS:zr s) (Xz:ael s):∃ l e p f,b.wx s=some (l,e)/\b.gm s=some (p,f)/\((e≠0/\l.n=0/\(f≠0\/e=20))\/(e=0/\f=0/\anX s l p)):=by
 unfold b.wx b.oD;by_cases hs:om s
 ·obtain ⟨p,f,h1,h2⟩:=ah5 rS hs
  have fin:f=0->p.n<=256->(∀ j,j < p.n->∃ ks,(ways s)[j]? = some ks/\Yr s (p.get j) ks/\vq s (p.get j))->∃ l e p' f',cond (b.gm s).isSome (cond (((b.gm s).getD default).snd != 0) (some (⟨0,(fun i=>⟨⟨⟨0,(fun i=>⟨0,0,0⟩)⟩,⟨0,(fun i=>⟨0,0⟩)⟩,⟨0,(fun i=>⟨0,0,0⟩)⟩,⟨⟨0,0,0,0⟩,0,0,0,false,0⟩,⟨⟨0,0,0⟩,⟨0,0,0⟩⟩⟩,false,⟨0,(fun i=>⟨⟨0,0,0⟩,0,0⟩)⟩⟩)⟩,((b.gm s).getD default).snd)) (cond ((b.fX s).by (aG.ah.exit 0)) (some ((b.fX s).st.out,0)) (cond ((b.fX s).by aG.ah.ret) (some ((b.fX s).st.t2,(b.fX s).st.t3)) none))) none=some (l,e)/\b.gm s=some (p',f')/\((e≠0/\l.n=0/\(f'≠0\/e=20))\/(e=0/\f' = 0/\anX s l p')):=by
   rintro rfl hn hw;rw [h1];simp only [fj,dI,aj];rw [show ((0:Int) != 0)=false from rfl,aH];have e1:b.fX s=goN b.fK ⟨⟨0,fun i=>Oy⟩,0,⟨0,fun i=>Oy⟩,p,(p.n:Int),0,s⟩:=by
    unfold b.fX b.oD;rw [h1];rfl
   rcases afO p hn (fun j hj=>by obtain ⟨_,_,_,q⟩:=hw j hj; exact q) ⟨0,fun i=>Oy⟩ ⟨0,fun i=>Oy⟩ rfl with ⟨x',q1,q2,q3⟩ | ⟨x',q1,q2,q3⟩
   ·rw [e1,q1]
    exact ⟨_,_,_,_,rfl,rfl,.inr ⟨rfl,rfl,q2,hn,fun _=>hs,hw,q3⟩⟩
   ·rw [e1,q1]
    refine ⟨_,_,_,_,rfl,rfl,.inl ⟨?_,q2,.inr q3⟩⟩;show x'.t3≠0;rw [q3]; decide
  rcases h2 with ⟨hr,hn,hf⟩ | ⟨hr,hn,rfl⟩ | ⟨hr,hh,hl,hf,h3,h4,h5⟩
  ·exact fin hf (by omega) fun j hj=>absurd hj (by omega)
  ·rw [h1]
   exact ⟨_,_,_,_,rfl,rfl,.inl ⟨show (120:Int)≠0 by decide,rfl,.inl (by decide)⟩⟩
  ·refine fin hf h3 fun j hj=>?_
   have AH:j < (ways s).length:=by omega
   have qL:(ways s)[j]? = some (ways s)[j]:=cJ AH;exact ⟨_,qL,h5 j _ qL,al2 rS Xz hs hr hl qL (h5 j _ qL)⟩
 ·obtain ⟨p,h1,h2⟩:=ajD rS hs
  rw [h1];exact ⟨_,_,_,_,rfl,rfl,.inl ⟨show (8:Int)≠0 by decide,rfl,.inl (by decide)⟩⟩
end Go.Proofs.Ytckbdndhmcoihaa.sc
end
section
namespace Go.Proofs.Ytckbdndhmcoihaa.sc
open Go Go.K Go.Proofs.Ytckbdndhmcoihaa.nodes
structure M7 (s:b.aA):Prop where
 cl:∀ i,i < s.nodes.n->RH (s.nodes.get i).bH
 on:∀ i,i < s.nodes.n->U16 (s.nodes.get i).rf
 kind:∀ i,i < s.eo.n->JZ (s.eo.get i)
theorem M7.inn {s:b.aA} (h:M7 s) (hf:Few s):zr s:=
 ⟨fun i hi=>⟨h.cl i hi,by have:=hf.fw i hi; omega⟩,h.kind,by have:=hf.cL; omega,by have:=hf.nodes; omega,by have:=hf.eo; omega,by have:=hf.j8; omega⟩
end Go.Proofs.Ytckbdndhmcoihaa.sc
end
section
namespace Go.Proofs.Ytckbdndhmcoihaa.b
open Go.K
noncomputable section
structure fh where
 t2:Bool
 l:(Sl Place)
 p:(Sl Path)
 i:Int
 s:aA
instance:Inhabited fh:=⟨⟨default,default,default,default,default⟩⟩
def zA (x:fh):List KV:=[.bool x.t2,dq 75 FV x.l,dq 50 Cz x.p,.int .i64 x.i]
def zB (x:fh):List (List KV):=[w4 x.s]
def Gt (vs:List KV) (rs:List (List KV)):fh:=⟨eL (v9 vs 0),dM RM (v9 vs 1),dM CA (v9 vs 2),aq (v9 vs 3),w5 (r9 rs 0)⟩
def HG:aJ:=⟨[(2,w9 b9),(4,w9 (n9 75)),(6,w9 (n9 50)),(8,w9 i9)],[(1,[n9 139,n9 47,n9 64,n9 79,n9 118,i9,i9],1)],[(1,0,0)]⟩
structure eG where
 t2:Bool
 l:(Sl Place)
 p:(Sl Path)
 i:Int
 k:Int
 s:aA
 m:fT
 x:gE
instance:Inhabited eG:=⟨by constructor<;>exact default⟩
def wz (x:eG):List KV:=[.bool x.t2,dq 75 FV x.l,dq 50 Cz x.p,.int .i64 x.i,.int .i64 x.k]
def wA (x:eG):List (List KV):=[w4 x.s,ann x.m,XT x.x]
def C1 (vs:List KV) (rs:List (List KV)):eG:=⟨eL (v9 vs 0),dM RM (v9 vs 1),dM CA (v9 vs 2),aq (v9 vs 3),aq (v9 vs 4),w5 (r9 rs 0),ano (r9 rs 1),XU (r9 rs 2)⟩
def En:aJ:=⟨[(2,w9 b9),(4,w9 (n9 75)),(6,w9 (n9 50)),(8,w9 i9),(12,w9 i9)],[(1,[n9 139,n9 47,n9 64,n9 79,n9 118,i9,i9],1),(9,[i9,i9,i9,i9,i9,i9,i9,i9,i9,i9,i9,i9],1),(11,[n9 36,n9 125,n9 120],1)],[(1,0,0),(9,1,0),(11,2,0)]⟩
def M8:=AP [(15,Ir),(14,xd),(13,xt),(12,Ik),(9,wu),(8,Ej),(7,Ih),(6,Iu)] [] 5 2091326 En
def fC (x:eG):=rv x.m (x.x.az.get (Int.toNat x.k))
def uY (x:eG):=oS ((fC x).getD default).fst
def uZ (x:eG):=AA (x.l.get (Int.toNat x.i)).item.box ((fC x).getD default).fst
def e8 (x:eG):aW eG:=(cond (decide (x.k < (x.x.az.n:Int))) (cond ((decide (0<=x.k))&&(decide (x.k < (x.x.az.n:Int)))) (cond (fC x).isSome (cond (((fC x).getD default).snd != 0) (.out aG.ah.ret ⟨false,x.l,x.p,x.i,x.k,x.s,x.m,x.x⟩) (cond ((decide (0<=x.i))&&(decide (x.i < (x.l.n:Int)))) (cond ((decide (0<=x.k))&&(decide (x.k < ((x.l.get (Int.toNat x.i)).item.az.n:Int)))) (cond (!((((fC x).getD default).fst.x==((x.l.get (Int.toNat x.i)).item.az.get (Int.toNat x.k)).x)&&((((fC x).getD default).fst.y==((x.l.get (Int.toNat x.i)).item.az.get (Int.toNat x.k)).y)&&((((fC x).getD default).fst.z==((x.l.get (Int.toNat x.i)).item.az.get (Int.toNat x.k)).z)&&true)))) (.out aG.ah.ret ⟨false,x.l,x.p,x.i,x.k,x.s,x.m,x.x⟩) (cond (uY x).isSome (cond (((uY x).getD default) != 0) (.out aG.ah.ret ⟨false,x.l,x.p,x.i,x.k,x.s,x.m,x.x⟩) (cond ((decide (0<=x.i))&&(decide (x.i < (x.l.n:Int)))) (cond (uZ x).isSome (cond (!((uZ x).getD default)) (.out aG.ah.ret ⟨false,x.l,x.p,x.i,x.k,x.s,x.m,x.x⟩) (.next ⟨x.t2,x.l,x.p,x.i,(aK (x.k+1)),x.s,x.m,x.x⟩)) .fail) .fail)) .fail)) .fail) .fail)) .fail) .fail) (.out (aG.ah.exit 2) x))
theorem Ko (x:eG):M8 (wz x) (wA x)=aW.enc wz wA (e8 x):=by
 unfold e8
 try simp only [aW.cw]
 kernel_rfl
def xx:Lp:=⟨5,2091326,En,fun vs rs=>dK wz wA (goN e8 (C1 vs rs)) [aG.ah.exit 2,aG.ah.ret],false⟩
theorem C2:xx.Ok PG:=Bs (ai.cons Hg (ai.cons tM (ai.cons tP (ai.cons G5 (ai.cons uH (ai.cons Ek (ai.cons GQ (ai.cons Hh ai.nil)))))))) bj.nil (pa:=C1) Ko
def Q2:=AP [(15,Ir),(14,xd),(13,xt),(12,Ik),(9,wu),(8,Ej),(7,Ih),(6,Iu)] [xx] 5 2042 HG
def sm (x:fh):=Ay x.s (x.p.get (Int.toNat x.i))
def cZ (x:fh):=goN e8 ⟨x.t2,x.l,x.p,x.i,0,x.s,((sm x).getD default).fst,(x.s.eo.get (Int.toNat (x.s.nodes.get (Int.toNat ((x.p.get (Int.toNat x.i)).nodes.get (Int.toNat (aK (((x.p.get (Int.toNat x.i)).nodes.n:Int) - 1)))).slot)).fA))⟩
def ku (x:fh):aW fh:=(cond ((decide (0<=x.i))&&(decide (x.i < (x.p.n:Int)))) (cond (sm x).isSome (cond ((decide (0<=x.i))&&(decide (x.i < (x.p.n:Int)))) (cond ((decide (0<=x.i))&&(decide (x.i < (x.p.n:Int)))) (cond ((decide (0<=(aK (((x.p.get (Int.toNat x.i)).nodes.n:Int) - 1))))&&(decide ((aK (((x.p.get (Int.toNat x.i)).nodes.n:Int) - 1)) < ((x.p.get (Int.toNat x.i)).nodes.n:Int)))) (cond ((decide (0<=((x.p.get (Int.toNat x.i)).nodes.get (Int.toNat (aK (((x.p.get (Int.toNat x.i)).nodes.n:Int) - 1)))).slot))&&(decide (((x.p.get (Int.toNat x.i)).nodes.get (Int.toNat (aK (((x.p.get (Int.toNat x.i)).nodes.n:Int) - 1)))).slot < (x.s.nodes.n:Int)))) (cond ((decide (0<=(x.s.nodes.get (Int.toNat ((x.p.get (Int.toNat x.i)).nodes.get (Int.toNat (aK (((x.p.get (Int.toNat x.i)).nodes.n:Int) - 1)))).slot)).fA))&&(decide ((x.s.nodes.get (Int.toNat ((x.p.get (Int.toNat x.i)).nodes.get (Int.toNat (aK (((x.p.get (Int.toNat x.i)).nodes.n:Int) - 1)))).slot)).fA < (x.s.eo.n:Int)))) (cond (((sm x).getD default).snd != 0) (.out aG.ah.ret ⟨false,x.l,x.p,x.i,x.s⟩) (cond ((decide (0<=x.i))&&(decide (x.i < (x.l.n:Int)))) (cond (((x.l.get (Int.toNat x.i)).item.az.n:Int) != ((x.s.eo.get (Int.toNat (x.s.nodes.get (Int.toNat ((x.p.get (Int.toNat x.i)).nodes.get (Int.toNat (aK (((x.p.get (Int.toNat x.i)).nodes.n:Int) - 1)))).slot)).fA)).az.n:Int)) (.out aG.ah.ret ⟨false,x.l,x.p,x.i,x.s⟩) (cond ((cZ x).by (aG.ah.exit 2)) (.next ⟨(cZ x).st.t2,(cZ x).st.l,(cZ x).st.p,(aK ((cZ x).st.i+1)),(cZ x).st.s⟩) (cond ((cZ x).by aG.ah.ret) (.out aG.ah.ret ⟨(cZ x).st.t2,(cZ x).st.l,(cZ x).st.p,(cZ x).st.i,(cZ x).st.s⟩) .fail))) .fail)) .fail) .fail) .fail) .fail) .fail) .fail) .fail)
def fp (x:fh):aW fh:=(cond (decide (x.i < (x.l.n:Int))) (cond (decide (x.i > 12)) (cond (decide (x.i < (aK ((x.l.n:Int) - 2)))) (.next ⟨x.t2,x.l,x.p,(aK (x.i+1)),x.s⟩)
   (ku x))
  (ku x)) (.out (aG.ah.exit 0) x))
theorem OE (x:fh):Q2 (zA x) (zB x)=aW.enc zA zB (fp x):=by
 unfold fp ku
 try simp only [aW.cw]
 kernel_rfl
def HH:Lp:=⟨5,2042,HG,fun vs rs=>dK zA zB (goN fp (Gt vs rs)) [aG.ah.exit 0,aG.ah.ret],false⟩
theorem Q3:HH.Ok PG:=Bs (ai.cons Hg (ai.cons tM (ai.cons tP (ai.cons G5 (ai.cons uH (ai.cons Ek (ai.cons GQ (ai.cons Hh ai.nil)))))))) (rM C2 bj.nil) (pa:=Gt) OE
def Hi:List (Nat×(List KV->KR KV)):=[(15,Ir),(14,xd),(13,xt),(12,Ik),(9,wu),(8,Ej),(7,Ih),(6,Iu)]
def Hj:List Lp:=[xx,HH]
theorem WK:ai PG Hi:=(ai.cons Hg (ai.cons tM (ai.cons tP (ai.cons G5 (ai.cons uH (ai.cons Ek (ai.cons GQ (ai.cons Hh ai.nil))))))))
theorem WL:bj PG Hj:=(rM C2 (rM Q3 bj.nil))
def wB (s:aA):=Em
def Ft (s:aA):=zV s
def oE (s:aA):=wx s
def rP (s:aA):=gm s
def wC (s:aA):=goN fp ⟨false,((oE s).getD default).fst,((rP s).getD default).fst,0,s⟩
def Eo (s:aA):Option (Bool):=(cond (wB s).isSome (cond (Ft s).isSome (cond ((Ft s).getD default) (some (((wB s).getD default))) (cond (!((wB s).getD default)) (some (((wB s).getD default))) (cond (oE s).isSome (cond (rP s).isSome (cond (((oE s).getD default).snd != 0) (cond ((((oE s).getD default).fst.n:Int)==0) (cond (((rP s).getD default).snd != 0) (some (true)) (some ((((oE s).getD default).snd==20)))) (some (false))) (cond (((rP s).getD default).snd != 0) (some (false)) (cond ((((oE s).getD default).fst.n:Int) != (((rP s).getD default).fst.n:Int)) (some (false)) (cond ((wC s).by (aG.ah.exit 0)) (some (true)) (cond ((wC s).by aG.ah.ret) (some ((wC s).st.t2)) none))))) none) none))) none) none)
theorem Yw (s:aA):EN PG (ra PG Hi Hj (fun q=>Nat.beq q 3)) 9 9 5 [iY s] = (Eo s).map kB:=by
 unfold Eo
 try simp only [bG]
 kernel_rfl
theorem WM (w:Nat->KV):uM PG [34] w 0 = [iY (dC (g0 34 (w 0)))]:=by kernel_rfl
end
end Go.Proofs.Ytckbdndhmcoihaa.b
end
section
namespace Go.Proofs.Ytckbdndhmcoihaa.sc
open Go Go.K Go.aG Go.A6 Go.Proofs.Ytckbdndhmcoihaa.nodes
theorem ajE:b.Em=some true:=by kernel_rfl
theorem ah7 {s:b.aA} {p:b.Path} : ∀ n,(fV s p n).2=0->qI s p n=fV s p n
 | 0,_=>rfl
 | j+1,h=>by
  by_cases h0:(fV s p j).2=0
  ·have ih:=ah7 j h0
   have hm:qI s p (j+1)=if (nodeAt s p j).kind=2/\(qI s p j).2=0 then uC (qI s p j).1 (nodeAt s p j).mP else qI s p j:=rfl;rw [hm,ih];by_cases h2:(nodeAt s p j).kind=2
   ·rw [aD ⟨h2,h0⟩,Yl h2 h0]
   ·rw [aa fun q=>h2 q.1]
    by_cases h4:(nodeAt s p j).kind=4
    ·have e:=UA h4 h0
     rw [e] at h;have h:(gi (fV s p j).1 (nodeAt s p j).eR).2=0:=h;rw [e,h,<- h0]
    ·rw [Oz h2 h4]
  ·exfalso
   rw [RN h0] at h;exact h0 h
theorem Lc {x:b.wb} {v:b.fe} (h:A9 x v):b.AA x v=some true:=by
 obtain ⟨⟨h1,h2⟩,⟨h3,h4⟩,h5,h6⟩:=h;have e:b.El x v=some true:=by
  unfold b.El b.BM;rw [show b.nT ⟨v,v⟩ x=some ⟨⟨v.x,v.x⟩,⟨v.y,v.y⟩,⟨v.z,v.z⟩⟩ from rfl,show b.nU ⟨v,v⟩ x=some ⟨⟨x.low.x,x.high.x⟩,⟨x.low.y,x.high.y⟩,⟨x.low.z,x.high.z⟩⟩ from rfl]
  dsimp only [fj,dI,aj]
  rw [show decide (v.x < x.low.x)=false from aZ (by omega),show decide (v.x > x.high.x)=false from aZ (by omega),show decide (v.y < x.low.y)=false from aZ (by omega),show decide (v.y > x.high.y)=false from aZ (by omega),show decide (v.z < x.low.z)=false from aZ (by omega),show decide (v.z > x.high.z)=false from aZ (by omega)];rfl
 unfold b.AA;rw [e];rfl
theorem al3 {s:b.aA} {l:Sl b.Place} {p:Sl b.Path} {i:Nat} (hi:i < l.n) (m:b.fT) (x:b.gE) (hx:x.az.n<=64) (hv:(l.get i).item.az.n=x.az.n) (hk:∀ k,k < x.az.n->(gi m (x.az.get k)).2=0/\(l.get i).item.az.get k=(gi m (x.az.get k)).1) (arz:∀ k,k < (l.get i).item.az.n->A9 (l.get i).item.box ((l.get i).item.az.get k)) :
  goN b.e8 ⟨false,l,p,(i:Int),0,s,m,x⟩ = .out (.exit 2) ⟨false,l,p,(i:Int),(x.az.n:Int),s,m,x⟩:=by
 obtain ⟨e',x',q1,q2,q3⟩:=ja (step:=b.e8)
  (fun j y=>y=⟨false,l,p,(i:Int),(j:Int),s,m,x⟩) (fun e' x'=>e' = .exit 2/\x' = ⟨false,l,p,(i:Int),(x.az.n:Int),s,m,x⟩)
  x.az.n (by unfold gx; omega) (by
   rintro j _ hj rfl;have ei:Int.toNat (i:Int)=i:=rfl;have ej:Int.toNat (j:Int)=j:=rfl;by_cases bm:j < x.az.n
   ·have d0:decide ((j:Int) < (x.az.n:Int))=true:=au (by omega)
    have d1:decide ((0:Int)<=(j:Int))=true:=au (by omega);have d2:decide ((0:Int)<=(i:Int))=true:=au (by omega);have d3:decide ((i:Int) < (l.n:Int))=true:=au (by omega);have d4:decide ((j:Int) < ((l.get i).item.az.n:Int))=true:=au (by omega);have e1:aK ((j:Int)+1)=((j+1:Nat):Int):=by rw [cM (by omega) (by omega)]; omega
    obtain ⟨k1,k2⟩:=hk j bm;obtain ⟨g1,g2,g3,g4⟩:=ajr k1;have hb:=arz j (by omega);unfold b.e8 b.uY b.uZ b.fC
    dsimp only
    rw [d0,d1,d2,d3,ei,ej,d4,e1,QT,g4]
    dsimp only [fj,dI,aj]
    rw [k2,g4] at hb;rw [Gi,aD g3,Lc hb,k2,g4,(akL (Kd m (x.az.get j)) (Kd m (x.az.get j))).2 rfl];exact .inl ⟨_,rfl,by omega,rfl⟩
   ·have:j=x.az.n:=by omega
    subst this;unfold b.e8
    dsimp only
    rw [aZ (Int.lt_irrefl _)];exact .inr ⟨_,_,rfl,rfl,rfl,rfl⟩) (x:=⟨false,l,p,(i:Int),0,s,m,x⟩) rfl
 rw [q1,q2,q3]
theorem al4 {s:b.aA} {l:Sl b.Place} {p:Sl b.Path} (hb:anX s l p):∃ x',goN b.fp ⟨false,l,p,0,s⟩ = .out (.exit 0) x':=by
 have hfew:=hb.Yd;have hln:=hb.n;obtain ⟨e',x',q1,q2⟩:=ja (step:=b.fp)
  (fun j x=>x=⟨false,l,p,(j:Int),s⟩) (fun e' x'=>e' = .exit 0)
  l.n (by unfold gx; omega) (by
   rintro j _ hj rfl;have ej:Int.toNat (j:Int)=j:=rfl;by_cases bm:j < l.n
   ·have e1:aK ((j:Int)+1)=((j+1:Nat):Int):=by rw [cM (by omega) (by omega)]; omega
    have hjp:j < p.n:=by omega
    have d1:decide ((0:Int)<=(j:Int))=true:=au (by omega);have d2:decide ((j:Int) < (p.n:Int))=true:=au (by omega);have d3:decide ((j:Int) < (l.n:Int))=true:=au (by omega);obtain ⟨ks,_,_,ht⟩:=hb.way j hjp;have cI:=hb.ok j hjp;have hn:=ht.n;have hf:=ht.Yd;have hg:=cI.ua rfl;obtain ⟨w0,wv⟩:=aeo _ hg;obtain ⟨m1,m2⟩:=ht.at;obtain ⟨hm,_⟩:=ht.ok;obtain ⟨m,e,a1,a2⟩:=alS s (p.get j) ht.inn ht.on (by omega);have hme:m=(fV s (p.get j) (p.get j).nodes.n).1/\e=0:=by
     rcases a2 with ⟨_,h⟩ | ⟨h,_⟩
     ·have h3:=ah7 _ w0
      unfold ajo at h;rw [h3,aD w0] at h;simp only [dt] at h;exact h
     ·exact absurd ht.asked h
    obtain ⟨rfl,rfl⟩:=hme;have vn:(l.get j).item.az.n=(gR s (p.get j)).az.n:=by rw [cI.az]; exact Lg _ _ _ _
    have e2:aK (((p.get j).nodes.n:Int) - 1)=((p.get j).kids.n:Int):=by rw [cM (by omega) (by omega)]; omega
    have ap0:=al3 (s:=s) (l:=l) (p:=p) bm (fV s (p.get j) (p.get j).nodes.n).1 (gR s (p.get j)) hm.1.1 vn (fun k hk=>by
     obtain ⟨v1,v2⟩:=wv k hk;exact ⟨v1,by rw [cI.az]; exact v2⟩) (cI.box rfl)
    have h0:b.sm ⟨false,l,p,(j:Int),s⟩=some ((fV s (p.get j) (p.get j).nodes.n).1,0):=a1;have h1:b.cZ ⟨false,l,p,(j:Int),s⟩ = .out (.exit 2) ⟨false,l,p,(j:Int),((gR s (p.get j)).az.n:Int),s,(fV s (p.get j) (p.get j).nodes.n).1,gR s (p.get j)⟩:=by
     unfold b.cZ;rw [h0]
     dsimp only
     rw [ej,e2];exact ap0
    have hs0:b.ku ⟨false,l,p,(j:Int),s⟩ = .next ⟨false,l,p,((j+1:Nat):Int),s⟩:=by
     unfold b.ku;rw [h0,h1];rw [aW.lF]
     dsimp only [fj,dI,aj]
     rw [ej,e2,d1,d2,d3,e1];have g0:decide ((0:Int)<=((p.get j).kids.n:Int))=true:=au (by omega);have g1:decide (((p.get j).kids.n:Int) < ((p.get j).nodes.n:Int))=true:=au (by omega);obtain ⟨s1,s2⟩:=Gl ht.asked (aC (p.get j).kids.n);have s3:0<=((p.get j).nodes.get (Int.toNat ((p.get j).kids.n:Int))).slot:=s1;have s4:((p.get j).nodes.get (Int.toNat ((p.get j).kids.n:Int))).slot < (s.nodes.n:Int):=s2;have hN:s.nodes.get ((p.get j).nodes.get (Int.toNat ((p.get j).kids.n:Int))).slot.toNat=nodeAt s (p.get j) (p.get j).kids.n:=rfl;rw [g0,g1,au s3,au s4,hN,au m1,au m2];have hM:s.eo.get (nodeAt s (p.get j) (p.get j).kids.n).fA.toNat=gR s (p.get j):=rfl;rw [hM,show (((l.get j).item.az.n:Int) != ((gR s (p.get j)).az.n:Int))=false by rw [bne_eq_false_iff_eq,vn]];rfl
    unfold b.fp;rw [hs0]
    dsimp only
    rw [d3,e1];refine .inl ⟨_,?_,by omega,rfl⟩;cases decide ((j:Int) > 12) with
    | false=>rfl
    | true=>cases decide ((j:Int) < aK ((l.n:Int) - 2)) <;> rfl
   ·have:j=l.n:=by omega
    subst this;unfold b.fp
    dsimp only
    rw [aZ (Int.lt_irrefl _)];exact .inr ⟨_,_,rfl,rfl,rfl⟩) (x:=⟨false,l,p,0,s⟩) rfl
 subst q2;exact ⟨x',q1⟩
theorem acY (s:b.aA) (hs:M7 s):b.Eo s=some true:=by
 unfold b.Eo;obtain ⟨g,g1,g2⟩:=ahN s;have e0:b.wB s=some true:=ajE;have e1:b.Ft s=some g:=g1;rw [e0,e1];simp only [fj,dI,aj,aH,Bool.not_true];cases g with
 | true=>rfl
 | false=>
  have hf:=g2 rfl;obtain ⟨l,e,p,f,h1,h2,h3⟩:=ah6 (hs.inn hf) hs.on;have e2:b.oE s=some (l,e):=h1;have e3:b.rP s=some (p,f):=h2;have e4:b.wC s=goN b.fp ⟨false,l,p,0,s⟩:=by
   unfold b.wC;rw [e2,e3];rfl
  rw [e2,e3,e4];simp only [fj,dI,aj,aH];rcases h3 with ⟨he,hn,hc⟩ | ⟨rfl,rfl,hb⟩
  ·rw [neI.2 he,hn]
   rcases hc with hc | rfl
   ·rw [neI.2 hc]; rfl
   ·cases (f != 0) <;> rfl
  ·rw [show ((0:Int) != 0)=false from rfl,show ((l.n:Int) != (p.n:Int))=false by rw [bne_eq_false_iff_eq,hb.n]]
   obtain ⟨x',q⟩:=al4 hb;rw [q];rfl
end Go.Proofs.Ytckbdndhmcoihaa.sc
end
section
namespace Go.Proofs.Ytckbdndhmcoihaa.sc
open Go Go.K Go.Proofs.Ytckbdndhmcoihaa.nodes
theorem Q4 {P:Program} : ∀ {l:List KV},BX P l->∀ v∈l,GL P v
 | [],_,v,hv=>by simp at hv
 | x::l,h,v,hv=>by
  simp only [BX] at h;rcases de.1 hv with rfl | hv
  ·exact h.1
  ·exact Q4 h.2 v hv
theorem Q5 {P:Program} {ks:List CK} {v:KV} (h:cv ⟨true,ks⟩ v=true) (hw:RU P v) (hd:GL P v) {j:Nat} {c:CK} (hj:ks[j]? = some c):K.kindOk c (v.cells.getD j .bh)=true/\RU P (v.cells.getD j .bh)/\GL P (v.cells.getD j .bh):=by
 obtain ⟨cs,rfl,hk⟩:=alx h;obtain ⟨u,h1,h2⟩:=Ds hk hj;have e:(KV.agg cs).cells.getD j .bh=u:=by
  show cs.getD j .bh=u;rw [fH,h1];rfl
 have hm:=gu h1;rw [e];have hd' : BX P cs:=by simpa [GL] using hd
 have hw' : Ew P cs:=by simpa [RU] using hw
 exact ⟨h2,XM hw' u hm,Q4 hd' u hm⟩
theorem ajF {P:Program} {v:KV} {T:TypeId} (h:K.kindOk (.slice T) v=true) (hw:RU P v) (hd:GL P v) {i:Nat} (hi:i < lenOf v):cv (aQ P T) (AI v i)=true/\RU P (AI v i)/\GL P (AI v i):=by
 cases v with
 | ts t m n es acc=>
  have ht:T=t:=by
   cases m <;> simp [K.kindOk] at h;exact h
  subst ht;simp only [GL] at hd;simp only [RU] at hw;obtain ⟨ajG,arA⟩:=hd;have hi:i < n:=hi;have hl:i < es.length:=by rw [<- ajG.len]; exact hi
  have e:acc i=es.getD i .bh:=ajG.acc i hi;have e2:es.getD i .bh=es[i]:=by rw [fH,cJ hl]; rfl
  show cv (aQ P T) (acc i)=true/\RU P (acc i)/\GL P (acc i);rw [e,e2];exact ⟨gL ajG.typed (cJ hl),XM hw.2.1 _ (Rb hl),Q4 arA _ (Rb hl)⟩
 | _=>simp [K.kindOk] at h
theorem Yx {P:Program} {v:KV} (h:K.kindOk (.int .u8) v=true) (hw:RU P v):0<=aq v/\aq v<=255:=by
 cases v with
 | int k n=>
  have hk:k = .u8:=by
   have:decide (IntKind.u8=k)=true:=h;exact (Q7 this).symm
  subst hk;have h:(Lit.int .u8 n).wf=true:=hw;simp only [Lit.wf,ao,l9] at h;show 0<=n/\n<=255;exact h
 | _=>simp [K.kindOk] at h
theorem aoI {P:Program} {v:KV} (h:K.kindOk (.int .u16) v=true) (hw:RU P v):0<=aq v/\aq v<=65535:=by
 cases v with
 | int k n=>
  have hk:k = .u16:=by
   have:decide (IntKind.u16=k)=true:=h;exact (Q7 this).symm
  subst hk;have h:(Lit.int .u16 n).wf=true:=hw;simp only [Lit.wf,ao,l9] at h;show 0<=n/\n<=65535;exact h
 | _=>simp [K.kindOk] at h
noncomputable abbrev Ep (a:KV):b.aA:=b.dC (gV Try.prog (b8 Try.prog du) 34 a)
theorem ap1:aQ Try.prog 34=⟨true,[.slice 139,.slice 47,.slice 64,.slice 79,.slice 118,.int .i64,.int .i64]⟩:=by kernel_rfl
theorem ap2:∃ ks,aQ Try.prog 64=⟨true,ks⟩/\ks[13]? = some (.int .u16)/\ks[19]? = some (.int .u8)/\ks[20]? = some (.int .u8)/\ks[21]? = some (.int .u8)/\ks[22]? = some (.int .u8)/\ks[23]? = some (.int .u8):=⟨(aQ Try.prog 64).ks,by kernel_rfl,by kernel_rfl,by kernel_rfl,by kernel_rfl,by kernel_rfl,by kernel_rfl,by kernel_rfl⟩
theorem ap3:∃ ks,aQ Try.prog 79=⟨true,ks⟩/\ks[2]? = some (.slice 120):=⟨(aQ Try.prog 79).ks,by kernel_rfl,by kernel_rfl⟩
theorem anY:∃ ks,aQ Try.prog 120=⟨true,ks⟩/\ks[0]? = some (.int .u8):=⟨(aQ Try.prog 120).ks,by kernel_rfl,by kernel_rfl⟩
theorem al5 (a:KV):(Ep a).nodes.n=lenOf (a.cells.getD 2 .bh):=by kernel_rfl
theorem ajH (a:KV):(Ep a).eo.n=lenOf (a.cells.getD 3 .bh):=by kernel_rfl
theorem ap4 (a:KV) (i:Nat):((Ep a).nodes.get i).rf=aq ((AI (a.cells.getD 2 .bh) i).cells.getD 13 .bh):=by kernel_rfl
theorem aoJ (a:KV) (i:Nat):((Ep a).nodes.get i).bH.cl=⟨aq ((AI (a.cells.getD 2 .bh) i).cells.getD 19 .bh),aq ((AI (a.cells.getD 2 .bh) i).cells.getD 20 .bh),aq ((AI (a.cells.getD 2 .bh) i).cells.getD 21 .bh),aq ((AI (a.cells.getD 2 .bh) i).cells.getD 22 .bh),aq ((AI (a.cells.getD 2 .bh) i).cells.getD 23 .bh)⟩:=by kernel_rfl
theorem al6 (a:KV) (i:Nat):((Ep a).eo.get i).gd.n=lenOf ((AI (a.cells.getD 3 .bh) i).cells.getD 2 .bh):=by kernel_rfl
theorem anZ (a:KV) (i k:Nat):(((Ep a).eo.get i).gd.get k).kind=aq ((AI ((AI (a.cells.getD 3 .bh) i).cells.getD 2 .bh) k).cells.getD 0 .bh):=by kernel_rfl
theorem ajI {a:KV} (h:cv (aQ Try.prog 34) a=true) (hw:RU Try.prog a) (hd:GL Try.prog a):M7 (Ep a):=by
 rw [ap1] at h;obtain ⟨i1,i2,i3⟩:=Q5 h hw hd (j:=2) rfl;obtain ⟨t1,t2,t3⟩:=Q5 h hw hd (j:=3) rfl;obtain ⟨ks,l0,l13,l19,l20,l21,l22,l23⟩:=ap2;obtain ⟨kt,m0,m2⟩:=ap3;obtain ⟨kp,n0,n1⟩:=anY;have node:∀ i,i < (Ep a).nodes.n->∀ j c,ks[j]? = some c->K.kindOk c ((AI (a.cells.getD 2 .bh) i).cells.getD j .bh)=true/\RU Try.prog ((AI (a.cells.getD 2 .bh) i).cells.getD j .bh):=fun i hi j c hj=>by
  rw [al5] at hi;obtain ⟨q1,q2,q3⟩:=ajF i1 i2 i3 hi;rw [l0] at q1;obtain ⟨r1,r2,_⟩:=Q5 q1 q2 q3 hj;exact ⟨r1,r2⟩
 refine ⟨fun i hi=>?_,fun i hi=>?_,fun i hi k hk=>?_⟩
 ·unfold RH
  rw [aoJ];exact ⟨Yx (node i hi 19 _ l19).1 (node i hi 19 _ l19).2,Yx (node i hi 20 _ l20).1 (node i hi 20 _ l20).2,Yx (node i hi 21 _ l21).1 (node i hi 21 _ l21).2,Yx (node i hi 22 _ l22).1 (node i hi 22 _ l22).2,Yx (node i hi 23 _ l23).1 (node i hi 23 _ l23).2⟩
 ·rw [ap4]
  exact aoI (node i hi 13 _ l13).1 (node i hi 13 _ l13).2
 ·rw [ajH] at hi
  obtain ⟨q1,q2,q3⟩:=ajF t1 t2 t3 hi;rw [m0] at q1;obtain ⟨r1,r2,r3⟩:=Q5 q1 q2 q3 m2;rw [al6] at hk;obtain ⟨c1,c2,c3⟩:=ajF r1 r2 r3 hk;rw [n0] at c1;rw [anZ];obtain ⟨x0,y0,_⟩:=Q5 c1 c2 c3 n1;exact (Yx x0 y0).1
theorem acZ {P:Program} : ∀ {ts:List TypeId} {xs:List KV} {i:Nat} {t:TypeId},mc P ts xs=true->Ew P xs->BX P xs->ts[i]? = some t->cv (aQ P t) (xs.getD i .bh)=true/\RU P (xs.getD i .bh)/\GL P (xs.getD i .bh)
 | [],_,_,_,_,_,_,h=>by simp at h
 | _::_,[],_,_,h,_,_,_=>by simp [mc] at h
 | t::ts,v::vs,i,u,h,hw,hd,ht=>by
  simp only [mc,ao] at h;cases i with
  | zero=>
   rw [List.getElem?_cons_zero] at ht;rw [<- HI ht];exact ⟨h.1,hw.1,hd.1⟩
  | succ i=>
   rw [M9] at ht;have:=acZ (ts:=ts) (xs:=vs) (i:=i) h.2 hw.2 hd.2 ht;rw [List.getD_cons_succ];exact this
theorem ajJ {ts:List TypeId} {xs:List KV} (i:Nat) (ht:ts[i]? = some 34) (h:mc Try.prog ts xs=true) (hw:Ew Try.prog xs) (hd:BX Try.prog xs):M7 (Ep (xs.getD i .bh)):=by
 obtain ⟨h1,h2,h3⟩:=acZ h hw hd ht;exact ajI h1 h2 h3
end Go.Proofs.Ytckbdndhmcoihaa.sc
end
section
namespace Go.aG
open Go.RowKit Go.WideShapes Go.ChangeShapes
theorem ah8 {H:Type} {enc:TypeId×Value->H} {P:Program} {f:Func} {s:ChangeSpec} {apart fresh handsOn again:Bool} {W W' : World} {args:Array Value} {v:Value} {ds gs:List (DataW H)} {before pa pv:List MemPlace}
  (whole:DataW.Whole enc P f.params.toList s.vars apart W args.toList ds gs before) (below:Below W.heap.size W W') (aar:before=pa++pv)
  (res:∀ (b:Nat) (sp:Nat->Bool) (hd:Bool),DataW.TrodAll enc P W' b sp hd f.resultTypes.toList (v.resultList f.resultTypes.size) (s.fn H (ds++gs)).results [])
  (arg:∀ sp:Nat->Bool,(∀ p∈before,sp p.block=true)->DataW.TrodAll enc P W' 0 sp true f.params.toList args.toList (s.fn H (ds++gs)).args pa)
  (var:∀ sp:Nat->Bool,(∀ p∈before,sp p.block=true)->DataW.TrodVars enc P W' sp s.vars (s.fn H (ds++gs)).vars pv)
  (wide:∀ (j:Nat) (t:TypeId) (r:Value),f.resultTypes[j]? = some t->(v.resultList f.resultTypes.size)[j]? = some r->Value.okWide P W' .any 0 t r) :
  s.post enc P f apart fresh handsOn again W args v W':=by
 have lt:∀ p∈before,p.block < W.heap.size:=fun p hp=>whole.lt p hp;have eV:∀ p∈before,(fun b=>decide (b < W.heap.size)) p.block=true:=fun p hp=>by simpa using lt p hp
 refine ⟨ds,gs,before,[],pa,pv,whole,res _ _ _,arg _ eV,var _ eV,World.keptBut_mono (fun p hp=>⟨hp,?_⟩) (below.frame (·∈before)),fun _=>?_⟩
 ·rw [aar,jM] at hp; exact Or.inr hp
 ·obtain ⟨_,_,_,_,_,fz,nd⟩:=whole
  refine ⟨wide,_,_,([]++pa)++pv,⟨[]++pa,pv,trodAll_append (arg _ (fun _ _=>rfl)) (res _ _ _),var _ (fun _ _=>rfl),rfl,fun b off hp=>?_,fun ha=>?_⟩,fun p hp _=>?_⟩
  ·have here:MemPlace.cell b off∈before:=by rw [aar]; simpa using hp
   rw [below.frozen (lt _ here)];exact fz b off here
  ·have:=nd ha
   rw [aar] at this;simpa using this
  ·rw [aar]; simpa using hp
end Go.aG
end
section
namespace Go.K
open Go Go.aG Go.RowKit Go.WideShapes Go.ChangeShapes
section
variable {H:Type} {enc:TypeId×Value->H} {P:Program} {W W' : World}
theorem WN {base:Nat} {sp:Nat->Bool} {held:Bool} : ∀ {ts:List TypeId} {vs:List Value} {ds:List (DataW H)} {ps:List MemPlace},DataW.TrodAll enc P W base sp held ts vs ds ps->ds.length=ts.length
 | [],_,_,_,h=>by
  obtain ⟨rfl,rfl,rfl⟩:=trodAll_nil h;rfl
 | t::ts,vs,ds,ps,h=>by
  obtain ⟨v,vs1,d,ds1,a,b,rfl,rfl,rfl,_,h2⟩:=trodAll_cons h;simp [WN h2]
theorem al8 {α:Type} {n:Nat} {l:List α} (h:l.length=n+1):∃ x xs,l=x::xs:=by
 cases l with
 | nil=>simp at h
 | cons x xs=>exact ⟨x,xs,rfl⟩
theorem Q6 (hl:laidOutB P=true) (hb:Below W.heap.size W W') {sp:Nat->Bool} : ∀ {ts:List TypeId} {vs:List Value} {ds:List (DataW H)} {ps:List MemPlace},ts.all (fun t=>P.readableRec t&&Nat.blt t P.types.size)=true->
  DataW.TrodAll enc P W 0 (fun _=>true) true ts vs ds ps->(∀ x∈ps,x.block < W.heap.size)->(∀ x∈ps,sp x.block=true)->DataW.TrodAll enc P W' 0 sp true ts vs ds ps
 | [],_,_,_,_,h,_,_=>by
  obtain ⟨rfl,rfl,rfl⟩:=trodAll_nil h;exact trodAll_mk0
 | t::ts,vs,ds,ps,ht,h,bm,Gv=>by
  obtain ⟨v,vs1,d,ds1,a,b,rfl,rfl,rfl,h1,h2⟩:=trodAll_cons h;simp only [List.all_cons,ao] at ht;obtain ⟨⟨hr,fv⟩,ht⟩:=ht;rw [bI] at fv;refine ⟨a,b,WideElems.Trod_stays hl hr fv h1 (fun x hx=>hb.same (bm x (by simp [hx]))) (fun x hx=>Gv x (by simp [hx])),?_,rfl⟩;exact Q6 hl hb ht h2 (fun x hx=>bm x (by simp [hx])) (fun x hx=>Gv x (by simp [hx]))
theorem al9 {s:ChangeSpec} {f:Func} {apart fresh handsOn again:Bool} {args:Array Value} {ds gs:List (DataW H)} {before:List MemPlace} (hl:laidOutB P=true) (hts:f.params.toList.all (fun t=>P.readableRec t&&Nat.blt t P.types.size)=true)
  (an0:s.vars = []) (ap5:(s.fn H ds).args=ds) (agQ:(s.fn H ds).results = [.lit (.bool true)]) (hv:(s.fn H ds).vars = []) {t:TypeId} (hrt:f.resultTypes = #[t]) (hb:P.underlying t=some .bool)
  (hW:DataW.Whole enc P f.params.toList s.vars apart W args.toList ds gs before) (hg:Below W.heap.size W W'):s.post enc P f apart fresh handsOn again W args (.bool true) W':=by
 have hW':=hW;obtain ⟨p,q,hA,hV,apo,_,_⟩:=hW;rw [an0] at hV;obtain ⟨rfl,rfl⟩:=trodVars_none hV;rw [yH] at apo;subst apo;have bm:∀ x∈before,x.block < W.heap.size:=fun x hx=>hW'.lt x (by simpa using hx);refine aG.ah8 (pa:=before) (pv:=[]) hW' hg (by simp) (fun b sp hd=>?_) (fun sp Gv=>?_) (fun sp Gv=>?_) (ok_one hrt rfl (okWide_bool_mk hb _))
 ·rw [yH,agQ,hrt]
  exact trodAll_cons_mk (shut_bool hb _) trodAll_mk0
 ·rw [yH,ap5]
  exact Q6 hl hg hts hA bm (fun x hx=>Gv x (by simpa using hx))
 ·rw [yH,hv,an0]
  rfl
end
end Go.K
end
