/- Part of the proof of ImageColors: a machine that runs the program's code over open terms, shown to be the model's, and the plain models of its functions. No conditions. -/
import Derived.Test.YtahhdndhkgbcjaaIp
section
namespace Go.Proofs.Ytahhdndhkgbcjaa.b
open Go.K
set_option linter.unusedVariables false
set_option linter.unusedSimpArgs false
noncomputable section
structure bo where
 data:(Sl aU)
 a:Int
 b:Int
 n:Int
 held:aB
instance:Inhabited bo:=⟨⟨default,default,default,default,default⟩⟩
def jM (x:bo):List KV:=[jf 58 iJ x.data,.int .i64 x.a,.int .i64 x.b,.int .i64 x.n,.fn (.func 77) [] [.ptr 0 0]]
def jN (x:bo):List (List KV):=[cX x.held]
def qL (vs:List KV) (rs:List (List KV)):bo:=⟨iQ jh (vs.getD 0 .aw),intOf (vs.getD 1 .aw),intOf (vs.getD 2 .aw),intOf (vs.getD 3 .aw),cY (fun k=>(rs.getD 0 []).getD k .aw)⟩
def rK:aQ:=⟨[(0,⟨false,[.arr 58]⟩),(1,⟨false,[.k (.int .i64)]⟩),(2,⟨false,[.k (.int .i64)]⟩),(3,⟨false,[.k (.int .i64)]⟩),(4,⟨false,[.ref (.fn (.func 77) [] [.ptr 0 0])]⟩)],[(100004,[.k (.slice 45),.k (.slice 108),.k (.slice 139)],1)],[]⟩
structure cG where
 data:(Sl aU)
 a:Int
 b:Int
 n:Int
 i:Int
 eO:aB
instance:Inhabited cG:=⟨⟨default,default,default,default,default,default⟩⟩
def jl (x:cG):List KV:=[jf 58 iJ x.data,.int .i64 x.a,.int .i64 x.b,.int .i64 x.n,.fn (.func 77) [] [.ptr 0 0],.int .i64 x.i]
def jm (x:cG):List (List KV):=[cX x.eO]
def pD (vs:List KV) (rs:List (List KV)):cG:=⟨iQ jh (vs.getD 0 .aw),intOf (vs.getD 1 .aw),intOf (vs.getD 2 .aw),intOf (vs.getD 3 .aw),intOf (vs.getD 5 .aw),cY (fun k=>(rs.getD 0 []).getD k .aw)⟩
def qq:aQ:=⟨[(0,⟨false,[.arr 58]⟩),(1,⟨false,[.k (.int .i64)]⟩),(2,⟨false,[.k (.int .i64)]⟩),(3,⟨false,[.k (.int .i64)]⟩),(4,⟨false,[.ref (.fn (.func 77) [] [.ptr 0 0])]⟩),(10,⟨false,[.k (.int .i64)]⟩)],[(100004,[.k (.slice 45),.k (.slice 108),.k (.slice 139)],1)],[]⟩
def yj:=py Try.prog (bu Try.prog [(35,cc)] [] (fun q=>Nat.beq q 58)) 9 9 144 6 (fh Try.prog 144 6) qq
def dj (x:cG):aI cG:=
 (cond (decide (x.i < x.n))
 (cond ((decide ((0:Int)≤(aj (x.b+x.i))))&&(decide ((aj (x.b+x.i)) < ((x.data.n:Nat):Int))))
 (cond ((decide ((0:Int)≤(aj (x.a+x.i))))&&(decide ((aj (x.a+x.i)) < ((x.data.n:Nat):Int))))
 (cond ((decide ((0:Int)≤(aj (x.a+x.i))))&&(decide ((aj (x.a+x.i)) < ((x.data.n:Nat):Int))))
 (cond ((decide ((0:Int)≤(aj (x.b+x.i))))&&(decide ((aj (x.b+x.i)) < ((x.data.n:Nat):Int))))
 (cond (av x.data.n x.data.n)
 (.next (⟨((x.data.set (0+(Int.toNat (aj (x.a+x.i)))) (x.data.get (0+(Int.toNat (aj (x.b+x.i)))))).set (0+(Int.toNat (aj (x.b+x.i)))) (x.data.get (0+(Int.toNat (aj (x.a+x.i)))))),x.a,x.b,x.n,(aj (x.i+(1:Int))),x.eO⟩:cG))
 .fail)
 .fail)
 .fail)
 .fail)
 .fail)
 (cond (av x.data.n x.data.n)
 (.out (aE.aq.exit 0) x)
 .fail))
theorem wR (x:cG):yj (jl x) (jm x)=aI.enc jl jm (dj x):=by
 unfold dj
 try simp only [aI.dn,Mf,Md]
 kernel_rfl
def jD:Lp:=⟨144,6,qq,fun vs rs=>dL jl jm (goN dj (pD vs rs)) [aE.aq.exit 0],true⟩
theorem yk:jD.Ok Try.prog:=lk funcs mixed (ao.cons bI ao.nil) az.nil (L:=9) (n:=9) (step:=dj) (ev:=jl) (er:=jm) (pa:=pD) rfl (fun wv wr=>⟨by kernel_rfl,by kernel_rfl⟩) wR
theorem wk:cC Try.prog jD.f jD.p=true:=by kernel_rfl
def zv:=EZ Try.prog (bu Try.prog [(35,cc)] [jD] (fun q=>Nat.beq q 58)) 9 9 144 rK
def dh (x:bo):(aI cG):=(goN dj (⟨x.data,x.a,x.b,x.n,(0:Int),x.held⟩:cG))
def jn (x:bo):aI bo:=
 (cond (av x.data.n x.data.n)
 (cond ((dh x).by (aE.aq.exit 0))
 (cond (av (dh x).st.data.n (dh x).st.data.n)
 (.out aE.aq.ret (⟨(dh x).st.data,(dh x).st.a,(dh x).st.b,(dh x).st.n,(dh x).st.eO⟩:bo))
 .fail)
 .fail)
 .fail)
theorem yl (x:bo):zv (jM x) (jN x)=aI.enc jM jN (jn x):=by
 unfold jn
 try simp only [aI.dn]
 kernel_rfl
def eS (x:bo):aI bo:=jn x
def nh:Fc:=⟨144,rK,fun vs rs=>dL jM jN (eS (qL vs rs)) [aE.aq.ret]⟩
theorem qt:nh.Ok Try.prog:=Bd funcs mixed (ao.cons bI ao.nil) (az.cons yk wk az.nil) (L:=9) (n:=9) (step:=eS) (ev:=jM) (er:=jN) (pa:=qL) rfl (fun wv wr=>⟨by kernel_rfl,by kernel_rfl⟩) yl
structure bD where
 data:(Sl aU)
 a:Int
 m:Int
 b:Int
 held:aB
instance:Inhabited bD:=⟨⟨default,default,default,default,default⟩⟩
def lu (x:bD):List KV:=[jf 58 iJ x.data,.int .i64 x.a,.int .i64 x.m,.int .i64 x.b,.fn (.func 77) [] [.ptr 0 0]]
def lv (x:bD):List (List KV):=[cX x.held]
def sY (vs:List KV) (rs:List (List KV)):bD:=⟨iQ jh (vs.getD 0 .aw),intOf (vs.getD 1 .aw),intOf (vs.getD 2 .aw),intOf (vs.getD 3 .aw),cY (fun k=>(rs.getD 0 []).getD k .aw)⟩
def tR:aQ:=⟨[(0,⟨false,[.arr 58]⟩),(1,⟨false,[.k (.int .i64)]⟩),(2,⟨false,[.k (.int .i64)]⟩),(3,⟨false,[.k (.int .i64)]⟩),(4,⟨false,[.ref (.fn (.func 77) [] [.ptr 0 0])]⟩)],[(100004,[.k (.slice 45),.k (.slice 108),.k (.slice 139)],1)],[]⟩
structure bS where
 data:(Sl aU)
 a:Int
 m:Int
 b:Int
 i:Int
 j:Int
 eO:aB
instance:Inhabited bS:=⟨⟨default,default,default,default,default,default,default⟩⟩
def jO (x:bS):List KV:=[jf 58 iJ x.data,.int .i64 x.a,.int .i64 x.m,.int .i64 x.b,.fn (.func 77) [] [.ptr 0 0],.int .i64 x.i,.int .i64 x.j]
def jP (x:bS):List (List KV):=[cX x.eO]
def qM (vs:List KV) (rs:List (List KV)):bS:=⟨iQ jh (vs.getD 0 .aw),intOf (vs.getD 1 .aw),intOf (vs.getD 2 .aw),intOf (vs.getD 3 .aw),intOf (vs.getD 5 .aw),intOf (vs.getD 6 .aw),cY (fun k=>(rs.getD 0 []).getD k .aw)⟩
def rL:aQ:=⟨[(0,⟨false,[.arr 58]⟩),(1,⟨false,[.k (.int .i64)]⟩),(2,⟨false,[.k (.int .i64)]⟩),(3,⟨false,[.k (.int .i64)]⟩),(4,⟨false,[.ref (.fn (.func 77) [] [.ptr 0 0])]⟩),(10,⟨false,[.k (.int .i64)]⟩),(11,⟨false,[.k (.int .i64)]⟩)],[(100004,[.k (.slice 45),.k (.slice 108),.k (.slice 139)],1)],[]⟩
def zw:=py Try.prog (bu Try.prog [(35,cc)] [] (fun q=>Nat.beq q 58) false false [nh]) 9 9 135 28 (fh Try.prog 135 28) rL
def fE (x:bS):(aI bo):=(eS (⟨x.data,(aj (x.m - x.i)),x.m,x.j,x.eO⟩:bo))
def fF (x:bS):(aI bo):=(eS (⟨x.data,(aj (x.m - x.i)),(aj ((aj (x.m+x.j)) - x.i)),x.i,x.eO⟩:bo))
def dy (x:bS):aI bS:=
 (cond (x.i != x.j)
 (cond (decide (x.i > x.j))
 (cond (av x.data.n x.data.n)
 (cond ((fE x).by aE.aq.ret)
 (cond (av (fE x).st.data.n x.data.n)
 (.next (⟨(fE x).st.data,x.a,x.m,x.b,(aj (x.i - x.j)),x.j,(fE x).st.held⟩:bS))
 .fail)
 .fail)
 .fail)
 (cond (av x.data.n x.data.n)
 (cond ((fF x).by aE.aq.ret)
 (cond (av (fF x).st.data.n x.data.n)
 (.next (⟨(fF x).st.data,x.a,x.m,x.b,x.i,(aj (x.j - x.i)),(fF x).st.held⟩:bS))
 .fail)
 .fail)
 .fail))
 (cond (av x.data.n x.data.n)
 (.out (aE.aq.exit 0) x)
 .fail))
theorem ym (x:bS):zw (jO x) (jP x)=aI.enc jO jP (dy x):=by
 unfold dy
 try simp only [aI.dn]
 kernel_rfl
def ko:Lp:=⟨135,28,rL,fun vs rs=>dL jO jP (goN dy (qM vs rs)) [aE.aq.exit 0],true⟩
theorem zx:ko.Ok Try.prog:=lk funcs mixed (ao.cons bI ao.nil) az.nil (L:=9) (n:=9) (step:=dy) (ev:=jO) (er:=jP) (pa:=qM) rfl (fun wv wr=>⟨by kernel_rfl,by kernel_rfl⟩) ym (BJ:=(fP.cons qt fP.nil))
theorem xR:cC Try.prog ko.f ko.p=true:=by kernel_rfl
def BQ:=EZ Try.prog (bu Try.prog [(35,cc)] [ko] (fun q=>Nat.beq q 58) false false [nh]) 9 9 135 tR
def bB (x:bD):(aI bS):=(goN dy (⟨x.data,x.a,x.m,x.b,(aj (x.m - x.a)),(aj (x.b - x.m)),x.held⟩:bS))
def gC (x:bD):(aI bo):=(eS (⟨(bB x).st.data,(aj ((bB x).st.m - (bB x).st.i)),(bB x).st.m,(bB x).st.i,(bB x).st.eO⟩:bo))
def kr (x:bD):aI bD:=
 (cond (av x.data.n x.data.n)
 (cond ((bB x).by (aE.aq.exit 0))
 (cond (av (bB x).st.data.n (bB x).st.data.n)
 (cond ((gC x).by aE.aq.ret)
 (cond (av (gC x).st.data.n (bB x).st.data.n)
 (.out aE.aq.ret (⟨(gC x).st.data,(bB x).st.a,(bB x).st.m,(bB x).st.b,(gC x).st.held⟩:bD))
 .fail)
 .fail)
 .fail)
 .fail)
 .fail)
theorem Ak (x:bD):BQ (lu x) (lv x)=aI.enc lu lv (kr x):=by
 unfold kr
 try simp only [aI.dn]
 kernel_rfl
def dZ (x:bD):aI bD:=kr x
def eP:Fc:=⟨135,tR,fun vs rs=>dL lu lv (dZ (sY vs rs)) [aE.aq.ret]⟩
theorem ff:eP.Ok Try.prog:=Bd funcs mixed (ao.cons bI ao.nil) (az.cons zx xR az.nil) (L:=9) (n:=9) (step:=dZ) (ev:=lu) (er:=lv) (pa:=sY) rfl (fun wv wr=>⟨by kernel_rfl,by kernel_rfl⟩) Ak (BJ:=(fP.cons qt fP.nil))
structure bh where
 data:(Sl aU)
 a:Int
 b:Int
 held:aB
instance:Inhabited bh:=⟨⟨default,default,default,default⟩⟩
def iA (x:bh):List KV:=[jf 58 iJ x.data,.int .i64 x.a,.int .i64 x.b,.fn (.func 77) [] [.ptr 0 0]]
def iB (x:bh):List (List KV):=[cX x.held]
def oI (vs:List KV) (rs:List (List KV)):bh:=⟨iQ jh (vs.getD 0 .aw),intOf (vs.getD 1 .aw),intOf (vs.getD 2 .aw),cY (fun k=>(rs.getD 0 []).getD k .aw)⟩
def pg:aQ:=⟨[(0,⟨false,[.arr 58]⟩),(1,⟨false,[.k (.int .i64)]⟩),(2,⟨false,[.k (.int .i64)]⟩),(3,⟨false,[.ref (.fn (.func 77) [] [.ptr 0 0])]⟩)],[(100003,[.k (.slice 45),.k (.slice 108),.k (.slice 139)],1)],[]⟩
structure bL where
 data:(Sl aU)
 a:Int
 b:Int
 i:Int
 dU:aB
instance:Inhabited bL:=⟨⟨default,default,default,default,default⟩⟩
def gX (x:bL):List KV:=[jf 58 iJ x.data,.int .i64 x.a,.int .i64 x.b,.fn (.func 77) [] [.ptr 0 0],.int .i64 x.i]
def gY (x:bL):List (List KV):=[cX x.dU]
def nT (vs:List KV) (rs:List (List KV)):bL:=⟨iQ jh (vs.getD 0 .aw),intOf (vs.getD 1 .aw),intOf (vs.getD 2 .aw),intOf (vs.getD 4 .aw),cY (fun k=>(rs.getD 0 []).getD k .aw)⟩
def oh:aQ:=⟨[(0,⟨false,[.arr 58]⟩),(1,⟨false,[.k (.int .i64)]⟩),(2,⟨false,[.k (.int .i64)]⟩),(3,⟨false,[.ref (.fn (.func 77) [] [.ptr 0 0])]⟩),(8,⟨false,[.k (.int .i64)]⟩)],[(100003,[.k (.slice 45),.k (.slice 108),.k (.slice 139)],1)],[]⟩
structure bC where
 data:(Sl aU)
 a:Int
 b:Int
 i:Int
 j:Int
 dU:aB
instance:Inhabited bC:=⟨⟨default,default,default,default,default,default⟩⟩
def gJ (x:bC):List KV:=[jf 58 iJ x.data,.int .i64 x.a,.int .i64 x.b,.fn (.func 77) [] [.ptr 0 0],.int .i64 x.i,.int .i64 x.j]
def gK (x:bC):List (List KV):=[cX x.dU]
def nq (vs:List KV) (rs:List (List KV)):bC:=⟨iQ jh (vs.getD 0 .aw),intOf (vs.getD 1 .aw),intOf (vs.getD 2 .aw),intOf (vs.getD 4 .aw),intOf (vs.getD 5 .aw),cY (fun k=>(rs.getD 0 []).getD k .aw)⟩
def nH:aQ:=⟨[(0,⟨false,[.arr 58]⟩),(1,⟨false,[.k (.int .i64)]⟩),(2,⟨false,[.k (.int .i64)]⟩),(3,⟨false,[.ref (.fn (.func 77) [] [.ptr 0 0])]⟩),(8,⟨false,[.k (.int .i64)]⟩),(9,⟨false,[.k (.int .i64)]⟩)],[(100003,[.k (.slice 45),.k (.slice 108),.k (.slice 139)],1)],[]⟩
def ud:=py Try.prog (bu Try.prog [(35,cc)] [] (fun q=>Nat.beq q 58)) 9 9 122 402 (fh Try.prog 122 402) nH
def gw (x:bC):(Option Int):=(eD (x.dU.cN.items.get (Int.toNat (x.data.get (0+(Int.toNat x.j))).item)).look.bin (x.dU.cN.items.get (Int.toNat (x.data.get (0+(Int.toNat (aj (x.j - (1:Int)))))).item)).look.bin)
def cp (x:bC):aI bC:=
 (cond (decide (x.j > x.a))
 (cond ((decide ((0:Int)≤x.j))&&(decide (x.j < ((x.data.n:Nat):Int))))
 (cond ((decide ((0:Int)≤(aj (x.j - (1:Int)))))&&(decide ((aj (x.j - (1:Int))) < ((x.data.n:Nat):Int))))
 (cond ((decide ((0:Int)≤(x.data.get (0+(Int.toNat x.j))).item))&&(decide ((x.data.get (0+(Int.toNat x.j))).item < ((x.dU.cN.items.n:Nat):Int))))
 (cond ((decide ((0:Int)≤(x.data.get (0+(Int.toNat (aj (x.j - (1:Int)))))).item))&&(decide ((x.data.get (0+(Int.toNat (aj (x.j - (1:Int)))))).item < ((x.dU.cN.items.n:Nat):Int))))
 (cond (gw x).isSome
 (cond (decide (((gw x).getD default) < (0:Int)))
 (cond ((decide ((0:Int)≤(aj (x.j - (1:Int)))))&&(decide ((aj (x.j - (1:Int))) < ((x.data.n:Nat):Int))))
 (cond ((decide ((0:Int)≤x.j))&&(decide (x.j < ((x.data.n:Nat):Int))))
 (cond ((decide ((0:Int)≤x.j))&&(decide (x.j < ((x.data.n:Nat):Int))))
 (cond ((decide ((0:Int)≤(aj (x.j - (1:Int)))))&&(decide ((aj (x.j - (1:Int))) < ((x.data.n:Nat):Int))))
 (cond (av x.data.n x.data.n)
 (.next (⟨((x.data.set (0+(Int.toNat x.j)) (x.data.get (0+(Int.toNat (aj (x.j - (1:Int))))))).set (0+(Int.toNat (aj (x.j - (1:Int))))) (x.data.get (0+(Int.toNat x.j)))),x.a,x.b,x.i,(aj (x.j - (1:Int))),x.dU⟩:bC))
 .fail)
 .fail)
 .fail)
 .fail)
 .fail)
 (cond (av x.data.n x.data.n)
 (.out (aE.aq.exit 2) x)
 .fail))
 .fail)
 .fail)
 .fail)
 .fail)
 .fail)
 (cond (av x.data.n x.data.n)
 (.out (aE.aq.exit 2) x)
 .fail))
theorem sZ (x:bC):ud (gJ x) (gK x)=aI.enc gJ gK (cp x):=by
 unfold cp
 try simp only [aI.dn,Mf,Md]
 kernel_rfl
def fg:Lp:=⟨122,402,nH,fun vs rs=>dL gJ gK (goN cp (nq vs rs)) [aE.aq.exit 2],true⟩
theorem ns:fg.Ok Try.prog:=lk funcs mixed (ao.cons bI ao.nil) az.nil (L:=9) (n:=9) (step:=cp) (ev:=gJ) (er:=gK) (pa:=nq) rfl (fun wv wr=>⟨by kernel_rfl,by kernel_rfl⟩) sZ
theorem mA:cC Try.prog fg.f fg.p=true:=by kernel_rfl
def vE:=py Try.prog (bu Try.prog [(35,cc)] [fg] (fun q=>Nat.beq q 58)) 9 9 122 6 (fh Try.prog 122 6) oh
def bR (x:bL):(aI bC):=(goN cp (⟨x.data,x.a,x.b,x.i,x.i,x.dU⟩:bC))
def cE (x:bL):aI bL:=
 (cond (decide (x.i < x.b))
 (cond (av x.data.n x.data.n)
 (cond ((bR x).by (aE.aq.exit 2))
 (cond (av (bR x).st.data.n (bR x).st.data.n)
 (.next (⟨(bR x).st.data,(bR x).st.a,(bR x).st.b,(aj ((bR x).st.i+(1:Int))),(bR x).st.dU⟩:bL))
 .fail)
 .fail)
 .fail)
 (cond (av x.data.n x.data.n)
 (.out (aE.aq.exit 0) x)
 .fail))
theorem ue (x:bL):vE (gX x) (gY x)=aI.enc gX gY (cE x):=by
 unfold cE
 try simp only [aI.dn]
 kernel_rfl
def ie:Lp:=⟨122,6,oh,fun vs rs=>dL gX gY (goN cE (nT vs rs)) [aE.aq.exit 0],true⟩
theorem vF:ie.Ok Try.prog:=lk funcs mixed (ao.cons bI ao.nil) (az.cons ns mA az.nil) (L:=9) (n:=9) (step:=cE) (ev:=gX) (er:=gY) (pa:=nT) rfl (fun wv wr=>⟨by kernel_rfl,by kernel_rfl⟩) ue
theorem tq:cC Try.prog ie.f ie.p=true:=by kernel_rfl
def wS:=EZ Try.prog (bu Try.prog [(35,cc)] [fg,ie] (fun q=>Nat.beq q 58)) 9 9 122 pg
def cB (x:bh):(aI bL):=(goN cE (⟨x.data,x.a,x.b,(aj (x.a+(1:Int))),x.held⟩:bL))
def gZ (x:bh):aI bh:=
 (cond (av x.data.n x.data.n)
 (cond ((cB x).by (aE.aq.exit 0))
 (cond (av (cB x).st.data.n (cB x).st.data.n)
 (.out aE.aq.ret (⟨(cB x).st.data,(cB x).st.a,(cB x).st.b,(cB x).st.dU⟩:bh))
 .fail)
 .fail)
 .fail)
theorem vG (x:bh):wS (iA x) (iB x)=aI.enc iA iB (gZ x):=by
 unfold gZ
 try simp only [aI.dn]
 kernel_rfl
def eT (x:bh):aI bh:=gZ x
def gq:Fc:=⟨122,pg,fun vs rs=>dL iA iB (eT (oI vs rs)) [aE.aq.ret]⟩
theorem ig:gq.Ok Try.prog:=Bd funcs mixed (ao.cons bI ao.nil) (az.cons ns mA (az.cons vF tq az.nil)) (L:=9) (n:=9) (step:=eT) (ev:=iA) (er:=iB) (pa:=oI) rfl (fun wv wr=>⟨by kernel_rfl,by kernel_rfl⟩) vG
structure ah where
 data:(Sl aU)
 a:Int
 m:Int
 b:Int
 held:aB
instance:Inhabited ah:=⟨⟨default,default,default,default,default⟩⟩
def iu (x:ah):List KV:=[jf 58 iJ x.data,.int .i64 x.a,.int .i64 x.m,.int .i64 x.b,.fn (.func 77) [] [.ptr 0 0]]
def iv (x:ah):List (List KV):=[cX x.held]
def ni (vs:List KV) (rs:List (List KV)):ah:=⟨iQ jh (vs.getD 0 .aw),intOf (vs.getD 1 .aw),intOf (vs.getD 2 .aw),intOf (vs.getD 3 .aw),cY (fun k=>(rs.getD 0 []).getD k .aw)⟩
def nI:aQ:=⟨[(0,⟨false,[.arr 58]⟩),(1,⟨false,[.k (.int .i64)]⟩),(2,⟨false,[.k (.int .i64)]⟩),(3,⟨false,[.k (.int .i64)]⟩),(4,⟨false,[.ref (.fn (.func 77) [] [.ptr 0 0])]⟩)],[(100004,[.k (.slice 45),.k (.slice 108),.k (.slice 139)],1)],[]⟩
structure bN where
 data:(Sl aU)
 a:Int
 m:Int
 b:Int
 i:Int
 j:Int
 eO:aB
instance:Inhabited bN:=⟨⟨default,default,default,default,default,default,default⟩⟩
def iY (x:bN):List KV:=[jf 58 iJ x.data,.int .i64 x.a,.int .i64 x.m,.int .i64 x.b,.fn (.func 77) [] [.ptr 0 0],.int .i64 x.i,.int .i64 x.j]
def iZ (x:bN):List (List KV):=[cX x.eO]
def ph (vs:List KV) (rs:List (List KV)):bN:=⟨iQ jh (vs.getD 0 .aw),intOf (vs.getD 1 .aw),intOf (vs.getD 2 .aw),intOf (vs.getD 3 .aw),intOf (vs.getD 5 .aw),intOf (vs.getD 6 .aw),cY (fun k=>(rs.getD 0 []).getD k .aw)⟩
def pE:aQ:=⟨[(0,⟨false,[.arr 58]⟩),(1,⟨false,[.k (.int .i64)]⟩),(2,⟨false,[.k (.int .i64)]⟩),(3,⟨false,[.k (.int .i64)]⟩),(4,⟨false,[.ref (.fn (.func 77) [] [.ptr 0 0])]⟩),(10,⟨false,[.k (.int .i64)]⟩),(11,⟨false,[.k (.int .i64)]⟩)],[(100004,[.k (.slice 45),.k (.slice 108),.k (.slice 139)],1)],[]⟩
def xS:=py Try.prog (bu Try.prog [(35,cc)] [] (fun q=>Nat.beq q 58) false false [eP]) 9 9 123 172 (fh Try.prog 123 172) pE
def iC (x:bN):(Option Int):=(eD (x.eO.cN.items.get (Int.toNat (x.data.get (0+(Int.toNat (aj (Int.fdiv (mL (aj (x.i+x.j))) (2:Int)))))).item)).look.bin (x.eO.cN.items.get (Int.toNat (x.data.get (0+(Int.toNat x.a))).item)).look.bin)
def cZ (x:bN):aI bN:=
 (cond (decide (x.i < x.j))
 (cond ((decide ((0:Int)≤(aj (Int.fdiv (mL (aj (x.i+x.j))) (2:Int)))))&&(decide ((aj (Int.fdiv (mL (aj (x.i+x.j))) (2:Int))) < ((x.data.n:Nat):Int))))
 (cond ((decide ((0:Int)≤x.a))&&(decide (x.a < ((x.data.n:Nat):Int))))
 (cond ((decide ((0:Int)≤(x.data.get (0+(Int.toNat (aj (Int.fdiv (mL (aj (x.i+x.j))) (2:Int)))))).item))&&(decide ((x.data.get (0+(Int.toNat (aj (Int.fdiv (mL (aj (x.i+x.j))) (2:Int)))))).item < ((x.eO.cN.items.n:Nat):Int))))
 (cond ((decide ((0:Int)≤(x.data.get (0+(Int.toNat x.a))).item))&&(decide ((x.data.get (0+(Int.toNat x.a))).item < ((x.eO.cN.items.n:Nat):Int))))
 (cond (iC x).isSome
 (cond (decide (((iC x).getD default) < (0:Int)))
 (cond (av x.data.n x.data.n)
 (.next (⟨x.data,x.a,x.m,x.b,(aj ((aj (Int.fdiv (mL (aj (x.i+x.j))) (2:Int)))+(1:Int))),x.j,x.eO⟩:bN))
 .fail)
 (cond (av x.data.n x.data.n)
 (.next (⟨x.data,x.a,x.m,x.b,x.i,(aj (Int.fdiv (mL (aj (x.i+x.j))) (2:Int))),x.eO⟩:bN))
 .fail))
 .fail)
 .fail)
 .fail)
 .fail)
 .fail)
 (cond (av x.data.n x.data.n)
 (.out (aE.aq.exit 0) x)
 .fail))
theorem wm (x:bN):xS (iY x) (iZ x)=aI.enc iY iZ (cZ x):=by
 unfold cZ
 try simp only [aI.dn]
 kernel_rfl
def cV:Lp:=⟨123,172,pE,fun vs rs=>dL iY iZ (goN cZ (ph vs rs)) [aE.aq.exit 0],true⟩
theorem eU:cV.Ok Try.prog:=lk funcs mixed (ao.cons bI ao.nil) az.nil (L:=9) (n:=9) (step:=cZ) (ev:=iY) (er:=iZ) (pa:=ph) rfl (fun wv wr=>⟨by kernel_rfl,by kernel_rfl⟩) wm (BJ:=(fP.cons ff fP.nil))
theorem ek:cC Try.prog cV.f cV.p=true:=by kernel_rfl
structure bO where
 data:(Sl aU)
 a:Int
 m:Int
 b:Int
 i:Int
 j:Int
 eO:aB
instance:Inhabited bO:=⟨⟨default,default,default,default,default,default,default⟩⟩
def ja (x:bO):List KV:=[jf 58 iJ x.data,.int .i64 x.a,.int .i64 x.m,.int .i64 x.b,.fn (.func 77) [] [.ptr 0 0],.int .i64 x.i,.int .i64 x.j]
def jb (x:bO):List (List KV):=[cX x.eO]
def pj (vs:List KV) (rs:List (List KV)):bO:=⟨iQ jh (vs.getD 0 .aw),intOf (vs.getD 1 .aw),intOf (vs.getD 2 .aw),intOf (vs.getD 3 .aw),intOf (vs.getD 5 .aw),intOf (vs.getD 6 .aw),cY (fun k=>(rs.getD 0 []).getD k .aw)⟩
def pF:aQ:=⟨[(0,⟨false,[.arr 58]⟩),(1,⟨false,[.k (.int .i64)]⟩),(2,⟨false,[.k (.int .i64)]⟩),(3,⟨false,[.k (.int .i64)]⟩),(4,⟨false,[.ref (.fn (.func 77) [] [.ptr 0 0])]⟩),(14,⟨false,[.k (.int .i64)]⟩),(15,⟨false,[.k (.int .i64)]⟩)],[(100004,[.k (.slice 45),.k (.slice 108),.k (.slice 139)],1)],[]⟩
def xT:=py Try.prog (bu Try.prog [(35,cc)] [cV] (fun q=>Nat.beq q 58) false false [eP]) 9 9 123 428 (fh Try.prog 123 428) pF
def iD (x:bO):(Option Int):=(eD (x.eO.cN.items.get (Int.toNat (x.data.get (0+(Int.toNat x.m))).item)).look.bin (x.eO.cN.items.get (Int.toNat (x.data.get (0+(Int.toNat (aj (Int.fdiv (mL (aj (x.i+x.j))) (2:Int)))))).item)).look.bin)
def da (x:bO):aI bO:=
 (cond (decide (x.i < x.j))
 (cond ((decide ((0:Int)≤x.m))&&(decide (x.m < ((x.data.n:Nat):Int))))
 (cond ((decide ((0:Int)≤(aj (Int.fdiv (mL (aj (x.i+x.j))) (2:Int)))))&&(decide ((aj (Int.fdiv (mL (aj (x.i+x.j))) (2:Int))) < ((x.data.n:Nat):Int))))
 (cond ((decide ((0:Int)≤(x.data.get (0+(Int.toNat x.m))).item))&&(decide ((x.data.get (0+(Int.toNat x.m))).item < ((x.eO.cN.items.n:Nat):Int))))
 (cond ((decide ((0:Int)≤(x.data.get (0+(Int.toNat (aj (Int.fdiv (mL (aj (x.i+x.j))) (2:Int)))))).item))&&(decide ((x.data.get (0+(Int.toNat (aj (Int.fdiv (mL (aj (x.i+x.j))) (2:Int)))))).item < ((x.eO.cN.items.n:Nat):Int))))
 (cond (iD x).isSome
 (cond (!(decide (((iD x).getD default) < (0:Int))))
 (cond (av x.data.n x.data.n)
 (.next (⟨x.data,x.a,x.m,x.b,(aj ((aj (Int.fdiv (mL (aj (x.i+x.j))) (2:Int)))+(1:Int))),x.j,x.eO⟩:bO))
 .fail)
 (cond (av x.data.n x.data.n)
 (.next (⟨x.data,x.a,x.m,x.b,x.i,(aj (Int.fdiv (mL (aj (x.i+x.j))) (2:Int))),x.eO⟩:bO))
 .fail))
 .fail)
 .fail)
 .fail)
 .fail)
 .fail)
 (cond (av x.data.n x.data.n)
 (.out (aE.aq.exit 4) x)
 .fail))
theorem wo (x:bO):xT (ja x) (jb x)=aI.enc ja jb (da x):=by
 unfold da
 try simp only [aI.dn]
 kernel_rfl
def dz:Lp:=⟨123,428,pF,fun vs rs=>dL ja jb (goN da (pj vs rs)) [aE.aq.exit 4],true⟩
theorem gu:dz.Ok Try.prog:=lk funcs mixed (ao.cons bI ao.nil) (az.cons eU ek az.nil) (L:=9) (n:=9) (step:=da) (ev:=ja) (er:=jb) (pa:=pj) rfl (fun wv wr=>⟨by kernel_rfl,by kernel_rfl⟩) wo (BJ:=(fP.cons ff fP.nil))
theorem fG:cC Try.prog dz.f dz.p=true:=by kernel_rfl
structure cz where
 data:(Sl aU)
 a:Int
 m:Int
 b:Int
 i:Int
 k:Int
 eO:aB
instance:Inhabited cz:=⟨⟨default,default,default,default,default,default,default⟩⟩
def jc (x:cz):List KV:=[jf 58 iJ x.data,.int .i64 x.a,.int .i64 x.m,.int .i64 x.b,.fn (.func 77) [] [.ptr 0 0],.int .i64 x.i,.int .i64 x.k]
def jd (x:cz):List (List KV):=[cX x.eO]
def pk (vs:List KV) (rs:List (List KV)):cz:=⟨iQ jh (vs.getD 0 .aw),intOf (vs.getD 1 .aw),intOf (vs.getD 2 .aw),intOf (vs.getD 3 .aw),intOf (vs.getD 5 .aw),intOf (vs.getD 6 .aw),cY (fun k=>(rs.getD 0 []).getD k .aw)⟩
def pG:aQ:=⟨[(0,⟨false,[.arr 58]⟩),(1,⟨false,[.k (.int .i64)]⟩),(2,⟨false,[.k (.int .i64)]⟩),(3,⟨false,[.k (.int .i64)]⟩),(4,⟨false,[.ref (.fn (.func 77) [] [.ptr 0 0])]⟩),(10,⟨false,[.k (.int .i64)]⟩),(13,⟨false,[.k (.int .i64)]⟩)],[(100004,[.k (.slice 45),.k (.slice 108),.k (.slice 139)],1)],[]⟩
def xU:=py Try.prog (bu Try.prog [(35,cc)] [cV,dz] (fun q=>Nat.beq q 58) false false [eP]) 9 9 123 698 (fh Try.prog 123 698) pG
def db (x:cz):aI cz:=
 (cond (decide (x.k < (aj (x.i - (1:Int)))))
 (cond ((decide ((0:Int)≤(aj (x.k+(1:Int)))))&&(decide ((aj (x.k+(1:Int))) < ((x.data.n:Nat):Int))))
 (cond ((decide ((0:Int)≤x.k))&&(decide (x.k < ((x.data.n:Nat):Int))))
 (cond ((decide ((0:Int)≤x.k))&&(decide (x.k < ((x.data.n:Nat):Int))))
 (cond ((decide ((0:Int)≤(aj (x.k+(1:Int)))))&&(decide ((aj (x.k+(1:Int))) < ((x.data.n:Nat):Int))))
 (cond (av x.data.n x.data.n)
 (.next (⟨((x.data.set (0+(Int.toNat x.k)) (x.data.get (0+(Int.toNat (aj (x.k+(1:Int))))))).set (0+(Int.toNat (aj (x.k+(1:Int))))) (x.data.get (0+(Int.toNat x.k)))),x.a,x.m,x.b,x.i,(aj (x.k+(1:Int))),x.eO⟩:cz))
 .fail)
 .fail)
 .fail)
 .fail)
 .fail)
 (cond (av x.data.n x.data.n)
 (.out (aE.aq.exit 2) x)
 .fail))
theorem wq (x:cz):xU (jc x) (jd x)=aI.enc jc jd (db x):=by
 unfold db
 try simp only [aI.dn,Mf,Md]
 kernel_rfl
def ei:Lp:=⟨123,698,pG,fun vs rs=>dL jc jd (goN db (pk vs rs)) [aE.aq.exit 2],true⟩
theorem je:ei.Ok Try.prog:=lk funcs mixed (ao.cons bI ao.nil) (az.cons eU ek (az.cons gu fG az.nil)) (L:=9) (n:=9) (step:=db) (ev:=jc) (er:=jd) (pa:=pk) rfl (fun wv wr=>⟨by kernel_rfl,by kernel_rfl⟩) wq (BJ:=(fP.cons ff fP.nil))
theorem hH:cC Try.prog ei.f ei.p=true:=by kernel_rfl
structure a6 where
 data:(Sl aU)
 a:Int
 m:Int
 b:Int
 cl:Int
 n:Int
 start:Int
 r:Int
 p:Int
 eO:aB
instance:Inhabited a6:=⟨⟨default,default,default,default,default,default,default,default,default,default⟩⟩
def iE (x:a6):List KV:=[jf 58 iJ x.data,.int .i64 x.a,.int .i64 x.m,.int .i64 x.b,.fn (.func 77) [] [.ptr 0 0],.int .i64 x.cl,.int .i64 x.n,.int .i64 x.start,.int .i64 x.r,.int .i64 x.p]
def iG (x:a6):List (List KV):=[cX x.eO]
def oJ (vs:List KV) (rs:List (List KV)):a6:=⟨iQ jh (vs.getD 0 .aw),intOf (vs.getD 1 .aw),intOf (vs.getD 2 .aw),intOf (vs.getD 3 .aw),intOf (vs.getD 5 .aw),intOf (vs.getD 6 .aw),intOf (vs.getD 7 .aw),intOf (vs.getD 8 .aw),intOf (vs.getD 9 .aw),cY (fun k=>(rs.getD 0 []).getD k .aw)⟩
def pn:aQ:=⟨[(0,⟨false,[.arr 58]⟩),(1,⟨false,[.k (.int .i64)]⟩),(2,⟨false,[.k (.int .i64)]⟩),(3,⟨false,[.k (.int .i64)]⟩),(4,⟨false,[.ref (.fn (.func 77) [] [.ptr 0 0])]⟩),(18,⟨false,[.k (.int .i64)]⟩),(19,⟨false,[.k (.int .i64)]⟩),(20,⟨false,[.k (.int .i64)]⟩),(21,⟨false,[.k (.int .i64)]⟩),(22,⟨false,[.k (.int .i64)]⟩)],[(100004,[.k (.slice 45),.k (.slice 108),.k (.slice 139)],1)],[]⟩
def wT:=py Try.prog (bu Try.prog [(35,cc)] [cV,dz,ei] (fun q=>Nat.beq q 58) false false [eP]) 9 9 123 1020 (fh Try.prog 123 1020) pn
def ij (x:a6):(Option Int):=(eD (x.eO.cN.items.get (Int.toNat (x.data.get (0+(Int.toNat (aj (x.p - (aj (Int.fdiv (mL (aj (x.start+x.r))) (2:Int)))))))).item)).look.bin (x.eO.cN.items.get (Int.toNat (x.data.get (0+(Int.toNat (aj (Int.fdiv (mL (aj (x.start+x.r))) (2:Int)))))).item)).look.bin)
def cr (x:a6):aI a6:=
 (cond (decide (x.start < x.r))
 (cond ((decide ((0:Int)≤(aj (x.p - (aj (Int.fdiv (mL (aj (x.start+x.r))) (2:Int)))))))&&(decide ((aj (x.p - (aj (Int.fdiv (mL (aj (x.start+x.r))) (2:Int))))) < ((x.data.n:Nat):Int))))
 (cond ((decide ((0:Int)≤(aj (Int.fdiv (mL (aj (x.start+x.r))) (2:Int)))))&&(decide ((aj (Int.fdiv (mL (aj (x.start+x.r))) (2:Int))) < ((x.data.n:Nat):Int))))
 (cond ((decide ((0:Int)≤(x.data.get (0+(Int.toNat (aj (x.p - (aj (Int.fdiv (mL (aj (x.start+x.r))) (2:Int)))))))).item))&&(decide ((x.data.get (0+(Int.toNat (aj (x.p - (aj (Int.fdiv (mL (aj (x.start+x.r))) (2:Int)))))))).item < ((x.eO.cN.items.n:Nat):Int))))
 (cond ((decide ((0:Int)≤(x.data.get (0+(Int.toNat (aj (Int.fdiv (mL (aj (x.start+x.r))) (2:Int)))))).item))&&(decide ((x.data.get (0+(Int.toNat (aj (Int.fdiv (mL (aj (x.start+x.r))) (2:Int)))))).item < ((x.eO.cN.items.n:Nat):Int))))
 (cond (ij x).isSome
 (cond (!(decide (((ij x).getD default) < (0:Int))))
 (cond (av x.data.n x.data.n)
 (.next (⟨x.data,x.a,x.m,x.b,x.cl,x.n,(aj ((aj (Int.fdiv (mL (aj (x.start+x.r))) (2:Int)))+(1:Int))),x.r,x.p,x.eO⟩:a6))
 .fail)
 (cond (av x.data.n x.data.n)
 (.next (⟨x.data,x.a,x.m,x.b,x.cl,x.n,x.start,(aj (Int.fdiv (mL (aj (x.start+x.r))) (2:Int))),x.p,x.eO⟩:a6))
 .fail))
 .fail)
 .fail)
 .fail)
 .fail)
 .fail)
 (cond (av x.data.n x.data.n)
 (.out (aE.aq.exit 8) x)
 .fail))
theorem vH (x:a6):wT (iE x) (iG x)=aI.enc iE iG (cr x):=by
 unfold cr
 try simp only [aI.dn]
 kernel_rfl
def eV:Lp:=⟨123,1020,pn,fun vs rs=>dL iE iG (goN cr (oJ vs rs)) [aE.aq.exit 8],true⟩
theorem kY:eV.Ok Try.prog:=lk funcs mixed (ao.cons bI ao.nil) (az.cons eU ek (az.cons gu fG (az.cons je hH az.nil))) (L:=9) (n:=9) (step:=cr) (ev:=iE) (er:=iG) (pa:=oJ) rfl (fun wv wr=>⟨by kernel_rfl,by kernel_rfl⟩) vH (BJ:=(fP.cons ff fP.nil))
theorem jY:cC Try.prog eV.f eV.p=true:=by kernel_rfl
structure cm where
 data:(Sl aU)
 a:Int
 m:Int
 b:Int
 i:Int
 k:Int
 eO:aB
instance:Inhabited cm:=⟨⟨default,default,default,default,default,default,default⟩⟩
def iH (x:cm):List KV:=[jf 58 iJ x.data,.int .i64 x.a,.int .i64 x.m,.int .i64 x.b,.fn (.func 77) [] [.ptr 0 0],.int .i64 x.i,.int .i64 x.k]
def iI (x:cm):List (List KV):=[cX x.eO]
def oK (vs:List KV) (rs:List (List KV)):cm:=⟨iQ jh (vs.getD 0 .aw),intOf (vs.getD 1 .aw),intOf (vs.getD 2 .aw),intOf (vs.getD 3 .aw),intOf (vs.getD 5 .aw),intOf (vs.getD 6 .aw),cY (fun k=>(rs.getD 0 []).getD k .aw)⟩
def pq:aQ:=⟨[(0,⟨false,[.arr 58]⟩),(1,⟨false,[.k (.int .i64)]⟩),(2,⟨false,[.k (.int .i64)]⟩),(3,⟨false,[.k (.int .i64)]⟩),(4,⟨false,[.ref (.fn (.func 77) [] [.ptr 0 0])]⟩),(14,⟨false,[.k (.int .i64)]⟩),(17,⟨false,[.k (.int .i64)]⟩)],[(100004,[.k (.slice 45),.k (.slice 108),.k (.slice 139)],1)],[]⟩
def wU:=py Try.prog (bu Try.prog [(35,cc)] [cV,dz,ei,eV] (fun q=>Nat.beq q 58) false false [eP]) 9 9 123 1722 (fh Try.prog 123 1722) pq
def cS (x:cm):aI cm:=
 (cond (decide (x.k > x.i))
 (cond ((decide ((0:Int)≤(aj (x.k - (1:Int)))))&&(decide ((aj (x.k - (1:Int))) < ((x.data.n:Nat):Int))))
 (cond ((decide ((0:Int)≤x.k))&&(decide (x.k < ((x.data.n:Nat):Int))))
 (cond ((decide ((0:Int)≤x.k))&&(decide (x.k < ((x.data.n:Nat):Int))))
 (cond ((decide ((0:Int)≤(aj (x.k - (1:Int)))))&&(decide ((aj (x.k - (1:Int))) < ((x.data.n:Nat):Int))))
 (cond (av x.data.n x.data.n)
 (.next (⟨((x.data.set (0+(Int.toNat x.k)) (x.data.get (0+(Int.toNat (aj (x.k - (1:Int))))))).set (0+(Int.toNat (aj (x.k - (1:Int))))) (x.data.get (0+(Int.toNat x.k)))),x.a,x.m,x.b,x.i,(aj (x.k - (1:Int))),x.eO⟩:cm))
 .fail)
 .fail)
 .fail)
 .fail)
 .fail)
 (cond (av x.data.n x.data.n)
 (.out (aE.aq.exit 6) x)
 .fail))
theorem vI (x:cm):wU (iH x) (iI x)=aI.enc iH iI (cS x):=by
 unfold cS
 try simp only [aI.dn,Mf,Md]
 kernel_rfl
def gv:Lp:=⟨123,1722,pq,fun vs rs=>dL iH iI (goN cS (oK vs rs)) [aE.aq.exit 6],true⟩
theorem oL:gv.Ok Try.prog:=lk funcs mixed (ao.cons bI ao.nil) (az.cons eU ek (az.cons gu fG (az.cons je hH (az.cons kY jY az.nil)))) (L:=9) (n:=9) (step:=cS) (ev:=iH) (er:=iI) (pa:=oK) rfl (fun wv wr=>⟨by kernel_rfl,by kernel_rfl⟩) vI (BJ:=(fP.cons ff fP.nil))
theorem nJ:cC Try.prog gv.f gv.p=true:=by kernel_rfl
def Al (rc:ah→aI ah):=EZ Try.prog (bu Try.prog [(35,cc)] [cV,dz,ei,eV,gv] (fun q=>Nat.beq q 58) false false ((⟨123,nI,fun vs rs=>dL iu iv (rc (ni vs rs)) [aE.aq.ret]⟩:Fc)::[eP])) 9 9 123 nI
def ct (rc:ah→aI ah) (x:ah):(aI bN):=(goN cZ (⟨x.data,x.a,x.m,x.b,x.m,x.b,x.held⟩:bN))
def cO (rc:ah→aI ah) (x:ah):(aI cz):=(goN db (⟨(ct rc x).st.data,(ct rc x).st.a,(ct rc x).st.m,(ct rc x).st.b,(ct rc x).st.i,(ct rc x).st.a,(ct rc x).st.eO⟩:cz))
def cu (rc:ah→aI ah) (x:ah):(aI bO):=(goN da (⟨x.data,x.a,x.m,x.b,x.a,x.m,x.held⟩:bO))
def cP (rc:ah→aI ah) (x:ah):(aI cm):=(goN cS (⟨(cu rc x).st.data,(cu rc x).st.a,(cu rc x).st.m,(cu rc x).st.b,(cu rc x).st.i,(cu rc x).st.m,(cu rc x).st.eO⟩:cm))
def ae (rc:ah→aI ah) (x:ah):(aI a6):=(goN cr (⟨x.data,x.a,x.m,x.b,(aj (Int.fdiv (mL (aj (x.a+x.b))) (2:Int))),(aj ((aj (Int.fdiv (mL (aj (x.a+x.b))) (2:Int)))+x.m)),(aj ((aj ((aj (Int.fdiv (mL (aj (x.a+x.b))) (2:Int)))+x.m)) - x.b)),(aj (Int.fdiv (mL (aj (x.a+x.b))) (2:Int))),(aj ((aj ((aj (Int.fdiv (mL (aj (x.a+x.b))) (2:Int)))+x.m)) - (1:Int))),x.held⟩:a6))
def aV (rc:ah→aI ah) (x:ah):(aI bD):=(dZ (⟨(ae rc x).st.data,(ae rc x).st.start,(ae rc x).st.m,(aj ((ae rc x).st.n - (ae rc x).st.start)),(ae rc x).st.eO⟩:bD))
def cQ (rc:ah→aI ah) (x:ah):(aI ah):=(rc (⟨(aV rc x).st.data,(ae rc x).st.a,(ae rc x).st.start,(ae rc x).st.cl,(aV rc x).st.held⟩:ah))
def jQ (rc:ah→aI ah) (x:ah):(aI ah):=(rc (⟨(cQ rc x).st.data,(ae rc x).st.cl,(aj ((ae rc x).st.n - (ae rc x).st.start)),(ae rc x).st.b,(cQ rc x).st.held⟩:ah))
def dR (rc:ah→aI ah) (x:ah):(aI ah):=(rc (⟨(aV rc x).st.data,(ae rc x).st.cl,(aj ((ae rc x).st.n - (ae rc x).st.start)),(ae rc x).st.b,(aV rc x).st.held⟩:ah))
def ba (rc:ah→aI ah) (x:ah):(aI ah):=(rc (⟨(ae rc x).st.data,(ae rc x).st.a,(ae rc x).st.start,(ae rc x).st.cl,(ae rc x).st.eO⟩:ah))
def dF (rc:ah→aI ah) (x:ah):(aI ah):=(rc (⟨(ba rc x).st.data,(ae rc x).st.cl,(aj ((ae rc x).st.n - (ae rc x).st.start)),(ae rc x).st.b,(ba rc x).st.held⟩:ah))
def bj (rc:ah→aI ah) (x:ah):(aI ah):=(rc (⟨(ae rc x).st.data,(ae rc x).st.cl,(aj ((ae rc x).st.n - (ae rc x).st.start)),(ae rc x).st.b,(ae rc x).st.eO⟩:ah))
def aa (rc:ah→aI ah) (x:ah):(aI a6):=(goN cr (⟨x.data,x.a,x.m,x.b,(aj (Int.fdiv (mL (aj (x.a+x.b))) (2:Int))),(aj ((aj (Int.fdiv (mL (aj (x.a+x.b))) (2:Int)))+x.m)),x.a,x.m,(aj ((aj ((aj (Int.fdiv (mL (aj (x.a+x.b))) (2:Int)))+x.m)) - (1:Int))),x.held⟩:a6))
def aO (rc:ah→aI ah) (x:ah):(aI bD):=(dZ (⟨(aa rc x).st.data,(aa rc x).st.start,(aa rc x).st.m,(aj ((aa rc x).st.n - (aa rc x).st.start)),(aa rc x).st.eO⟩:bD))
def cH (rc:ah→aI ah) (x:ah):(aI ah):=(rc (⟨(aO rc x).st.data,(aa rc x).st.a,(aa rc x).st.start,(aa rc x).st.cl,(aO rc x).st.held⟩:ah))
def jE (rc:ah→aI ah) (x:ah):(aI ah):=(rc (⟨(cH rc x).st.data,(aa rc x).st.cl,(aj ((aa rc x).st.n - (aa rc x).st.start)),(aa rc x).st.b,(cH rc x).st.held⟩:ah))
def dG (rc:ah→aI ah) (x:ah):(aI ah):=(rc (⟨(aO rc x).st.data,(aa rc x).st.cl,(aj ((aa rc x).st.n - (aa rc x).st.start)),(aa rc x).st.b,(aO rc x).st.held⟩:ah))
def a7 (rc:ah→aI ah) (x:ah):(aI ah):=(rc (⟨(aa rc x).st.data,(aa rc x).st.a,(aa rc x).st.start,(aa rc x).st.cl,(aa rc x).st.eO⟩:ah))
def dH (rc:ah→aI ah) (x:ah):(aI ah):=(rc (⟨(a7 rc x).st.data,(aa rc x).st.cl,(aj ((aa rc x).st.n - (aa rc x).st.start)),(aa rc x).st.b,(a7 rc x).st.held⟩:ah))
def bk (rc:ah→aI ah) (x:ah):(aI ah):=(rc (⟨(aa rc x).st.data,(aa rc x).st.cl,(aj ((aa rc x).st.n - (aa rc x).st.start)),(aa rc x).st.b,(aa rc x).st.eO⟩:ah))
def dI (rc:ah→aI ah) (x:ah):aI ah:=
 (cond ((aj (x.m - x.a))==(1:Int))
 (cond (av x.data.n x.data.n)
 (cond ((ct rc x).by (aE.aq.exit 0))
 (cond (av (ct rc x).st.data.n (ct rc x).st.data.n)
 (cond ((cO rc x).by (aE.aq.exit 2))
 (cond (av (cO rc x).st.data.n (cO rc x).st.data.n)
 (.out aE.aq.ret (⟨(cO rc x).st.data,(cO rc x).st.a,(cO rc x).st.m,(cO rc x).st.b,(cO rc x).st.eO⟩:ah))
 .fail)
 .fail)
 .fail)
 .fail)
 .fail)
 (cond ((aj (x.b - x.m))==(1:Int))
 (cond (av x.data.n x.data.n)
 (cond ((cu rc x).by (aE.aq.exit 4))
 (cond (av (cu rc x).st.data.n (cu rc x).st.data.n)
 (cond ((cP rc x).by (aE.aq.exit 6))
 (cond (av (cP rc x).st.data.n (cP rc x).st.data.n)
 (.out aE.aq.ret (⟨(cP rc x).st.data,(cP rc x).st.a,(cP rc x).st.m,(cP rc x).st.b,(cP rc x).st.eO⟩:ah))
 .fail)
 .fail)
 .fail)
 .fail)
 .fail)
 (cond (decide (x.m > (aj (Int.fdiv (mL (aj (x.a+x.b))) (2:Int)))))
 (cond (av x.data.n x.data.n)
 (cond ((ae rc x).by (aE.aq.exit 8))
 (cond (decide ((ae rc x).st.start < (ae rc x).st.m))
 (cond (decide ((ae rc x).st.m < (aj ((ae rc x).st.n - (ae rc x).st.start))))
 (cond (av (ae rc x).st.data.n (ae rc x).st.data.n)
 (cond ((aV rc x).by aE.aq.ret)
 (cond (decide ((ae rc x).st.a < (ae rc x).st.start))
 (cond (decide ((ae rc x).st.start < (ae rc x).st.cl))
 (cond (av (aV rc x).st.data.n (ae rc x).st.data.n)
 (cond ((cQ rc x).by aE.aq.ret)
 (cond (decide ((ae rc x).st.cl < (aj ((ae rc x).st.n - (ae rc x).st.start))))
 (cond (decide ((aj ((ae rc x).st.n - (ae rc x).st.start)) < (ae rc x).st.b))
 (cond (av (cQ rc x).st.data.n (ae rc x).st.data.n)
 (cond ((jQ rc x).by aE.aq.ret)
 (cond (av (jQ rc x).st.data.n (ae rc x).st.data.n)
 (.out aE.aq.ret (⟨(jQ rc x).st.data,(ae rc x).st.a,(ae rc x).st.m,(ae rc x).st.b,(jQ rc x).st.held⟩:ah))
 .fail)
 .fail)
 .fail)
 (cond (av (cQ rc x).st.data.n (ae rc x).st.data.n)
 (.out aE.aq.ret (⟨(cQ rc x).st.data,(ae rc x).st.a,(ae rc x).st.m,(ae rc x).st.b,(cQ rc x).st.held⟩:ah))
 .fail))
 (cond (av (cQ rc x).st.data.n (ae rc x).st.data.n)
 (.out aE.aq.ret (⟨(cQ rc x).st.data,(ae rc x).st.a,(ae rc x).st.m,(ae rc x).st.b,(cQ rc x).st.held⟩:ah))
 .fail))
 .fail)
 .fail)
 (cond (decide ((ae rc x).st.cl < (aj ((ae rc x).st.n - (ae rc x).st.start))))
 (cond (decide ((aj ((ae rc x).st.n - (ae rc x).st.start)) < (ae rc x).st.b))
 (cond (av (aV rc x).st.data.n (ae rc x).st.data.n)
 (cond ((dR rc x).by aE.aq.ret)
 (cond (av (dR rc x).st.data.n (ae rc x).st.data.n)
 (.out aE.aq.ret (⟨(dR rc x).st.data,(ae rc x).st.a,(ae rc x).st.m,(ae rc x).st.b,(dR rc x).st.held⟩:ah))
 .fail)
 .fail)
 .fail)
 (cond (av (aV rc x).st.data.n (ae rc x).st.data.n)
 (.out aE.aq.ret (⟨(aV rc x).st.data,(ae rc x).st.a,(ae rc x).st.m,(ae rc x).st.b,(aV rc x).st.held⟩:ah))
 .fail))
 (cond (av (aV rc x).st.data.n (ae rc x).st.data.n)
 (.out aE.aq.ret (⟨(aV rc x).st.data,(ae rc x).st.a,(ae rc x).st.m,(ae rc x).st.b,(aV rc x).st.held⟩:ah))
 .fail)))
 (cond (decide ((ae rc x).st.cl < (aj ((ae rc x).st.n - (ae rc x).st.start))))
 (cond (decide ((aj ((ae rc x).st.n - (ae rc x).st.start)) < (ae rc x).st.b))
 (cond (av (aV rc x).st.data.n (ae rc x).st.data.n)
 (cond ((dR rc x).by aE.aq.ret)
 (cond (av (dR rc x).st.data.n (ae rc x).st.data.n)
 (.out aE.aq.ret (⟨(dR rc x).st.data,(ae rc x).st.a,(ae rc x).st.m,(ae rc x).st.b,(dR rc x).st.held⟩:ah))
 .fail)
 .fail)
 .fail)
 (cond (av (aV rc x).st.data.n (ae rc x).st.data.n)
 (.out aE.aq.ret (⟨(aV rc x).st.data,(ae rc x).st.a,(ae rc x).st.m,(ae rc x).st.b,(aV rc x).st.held⟩:ah))
 .fail))
 (cond (av (aV rc x).st.data.n (ae rc x).st.data.n)
 (.out aE.aq.ret (⟨(aV rc x).st.data,(ae rc x).st.a,(ae rc x).st.m,(ae rc x).st.b,(aV rc x).st.held⟩:ah))
 .fail)))
 .fail)
 .fail)
 (cond (decide ((ae rc x).st.a < (ae rc x).st.start))
 (cond (decide ((ae rc x).st.start < (ae rc x).st.cl))
 (cond (av (ae rc x).st.data.n (ae rc x).st.data.n)
 (cond ((ba rc x).by aE.aq.ret)
 (cond (decide ((ae rc x).st.cl < (aj ((ae rc x).st.n - (ae rc x).st.start))))
 (cond (decide ((aj ((ae rc x).st.n - (ae rc x).st.start)) < (ae rc x).st.b))
 (cond (av (ba rc x).st.data.n (ae rc x).st.data.n)
 (cond ((dF rc x).by aE.aq.ret)
 (cond (av (dF rc x).st.data.n (ae rc x).st.data.n)
 (.out aE.aq.ret (⟨(dF rc x).st.data,(ae rc x).st.a,(ae rc x).st.m,(ae rc x).st.b,(dF rc x).st.held⟩:ah))
 .fail)
 .fail)
 .fail)
 (cond (av (ba rc x).st.data.n (ae rc x).st.data.n)
 (.out aE.aq.ret (⟨(ba rc x).st.data,(ae rc x).st.a,(ae rc x).st.m,(ae rc x).st.b,(ba rc x).st.held⟩:ah))
 .fail))
 (cond (av (ba rc x).st.data.n (ae rc x).st.data.n)
 (.out aE.aq.ret (⟨(ba rc x).st.data,(ae rc x).st.a,(ae rc x).st.m,(ae rc x).st.b,(ba rc x).st.held⟩:ah))
 .fail))
 .fail)
 .fail)
 (cond (decide ((ae rc x).st.cl < (aj ((ae rc x).st.n - (ae rc x).st.start))))
 (cond (decide ((aj ((ae rc x).st.n - (ae rc x).st.start)) < (ae rc x).st.b))
 (cond (av (ae rc x).st.data.n (ae rc x).st.data.n)
 (cond ((bj rc x).by aE.aq.ret)
 (cond (av (bj rc x).st.data.n (ae rc x).st.data.n)
 (.out aE.aq.ret (⟨(bj rc x).st.data,(ae rc x).st.a,(ae rc x).st.m,(ae rc x).st.b,(bj rc x).st.held⟩:ah))
 .fail)
 .fail)
 .fail)
 (cond (av (ae rc x).st.data.n (ae rc x).st.data.n)
 (.out aE.aq.ret (⟨(ae rc x).st.data,(ae rc x).st.a,(ae rc x).st.m,(ae rc x).st.b,(ae rc x).st.eO⟩:ah))
 .fail))
 (cond (av (ae rc x).st.data.n (ae rc x).st.data.n)
 (.out aE.aq.ret (⟨(ae rc x).st.data,(ae rc x).st.a,(ae rc x).st.m,(ae rc x).st.b,(ae rc x).st.eO⟩:ah))
 .fail)))
 (cond (decide ((ae rc x).st.cl < (aj ((ae rc x).st.n - (ae rc x).st.start))))
 (cond (decide ((aj ((ae rc x).st.n - (ae rc x).st.start)) < (ae rc x).st.b))
 (cond (av (ae rc x).st.data.n (ae rc x).st.data.n)
 (cond ((bj rc x).by aE.aq.ret)
 (cond (av (bj rc x).st.data.n (ae rc x).st.data.n)
 (.out aE.aq.ret (⟨(bj rc x).st.data,(ae rc x).st.a,(ae rc x).st.m,(ae rc x).st.b,(bj rc x).st.held⟩:ah))
 .fail)
 .fail)
 .fail)
 (cond (av (ae rc x).st.data.n (ae rc x).st.data.n)
 (.out aE.aq.ret (⟨(ae rc x).st.data,(ae rc x).st.a,(ae rc x).st.m,(ae rc x).st.b,(ae rc x).st.eO⟩:ah))
 .fail))
 (cond (av (ae rc x).st.data.n (ae rc x).st.data.n)
 (.out aE.aq.ret (⟨(ae rc x).st.data,(ae rc x).st.a,(ae rc x).st.m,(ae rc x).st.b,(ae rc x).st.eO⟩:ah))
 .fail))))
 (cond (decide ((ae rc x).st.a < (ae rc x).st.start))
 (cond (decide ((ae rc x).st.start < (ae rc x).st.cl))
 (cond (av (ae rc x).st.data.n (ae rc x).st.data.n)
 (cond ((ba rc x).by aE.aq.ret)
 (cond (decide ((ae rc x).st.cl < (aj ((ae rc x).st.n - (ae rc x).st.start))))
 (cond (decide ((aj ((ae rc x).st.n - (ae rc x).st.start)) < (ae rc x).st.b))
 (cond (av (ba rc x).st.data.n (ae rc x).st.data.n)
 (cond ((dF rc x).by aE.aq.ret)
 (cond (av (dF rc x).st.data.n (ae rc x).st.data.n)
 (.out aE.aq.ret (⟨(dF rc x).st.data,(ae rc x).st.a,(ae rc x).st.m,(ae rc x).st.b,(dF rc x).st.held⟩:ah))
 .fail)
 .fail)
 .fail)
 (cond (av (ba rc x).st.data.n (ae rc x).st.data.n)
 (.out aE.aq.ret (⟨(ba rc x).st.data,(ae rc x).st.a,(ae rc x).st.m,(ae rc x).st.b,(ba rc x).st.held⟩:ah))
 .fail))
 (cond (av (ba rc x).st.data.n (ae rc x).st.data.n)
 (.out aE.aq.ret (⟨(ba rc x).st.data,(ae rc x).st.a,(ae rc x).st.m,(ae rc x).st.b,(ba rc x).st.held⟩:ah))
 .fail))
 .fail)
 .fail)
 (cond (decide ((ae rc x).st.cl < (aj ((ae rc x).st.n - (ae rc x).st.start))))
 (cond (decide ((aj ((ae rc x).st.n - (ae rc x).st.start)) < (ae rc x).st.b))
 (cond (av (ae rc x).st.data.n (ae rc x).st.data.n)
 (cond ((bj rc x).by aE.aq.ret)
 (cond (av (bj rc x).st.data.n (ae rc x).st.data.n)
 (.out aE.aq.ret (⟨(bj rc x).st.data,(ae rc x).st.a,(ae rc x).st.m,(ae rc x).st.b,(bj rc x).st.held⟩:ah))
 .fail)
 .fail)
 .fail)
 (cond (av (ae rc x).st.data.n (ae rc x).st.data.n)
 (.out aE.aq.ret (⟨(ae rc x).st.data,(ae rc x).st.a,(ae rc x).st.m,(ae rc x).st.b,(ae rc x).st.eO⟩:ah))
 .fail))
 (cond (av (ae rc x).st.data.n (ae rc x).st.data.n)
 (.out aE.aq.ret (⟨(ae rc x).st.data,(ae rc x).st.a,(ae rc x).st.m,(ae rc x).st.b,(ae rc x).st.eO⟩:ah))
 .fail)))
 (cond (decide ((ae rc x).st.cl < (aj ((ae rc x).st.n - (ae rc x).st.start))))
 (cond (decide ((aj ((ae rc x).st.n - (ae rc x).st.start)) < (ae rc x).st.b))
 (cond (av (ae rc x).st.data.n (ae rc x).st.data.n)
 (cond ((bj rc x).by aE.aq.ret)
 (cond (av (bj rc x).st.data.n (ae rc x).st.data.n)
 (.out aE.aq.ret (⟨(bj rc x).st.data,(ae rc x).st.a,(ae rc x).st.m,(ae rc x).st.b,(bj rc x).st.held⟩:ah))
 .fail)
 .fail)
 .fail)
 (cond (av (ae rc x).st.data.n (ae rc x).st.data.n)
 (.out aE.aq.ret (⟨(ae rc x).st.data,(ae rc x).st.a,(ae rc x).st.m,(ae rc x).st.b,(ae rc x).st.eO⟩:ah))
 .fail))
 (cond (av (ae rc x).st.data.n (ae rc x).st.data.n)
 (.out aE.aq.ret (⟨(ae rc x).st.data,(ae rc x).st.a,(ae rc x).st.m,(ae rc x).st.b,(ae rc x).st.eO⟩:ah))
 .fail))))
 .fail)
 .fail)
 (cond (av x.data.n x.data.n)
 (cond ((aa rc x).by (aE.aq.exit 8))
 (cond (decide ((aa rc x).st.start < (aa rc x).st.m))
 (cond (decide ((aa rc x).st.m < (aj ((aa rc x).st.n - (aa rc x).st.start))))
 (cond (av (aa rc x).st.data.n (aa rc x).st.data.n)
 (cond ((aO rc x).by aE.aq.ret)
 (cond (decide ((aa rc x).st.a < (aa rc x).st.start))
 (cond (decide ((aa rc x).st.start < (aa rc x).st.cl))
 (cond (av (aO rc x).st.data.n (aa rc x).st.data.n)
 (cond ((cH rc x).by aE.aq.ret)
 (cond (decide ((aa rc x).st.cl < (aj ((aa rc x).st.n - (aa rc x).st.start))))
 (cond (decide ((aj ((aa rc x).st.n - (aa rc x).st.start)) < (aa rc x).st.b))
 (cond (av (cH rc x).st.data.n (aa rc x).st.data.n)
 (cond ((jE rc x).by aE.aq.ret)
 (cond (av (jE rc x).st.data.n (aa rc x).st.data.n)
 (.out aE.aq.ret (⟨(jE rc x).st.data,(aa rc x).st.a,(aa rc x).st.m,(aa rc x).st.b,(jE rc x).st.held⟩:ah))
 .fail)
 .fail)
 .fail)
 (cond (av (cH rc x).st.data.n (aa rc x).st.data.n)
 (.out aE.aq.ret (⟨(cH rc x).st.data,(aa rc x).st.a,(aa rc x).st.m,(aa rc x).st.b,(cH rc x).st.held⟩:ah))
 .fail))
 (cond (av (cH rc x).st.data.n (aa rc x).st.data.n)
 (.out aE.aq.ret (⟨(cH rc x).st.data,(aa rc x).st.a,(aa rc x).st.m,(aa rc x).st.b,(cH rc x).st.held⟩:ah))
 .fail))
 .fail)
 .fail)
 (cond (decide ((aa rc x).st.cl < (aj ((aa rc x).st.n - (aa rc x).st.start))))
 (cond (decide ((aj ((aa rc x).st.n - (aa rc x).st.start)) < (aa rc x).st.b))
 (cond (av (aO rc x).st.data.n (aa rc x).st.data.n)
 (cond ((dG rc x).by aE.aq.ret)
 (cond (av (dG rc x).st.data.n (aa rc x).st.data.n)
 (.out aE.aq.ret (⟨(dG rc x).st.data,(aa rc x).st.a,(aa rc x).st.m,(aa rc x).st.b,(dG rc x).st.held⟩:ah))
 .fail)
 .fail)
 .fail)
 (cond (av (aO rc x).st.data.n (aa rc x).st.data.n)
 (.out aE.aq.ret (⟨(aO rc x).st.data,(aa rc x).st.a,(aa rc x).st.m,(aa rc x).st.b,(aO rc x).st.held⟩:ah))
 .fail))
 (cond (av (aO rc x).st.data.n (aa rc x).st.data.n)
 (.out aE.aq.ret (⟨(aO rc x).st.data,(aa rc x).st.a,(aa rc x).st.m,(aa rc x).st.b,(aO rc x).st.held⟩:ah))
 .fail)))
 (cond (decide ((aa rc x).st.cl < (aj ((aa rc x).st.n - (aa rc x).st.start))))
 (cond (decide ((aj ((aa rc x).st.n - (aa rc x).st.start)) < (aa rc x).st.b))
 (cond (av (aO rc x).st.data.n (aa rc x).st.data.n)
 (cond ((dG rc x).by aE.aq.ret)
 (cond (av (dG rc x).st.data.n (aa rc x).st.data.n)
 (.out aE.aq.ret (⟨(dG rc x).st.data,(aa rc x).st.a,(aa rc x).st.m,(aa rc x).st.b,(dG rc x).st.held⟩:ah))
 .fail)
 .fail)
 .fail)
 (cond (av (aO rc x).st.data.n (aa rc x).st.data.n)
 (.out aE.aq.ret (⟨(aO rc x).st.data,(aa rc x).st.a,(aa rc x).st.m,(aa rc x).st.b,(aO rc x).st.held⟩:ah))
 .fail))
 (cond (av (aO rc x).st.data.n (aa rc x).st.data.n)
 (.out aE.aq.ret (⟨(aO rc x).st.data,(aa rc x).st.a,(aa rc x).st.m,(aa rc x).st.b,(aO rc x).st.held⟩:ah))
 .fail)))
 .fail)
 .fail)
 (cond (decide ((aa rc x).st.a < (aa rc x).st.start))
 (cond (decide ((aa rc x).st.start < (aa rc x).st.cl))
 (cond (av (aa rc x).st.data.n (aa rc x).st.data.n)
 (cond ((a7 rc x).by aE.aq.ret)
 (cond (decide ((aa rc x).st.cl < (aj ((aa rc x).st.n - (aa rc x).st.start))))
 (cond (decide ((aj ((aa rc x).st.n - (aa rc x).st.start)) < (aa rc x).st.b))
 (cond (av (a7 rc x).st.data.n (aa rc x).st.data.n)
 (cond ((dH rc x).by aE.aq.ret)
 (cond (av (dH rc x).st.data.n (aa rc x).st.data.n)
 (.out aE.aq.ret (⟨(dH rc x).st.data,(aa rc x).st.a,(aa rc x).st.m,(aa rc x).st.b,(dH rc x).st.held⟩:ah))
 .fail)
 .fail)
 .fail)
 (cond (av (a7 rc x).st.data.n (aa rc x).st.data.n)
 (.out aE.aq.ret (⟨(a7 rc x).st.data,(aa rc x).st.a,(aa rc x).st.m,(aa rc x).st.b,(a7 rc x).st.held⟩:ah))
 .fail))
 (cond (av (a7 rc x).st.data.n (aa rc x).st.data.n)
 (.out aE.aq.ret (⟨(a7 rc x).st.data,(aa rc x).st.a,(aa rc x).st.m,(aa rc x).st.b,(a7 rc x).st.held⟩:ah))
 .fail))
 .fail)
 .fail)
 (cond (decide ((aa rc x).st.cl < (aj ((aa rc x).st.n - (aa rc x).st.start))))
 (cond (decide ((aj ((aa rc x).st.n - (aa rc x).st.start)) < (aa rc x).st.b))
 (cond (av (aa rc x).st.data.n (aa rc x).st.data.n)
 (cond ((bk rc x).by aE.aq.ret)
 (cond (av (bk rc x).st.data.n (aa rc x).st.data.n)
 (.out aE.aq.ret (⟨(bk rc x).st.data,(aa rc x).st.a,(aa rc x).st.m,(aa rc x).st.b,(bk rc x).st.held⟩:ah))
 .fail)
 .fail)
 .fail)
 (cond (av (aa rc x).st.data.n (aa rc x).st.data.n)
 (.out aE.aq.ret (⟨(aa rc x).st.data,(aa rc x).st.a,(aa rc x).st.m,(aa rc x).st.b,(aa rc x).st.eO⟩:ah))
 .fail))
 (cond (av (aa rc x).st.data.n (aa rc x).st.data.n)
 (.out aE.aq.ret (⟨(aa rc x).st.data,(aa rc x).st.a,(aa rc x).st.m,(aa rc x).st.b,(aa rc x).st.eO⟩:ah))
 .fail)))
 (cond (decide ((aa rc x).st.cl < (aj ((aa rc x).st.n - (aa rc x).st.start))))
 (cond (decide ((aj ((aa rc x).st.n - (aa rc x).st.start)) < (aa rc x).st.b))
 (cond (av (aa rc x).st.data.n (aa rc x).st.data.n)
 (cond ((bk rc x).by aE.aq.ret)
 (cond (av (bk rc x).st.data.n (aa rc x).st.data.n)
 (.out aE.aq.ret (⟨(bk rc x).st.data,(aa rc x).st.a,(aa rc x).st.m,(aa rc x).st.b,(bk rc x).st.held⟩:ah))
 .fail)
 .fail)
 .fail)
 (cond (av (aa rc x).st.data.n (aa rc x).st.data.n)
 (.out aE.aq.ret (⟨(aa rc x).st.data,(aa rc x).st.a,(aa rc x).st.m,(aa rc x).st.b,(aa rc x).st.eO⟩:ah))
 .fail))
 (cond (av (aa rc x).st.data.n (aa rc x).st.data.n)
 (.out aE.aq.ret (⟨(aa rc x).st.data,(aa rc x).st.a,(aa rc x).st.m,(aa rc x).st.b,(aa rc x).st.eO⟩:ah))
 .fail))))
 (cond (decide ((aa rc x).st.a < (aa rc x).st.start))
 (cond (decide ((aa rc x).st.start < (aa rc x).st.cl))
 (cond (av (aa rc x).st.data.n (aa rc x).st.data.n)
 (cond ((a7 rc x).by aE.aq.ret)
 (cond (decide ((aa rc x).st.cl < (aj ((aa rc x).st.n - (aa rc x).st.start))))
 (cond (decide ((aj ((aa rc x).st.n - (aa rc x).st.start)) < (aa rc x).st.b))
 (cond (av (a7 rc x).st.data.n (aa rc x).st.data.n)
 (cond ((dH rc x).by aE.aq.ret)
 (cond (av (dH rc x).st.data.n (aa rc x).st.data.n)
 (.out aE.aq.ret (⟨(dH rc x).st.data,(aa rc x).st.a,(aa rc x).st.m,(aa rc x).st.b,(dH rc x).st.held⟩:ah))
 .fail)
 .fail)
 .fail)
 (cond (av (a7 rc x).st.data.n (aa rc x).st.data.n)
 (.out aE.aq.ret (⟨(a7 rc x).st.data,(aa rc x).st.a,(aa rc x).st.m,(aa rc x).st.b,(a7 rc x).st.held⟩:ah))
 .fail))
 (cond (av (a7 rc x).st.data.n (aa rc x).st.data.n)
 (.out aE.aq.ret (⟨(a7 rc x).st.data,(aa rc x).st.a,(aa rc x).st.m,(aa rc x).st.b,(a7 rc x).st.held⟩:ah))
 .fail))
 .fail)
 .fail)
 (cond (decide ((aa rc x).st.cl < (aj ((aa rc x).st.n - (aa rc x).st.start))))
 (cond (decide ((aj ((aa rc x).st.n - (aa rc x).st.start)) < (aa rc x).st.b))
 (cond (av (aa rc x).st.data.n (aa rc x).st.data.n)
 (cond ((bk rc x).by aE.aq.ret)
 (cond (av (bk rc x).st.data.n (aa rc x).st.data.n)
 (.out aE.aq.ret (⟨(bk rc x).st.data,(aa rc x).st.a,(aa rc x).st.m,(aa rc x).st.b,(bk rc x).st.held⟩:ah))
 .fail)
 .fail)
 .fail)
 (cond (av (aa rc x).st.data.n (aa rc x).st.data.n)
 (.out aE.aq.ret (⟨(aa rc x).st.data,(aa rc x).st.a,(aa rc x).st.m,(aa rc x).st.b,(aa rc x).st.eO⟩:ah))
 .fail))
 (cond (av (aa rc x).st.data.n (aa rc x).st.data.n)
 (.out aE.aq.ret (⟨(aa rc x).st.data,(aa rc x).st.a,(aa rc x).st.m,(aa rc x).st.b,(aa rc x).st.eO⟩:ah))
 .fail)))
 (cond (decide ((aa rc x).st.cl < (aj ((aa rc x).st.n - (aa rc x).st.start))))
 (cond (decide ((aj ((aa rc x).st.n - (aa rc x).st.start)) < (aa rc x).st.b))
 (cond (av (aa rc x).st.data.n (aa rc x).st.data.n)
 (cond ((bk rc x).by aE.aq.ret)
 (cond (av (bk rc x).st.data.n (aa rc x).st.data.n)
 (.out aE.aq.ret (⟨(bk rc x).st.data,(aa rc x).st.a,(aa rc x).st.m,(aa rc x).st.b,(bk rc x).st.held⟩:ah))
 .fail)
 .fail)
 .fail)
 (cond (av (aa rc x).st.data.n (aa rc x).st.data.n)
 (.out aE.aq.ret (⟨(aa rc x).st.data,(aa rc x).st.a,(aa rc x).st.m,(aa rc x).st.b,(aa rc x).st.eO⟩:ah))
 .fail))
 (cond (av (aa rc x).st.data.n (aa rc x).st.data.n)
 (.out aE.aq.ret (⟨(aa rc x).st.data,(aa rc x).st.a,(aa rc x).st.m,(aa rc x).st.b,(aa rc x).st.eO⟩:ah))
 .fail))))
 .fail)
 .fail))))
theorem zm (rc:ah→aI ah) (x:ah):Al rc (iu x) (iv x)=aI.enc iu iv (dI rc x):=by
 unfold dI
 try simp only [aI.dn]
 kernel_rfl
def gD:Nat→ah→aI ah:=fun n=>Nat.rec (fun _=>.fail) (fun _ ih x=>dI ih x) n
def iU (n:Nat):Fc:=⟨123,nI,fun vs rs=>dL iu iv (gD n (ni vs rs)) [aE.aq.ret]⟩
theorem hM:∀ n,(iU n).Ok Try.prog
 | 0=>agf (cfg:=bu Try.prog [(35,cc)] [cV,dz,ei,eV,gv] (fun q=>Nat.beq q 58) false false [eP]) ((ao.cons bI ao.nil):ao Try.prog _).pc (L8 funcs mixed (L9 funcs mixed (fP.cons ff fP.nil)) (az.cons eU ek (az.cons gu fG (az.cons je hH (az.cons kY jY (az.cons oL nJ az.nil)))))) rfl fun _ _=>rfl
 | n+1=>Bd funcs mixed (ao.cons bI ao.nil) (az.cons eU ek (az.cons gu fG (az.cons je hH (az.cons kY jY (az.cons oL nJ az.nil))))) (L:=9) (n:=9) (step:=gD (n+1)) (ev:=iu) (er:=iv) (pa:=ni) rfl (fun wv wr=>⟨by kernel_rfl,by kernel_rfl⟩) (zm (gD n)) (BJ:=(fP.cons (hM n) (fP.cons ff fP.nil)))
structure bP where
 data:(Sl aU)
 n:Int
 held:aB
instance:Inhabited bP:=⟨⟨default,default,default⟩⟩
def lx (x:bP):List KV:=[jf 58 iJ x.data,.int .i64 x.n,.fn (.func 77) [] [.ptr 0 0]]
def ly (x:bP):List (List KV):=[cX x.held]
def s4 (vs:List KV) (rs:List (List KV)):bP:=⟨iQ jh (vs.getD 0 .aw),intOf (vs.getD 1 .aw),cY (fun k=>(rs.getD 0 []).getD k .aw)⟩
def tS:aQ:=⟨[(0,⟨false,[.arr 58]⟩),(1,⟨false,[.k (.int .i64)]⟩),(2,⟨false,[.ref (.fn (.func 77) [] [.ptr 0 0])]⟩)],[(100002,[.k (.slice 45),.k (.slice 108),.k (.slice 139)],1)],[]⟩
structure cD where
 data:(Sl aU)
 n:Int
 jw:Int
 a:Int
 b:Int
 Jp:aB
instance:Inhabited cD:=⟨⟨default,default,default,default,default,default⟩⟩
def jR (x:cD):List KV:=[jf 58 iJ x.data,.int .i64 x.n,.fn (.func 77) [] [.ptr 0 0],.int .i64 x.jw,.int .i64 x.a,.int .i64 x.b]
def jS (x:cD):List (List KV):=[cX x.Jp]
def qN (vs:List KV) (rs:List (List KV)):cD:=⟨iQ jh (vs.getD 0 .aw),intOf (vs.getD 1 .aw),intOf (vs.getD 3 .aw),intOf (vs.getD 4 .aw),intOf (vs.getD 5 .aw),cY (fun k=>(rs.getD 0 []).getD k .aw)⟩
def rM:aQ:=⟨[(0,⟨false,[.arr 58]⟩),(1,⟨false,[.k (.int .i64)]⟩),(2,⟨false,[.ref (.fn (.func 77) [] [.ptr 0 0])]⟩),(6,⟨false,[.k (.int .i64)]⟩),(7,⟨false,[.k (.int .i64)]⟩),(8,⟨false,[.k (.int .i64)]⟩)],[(100002,[.k (.slice 45),.k (.slice 108),.k (.slice 139)],1)],[]⟩
def zy:=py Try.prog (bu Try.prog [(35,cc)] [] (fun q=>Nat.beq q 58) false false [gq,(iU Kx)]) 9 9 105 28 (fh Try.prog 105 28) rM
def gT (x:cD):(aI bh):=(eT (⟨x.data,x.a,x.b,x.Jp⟩:bh))
def dA (x:cD):aI cD:=
 (cond (decide (x.b≤x.n))
 (cond (av x.data.n x.data.n)
 (cond ((gT x).by aE.aq.ret)
 (cond (av (gT x).st.data.n x.data.n)
 (.next (⟨(gT x).st.data,x.n,x.jw,x.b,(aj (x.b+x.jw)),(gT x).st.held⟩:cD))
 .fail)
 .fail)
 .fail)
 (cond (av x.data.n x.data.n)
 (.out (aE.aq.exit 0) x)
 .fail))
theorem yn (x:cD):zy (jR x) (jS x)=aI.enc jR jS (dA x):=by
 unfold dA
 try simp only [aI.dn]
 kernel_rfl
def gf:Lp:=⟨105,28,rM,fun vs rs=>dL jR jS (goN dA (qN vs rs)) [aE.aq.exit 0],true⟩
theorem mR:gf.Ok Try.prog:=lk funcs mixed (ao.cons bI ao.nil) az.nil (L:=9) (n:=9) (step:=dA) (ev:=jR) (er:=jS) (pa:=qN) rfl (fun wv wr=>⟨by kernel_rfl,by kernel_rfl⟩) yn (BJ:=(fP.cons ig (fP.cons (hM Kx) fP.nil)))
theorem lJ:cC Try.prog gf.f gf.p=true:=by kernel_rfl
structure bT where
 data:(Sl aU)
 n:Int
 jw:Int
 Jp:aB
instance:Inhabited bT:=⟨⟨default,default,default,default⟩⟩
def jT (x:bT):List KV:=[jf 58 iJ x.data,.int .i64 x.n,.fn (.func 77) [] [.ptr 0 0],.int .i64 x.jw]
def jU (x:bT):List (List KV):=[cX x.Jp]
def qO (vs:List KV) (rs:List (List KV)):bT:=⟨iQ jh (vs.getD 0 .aw),intOf (vs.getD 1 .aw),intOf (vs.getD 3 .aw),cY (fun k=>(rs.getD 0 []).getD k .aw)⟩
def rN:aQ:=⟨[(0,⟨false,[.arr 58]⟩),(1,⟨false,[.k (.int .i64)]⟩),(2,⟨false,[.ref (.fn (.func 77) [] [.ptr 0 0])]⟩),(6,⟨false,[.k (.int .i64)]⟩)],[(100002,[.k (.slice 45),.k (.slice 108),.k (.slice 139)],1)],[]⟩
structure cd where
 data:(Sl aU)
 n:Int
 jw:Int
 a:Int
 b:Int
 Jp:aB
instance:Inhabited cd:=⟨⟨default,default,default,default,default,default⟩⟩
def jo (x:cd):List KV:=[jf 58 iJ x.data,.int .i64 x.n,.fn (.func 77) [] [.ptr 0 0],.int .i64 x.jw,.int .i64 x.a,.int .i64 x.b]
def jq (x:cd):List (List KV):=[cX x.Jp]
def pH (vs:List KV) (rs:List (List KV)):cd:=⟨iQ jh (vs.getD 0 .aw),intOf (vs.getD 1 .aw),intOf (vs.getD 3 .aw),intOf (vs.getD 4 .aw),intOf (vs.getD 5 .aw),cY (fun k=>(rs.getD 0 []).getD k .aw)⟩
def qu:aQ:=⟨[(0,⟨false,[.arr 58]⟩),(1,⟨false,[.k (.int .i64)]⟩),(2,⟨false,[.ref (.fn (.func 77) [] [.ptr 0 0])]⟩),(6,⟨false,[.k (.int .i64)]⟩),(7,⟨false,[.k (.int .i64)]⟩),(8,⟨false,[.k (.int .i64)]⟩)],[(100002,[.k (.slice 45),.k (.slice 108),.k (.slice 139)],1)],[]⟩
def yo:=py Try.prog (bu Try.prog [(35,cc)] [gf] (fun q=>Nat.beq q 58) false false [gq,(iU Kx)]) 9 9 105 3988 (fh Try.prog 105 3988) qu
def eW (x:cd):(aI ah):=(gD 64 (⟨x.data,x.a,(aj (x.a+x.jw)),x.b,x.Jp⟩:ah))
def dk (x:cd):aI cd:=
 (cond (decide (x.b≤x.n))
 (cond (av x.data.n x.data.n)
 (cond ((eW x).by aE.aq.ret)
 (cond (av (eW x).st.data.n x.data.n)
 (.next (⟨(eW x).st.data,x.n,x.jw,x.b,(aj (x.b+(aj ((2:Int) * x.jw)))),(eW x).st.held⟩:cd))
 .fail)
 .fail)
 .fail)
 (cond (av x.data.n x.data.n)
 (.out (aE.aq.exit 4) x)
 .fail))
theorem wV (x:cd):yo (jo x) (jq x)=aI.enc jo jq (dk x):=by
 unfold dk
 try simp only [aI.dn]
 kernel_rfl
def gU:Lp:=⟨105,3988,qu,fun vs rs=>dL jo jq (goN dk (pH vs rs)) [aE.aq.exit 4],true⟩
theorem pI:gU.Ok Try.prog:=lk funcs mixed (ao.cons bI ao.nil) (az.cons mR lJ az.nil) (L:=9) (n:=9) (step:=dk) (ev:=jo) (er:=jq) (pa:=pH) rfl (fun wv wr=>⟨by kernel_rfl,by kernel_rfl⟩) wV (BJ:=(fP.cons ig (fP.cons (hM Kx) fP.nil)))
theorem oi:cC Try.prog gU.f gU.p=true:=by kernel_rfl
def zz:=py Try.prog (bu Try.prog [(35,cc)] [gf,gU] (fun q=>Nat.beq q 58) false false [gq,(iU Kx)]) 9 9 105 62 (fh Try.prog 105 62) rN
def aH (x:bT):(aI cd):=(goN dk (⟨x.data,x.n,x.jw,(0:Int),(aj ((2:Int) * x.jw)),x.Jp⟩:cd))
def fH (x:bT):(aI ah):=(gD 64 (⟨(aH x).st.data,(aH x).st.a,(aj ((aH x).st.a+(aH x).st.jw)),(aH x).st.n,(aH x).st.Jp⟩:ah))
def dB (x:bT):aI bT:=
 (cond (decide (x.jw < x.n))
 (cond (av x.data.n x.data.n)
 (cond ((aH x).by (aE.aq.exit 4))
 (cond (decide ((aj ((aH x).st.a+(aH x).st.jw)) < (aH x).st.n))
 (cond (av (aH x).st.data.n (aH x).st.data.n)
 (cond ((fH x).by aE.aq.ret)
 (cond (av (fH x).st.data.n (aH x).st.data.n)
 (.next (⟨(fH x).st.data,(aH x).st.n,(aj ((aH x).st.jw * (2:Int))),(fH x).st.held⟩:bT))
 .fail)
 .fail)
 .fail)
 (cond (av (aH x).st.data.n (aH x).st.data.n)
 (.next (⟨(aH x).st.data,(aH x).st.n,(aj ((aH x).st.jw * (2:Int))),(aH x).st.Jp⟩:bT))
 .fail))
 .fail)
 .fail)
 (cond (av x.data.n x.data.n)
 (.out (aE.aq.exit 2) x)
 .fail))
theorem yp (x:bT):zz (jT x) (jU x)=aI.enc jT jU (dB x):=by
 unfold dB
 try simp only [aI.dn]
 kernel_rfl
def ku:Lp:=⟨105,62,rN,fun vs rs=>dL jT jU (goN dB (qO vs rs)) [aE.aq.exit 2],true⟩
theorem zA:ku.Ok Try.prog:=lk funcs mixed (ao.cons bI ao.nil) (az.cons mR lJ (az.cons pI oi az.nil)) (L:=9) (n:=9) (step:=dB) (ev:=jT) (er:=jU) (pa:=qO) rfl (fun wv wr=>⟨by kernel_rfl,by kernel_rfl⟩) yp (BJ:=(fP.cons ig (fP.cons (hM Kx) fP.nil)))
theorem xV:cC Try.prog ku.f ku.p=true:=by kernel_rfl
def BR:=EZ Try.prog (bu Try.prog [(35,cc)] [gf,gU,ku] (fun q=>Nat.beq q 58) false false [gq,(iU Kx)]) 9 9 105 tS
def cL (x:bP):(aI cD):=(goN dA (⟨x.data,x.n,(20:Int),(0:Int),(20:Int),x.held⟩:cD))
def gE (x:bP):(aI bh):=(eT (⟨(cL x).st.data,(cL x).st.a,(cL x).st.n,(cL x).st.Jp⟩:bh))
def ew (x:bP):(aI bT):=(goN dB (⟨(gE x).st.data,(cL x).st.n,(cL x).st.jw,(gE x).st.held⟩:bT))
def kv (x:bP):aI bP:=
 (cond (av x.data.n x.data.n)
 (cond ((cL x).by (aE.aq.exit 0))
 (cond (av (cL x).st.data.n (cL x).st.data.n)
 (cond ((gE x).by aE.aq.ret)
 (cond (av (gE x).st.data.n (cL x).st.data.n)
 (cond ((ew x).by (aE.aq.exit 2))
 (cond (av (ew x).st.data.n (ew x).st.data.n)
 (.out aE.aq.ret (⟨(ew x).st.data,(ew x).st.n,(ew x).st.Jp⟩:bP))
 .fail)
 .fail)
 .fail)
 .fail)
 .fail)
 .fail)
 .fail)
theorem Ao (x:bP):BR (lx x) (ly x)=aI.enc lx ly (kv x):=by
 unfold kv
 try simp only [aI.dn]
 kernel_rfl
def jF (x:bP):aI bP:=kv x
def lW:Fc:=⟨105,tS,fun vs rs=>dL lx ly (jF (s4 vs rs)) [aE.aq.ret]⟩
theorem nK:lW.Ok Try.prog:=Bd funcs mixed (ao.cons bI ao.nil) (az.cons mR lJ (az.cons pI oi (az.cons zA xV az.nil))) (L:=9) (n:=9) (step:=jF) (ev:=lx) (er:=ly) (pa:=s4) rfl (fun wv wr=>⟨by kernel_rfl,by kernel_rfl⟩) Ao (BJ:=(fP.cons ig (fP.cons (hM Kx) fP.nil)))
end
end Go.Proofs.Ytahhdndhkgbcjaa.b
end
section
namespace Go.Proofs.Ytahhdndhkgbcjaa.b
open Go.K
set_option linter.unusedVariables false
set_option linter.unusedSimpArgs false
noncomputable section
structure iw where
 t2:Int
 zero:Int
 t6:(Sl Int)
 t7:Int
 t8:Int
instance:Inhabited iw:=⟨⟨default,default,default,default,default⟩⟩
def tT (x:iw):List KV:=[.int .i64 x.t2,.int .i64 x.zero,jf 3 (kI .i64) x.t6,.int .i64 x.t7,.int .i64 x.t8]
def tU (x:iw):List (List KV):=[]
def EE (vs:List KV) (rs:List (List KV)):iw:=⟨intOf (vs.getD 0 .aw),intOf (vs.getD 1 .aw),iQ intOf (vs.getD 2 .aw),intOf (vs.getD 3 .aw),intOf (vs.getD 4 .aw)⟩
def GG:aQ:=⟨[(2,⟨false,[.k (.int .i64)]⟩),(3,⟨false,[.k (.int .i64)]⟩),(6,⟨false,[.k (.slice 3)]⟩),(7,⟨false,[.k (.int .i64)]⟩),(8,⟨false,[.k (.int .i64)]⟩)],[],[]⟩
def R7:=jk Try.prog (bu Try.prog [] [] (fun _=>false)) 9 9 104 58 (fh Try.prog 104 58) GG
def kH (x:iw):aI iw:=
 (cond (decide (x.t8 < x.t7))
 (cond ((decide ((0:Int)≤x.t8))&&(decide (x.t8 < ((x.t6.n:Nat):Int))))
 (cond ((x.t6.get (Int.toNat x.t8)) != x.zero)
 (.out aE.aq.ret (⟨(x.t6.get (Int.toNat x.t8)),x.zero,x.t6,x.t7,x.t8⟩:iw))
 (.next (⟨x.t2,x.zero,x.t6,x.t7,(aj (x.t8+(1:Int)))⟩:iw)))
 .fail)
 (.out (aE.aq.exit 0) x))
theorem MO (x:iw):R7 (tT x) (tU x)=aI.enc tT tU (kH x):=by
 unfold kH
 try simp only [aI.dn]
 kernel_rfl
def vJ:Lp:=⟨104,58,GG,fun vs rs=>dL tT tU (goN kH (EE vs rs)) [aE.aq.exit 0,aE.aq.ret],false⟩
theorem R8:vJ.Ok Try.prog:=eM funcs mixed ao.nil az.nil (L:=9) (n:=9) (step:=kH) (ev:=tT) (er:=tU) (pa:=EE) rfl (fun wv wr=>⟨by kernel_rfl,by kernel_rfl⟩) MO
theorem Ls:cC Try.prog vJ.f vJ.p=true:=by kernel_rfl
def Lt:List (Nat×(List KV→KR KV)):=[]
def Lu:List Lp:=[vJ]
theorem Ut:ao Try.prog Lt:=ao.nil
theorem Uu:az Try.prog Lu:=(az.cons R8 Ls az.nil)
def pW (dX:(Sl Int)):(aI iw):=(goN kH (⟨(0:Int),(0:Int),dX,((dX.n:Nat):Int),(0:Int)⟩:iw))
def th (dX:(Sl Int)):Option (Int):=
 (cond ((pW dX).by (aE.aq.exit 0))
 (some ((pW dX).st.zero))
 (cond ((pW dX).by aE.aq.ret)
 (some ((pW dX).st.t2))
 none))
theorem WG (dX:(Sl Int)):dp Try.prog (bu Try.prog Lt Lu (fun _=>false)) 9 9 104 [(jf 3 (kI .i64)) dX] = (th dX).map (kI .i64):=by
 unfold th
 try simp only [ch]
 kernel_rfl
def NK:List KV→KR KV:=cA Try.prog 104 (cF (kI .i64) fun vs=>th ((iQ intOf) (vs.getD 0 .aw)))
theorem Uv (w:Nat→KV):cM Try.prog [26] w 0 = [(jf 3 (kI .i64)) ((iQ intOf) (ay Try.prog (ak Try.prog au) 26 (w 0)))]:=by kernel_rfl
theorem Uw:ca Try.prog 104 NK:=aY funcs mixed Ut Uu (L:=9) (n:=9) fun w=>by
 have e:aJ Try.prog 104 = [26]:=by kernel_rfl
 rw [e,Uv]
 exact (WG ((iQ intOf) (ay Try.prog (ak Try.prog au) 26 (w 0)))).trans (by kernel_rfl)
def GH:List (Nat×(List KV→KR KV)):=[(104,NK),(35,cc)]
def GI:List Lp:=[]
theorem Pg:ao Try.prog GH:=(ao.cons Uw (ao.cons bI ao.nil))
theorem Ph:az Try.prog GI:=az.nil
def zn (a:aU) (b:aU):(Option Int):=(eD b.d a.d)
def zo (a:aU) (b:aU):(Option Int):=(eD a.item b.item)
def zp (a:aU) (b:aU):(Option Int):=(eD a.gW b.gW)
def zq (a:aU) (b:aU):(Option Int):=(eD a.part b.part)
def qv (a:aU) (b:aU):(Option Int):=(th (Sl.lit [((zn a b).getD default),((zo a b).getD default),((zp a b).getD default),((zq a b).getD default)]))
def pX (a:aU) (b:aU):Option (Bool):=
 (cond (zn a b).isSome
 (cond (zo a b).isSome
 (cond (zp a b).isSome
 (cond (zq a b).isSome
 (cond (qv a b).isSome
 (some ((decide (((qv a b).getD default) < (0:Int)))))
 none)
 none)
 none)
 none)
 none)
theorem R9 (a:aU) (b:aU):dp Try.prog (bu Try.prog GH GI (fun _=>false)) 9 9 73 [iJ a,iJ b] = (pX a b).map kB:=by
 unfold pX
 try simp only [ch,qv,Ky]
 kernel_rfl
def BS:List KV→KR KV:=cA Try.prog 73 (cF kB fun vs=>pX (jh (vs.getD 0 .aw)) (jh (vs.getD 1 .aw)))
theorem Pj (w:Nat→KV):cM Try.prog [58,58] w 0 = [iJ (jh (ay Try.prog (ak Try.prog au) 58 (w 0))),iJ (jh (ay Try.prog (ak Try.prog au) 58 (w 1)))]:=by kernel_rfl
theorem DB:ca Try.prog 73 BS:=aY funcs mixed Pg Ph (L:=9) (n:=9) fun w=>by
 have e:aJ Try.prog 73 = [58,58]:=by kernel_rfl
 rw [e,Pj]
 exact (R9 (jh (ay Try.prog (ak Try.prog au) 58 (w 0))) (jh (ay Try.prog (ak Try.prog au) 58 (w 1)))).trans (by kernel_rfl)
structure aD where
 x:Int
 y:Int
 t14:(Sl di)
 t15:Int
 t16:Int
 dU:aB
 pJ:Bool
 oM:aU
instance:Inhabited aD:=⟨⟨default,default,default,default,default,default,default,default⟩⟩
def eZ (x:aD):List KV:=[.int .i64 x.x,.int .i64 x.y,.fn (.func 72) [] [.ptr 0 0,.ptr 1 0,.ptr 2 0],jf 139 sE x.t14,.int .i64 x.t15,.int .i64 x.t16]
def fa (x:aD):List (List KV):=[cX x.dU,[.bool x.pJ],ZX x.oM]
def kZ (vs:List KV) (rs:List (List KV)):aD:=⟨intOf (vs.getD 0 .aw),intOf (vs.getD 1 .aw),iQ sF (vs.getD 3 .aw),intOf (vs.getD 4 .aw),intOf (vs.getD 5 .aw),cY (fun k=>(rs.getD 0 []).getD k .aw),nP ((rs.getD 1 []).getD 0 .aw),ZY (fun k=>(rs.getD 2 []).getD k .aw)⟩
def lB:aQ:=⟨[(1,⟨false,[.k (.int .i64)]⟩),(2,⟨false,[.k (.int .i64)]⟩),(3,⟨false,[.ref (.fn (.func 72) [] [.ptr 0 0,.ptr 1 0,.ptr 2 0])]⟩),(14,⟨false,[.k (.slice 139)]⟩),(15,⟨false,[.k (.int .i64)]⟩),(16,⟨false,[.k (.int .i64)]⟩)],[(100003,[.k (.slice 45),.k (.slice 108),.k (.slice 139)],1),(200003,[.k .bool],1),(300003,[.k (.int .i64),.k (.int .i64),.k (.int .i64),.k (.int .i64),.k (.int .i64),.k (.int .i64)],1)],[]⟩
def qG:=jk Try.prog (bu Try.prog [(66,rW),(73,BS)] [] (fun _=>false)) 9 9 41 14 (fh Try.prog 41 14) lB
def aP (x:aD):(Option (Prod fU Int)):=(mM (x.t14.get (Int.toNat x.t16)).t x.x x.y)
def eQ (x:aD):(Option Bool):=(pX (⟨(aj ((x.t14.get (Int.toNat x.t16)).cU.d+((aP x).getD default).fst.d)),(x.t14.get (Int.toNat x.t16)).cU.item,(x.t14.get (Int.toNat x.t16)).cU.gW,(x.t14.get (Int.toNat x.t16)).cU.part,((aP x).getD default).fst.u,((aP x).getD default).fst.v⟩:aU) x.oM)
def bJ (x:aD):aI aD:=
 (cond (decide (x.t16 < x.t15))
 (cond ((decide ((0:Int)≤x.t16))&&(decide (x.t16 < ((x.t14.n:Nat):Int))))
 (cond (aP x).isSome
 (cond (((aP x).getD default).snd==(0:Int))
 (cond ((decide ((0:Int)≤(x.t14.get (Int.toNat x.t16)).cU.item))&&(decide ((x.t14.get (Int.toNat x.t16)).cU.item < ((x.dU.cN.items.n:Nat):Int))))
 (cond (!(x.dU.cN.items.get (Int.toNat (x.t14.get (Int.toNat x.t16)).cU.item)).look.Ii)
 (cond (!x.pJ)
 (.next (⟨x.x,x.y,x.t14,x.t15,(aj (x.t16+(1:Int))),x.dU,true,(⟨(aj ((x.t14.get (Int.toNat x.t16)).cU.d+((aP x).getD default).fst.d)),(x.t14.get (Int.toNat x.t16)).cU.item,(x.t14.get (Int.toNat x.t16)).cU.gW,(x.t14.get (Int.toNat x.t16)).cU.part,((aP x).getD default).fst.u,((aP x).getD default).fst.v⟩:aU)⟩:aD))
 (cond (eQ x).isSome
 (cond ((eQ x).getD default)
 (.next (⟨x.x,x.y,x.t14,x.t15,(aj (x.t16+(1:Int))),x.dU,true,(⟨(aj ((x.t14.get (Int.toNat x.t16)).cU.d+((aP x).getD default).fst.d)),(x.t14.get (Int.toNat x.t16)).cU.item,(x.t14.get (Int.toNat x.t16)).cU.gW,(x.t14.get (Int.toNat x.t16)).cU.part,((aP x).getD default).fst.u,((aP x).getD default).fst.v⟩:aU)⟩:aD))
 (.next (⟨x.x,x.y,x.t14,x.t15,(aj (x.t16+(1:Int))),x.dU,x.pJ,x.oM⟩:aD)))
 .fail))
 (.next (⟨x.x,x.y,x.t14,x.t15,(aj (x.t16+(1:Int))),x.dU,x.pJ,x.oM⟩:aD)))
 .fail)
 (.next (⟨x.x,x.y,x.t14,x.t15,(aj (x.t16+(1:Int))),x.dU,x.pJ,x.oM⟩:aD)))
 .fail)
 .fail)
 (.out (aE.aq.exit 0) x))
theorem pQ (x:aD):qG (eZ x) (fa x)=aI.enc eZ fa (bJ x):=by
 unfold bJ
 try simp only [aI.dn]
 kernel_rfl
def fk:Lp:=⟨41,14,lB,fun vs rs=>dL eZ fa (goN bJ (kZ vs rs)) [aE.aq.exit 0],false⟩
theorem qH:fk.Ok Try.prog:=eM funcs mixed (ao.cons o9 (ao.cons DB ao.nil)) az.nil (L:=9) (n:=9) (step:=bJ) (ev:=eZ) (er:=fa) (pa:=kZ) rfl (fun wv wr=>⟨by kernel_rfl,by kernel_rfl⟩) pQ
theorem pC:cC Try.prog fk.f fk.p=true:=by kernel_rfl
def zr:List (Nat×(List KV→KR KV)):=[(66,rW),(73,BS)]
def zt:List Lp:=[fk]
theorem Fo:ao Try.prog zr:=(ao.cons o9 (ao.cons DB ao.nil))
theorem Fp:az Try.prog zt:=(az.cons qH pC az.nil)
def lR (s:aB) (x:Int) (y:Int):(aI aD):=(goN bJ (⟨x,y,s.parts,((s.parts.n:Nat):Int),(0:Int),s,false,(⟨(-(2048:Int)),(-(1:Int)),(-(1:Int)),(0:Int),(0:Int),(0:Int)⟩:aU)⟩:aD))
def hU (s:aB) (x:Int) (y:Int):Option (aU×Bool):=
 (cond ((lR s x y).by (aE.aq.exit 0))
 (some ((lR s x y).st.oM,(lR s x y).st.pJ))
 none)
theorem GJ (s:aB) (x:Int) (y:Int):dp Try.prog (bu Try.prog zr zt (fun _=>false)) 9 9 43 [l9 s,(kI .i64) x,(kI .i64) y] = (hU s x y).map (fun (r:aU×Bool)=>KV.jI [iJ r.1,kB r.2]):=by
 unfold hU
 try simp only [ch]
 kernel_rfl
def m7:List KV→KR KV:=cA Try.prog 43 (cF (fun (r:aU×Bool)=>KV.jI [iJ r.1,kB r.2]) fun vs=>hU (nw (vs.getD 0 .aw)) (intOf (vs.getD 1 .aw)) (intOf (vs.getD 2 .aw)))
theorem Fq (w:Nat→KV):cM Try.prog [96,3,3] w 0 = [l9 (nw (ay Try.prog (ak Try.prog au) 96 (w 0))),(kI .i64) (intOf (ay Try.prog (ak Try.prog au) 3 (w 1))),(kI .i64) (intOf (ay Try.prog (ak Try.prog au) 3 (w 2)))]:=by kernel_rfl
theorem ny:ca Try.prog 43 m7:=aY funcs mixed Fo Fp (L:=9) (n:=9) fun w=>by
 have e:aJ Try.prog 43 = [96,3,3]:=by kernel_rfl
 rw [e,Fq]
 exact (GJ (nw (ay Try.prog (ak Try.prog au) 96 (w 0))) (intOf (ay Try.prog (ak Try.prog au) 3 (w 1))) (intOf (ay Try.prog (ak Try.prog au) 3 (w 2)))).trans (by kernel_rfl)
end
end Go.Proofs.Ytahhdndhkgbcjaa.b
end
section
namespace Go.Proofs.Ytahhdndhkgbcjaa.b
open Go.K
open Go.aE (aq)
theorem Mg {α:Type} (l:Sl α) (j:Nat) (h:j < l.n):(eh l)[j]? = some (l.get j):=by
 unfold eh
 rw [List.getElem?_map,List.getElem?_range h]
 rfl
theorem Lv {α:Type} {l:Sl α} {j:Nat} (h:j < l.n):l.get j∈eh l:=List.mem_map.2 ⟨j,List.mem_range.2 h,rfl⟩
def oz (x y:Int) (p:di):Option aU:=
 match mM p.t x y with
 | some (sp,e)=>cond (e==0) (some ⟨aj (p.cU.d+sp.d),p.cU.item,p.cU.gW,p.cU.part,sp.u,sp.v⟩) none
 | none=>none
def n7 (x y:Int) (l:List di):List aU:=l.filterMap (oz x y)
theorem Ux {x y:Int} (l:Sl di) (j:Nat) (h:j < l.n):n7 x y ((eh l).take (j+1))=n7 x y ((eh l).take j)++(oz x y (l.get j)).toList:=by
 unfold n7
 rw [Ur l j h,List.filterMap_append]
 congr 1
theorem Lw (t:bt) (x y:Int):∃ s e,mM t x y=some (s,e):=by
 obtain ⟨s,e,h,_⟩:=VF t x y
 exact ⟨s,e,h⟩
theorem aj5 (x y:Int) (l:List di):(n7 x y l).length≤l.length:=List.length_filterMap_le _ _
theorem adh (x:bn) (hn:x.t14.n≤98304) (h15:x.t15=(x.t14.n:Int)) (h16:x.t16=0) (h0:x.dU.n=0) :
  ∃ e y,goN cn x = .out e y∧(e = .exit 0∧eh y.dU=n7 x.x x.y (eh x.t14)):=by
 refine dE (step:=cn) (fun j y=>y.t14=x.t14∧y.t15=(x.t14.n:Int)∧y.t16=(j:Int)∧y.x=x.x∧y.y=x.y∧j≤x.t14.n∧y.dU.n≤j∧eh y.dU=n7 x.x x.y ((eh x.t14).take j)) (fun e y=>e = .exit 0∧eh y.dU=n7 x.x x.y (eh x.t14)) x.t14.n (by have:m6=1000000000000:=rfl; omega) (fun j y hj ⟨f1,f2,f3,f4,f5,f6,f7,f8⟩=>?_) ⟨rfl,h15,h16,rfl,rfl,Nat.zero_le _,by omega,List.length_eq_zero_iff.1 (by rw [lQ,h0])⟩
 have w1:aj (y.t16+1)=y.t16+1:=a9 (by omega) (by omega)
 have a1:fI 48 y.dU.n 1=true:=Iq (by omega) (by omega) (by omega) (.inl (by omega))
 unfold cn
 by_cases h:y.t16 < y.t15
 ·have nW:j < x.t14.n:=by omega
  have hg:y.t14.get (Int.toNat y.t16)=x.t14.get j:=by rw [f1,f3,Int.toNat_natCast]
  obtain ⟨sp,e,hp⟩:=Lw (x.t14.get j).t x.x x.y
  have e0:df y=some (sp,e):=by
   unfold df
   rw [hg,f4,f5]
   exact hp
  have tk:=Ux (x:=x.x) (y:=x.y) x.t14 j nW
  simp only [e0,w1,a1,bc,cond_true,Bool.and_self,Option.isSome_some,Option.getD_some,decide_eq_true h,decide_eq_true (show (0:Int)≤y.t16 by omega),decide_eq_true (show y.t16 < ((y.t14.n:Nat):Int) by rw [f1]; omega)]
  cases he:(e==(0:Int)) with
  | true=>
   have DK:oz x.x x.y (x.t14.get j)=some ⟨aj ((x.t14.get j).cU.d+sp.d),(x.t14.get j).cU.item,(x.t14.get j).cU.gW,(x.t14.get j).cU.part,sp.u,sp.v⟩:=by
    unfold oz
    rw [hp]
    simp only [he,cond_true]
   rw [cond_true]
   refine .inl ⟨_,rfl,by omega,f1,f2,by show y.t16+1=_; omega,f4,f5,by omega,by simp only [Sl.EC]; omega,?_⟩
   show eh (Sl.push _ _)=_
   rw [Uq,f8,tk,DK,hg]
   rfl
  | false=>
   have DK:oz x.x x.y (x.t14.get j)=none:=by
    unfold oz
    rw [hp]
    simp only [he,cond_false]
   rw [cond_false]
   refine .inl ⟨_,rfl,by omega,f1,f2,by show y.t16+1=_; omega,f4,f5,by omega,by show y.dU.n≤_; omega,?_⟩
   show eh y.dU=_
   rw [tk,DK,f8]
   simp
 ·simp only [bc,cond_true,cond_false,decide_eq_false h]
  refine .inr ⟨_,_,rfl,rfl,rfl,?_⟩
  rw [f8,show j=x.t14.n by omega,List.take_of_length_le (by rw [lQ]; exact Nat.le_refl _)]
theorem adi (s:Show) (c:a8) (x y:Int):∃ l e,mz s c x y=some (l,e)∧
  (e≠0∧(∃ r,oH s c x y=some (r,e))∨e=0∧∃ r,oH s c x y=some (r,0)∧ED s∧Ll c∧(0≤x∧x < c.w)∧(0≤y∧y < c.h)∧jX s c=some 0∧qp s c=some r∧r.cN=s∧eh r.parts=lA s c∧r.parts.n≤98304∧eh l=n7 x y (lA s c)):=by
 have at_:∃ r e,oH s c x y=some (r,e)∧(e≠0∨e=0∧ED s∧Ll c∧(0≤x∧x < c.w)∧(0≤y∧y < c.h)∧jX s c=some 0∧qp s c=some r∧r.cN=s∧eh r.parts=lA s c∧r.parts.n≤98304):=by
  obtain ⟨e,h1,h2⟩:=afi s c
  have e0:AW s c x y=some e:=h1
  unfold oH
  simp only [e0,Option.isSome_some,Option.getD_some,cond_true]
  cases he:(e != (0:Int)) with
  | true=>exact ⟨_,_,rfl,.inl (by simpa using he)⟩
  | false=>
   have he:e=0:=by simpa using he
   subst he
   obtain ⟨hs,hc⟩:=h2 rfl
   rw [cond_false]
   by_cases c1:x < 0
   ·rw [decide_eq_true c1]; exact ⟨_,_,rfl,.inl (by decide)⟩
   by_cases c2:x ≥ c.w
   ·rw [decide_eq_false c1,decide_eq_true c2]; exact ⟨_,_,rfl,.inl (by decide)⟩
   by_cases c3:y < 0
   ·rw [decide_eq_false c1,decide_eq_false c2,decide_eq_true c3]; exact ⟨_,_,rfl,.inl (by decide)⟩
   by_cases c4:y ≥ c.h
   ·rw [decide_eq_false c1,decide_eq_false c2,decide_eq_false c3,decide_eq_true c4]; exact ⟨_,_,rfl,.inl (by decide)⟩
   obtain ⟨r,hr,h3,h4,h5⟩:=aid s c hs
   have e1:Fl s c x y=some r:=hr
   simp only [decide_eq_false c1,decide_eq_false c2,decide_eq_false c3,decide_eq_false c4,cond_false,e1,Option.isSome_some,Option.getD_some,cond_true]
   exact ⟨_,_,rfl,.inr ⟨rfl,hs,hc,⟨by omega,by omega⟩,⟨by omega,by omega⟩,h1,hr,h3,h4,h5⟩⟩
 obtain ⟨r,e,h1,h2⟩:=at_
 have e0:ng s c x y=some (r,e):=h1
 rcases h2 with h2 | ⟨rfl,hs,hc,hx,hy,ha,ho,h3,h4,h5⟩
 ·unfold mz
  simp only [e0,Option.isSome_some,Option.getD_some,cond_true,show (e==(0:Int))=false by simpa using h2,cond_false]
  exact ⟨_,_,rfl,.inl ⟨h2,r,h1⟩⟩
 ·obtain ⟨e,z,hz,rfl,h6⟩:∃ e z,oU s c x y = .out e z∧(e = .exit 0∧eh z.dU=n7 x y (eh r.parts)):=by
   unfold oU
   rw [e0]
   exact adh _ h5 rfl rfl rfl
  have b1:(oU s c x y).by (.exit 0)=true:=by rw [hz]; rfl
  have b2:(oU s c x y).st=z:=by rw [hz]; rfl
  refine ⟨z.dU,0,?_,.inr ⟨rfl,r,h1,hs,hc,hx,hy,ha,ho,h3,h4,h5,by rw [h6,h4]⟩⟩
  unfold mz
  simp only [e0,b1,b2,Option.isSome_some,Option.getD_some,cond_true,show ((0:Int)==0)=true from rfl]
end Go.Proofs.Ytahhdndhkgbcjaa.b
end
section
namespace Go.Proofs.Ytahhdndhkgbcjaa.b
open Go.K
open Go.aE (aq)
def EF (x y:Int):Int:=if x < y then -1 else if x > y then 1 else 0
theorem AX (x y:Int):eD x y=some (EF x y):=by
 unfold eD wj qV n6 EF
 simp only [bne_self_eq_false,Option.getD_some,cond_false]
 by_cases h:x < y
 ·rw [decide_eq_true h,if_pos h]; rfl
 ·rw [decide_eq_false h,if_neg h]
  by_cases h2:x > y
  ·rw [decide_eq_true h2,if_pos h2]; rfl
  ·rw [decide_eq_false h2,if_neg h2]; rfl
def or4 (a b c d:Int):Int:=if a≠0 then a else if b≠0 then b else if c≠0 then c else d
theorem aj6 (a b c d:Int):th (Sl.lit [a,b,c,d])=some (or4 a b c d):=by
 have g0:(Sl.lit [a,b,c,d]).get 0=a:=rfl
 have g1:(Sl.lit [a,b,c,d]).get 1=b:=rfl
 have g2:(Sl.lit [a,b,c,d]).get 2=c:=rfl
 have g3:(Sl.lit [a,b,c,d]).get 3=d:=rfl
 generalize hl:Sl.lit [a,b,c,d] = l at g0 g1 g2 g3
 have hn:l.n=4:=by rw [← hl]; rfl
 obtain ⟨e,y,hy,hq⟩:∃ e y,pW l = .out e y∧((e = .exit 0∧y.zero=0∧∀ i,i < 4→l.get i=0)∨e = .ret∧∃ j,j < 4∧(∀ i,i < j→l.get i=0)∧l.get j≠0∧y.t2=l.get j):=by
  unfold pW
  refine dE (step:=kH) (fun j y=>y.zero=0∧y.t6=l∧y.t7=4∧y.t8=(j:Int)∧j≤4∧∀ i,i < j→l.get i=0) _ 4 (by have:m6=1000000000000:=rfl; omega) (fun j y hj ⟨f1,f2,f3,f4,f5,f6⟩=>?_) ⟨rfl,rfl,by show ((l.n:Nat):Int)=4; omega,rfl,Nat.zero_le _,fun i hi=>absurd hi (Nat.not_lt_zero _)⟩
  have w1:aj (y.t8+1)=y.t8+1:=a9 (by omega) (by omega)
  unfold kH
  by_cases h:y.t8 < y.t7
  ·have hg:y.t6.get (Int.toNat y.t8)=l.get j:=by rw [f2,f4,Int.toNat_natCast]
   simp only [w1,hg,f1,cond_true,Bool.and_self,decide_eq_true h,decide_eq_true (show (0:Int)≤y.t8 by omega),decide_eq_true (show y.t8 < ((y.t6.n:Nat):Int) by rw [f2]; omega)]
   cases hb:(l.get j != 0) with
   | true=>exact .inr ⟨_,_,rfl,rfl,.inr ⟨rfl,j,by omega,f6,by simpa using hb,rfl⟩⟩
   | false=>
    refine .inl ⟨_,rfl,by omega,by first | rfl | exact f1,f2,f3,by show y.t8+1=_; omega,by omega,fun i hi=>?_⟩
    by_cases he:i=j
    ·subst he; simpa using hb
    ·exact f6 i (by omega)
  ·simp only [cond_false,decide_eq_false h]
   exact .inr ⟨_,_,rfl,rfl,.inl ⟨rfl,f1,fun i hi=>f6 i (by omega)⟩⟩
 unfold th or4
 rcases hq with ⟨rfl,h1,h2⟩ | ⟨rfl,j,h1,h2,h3,h4⟩
 ·rw [hy]
  simp only [aI.jC,aI.jL,fc,Nat.beq_refl,cond_true,h1]
  have e0:=h2 0 (by omega); have e1:=h2 1 (by omega); have e2:=h2 2 (by omega); have e3:=h2 3 (by omega)
  rw [g0] at e0; rw [g1] at e1; rw [g2] at e2; rw [g3] at e3
  simp [e0,e1,e2,e3]
 ·rw [hy]
  simp only [aI.jC,aI.jL,fc,cond_true,cond_false,h4]
  rcases j with _ | _ | _ | _ | j
  ·rw [g0] at h3 ⊢
   rw [if_pos h3]
  ·have e0:=h2 0 (by omega)
   rw [g0] at e0
   rw [g1] at h3 ⊢
   simp [e0,h3]
  ·have e0:=h2 0 (by omega); have e1:=h2 1 (by omega)
   rw [g0] at e0; rw [g1] at e1
   rw [g2] at h3 ⊢
   simp [e0,e1,h3]
  ·have e0:=h2 0 (by omega); have e1:=h2 1 (by omega); have e2:=h2 2 (by omega)
   rw [g0] at e0; rw [g1] at e1; rw [g2] at e2
   rw [g3] at h3 ⊢
   simp [e0,e1,e2]
  ·omega
theorem Sa (x y:Int):EF x y < 0↔x < y:=by
 unfold EF
 split
 ·omega
 ·split <;> omega
theorem aaf (x y:Int):EF x y=0↔x=y:=by
 unfold EF
 split
 ·omega
 ·split <;> omega
theorem akP (a b c d:Int):or4 a b c d < 0↔a < 0∨a=0∧(b < 0∨b=0∧(c < 0∨c=0∧d < 0)):=by
 unfold or4
 split
 ·omega
 ·split
  ·omega
  ·split <;> omega
def DC (a b:aU):Prop:=b.d < a.d∨a.d=b.d∧(a.item < b.item∨a.item=b.item∧(a.gW < b.gW∨a.gW=b.gW∧a.part < b.part))
instance (a b:aU):Decidable (DC a b):=by unfold DC; infer_instance
theorem adj (a b:aU):pX a b=some (decide (DC a b)):=by
 have e0:zn a b=some (EF b.d a.d):=AX _ _
 have e1:zo a b=some (EF a.item b.item):=AX _ _
 have e2:zp a b=some (EF a.gW b.gW):=AX _ _
 have e3:zq a b=some (EF a.part b.part):=AX _ _
 have e4:qv a b=some (or4 (EF b.d a.d) (EF a.item b.item) (EF a.gW b.gW) (EF a.part b.part)):=by
  unfold qv
  rw [e0,e1,e2,e3]
  exact aj6 _ _ _ _
 unfold pX
 simp only [e0,e1,e2,e3,e4,Option.isSome_some,Option.getD_some,cond_true]
 congr 1
 refine decide_eq_decide.2 ?_
 rw [akP,Sa,Sa,Sa,Sa,aaf,aaf,aaf]
 unfold DC
 omega
def qw (s:Show) (f:aU):Bool:=(s.items.get (Int.toNat f.item)).look.Ii
def afj (s:Show) (b:aU×Bool) (f:aU):aU×Bool:=cond (!qw s f) (cond (!b.2) (f,true) (cond (decide (DC f b.1)) (f,true) b)) b
def adk:aU:=⟨-2048,-1,-1,0,0,0⟩
def DD (s:Show) (l:List aU):aU×Bool:=l.foldl (afj s) (adk,false)
theorem ab0 (s:Show) (l:List aU) (f:aU):DD s (l++[f])=afj s (DD s l) f:=by
 unfold DD
 rw [List.foldl_append]
 rfl
theorem Uy {s:Show} {c:a8} {p:di} (h:p∈lA s c):∃ i k n,i < s.items.n∧k < (s.items.get i).fQ.n∧n < (prt s c i k).n∧p=partAt s c i k n:=by
 unfold lA at h
 obtain ⟨i,h1,h2⟩:=List.mem_flatMap.1 h
 unfold Lm at h2
 obtain ⟨k,h3,h4⟩:=List.mem_flatMap.1 h2
 unfold R5 at h4
 obtain ⟨n,h5,h6⟩:=List.mem_map.1 h4
 exact ⟨i,k,n,List.mem_range.1 h1,List.mem_range.1 h3,List.mem_range.1 h5,h6.symm⟩
theorem adl (s:Show) (x:aD) (hs:x.dU.cN=s) (hi:∀ j,j < x.t14.n→0≤(x.t14.get j).cU.item∧(x.t14.get j).cU.item < (s.items.n:Int)) (hn:x.t14.n≤98304) (h15:x.t15=(x.t14.n:Int)) (h16:x.t16=0) (h0:(x.oM,x.pJ)=(adk,false)) :
  ∃ e y,goN bJ x = .out e y∧(e = .exit 0∧(y.oM,y.pJ)=DD s (n7 x.x x.y (eh x.t14))):=by
 refine dE (step:=bJ) (fun j y=>y.t14=x.t14∧y.t15=(x.t14.n:Int)∧y.t16=(j:Int)∧y.x=x.x∧y.y=x.y∧j≤x.t14.n∧y.dU=x.dU∧(y.oM,y.pJ)=DD s (n7 x.x x.y ((eh x.t14).take j))) _ x.t14.n (by have:m6=1000000000000:=rfl; omega) (fun j y hj ⟨f1,f2,f3,f4,f5,f6,f7,f8⟩=>?_) ⟨rfl,h15,h16,rfl,rfl,Nat.zero_le _,rfl,h0⟩
 have w1:aj (y.t16+1)=y.t16+1:=a9 (by omega) (by omega)
 unfold bJ
 by_cases h:y.t16 < y.t15
 ·have nW:j < x.t14.n:=by omega
  have hg:y.t14.get (Int.toNat y.t16)=x.t14.get j:=by rw [f1,f3,Int.toNat_natCast]
  obtain ⟨sp,e,hp⟩:=Lw (x.t14.get j).t x.x x.y
  have e0:aP y=some (sp,e):=by
   unfold aP
   rw [hg,f4,f5]
   exact hp
  obtain ⟨i1,i2⟩:=hi j nW
  have tk:=Ux (x:=x.x) (y:=x.y) x.t14 j nW
  have e1:=adj (⟨(aj ((x.t14.get j).cU.d+sp.d)),(x.t14.get j).cU.item,(x.t14.get j).cU.gW,(x.t14.get j).cU.part,sp.u,sp.v⟩:aU) y.oM
  have e2:eQ y=some (decide (DC (⟨(aj ((x.t14.get j).cU.d+sp.d)),(x.t14.get j).cU.item,(x.t14.get j).cU.gW,(x.t14.get j).cU.part,sp.u,sp.v⟩:aU) y.oM)):=by
   unfold eQ
   rw [e0,hg]
   exact e1
  simp only [e0,e2,hg,w1,cond_true,Bool.and_self,Option.isSome_some,Option.getD_some,decide_eq_true h,decide_eq_true (show (0:Int)≤y.t16 by omega),decide_eq_true (show y.t16 < ((y.t14.n:Nat):Int) by rw [f1]; omega),decide_eq_true i1,decide_eq_true (show (x.t14.get j).cU.item < ((y.dU.cN.items.n:Nat):Int) by rw [f7,hs]; exact i2)]
  have II:∀ {z:aU×Bool} {y' : aD},y'.t14=y.t14→y'.t15=y.t15→y'.t16=y.t16+1→y'.x=y.x→y'.y=y.y→y'.dU=y.dU→(y'.oM,y'.pJ)=z→z=DD s (n7 x.x x.y ((eh x.t14).take (j+1)))→
    (∃ x',(aI.next y' : aI aD) = .next x'∧j < x.t14.n∧x'.t14=x.t14∧x'.t15=(x.t14.n:Int)∧x'.t16=((j+1:Nat):Int)∧x'.x=x.x∧x'.y=x.y∧j+1≤x.t14.n∧x'.dU=x.dU∧(x'.oM,x'.pJ)=DD s (n7 x.x x.y ((eh x.t14).take (j+1)))):=fun {z y'} q1 q2 q3 q4 q5 q6 q7 q8=>
   ⟨y',rfl,nW,q1.trans f1,q2.trans f2,by omega,q4.trans f4,q5.trans f5,by omega,q6.trans f7,q7.trans q8⟩
  cases he:(e==(0:Int)) with
  | false=>
   have DK:oz x.x x.y (x.t14.get j)=none:=by
    unfold oz
    rw [hp]
    simp only [he,cond_false]
   rw [cond_false]
   exact .inl (II (z:=(y.oM,y.pJ)) rfl rfl rfl rfl rfl rfl rfl (by rw [tk,DK,f8]; simp))
  | true=>
   have DK:oz x.x x.y (x.t14.get j)=some ⟨aj ((x.t14.get j).cU.d+sp.d),(x.t14.get j).cU.item,(x.t14.get j).cU.gW,(x.t14.get j).cU.part,sp.u,sp.v⟩:=by
    unfold oz
    rw [hp]
    simp only [he,cond_true]
   have m4:DD s (n7 x.x x.y ((eh x.t14).take (j+1)))=afj s (y.oM,y.pJ) ⟨aj ((x.t14.get j).cU.d+sp.d),(x.t14.get j).cU.item,(x.t14.get j).cU.gW,(x.t14.get j).cU.part,sp.u,sp.v⟩:=by
    rw [tk,DK,f8]
    exact ab0 _ _ _
   have N8:(y.dU.cN.items.get (Int.toNat (x.t14.get j).cU.item)).look.Ii=qw s ⟨aj ((x.t14.get j).cU.d+sp.d),(x.t14.get j).cU.item,(x.t14.get j).cU.gW,(x.t14.get j).cU.part,sp.u,sp.v⟩:=by
    rw [f7,hs]
    rfl
   rw [cond_true,N8]
   unfold afj at m4
   cases hb:(!qw s ⟨aj ((x.t14.get j).cU.d+sp.d),(x.t14.get j).cU.item,(x.t14.get j).cU.gW,(x.t14.get j).cU.part,sp.u,sp.v⟩) with
   | false=>
    rw [hb,cond_false] at m4
    rw [cond_false]
    exact .inl (II rfl rfl rfl rfl rfl rfl rfl m4.symm)
   | true=>
    rw [hb,cond_true] at m4
    rw [cond_true]
    cases hc:(!y.pJ) with
    | true=>
     rw [hc,cond_true] at m4
     rw [cond_true]
     exact .inl (II rfl rfl rfl rfl rfl rfl rfl m4.symm)
    | false=>
     rw [hc,cond_false] at m4
     rw [cond_false]
     cases hd:decide (DC (⟨(aj ((x.t14.get j).cU.d+sp.d)),(x.t14.get j).cU.item,(x.t14.get j).cU.gW,(x.t14.get j).cU.part,sp.u,sp.v⟩:aU) y.oM) with
     | true=>
      rw [hd,cond_true] at m4
      rw [cond_true]
      exact .inl (II rfl rfl rfl rfl rfl rfl rfl m4.symm)
     | false=>
      rw [hd,cond_false] at m4
      rw [cond_false]
      exact .inl (II rfl rfl rfl rfl rfl rfl rfl m4.symm)
 ·simp only [cond_false,decide_eq_false h]
  refine .inr ⟨_,_,rfl,rfl,rfl,?_⟩
  rw [f8,show j=x.t14.n by omega,List.take_of_length_le (by rw [lQ]; exact Nat.le_refl _)]
theorem Sb (s:Show) (c:a8) (r:aB) (x y:Int) (h1:r.cN=s) (h2:eh r.parts=lA s c) (h3:r.parts.n≤98304):hU r x y=some (DD s (n7 x y (lA s c))):=by
 obtain ⟨e,z,hz,rfl,h6⟩:∃ e z,lR r x y = .out e z∧(e = .exit 0∧(z.oM,z.pJ)=DD s (n7 x y (eh r.parts))):=by
  unfold lR
  refine adl s _ h1 (fun j hj=>?_) h3 rfl rfl rfl
  have hm:r.parts.get j∈eh r.parts:=Lv hj
  rw [h2] at hm
  obtain ⟨i,k,n,i1,i2,i3,e⟩:=Uy hm
  show 0≤(r.parts.get j).cU.item∧(r.parts.get j).cU.item < (s.items.n:Int)
  rw [e]
  show 0≤(i:Int)∧(i:Int) < (s.items.n:Int)
  omega
 unfold hU
 rw [hz,← h2,← h6]
 rfl
end Go.Proofs.Ytahhdndhkgbcjaa.b
end
section
namespace Go.Proofs.Ytahhdndhkgbcjaa.b
open Go.K
open Go.aE (aq)
theorem aie {α:Type} {Q:List α→Prop} (h0:Q []) (h1:∀ l x,Q l→Q (l++[x])) (l:List α):Q l:=by
 have:∀ (l pre:List α),Q pre→Q (pre++l):=by
  intro l
  induction l with
  | nil=>intro pre hp; rwa [List.append_nil]
  | cons x l ih=>intro pre hp; have:=ih (pre++[x]) (h1 _ _ hp); rwa [List.append_assoc] at this
 exact this l [] h0
def aj7 (s:Show) (l:List aU) (b:aU×Bool):Prop:=(b.2=false∧b.1=adk∧∀ g∈l,qw s g=true)∨(b.2=true∧b.1∈l∧qw s b.1=false∧∀ g∈l,qw s g=false→¬ DC g b.1)
theorem afk {a b c:aU} (h : ¬ DC a b) (h2:DC c b) : ¬ DC a c:=by
 unfold DC at *
 omega
theorem ab1 (a:aU) : ¬ DC a a:=by
 unfold DC
 omega
theorem ab2 (s:Show) (l:List aU):aj7 s l (DD s l):=by
 refine aie (Q:=fun l=>aj7 s l (DD s l)) (.inl ⟨rfl,rfl,fun g hg=>by simp at hg⟩) (fun l f ih=>?_) l
 rw [ab0]
 unfold afj
 cases hb:qw s f with
 | true=>
  simp only [Bool.not_true,cond_false]
  rcases ih with ⟨h1,h2,h3⟩ | ⟨h1,h2,h3,h4⟩
  ·refine .inl ⟨h1,h2,fun g hg=>?_⟩
   rcases List.mem_append.1 hg with hg | hg
   ·exact h3 g hg
   ·rw [List.mem_singleton.1 hg]; exact hb
  ·refine .inr ⟨h1,List.mem_append_left _ h2,h3,fun g hg hgb=>?_⟩
   rcases List.mem_append.1 hg with hg | hg
   ·exact h4 g hg hgb
   ·rw [List.mem_singleton.1 hg,hb] at hgb; simp at hgb
 | false=>
  simp only [Bool.not_false,cond_true]
  rcases ih with ⟨h1,h2,h3⟩ | ⟨h1,h2,h3,h4⟩
  ·rw [h1]
   simp only [Bool.not_false,cond_true]
   refine .inr ⟨rfl,List.mem_append_right _ (List.mem_singleton.2 rfl),hb,fun g hg hgb=>?_⟩
   rcases List.mem_append.1 hg with hg | hg
   ·rw [h3 g hg] at hgb; simp at hgb
   ·rw [List.mem_singleton.1 hg]; exact ab1 f
  ·rw [h1]
   simp only [Bool.not_true,cond_false]
   by_cases hn:DC f (DD s l).1
   ·rw [decide_eq_true hn,cond_true]
    refine .inr ⟨rfl,List.mem_append_right _ (List.mem_singleton.2 rfl),hb,fun g hg hgb=>?_⟩
    rcases List.mem_append.1 hg with hg | hg
    ·exact afk (h4 g hg hgb) hn
    ·rw [List.mem_singleton.1 hg]; exact ab1 f
   ·rw [decide_eq_false hn,cond_false]
    refine .inr ⟨h1,List.mem_append_left _ h2,h3,fun g hg hgb=>?_⟩
    rcases List.mem_append.1 hg with hg | hg
    ·exact h4 g hg hgb
    ·rw [List.mem_singleton.1 hg]; exact hn
theorem Uz {x y:Int} {p:di} {f:aU} (h:oz x y p=some f):f.item=p.cU.item∧f.gW=p.cU.gW∧f.part=p.cU.part:=by
 unfold oz at h
 split at h
 ·rename_i sp e _
  cases he:(e==(0:Int)) with
  | true=>rw [he,cond_true] at h; injection h with h; subst h; exact ⟨rfl,rfl,rfl⟩
  | false=>rw [he,cond_false] at h; simp at h
 ·simp at h
theorem aj8 {s:Show} {c:a8} {x y:Int} {f:aU} (h:f∈n7 x y (lA s c)):∃ i k n,i < s.items.n∧k < (s.items.get i).fQ.n∧n < (prt s c i k).n∧oz x y (partAt s c i k n)=some f:=by
 obtain ⟨p,h1,h2⟩:=List.mem_filterMap.1 h
 obtain ⟨i,k,n,i1,i2,i3,rfl⟩:=Uy h1
 exact ⟨i,k,n,i1,i2,i3,h2⟩
theorem CM {s:Show} {c:a8} {x y:Int} {f:aU} (h:f∈n7 x y (lA s c)):0≤f.item∧f.item < (s.items.n:Int):=by
 obtain ⟨i,k,n,i1,i2,i3,h2⟩:=aj8 h
 obtain ⟨e1,_,_⟩:=Uz h2
 rw [e1]
 show 0≤(i:Int)∧(i:Int) < _
 omega
end Go.Proofs.Ytahhdndhkgbcjaa.b
end
section
namespace Go.Proofs.Ytahhdndhkgbcjaa.b
open Go.K
set_option linter.unusedVariables false
set_option linter.unusedSimpArgs false
noncomputable section
def Lx:List (Nat×(List KV→KR KV)):=[(78,vt)]
def Ly:List Lp:=[]
theorem UA:ao Try.prog Lx:=(ao.cons wi ao.nil)
theorem UB:az Try.prog Ly:=az.nil
def xm (t:eC) (u:Int) (v:Int):(Option Int):=(gb t)
def ti (t:eC) (u:Int) (v:Int):Option (Color×Int):=
 (cond (xm t u v).isSome
 (cond (((xm t u v).getD default) != (0:Int))
 (some ((⟨(0:Int),(0:Int),(0:Int),(0:Int)⟩:Color),((xm t u v).getD default)))
 (cond (decide ((min u v) < (0:Int)))
 (some ((⟨(0:Int),(0:Int),(0:Int),(0:Int)⟩:Color),(2:Int)))
 (cond (decide ((max u v) > (255:Int)))
 (some ((⟨(0:Int),(0:Int),(0:Int),(0:Int)⟩:Color),(2:Int)))
 (cond ((decide ((0:Int)≤(aj ((aj ((Int.fdiv (aj (v * t.h)) (256:Int)) * t.w))+(Int.fdiv (aj (u * t.w)) (256:Int))))))&&(decide ((aj ((aj ((Int.fdiv (aj (v * t.h)) (256:Int)) * t.w))+(Int.fdiv (aj (u * t.w)) (256:Int)))) < ((t.Eu.n:Nat):Int))))
 (some ((t.Eu.get (Int.toNat (aj ((aj ((Int.fdiv (aj (v * t.h)) (256:Int)) * t.w))+(Int.fdiv (aj (u * t.w)) (256:Int)))))),(0:Int)))
 none))))
 none)
theorem WH (t:eC) (u:Int) (v:Int):dp Try.prog (bu Try.prog Lx Ly (fun q=>Nat.beq q 58)) 9 9 47 [nS t,(kI .i64) u,(kI .i64) v] = (ti t u v).map (fun (r:Color×Int)=>KV.jI [ic r.1,(kI .i64) r.2]):=by
 unfold ti
 try simp only [ch]
 kernel_rfl
def NL:List KV→KR KV:=cA Try.prog 47 (cF (fun (r:Color×Int)=>KV.jI [ic r.1,(kI .i64) r.2]) fun vs=>ti (kk (vs.getD 0 .aw)) (intOf (vs.getD 1 .aw)) (intOf (vs.getD 2 .aw)))
theorem UC (w:Nat→KV):cM Try.prog [108,3,3] w 0 = [nS (kk (ay Try.prog (ak Try.prog au) 108 (w 0))),(kI .i64) (intOf (ay Try.prog (ak Try.prog au) 3 (w 1))),(kI .i64) (intOf (ay Try.prog (ak Try.prog au) 3 (w 2)))]:=by kernel_rfl
theorem UD:ca Try.prog 47 NL:=aY funcs mixed UA UB (L:=9) (n:=9) fun w=>by
 have e:aJ Try.prog 47 = [108,3,3]:=by kernel_rfl
 rw [e,UC]
 exact (WH (kk (ay Try.prog (ak Try.prog au) 108 (w 0))) (intOf (ay Try.prog (ak Try.prog au) 3 (w 1))) (intOf (ay Try.prog (ak Try.prog au) 3 (w 2)))).trans (by kernel_rfl)
def NM:List (Nat×(List KV→KR KV)):=[]
def NN:List Lp:=[]
theorem WI:ao Try.prog NM:=ao.nil
theorem WJ:az Try.prog NN:=az.nil
def Iv (a:Color) (b:Color):Option (Color):=
 (some ((⟨(w8 (aj (Int.tdiv (aj ((aj a.e0) * (aj b.e0))) (255:Int)))),(w8 (aj (Int.tdiv (aj ((aj a.e1) * (aj b.e1))) (255:Int)))),(w8 (aj (Int.tdiv (aj ((aj a.e2) * (aj b.e2))) (255:Int)))),(w8 (aj (Int.tdiv (aj ((aj a.e3) * (aj b.e3))) (255:Int))))⟩:Color)))
theorem aag (a:Color) (b:Color):dp Try.prog (bu Try.prog NM NN (fun q=>Nat.beq q 58)) 9 9 48 [ic a,ic b] = (Iv a b).map ic:=by
 unfold Iv
 kernel_rfl
def Sc:List KV→KR KV:=cA Try.prog 48 (cF ic fun vs=>Iv (nR (vs.getD 0 .aw)) (nR (vs.getD 1 .aw)))
theorem WK (w:Nat→KV):cM Try.prog [37,37] w 0 = [ic (nR (ay Try.prog (ak Try.prog au) 37 (w 0))),ic (nR (ay Try.prog (ak Try.prog au) 37 (w 1)))]:=by kernel_rfl
theorem WL:ca Try.prog 48 Sc:=aY funcs mixed WI WJ (L:=9) (n:=9) fun w=>by
 have e:aJ Try.prog 48 = [37,37]:=by kernel_rfl
 rw [e,WK]
 exact (aag (nR (ay Try.prog (ak Try.prog au) 37 (w 0))) (nR (ay Try.prog (ak Try.prog au) 37 (w 1)))).trans (by kernel_rfl)
def Jq:List (Nat×(List KV→KR KV)):=[(48,Sc),(47,NL),(46,pd),(45,tJ)]
def Jr:List Lp:=[]
theorem Sd:ao Try.prog Jq:=(ao.cons WL (ao.cons UD (ao.cons pB (ao.cons uJ ao.nil))))
theorem Se:az Try.prog Jr:=az.nil
def vK (l:uK) (aK:(Sl eC)) (u:Int) (v:Int):(Option Int):=(gh aK)
def vL (l:uK) (aK:(Sl eC)) (u:Int) (v:Int):(Option Int):=(fJ l ((aK.n:Nat):Int))
def nj (l:uK) (aK:(Sl eC)) (u:Int) (v:Int):(Option (Prod Color Int)):=(ti (aK.get (Int.toNat l.oe)) u v)
def jj (l:uK) (aK:(Sl eC)) (u:Int) (v:Int):Option (Color×Int):=
 (cond (vK l aK u v).isSome
 (cond (((vK l aK u v).getD default) != (0:Int))
 (some ((⟨(0:Int),(0:Int),(0:Int),(0:Int)⟩:Color),((vK l aK u v).getD default)))
 (cond (vL l aK u v).isSome
 (cond (((vL l aK u v).getD default) != (0:Int))
 (some ((⟨(0:Int),(0:Int),(0:Int),(0:Int)⟩:Color),((vL l aK u v).getD default)))
 (cond (decide ((min u v) < (0:Int)))
 (some ((⟨(0:Int),(0:Int),(0:Int),(0:Int)⟩:Color),(2:Int)))
 (cond (decide ((max u v) > (255:Int)))
 (some ((⟨(0:Int),(0:Int),(0:Int),(0:Int)⟩:Color),(2:Int)))
 (cond (decide (l.oe < (0:Int)))
 (some (l.color,(0:Int)))
 (cond ((decide ((0:Int)≤l.oe))&&(decide (l.oe < ((aK.n:Nat):Int))))
 (cond (nj l aK u v).isSome
 (some ((⟨(w8 (aj (Int.tdiv (aj ((aj l.color.e0) * (aj ((nj l aK u v).getD default).fst.e0))) (255:Int)))),(w8 (aj (Int.tdiv (aj ((aj l.color.e1) * (aj ((nj l aK u v).getD default).fst.e1))) (255:Int)))),(w8 (aj (Int.tdiv (aj ((aj l.color.e2) * (aj ((nj l aK u v).getD default).fst.e2))) (255:Int)))),(w8 (aj (Int.tdiv (aj ((aj l.color.e3) * (aj ((nj l aK u v).getD default).fst.e3))) (255:Int))))⟩:Color),((nj l aK u v).getD default).snd))
 none)
 none)))))
 none))
 none)
theorem UE (l:uK) (aK:(Sl eC)) (u:Int) (v:Int):dp Try.prog (bu Try.prog Jq Jr (fun q=>Nat.beq q 58)) 9 9 18 [ada l,(jf 108 nS) aK,(kI .i64) u,(kI .i64) v] = (jj l aK u v).map (fun (r:Color×Int)=>KV.jI [ic r.1,(kI .i64) r.2]):=by
 unfold jj
 try simp only [ch]
 kernel_rfl
def uQ:List KV→KR KV:=cA Try.prog 18 (cF (fun (r:Color×Int)=>KV.jI [ic r.1,(kI .i64) r.2]) fun vs=>jj (TY (vs.getD 0 .aw)) ((iQ kk) (vs.getD 1 .aw)) (intOf (vs.getD 2 .aw)) (intOf (vs.getD 3 .aw)))
theorem Sf (w:Nat→KV):cM Try.prog [39,23,3,3] w 0 = [ada (TY (ay Try.prog (ak Try.prog au) 39 (w 0))),(jf 108 nS) ((iQ kk) (ay Try.prog (ak Try.prog au) 23 (w 1))),(kI .i64) (intOf (ay Try.prog (ak Try.prog au) 3 (w 2))),(kI .i64) (intOf (ay Try.prog (ak Try.prog au) 3 (w 3)))]:=by kernel_rfl
theorem tV:ca Try.prog 18 uQ:=aY funcs mixed Sd Se (L:=9) (n:=9) fun w=>by
 have e:aJ Try.prog 18 = [39,23,3,3]:=by kernel_rfl
 rw [e,Sf]
 exact (UE (TY (ay Try.prog (ak Try.prog au) 39 (w 0))) ((iQ kk) (ay Try.prog (ak Try.prog au) 23 (w 1))) (intOf (ay Try.prog (ak Try.prog au) 3 (w 2))) (intOf (ay Try.prog (ak Try.prog au) 3 (w 3)))).trans (by kernel_rfl)
def zI:List (Nat×(List KV→KR KV)):=[(18,uQ)]
def zJ:List Lp:=[]
theorem GK:ao Try.prog zI:=(ao.cons tV ao.nil)
theorem GL:az Try.prog zJ:=az.nil
def sJ (s:aB) (f:aU):(Option (Prod Color Int)):=(jj (s.cN.items.get (Int.toNat f.item)).look s.cN.aK f.u f.v)
def jZ (s:aB) (f:aU):Option (Color):=
 (cond ((decide ((0:Int)≤f.item))&&(decide (f.item < ((s.cN.items.n:Nat):Int))))
 (cond (sJ s f).isSome
 (some (((sJ s f).getD default).fst))
 none)
 none)
theorem Iw (s:aB) (f:aU):dp Try.prog (bu Try.prog zI zJ (fun q=>Nat.beq q 58)) 9 9 74 [l9 s,iJ f] = (jZ s f).map ic:=by
 unfold jZ
 try simp only [ch]
 kernel_rfl
def qx:List KV→KR KV:=cA Try.prog 74 (cF ic fun vs=>jZ (nw (vs.getD 0 .aw)) (jh (vs.getD 1 .aw)))
theorem GM (w:Nat→KV):cM Try.prog [96,58] w 0 = [l9 (nw (ay Try.prog (ak Try.prog au) 96 (w 0))),iJ (jh (ay Try.prog (ak Try.prog au) 58 (w 1)))]:=by kernel_rfl
theorem rO:ca Try.prog 74 qx:=aY funcs mixed GK GL (L:=9) (n:=9) fun w=>by
 have e:aJ Try.prog 74 = [96,58]:=by kernel_rfl
 rw [e,GM]
 exact (Iw (nw (ay Try.prog (ak Try.prog au) 96 (w 0))) (jh (ay Try.prog (ak Try.prog au) 58 (w 1)))).trans (by kernel_rfl)
def Lz:List (Nat×(List KV→KR KV)):=[]
def LA:List Lp:=[]
theorem UF:ao Try.prog Lz:=ao.nil
theorem UG:az Try.prog LA:=az.nil
def AY (top:Color) (under:Color):Option (Color):=
 (some ((⟨(w8 (aj (Int.tdiv (aj ((aj ((aj top.e0) * (aj top.e3)))+(aj ((aj under.e0) * (aj ((255:Int) - (aj top.e3))))))) (255:Int)))),(w8 (aj (Int.tdiv (aj ((aj ((aj top.e1) * (aj top.e3)))+(aj ((aj under.e1) * (aj ((255:Int) - (aj top.e3))))))) (255:Int)))),(w8 (aj (Int.tdiv (aj ((aj ((aj top.e2) * (aj top.e3)))+(aj ((aj under.e2) * (aj ((255:Int) - (aj top.e3))))))) (255:Int)))),(w8 (aj (Int.tdiv (aj ((aj ((255:Int) * (aj top.e3)))+(aj ((aj under.e3) * (aj ((255:Int) - (aj top.e3))))))) (255:Int))))⟩:Color)))
theorem WM (top:Color) (under:Color):dp Try.prog (bu Try.prog Lz LA (fun q=>Nat.beq q 58)) 9 9 19 [ic top,ic under] = (AY top under).map ic:=by
 unfold AY
 kernel_rfl
def qI:List KV→KR KV:=cA Try.prog 19 (cF ic fun vs=>AY (nR (vs.getD 0 .aw)) (nR (vs.getD 1 .aw)))
theorem UH (w:Nat→KV):cM Try.prog [37,37] w 0 = [ic (nR (ay Try.prog (ak Try.prog au) 37 (w 0))),ic (nR (ay Try.prog (ak Try.prog au) 37 (w 1)))]:=by kernel_rfl
theorem oV:ca Try.prog 19 qI:=aY funcs mixed UF UG (L:=9) (n:=9) fun w=>by
 have e:aJ Try.prog 19 = [37,37]:=by kernel_rfl
 rw [e,UH]
 exact (WM (nR (ay Try.prog (ak Try.prog au) 37 (w 0))) (nR (ay Try.prog (ak Try.prog au) 37 (w 1)))).trans (by kernel_rfl)
structure aC where
 x:Int
 y:Int
 t14:(Sl di)
 t15:Int
 t16:Int
 dU:aB
 pJ:Bool
 oM:aU
 fV:(Sl aU)
instance:Inhabited aC:=⟨⟨default,default,default,default,default,default,default,default,default⟩⟩
def fo (x:aC):List KV:=[.int .i64 x.x,.int .i64 x.y,.fn (.func 75) [] [.ptr 0 0,.ptr 1 0,.ptr 2 0,.ptr 3 0],jf 139 sE x.t14,.int .i64 x.t15,.int .i64 x.t16]
def fp (x:aC):List (List KV):=[cX x.dU,[.bool x.pJ],ZX x.oM,[jf 58 iJ x.fV]]
def lC (vs:List KV) (rs:List (List KV)):aC:=⟨intOf (vs.getD 0 .aw),intOf (vs.getD 1 .aw),iQ sF (vs.getD 3 .aw),intOf (vs.getD 4 .aw),intOf (vs.getD 5 .aw),cY (fun k=>(rs.getD 0 []).getD k .aw),nP ((rs.getD 1 []).getD 0 .aw),ZY (fun k=>(rs.getD 2 []).getD k .aw),iQ jh ((rs.getD 3 []).getD 0 .aw)⟩
def lT:aQ:=⟨[(1,⟨false,[.k (.int .i64)]⟩),(2,⟨false,[.k (.int .i64)]⟩),(3,⟨false,[.ref (.fn (.func 75) [] [.ptr 0 0,.ptr 1 0,.ptr 2 0,.ptr 3 0])]⟩),(14,⟨false,[.k (.slice 139)]⟩),(15,⟨false,[.k (.int .i64)]⟩),(16,⟨false,[.k (.int .i64)]⟩)],[(100003,[.k (.slice 45),.k (.slice 108),.k (.slice 139)],1),(200003,[.k .bool],1),(300003,[.k (.int .i64),.k (.int .i64),.k (.int .i64),.k (.int .i64),.k (.int .i64),.k (.int .i64)],1),(400003,[.arr 58],1)],[]⟩
def qR:=jk Try.prog (bu Try.prog [(19,qI),(35,cc),(66,rW),(74,qx),(43,m7)] [] (fun q=>Nat.beq q 58) false false [lW]) 9 9 41 14 (fh Try.prog 41 14) lT
def bb (x:aC):(Option (Prod fU Int)):=(mM (x.t14.get (Int.toNat x.t16)).t x.x x.y)
def bM (x:aC):aI aC:=
 (cond (decide (x.t16 < x.t15))
 (cond ((decide ((0:Int)≤x.t16))&&(decide (x.t16 < ((x.t14.n:Nat):Int))))
 (cond (bb x).isSome
 (cond (((bb x).getD default).snd==(0:Int))
 (cond ((decide ((0:Int)≤(x.t14.get (Int.toNat x.t16)).cU.item))&&(decide ((x.t14.get (Int.toNat x.t16)).cU.item < ((x.dU.cN.items.n:Nat):Int))))
 (cond (x.dU.cN.items.get (Int.toNat (x.t14.get (Int.toNat x.t16)).cU.item)).look.Ii
 (cond (!x.pJ)
 (cond ((Nat.ble (((x.fV.n+1)+512) * 48) 17592186044416)&&(Nat.ble (x.fV.n+1) 17592186044416))
 (cond (av x.fV.n x.fV.n)
 (.next (⟨x.x,x.y,x.t14,x.t15,(aj (x.t16+(1:Int))),x.dU,x.pJ,x.oM,(x.fV.push (⟨(aj ((x.t14.get (Int.toNat x.t16)).cU.d+((bb x).getD default).fst.d)),(x.t14.get (Int.toNat x.t16)).cU.item,(x.t14.get (Int.toNat x.t16)).cU.gW,(x.t14.get (Int.toNat x.t16)).cU.part,((bb x).getD default).fst.u,((bb x).getD default).fst.v⟩:aU))⟩:aC))
 .fail)
 .fail)
 (cond (decide ((aj ((x.t14.get (Int.toNat x.t16)).cU.d+((bb x).getD default).fst.d)) > x.oM.d))
 (cond ((Nat.ble (((x.fV.n+1)+512) * 48) 17592186044416)&&(Nat.ble (x.fV.n+1) 17592186044416))
 (cond (av x.fV.n x.fV.n)
 (.next (⟨x.x,x.y,x.t14,x.t15,(aj (x.t16+(1:Int))),x.dU,x.pJ,x.oM,(x.fV.push (⟨(aj ((x.t14.get (Int.toNat x.t16)).cU.d+((bb x).getD default).fst.d)),(x.t14.get (Int.toNat x.t16)).cU.item,(x.t14.get (Int.toNat x.t16)).cU.gW,(x.t14.get (Int.toNat x.t16)).cU.part,((bb x).getD default).fst.u,((bb x).getD default).fst.v⟩:aU))⟩:aC))
 .fail)
 .fail)
 (cond (av x.fV.n x.fV.n)
 (.next (⟨x.x,x.y,x.t14,x.t15,(aj (x.t16+(1:Int))),x.dU,x.pJ,x.oM,x.fV⟩:aC))
 .fail)))
 (cond (av x.fV.n x.fV.n)
 (.next (⟨x.x,x.y,x.t14,x.t15,(aj (x.t16+(1:Int))),x.dU,x.pJ,x.oM,x.fV⟩:aC))
 .fail))
 .fail)
 (cond (av x.fV.n x.fV.n)
 (.next (⟨x.x,x.y,x.t14,x.t15,(aj (x.t16+(1:Int))),x.dU,x.pJ,x.oM,x.fV⟩:aC))
 .fail))
 .fail)
 .fail)
 (cond (av x.fV.n x.fV.n)
 (.out (aE.aq.exit 0) x)
 .fail))
theorem qy (x:aC):qR (fo x) (fp x)=aI.enc fo fp (bM x):=by
 unfold bM
 try simp only [aI.dn,Z0]
 kernel_rfl
def dY:Lp:=⟨41,14,lT,fun vs rs=>dL fo fp (goN bM (lC vs rs)) [aE.aq.exit 0],false⟩
theorem lD:dY.Ok Try.prog:=eM funcs mixed (ao.cons oV (ao.cons bI (ao.cons o9 (ao.cons rO (ao.cons ny ao.nil))))) az.nil (L:=9) (n:=9) (step:=bM) (ev:=fo) (er:=fp) (pa:=lC) rfl (fun wv wr=>⟨by kernel_rfl,by kernel_rfl⟩) qy (BJ:=(fP.cons nK fP.nil))
theorem kC:cC Try.prog dY.f dY.p=true:=by kernel_rfl
structure cv where
 t33:(Sl aU)
 t34:Int
 t35:Int
 s:aB
 ground:Color
 t8:Color
instance:Inhabited cv:=⟨⟨default,default,default,default,default,default⟩⟩
def mB (x:cv):List KV:=[jf 58 iJ x.t33,.int .i64 x.t34,.int .i64 x.t35]
def mC (x:cv):List (List KV):=[cX x.s,Ig x.ground,Ig x.t8]
def uR (vs:List KV) (rs:List (List KV)):cv:=⟨iQ jh (vs.getD 0 .aw),intOf (vs.getD 1 .aw),intOf (vs.getD 2 .aw),cY (fun k=>(rs.getD 0 []).getD k .aw),Ih (fun k=>(rs.getD 1 []).getD k .aw),Ih (fun k=>(rs.getD 2 []).getD k .aw)⟩
def vR:aQ:=⟨[(33,⟨false,[.arr 58]⟩),(34,⟨false,[.k (.int .i64)]⟩),(35,⟨false,[.k (.int .i64)]⟩)],[(4,[.k (.slice 45),.k (.slice 108),.k (.slice 139)],1),(5,[.k (.int .u8),.k (.int .u8),.k (.int .u8),.k (.int .u8)],1),(8,[.k (.int .u8),.k (.int .u8),.k (.int .u8),.k (.int .u8)],1)],[(4,0,0),(5,1,0),(8,2,0)]⟩
def DE:=jk Try.prog (bu Try.prog [(19,qI),(35,cc),(66,rW),(74,qx),(43,m7)] [dY] (fun q=>Nat.beq q 58) false false [lW]) 9 9 44 1018 (fh Try.prog 44 1018) vR
def b7 (x:cv):(Option Color):=(jZ x.s (x.t33.get (0+(Int.toNat x.t35))))
def dS (x:cv):aI cv:=
 (cond (decide (x.t35 < x.t34))
 (cond ((decide ((0:Int)≤x.t35))&&(decide (x.t35 < ((x.t33.n:Nat):Int))))
 (cond (b7 x).isSome
 (cond (av x.t33.n x.t33.n)
 (.next (⟨x.t33,x.t34,(aj (x.t35+(1:Int))),x.s,(⟨(w8 (aj (Int.tdiv (aj ((aj ((aj ((b7 x).getD default).e0) * (aj ((b7 x).getD default).e3)))+(aj ((aj x.ground.e0) * (aj ((255:Int) - (aj ((b7 x).getD default).e3))))))) (255:Int)))),(w8 (aj (Int.tdiv (aj ((aj ((aj ((b7 x).getD default).e1) * (aj ((b7 x).getD default).e3)))+(aj ((aj x.ground.e1) * (aj ((255:Int) - (aj ((b7 x).getD default).e3))))))) (255:Int)))),(w8 (aj (Int.tdiv (aj ((aj ((aj ((b7 x).getD default).e2) * (aj ((b7 x).getD default).e3)))+(aj ((aj x.ground.e2) * (aj ((255:Int) - (aj ((b7 x).getD default).e3))))))) (255:Int)))),(w8 (aj (Int.tdiv (aj ((aj ((255:Int) * (aj ((b7 x).getD default).e3)))+(aj ((aj x.ground.e3) * (aj ((255:Int) - (aj ((b7 x).getD default).e3))))))) (255:Int))))⟩:Color),x.t8⟩:cv))
 .fail)
 .fail)
 .fail)
 (cond (av x.t33.n x.t33.n)
 (.out (aE.aq.exit 0) x)
 .fail))
theorem BT (x:cv):DE (mB x) (mC x)=aI.enc mB mC (dS x):=by
 unfold dS
 try simp only [aI.dn]
 kernel_rfl
def mV:Lp:=⟨44,1018,vR,fun vs rs=>dL mB mC (goN dS (uR vs rs)) [aE.aq.exit 0],false⟩
theorem DF:mV.Ok Try.prog:=eM funcs mixed (ao.cons oV (ao.cons bI (ao.cons o9 (ao.cons rO (ao.cons ny ao.nil))))) (az.cons lD kC az.nil) (L:=9) (n:=9) (step:=dS) (ev:=mB) (er:=mC) (pa:=uR) rfl (fun wv wr=>⟨by kernel_rfl,by kernel_rfl⟩) BT (BJ:=(fP.cons nK fP.nil))
theorem Bo:cC Try.prog mV.f mV.p=true:=by kernel_rfl
def zL:List (Nat×(List KV→KR KV)):=[(19,qI),(35,cc),(66,rW),(74,qx),(43,m7)]
def zM:List Lp:=[mV,dY]
theorem GN:ao Try.prog zL:=(ao.cons oV (ao.cons bI (ao.cons o9 (ao.cons rO (ao.cons ny ao.nil)))))
theorem GP:az Try.prog zM:=(az.cons DF Bo (az.cons lD kC az.nil))
def kx (s:aB) (ground:Color) (x:Int) (y:Int):(Option (Prod aU Bool)):=(hU s x y)
def oA (s:aB) (ground:Color) (x:Int) (y:Int):(Option Color):=(jZ s ((kx s ground x y).getD default).fst)
def cf (s:aB) (ground:Color) (x:Int) (y:Int):(aI aC):=(goN bM (⟨x,y,s.parts,((s.parts.n:Nat):Int),(0:Int),s,((kx s ground x y).getD default).snd,((kx s ground x y).getD default).fst,(⟨0,(fun i=>(⟨(0:Int),(0:Int),(0:Int),(0:Int),(0:Int),(0:Int)⟩:aU))⟩:Sl _)⟩:aC))
def dT (s:aB) (ground:Color) (x:Int) (y:Int):(aI bP):=(jF (⟨(cf s ground x y).st.fV,(((cf s ground x y).st.fV.n:Nat):Int),(cf s ground x y).st.dU⟩:bP))
def ky (s:aB) (ground:Color) (x:Int) (y:Int):(aI cv):=(goN dS (⟨(dT s ground x y).st.data,(((cf s ground x y).st.fV.n:Nat):Int),(0:Int),(dT s ground x y).st.held,((oA s ground x y).getD default),(⟨(0:Int),(0:Int),(0:Int),(0:Int)⟩:Color)⟩:cv))
def kz (s:aB) (ground:Color) (x:Int) (y:Int):(aI cv):=(goN dS (⟨(dT s ground x y).st.data,(((cf s ground x y).st.fV.n:Nat):Int),(0:Int),(dT s ground x y).st.held,ground,(⟨(0:Int),(0:Int),(0:Int),(0:Int)⟩:Color)⟩:cv))
def fY (s:aB) (ground:Color) (x:Int) (y:Int):Option (Color):=
 (cond (kx s ground x y).isSome
 (cond ((kx s ground x y).getD default).snd
 (cond (oA s ground x y).isSome
 (cond ((cf s ground x y).by (aE.aq.exit 0))
 (cond (av (cf s ground x y).st.fV.n (cf s ground x y).st.fV.n)
 (cond ((dT s ground x y).by aE.aq.ret)
 (cond (av (dT s ground x y).st.data.n (cf s ground x y).st.fV.n)
 (cond ((ky s ground x y).by (aE.aq.exit 0))
 (some ((ky s ground x y).st.ground))
 none)
 none)
 none)
 none)
 none)
 none)
 (cond ((cf s ground x y).by (aE.aq.exit 0))
 (cond (av (cf s ground x y).st.fV.n (cf s ground x y).st.fV.n)
 (cond ((dT s ground x y).by aE.aq.ret)
 (cond (av (dT s ground x y).st.data.n (cf s ground x y).st.fV.n)
 (cond ((kz s ground x y).by (aE.aq.exit 0))
 (some ((kz s ground x y).st.ground))
 none)
 none)
 none)
 none)
 none))
 none)
theorem Ix (s:aB) (ground:Color) (x:Int) (y:Int):dp Try.prog (bu Try.prog zL zM (fun q=>Nat.beq q 58) false false [lW]) 9 9 44 [l9 s,ic ground,(kI .i64) x,(kI .i64) y] = (fY s ground x y).map ic:=by
 unfold fY
 try simp only [ch]
 kernel_rfl
def Bp:List KV→KR KV:=cA Try.prog 44 (cF ic fun vs=>fY (nw (vs.getD 0 .aw)) (nR (vs.getD 1 .aw)) (intOf (vs.getD 2 .aw)) (intOf (vs.getD 3 .aw)))
theorem GQ (w:Nat→KV):cM Try.prog [96,37,3,3] w 0 = [l9 (nw (ay Try.prog (ak Try.prog au) 96 (w 0))),ic (nR (ay Try.prog (ak Try.prog au) 37 (w 1))),(kI .i64) (intOf (ay Try.prog (ak Try.prog au) 3 (w 2))),(kI .i64) (intOf (ay Try.prog (ak Try.prog au) 3 (w 3)))]:=by kernel_rfl
theorem GS:ca Try.prog 44 Bp:=aY funcs mixed GN GP (L:=9) (n:=9) (BJ:=(fP.cons nK fP.nil)) fun w=>by
 have e:aJ Try.prog 44 = [96,37,3,3]:=by kernel_rfl
 rw [e,GQ]
 exact (Ix (nw (ay Try.prog (ak Try.prog au) 96 (w 0))) (nR (ay Try.prog (ak Try.prog au) 37 (w 1))) (intOf (ay Try.prog (ak Try.prog au) 3 (w 2))) (intOf (ay Try.prog (ak Try.prog au) 3 (w 3)))).trans (by kernel_rfl)
end
end Go.Proofs.Ytahhdndhkgbcjaa.b
end
section
namespace Go.Proofs.Ytahhdndhkgbcjaa.b
open Go.K
set_option linter.unusedVariables false
set_option linter.unusedSimpArgs false
noncomputable section
def GU:List (Nat×(List KV→KR KV)):=[(43,m7),(40,Bm)]
def GV:List Lp:=[]
theorem Pk:ao Try.prog GU:=(ao.cons ny (ao.cons zj ao.nil))
theorem Pl:az Try.prog GV:=az.nil
def nU (s:Show) (c:a8) (x:Int) (y:Int):(Option (Prod aB Int)):=(oH s c x y)
def qz (s:Show) (c:a8) (x:Int) (y:Int):(Option (Prod aU Bool)):=(hU ((nU s c x y).getD default).fst x y)
def mO (s:Show) (c:a8) (x:Int) (y:Int):Option (aU×Bool×Int):=
 (cond (nU s c x y).isSome
 (cond (((nU s c x y).getD default).snd != (0:Int))
 (some ((⟨(0:Int),(0:Int),(0:Int),(0:Int),(0:Int),(0:Int)⟩:aU),false,((nU s c x y).getD default).snd))
 (cond (qz s c x y).isSome
 (cond (!((qz s c x y).getD default).snd)
 (some ((⟨(0:Int),(0:Int),(0:Int),(0:Int),(0:Int),(0:Int)⟩:aU),false,(0:Int)))
 (some (((qz s c x y).getD default).fst,true,(0:Int))))
 none))
 none)
theorem Sg (s:Show) (c:a8) (x:Int) (y:Int):dp Try.prog (bu Try.prog GU GV (fun _=>false)) 9 9 16 [pP s,jB c,(kI .i64) x,(kI .i64) y] = (mO s c x y).map (fun (r:aU×Bool×Int)=>KV.jI [iJ r.1,kB r.2.1,(kI .i64) r.2.2]):=by
 unfold mO
 try simp only [ch]
 kernel_rfl
def s5:List KV→KR KV:=cA Try.prog 16 (cF (fun (r:aU×Bool×Int)=>KV.jI [iJ r.1,kB r.2.1,(kI .i64) r.2.2]) fun vs=>mO (mv (vs.getD 0 .aw)) (gn (vs.getD 1 .aw)) (intOf (vs.getD 2 .aw)) (intOf (vs.getD 3 .aw)))
theorem Pm (w:Nat→KV):cM Try.prog [25,53,3,3] w 0 = [pP (mv (ay Try.prog (ak Try.prog au) 25 (w 0))),jB (gn (ay Try.prog (ak Try.prog au) 53 (w 1))),(kI .i64) (intOf (ay Try.prog (ak Try.prog au) 3 (w 2))),(kI .i64) (intOf (ay Try.prog (ak Try.prog au) 3 (w 3)))]:=by kernel_rfl
theorem sK:ca Try.prog 16 s5:=aY funcs mixed Pk Pl (L:=9) (n:=9) fun w=>by
 have e:aJ Try.prog 16 = [25,53,3,3]:=by kernel_rfl
 rw [e,Pm]
 exact (Sg (mv (ay Try.prog (ak Try.prog au) 25 (w 0))) (gn (ay Try.prog (ak Try.prog au) 53 (w 1))) (intOf (ay Try.prog (ak Try.prog au) 3 (w 2))) (intOf (ay Try.prog (ak Try.prog au) 3 (w 3)))).trans (by kernel_rfl)
def Js:List (Nat×(List KV→KR KV)):=[(44,Bp),(40,Bm)]
def Jt:List Lp:=[]
theorem Sh:ao Try.prog Js:=(ao.cons GS (ao.cons zj ao.nil))
theorem Si:az Try.prog Jt:=az.nil
def oW (s:Show) (c:a8) (ground:Color) (x:Int) (y:Int):(Option (Prod aB Int)):=(oH s c x y)
def vM (s:Show) (c:a8) (ground:Color) (x:Int) (y:Int):(Option Color):=(fY ((oW s c ground x y).getD default).fst ground x y)
def nL (s:Show) (c:a8) (ground:Color) (x:Int) (y:Int):Option (Color×Int):=
 (cond (oW s c ground x y).isSome
 (cond (((oW s c ground x y).getD default).snd != (0:Int))
 (some ((⟨(0:Int),(0:Int),(0:Int),(0:Int)⟩:Color),((oW s c ground x y).getD default).snd))
 (cond (vM s c ground x y).isSome
 (some (((vM s c ground x y).getD default),(0:Int)))
 none))
 none)
theorem UI (s:Show) (c:a8) (ground:Color) (x:Int) (y:Int):dp Try.prog (bu Try.prog Js Jt (fun _=>false)) 9 9 17 [pP s,jB c,ic ground,(kI .i64) x,(kI .i64) y] = (nL s c ground x y).map (fun (r:Color×Int)=>KV.jI [ic r.1,(kI .i64) r.2]):=by
 unfold nL
 try simp only [ch]
 kernel_rfl
def uT:List KV→KR KV:=cA Try.prog 17 (cF (fun (r:Color×Int)=>KV.jI [ic r.1,(kI .i64) r.2]) fun vs=>nL (mv (vs.getD 0 .aw)) (gn (vs.getD 1 .aw)) (nR (vs.getD 2 .aw)) (intOf (vs.getD 3 .aw)) (intOf (vs.getD 4 .aw)))
theorem Sj (w:Nat→KV):cM Try.prog [25,53,37,3,3] w 0 = [pP (mv (ay Try.prog (ak Try.prog au) 25 (w 0))),jB (gn (ay Try.prog (ak Try.prog au) 53 (w 1))),ic (nR (ay Try.prog (ak Try.prog au) 37 (w 2))),(kI .i64) (intOf (ay Try.prog (ak Try.prog au) 3 (w 3))),(kI .i64) (intOf (ay Try.prog (ak Try.prog au) 3 (w 4)))]:=by kernel_rfl
theorem tW:ca Try.prog 17 uT:=aY funcs mixed Sh Si (L:=9) (n:=9) fun w=>by
 have e:aJ Try.prog 17 = [25,53,37,3,3]:=by kernel_rfl
 rw [e,Sj]
 exact (UI (mv (ay Try.prog (ak Try.prog au) 25 (w 0))) (gn (ay Try.prog (ak Try.prog au) 53 (w 1))) (nR (ay Try.prog (ak Try.prog au) 37 (w 2))) (intOf (ay Try.prog (ak Try.prog au) 3 (w 3))) (intOf (ay Try.prog (ak Try.prog au) 3 (w 4)))).trans (by kernel_rfl)
structure Frame where
 w:Int
 h:Int
 color:(Sl Color)
 depth:(Sl Int)
 item:(Sl Int)
 gW:(Sl Int)
instance:Inhabited Frame:=⟨⟨default,default,default,default,default,default⟩⟩
end
end Go.Proofs.Ytahhdndhkgbcjaa.b
end
section
namespace Go.Proofs.Ytahhdndhkgbcjaa.b
open Go.K
open Go.aE (aq)
def adm (s:Show):Prop:=∀ i,i < s.items.n→nv (s.items.get i) (s.aK.n:Int)=some true
theorem afl (s:Show) (hn:s.items.n≤256):∃ e x',eR s = .out e x'∧(e = .ret∧x'.t4 ≥ 0∧¬ adm s∨e = .exit 0∧adm s):=by
 unfold eR
 refine dE (step:=bG) (fun j y=>y.s=s.items∧y.t7=(s.items.n:Int)∧y.t8=(j:Int)∧j≤s.items.n∧y.ZV=s∧∀ i,i < j→nv (s.items.get i) (s.aK.n:Int)=some true) _ s.items.n (by have:m6=1000000000000:=rfl; omega) (fun j y hj ⟨h1,h2,h3,h4,h5,h6⟩=>?_) ⟨rfl,rfl,rfl,Nat.zero_le _,rfl,fun i hi=>absurd hi (Nat.not_lt_zero _)⟩
 obtain ⟨b,hb,_⟩:=abZ (y.s.get (Int.toNat y.t8)) ((y.ZV.aK.n:Nat):Int)
 have e0:fM y=some b:=hb
 have w1:aj (y.t8+1)=y.t8+1:=a9 (by omega) (by omega)
 rw [h1,h3,h5,Int.toNat_natCast] at hb
 unfold bG
 by_cases h:y.t8 < y.t7
 ·have nW:j < s.items.n:=by omega
  simp only [e0,w1,cond_true,Bool.and_self,Option.isSome_some,Option.getD_some,decide_eq_true h,decide_eq_true (show (0:Int)≤y.t8 by omega),decide_eq_true (show y.t8 < ((y.s.n:Nat):Int) by rw [h1]; omega)]
  cases b with
  | false=>exact .inr ⟨_,_,rfl,rfl,.inl ⟨rfl,by show y.t8 ≥ 0; omega,fun o3=>by have:=o3 j nW; rw [hb] at this; simp at this⟩⟩
  | true=>
   refine .inl ⟨_,rfl,nW,h1,h2,by show y.t8+1=_; omega,by omega,h5,fun i hi=>?_⟩
   by_cases Ct:i < j
   ·exact h6 i Ct
   ·have:i=j:=by omega
    subst this; exact hb
 ·simp only [cond_false,decide_eq_false h]
  exact .inr ⟨_,_,rfl,rfl,.inr ⟨rfl,fun i hi=>h6 i (by omega)⟩⟩
theorem agr (s:Show):kX s=some 0↔s.items.n≤256∧s.aK.n≤16∧gh s.aK=some 0∧adm s:=by
 unfold kX
 by_cases g1:((s.items.n:Nat):Int) > 256
 ·rw [decide_eq_true g1,cond_true]
  exact ⟨fun h=>by simp at h,fun h=>by omega⟩
 by_cases g2:((s.aK.n:Nat):Int) > 16
 ·rw [decide_eq_false g1,decide_eq_true g2,cond_false,cond_true]
  exact ⟨fun h=>by simp at h,fun h=>by omega⟩
 obtain ⟨v,hv⟩:=Pb (NJ s.aK)
 have e0:rG s=some v:=hv
 rw [decide_eq_false g1,decide_eq_false g2,hv]
 simp only [e0,cond_true,cond_false,Option.isSome_some,Option.getD_some]
 cases hz:(v != (0:Int)) with
 | true=>
  rw [cond_true]
  exact ⟨fun h=>by simp at h,fun h=>by have:=Option.some.inj h.2.2.1; simp [this] at hz⟩
 | false=>
  have hz:v=0:=by simpa using hz
  rw [cond_false,hz]
  obtain ⟨e,x',hx,h⟩:=afl s (by omega)
  rcases h with ⟨rfl,h1,h2⟩ | ⟨rfl,h1⟩
  ·have b1:(eR s).by (.exit 0)=false:=by rw [hx]; rfl
   have b2:(eR s).by .ret=true:=by rw [hx]; rfl
   have b3:(eR s).st=x':=by rw [hx]; rfl
   rw [b1,b2,b3,decide_eq_true h1,cond_false,cond_true,cond_true]
   exact ⟨fun h=>by simp at h,fun h=>absurd h.2.2.2 h2⟩
  ·have b1:(eR s).by (.exit 0)=true:=by rw [hx]; rfl
   rw [b1,cond_true]
   exact ⟨fun _=>⟨by omega,by omega,rfl,h1⟩,fun _=>rfl⟩
theorem aif {x:Item} {t:Int} (h:nv x t=some true):fJ x.look t=some 0:=by
 unfold nv at h
 obtain ⟨v,hv⟩:=Pb (afh x.look t)
 have e0:uL x t=some v:=hv
 simp only [e0,Option.isSome_some,Option.getD_some,cond_true] at h
 cases g1:decide (((x.gF.n:Nat):Int) > (64:Int)) with
 | true=>rw [g1] at h; simp at h
 | false=>
 cases g2:(((x.uV.n:Nat):Int) != ((x.gF.n:Nat):Int)) with
 | true=>rw [g1,g2] at h; simp at h
 | false=>
 cases g3:decide (((x.fQ.n:Nat):Int) > (64:Int)) with
 | true=>rw [g1,g2,g3] at h; simp at h
 | false=>
 cases g4:(v != (0:Int)) with
 | true=>rw [g1,g2,g3,g4] at h; simp at h
 | false=>
  have:v=0:=by simpa using g4
  rw [hv,this]
structure akQ (l:uK) (t:Int):Prop where
 t0:0≤t
 t16:t≤16
 lo : -1≤l.oe
 hi:l.oe < t
 b0 : -1024≤l.K3
 b1:l.K3≤1024
 n0:0≤l.bin
 n1:l.bin≤15
theorem afm {l:uK} {t:Int} (h:fJ l t=some 0):akQ l t:=by
 unfold fJ at h
 by_cases c1:t < 0
 ·rw [decide_eq_true c1] at h; simp at h
 by_cases c2:t > 16
 ·rw [decide_eq_false c1,decide_eq_true c2] at h; simp at h
 by_cases c3:l.oe < (-(1:Int))
 ·rw [decide_eq_false c1,decide_eq_false c2,decide_eq_true c3] at h; simp at h
 by_cases c4:l.oe ≥ t
 ·rw [decide_eq_false c1,decide_eq_false c2,decide_eq_false c3,decide_eq_true c4] at h; simp at h
 by_cases c5:l.yS > 2
 ·rw [decide_eq_false c1,decide_eq_false c2,decide_eq_false c3,decide_eq_false c4,decide_eq_true c5] at h; simp at h
 by_cases c6:l.K3 < (-(1024:Int))
 ·rw [decide_eq_false c1,decide_eq_false c2,decide_eq_false c3,decide_eq_false c4,decide_eq_false c5,decide_eq_true c6] at h; simp at h
 by_cases c7:l.K3 > 1024
 ·rw [decide_eq_false c1,decide_eq_false c2,decide_eq_false c3,decide_eq_false c4,decide_eq_false c5,decide_eq_false c6,decide_eq_true c7] at h; simp at h
 by_cases c8:l.bin < 0
 ·rw [decide_eq_false c1,decide_eq_false c2,decide_eq_false c3,decide_eq_false c4,decide_eq_false c5,decide_eq_false c6,decide_eq_false c7,decide_eq_true c8] at h; simp at h
 by_cases c9:l.bin > 15
 ·rw [decide_eq_false c1,decide_eq_false c2,decide_eq_false c3,decide_eq_false c4,decide_eq_false c5,decide_eq_false c6,decide_eq_false c7,decide_eq_false c8,decide_eq_true c9] at h; simp at h
 exact ⟨by omega,by omega,by omega,by omega,by omega,by omega,by omega,by omega⟩
theorem aah {l:Sl eC} (h:gh l=some 0):∀ i,i < l.n→gb (l.get i)=some 0:=by
 unfold gh at h
 by_cases c1:((l.n:Nat):Int) > 16
 ·rw [decide_eq_true c1] at h; simp at h
 obtain ⟨e,x',h1,h2⟩:∃ e x',eF l = .out e x'∧(e = .ret∧x'.t2≠0∨e = .exit 0∧∀ i,i < l.n→gb (l.get i)=some 0):=by
  unfold eF
  refine dE (step:=fB) (fun j x=>x.t9=l∧x.t10=(l.n:Int)∧x.t11=(j:Int)∧j≤l.n∧∀ i,i < j→gb (l.get i)=some 0) _ l.n (by have:m6=1000000000000:=rfl; omega) (fun j x hj ⟨h2,h3,h4,h5,h6⟩=>?_) ⟨rfl,rfl,rfl,Nat.zero_le _,fun i hi=>absurd hi (Nat.not_lt_zero _)⟩
  obtain ⟨v,hv⟩:=Pb (R4 (x.t9.get (Int.toNat x.t11)))
  have e0:kl x=some v:=hv
  have w1:aj (x.t11+1)=x.t11+1:=a9 (by omega) (by omega)
  rw [h2,h4,Int.toNat_natCast] at hv
  unfold fB
  by_cases h:x.t11 < x.t10
  ·simp only [e0,w1,cond_true,Bool.and_self,Option.isSome_some,Option.getD_some,decide_eq_true h,decide_eq_true (show (0:Int)≤x.t11 by omega),decide_eq_true (show x.t11 < ((x.t9.n:Nat):Int) by rw [h2]; omega)]
   cases hz:(v != (0:Int)) with
   | true=>exact .inr ⟨_,_,rfl,rfl,.inl ⟨rfl,by show v≠0; simpa using hz⟩⟩
   | false=>
    refine .inl ⟨_,rfl,by omega,h2,h3,by show x.t11+1=_; omega,by omega,fun i hi=>?_⟩
    by_cases Ct:i < j
    ·exact h6 i Ct
    ·have:i=j:=by omega
     subst this
     rw [hv,show v=0 by simpa using hz]
  ·simp only [cond_false,decide_eq_false h]
   exact .inr ⟨_,_,rfl,rfl,.inr ⟨rfl,fun i hi=>h6 i (by omega)⟩⟩
 rw [decide_eq_false c1,cond_false] at h
 rcases h2 with ⟨rfl,h2⟩ | ⟨rfl,h2⟩
 ·have b1:(eF l).by (.exit 0)=false:=by rw [h1]; rfl
  have b2:(eF l).by .ret=true:=by rw [h1]; rfl
  have b3:(eF l).st=x':=by rw [h1]; rfl
  rw [b1,b2,b3,cond_false,cond_true] at h
  exact absurd (Option.some.inj h) h2
 ·exact h2
theorem afn {n:Int} (h:lq n=some true):1≤n∧n≤16:=by
 unfold lq at h
 by_cases c1:n > 0
 ·rw [decide_eq_true c1,cond_true] at h
  have:=of_decide_eq_true (Option.some.inj h)
  omega
 ·rw [decide_eq_false c1] at h; simp at h
theorem akR {t:eC} (h:gb t=some 0):(1≤t.w∧t.w≤16)∧(1≤t.h∧t.h≤16)∧(t.Eu.n:Int)=t.w * t.h:=by
 unfold gb at h
 obtain ⟨a,ha⟩:=Pb (R3 t.w)
 obtain ⟨b,hb⟩:=Pb (R3 t.h)
 have e0:su t=some a:=ha
 have e1:sv t=some b:=hb
 simp only [e0,e1,Option.isSome_some,Option.getD_some,cond_true] at h
 cases a with
 | false=>simp at h
 | true=>
 cases b with
 | false=>simp at h
 | true=>
  have h1:=afn ha
  have h2:=afn hb
  have h3:0≤t.w * t.h∧t.w * t.h≤16 * 16:=⟨Int.mul_nonneg (by omega) (by omega),Int.mul_le_mul h1.2 h2.2 (by omega) (by omega)⟩
  rw [a9 (by omega) (by omega)] at h
  simp only [Bool.not_true,cond_false] at h
  cases hz:(((t.Eu.n:Nat):Int) != t.w * t.h) with
  | true=>rw [hz] at h; simp at h
  | false=>exact ⟨h1,h2,by simpa using hz⟩
theorem aj9 {t:eC} {u v:Int} (h:gb t=some 0) (hu:0≤u∧u≤255) (hv:0≤v∧v≤255):∃ c,ti t u v=some (c,0):=by
 obtain ⟨⟨w0,w1⟩,⟨h0,h1⟩,hn⟩:=akR h
 have e0:xm t u v=some 0:=h
 have p1:0≤v * t.h∧v * t.h≤255 * 16:=⟨Int.mul_nonneg (by omega) (by omega),Int.mul_le_mul hv.2 h1 (by omega) (by omega)⟩
 have p2:0≤u * t.w∧u * t.w≤255 * 16:=⟨Int.mul_nonneg (by omega) (by omega),Int.mul_le_mul hu.2 w1 (by omega) (by omega)⟩
 have p3:v * t.h≤255 * t.h:=Int.mul_le_mul_of_nonneg_right hv.2 (by omega)
 have p4:u * t.w≤255 * t.w:=Int.mul_le_mul_of_nonneg_right hu.2 (by omega)
 have q1:0≤Int.fdiv (v * t.h) 256∧Int.fdiv (v * t.h) 256≤t.h - 1:=by
  rw [Int.fdiv_eq_ediv_of_nonneg _ (by decide)]
  omega
 have q2:0≤Int.fdiv (u * t.w) 256∧Int.fdiv (u * t.w) 256≤t.w - 1:=by
  rw [Int.fdiv_eq_ediv_of_nonneg _ (by decide)]
  omega
 have q3:0≤Int.fdiv (v * t.h) 256 * t.w∧Int.fdiv (v * t.h) 256 * t.w≤(t.h - 1) * t.w:=⟨Int.mul_nonneg q1.1 (by omega),Int.mul_le_mul_of_nonneg_right q1.2 (by omega)⟩
 have q4:(t.h - 1) * t.w=t.w * t.h - t.w:=by rw [Int.sub_mul,Int.one_mul,Int.mul_comm]
 have q5:t.w * t.h≤16 * 16:=Int.mul_le_mul w1 h1 (by omega) (by omega)
 unfold ti
 rw [a9 (n:=v * t.h) (by omega) (by omega),a9 (n:=u * t.w) (by omega) (by omega),a9 (n:=Int.fdiv (v * t.h) 256 * t.w) (by omega) (by omega),a9 (n:=Int.fdiv (v * t.h) 256 * t.w+Int.fdiv (u * t.w) 256) (by omega) (by omega)]
 simp only [e0,Option.isSome_some,Option.getD_some,cond_true,bne_self_eq_false,cond_false,decide_eq_false (show ¬ min u v < 0 by omega),decide_eq_false (show ¬ max u v > 255 by omega),decide_eq_true (show 0≤Int.fdiv (v * t.h) 256 * t.w+Int.fdiv (u * t.w) 256 by omega),decide_eq_true (show Int.fdiv (v * t.h) 256 * t.w+Int.fdiv (u * t.w) 256 < ((t.Eu.n:Nat):Int) by omega),Bool.and_self]
 exact ⟨_,rfl⟩
theorem VG {l:uK} {ts:Sl eC} {u v:Int} (h1:gh ts=some 0) (h2:fJ l (ts.n:Int)=some 0):∃ c e,jj l ts u v=some (c,e)∧((0≤u∧u≤255)∧(0≤v∧v≤255)→e=0):=by
 have e0:vK l ts u v=some 0:=h1
 have e1:vL l ts u v=some 0:=h2
 have hl:=afm h2
 unfold jj
 simp only [e0,e1,Option.isSome_some,Option.getD_some,cond_true,bne_self_eq_false,cond_false]
 by_cases c1:min u v < 0
 ·rw [decide_eq_true c1]; exact ⟨_,_,rfl,fun h=>by omega⟩
 by_cases c2:max u v > 255
 ·rw [decide_eq_false c1,decide_eq_true c2]; exact ⟨_,_,rfl,fun h=>by omega⟩
 rw [decide_eq_false c1,decide_eq_false c2]
 by_cases c3:l.oe < 0
 ·rw [decide_eq_true c3]; exact ⟨_,_,rfl,fun _=>rfl⟩
 ·have:=hl.hi
  obtain ⟨c,hc⟩:=aj9 (u:=u) (v:=v) (aah h1 (Int.toNat l.oe) (by omega)) (by omega) (by omega)
  have e2:nj l ts u v=some (c,0):=hc
  simp only [e2,Option.isSome_some,Option.getD_some,cond_true,cond_false,decide_eq_false c3,decide_eq_true (show 0≤l.oe by omega),decide_eq_true (show l.oe < ((ts.n:Nat):Int) by omega),Bool.and_self]
  exact ⟨_,_,rfl,fun _=>rfl⟩
end Go.Proofs.Ytahhdndhkgbcjaa.b
end
section
namespace Go.K.tr
variable {α:Type}
def b2 (b:Bool):Nat:=cond b 1 0
def si (p:α→Bool) (d:Nat→α) (a:Nat):Nat→Nat
 | 0=>0
 | k+1=>si p d a k+b2 (p (d (a+k)))
theorem pr {p:α→Bool} {d d' : Nat→α} {a b:Nat} : ∀ {k:Nat},(∀ i,i < k→d (a+i)=d' (b+i))→si p d a k=si p d' b k
 | 0,_=>rfl
 | k+1,h=>by
  rw [si,si,pr (k:=k) fun i hi=>h i (by omega),h k (by omega)]
theorem pt {p:α→Bool} {d:Nat→α} {a k:Nat} : ∀ (l:Nat),si p d a (k+l)=si p d a k+si p d (a+k) l
 | 0=>by simp [si]
 | l+1=>by
  show si p d a (k+l)+b2 (p (d (a+(k+l))))=si p d a k+(si p d (a+k) l+b2 (p (d (a+k+l))))
  rw [pt l,Nat.add_assoc a k l]
  omega
theorem Sk {p:α→Bool} {d:Nat→α} {a:Nat} : si p d a 1=b2 (p (d a)):=by simp [si]
theorem aai {p:α→Bool} {d:Nat→α} {a:Nat} : ∀ {k:Nat},0 < si p d a k→∃ i,i < k∧p (d (a+i))=true
 | 0,h=>by simp [si] at h
 | k+1,h=>by
  rw [si] at h
  cases hp:p (d (a+k)) with
  | true=>exact ⟨k,by omega,hp⟩
  | false=>
   rw [hp] at h
   obtain ⟨i,h1,h2⟩:=aai (k:=k) (by simpa [b2] using h)
   exact ⟨i,by omega,h2⟩
theorem aaj {p:α→Bool} {d:Nat→α} {a i:Nat} : ∀ {k:Nat},i < k→p (d (a+i))=true→0 < si p d a k
 | 0,h,_=>by omega
 | k+1,h,hp=>by
  rw [si]
  by_cases e:i=k
  ·subst e; rw [hp]; simp [b2]
  ·have:=aaj (k:=k) (by omega) hp
   omega
def Perm (d d' : Nat→α) (a b:Nat):Prop:=(∀ p:α→Bool,si p d' a (b - a)=si p d a (b - a))∧∀ i,i < a∨b≤i→d' i=d i
theorem Perm.refl (d:Nat→α) (a b:Nat):Perm d d a b:=⟨fun _=>rfl,fun _ _=>rfl⟩
theorem Perm.trans {d d' d'' : Nat→α} {a b:Nat} (h:Perm d d' a b) (k:Perm d' d'' a b):Perm d d'' a b:=⟨fun p=>(k.1 p).trans (h.1 p),fun i hi=>(k.2 i hi).trans (h.2 i hi)⟩
theorem Perm.wide {d d' : Nat→α} {a b a' b' : Nat} (h:Perm d d' a b) (h1:a'≤a) (h2:a≤b) (h3:b≤b'):Perm d d' a' b':=by
 refine ⟨fun p=>?_,fun i hi=>h.2 i (by omega)⟩
 have e:b' - a' = (a - a')+((b - a)+(b' - b)):=by omega
 rw [e,pt,pt,pt (d:=d),pt (d:=d)]
 rw [show a' + (a - a')=a by omega,h.1 p,show a+(b - a)=b by omega]
 rw [pr (d:=d') (d':=d) (a:=a') (b:=a') fun i hi=>h.2 _ (by omega),pr (d:=d') (d':=d) (a:=b) (b:=b) fun i hi=>h.2 _ (by omega)]
theorem Perm.mem {d d' : Nat→α} {a b:Nat} (h:Perm d d' a b) {i:Nat} (h1:a≤i) (h2:i < b):∃ j,a≤j∧j < b∧d' i=d j:=by
 classical
 have:=aaj (p:=fun x=>decide (x=d' i)) (d:=d') (a:=a) (i:=i - a) (k:=b - a) (by omega) (by simp [show a+(i - a)=i by omega])
 rw [h.1] at this
 obtain ⟨j,h3,h4⟩:=aai this
 exact ⟨a+j,by omega,by omega,(of_decide_eq_true h4).symm⟩
def ins (d:Nat→α) (j i:Nat):Nat→α:=fun t=>if t < j then d t else if t=j then d i else if t≤i then d (t - 1) else d t
theorem xn {d:Nat→α} {j i t:Nat} (h:t < j):ins d j i t=d t:=by simp [ins,h]
theorem EG {d:Nat→α} {j i:Nat} : ins d j i j=d i:=by simp [ins]
theorem GW {d:Nat→α} {j i t:Nat} (h:j < t) (h2:t≤i):ins d j i t=d (t - 1):=by
 rw [ins,if_neg (by omega),if_neg (by omega),if_pos h2]
theorem Xj {d:Nat→α} {j i t:Nat} (h:j≤i) (h2:i < t):ins d j i t=d t:=by
 rw [ins,if_neg (by omega),if_neg (by omega),if_neg (by omega)]
theorem ab3 {d:Nat→α} {i:Nat} : ins d i i=d:=by
 funext t
 by_cases h:t < i
 ·exact xn h
 ·by_cases e:t=i
  ·subst e; exact EG
  ·exact Xj (Nat.le_refl _) (by omega)
theorem ab4 {d:Nat→α} {a j i:Nat} (h1:a≤j) (h2:j≤i):Perm d (ins d j i) a (i+1):=by
 refine ⟨fun p=>?_,fun t ht=>?_⟩
 ·have e:i+1 - a=(j - a)+(1+(i - j)):=by omega
  have e2:i+1 - a=(j - a)+((i - j)+1):=by omega
  rw [e,pt,pt,Sk,show a+(j - a)=j by omega,EG]
  rw [← e,e2,pt,pt (k:=i - j),Sk,show a+(j - a)=j by omega,show j+(i - j)=i by omega]
  rw [pr (d:=ins d j i) (d':=d) (a:=a) (b:=a) fun t ht=>xn (by omega),pr (d:=ins d j i) (d':=d) (a:=j+1) (b:=j) fun t ht=>by rw [GW (by omega) (by omega)]; congr 1; omega]
  omega
 ·rcases ht with ht | ht
  ·exact xn (by omega)
  ·exact Xj h2 (by omega)
theorem ab5 {d:Nat→α} {j i t:Nat} (h:j≤i) (h1:1≤j):ins d (j - 1) i t=if t=j - 1 then ins d j i j else if t=j then ins d j i (j - 1) else ins d j i t:=by
 by_cases e:t=j - 1
 ·subst e; rw [if_pos rfl,EG,EG]
 ·rw [if_neg e]
  by_cases e2:t=j
  ·subst e2; rw [if_pos rfl,GW (by omega) h,xn (by omega)]
  ·rw [if_neg e2]
   by_cases e3:t < j
   ·rw [xn (by omega),xn e3]
   ·by_cases e4:t≤i
    ·rw [GW (by omega) e4,GW (by omega) e4]
    ·rw [Xj (by omega) (by omega),Xj h (by omega)]
def GX (d:Nat→α) (a k:Nat):Nat→α:=fun t=>if t < a then d t else if t < k then d (t+1) else if t=k then d a else d t
theorem Xk {d:Nat→α} {a k t:Nat} (h:t < a):GX d a k t=d t:=by simp [GX,h]
theorem Bq {d:Nat→α} {a k t:Nat} (h:a≤t) (h2:t < k):GX d a k t=d (t+1):=by
 rw [GX,if_neg (by omega),if_pos h2]
theorem Mh {d:Nat→α} {a k:Nat} (h:a≤k):GX d a k k=d a:=by
 rw [GX,if_neg (by omega),if_neg (by omega),if_pos rfl]
theorem Iy {d:Nat→α} {a k t:Nat} (h:a≤k) (h2:k < t):GX d a k t=d t:=by
 rw [GX,if_neg (by omega),if_neg (by omega),if_neg (by omega)]
theorem aih {d:Nat→α} {a:Nat} : GX d a a=d:=by
 funext t
 by_cases h:t < a
 ·exact Xk h
 ·by_cases e:t=a
  ·subst e; exact Mh (Nat.le_refl _)
  ·exact Iy (Nat.le_refl _) (by omega)
theorem aii {d:Nat→α} {a k:Nat} (h:a≤k):Perm d (GX d a k) a (k+1):=by
 refine ⟨fun p=>?_,fun t ht=>?_⟩
 ·have e:k+1 - a=(k - a)+1:=by omega
  have e2:k+1 - a=1+(k - a):=by omega
  rw [e,pt,Sk,show a+(k - a)=k by omega,Mh h,← e,e2,pt,Sk]
  rw [pr (d:=GX d a k) (d':=d) (a:=a) (b:=a+1) fun t ht=>by rw [Bq (by omega) (by omega)]; congr 1; omega]
  omega
 ·rcases ht with ht | ht
  ·exact Xk ht
  ·exact Iy h (by omega)
theorem aij {d:Nat→α} {a k t:Nat} (h:a≤k):GX d a (k+1) t=if t=k then GX d a k (k+1) else if t=k+1 then GX d a k k else GX d a k t:=by
 by_cases e:t=k
 ·subst e; rw [if_pos rfl,Bq h (by omega),Iy h (by omega)]
 ·rw [if_neg e]
  by_cases e2:t=k+1
  ·subst e2; rw [if_pos rfl,Mh (by omega),Mh h]
  ·rw [if_neg e2]
   by_cases e3:t < a
   ·rw [Xk e3,Xk e3]
   ·by_cases e4:t < k
    ·rw [Bq (by omega) (by omega),Bq (by omega) e4]
    ·rw [Iy (by omega) (by omega),Iy h (by omega)]
def Cx (d:Nat→α) (a m b:Nat):Nat→α:=fun t=>if t < a then d t else if t < a+(b - m) then d (t+(m - a)) else if t < b then d (t - (b - m)) else d t
theorem GY {d:Nat→α} {a m b t:Nat} (h1:a≤m) (h2:m≤b) (h:t < a∨b≤t):Cx d a m b t=d t:=by
 rcases h with h | h
 ·simp [Cx,h]
 ·rw [Cx,if_neg (by omega),if_neg (by omega),if_neg (by omega)]
theorem Mi {d:Nat→α} {a m b t:Nat} (h1:a≤t) (h2:t < a+(b - m)):Cx d a m b t=d (t+(m - a)):=by
 rw [Cx,if_neg (by omega),if_pos h2]
theorem Iz {d:Nat→α} {a m b t:Nat} (h1:a+(b - m)≤t) (h2:t < b):Cx d a m b t=d (t - (b - m)):=by
 rw [Cx,if_neg (by omega),if_neg (by omega),if_pos h2]
theorem aik {d:Nat→α} {a m b:Nat} (h1:a≤m) (h2:m≤b):Perm d (Cx d a m b) a b:=by
 refine ⟨fun p=>?_,fun t ht=>GY h1 h2 ht⟩
 have e:b - a=(b - m)+(m - a):=by omega
 have e2:b - a=(m - a)+(b - m):=by omega
 rw [e,pt,← e,e2,pt,show a+(m - a)=m by omega]
 rw [pr (d:=Cx d a m b) (d':=d) (a:=a) (b:=m) fun t ht=>by rw [Mi (by omega) (by omega)]; congr 1; omega,pr (d:=Cx d a m b) (d':=d) (a:=a+(b - m)) (b:=a) fun t ht=>by rw [Iz (by omega) (by omega)]; congr 1; omega]
 omega
structure Ord (α:Type) where
 key:α→Int
 fZ:α→α→Prop
def Ord.lt (o:Ord α) (x y:α):Prop:=o.key x < o.key y∨(o.key x=o.key y∧o.fZ x y)
theorem Ord.akS {o:Ord α} {x y:α} (h:o.lt x y):o.key x≤o.key y:=by rcases h with h | h <;> omega
theorem Ord.ags {o:Ord α} {x y:α} (h:o.key x≤o.key y) (h0:o.fZ x y):o.lt x y:=by
 by_cases e:o.key x=o.key y
 ·exact .inr ⟨e,h0⟩
 ·exact .inl (by omega)
def gj (o:Ord α) (d:Nat→α) (a b:Nat):Prop:=∀ i j,a≤i→i < j→j < b→o.lt (d i) (d j)
def DG (o:Ord α) (d:Nat→α) (a m b:Nat):Prop:=∀ i j,a≤i→i < m→m≤j→j < b→o.fZ (d i) (d j)
variable {o:Ord α}
theorem gj.key {d:Nat→α} {a b:Nat} (h:gj o d a b) {i j:Nat} (h1:a≤i) (h2:i≤j) (h3:j < b):o.key (d i)≤o.key (d j):=by
 by_cases e:i=j
 ·subst e; exact Int.le_refl _
 ·exact Ord.akS (h i j h1 (by omega) h3)
theorem gj.congr {d d' : Nat→α} {a b:Nat} (h:gj o d a b) (e:∀ i,a≤i→i < b→d' i=d i):gj o d' a b:=fun i j h1 h2 h3=>by
 rw [e i h1 (by omega),e j (by omega) h3]; exact h i j h1 h2 h3
theorem gj.one {d:Nat→α} {a b:Nat} (h:b≤a+1):gj o d a b:=fun i j h1 h2 h3=>by omega
theorem VH {d:Nat→α} {a j i:Nat} (hs:gj o d a i) (hc:DG o d a i (i+1)) (h1:a≤j) (h2:j≤i) (hl:∀ s,a≤s→s < j→o.key (d s)≤o.key (d i)) (hr:∀ t,j≤t→t < i→o.key (d i) < o.key (d t)):gj o (ins d j i) a (i+1):=by
 intro s t q1 q2 q3
 by_cases ht:t < j
 ·rw [xn ht,xn (by omega)]
  exact hs s t q1 q2 (by omega)
 ·by_cases F4:t=j
  ·subst F4
   rw [EG,xn q2]
   exact Ord.ags (hl s q1 q2) (hc s i q1 (by omega) (Nat.le_refl _) (by omega))
  ·rw [GW (t:=t) (by omega) (by omega)]
   by_cases h3:s < j
   ·rw [xn h3]; exact hs s (t - 1) q1 (by omega) (by omega)
   ·by_cases h4:s=j
    ·subst h4; rw [EG]; exact .inl (hr (t - 1) (by omega) (by omega))
    ·rw [GW (t:=s) (by omega) (by omega)]; exact hs (s - 1) (t - 1) (by omega) (by omega) (by omega)
theorem afo {d:Nat→α} {a i b:Nat} (hs:gj o d (a+1) b) (hc:DG o d a (a+1) b) (h1:a+1≤i) (h2:i≤b) (hl:∀ t,a+1≤t→t < i→o.key (d t) < o.key (d a)) (hr:∀ t,i≤t→t < b→o.key (d a)≤o.key (d t)):gj o (GX d a (i - 1)) a b:=by
 intro s t q1 q2 q3
 by_cases ht:t < i - 1
 ·rw [Bq (by omega) ht,Bq q1 (by omega)]
  exact hs _ _ (by omega) (by omega) (by omega)
 ·by_cases F4:t=i - 1
  ·subst F4
   rw [Mh (by omega),Bq q1 q2]
   exact .inl (hl _ (by omega) (by omega))
  ·rw [Iy (t:=t) (by omega) (by omega)]
   by_cases h3:s < i - 1
   ·rw [Bq q1 h3]; exact hs _ _ (by omega) (by omega) q3
   ·by_cases h4:s=i - 1
    ·subst h4; rw [Mh (by omega)]; exact Ord.ags (hr t (by omega) q3) (hc a t (Nat.le_refl _) (by omega) (by omega) q3)
    ·rw [Iy (t:=s) (by omega) (by omega)]; exact hs _ _ (by omega) q2 q3
structure Split (o:Ord α) (D:Nat→α) (a s cl e b:Nat):Prop where
 l1:gj o D a s
 l2:gj o D s cl
 l0:DG o D a s cl
 r1:gj o D cl e
 r2:gj o D e b
 r0:DG o D cl e b
 lr:∀ i j,a≤i→i < cl→cl≤j→j < b→o.lt (D i) (D j)
theorem agt {d:Nat→α} {a s cl m e b:Nat} (h1:gj o d a m) (h2:gj o d m b) (hc:DG o d a m b) (q1:a≤s) (q2:s≤m) (q3:m≤e) (q4:e≤b) (q5:e+s=cl+m) (hL:∀ i j,a≤i→i < s→e≤j→j < b→o.key (d i)≤o.key (d j)) (hR:∀ i j,s≤i→i < m→m≤j→j < e→o.key (d j) < o.key (d i)) :
  Split o (Cx d s m e) a s cl e b:=by
 have v1:∀ t,t < s→Cx d s m e t=d t:=fun t h=>GY q2 q3 (.inl h)
 have v2:∀ t,s≤t→t < cl→Cx d s m e t=d (t+(m - s)):=fun t h h'=>Mi h (by omega)
 have v3:∀ t,cl≤t→t < e→Cx d s m e t=d (t - (e - m)):=fun t h h'=>Iz (by omega) h'
 have v4:∀ t,e≤t→Cx d s m e t=d t:=fun t h=>GY q2 q3 (.inr h)
 refine ⟨fun i j p1 p2 p3=>?_,fun i j p1 p2 p3=>?_,fun i j p1 p2 p3 p4=>?_,fun i j p1 p2 p3=>?_,fun i j p1 p2 p3=>?_,fun i j p1 p2 p3 p4=>?_,fun i j p1 p2 p3 p4=>?_⟩
 ·rw [v1 i (by omega),v1 j p3]; exact h1 i j p1 p2 (by omega)
 ·rw [v2 i p1 (by omega),v2 j (by omega) p3]; exact h2 _ _ (by omega) (by omega) (by omega)
 ·rw [v1 i p2,v2 j p3 p4]; exact hc _ _ p1 (by omega) (by omega) (by omega)
 ·rw [v3 i p1 (by omega),v3 j (by omega) p3]; exact h1 _ _ (by omega) (by omega) (by omega)
 ·rw [v4 i p1,v4 j (by omega)]; exact h2 _ _ (by omega) p2 p3
 ·rw [v3 i p1 p2,v4 j p3]; exact hc _ _ (by omega) (by omega) (by omega) p4
 ·by_cases hi:i < s
  ·rw [v1 i hi]
   by_cases hj:j < e
   ·rw [v3 j p3 hj]; exact h1 _ _ p1 (by omega) (by omega)
   ·rw [v4 j (by omega)]; exact Ord.ags (hL i j p1 hi (by omega) p4) (hc i j p1 (by omega) (by omega) p4)
  ·rw [v2 i (by omega) p2]
   by_cases hj:j < e
   ·rw [v3 j p3 hj]; exact .inl (hR _ _ (by omega) (by omega) (by omega) (by omega))
   ·rw [v4 j (by omega)]; exact h2 _ _ (by omega) (by omega) p4
theorem adn {D D2 D3:Nat→α} {a cl b:Nat} (h:∀ i j,a≤i→i < cl→cl≤j→j < b→o.lt (D i) (D j)) (p1:Perm D D2 a cl) (s1:gj o D2 a cl) (p2:Perm D2 D3 cl b) (s2:gj o D3 cl b):gj o D3 a b:=by
 intro i j q1 q2 q3
 by_cases hj:j < cl
 ·rw [p2.2 i (.inl (by omega)),p2.2 j (.inl hj)]; exact s1 i j q1 q2 hj
 ·by_cases hi:i < cl
  ·rw [p2.2 i (.inl hi)]
   obtain ⟨i',r1,r2,e1⟩:=p1.mem q1 hi
   obtain ⟨j',r3,r4,e2⟩:=p2.mem (i:=j) (by omega) q3
   rw [e1,e2,p1.2 j' (.inr r3)]
   exact h i' j' r1 r2 r3 r4
  ·exact s2 i j (by omega) q2 q3
theorem NP {d:Nat→α} {a s s0 r0 cl m b:Nat} (h1:gj o d a m) (h2:gj o d m b) (q1:a≤s) (q2:s≤m) (q3:m+s≤cl+m) (q4:cl+m≤b+s) (hs:(s=s0∧(s0=a∨cl+m=b+s0))∨(a < s∧cl+m < b+s∧o.key (d (s - 1))≤o.key (d (cl+m - s)))) (hr:(s=r0∧(r0=m∨r0=cl))∨(s < m∧s < cl∧o.key (d (cl+m - 1 - s)) < o.key (d s))) :
  (∀ i j,a≤i→i < s→cl+m - s≤j→j < b→o.key (d i)≤o.key (d j))∧∀ i j,s≤i→i < m→m≤j→j < cl+m - s→o.key (d j) < o.key (d i):=by
 constructor
 ·intro i j p1 p2 p3 p4
  rcases hs with ⟨e,h | h⟩ | ⟨e1,e2,e3⟩
  ·omega
  ·omega
  ·have k1:=h1.key (i:=i) (j:=s - 1) p1 (by omega) (by omega)
   have k2:=h2.key (i:=cl+m - s) (j:=j) (by omega) p3 p4
   omega
 ·intro i j p1 p2 p3 p4
  rcases hr with ⟨e,h | h⟩ | ⟨e1,e2,e3⟩
  ·omega
  ·omega
  ·have k1:=h1.key (i:=s) (j:=i) q1 p1 p2
   have k2:=h2.key (i:=j) (j:=cl+m - 1 - s) p3 (by omega) (by omega)
   omega
def ab6 (o:Ord α) (g:Nat→α) (n:Nat):Prop:=∀ i j,i < j→j < n→o.fZ (g i) (g j)
theorem VI {d g:Nat→α} {a k:Nat} (h:∀ p:α→Bool,si p d a k=si p g a k) {i:Nat} (h1:a≤i) (h2:i < a+k):∃ j,a≤j∧j < a+k∧d i=g j:=by
 classical
 have:=aaj (p:=fun x=>decide (x=d i)) (d:=d) (a:=a) (i:=i - a) (k:=k) (by omega) (by simp [show a+(i - a)=i by omega])
 rw [h] at this
 obtain ⟨j,h3,h4⟩:=aai this
 exact ⟨a+j,by omega,by omega,(of_decide_eq_true h4).symm⟩
theorem ab7 {d g:Nat→α} {a m b n:Nat} (hg:ab6 o g n) (hb:b≤n) (h1:a≤m) (h2:m≤b) (c1:∀ p:α→Bool,si p d a (m - a)=si p g a (m - a)) (c2:∀ p:α→Bool,si p d m (b - m)=si p g m (b - m)):DG o d a m b:=by
 intro i j q1 q2 q3 q4
 obtain ⟨i',r1,r2,e1⟩:=VI c1 q1 (by omega)
 obtain ⟨j',r3,r4,e2⟩:=VI c2 q3 (by omega)
 rw [e1,e2]
 exact hg i' j' (by omega) (by omega)
end Go.K.tr
end
section
namespace Go.Proofs.Ytahhdndhkgbcjaa.b
open Go.K Go.K.tr
open Go.aE (aq)
theorem bc (n:Nat):av n n=true:=Nat.beq_refl n
theorem Sm {i n:Nat} (h:i < n):(decide ((0:Int)≤(i:Int))&&decide ((i:Int) < ((n:Nat):Int)))=true:=by
 rw [Bool.and_eq_true]
 exact ⟨decide_eq_true (by omega),decide_eq_true (by omega)⟩
theorem aak {i j:Nat} (h:i+j≤100000000000):aj ((i:Int)+(j:Int))=((i+j:Nat):Int):=by
 rw [xl (by omega) (by omega)]; omega
theorem Pn {i:Nat} (h:i≤100000000000):aj ((i:Int)+(1:Int))=((i+1:Nat):Int):=by
 rw [xl (by omega) (by omega)]; omega
theorem Br {i j:Nat} (h:i≤100000000000) (hj:j≤i):aj ((i:Int) - (j:Int))=((i - j:Nat):Int):=by
 rw [xl (by omega) (by omega)]; omega
theorem aal {i:Nat} (h:i≤100000000000) (hj:1≤i):aj ((i:Int) - (1:Int))=((i - 1:Nat):Int):=by
 rw [xl (by omega) (by omega)]; omega
theorem Mj {α:Type} (D:Sl α) (i j t:Nat) (u v:α):((D.set (0+i) u).set (0+j) v).get t=if t=j then v else if t=i then u else D.get t:=by
 simp only [Sl.set,Nat.zero_add]
 by_cases h:t=j
 ·subst h; simp
 ·rw [if_neg h]
  have e:Nat.beq t j=false:=by
   cases hb:Nat.beq t j with
   | false=>rfl
   | true=>exact absurd (Nat.eq_of_beq_eq_true hb) h
  rw [e,cond_false]
  by_cases h2:t=i
  ·subst h2; simp
  ·rw [if_neg h2]
   have e:Nat.beq t i=false:=by
    cases hb:Nat.beq t i with
    | false=>rfl
    | true=>exact absurd (Nat.eq_of_beq_eq_true hb) h2
   rw [e,cond_false]
theorem ahm {α:Type} (D:Sl α) (i j:Nat) (u v:α):((D.set i u).set j v).n=D.n:=rfl
def Ap {α:Type} (d:Nat→α) (a b n:Nat):Nat→α:=fun t=>if a≤t∧t < a+n then d (t+(b - a)) else if b≤t∧t < b+n then d (t - (b - a)) else d t
theorem ail {α:Type} (d:Nat→α) {a b j:Nat} (h:a+j < b) (t:Nat):Ap d a b (j+1) t=if t=b+j then Ap d a b j (a+j) else if t=a+j then Ap d a b j (b+j) else Ap d a b j t:=by
 have e1:Ap d a b j (a+j)=d (a+j):=by rw [Ap,if_neg (by omega),if_neg (by omega)]
 have e2:Ap d a b j (b+j)=d (b+j):=by rw [Ap,if_neg (by omega),if_neg (by omega)]
 rw [e1,e2]
 by_cases h1:t=b+j
 ·subst h1; rw [if_pos rfl,Ap,if_neg (by omega),if_pos (by omega)]; congr 1; omega
 ·rw [if_neg h1]
  by_cases h2:t=a+j
  ·subst h2; rw [if_pos rfl,Ap,if_pos (by omega)]; congr 1; omega
  ·rw [if_neg h2]
   unfold Ap
   by_cases h3:a≤t∧t < a+j
   ·rw [if_pos (by omega),if_pos h3]
   ·rw [if_neg (by omega),if_neg h3]
    by_cases h4:b≤t∧t < b+j
    ·rw [if_pos (by omega),if_pos h4]
    ·rw [if_neg (by omega),if_neg h4]
theorem Ml (x y:Int):∃ r,eD x y=some r∧decide (r < 0)=decide (x < y):=by
 unfold eD wj qV n6
 simp only [bne_self_eq_false,Option.getD_some,cond_false]
 cases h:decide (x < y) with
 | true=>exact ⟨_,rfl,rfl⟩
 | false=>
  rw [cond_false]
  cases h2:decide (x > y) with
  | true=>exact ⟨_,rfl,rfl⟩
  | false=>exact ⟨_,rfl,rfl⟩
end Go.Proofs.Ytahhdndhkgbcjaa.b
end
section
namespace Go.Proofs.Ytahhdndhkgbcjaa.b
open Go.K Go.K.tr
open Go.aE (aq)
theorem WN (h:aB) (D:Sl aU) (a b n:Nat) (h1:a+n≤b) (h2:b+n≤D.n) (h3:D.n≤10000000000) :
  ∃ e y,goN dj ⟨D,(a:Int),(b:Int),(n:Int),(0:Int),h⟩ = .out e y∧(e = .exit 0∧y.a=(a:Int)∧y.b=(b:Int)∧y.n=(n:Int)∧y.eO=h∧y.data.n=D.n∧∀ t,y.data.get t=Ap D.get a b n t):=by
 refine dE (step:=dj) (fun j y=>y.a=(a:Int)∧y.b=(b:Int)∧y.n=(n:Int)∧y.eO=h∧y.i=(j:Int)∧j≤n∧y.data.n=D.n∧∀ t,y.data.get t=Ap D.get a b j t) (fun e y=>e = .exit 0∧y.a=(a:Int)∧y.b=(b:Int)∧y.n=(n:Int)∧y.eO=h∧y.data.n=D.n∧∀ t,y.data.get t=Ap D.get a b n t) n (by have:m6=1000000000000:=rfl; omega) (fun j y hj ⟨f1,f2,f3,f4,f5,f6,f7,f8⟩=>?_) ⟨rfl,rfl,rfl,rfl,rfl,Nat.zero_le _,rfl,fun t=>by rw [Ap,if_neg (by omega),if_neg (by omega)]⟩
 unfold dj
 simp only [f1,f2,f3,f5,f7,bc,cond_true]
 by_cases bU:j < n
 ·rw [decide_eq_true (show (j:Int) < (n:Int) by omega),cond_true,aak (by omega),aak (by omega),Sm (by omega),Sm (by omega),Pn (by omega)]
  simp only [cond_true,Int.toNat_natCast]
  refine .inl ⟨_,rfl,bU,rfl,rfl,rfl,f4,rfl,bU,by rw [ahm]; exact f7,fun t=>?_⟩
  rw [Mj,ail D.get (by omega) t,f8,f8,f8,Nat.zero_add,Nat.zero_add]
 ·rw [decide_eq_false (show ¬ (j:Int) < (n:Int) by omega),cond_false]
  have:j=n:=by omega
  subst this
  exact .inr ⟨_,_,rfl,rfl,rfl,f1,f2,f3,f4,f7,f8⟩
theorem BU (h:aB) (D:Sl aU) (a b n:Nat) (h1:a+n≤b) (h2:b+n≤D.n) (h3:D.n≤10000000000) :
  ∃ D',eS ⟨D,(a:Int),(b:Int),(n:Int),h⟩ = .out .ret ⟨D',(a:Int),(b:Int),(n:Int),h⟩∧D'.n=D.n∧∀ t,D'.get t=Ap D.get a b n t:=by
 obtain ⟨e,y,hy,rfl,y1,y2,y3,y4,y5,y6⟩:=WN h D a b n h1 h2 h3
 have e0:dh ⟨D,(a:Int),(b:Int),(n:Int),h⟩ = .out (.exit 0) y:=hy
 refine ⟨y.data,?_,y5,y6⟩
 unfold eS jn
 rw [e0]
 simp only [bc,cond_true,aI.jC,aI.jL,fc,Nat.beq_refl,y1,y2,y3,y4]
theorem aam (h:aB) (D:Sl aU) (a m b:Nat) (h1:a < m) (h2:m < b) (h4:b≤D.n) (h3:D.n≤10000000000) :
  ∃ e y,goN dy ⟨D,(a:Int),(m:Int),(b:Int),((m - a:Nat):Int),((b - m:Nat):Int),h⟩ = .out e y∧(e = .exit 0∧y.a=(a:Int)∧y.m=(m:Int)∧y.b=(b:Int)∧y.eO=h∧y.data.n=D.n∧
   ∃ i:Nat,1≤i∧a+i≤m∧m+i≤b∧y.i=(i:Int)∧y.j=(i:Int)∧(∀ t,t < m - i∨m+i≤t→y.data.get t=Cx D.get a m b t)∧(∀ t,m - i≤t→t < m→Cx D.get a m b t=y.data.get (t+i))∧∀ t,m≤t→t < m+i→Cx D.get a m b t=y.data.get (t - i)):=by
 refine dE (step:=dy) (fun k y=>y.a=(a:Int)∧y.m=(m:Int)∧y.b=(b:Int)∧y.eO=h∧y.data.n=D.n∧
   ∃ i j:Nat,1≤i∧1≤j∧a+i≤m∧m+j≤b∧i+j+k≤b - a∧y.i=(i:Int)∧y.j=(j:Int)∧(∀ t,t < m - i∨m+j≤t→y.data.get t=Cx D.get a m b t)∧(∀ t,m - i≤t→t < m - i+j→Cx D.get a m b t=y.data.get (t+i))∧∀ t,m - i+j≤t→t < m+j→Cx D.get a m b t=y.data.get (t - j)) _ (b - a) (by have:m6=1000000000000:=rfl; omega) (fun k y hk ⟨f1,f2,f3,f4,f5,i,j,g1,g2,g3,g4,g5,g6,g7,g8,g9,g10⟩=>?_) ?_
 ·unfold dy
  by_cases he:i=j
  ·subst he
   rw [g6,g7,bne_self_eq_false,cond_false,bc,cond_true]
   exact .inr ⟨_,_,rfl,rfl,rfl,f1,f2,f3,f4,f5,i,g1,g3,g4,g6,g7,g8,fun t q1 q2=>g9 t q1 (by omega),fun t q1 q2=>g10 t (by omega) q2⟩
  ·rw [g6,g7,show ((i:Int) != (j:Int))=true by simpa using (show ¬ (i:Int)=(j:Int) by omega),cond_true]
   by_cases hgt:j < i
   ·rw [decide_eq_true (show (i:Int) > (j:Int) by omega),cond_true]
    obtain ⟨D',q1,q2,q3⟩:=BU h y.data (m - i) m j (by omega) (by omega) (by omega)
    have e0:fE y = .out .ret ⟨D',((m - i:Nat):Int),(m:Int),(j:Int),h⟩:=by
     unfold fE
     rw [f2,g6,g7,f4,Br (by omega) (by omega)]
     exact q1
    rw [e0]
    simp only [bc,cond_true,aI.jC,aI.jL,fc,q2]
    refine .inl ⟨_,rfl,by omega,f1,f2,f3,rfl,by rw [q2]; exact f5,i - j,j,by omega,g2,by omega,g4,by omega,Br (by omega) (by omega),rfl,fun t ht=>?_,fun t t1 t2=>?_,fun t t1 t2=>?_⟩
    ·rw [q3]
     by_cases zu:m - i≤t∧t < m - i+j
     ·rw [Ap,if_pos zu,g9 t zu.1 zu.2]; congr 1; omega
     ·rw [Ap,if_neg zu,if_neg (by omega)]; exact g8 t (by omega)
    ·rw [q3,Ap,if_neg (by omega),if_pos (by omega),g10 t (by omega) (by omega)]; congr 1; omega
    ·rw [q3,Ap,if_neg (by omega),if_neg (by omega),g10 t (by omega) (by omega)]
   ·rw [decide_eq_false (show ¬ (i:Int) > (j:Int) by omega),cond_false]
    obtain ⟨D',q1,q2,q3⟩:=BU h y.data (m - i) (m+j - i) i (by omega) (by omega) (by omega)
    have e0:fF y = .out .ret ⟨D',((m - i:Nat):Int),((m+j - i:Nat):Int),(i:Int),h⟩:=by
     unfold fF
     rw [f2,g6,g7,f4,Br (by omega) (by omega),aak (by omega),Br (by omega) (by omega)]
     exact q1
    rw [e0]
    simp only [bc,cond_true,aI.jC,aI.jL,fc,q2]
    refine .inl ⟨_,rfl,by omega,f1,f2,f3,rfl,by rw [q2]; exact f5,i,j - i,g1,by omega,g3,by omega,by omega,rfl,Br (by omega) (by omega),fun t ht=>?_,fun t t1 t2=>?_,fun t t1 t2=>?_⟩
    ·rw [q3]
     by_cases zu:m+j - i≤t∧t < m+j - i+i
     ·rw [Ap,if_neg (by omega),if_pos zu,g10 t (by omega) (by omega)]; congr 1; omega
     ·rw [Ap,if_neg (by omega),if_neg zu]; exact g8 t (by omega)
    ·rw [q3,Ap,if_neg (by omega),if_neg (by omega),g9 t (by omega) (by omega)]
    ·rw [q3,Ap,if_pos (by omega),g9 t (by omega) (by omega)]; congr 1; omega
 ·refine ⟨rfl,rfl,rfl,rfl,rfl,m - a,b - m,by omega,by omega,by omega,by omega,by omega,rfl,rfl,fun t ht=>?_,fun t t1 t2=>?_,fun t t1 t2=>?_⟩
  ·rw [GY (by omega) (by omega) (by omega)]
  ·rw [Mi (by omega) (by omega)]
  ·rw [Iz (by omega) (by omega)]
theorem aan (h:aB) (D:Sl aU) (a m b:Nat) (h1:a < m) (h2:m < b) (h4:b≤D.n) (h3:D.n≤10000000000) :
  ∃ D',dZ ⟨D,(a:Int),(m:Int),(b:Int),h⟩ = .out .ret ⟨D',(a:Int),(m:Int),(b:Int),h⟩∧D'.n=D.n∧∀ t,D'.get t=Cx D.get a m b t:=by
 obtain ⟨e,y,hy,rfl,y1,y2,y3,y4,y5,i,i1,i2,i3,i4,i5,i6,i7,i8⟩:=aam h D a m b h1 h2 h4 h3
 have e0:bB ⟨D,(a:Int),(m:Int),(b:Int),h⟩ = .out (.exit 0) y:=by
  unfold bB
  rw [Br (by omega) (by omega),Br (by omega) (by omega)]
  exact hy
 obtain ⟨D',q1,q2,q3⟩:=BU h y.data (m - i) m i (by omega) (by omega) (by omega)
 have e1:gC ⟨D,(a:Int),(m:Int),(b:Int),h⟩ = .out .ret ⟨D',((m - i:Nat):Int),(m:Int),(i:Int),h⟩:=by
  unfold gC
  rw [e0]
  simp only [aI.jL,y2,i4,y4]
  rw [Br (by omega) (by omega)]
  exact q1
 refine ⟨D',?_,q2.trans y5,fun t=>?_⟩
 ·unfold dZ kr
  rw [e0,e1]
  simp only [bc,cond_true,aI.jC,aI.jL,fc,Nat.beq_refl,y1,y2,y3,q2]
 ·rw [q3]
  by_cases c1:m - i≤t∧t < m - i+i
  ·rw [Ap,if_pos c1,i7 t (by omega) (by omega)]; congr 1; omega
  ·by_cases c2:m≤t∧t < m+i
   ·rw [Ap,if_neg c1,if_pos c2,i8 t c2.1 c2.2]; congr 1; omega
   ·rw [Ap,if_neg c1,if_neg c2]; exact i6 t (by omega)
def bV (h:aB) (d:aU):Int:=(h.cN.items.get (Int.toNat d.item)).look.bin
def hJ (h:aB) (d:aU):Bool:=(decide ((0:Int)≤d.item))&&(decide (d.item < ((h.cN.items.n:Nat):Int)))
theorem aao (h:aB) (D:Sl aU) (a b i:Nat) (h1:a≤i) (h2:i < D.n) (h3:D.n≤10000000000) (cg:∀ t,t < D.n→hJ h (D.get t)=true) :
  ∃ e y,goN cp ⟨D,(a:Int),(b:Int),(i:Int),(i:Int),h⟩ = .out e y∧(e = .exit 2∧y.a=(a:Int)∧y.b=(b:Int)∧y.i=(i:Int)∧y.dU=h∧y.data.n=D.n∧∃ j:Nat,a≤j∧j≤i∧(∀ t,y.data.get t=ins D.get j i t)∧(∀ t,j≤t→t < i→bV h (D.get i) < bV h (D.get t))∧(j=a∨¬ bV h (D.get i) < bV h (D.get (j - 1)))):=by
 refine dE (step:=cp) (fun k y=>y.a=(a:Int)∧y.b=(b:Int)∧y.i=(i:Int)∧y.dU=h∧y.data.n=D.n∧a+k≤i∧y.j=((i - k:Nat):Int)∧(∀ t,y.data.get t=ins D.get (i - k) i t)∧∀ t,i - k≤t→t < i→bV h (D.get i) < bV h (D.get t)) _ (i - a) (by have:m6=1000000000000:=rfl; omega) (fun k y hk ⟨f1,f2,f3,f4,f5,f6,f7,f8,f9⟩=>?_) ⟨rfl,rfl,rfl,rfl,rfl,by omega,by simp,fun t=>by rw [Nat.sub_zero,ab3],fun t t1 t2=>by omega⟩
 unfold cp
 by_cases bU:a < i - k
 ·have g1:y.data.get (0+Int.toNat ((i - k:Nat):Int))=D.get i:=by rw [Int.toNat_natCast,Nat.zero_add,f8,EG]
  have g2:y.data.get (0+Int.toNat ((i - k - 1:Nat):Int))=D.get (i - k - 1):=by rw [Int.toNat_natCast,Nat.zero_add,f8,xn (by omega)]
  obtain ⟨r,r1,r2⟩:=Ml (bV h (D.get i)) (bV h (D.get (i - k - 1)))
  have e0:gw y=some r:=by
   unfold gw
   rw [f7,aal (by omega) (by omega),g1,g2,f4]
   exact r1
  have o1:((decide ((0:Int)≤(D.get i).item))&&(decide ((D.get i).item < ((h.cN.items.n:Nat):Int))))=true:=cg i h2
  have o2:((decide ((0:Int)≤(D.get (i - k - 1)).item))&&(decide ((D.get (i - k - 1)).item < ((h.cN.items.n:Nat):Int))))=true:=cg _ (by omega)
  rw [f7,f1,decide_eq_true (show ((i - k:Nat):Int) > (a:Int) by omega),cond_true,f5,Sm (by omega),cond_true,aal (by omega) (by omega),Sm (by omega),cond_true,g1,g2,f4,o1,o2,e0]
  simp only [cond_true,Option.isSome_some,Option.getD_some,bc,r2]
  by_cases hc:bV h (D.get i) < bV h (D.get (i - k - 1))
  ·rw [decide_eq_true hc,cond_true]
   refine .inl ⟨_,rfl,by omega,rfl,f2,f3,rfl,by rw [ahm]; exact f5,by omega,by rw [show i - (k+1)=i - k - 1 by omega],fun t=>?_,fun t t1 t2=>?_⟩
   ·rw [Mj,show i - (k+1)=i - k - 1 by omega,ab5 (by omega) (by omega),Int.toNat_natCast,Int.toNat_natCast,EG,xn (by omega),f8]
   ·by_cases e:t=i - k - 1
    ·rw [e]; exact hc
    ·exact f9 t (by omega) t2
  ·rw [decide_eq_false hc,cond_false]
   exact .inr ⟨_,_,rfl,rfl,rfl,f1,f2,f3,f4,f5,i - k,by omega,by omega,f8,f9,.inr hc⟩
 ·rw [f7,f1,decide_eq_false (show ¬ ((i - k:Nat):Int) > (a:Int) by omega),cond_false,bc,cond_true]
  exact .inr ⟨_,_,rfl,rfl,rfl,f1,f2,f3,f4,f5,i - k,by omega,by omega,f8,f9,.inl (by omega)⟩
def bK (h:aB) (fZ:aU→aU→Prop):tr.Ord aU:=⟨bV h,fZ⟩
theorem GZ (h:aB) (fZ:aU→aU→Prop) (D:Sl aU) (a b:Nat) (h1:a≤b) (h2:b≤D.n) (h3:D.n≤10000000000) (cg:∀ t,t < D.n→hJ h (D.get t)=true) (hr:∀ s t,a≤s→s < t→t < b→fZ (D.get s) (D.get t)) :
  ∃ D',eT ⟨D,(a:Int),(b:Int),h⟩ = .out .ret ⟨D',(a:Int),(b:Int),h⟩∧D'.n=D.n∧Perm D.get D'.get a b∧gj (bK h fZ) D'.get a b:=by
 have alO:∃ e y,goN cE ⟨D,(a:Int),(b:Int),((a+1:Nat):Int),h⟩ = .out e y∧(e = .exit 0∧y.a=(a:Int)∧y.b=(b:Int)∧y.dU=h∧y.data.n=D.n∧Perm D.get y.data.get a b∧gj (bK h fZ) y.data.get a b):=by
  refine dE (step:=cE) (fun k y=>y.a=(a:Int)∧y.b=(b:Int)∧y.i=((a+1+k:Nat):Int)∧y.dU=h∧y.data.n=D.n∧(k=0∨a+1+k≤b)∧Perm D.get y.data.get a (a+1+k)∧gj (bK h fZ) y.data.get a (a+1+k)) _ (b - a) (by have:m6=1000000000000:=rfl; omega) (fun k y hk ⟨f1,f2,f3,f4,f5,f6,f7,f8⟩=>?_) ⟨rfl,rfl,rfl,rfl,rfl,.inl rfl,.refl _ _ _,.one (by omega)⟩
  unfold cE
  by_cases bU:a+1+k < b
  ·have Va:∀ t,t < y.data.n→hJ h (y.data.get t)=true:=fun t ht=>by
    rw [f5] at ht
    by_cases zu:a≤t∧t < a+1+k
    ·obtain ⟨j,j1,j2,e⟩:=f7.mem zu.1 zu.2
     rw [e]; exact cg j (by omega)
    ·rw [f7.2 t (by omega)]; exact cg t ht
   obtain ⟨e,z,hz,rfl,z1,z2,z3,z4,z5,j,j1,j2,j3,j4,j5⟩:=aao h y.data a b (a+1+k) (by omega) (by omega) (by omega) Va
   have e0:bR y = .out (.exit 2) z:=by
    unfold bR
    rw [f1,f2,f3,f4]
    exact hz
   rw [f3,f2,decide_eq_true (show ((a+1+k:Nat):Int) < (b:Int) by omega),cond_true,e0]
   simp only [bc,cond_true,aI.jC,aI.jL,fc,Nat.beq_refl]
   have alf:z.data.get=ins y.data.get j (a+1+k):=funext j3
   refine .inl ⟨_,rfl,by omega,z1,z2,(by show aj (z.i+1)=_; rw [z3,Pn (by omega)]; rfl),z4,by rw [z5]; exact f5,.inr (by omega),?_,?_⟩
   ·rw [alf]
    exact (f7.wide (Nat.le_refl _) (by omega) (by omega)).trans ((ab4 (a:=a) j1 j2).wide (Nat.le_refl _) (by omega) (by omega))
   ·rw [alf]
    refine VH f8 (fun s t s1 s2 t1 t2=>?_) j1 j2 (fun s s1 s2=>?_) j4
    ·have:t=a+1+k:=by omega
     subst this
     obtain ⟨s',p1,p2,e⟩:=f7.mem s1 s2
     rw [e,f7.2 (a+1+k) (by omega)]
     exact hr s' _ p1 p2 bU
    ·rcases j5 with rfl | j5
     ·omega
     ·have:=f8.key (i:=s) (j:=j - 1) s1 (by omega) (by omega)
      have h5 : ¬ (bK h fZ).key (y.data.get (a+1+k)) < (bK h fZ).key (y.data.get (j - 1)):=j5
      omega
  ·rw [f3,f2,decide_eq_false (show ¬ ((a+1+k:Nat):Int) < (b:Int) by omega),cond_false,bc,cond_true]
   refine .inr ⟨_,_,rfl,rfl,rfl,f1,f2,f4,f5,?_,?_⟩
   ·rcases f6 with rfl | f6
    ·by_cases e:a=b
     ·subst e
      refine ⟨fun p=>by rw [Nat.sub_self]; rfl,fun i _=>?_⟩
      by_cases hi:i=a
      ·subst hi
       have:=f7.1
       obtain ⟨j,p1,p2,e⟩:=f7.mem (i:=i) (by omega) (by omega)
       rw [e]; congr 1; omega
      ·exact f7.2 i (by omega)
     ·rw [show b=a+1+0 by omega]; exact f7
    ·rw [show b=a+1+k by omega]; exact f7
   ·exact fun s t s1 s2 t1=>f8 s t s1 s2 (by omega)
 obtain ⟨e,y,hy,rfl,y1,y2,y3,y4,y5,y6⟩:=alO
 have e0:cB ⟨D,(a:Int),(b:Int),h⟩ = .out (.exit 0) y:=by
  unfold cB
  rw [Pn (by omega)]
  exact hy
 refine ⟨y.data,?_,y4,y5,y6⟩
 unfold eT gZ
 rw [e0]
 simp only [bc,cond_true,aI.jC,aI.jL,fc,Nat.beq_refl,y1,y2,y3]
end Go.Proofs.Ytahhdndhkgbcjaa.b
end
section
namespace Go.Proofs.Ytahhdndhkgbcjaa.b
open Go.K Go.K.tr
open Go.aE (aq)
theorem aka {n:Int} (h:0≤n) (h' : n < 18446744073709551616):mL n=n:=by
 show Go.IntKind.wrap .u64 n=n
 unfold Go.IntKind.wrap
 simp only [Go.IntKind.signed,Go.IntKind.bits]
 first | omega | (simp; omega)
theorem ado {i j:Nat} (h:i+j≤100000000000):aj (Int.fdiv (mL (aj ((i:Int)+(j:Int)))) (2:Int))=(((i+j) / 2:Nat):Int):=by
 rw [aak h,aka (by omega) (by omega),show Int.fdiv ((i+j:Nat):Int) (2:Int)=(((i+j) / 2:Nat):Int) from ?_,xl (by omega) (by omega)]
 rw [Int.fdiv_eq_ediv_of_nonneg _ (by omega)]
 omega
end Go.Proofs.Ytahhdndhkgbcjaa.b
end
