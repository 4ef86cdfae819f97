/- Part of the proof of ImageWins: a machine that runs the program's code over open terms, shown to be the model's, and the plain models of its functions. No conditions. -/
import Derived.Test.YtahhdndhkgbcjaaIp
section
namespace Go.Proofs.Ytahhdndhkgbcjaa.b
open Go.K
set_option linter.unusedVariables false
set_option linter.unusedSimpArgs false
noncomputable section
structure bo where
 data:(Sl aZ)
 a:Int
 b:Int
 n:Int
 held:aB
instance:Inhabited bo:=⟨⟨default,default,default,default,default⟩⟩
def jO (x:bo):List KV:=[iU 58 gZ x.data,.int .i64 x.a,.int .i64 x.b,.int .i64 x.n,.fn (.func 77) [] [.ptr 0 0]]
def jP (x:bo):List (List KV):=[cI x.held]
def qO (vs:List KV) (rs:List (List KV)):bo:=⟨iw hH (vs.getD 0 .ax),intOf (vs.getD 1 .ax),intOf (vs.getD 2 .ax),intOf (vs.getD 3 .ax),cJ (fun k=>(rs.getD 0 []).getD k .ax)⟩
def rP:aQ:=⟨[(0,⟨false,[.arr 58]⟩),(1,⟨false,[.k (.int .i64)]⟩),(2,⟨false,[.k (.int .i64)]⟩),(3,⟨false,[.k (.int .i64)]⟩),(4,⟨false,[.ref (.fn (.func 77) [] [.ptr 0 0])]⟩)],[(100004,[.k (.slice 45),.k (.slice 108),.k (.slice 139)],1)],[]⟩
structure cK where
 data:(Sl aZ)
 a:Int
 b:Int
 n:Int
 i:Int
 eK:aB
instance:Inhabited cK:=⟨⟨default,default,default,default,default,default⟩⟩
def jq (x:cK):List KV:=[iU 58 gZ x.data,.int .i64 x.a,.int .i64 x.b,.int .i64 x.n,.fn (.func 77) [] [.ptr 0 0],.int .i64 x.i]
def jr (x:cK):List (List KV):=[cI x.eK]
def pJ (vs:List KV) (rs:List (List KV)):cK:=⟨iw hH (vs.getD 0 .ax),intOf (vs.getD 1 .ax),intOf (vs.getD 2 .ax),intOf (vs.getD 3 .ax),intOf (vs.getD 5 .ax),cJ (fun k=>(rs.getD 0 []).getD k .ax)⟩
def qw:aQ:=⟨[(0,⟨false,[.arr 58]⟩),(1,⟨false,[.k (.int .i64)]⟩),(2,⟨false,[.k (.int .i64)]⟩),(3,⟨false,[.k (.int .i64)]⟩),(4,⟨false,[.ref (.fn (.func 77) [] [.ptr 0 0])]⟩),(10,⟨false,[.k (.int .i64)]⟩)],[(100004,[.k (.slice 45),.k (.slice 108),.k (.slice 139)],1)],[]⟩
def ye:=pB Try.prog (bp Try.prog [(35,cc)] [] (fun q=>Nat.beq q 58)) 9 9 144 6 (eX Try.prog 144 6) qw
def dj (x:cK):aJ cK:=
 (cond (decide (x.i < x.n))
 (cond ((decide ((0:Int)≤(ak (x.b+x.i))))&&(decide ((ak (x.b+x.i)) < ((x.data.n:Nat):Int))))
 (cond ((decide ((0:Int)≤(ak (x.a+x.i))))&&(decide ((ak (x.a+x.i)) < ((x.data.n:Nat):Int))))
 (cond ((decide ((0:Int)≤(ak (x.a+x.i))))&&(decide ((ak (x.a+x.i)) < ((x.data.n:Nat):Int))))
 (cond ((decide ((0:Int)≤(ak (x.b+x.i))))&&(decide ((ak (x.b+x.i)) < ((x.data.n:Nat):Int))))
 (cond (au x.data.n x.data.n)
 (.next (⟨((x.data.set (0+(Int.toNat (ak (x.a+x.i)))) (x.data.get (0+(Int.toNat (ak (x.b+x.i)))))).set (0+(Int.toNat (ak (x.b+x.i)))) (x.data.get (0+(Int.toNat (ak (x.a+x.i)))))),x.a,x.b,x.n,(ak (x.i+(1:Int))),x.eK⟩:cK))
 .fail)
 .fail)
 .fail)
 .fail)
 .fail)
 (cond (au x.data.n x.data.n)
 (.out (aG.aw.exit 0) x)
 .fail))
theorem wL (x:cK):ye (jq x) (jr x)=aJ.enc jq jr (dj x):=by
 unfold dj
 try simp only [aJ.dg,Mi,Mh]
 kernel_rfl
def jG:Lp:=⟨144,6,qw,fun vs rs=>dD jq jr (goN dj (pJ vs rs)) [aG.aw.exit 0],true⟩
theorem yf:jG.Ok Try.prog:=lk funcs mixed (aq.cons bI aq.nil) aA.nil (L:=9) (n:=9) (step:=dj) (ev:=jq) (er:=jr) (pa:=pJ) rfl (fun wv wr=>⟨by kernel_rfl,by kernel_rfl⟩) wL
theorem wb:cz Try.prog jG.f jG.p=true:=by kernel_rfl
def zv:=EX Try.prog (bp Try.prog [(35,cc)] [jG] (fun q=>Nat.beq q 58)) 9 9 144 rP
def di (x:bo):(aJ cK):=(goN dj (⟨x.data,x.a,x.b,x.n,(0:Int),x.held⟩:cK))
def js (x:bo):aJ bo:=
 (cond (au x.data.n x.data.n)
 (cond ((di x).by (aG.aw.exit 0))
 (cond (au (di x).st.data.n (di x).st.data.n)
 (.out aG.aw.ret (⟨(di x).st.data,(di x).st.a,(di x).st.b,(di x).st.n,(di x).st.eK⟩:bo))
 .fail)
 .fail)
 .fail)
theorem yg (x:bo):zv (jO x) (jP x)=aJ.enc jO jP (js x):=by
 unfold js
 try simp only [aJ.dg]
 kernel_rfl
def eP (x:bo):aJ bo:=js x
def m5:Fc:=⟨144,rP,fun vs rs=>dD jO jP (eP (qO vs rs)) [aG.aw.ret]⟩
theorem qx:m5.Ok Try.prog:=Bg funcs mixed (aq.cons bI aq.nil) (aA.cons yf wb aA.nil) (L:=9) (n:=9) (step:=eP) (ev:=jO) (er:=jP) (pa:=qO) rfl (fun wv wr=>⟨by kernel_rfl,by kernel_rfl⟩) yg
structure bD where
 data:(Sl aZ)
 a:Int
 m:Int
 b:Int
 held:aB
instance:Inhabited bD:=⟨⟨default,default,default,default,default⟩⟩
def lu (x:bD):List KV:=[iU 58 gZ x.data,.int .i64 x.a,.int .i64 x.m,.int .i64 x.b,.fn (.func 77) [] [.ptr 0 0]]
def lv (x:bD):List (List KV):=[cI x.held]
def sZ (vs:List KV) (rs:List (List KV)):bD:=⟨iw hH (vs.getD 0 .ax),intOf (vs.getD 1 .ax),intOf (vs.getD 2 .ax),intOf (vs.getD 3 .ax),cJ (fun k=>(rs.getD 0 []).getD k .ax)⟩
def tP:aQ:=⟨[(0,⟨false,[.arr 58]⟩),(1,⟨false,[.k (.int .i64)]⟩),(2,⟨false,[.k (.int .i64)]⟩),(3,⟨false,[.k (.int .i64)]⟩),(4,⟨false,[.ref (.fn (.func 77) [] [.ptr 0 0])]⟩)],[(100004,[.k (.slice 45),.k (.slice 108),.k (.slice 139)],1)],[]⟩
structure bS where
 data:(Sl aZ)
 a:Int
 m:Int
 b:Int
 i:Int
 j:Int
 eK:aB
instance:Inhabited bS:=⟨⟨default,default,default,default,default,default,default⟩⟩
def jQ (x:bS):List KV:=[iU 58 gZ x.data,.int .i64 x.a,.int .i64 x.m,.int .i64 x.b,.fn (.func 77) [] [.ptr 0 0],.int .i64 x.i,.int .i64 x.j]
def jR (x:bS):List (List KV):=[cI x.eK]
def qP (vs:List KV) (rs:List (List KV)):bS:=⟨iw hH (vs.getD 0 .ax),intOf (vs.getD 1 .ax),intOf (vs.getD 2 .ax),intOf (vs.getD 3 .ax),intOf (vs.getD 5 .ax),intOf (vs.getD 6 .ax),cJ (fun k=>(rs.getD 0 []).getD k .ax)⟩
def rQ:aQ:=⟨[(0,⟨false,[.arr 58]⟩),(1,⟨false,[.k (.int .i64)]⟩),(2,⟨false,[.k (.int .i64)]⟩),(3,⟨false,[.k (.int .i64)]⟩),(4,⟨false,[.ref (.fn (.func 77) [] [.ptr 0 0])]⟩),(10,⟨false,[.k (.int .i64)]⟩),(11,⟨false,[.k (.int .i64)]⟩)],[(100004,[.k (.slice 45),.k (.slice 108),.k (.slice 139)],1)],[]⟩
def zw:=pB Try.prog (bp Try.prog [(35,cc)] [] (fun q=>Nat.beq q 58) false false [m5]) 9 9 135 28 (eX Try.prog 135 28) rQ
def fC (x:bS):(aJ bo):=(eP (⟨x.data,(ak (x.m - x.i)),x.m,x.j,x.eK⟩:bo))
def fD (x:bS):(aJ bo):=(eP (⟨x.data,(ak (x.m - x.i)),(ak ((ak (x.m+x.j)) - x.i)),x.i,x.eK⟩:bo))
def dy (x:bS):aJ bS:=
 (cond (x.i != x.j)
 (cond (decide (x.i > x.j))
 (cond (au x.data.n x.data.n)
 (cond ((fC x).by aG.aw.ret)
 (cond (au (fC x).st.data.n x.data.n)
 (.next (⟨(fC x).st.data,x.a,x.m,x.b,(ak (x.i - x.j)),x.j,(fC x).st.held⟩:bS))
 .fail)
 .fail)
 .fail)
 (cond (au x.data.n x.data.n)
 (cond ((fD x).by aG.aw.ret)
 (cond (au (fD x).st.data.n x.data.n)
 (.next (⟨(fD x).st.data,x.a,x.m,x.b,x.i,(ak (x.j - x.i)),(fD x).st.held⟩:bS))
 .fail)
 .fail)
 .fail))
 (cond (au x.data.n x.data.n)
 (.out (aG.aw.exit 0) x)
 .fail))
theorem yh (x:bS):zw (jQ x) (jR x)=aJ.enc jQ jR (dy x):=by
 unfold dy
 try simp only [aJ.dg]
 kernel_rfl
def kl:Lp:=⟨135,28,rQ,fun vs rs=>dD jQ jR (goN dy (qP vs rs)) [aG.aw.exit 0],true⟩
theorem zx:kl.Ok Try.prog:=lk funcs mixed (aq.cons bI aq.nil) aA.nil (L:=9) (n:=9) (step:=dy) (ev:=jQ) (er:=jR) (pa:=qP) rfl (fun wv wr=>⟨by kernel_rfl,by kernel_rfl⟩) yh (BN:=(fN.cons qx fN.nil))
theorem xK:cz Try.prog kl.f kl.p=true:=by kernel_rfl
def BS:=EX Try.prog (bp Try.prog [(35,cc)] [kl] (fun q=>Nat.beq q 58) false false [m5]) 9 9 135 tP
def bB (x:bD):(aJ bS):=(goN dy (⟨x.data,x.a,x.m,x.b,(ak (x.m - x.a)),(ak (x.b - x.m)),x.held⟩:bS))
def gE (x:bD):(aJ bo):=(eP (⟨(bB x).st.data,(ak ((bB x).st.m - (bB x).st.i)),(bB x).st.m,(bB x).st.i,(bB x).st.eK⟩:bo))
def ko (x:bD):aJ bD:=
 (cond (au x.data.n x.data.n)
 (cond ((bB x).by (aG.aw.exit 0))
 (cond (au (bB x).st.data.n (bB x).st.data.n)
 (cond ((gE x).by aG.aw.ret)
 (cond (au (gE x).st.data.n (bB x).st.data.n)
 (.out aG.aw.ret (⟨(gE x).st.data,(bB x).st.a,(bB x).st.m,(bB x).st.b,(gE x).st.held⟩:bD))
 .fail)
 .fail)
 .fail)
 .fail)
 .fail)
theorem Al (x:bD):BS (lu x) (lv x)=aJ.enc lu lv (ko x):=by
 unfold ko
 try simp only [aJ.dg]
 kernel_rfl
def dZ (x:bD):aJ bD:=ko x
def eL:Fc:=⟨135,tP,fun vs rs=>dD lu lv (dZ (sZ vs rs)) [aG.aw.ret]⟩
theorem fe:eL.Ok Try.prog:=Bg funcs mixed (aq.cons bI aq.nil) (aA.cons zx xK aA.nil) (L:=9) (n:=9) (step:=dZ) (ev:=lu) (er:=lv) (pa:=sZ) rfl (fun wv wr=>⟨by kernel_rfl,by kernel_rfl⟩) Al (BN:=(fN.cons qx fN.nil))
structure bh where
 data:(Sl aZ)
 a:Int
 b:Int
 held:aB
instance:Inhabited bh:=⟨⟨default,default,default,default⟩⟩
def iI (x:bh):List KV:=[iU 58 gZ x.data,.int .i64 x.a,.int .i64 x.b,.fn (.func 77) [] [.ptr 0 0]]
def iJ (x:bh):List (List KV):=[cI x.held]
def oJ (vs:List KV) (rs:List (List KV)):bh:=⟨iw hH (vs.getD 0 .ax),intOf (vs.getD 1 .ax),intOf (vs.getD 2 .ax),cJ (fun k=>(rs.getD 0 []).getD k .ax)⟩
def ph:aQ:=⟨[(0,⟨false,[.arr 58]⟩),(1,⟨false,[.k (.int .i64)]⟩),(2,⟨false,[.k (.int .i64)]⟩),(3,⟨false,[.ref (.fn (.func 77) [] [.ptr 0 0])]⟩)],[(100003,[.k (.slice 45),.k (.slice 108),.k (.slice 139)],1)],[]⟩
structure bK where
 data:(Sl aZ)
 a:Int
 b:Int
 i:Int
 dR:aB
instance:Inhabited bK:=⟨⟨default,default,default,default,default⟩⟩
def hM (x:bK):List KV:=[iU 58 gZ x.data,.int .i64 x.a,.int .i64 x.b,.fn (.func 77) [] [.ptr 0 0],.int .i64 x.i]
def hO (x:bK):List (List KV):=[cI x.dR]
def nL (vs:List KV) (rs:List (List KV)):bK:=⟨iw hH (vs.getD 0 .ax),intOf (vs.getD 1 .ax),intOf (vs.getD 2 .ax),intOf (vs.getD 4 .ax),cJ (fun k=>(rs.getD 0 []).getD k .ax)⟩
def n9:aQ:=⟨[(0,⟨false,[.arr 58]⟩),(1,⟨false,[.k (.int .i64)]⟩),(2,⟨false,[.k (.int .i64)]⟩),(3,⟨false,[.ref (.fn (.func 77) [] [.ptr 0 0])]⟩),(8,⟨false,[.k (.int .i64)]⟩)],[(100003,[.k (.slice 45),.k (.slice 108),.k (.slice 139)],1)],[]⟩
structure bC where
 data:(Sl aZ)
 a:Int
 b:Int
 i:Int
 j:Int
 dR:aB
instance:Inhabited bC:=⟨⟨default,default,default,default,default,default⟩⟩
def gM (x:bC):List KV:=[iU 58 gZ x.data,.int .i64 x.a,.int .i64 x.b,.fn (.func 77) [] [.ptr 0 0],.int .i64 x.i,.int .i64 x.j]
def gN (x:bC):List (List KV):=[cI x.dR]
def nb (vs:List KV) (rs:List (List KV)):bC:=⟨iw hH (vs.getD 0 .ax),intOf (vs.getD 1 .ax),intOf (vs.getD 2 .ax),intOf (vs.getD 4 .ax),intOf (vs.getD 5 .ax),cJ (fun k=>(rs.getD 0 []).getD k .ax)⟩
def nB:aQ:=⟨[(0,⟨false,[.arr 58]⟩),(1,⟨false,[.k (.int .i64)]⟩),(2,⟨false,[.k (.int .i64)]⟩),(3,⟨false,[.ref (.fn (.func 77) [] [.ptr 0 0])]⟩),(8,⟨false,[.k (.int .i64)]⟩),(9,⟨false,[.k (.int .i64)]⟩)],[(100003,[.k (.slice 45),.k (.slice 108),.k (.slice 139)],1)],[]⟩
def tX:=pB Try.prog (bp Try.prog [(35,cc)] [] (fun q=>Nat.beq q 58)) 9 9 122 402 (eX Try.prog 122 402) nB
def gx (x:bC):(Option Int):=(eA (x.dR.cX.items.get (Int.toNat (x.data.get (0+(Int.toNat x.j))).item)).look.bin (x.dR.cX.items.get (Int.toNat (x.data.get (0+(Int.toNat (ak (x.j - (1:Int)))))).item)).look.bin)
def cp (x:bC):aJ bC:=
 (cond (decide (x.j > x.a))
 (cond ((decide ((0:Int)≤x.j))&&(decide (x.j < ((x.data.n:Nat):Int))))
 (cond ((decide ((0:Int)≤(ak (x.j - (1:Int)))))&&(decide ((ak (x.j - (1:Int))) < ((x.data.n:Nat):Int))))
 (cond ((decide ((0:Int)≤(x.data.get (0+(Int.toNat x.j))).item))&&(decide ((x.data.get (0+(Int.toNat x.j))).item < ((x.dR.cX.items.n:Nat):Int))))
 (cond ((decide ((0:Int)≤(x.data.get (0+(Int.toNat (ak (x.j - (1:Int)))))).item))&&(decide ((x.data.get (0+(Int.toNat (ak (x.j - (1:Int)))))).item < ((x.dR.cX.items.n:Nat):Int))))
 (cond (gx x).isSome
 (cond (decide (((gx x).getD default) < (0:Int)))
 (cond ((decide ((0:Int)≤(ak (x.j - (1:Int)))))&&(decide ((ak (x.j - (1:Int))) < ((x.data.n:Nat):Int))))
 (cond ((decide ((0:Int)≤x.j))&&(decide (x.j < ((x.data.n:Nat):Int))))
 (cond ((decide ((0:Int)≤x.j))&&(decide (x.j < ((x.data.n:Nat):Int))))
 (cond ((decide ((0:Int)≤(ak (x.j - (1:Int)))))&&(decide ((ak (x.j - (1:Int))) < ((x.data.n:Nat):Int))))
 (cond (au x.data.n x.data.n)
 (.next (⟨((x.data.set (0+(Int.toNat x.j)) (x.data.get (0+(Int.toNat (ak (x.j - (1:Int))))))).set (0+(Int.toNat (ak (x.j - (1:Int))))) (x.data.get (0+(Int.toNat x.j)))),x.a,x.b,x.i,(ak (x.j - (1:Int))),x.dR⟩:bC))
 .fail)
 .fail)
 .fail)
 .fail)
 .fail)
 (cond (au x.data.n x.data.n)
 (.out (aG.aw.exit 2) x)
 .fail))
 .fail)
 .fail)
 .fail)
 .fail)
 .fail)
 (cond (au x.data.n x.data.n)
 (.out (aG.aw.exit 2) x)
 .fail))
theorem s4 (x:bC):tX (gM x) (gN x)=aJ.enc gM gN (cp x):=by
 unfold cp
 try simp only [aJ.dg,Mi,Mh]
 kernel_rfl
def ff:Lp:=⟨122,402,nB,fun vs rs=>dD gM gN (goN cp (nb vs rs)) [aG.aw.exit 2],true⟩
theorem nf:ff.Ok Try.prog:=lk funcs mixed (aq.cons bI aq.nil) aA.nil (L:=9) (n:=9) (step:=cp) (ev:=gM) (er:=gN) (pa:=nb) rfl (fun wv wr=>⟨by kernel_rfl,by kernel_rfl⟩) s4
theorem mv:cz Try.prog ff.f ff.p=true:=by kernel_rfl
def vw:=pB Try.prog (bp Try.prog [(35,cc)] [ff] (fun q=>Nat.beq q 58)) 9 9 122 6 (eX Try.prog 122 6) n9
def bR (x:bK):(aJ bC):=(goN cp (⟨x.data,x.a,x.b,x.i,x.i,x.dR⟩:bC))
def cH (x:bK):aJ bK:=
 (cond (decide (x.i < x.b))
 (cond (au x.data.n x.data.n)
 (cond ((bR x).by (aG.aw.exit 2))
 (cond (au (bR x).st.data.n (bR x).st.data.n)
 (.next (⟨(bR x).st.data,(bR x).st.a,(bR x).st.b,(ak ((bR x).st.i+(1:Int))),(bR x).st.dR⟩:bK))
 .fail)
 .fail)
 .fail)
 (cond (au x.data.n x.data.n)
 (.out (aG.aw.exit 0) x)
 .fail))
theorem tY (x:bK):vw (hM x) (hO x)=aJ.enc hM hO (cH x):=by
 unfold cH
 try simp only [aJ.dg]
 kernel_rfl
def im:Lp:=⟨122,6,n9,fun vs rs=>dD hM hO (goN cH (nL vs rs)) [aG.aw.exit 0],true⟩
theorem vx:im.Ok Try.prog:=lk funcs mixed (aq.cons bI aq.nil) (aA.cons nf mv aA.nil) (L:=9) (n:=9) (step:=cH) (ev:=hM) (er:=hO) (pa:=nL) rfl (fun wv wr=>⟨by kernel_rfl,by kernel_rfl⟩) tY
theorem tl:cz Try.prog im.f im.p=true:=by kernel_rfl
def wM:=EX Try.prog (bp Try.prog [(35,cc)] [ff,im] (fun q=>Nat.beq q 58)) 9 9 122 ph
def cE (x:bh):(aJ bK):=(goN cH (⟨x.data,x.a,x.b,(ak (x.a+(1:Int))),x.held⟩:bK))
def hQ (x:bh):aJ bh:=
 (cond (au x.data.n x.data.n)
 (cond ((cE x).by (aG.aw.exit 0))
 (cond (au (cE x).st.data.n (cE x).st.data.n)
 (.out aG.aw.ret (⟨(cE x).st.data,(cE x).st.a,(cE x).st.b,(cE x).st.dR⟩:bh))
 .fail)
 .fail)
 .fail)
theorem vy (x:bh):wM (iI x) (iJ x)=aJ.enc iI iJ (hQ x):=by
 unfold hQ
 try simp only [aJ.dg]
 kernel_rfl
def eQ (x:bh):aJ bh:=hQ x
def gu:Fc:=⟨122,ph,fun vs rs=>dD iI iJ (eQ (oJ vs rs)) [aG.aw.ret]⟩
theorem iq:gu.Ok Try.prog:=Bg funcs mixed (aq.cons bI aq.nil) (aA.cons nf mv (aA.cons vx tl aA.nil)) (L:=9) (n:=9) (step:=eQ) (ev:=iI) (er:=iJ) (pa:=oJ) rfl (fun wv wr=>⟨by kernel_rfl,by kernel_rfl⟩) vy
structure ah where
 data:(Sl aZ)
 a:Int
 m:Int
 b:Int
 held:aB
instance:Inhabited ah:=⟨⟨default,default,default,default,default⟩⟩
def iC (x:ah):List KV:=[iU 58 gZ x.data,.int .i64 x.a,.int .i64 x.m,.int .i64 x.b,.fn (.func 77) [] [.ptr 0 0]]
def iD (x:ah):List (List KV):=[cI x.held]
def m6 (vs:List KV) (rs:List (List KV)):ah:=⟨iw hH (vs.getD 0 .ax),intOf (vs.getD 1 .ax),intOf (vs.getD 2 .ax),intOf (vs.getD 3 .ax),cJ (fun k=>(rs.getD 0 []).getD k .ax)⟩
def nC:aQ:=⟨[(0,⟨false,[.arr 58]⟩),(1,⟨false,[.k (.int .i64)]⟩),(2,⟨false,[.k (.int .i64)]⟩),(3,⟨false,[.k (.int .i64)]⟩),(4,⟨false,[.ref (.fn (.func 77) [] [.ptr 0 0])]⟩)],[(100004,[.k (.slice 45),.k (.slice 108),.k (.slice 139)],1)],[]⟩
structure bM where
 data:(Sl aZ)
 a:Int
 m:Int
 b:Int
 i:Int
 j:Int
 eK:aB
instance:Inhabited bM:=⟨⟨default,default,default,default,default,default,default⟩⟩
def jg (x:bM):List KV:=[iU 58 gZ x.data,.int .i64 x.a,.int .i64 x.m,.int .i64 x.b,.fn (.func 77) [] [.ptr 0 0],.int .i64 x.i,.int .i64 x.j]
def jh (x:bM):List (List KV):=[cI x.eK]
def pj (vs:List KV) (rs:List (List KV)):bM:=⟨iw hH (vs.getD 0 .ax),intOf (vs.getD 1 .ax),intOf (vs.getD 2 .ax),intOf (vs.getD 3 .ax),intOf (vs.getD 5 .ax),intOf (vs.getD 6 .ax),cJ (fun k=>(rs.getD 0 []).getD k .ax)⟩
def pK:aQ:=⟨[(0,⟨false,[.arr 58]⟩),(1,⟨false,[.k (.int .i64)]⟩),(2,⟨false,[.k (.int .i64)]⟩),(3,⟨false,[.k (.int .i64)]⟩),(4,⟨false,[.ref (.fn (.func 77) [] [.ptr 0 0])]⟩),(10,⟨false,[.k (.int .i64)]⟩),(11,⟨false,[.k (.int .i64)]⟩)],[(100004,[.k (.slice 45),.k (.slice 108),.k (.slice 139)],1)],[]⟩
def xL:=pB Try.prog (bp Try.prog [(35,cc)] [] (fun q=>Nat.beq q 58) false false [eL]) 9 9 123 172 (eX Try.prog 123 172) pK
def iK (x:bM):(Option Int):=(eA (x.eK.cX.items.get (Int.toNat (x.data.get (0+(Int.toNat (ak (Int.fdiv (mG (ak (x.i+x.j))) (2:Int)))))).item)).look.bin (x.eK.cX.items.get (Int.toNat (x.data.get (0+(Int.toNat x.a))).item)).look.bin)
def db (x:bM):aJ bM:=
 (cond (decide (x.i < x.j))
 (cond ((decide ((0:Int)≤(ak (Int.fdiv (mG (ak (x.i+x.j))) (2:Int)))))&&(decide ((ak (Int.fdiv (mG (ak (x.i+x.j))) (2:Int))) < ((x.data.n:Nat):Int))))
 (cond ((decide ((0:Int)≤x.a))&&(decide (x.a < ((x.data.n:Nat):Int))))
 (cond ((decide ((0:Int)≤(x.data.get (0+(Int.toNat (ak (Int.fdiv (mG (ak (x.i+x.j))) (2:Int)))))).item))&&(decide ((x.data.get (0+(Int.toNat (ak (Int.fdiv (mG (ak (x.i+x.j))) (2:Int)))))).item < ((x.eK.cX.items.n:Nat):Int))))
 (cond ((decide ((0:Int)≤(x.data.get (0+(Int.toNat x.a))).item))&&(decide ((x.data.get (0+(Int.toNat x.a))).item < ((x.eK.cX.items.n:Nat):Int))))
 (cond (iK x).isSome
 (cond (decide (((iK x).getD default) < (0:Int)))
 (cond (au x.data.n x.data.n)
 (.next (⟨x.data,x.a,x.m,x.b,(ak ((ak (Int.fdiv (mG (ak (x.i+x.j))) (2:Int)))+(1:Int))),x.j,x.eK⟩:bM))
 .fail)
 (cond (au x.data.n x.data.n)
 (.next (⟨x.data,x.a,x.m,x.b,x.i,(ak (Int.fdiv (mG (ak (x.i+x.j))) (2:Int))),x.eK⟩:bM))
 .fail))
 .fail)
 .fail)
 .fail)
 .fail)
 .fail)
 (cond (au x.data.n x.data.n)
 (.out (aG.aw.exit 0) x)
 .fail))
theorem wc (x:bM):xL (jg x) (jh x)=aJ.enc jg jh (db x):=by
 unfold db
 try simp only [aJ.dg]
 kernel_rfl
def cY:Lp:=⟨123,172,pK,fun vs rs=>dD jg jh (goN db (pj vs rs)) [aG.aw.exit 0],true⟩
theorem eR:cY.Ok Try.prog:=lk funcs mixed (aq.cons bI aq.nil) aA.nil (L:=9) (n:=9) (step:=db) (ev:=jg) (er:=jh) (pa:=pj) rfl (fun wv wr=>⟨by kernel_rfl,by kernel_rfl⟩) wc (BN:=(fN.cons fe fN.nil))
theorem ei:cz Try.prog cY.f cY.p=true:=by kernel_rfl
structure bN where
 data:(Sl aZ)
 a:Int
 m:Int
 b:Int
 i:Int
 j:Int
 eK:aB
instance:Inhabited bN:=⟨⟨default,default,default,default,default,default,default⟩⟩
def ji (x:bN):List KV:=[iU 58 gZ x.data,.int .i64 x.a,.int .i64 x.m,.int .i64 x.b,.fn (.func 77) [] [.ptr 0 0],.int .i64 x.i,.int .i64 x.j]
def jj (x:bN):List (List KV):=[cI x.eK]
def pk (vs:List KV) (rs:List (List KV)):bN:=⟨iw hH (vs.getD 0 .ax),intOf (vs.getD 1 .ax),intOf (vs.getD 2 .ax),intOf (vs.getD 3 .ax),intOf (vs.getD 5 .ax),intOf (vs.getD 6 .ax),cJ (fun k=>(rs.getD 0 []).getD k .ax)⟩
def pL:aQ:=⟨[(0,⟨false,[.arr 58]⟩),(1,⟨false,[.k (.int .i64)]⟩),(2,⟨false,[.k (.int .i64)]⟩),(3,⟨false,[.k (.int .i64)]⟩),(4,⟨false,[.ref (.fn (.func 77) [] [.ptr 0 0])]⟩),(14,⟨false,[.k (.int .i64)]⟩),(15,⟨false,[.k (.int .i64)]⟩)],[(100004,[.k (.slice 45),.k (.slice 108),.k (.slice 139)],1)],[]⟩
def xM:=pB Try.prog (bp Try.prog [(35,cc)] [cY] (fun q=>Nat.beq q 58) false false [eL]) 9 9 123 428 (eX Try.prog 123 428) pL
def iL (x:bN):(Option Int):=(eA (x.eK.cX.items.get (Int.toNat (x.data.get (0+(Int.toNat x.m))).item)).look.bin (x.eK.cX.items.get (Int.toNat (x.data.get (0+(Int.toNat (ak (Int.fdiv (mG (ak (x.i+x.j))) (2:Int)))))).item)).look.bin)
def dc (x:bN):aJ bN:=
 (cond (decide (x.i < x.j))
 (cond ((decide ((0:Int)≤x.m))&&(decide (x.m < ((x.data.n:Nat):Int))))
 (cond ((decide ((0:Int)≤(ak (Int.fdiv (mG (ak (x.i+x.j))) (2:Int)))))&&(decide ((ak (Int.fdiv (mG (ak (x.i+x.j))) (2:Int))) < ((x.data.n:Nat):Int))))
 (cond ((decide ((0:Int)≤(x.data.get (0+(Int.toNat x.m))).item))&&(decide ((x.data.get (0+(Int.toNat x.m))).item < ((x.eK.cX.items.n:Nat):Int))))
 (cond ((decide ((0:Int)≤(x.data.get (0+(Int.toNat (ak (Int.fdiv (mG (ak (x.i+x.j))) (2:Int)))))).item))&&(decide ((x.data.get (0+(Int.toNat (ak (Int.fdiv (mG (ak (x.i+x.j))) (2:Int)))))).item < ((x.eK.cX.items.n:Nat):Int))))
 (cond (iL x).isSome
 (cond (!(decide (((iL x).getD default) < (0:Int))))
 (cond (au x.data.n x.data.n)
 (.next (⟨x.data,x.a,x.m,x.b,(ak ((ak (Int.fdiv (mG (ak (x.i+x.j))) (2:Int)))+(1:Int))),x.j,x.eK⟩:bN))
 .fail)
 (cond (au x.data.n x.data.n)
 (.next (⟨x.data,x.a,x.m,x.b,x.i,(ak (Int.fdiv (mG (ak (x.i+x.j))) (2:Int))),x.eK⟩:bN))
 .fail))
 .fail)
 .fail)
 .fail)
 .fail)
 .fail)
 (cond (au x.data.n x.data.n)
 (.out (aG.aw.exit 4) x)
 .fail))
theorem wg (x:bN):xM (ji x) (jj x)=aJ.enc ji jj (dc x):=by
 unfold dc
 try simp only [aJ.dg]
 kernel_rfl
def dz:Lp:=⟨123,428,pL,fun vs rs=>dD ji jj (goN dc (pk vs rs)) [aG.aw.exit 4],true⟩
theorem gv:dz.Ok Try.prog:=lk funcs mixed (aq.cons bI aq.nil) (aA.cons eR ei aA.nil) (L:=9) (n:=9) (step:=dc) (ev:=ji) (er:=jj) (pa:=pk) rfl (fun wv wr=>⟨by kernel_rfl,by kernel_rfl⟩) wg (BN:=(fN.cons fe fN.nil))
theorem fE:cz Try.prog dz.f dz.p=true:=by kernel_rfl
structure cC where
 data:(Sl aZ)
 a:Int
 m:Int
 b:Int
 i:Int
 k:Int
 eK:aB
instance:Inhabited cC:=⟨⟨default,default,default,default,default,default,default⟩⟩
def jk (x:cC):List KV:=[iU 58 gZ x.data,.int .i64 x.a,.int .i64 x.m,.int .i64 x.b,.fn (.func 77) [] [.ptr 0 0],.int .i64 x.i,.int .i64 x.k]
def jl (x:cC):List (List KV):=[cI x.eK]
def pn (vs:List KV) (rs:List (List KV)):cC:=⟨iw hH (vs.getD 0 .ax),intOf (vs.getD 1 .ax),intOf (vs.getD 2 .ax),intOf (vs.getD 3 .ax),intOf (vs.getD 5 .ax),intOf (vs.getD 6 .ax),cJ (fun k=>(rs.getD 0 []).getD k .ax)⟩
def pM:aQ:=⟨[(0,⟨false,[.arr 58]⟩),(1,⟨false,[.k (.int .i64)]⟩),(2,⟨false,[.k (.int .i64)]⟩),(3,⟨false,[.k (.int .i64)]⟩),(4,⟨false,[.ref (.fn (.func 77) [] [.ptr 0 0])]⟩),(10,⟨false,[.k (.int .i64)]⟩),(13,⟨false,[.k (.int .i64)]⟩)],[(100004,[.k (.slice 45),.k (.slice 108),.k (.slice 139)],1)],[]⟩
def xN:=pB Try.prog (bp Try.prog [(35,cc)] [cY,dz] (fun q=>Nat.beq q 58) false false [eL]) 9 9 123 698 (eX Try.prog 123 698) pM
def de (x:cC):aJ cC:=
 (cond (decide (x.k < (ak (x.i - (1:Int)))))
 (cond ((decide ((0:Int)≤(ak (x.k+(1:Int)))))&&(decide ((ak (x.k+(1:Int))) < ((x.data.n:Nat):Int))))
 (cond ((decide ((0:Int)≤x.k))&&(decide (x.k < ((x.data.n:Nat):Int))))
 (cond ((decide ((0:Int)≤x.k))&&(decide (x.k < ((x.data.n:Nat):Int))))
 (cond ((decide ((0:Int)≤(ak (x.k+(1:Int)))))&&(decide ((ak (x.k+(1:Int))) < ((x.data.n:Nat):Int))))
 (cond (au x.data.n x.data.n)
 (.next (⟨((x.data.set (0+(Int.toNat x.k)) (x.data.get (0+(Int.toNat (ak (x.k+(1:Int))))))).set (0+(Int.toNat (ak (x.k+(1:Int))))) (x.data.get (0+(Int.toNat x.k)))),x.a,x.m,x.b,x.i,(ak (x.k+(1:Int))),x.eK⟩:cC))
 .fail)
 .fail)
 .fail)
 .fail)
 .fail)
 (cond (au x.data.n x.data.n)
 (.out (aG.aw.exit 2) x)
 .fail))
theorem wh (x:cC):xN (jk x) (jl x)=aJ.enc jk jl (de x):=by
 unfold de
 try simp only [aJ.dg,Mi,Mh]
 kernel_rfl
def ef:Lp:=⟨123,698,pM,fun vs rs=>dD jk jl (goN de (pn vs rs)) [aG.aw.exit 2],true⟩
theorem jm:ef.Ok Try.prog:=lk funcs mixed (aq.cons bI aq.nil) (aA.cons eR ei (aA.cons gv fE aA.nil)) (L:=9) (n:=9) (step:=de) (ev:=jk) (er:=jl) (pa:=pn) rfl (fun wv wr=>⟨by kernel_rfl,by kernel_rfl⟩) wh (BN:=(fN.cons fe fN.nil))
theorem hU:cz Try.prog ef.f ef.p=true:=by kernel_rfl
structure a7 where
 data:(Sl aZ)
 a:Int
 m:Int
 b:Int
 cl:Int
 n:Int
 start:Int
 r:Int
 p:Int
 eK:aB
instance:Inhabited a7:=⟨⟨default,default,default,default,default,default,default,default,default,default⟩⟩
def iM (x:a7):List KV:=[iU 58 gZ x.data,.int .i64 x.a,.int .i64 x.m,.int .i64 x.b,.fn (.func 77) [] [.ptr 0 0],.int .i64 x.cl,.int .i64 x.n,.int .i64 x.start,.int .i64 x.r,.int .i64 x.p]
def iP (x:a7):List (List KV):=[cI x.eK]
def oK (vs:List KV) (rs:List (List KV)):a7:=⟨iw hH (vs.getD 0 .ax),intOf (vs.getD 1 .ax),intOf (vs.getD 2 .ax),intOf (vs.getD 3 .ax),intOf (vs.getD 5 .ax),intOf (vs.getD 6 .ax),intOf (vs.getD 7 .ax),intOf (vs.getD 8 .ax),intOf (vs.getD 9 .ax),cJ (fun k=>(rs.getD 0 []).getD k .ax)⟩
def pq:aQ:=⟨[(0,⟨false,[.arr 58]⟩),(1,⟨false,[.k (.int .i64)]⟩),(2,⟨false,[.k (.int .i64)]⟩),(3,⟨false,[.k (.int .i64)]⟩),(4,⟨false,[.ref (.fn (.func 77) [] [.ptr 0 0])]⟩),(18,⟨false,[.k (.int .i64)]⟩),(19,⟨false,[.k (.int .i64)]⟩),(20,⟨false,[.k (.int .i64)]⟩),(21,⟨false,[.k (.int .i64)]⟩),(22,⟨false,[.k (.int .i64)]⟩)],[(100004,[.k (.slice 45),.k (.slice 108),.k (.slice 139)],1)],[]⟩
def wN:=pB Try.prog (bp Try.prog [(35,cc)] [cY,dz,ef] (fun q=>Nat.beq q 58) false false [eL]) 9 9 123 1020 (eX Try.prog 123 1020) pq
def ir (x:a7):(Option Int):=(eA (x.eK.cX.items.get (Int.toNat (x.data.get (0+(Int.toNat (ak (x.p - (ak (Int.fdiv (mG (ak (x.start+x.r))) (2:Int)))))))).item)).look.bin (x.eK.cX.items.get (Int.toNat (x.data.get (0+(Int.toNat (ak (Int.fdiv (mG (ak (x.start+x.r))) (2:Int)))))).item)).look.bin)
def ct (x:a7):aJ a7:=
 (cond (decide (x.start < x.r))
 (cond ((decide ((0:Int)≤(ak (x.p - (ak (Int.fdiv (mG (ak (x.start+x.r))) (2:Int)))))))&&(decide ((ak (x.p - (ak (Int.fdiv (mG (ak (x.start+x.r))) (2:Int))))) < ((x.data.n:Nat):Int))))
 (cond ((decide ((0:Int)≤(ak (Int.fdiv (mG (ak (x.start+x.r))) (2:Int)))))&&(decide ((ak (Int.fdiv (mG (ak (x.start+x.r))) (2:Int))) < ((x.data.n:Nat):Int))))
 (cond ((decide ((0:Int)≤(x.data.get (0+(Int.toNat (ak (x.p - (ak (Int.fdiv (mG (ak (x.start+x.r))) (2:Int)))))))).item))&&(decide ((x.data.get (0+(Int.toNat (ak (x.p - (ak (Int.fdiv (mG (ak (x.start+x.r))) (2:Int)))))))).item < ((x.eK.cX.items.n:Nat):Int))))
 (cond ((decide ((0:Int)≤(x.data.get (0+(Int.toNat (ak (Int.fdiv (mG (ak (x.start+x.r))) (2:Int)))))).item))&&(decide ((x.data.get (0+(Int.toNat (ak (Int.fdiv (mG (ak (x.start+x.r))) (2:Int)))))).item < ((x.eK.cX.items.n:Nat):Int))))
 (cond (ir x).isSome
 (cond (!(decide (((ir x).getD default) < (0:Int))))
 (cond (au x.data.n x.data.n)
 (.next (⟨x.data,x.a,x.m,x.b,x.cl,x.n,(ak ((ak (Int.fdiv (mG (ak (x.start+x.r))) (2:Int)))+(1:Int))),x.r,x.p,x.eK⟩:a7))
 .fail)
 (cond (au x.data.n x.data.n)
 (.next (⟨x.data,x.a,x.m,x.b,x.cl,x.n,x.start,(ak (Int.fdiv (mG (ak (x.start+x.r))) (2:Int))),x.p,x.eK⟩:a7))
 .fail))
 .fail)
 .fail)
 .fail)
 .fail)
 .fail)
 (cond (au x.data.n x.data.n)
 (.out (aG.aw.exit 8) x)
 .fail))
theorem vz (x:a7):wN (iM x) (iP x)=aJ.enc iM iP (ct x):=by
 unfold ct
 try simp only [aJ.dg]
 kernel_rfl
def eS:Lp:=⟨123,1020,pq,fun vs rs=>dD iM iP (goN ct (oK vs rs)) [aG.aw.exit 8],true⟩
theorem kY:eS.Ok Try.prog:=lk funcs mixed (aq.cons bI aq.nil) (aA.cons eR ei (aA.cons gv fE (aA.cons jm hU aA.nil))) (L:=9) (n:=9) (step:=ct) (ev:=iM) (er:=iP) (pa:=oK) rfl (fun wv wr=>⟨by kernel_rfl,by kernel_rfl⟩) vz (BN:=(fN.cons fe fN.nil))
theorem jZ:cz Try.prog eS.f eS.p=true:=by kernel_rfl
structure cm where
 data:(Sl aZ)
 a:Int
 m:Int
 b:Int
 i:Int
 k:Int
 eK:aB
instance:Inhabited cm:=⟨⟨default,default,default,default,default,default,default⟩⟩
def iQ (x:cm):List KV:=[iU 58 gZ x.data,.int .i64 x.a,.int .i64 x.m,.int .i64 x.b,.fn (.func 77) [] [.ptr 0 0],.int .i64 x.i,.int .i64 x.k]
def iR (x:cm):List (List KV):=[cI x.eK]
def oL (vs:List KV) (rs:List (List KV)):cm:=⟨iw hH (vs.getD 0 .ax),intOf (vs.getD 1 .ax),intOf (vs.getD 2 .ax),intOf (vs.getD 3 .ax),intOf (vs.getD 5 .ax),intOf (vs.getD 6 .ax),cJ (fun k=>(rs.getD 0 []).getD k .ax)⟩
def pr:aQ:=⟨[(0,⟨false,[.arr 58]⟩),(1,⟨false,[.k (.int .i64)]⟩),(2,⟨false,[.k (.int .i64)]⟩),(3,⟨false,[.k (.int .i64)]⟩),(4,⟨false,[.ref (.fn (.func 77) [] [.ptr 0 0])]⟩),(14,⟨false,[.k (.int .i64)]⟩),(17,⟨false,[.k (.int .i64)]⟩)],[(100004,[.k (.slice 45),.k (.slice 108),.k (.slice 139)],1)],[]⟩
def wO:=pB Try.prog (bp Try.prog [(35,cc)] [cY,dz,ef,eS] (fun q=>Nat.beq q 58) false false [eL]) 9 9 123 1722 (eX Try.prog 123 1722) pr
def cU (x:cm):aJ cm:=
 (cond (decide (x.k > x.i))
 (cond ((decide ((0:Int)≤(ak (x.k - (1:Int)))))&&(decide ((ak (x.k - (1:Int))) < ((x.data.n:Nat):Int))))
 (cond ((decide ((0:Int)≤x.k))&&(decide (x.k < ((x.data.n:Nat):Int))))
 (cond ((decide ((0:Int)≤x.k))&&(decide (x.k < ((x.data.n:Nat):Int))))
 (cond ((decide ((0:Int)≤(ak (x.k - (1:Int)))))&&(decide ((ak (x.k - (1:Int))) < ((x.data.n:Nat):Int))))
 (cond (au x.data.n x.data.n)
 (.next (⟨((x.data.set (0+(Int.toNat x.k)) (x.data.get (0+(Int.toNat (ak (x.k - (1:Int))))))).set (0+(Int.toNat (ak (x.k - (1:Int))))) (x.data.get (0+(Int.toNat x.k)))),x.a,x.m,x.b,x.i,(ak (x.k - (1:Int))),x.eK⟩:cm))
 .fail)
 .fail)
 .fail)
 .fail)
 .fail)
 (cond (au x.data.n x.data.n)
 (.out (aG.aw.exit 6) x)
 .fail))
theorem vA (x:cm):wO (iQ x) (iR x)=aJ.enc iQ iR (cU x):=by
 unfold cU
 try simp only [aJ.dg,Mi,Mh]
 kernel_rfl
def gw:Lp:=⟨123,1722,pr,fun vs rs=>dD iQ iR (goN cU (oL vs rs)) [aG.aw.exit 6],true⟩
theorem oM:gw.Ok Try.prog:=lk funcs mixed (aq.cons bI aq.nil) (aA.cons eR ei (aA.cons gv fE (aA.cons jm hU (aA.cons kY jZ aA.nil)))) (L:=9) (n:=9) (step:=cU) (ev:=iQ) (er:=iR) (pa:=oL) rfl (fun wv wr=>⟨by kernel_rfl,by kernel_rfl⟩) vA (BN:=(fN.cons fe fN.nil))
theorem nD:cz Try.prog gw.f gw.p=true:=by kernel_rfl
def Ao (rc:ah→aJ ah):=EX Try.prog (bp Try.prog [(35,cc)] [cY,dz,ef,eS,gw] (fun q=>Nat.beq q 58) false false ((⟨123,nC,fun vs rs=>dD iC iD (rc (m6 vs rs)) [aG.aw.ret]⟩:Fc)::[eL])) 9 9 123 nC
def cu (rc:ah→aJ ah) (x:ah):(aJ bM):=(goN db (⟨x.data,x.a,x.m,x.b,x.m,x.b,x.held⟩:bM))
def cQ (rc:ah→aJ ah) (x:ah):(aJ cC):=(goN de (⟨(cu rc x).st.data,(cu rc x).st.a,(cu rc x).st.m,(cu rc x).st.b,(cu rc x).st.i,(cu rc x).st.a,(cu rc x).st.eK⟩:cC))
def cv (rc:ah→aJ ah) (x:ah):(aJ bN):=(goN dc (⟨x.data,x.a,x.m,x.b,x.a,x.m,x.held⟩:bN))
def cR (rc:ah→aJ ah) (x:ah):(aJ cm):=(goN cU (⟨(cv rc x).st.data,(cv rc x).st.a,(cv rc x).st.m,(cv rc x).st.b,(cv rc x).st.i,(cv rc x).st.m,(cv rc x).st.eK⟩:cm))
def ae (rc:ah→aJ ah) (x:ah):(aJ a7):=(goN ct (⟨x.data,x.a,x.m,x.b,(ak (Int.fdiv (mG (ak (x.a+x.b))) (2:Int))),(ak ((ak (Int.fdiv (mG (ak (x.a+x.b))) (2:Int)))+x.m)),(ak ((ak ((ak (Int.fdiv (mG (ak (x.a+x.b))) (2:Int)))+x.m)) - x.b)),(ak (Int.fdiv (mG (ak (x.a+x.b))) (2:Int))),(ak ((ak ((ak (Int.fdiv (mG (ak (x.a+x.b))) (2:Int)))+x.m)) - (1:Int))),x.held⟩:a7))
def aV (rc:ah→aJ ah) (x:ah):(aJ bD):=(dZ (⟨(ae rc x).st.data,(ae rc x).st.start,(ae rc x).st.m,(ak ((ae rc x).st.n - (ae rc x).st.start)),(ae rc x).st.eK⟩:bD))
def cS (rc:ah→aJ ah) (x:ah):(aJ ah):=(rc (⟨(aV rc x).st.data,(ae rc x).st.a,(ae rc x).st.start,(ae rc x).st.cl,(aV rc x).st.held⟩:ah))
def jS (rc:ah→aJ ah) (x:ah):(aJ ah):=(rc (⟨(cS rc x).st.data,(ae rc x).st.cl,(ak ((ae rc x).st.n - (ae rc x).st.start)),(ae rc x).st.b,(cS rc x).st.held⟩:ah))
def dN (rc:ah→aJ ah) (x:ah):(aJ ah):=(rc (⟨(aV rc x).st.data,(ae rc x).st.cl,(ak ((ae rc x).st.n - (ae rc x).st.start)),(ae rc x).st.b,(aV rc x).st.held⟩:ah))
def ba (rc:ah→aJ ah) (x:ah):(aJ ah):=(rc (⟨(ae rc x).st.data,(ae rc x).st.a,(ae rc x).st.start,(ae rc x).st.cl,(ae rc x).st.eK⟩:ah))
def dE (rc:ah→aJ ah) (x:ah):(aJ ah):=(rc (⟨(ba rc x).st.data,(ae rc x).st.cl,(ak ((ae rc x).st.n - (ae rc x).st.start)),(ae rc x).st.b,(ba rc x).st.held⟩:ah))
def bj (rc:ah→aJ ah) (x:ah):(aJ ah):=(rc (⟨(ae rc x).st.data,(ae rc x).st.cl,(ak ((ae rc x).st.n - (ae rc x).st.start)),(ae rc x).st.b,(ae rc x).st.eK⟩:ah))
def aa (rc:ah→aJ ah) (x:ah):(aJ a7):=(goN ct (⟨x.data,x.a,x.m,x.b,(ak (Int.fdiv (mG (ak (x.a+x.b))) (2:Int))),(ak ((ak (Int.fdiv (mG (ak (x.a+x.b))) (2:Int)))+x.m)),x.a,x.m,(ak ((ak ((ak (Int.fdiv (mG (ak (x.a+x.b))) (2:Int)))+x.m)) - (1:Int))),x.held⟩:a7))
def aO (rc:ah→aJ ah) (x:ah):(aJ bD):=(dZ (⟨(aa rc x).st.data,(aa rc x).st.start,(aa rc x).st.m,(ak ((aa rc x).st.n - (aa rc x).st.start)),(aa rc x).st.eK⟩:bD))
def cL (rc:ah→aJ ah) (x:ah):(aJ ah):=(rc (⟨(aO rc x).st.data,(aa rc x).st.a,(aa rc x).st.start,(aa rc x).st.cl,(aO rc x).st.held⟩:ah))
def jH (rc:ah→aJ ah) (x:ah):(aJ ah):=(rc (⟨(cL rc x).st.data,(aa rc x).st.cl,(ak ((aa rc x).st.n - (aa rc x).st.start)),(aa rc x).st.b,(cL rc x).st.held⟩:ah))
def dF (rc:ah→aJ ah) (x:ah):(aJ ah):=(rc (⟨(aO rc x).st.data,(aa rc x).st.cl,(ak ((aa rc x).st.n - (aa rc x).st.start)),(aa rc x).st.b,(aO rc x).st.held⟩:ah))
def a8 (rc:ah→aJ ah) (x:ah):(aJ ah):=(rc (⟨(aa rc x).st.data,(aa rc x).st.a,(aa rc x).st.start,(aa rc x).st.cl,(aa rc x).st.eK⟩:ah))
def dG (rc:ah→aJ ah) (x:ah):(aJ ah):=(rc (⟨(a8 rc x).st.data,(aa rc x).st.cl,(ak ((aa rc x).st.n - (aa rc x).st.start)),(aa rc x).st.b,(a8 rc x).st.held⟩:ah))
def bk (rc:ah→aJ ah) (x:ah):(aJ ah):=(rc (⟨(aa rc x).st.data,(aa rc x).st.cl,(ak ((aa rc x).st.n - (aa rc x).st.start)),(aa rc x).st.b,(aa rc x).st.eK⟩:ah))
def dH (rc:ah→aJ ah) (x:ah):aJ ah:=
 (cond ((ak (x.m - x.a))==(1:Int))
 (cond (au x.data.n x.data.n)
 (cond ((cu rc x).by (aG.aw.exit 0))
 (cond (au (cu rc x).st.data.n (cu rc x).st.data.n)
 (cond ((cQ rc x).by (aG.aw.exit 2))
 (cond (au (cQ rc x).st.data.n (cQ rc x).st.data.n)
 (.out aG.aw.ret (⟨(cQ rc x).st.data,(cQ rc x).st.a,(cQ rc x).st.m,(cQ rc x).st.b,(cQ rc x).st.eK⟩:ah))
 .fail)
 .fail)
 .fail)
 .fail)
 .fail)
 (cond ((ak (x.b - x.m))==(1:Int))
 (cond (au x.data.n x.data.n)
 (cond ((cv rc x).by (aG.aw.exit 4))
 (cond (au (cv rc x).st.data.n (cv rc x).st.data.n)
 (cond ((cR rc x).by (aG.aw.exit 6))
 (cond (au (cR rc x).st.data.n (cR rc x).st.data.n)
 (.out aG.aw.ret (⟨(cR rc x).st.data,(cR rc x).st.a,(cR rc x).st.m,(cR rc x).st.b,(cR rc x).st.eK⟩:ah))
 .fail)
 .fail)
 .fail)
 .fail)
 .fail)
 (cond (decide (x.m > (ak (Int.fdiv (mG (ak (x.a+x.b))) (2:Int)))))
 (cond (au x.data.n x.data.n)
 (cond ((ae rc x).by (aG.aw.exit 8))
 (cond (decide ((ae rc x).st.start < (ae rc x).st.m))
 (cond (decide ((ae rc x).st.m < (ak ((ae rc x).st.n - (ae rc x).st.start))))
 (cond (au (ae rc x).st.data.n (ae rc x).st.data.n)
 (cond ((aV rc x).by aG.aw.ret)
 (cond (decide ((ae rc x).st.a < (ae rc x).st.start))
 (cond (decide ((ae rc x).st.start < (ae rc x).st.cl))
 (cond (au (aV rc x).st.data.n (ae rc x).st.data.n)
 (cond ((cS rc x).by aG.aw.ret)
 (cond (decide ((ae rc x).st.cl < (ak ((ae rc x).st.n - (ae rc x).st.start))))
 (cond (decide ((ak ((ae rc x).st.n - (ae rc x).st.start)) < (ae rc x).st.b))
 (cond (au (cS rc x).st.data.n (ae rc x).st.data.n)
 (cond ((jS rc x).by aG.aw.ret)
 (cond (au (jS rc x).st.data.n (ae rc x).st.data.n)
 (.out aG.aw.ret (⟨(jS rc x).st.data,(ae rc x).st.a,(ae rc x).st.m,(ae rc x).st.b,(jS rc x).st.held⟩:ah))
 .fail)
 .fail)
 .fail)
 (cond (au (cS rc x).st.data.n (ae rc x).st.data.n)
 (.out aG.aw.ret (⟨(cS rc x).st.data,(ae rc x).st.a,(ae rc x).st.m,(ae rc x).st.b,(cS rc x).st.held⟩:ah))
 .fail))
 (cond (au (cS rc x).st.data.n (ae rc x).st.data.n)
 (.out aG.aw.ret (⟨(cS rc x).st.data,(ae rc x).st.a,(ae rc x).st.m,(ae rc x).st.b,(cS rc x).st.held⟩:ah))
 .fail))
 .fail)
 .fail)
 (cond (decide ((ae rc x).st.cl < (ak ((ae rc x).st.n - (ae rc x).st.start))))
 (cond (decide ((ak ((ae rc x).st.n - (ae rc x).st.start)) < (ae rc x).st.b))
 (cond (au (aV rc x).st.data.n (ae rc x).st.data.n)
 (cond ((dN rc x).by aG.aw.ret)
 (cond (au (dN rc x).st.data.n (ae rc x).st.data.n)
 (.out aG.aw.ret (⟨(dN rc x).st.data,(ae rc x).st.a,(ae rc x).st.m,(ae rc x).st.b,(dN rc x).st.held⟩:ah))
 .fail)
 .fail)
 .fail)
 (cond (au (aV rc x).st.data.n (ae rc x).st.data.n)
 (.out aG.aw.ret (⟨(aV rc x).st.data,(ae rc x).st.a,(ae rc x).st.m,(ae rc x).st.b,(aV rc x).st.held⟩:ah))
 .fail))
 (cond (au (aV rc x).st.data.n (ae rc x).st.data.n)
 (.out aG.aw.ret (⟨(aV rc x).st.data,(ae rc x).st.a,(ae rc x).st.m,(ae rc x).st.b,(aV rc x).st.held⟩:ah))
 .fail)))
 (cond (decide ((ae rc x).st.cl < (ak ((ae rc x).st.n - (ae rc x).st.start))))
 (cond (decide ((ak ((ae rc x).st.n - (ae rc x).st.start)) < (ae rc x).st.b))
 (cond (au (aV rc x).st.data.n (ae rc x).st.data.n)
 (cond ((dN rc x).by aG.aw.ret)
 (cond (au (dN rc x).st.data.n (ae rc x).st.data.n)
 (.out aG.aw.ret (⟨(dN rc x).st.data,(ae rc x).st.a,(ae rc x).st.m,(ae rc x).st.b,(dN rc x).st.held⟩:ah))
 .fail)
 .fail)
 .fail)
 (cond (au (aV rc x).st.data.n (ae rc x).st.data.n)
 (.out aG.aw.ret (⟨(aV rc x).st.data,(ae rc x).st.a,(ae rc x).st.m,(ae rc x).st.b,(aV rc x).st.held⟩:ah))
 .fail))
 (cond (au (aV rc x).st.data.n (ae rc x).st.data.n)
 (.out aG.aw.ret (⟨(aV rc x).st.data,(ae rc x).st.a,(ae rc x).st.m,(ae rc x).st.b,(aV rc x).st.held⟩:ah))
 .fail)))
 .fail)
 .fail)
 (cond (decide ((ae rc x).st.a < (ae rc x).st.start))
 (cond (decide ((ae rc x).st.start < (ae rc x).st.cl))
 (cond (au (ae rc x).st.data.n (ae rc x).st.data.n)
 (cond ((ba rc x).by aG.aw.ret)
 (cond (decide ((ae rc x).st.cl < (ak ((ae rc x).st.n - (ae rc x).st.start))))
 (cond (decide ((ak ((ae rc x).st.n - (ae rc x).st.start)) < (ae rc x).st.b))
 (cond (au (ba rc x).st.data.n (ae rc x).st.data.n)
 (cond ((dE rc x).by aG.aw.ret)
 (cond (au (dE rc x).st.data.n (ae rc x).st.data.n)
 (.out aG.aw.ret (⟨(dE rc x).st.data,(ae rc x).st.a,(ae rc x).st.m,(ae rc x).st.b,(dE rc x).st.held⟩:ah))
 .fail)
 .fail)
 .fail)
 (cond (au (ba rc x).st.data.n (ae rc x).st.data.n)
 (.out aG.aw.ret (⟨(ba rc x).st.data,(ae rc x).st.a,(ae rc x).st.m,(ae rc x).st.b,(ba rc x).st.held⟩:ah))
 .fail))
 (cond (au (ba rc x).st.data.n (ae rc x).st.data.n)
 (.out aG.aw.ret (⟨(ba rc x).st.data,(ae rc x).st.a,(ae rc x).st.m,(ae rc x).st.b,(ba rc x).st.held⟩:ah))
 .fail))
 .fail)
 .fail)
 (cond (decide ((ae rc x).st.cl < (ak ((ae rc x).st.n - (ae rc x).st.start))))
 (cond (decide ((ak ((ae rc x).st.n - (ae rc x).st.start)) < (ae rc x).st.b))
 (cond (au (ae rc x).st.data.n (ae rc x).st.data.n)
 (cond ((bj rc x).by aG.aw.ret)
 (cond (au (bj rc x).st.data.n (ae rc x).st.data.n)
 (.out aG.aw.ret (⟨(bj rc x).st.data,(ae rc x).st.a,(ae rc x).st.m,(ae rc x).st.b,(bj rc x).st.held⟩:ah))
 .fail)
 .fail)
 .fail)
 (cond (au (ae rc x).st.data.n (ae rc x).st.data.n)
 (.out aG.aw.ret (⟨(ae rc x).st.data,(ae rc x).st.a,(ae rc x).st.m,(ae rc x).st.b,(ae rc x).st.eK⟩:ah))
 .fail))
 (cond (au (ae rc x).st.data.n (ae rc x).st.data.n)
 (.out aG.aw.ret (⟨(ae rc x).st.data,(ae rc x).st.a,(ae rc x).st.m,(ae rc x).st.b,(ae rc x).st.eK⟩:ah))
 .fail)))
 (cond (decide ((ae rc x).st.cl < (ak ((ae rc x).st.n - (ae rc x).st.start))))
 (cond (decide ((ak ((ae rc x).st.n - (ae rc x).st.start)) < (ae rc x).st.b))
 (cond (au (ae rc x).st.data.n (ae rc x).st.data.n)
 (cond ((bj rc x).by aG.aw.ret)
 (cond (au (bj rc x).st.data.n (ae rc x).st.data.n)
 (.out aG.aw.ret (⟨(bj rc x).st.data,(ae rc x).st.a,(ae rc x).st.m,(ae rc x).st.b,(bj rc x).st.held⟩:ah))
 .fail)
 .fail)
 .fail)
 (cond (au (ae rc x).st.data.n (ae rc x).st.data.n)
 (.out aG.aw.ret (⟨(ae rc x).st.data,(ae rc x).st.a,(ae rc x).st.m,(ae rc x).st.b,(ae rc x).st.eK⟩:ah))
 .fail))
 (cond (au (ae rc x).st.data.n (ae rc x).st.data.n)
 (.out aG.aw.ret (⟨(ae rc x).st.data,(ae rc x).st.a,(ae rc x).st.m,(ae rc x).st.b,(ae rc x).st.eK⟩:ah))
 .fail))))
 (cond (decide ((ae rc x).st.a < (ae rc x).st.start))
 (cond (decide ((ae rc x).st.start < (ae rc x).st.cl))
 (cond (au (ae rc x).st.data.n (ae rc x).st.data.n)
 (cond ((ba rc x).by aG.aw.ret)
 (cond (decide ((ae rc x).st.cl < (ak ((ae rc x).st.n - (ae rc x).st.start))))
 (cond (decide ((ak ((ae rc x).st.n - (ae rc x).st.start)) < (ae rc x).st.b))
 (cond (au (ba rc x).st.data.n (ae rc x).st.data.n)
 (cond ((dE rc x).by aG.aw.ret)
 (cond (au (dE rc x).st.data.n (ae rc x).st.data.n)
 (.out aG.aw.ret (⟨(dE rc x).st.data,(ae rc x).st.a,(ae rc x).st.m,(ae rc x).st.b,(dE rc x).st.held⟩:ah))
 .fail)
 .fail)
 .fail)
 (cond (au (ba rc x).st.data.n (ae rc x).st.data.n)
 (.out aG.aw.ret (⟨(ba rc x).st.data,(ae rc x).st.a,(ae rc x).st.m,(ae rc x).st.b,(ba rc x).st.held⟩:ah))
 .fail))
 (cond (au (ba rc x).st.data.n (ae rc x).st.data.n)
 (.out aG.aw.ret (⟨(ba rc x).st.data,(ae rc x).st.a,(ae rc x).st.m,(ae rc x).st.b,(ba rc x).st.held⟩:ah))
 .fail))
 .fail)
 .fail)
 (cond (decide ((ae rc x).st.cl < (ak ((ae rc x).st.n - (ae rc x).st.start))))
 (cond (decide ((ak ((ae rc x).st.n - (ae rc x).st.start)) < (ae rc x).st.b))
 (cond (au (ae rc x).st.data.n (ae rc x).st.data.n)
 (cond ((bj rc x).by aG.aw.ret)
 (cond (au (bj rc x).st.data.n (ae rc x).st.data.n)
 (.out aG.aw.ret (⟨(bj rc x).st.data,(ae rc x).st.a,(ae rc x).st.m,(ae rc x).st.b,(bj rc x).st.held⟩:ah))
 .fail)
 .fail)
 .fail)
 (cond (au (ae rc x).st.data.n (ae rc x).st.data.n)
 (.out aG.aw.ret (⟨(ae rc x).st.data,(ae rc x).st.a,(ae rc x).st.m,(ae rc x).st.b,(ae rc x).st.eK⟩:ah))
 .fail))
 (cond (au (ae rc x).st.data.n (ae rc x).st.data.n)
 (.out aG.aw.ret (⟨(ae rc x).st.data,(ae rc x).st.a,(ae rc x).st.m,(ae rc x).st.b,(ae rc x).st.eK⟩:ah))
 .fail)))
 (cond (decide ((ae rc x).st.cl < (ak ((ae rc x).st.n - (ae rc x).st.start))))
 (cond (decide ((ak ((ae rc x).st.n - (ae rc x).st.start)) < (ae rc x).st.b))
 (cond (au (ae rc x).st.data.n (ae rc x).st.data.n)
 (cond ((bj rc x).by aG.aw.ret)
 (cond (au (bj rc x).st.data.n (ae rc x).st.data.n)
 (.out aG.aw.ret (⟨(bj rc x).st.data,(ae rc x).st.a,(ae rc x).st.m,(ae rc x).st.b,(bj rc x).st.held⟩:ah))
 .fail)
 .fail)
 .fail)
 (cond (au (ae rc x).st.data.n (ae rc x).st.data.n)
 (.out aG.aw.ret (⟨(ae rc x).st.data,(ae rc x).st.a,(ae rc x).st.m,(ae rc x).st.b,(ae rc x).st.eK⟩:ah))
 .fail))
 (cond (au (ae rc x).st.data.n (ae rc x).st.data.n)
 (.out aG.aw.ret (⟨(ae rc x).st.data,(ae rc x).st.a,(ae rc x).st.m,(ae rc x).st.b,(ae rc x).st.eK⟩:ah))
 .fail))))
 .fail)
 .fail)
 (cond (au x.data.n x.data.n)
 (cond ((aa rc x).by (aG.aw.exit 8))
 (cond (decide ((aa rc x).st.start < (aa rc x).st.m))
 (cond (decide ((aa rc x).st.m < (ak ((aa rc x).st.n - (aa rc x).st.start))))
 (cond (au (aa rc x).st.data.n (aa rc x).st.data.n)
 (cond ((aO rc x).by aG.aw.ret)
 (cond (decide ((aa rc x).st.a < (aa rc x).st.start))
 (cond (decide ((aa rc x).st.start < (aa rc x).st.cl))
 (cond (au (aO rc x).st.data.n (aa rc x).st.data.n)
 (cond ((cL rc x).by aG.aw.ret)
 (cond (decide ((aa rc x).st.cl < (ak ((aa rc x).st.n - (aa rc x).st.start))))
 (cond (decide ((ak ((aa rc x).st.n - (aa rc x).st.start)) < (aa rc x).st.b))
 (cond (au (cL rc x).st.data.n (aa rc x).st.data.n)
 (cond ((jH rc x).by aG.aw.ret)
 (cond (au (jH rc x).st.data.n (aa rc x).st.data.n)
 (.out aG.aw.ret (⟨(jH rc x).st.data,(aa rc x).st.a,(aa rc x).st.m,(aa rc x).st.b,(jH rc x).st.held⟩:ah))
 .fail)
 .fail)
 .fail)
 (cond (au (cL rc x).st.data.n (aa rc x).st.data.n)
 (.out aG.aw.ret (⟨(cL rc x).st.data,(aa rc x).st.a,(aa rc x).st.m,(aa rc x).st.b,(cL rc x).st.held⟩:ah))
 .fail))
 (cond (au (cL rc x).st.data.n (aa rc x).st.data.n)
 (.out aG.aw.ret (⟨(cL rc x).st.data,(aa rc x).st.a,(aa rc x).st.m,(aa rc x).st.b,(cL rc x).st.held⟩:ah))
 .fail))
 .fail)
 .fail)
 (cond (decide ((aa rc x).st.cl < (ak ((aa rc x).st.n - (aa rc x).st.start))))
 (cond (decide ((ak ((aa rc x).st.n - (aa rc x).st.start)) < (aa rc x).st.b))
 (cond (au (aO rc x).st.data.n (aa rc x).st.data.n)
 (cond ((dF rc x).by aG.aw.ret)
 (cond (au (dF rc x).st.data.n (aa rc x).st.data.n)
 (.out aG.aw.ret (⟨(dF rc x).st.data,(aa rc x).st.a,(aa rc x).st.m,(aa rc x).st.b,(dF rc x).st.held⟩:ah))
 .fail)
 .fail)
 .fail)
 (cond (au (aO rc x).st.data.n (aa rc x).st.data.n)
 (.out aG.aw.ret (⟨(aO rc x).st.data,(aa rc x).st.a,(aa rc x).st.m,(aa rc x).st.b,(aO rc x).st.held⟩:ah))
 .fail))
 (cond (au (aO rc x).st.data.n (aa rc x).st.data.n)
 (.out aG.aw.ret (⟨(aO rc x).st.data,(aa rc x).st.a,(aa rc x).st.m,(aa rc x).st.b,(aO rc x).st.held⟩:ah))
 .fail)))
 (cond (decide ((aa rc x).st.cl < (ak ((aa rc x).st.n - (aa rc x).st.start))))
 (cond (decide ((ak ((aa rc x).st.n - (aa rc x).st.start)) < (aa rc x).st.b))
 (cond (au (aO rc x).st.data.n (aa rc x).st.data.n)
 (cond ((dF rc x).by aG.aw.ret)
 (cond (au (dF rc x).st.data.n (aa rc x).st.data.n)
 (.out aG.aw.ret (⟨(dF rc x).st.data,(aa rc x).st.a,(aa rc x).st.m,(aa rc x).st.b,(dF rc x).st.held⟩:ah))
 .fail)
 .fail)
 .fail)
 (cond (au (aO rc x).st.data.n (aa rc x).st.data.n)
 (.out aG.aw.ret (⟨(aO rc x).st.data,(aa rc x).st.a,(aa rc x).st.m,(aa rc x).st.b,(aO rc x).st.held⟩:ah))
 .fail))
 (cond (au (aO rc x).st.data.n (aa rc x).st.data.n)
 (.out aG.aw.ret (⟨(aO rc x).st.data,(aa rc x).st.a,(aa rc x).st.m,(aa rc x).st.b,(aO rc x).st.held⟩:ah))
 .fail)))
 .fail)
 .fail)
 (cond (decide ((aa rc x).st.a < (aa rc x).st.start))
 (cond (decide ((aa rc x).st.start < (aa rc x).st.cl))
 (cond (au (aa rc x).st.data.n (aa rc x).st.data.n)
 (cond ((a8 rc x).by aG.aw.ret)
 (cond (decide ((aa rc x).st.cl < (ak ((aa rc x).st.n - (aa rc x).st.start))))
 (cond (decide ((ak ((aa rc x).st.n - (aa rc x).st.start)) < (aa rc x).st.b))
 (cond (au (a8 rc x).st.data.n (aa rc x).st.data.n)
 (cond ((dG rc x).by aG.aw.ret)
 (cond (au (dG rc x).st.data.n (aa rc x).st.data.n)
 (.out aG.aw.ret (⟨(dG rc x).st.data,(aa rc x).st.a,(aa rc x).st.m,(aa rc x).st.b,(dG rc x).st.held⟩:ah))
 .fail)
 .fail)
 .fail)
 (cond (au (a8 rc x).st.data.n (aa rc x).st.data.n)
 (.out aG.aw.ret (⟨(a8 rc x).st.data,(aa rc x).st.a,(aa rc x).st.m,(aa rc x).st.b,(a8 rc x).st.held⟩:ah))
 .fail))
 (cond (au (a8 rc x).st.data.n (aa rc x).st.data.n)
 (.out aG.aw.ret (⟨(a8 rc x).st.data,(aa rc x).st.a,(aa rc x).st.m,(aa rc x).st.b,(a8 rc x).st.held⟩:ah))
 .fail))
 .fail)
 .fail)
 (cond (decide ((aa rc x).st.cl < (ak ((aa rc x).st.n - (aa rc x).st.start))))
 (cond (decide ((ak ((aa rc x).st.n - (aa rc x).st.start)) < (aa rc x).st.b))
 (cond (au (aa rc x).st.data.n (aa rc x).st.data.n)
 (cond ((bk rc x).by aG.aw.ret)
 (cond (au (bk rc x).st.data.n (aa rc x).st.data.n)
 (.out aG.aw.ret (⟨(bk rc x).st.data,(aa rc x).st.a,(aa rc x).st.m,(aa rc x).st.b,(bk rc x).st.held⟩:ah))
 .fail)
 .fail)
 .fail)
 (cond (au (aa rc x).st.data.n (aa rc x).st.data.n)
 (.out aG.aw.ret (⟨(aa rc x).st.data,(aa rc x).st.a,(aa rc x).st.m,(aa rc x).st.b,(aa rc x).st.eK⟩:ah))
 .fail))
 (cond (au (aa rc x).st.data.n (aa rc x).st.data.n)
 (.out aG.aw.ret (⟨(aa rc x).st.data,(aa rc x).st.a,(aa rc x).st.m,(aa rc x).st.b,(aa rc x).st.eK⟩:ah))
 .fail)))
 (cond (decide ((aa rc x).st.cl < (ak ((aa rc x).st.n - (aa rc x).st.start))))
 (cond (decide ((ak ((aa rc x).st.n - (aa rc x).st.start)) < (aa rc x).st.b))
 (cond (au (aa rc x).st.data.n (aa rc x).st.data.n)
 (cond ((bk rc x).by aG.aw.ret)
 (cond (au (bk rc x).st.data.n (aa rc x).st.data.n)
 (.out aG.aw.ret (⟨(bk rc x).st.data,(aa rc x).st.a,(aa rc x).st.m,(aa rc x).st.b,(bk rc x).st.held⟩:ah))
 .fail)
 .fail)
 .fail)
 (cond (au (aa rc x).st.data.n (aa rc x).st.data.n)
 (.out aG.aw.ret (⟨(aa rc x).st.data,(aa rc x).st.a,(aa rc x).st.m,(aa rc x).st.b,(aa rc x).st.eK⟩:ah))
 .fail))
 (cond (au (aa rc x).st.data.n (aa rc x).st.data.n)
 (.out aG.aw.ret (⟨(aa rc x).st.data,(aa rc x).st.a,(aa rc x).st.m,(aa rc x).st.b,(aa rc x).st.eK⟩:ah))
 .fail))))
 (cond (decide ((aa rc x).st.a < (aa rc x).st.start))
 (cond (decide ((aa rc x).st.start < (aa rc x).st.cl))
 (cond (au (aa rc x).st.data.n (aa rc x).st.data.n)
 (cond ((a8 rc x).by aG.aw.ret)
 (cond (decide ((aa rc x).st.cl < (ak ((aa rc x).st.n - (aa rc x).st.start))))
 (cond (decide ((ak ((aa rc x).st.n - (aa rc x).st.start)) < (aa rc x).st.b))
 (cond (au (a8 rc x).st.data.n (aa rc x).st.data.n)
 (cond ((dG rc x).by aG.aw.ret)
 (cond (au (dG rc x).st.data.n (aa rc x).st.data.n)
 (.out aG.aw.ret (⟨(dG rc x).st.data,(aa rc x).st.a,(aa rc x).st.m,(aa rc x).st.b,(dG rc x).st.held⟩:ah))
 .fail)
 .fail)
 .fail)
 (cond (au (a8 rc x).st.data.n (aa rc x).st.data.n)
 (.out aG.aw.ret (⟨(a8 rc x).st.data,(aa rc x).st.a,(aa rc x).st.m,(aa rc x).st.b,(a8 rc x).st.held⟩:ah))
 .fail))
 (cond (au (a8 rc x).st.data.n (aa rc x).st.data.n)
 (.out aG.aw.ret (⟨(a8 rc x).st.data,(aa rc x).st.a,(aa rc x).st.m,(aa rc x).st.b,(a8 rc x).st.held⟩:ah))
 .fail))
 .fail)
 .fail)
 (cond (decide ((aa rc x).st.cl < (ak ((aa rc x).st.n - (aa rc x).st.start))))
 (cond (decide ((ak ((aa rc x).st.n - (aa rc x).st.start)) < (aa rc x).st.b))
 (cond (au (aa rc x).st.data.n (aa rc x).st.data.n)
 (cond ((bk rc x).by aG.aw.ret)
 (cond (au (bk rc x).st.data.n (aa rc x).st.data.n)
 (.out aG.aw.ret (⟨(bk rc x).st.data,(aa rc x).st.a,(aa rc x).st.m,(aa rc x).st.b,(bk rc x).st.held⟩:ah))
 .fail)
 .fail)
 .fail)
 (cond (au (aa rc x).st.data.n (aa rc x).st.data.n)
 (.out aG.aw.ret (⟨(aa rc x).st.data,(aa rc x).st.a,(aa rc x).st.m,(aa rc x).st.b,(aa rc x).st.eK⟩:ah))
 .fail))
 (cond (au (aa rc x).st.data.n (aa rc x).st.data.n)
 (.out aG.aw.ret (⟨(aa rc x).st.data,(aa rc x).st.a,(aa rc x).st.m,(aa rc x).st.b,(aa rc x).st.eK⟩:ah))
 .fail)))
 (cond (decide ((aa rc x).st.cl < (ak ((aa rc x).st.n - (aa rc x).st.start))))
 (cond (decide ((ak ((aa rc x).st.n - (aa rc x).st.start)) < (aa rc x).st.b))
 (cond (au (aa rc x).st.data.n (aa rc x).st.data.n)
 (cond ((bk rc x).by aG.aw.ret)
 (cond (au (bk rc x).st.data.n (aa rc x).st.data.n)
 (.out aG.aw.ret (⟨(bk rc x).st.data,(aa rc x).st.a,(aa rc x).st.m,(aa rc x).st.b,(bk rc x).st.held⟩:ah))
 .fail)
 .fail)
 .fail)
 (cond (au (aa rc x).st.data.n (aa rc x).st.data.n)
 (.out aG.aw.ret (⟨(aa rc x).st.data,(aa rc x).st.a,(aa rc x).st.m,(aa rc x).st.b,(aa rc x).st.eK⟩:ah))
 .fail))
 (cond (au (aa rc x).st.data.n (aa rc x).st.data.n)
 (.out aG.aw.ret (⟨(aa rc x).st.data,(aa rc x).st.a,(aa rc x).st.m,(aa rc x).st.b,(aa rc x).st.eK⟩:ah))
 .fail))))
 .fail)
 .fail))))
theorem zg (rc:ah→aJ ah) (x:ah):Ao rc (iC x) (iD x)=aJ.enc iC iD (dH rc x):=by
 unfold dH
 try simp only [aJ.dg]
 kernel_rfl
def gF:Nat→ah→aJ ah:=fun n=>Nat.rec (fun _=>.fail) (fun _ ih x=>dH ih x) n
def jb (n:Nat):Fc:=⟨123,nC,fun vs rs=>dD iC iD (gF n (m6 vs rs)) [aG.aw.ret]⟩
theorem hY:∀ n,(jb n).Ok Try.prog
 | 0=>agG (cfg:=bp Try.prog [(35,cc)] [cY,dz,ef,eS,gw] (fun q=>Nat.beq q 58) false false [eL]) ((aq.cons bI aq.nil):aq Try.prog _).pc (L9 funcs mixed (Ma funcs mixed (fN.cons fe fN.nil)) (aA.cons eR ei (aA.cons gv fE (aA.cons jm hU (aA.cons kY jZ (aA.cons oM nD aA.nil)))))) rfl fun _ _=>rfl
 | n+1=>Bg funcs mixed (aq.cons bI aq.nil) (aA.cons eR ei (aA.cons gv fE (aA.cons jm hU (aA.cons kY jZ (aA.cons oM nD aA.nil))))) (L:=9) (n:=9) (step:=gF (n+1)) (ev:=iC) (er:=iD) (pa:=m6) rfl (fun wv wr=>⟨by kernel_rfl,by kernel_rfl⟩) (zg (gF n)) (BN:=(fN.cons (hY n) (fN.cons fe fN.nil)))
structure bO where
 data:(Sl aZ)
 n:Int
 held:aB
instance:Inhabited bO:=⟨⟨default,default,default⟩⟩
def lx (x:bO):List KV:=[iU 58 gZ x.data,.int .i64 x.n,.fn (.func 77) [] [.ptr 0 0]]
def ly (x:bO):List (List KV):=[cI x.held]
def s5 (vs:List KV) (rs:List (List KV)):bO:=⟨iw hH (vs.getD 0 .ax),intOf (vs.getD 1 .ax),cJ (fun k=>(rs.getD 0 []).getD k .ax)⟩
def tQ:aQ:=⟨[(0,⟨false,[.arr 58]⟩),(1,⟨false,[.k (.int .i64)]⟩),(2,⟨false,[.ref (.fn (.func 77) [] [.ptr 0 0])]⟩)],[(100002,[.k (.slice 45),.k (.slice 108),.k (.slice 139)],1)],[]⟩
structure cF where
 data:(Sl aZ)
 n:Int
 jA:Int
 a:Int
 b:Int
 Jz:aB
instance:Inhabited cF:=⟨⟨default,default,default,default,default,default⟩⟩
def jT (x:cF):List KV:=[iU 58 gZ x.data,.int .i64 x.n,.fn (.func 77) [] [.ptr 0 0],.int .i64 x.jA,.int .i64 x.a,.int .i64 x.b]
def jU (x:cF):List (List KV):=[cI x.Jz]
def qQ (vs:List KV) (rs:List (List KV)):cF:=⟨iw hH (vs.getD 0 .ax),intOf (vs.getD 1 .ax),intOf (vs.getD 3 .ax),intOf (vs.getD 4 .ax),intOf (vs.getD 5 .ax),cJ (fun k=>(rs.getD 0 []).getD k .ax)⟩
def rR:aQ:=⟨[(0,⟨false,[.arr 58]⟩),(1,⟨false,[.k (.int .i64)]⟩),(2,⟨false,[.ref (.fn (.func 77) [] [.ptr 0 0])]⟩),(6,⟨false,[.k (.int .i64)]⟩),(7,⟨false,[.k (.int .i64)]⟩),(8,⟨false,[.k (.int .i64)]⟩)],[(100002,[.k (.slice 45),.k (.slice 108),.k (.slice 139)],1)],[]⟩
def zy:=pB Try.prog (bp Try.prog [(35,cc)] [] (fun q=>Nat.beq q 58) false false [gu,(jb KM)]) 9 9 105 28 (eX Try.prog 105 28) rR
def gW (x:cF):(aJ bh):=(eQ (⟨x.data,x.a,x.b,x.Jz⟩:bh))
def dA (x:cF):aJ cF:=
 (cond (decide (x.b≤x.n))
 (cond (au x.data.n x.data.n)
 (cond ((gW x).by aG.aw.ret)
 (cond (au (gW x).st.data.n x.data.n)
 (.next (⟨(gW x).st.data,x.n,x.jA,x.b,(ak (x.b+x.jA)),(gW x).st.held⟩:cF))
 .fail)
 .fail)
 .fail)
 (cond (au x.data.n x.data.n)
 (.out (aG.aw.exit 0) x)
 .fail))
theorem yi (x:cF):zy (jT x) (jU x)=aJ.enc jT jU (dA x):=by
 unfold dA
 try simp only [aJ.dg]
 kernel_rfl
def gh:Lp:=⟨105,28,rR,fun vs rs=>dD jT jU (goN dA (qQ vs rs)) [aG.aw.exit 0],true⟩
theorem mL:gh.Ok Try.prog:=lk funcs mixed (aq.cons bI aq.nil) aA.nil (L:=9) (n:=9) (step:=dA) (ev:=jT) (er:=jU) (pa:=qQ) rfl (fun wv wr=>⟨by kernel_rfl,by kernel_rfl⟩) yi (BN:=(fN.cons iq (fN.cons (hY KM) fN.nil)))
theorem lI:cz Try.prog gh.f gh.p=true:=by kernel_rfl
structure bT where
 data:(Sl aZ)
 n:Int
 jA:Int
 Jz:aB
instance:Inhabited bT:=⟨⟨default,default,default,default⟩⟩
def jV (x:bT):List KV:=[iU 58 gZ x.data,.int .i64 x.n,.fn (.func 77) [] [.ptr 0 0],.int .i64 x.jA]
def jW (x:bT):List (List KV):=[cI x.Jz]
def qR (vs:List KV) (rs:List (List KV)):bT:=⟨iw hH (vs.getD 0 .ax),intOf (vs.getD 1 .ax),intOf (vs.getD 3 .ax),cJ (fun k=>(rs.getD 0 []).getD k .ax)⟩
def rS:aQ:=⟨[(0,⟨false,[.arr 58]⟩),(1,⟨false,[.k (.int .i64)]⟩),(2,⟨false,[.ref (.fn (.func 77) [] [.ptr 0 0])]⟩),(6,⟨false,[.k (.int .i64)]⟩)],[(100002,[.k (.slice 45),.k (.slice 108),.k (.slice 139)],1)],[]⟩
structure cd where
 data:(Sl aZ)
 n:Int
 jA:Int
 a:Int
 b:Int
 Jz:aB
instance:Inhabited cd:=⟨⟨default,default,default,default,default,default⟩⟩
def jt (x:cd):List KV:=[iU 58 gZ x.data,.int .i64 x.n,.fn (.func 77) [] [.ptr 0 0],.int .i64 x.jA,.int .i64 x.a,.int .i64 x.b]
def ju (x:cd):List (List KV):=[cI x.Jz]
def pN (vs:List KV) (rs:List (List KV)):cd:=⟨iw hH (vs.getD 0 .ax),intOf (vs.getD 1 .ax),intOf (vs.getD 3 .ax),intOf (vs.getD 4 .ax),intOf (vs.getD 5 .ax),cJ (fun k=>(rs.getD 0 []).getD k .ax)⟩
def qy:aQ:=⟨[(0,⟨false,[.arr 58]⟩),(1,⟨false,[.k (.int .i64)]⟩),(2,⟨false,[.ref (.fn (.func 77) [] [.ptr 0 0])]⟩),(6,⟨false,[.k (.int .i64)]⟩),(7,⟨false,[.k (.int .i64)]⟩),(8,⟨false,[.k (.int .i64)]⟩)],[(100002,[.k (.slice 45),.k (.slice 108),.k (.slice 139)],1)],[]⟩
def yj:=pB Try.prog (bp Try.prog [(35,cc)] [gh] (fun q=>Nat.beq q 58) false false [gu,(jb KM)]) 9 9 105 3988 (eX Try.prog 105 3988) qy
def eT (x:cd):(aJ ah):=(gF 64 (⟨x.data,x.a,(ak (x.a+x.jA)),x.b,x.Jz⟩:ah))
def dk (x:cd):aJ cd:=
 (cond (decide (x.b≤x.n))
 (cond (au x.data.n x.data.n)
 (cond ((eT x).by aG.aw.ret)
 (cond (au (eT x).st.data.n x.data.n)
 (.next (⟨(eT x).st.data,x.n,x.jA,x.b,(ak (x.b+(ak ((2:Int) * x.jA)))),(eT x).st.held⟩:cd))
 .fail)
 .fail)
 .fail)
 (cond (au x.data.n x.data.n)
 (.out (aG.aw.exit 4) x)
 .fail))
theorem wP (x:cd):yj (jt x) (ju x)=aJ.enc jt ju (dk x):=by
 unfold dk
 try simp only [aJ.dg]
 kernel_rfl
def gX:Lp:=⟨105,3988,qy,fun vs rs=>dD jt ju (goN dk (pN vs rs)) [aG.aw.exit 4],true⟩
theorem pO:gX.Ok Try.prog:=lk funcs mixed (aq.cons bI aq.nil) (aA.cons mL lI aA.nil) (L:=9) (n:=9) (step:=dk) (ev:=jt) (er:=ju) (pa:=pN) rfl (fun wv wr=>⟨by kernel_rfl,by kernel_rfl⟩) wP (BN:=(fN.cons iq (fN.cons (hY KM) fN.nil)))
theorem oa:cz Try.prog gX.f gX.p=true:=by kernel_rfl
def zz:=pB Try.prog (bp Try.prog [(35,cc)] [gh,gX] (fun q=>Nat.beq q 58) false false [gu,(jb KM)]) 9 9 105 62 (eX Try.prog 105 62) rS
def aI (x:bT):(aJ cd):=(goN dk (⟨x.data,x.n,x.jA,(0:Int),(ak ((2:Int) * x.jA)),x.Jz⟩:cd))
def fF (x:bT):(aJ ah):=(gF 64 (⟨(aI x).st.data,(aI x).st.a,(ak ((aI x).st.a+(aI x).st.jA)),(aI x).st.n,(aI x).st.Jz⟩:ah))
def dB (x:bT):aJ bT:=
 (cond (decide (x.jA < x.n))
 (cond (au x.data.n x.data.n)
 (cond ((aI x).by (aG.aw.exit 4))
 (cond (decide ((ak ((aI x).st.a+(aI x).st.jA)) < (aI x).st.n))
 (cond (au (aI x).st.data.n (aI x).st.data.n)
 (cond ((fF x).by aG.aw.ret)
 (cond (au (fF x).st.data.n (aI x).st.data.n)
 (.next (⟨(fF x).st.data,(aI x).st.n,(ak ((aI x).st.jA * (2:Int))),(fF x).st.held⟩:bT))
 .fail)
 .fail)
 .fail)
 (cond (au (aI x).st.data.n (aI x).st.data.n)
 (.next (⟨(aI x).st.data,(aI x).st.n,(ak ((aI x).st.jA * (2:Int))),(aI x).st.Jz⟩:bT))
 .fail))
 .fail)
 .fail)
 (cond (au x.data.n x.data.n)
 (.out (aG.aw.exit 2) x)
 .fail))
theorem yk (x:bT):zz (jV x) (jW x)=aJ.enc jV jW (dB x):=by
 unfold dB
 try simp only [aJ.dg]
 kernel_rfl
def kp:Lp:=⟨105,62,rS,fun vs rs=>dD jV jW (goN dB (qR vs rs)) [aG.aw.exit 2],true⟩
theorem zA:kp.Ok Try.prog:=lk funcs mixed (aq.cons bI aq.nil) (aA.cons mL lI (aA.cons pO oa aA.nil)) (L:=9) (n:=9) (step:=dB) (ev:=jV) (er:=jW) (pa:=qR) rfl (fun wv wr=>⟨by kernel_rfl,by kernel_rfl⟩) yk (BN:=(fN.cons iq (fN.cons (hY KM) fN.nil)))
theorem xO:cz Try.prog kp.f kp.p=true:=by kernel_rfl
def BT:=EX Try.prog (bp Try.prog [(35,cc)] [gh,gX,kp] (fun q=>Nat.beq q 58) false false [gu,(jb KM)]) 9 9 105 tQ
def cP (x:bO):(aJ cF):=(goN dA (⟨x.data,x.n,(20:Int),(0:Int),(20:Int),x.held⟩:cF))
def gG (x:bO):(aJ bh):=(eQ (⟨(cP x).st.data,(cP x).st.a,(cP x).st.n,(cP x).st.Jz⟩:bh))
def ek (x:bO):(aJ bT):=(goN dB (⟨(gG x).st.data,(cP x).st.n,(cP x).st.jA,(gG x).st.held⟩:bT))
def kq (x:bO):aJ bO:=
 (cond (au x.data.n x.data.n)
 (cond ((cP x).by (aG.aw.exit 0))
 (cond (au (cP x).st.data.n (cP x).st.data.n)
 (cond ((gG x).by aG.aw.ret)
 (cond (au (gG x).st.data.n (cP x).st.data.n)
 (cond ((ek x).by (aG.aw.exit 2))
 (cond (au (ek x).st.data.n (ek x).st.data.n)
 (.out aG.aw.ret (⟨(ek x).st.data,(ek x).st.n,(ek x).st.Jz⟩:bO))
 .fail)
 .fail)
 .fail)
 .fail)
 .fail)
 .fail)
 .fail)
theorem Ap (x:bO):BT (lx x) (ly x)=aJ.enc lx ly (kq x):=by
 unfold kq
 try simp only [aJ.dg]
 kernel_rfl
def jI (x:bO):aJ bO:=kq x
def lU:Fc:=⟨105,tQ,fun vs rs=>dD lx ly (jI (s5 vs rs)) [aG.aw.ret]⟩
theorem nE:lU.Ok Try.prog:=Bg funcs mixed (aq.cons bI aq.nil) (aA.cons mL lI (aA.cons pO oa (aA.cons zA xO aA.nil))) (L:=9) (n:=9) (step:=jI) (ev:=lx) (er:=ly) (pa:=s5) rfl (fun wv wr=>⟨by kernel_rfl,by kernel_rfl⟩) Ap (BN:=(fN.cons iq (fN.cons (hY KM) fN.nil)))
end
end Go.Proofs.Ytahhdndhkgbcjaa.b
end
section
namespace Go.Proofs.Ytahhdndhkgbcjaa.b
open Go.K
set_option linter.unusedVariables false
set_option linter.unusedSimpArgs false
noncomputable section
structure iE where
 t2:Int
 zero:Int
 t6:(Sl Int)
 t7:Int
 t8:Int
instance:Inhabited iE:=⟨⟨default,default,default,default,default⟩⟩
def tR (x:iE):List KV:=[.int .i64 x.t2,.int .i64 x.zero,iU 3 (kI .i64) x.t6,.int .i64 x.t7,.int .i64 x.t8]
def tS (x:iE):List (List KV):=[]
def EA (vs:List KV) (rs:List (List KV)):iE:=⟨intOf (vs.getD 0 .ax),intOf (vs.getD 1 .ax),iw intOf (vs.getD 2 .ax),intOf (vs.getD 3 .ax),intOf (vs.getD 4 .ax)⟩
def GI:aQ:=⟨[(2,⟨false,[.k (.int .i64)]⟩),(3,⟨false,[.k (.int .i64)]⟩),(6,⟨false,[.k (.slice 3)]⟩),(7,⟨false,[.k (.int .i64)]⟩),(8,⟨false,[.k (.int .i64)]⟩)],[],[]⟩
def Sf:=jf Try.prog (bp Try.prog [] [] (fun _=>false)) 9 9 104 58 (eX Try.prog 104 58) GI
def kG (x:iE):aJ iE:=
 (cond (decide (x.t8 < x.t7))
 (cond ((decide ((0:Int)≤x.t8))&&(decide (x.t8 < ((x.t6.n:Nat):Int))))
 (cond ((x.t6.get (Int.toNat x.t8)) != x.zero)
 (.out aG.aw.ret (⟨(x.t6.get (Int.toNat x.t8)),x.zero,x.t6,x.t7,x.t8⟩:iE))
 (.next (⟨x.t2,x.zero,x.t6,x.t7,(ak (x.t8+(1:Int)))⟩:iE)))
 .fail)
 (.out (aG.aw.exit 0) x))
theorem MQ (x:iE):Sf (tR x) (tS x)=aJ.enc tR tS (kG x):=by
 unfold kG
 try simp only [aJ.dg]
 kernel_rfl
def vB:Lp:=⟨104,58,GI,fun vs rs=>dD tR tS (goN kG (EA vs rs)) [aG.aw.exit 0,aG.aw.ret],false⟩
theorem Sg:vB.Ok Try.prog:=eF funcs mixed aq.nil aA.nil (L:=9) (n:=9) (step:=kG) (ev:=tR) (er:=tS) (pa:=EA) rfl (fun wv wr=>⟨by kernel_rfl,by kernel_rfl⟩) MQ
theorem Lv:cz Try.prog vB.f vB.p=true:=by kernel_rfl
def Lw:List (Nat×(List KV→KR KV)):=[]
def Lx:List Lp:=[vB]
theorem UJ:aq Try.prog Lw:=aq.nil
theorem UK:aA Try.prog Lx:=(aA.cons Sg Lv aA.nil)
def p8 (dW:(Sl Int)):(aJ iE):=(goN kG (⟨(0:Int),(0:Int),dW,((dW.n:Nat):Int),(0:Int)⟩:iE))
def tg (dW:(Sl Int)):Option (Int):=
 (cond ((p8 dW).by (aG.aw.exit 0))
 (some ((p8 dW).st.zero))
 (cond ((p8 dW).by aG.aw.ret)
 (some ((p8 dW).st.t2))
 none))
theorem WV (dW:(Sl Int)):dn Try.prog (bp Try.prog Lw Lx (fun _=>false)) 9 9 104 [(iU 3 (kI .i64)) dW] = (tg dW).map (kI .i64):=by
 unfold tg
 try simp only [b7]
 kernel_rfl
def NT:List KV→KR KV:=cr Try.prog 104 (cD (kI .i64) fun vs=>tg ((iw intOf) (vs.getD 0 .ax)))
theorem UL (w:Nat→KV):cM Try.prog [26] w 0 = [(iU 3 (kI .i64)) ((iw intOf) (ay Try.prog (ao Try.prog av) 26 (w 0)))]:=by kernel_rfl
theorem UM:b9 Try.prog 104 NT:=aX funcs mixed UJ UK (L:=9) (n:=9) fun w=>by
 have e:aK Try.prog 104 = [26]:=by kernel_rfl
 rw [e,UL]
 exact (WV ((iw intOf) (ay Try.prog (ao Try.prog av) 26 (w 0)))).trans (by kernel_rfl)
def GJ:List (Nat×(List KV→KR KV)):=[(104,NT),(35,cc)]
def GK:List Lp:=[]
theorem Pr:aq Try.prog GJ:=(aq.cons UM (aq.cons bI aq.nil))
theorem Ps:aA Try.prog GK:=aA.nil
def zh (a:aZ) (b:aZ):(Option Int):=(eA b.d a.d)
def zi (a:aZ) (b:aZ):(Option Int):=(eA a.item b.item)
def zj (a:aZ) (b:aZ):(Option Int):=(eA a.cV b.cV)
def zk (a:aZ) (b:aZ):(Option Int):=(eA a.part b.part)
def qz (a:aZ) (b:aZ):(Option Int):=(tg (Sl.lit [((zh a b).getD default),((zi a b).getD default),((zj a b).getD default),((zk a b).getD default)]))
def p9 (a:aZ) (b:aZ):Option (Bool):=
 (cond (zh a b).isSome
 (cond (zi a b).isSome
 (cond (zj a b).isSome
 (cond (zk a b).isSome
 (cond (qz a b).isSome
 (some ((decide (((qz a b).getD default) < (0:Int)))))
 none)
 none)
 none)
 none)
 none)
theorem Sh (a:aZ) (b:aZ):dn Try.prog (bp Try.prog GJ GK (fun _=>false)) 9 9 73 [gZ a,gZ b] = (p9 a b).map kB:=by
 unfold p9
 try simp only [b7,qz,KN]
 kernel_rfl
def BU:List KV→KR KV:=cr Try.prog 73 (cD kB fun vs=>p9 (hH (vs.getD 0 .ax)) (hH (vs.getD 1 .ax)))
theorem Pt (w:Nat→KV):cM Try.prog [58,58] w 0 = [gZ (hH (ay Try.prog (ao Try.prog av) 58 (w 0))),gZ (hH (ay Try.prog (ao Try.prog av) 58 (w 1)))]:=by kernel_rfl
theorem Dy:b9 Try.prog 73 BU:=aX funcs mixed Pr Ps (L:=9) (n:=9) fun w=>by
 have e:aK Try.prog 73 = [58,58]:=by kernel_rfl
 rw [e,Pt]
 exact (Sh (hH (ay Try.prog (ao Try.prog av) 58 (w 0))) (hH (ay Try.prog (ao Try.prog av) 58 (w 1)))).trans (by kernel_rfl)
structure aE where
 x:Int
 y:Int
 t14:(Sl dq)
 t15:Int
 t16:Int
 dR:aB
 pP:Bool
 oO:aZ
instance:Inhabited aE:=⟨⟨default,default,default,default,default,default,default,default⟩⟩
def eY (x:aE):List KV:=[.int .i64 x.x,.int .i64 x.y,.fn (.func 72) [] [.ptr 0 0,.ptr 1 0,.ptr 2 0],iU 139 sH x.t14,.int .i64 x.t15,.int .i64 x.t16]
def eZ (x:aE):List (List KV):=[cI x.dR,[.bool x.pP],ady x.oO]
def kZ (vs:List KV) (rs:List (List KV)):aE:=⟨intOf (vs.getD 0 .ax),intOf (vs.getD 1 .ax),iw sI (vs.getD 3 .ax),intOf (vs.getD 4 .ax),intOf (vs.getD 5 .ax),cJ (fun k=>(rs.getD 0 []).getD k .ax),og ((rs.getD 1 []).getD 0 .ax),adz (fun k=>(rs.getD 2 []).getD k .ax)⟩
def lA:aQ:=⟨[(1,⟨false,[.k (.int .i64)]⟩),(2,⟨false,[.k (.int .i64)]⟩),(3,⟨false,[.ref (.fn (.func 72) [] [.ptr 0 0,.ptr 1 0,.ptr 2 0])]⟩),(14,⟨false,[.k (.slice 139)]⟩),(15,⟨false,[.k (.int .i64)]⟩),(16,⟨false,[.k (.int .i64)]⟩)],[(100003,[.k (.slice 45),.k (.slice 108),.k (.slice 139)],1),(200003,[.k .bool],1),(300003,[.k (.int .i64),.k (.int .i64),.k (.int .i64),.k (.int .i64),.k (.int .i64),.k (.int .i64)],1)],[]⟩
def qK:=jf Try.prog (bp Try.prog [(66,r5),(73,BU)] [] (fun _=>false)) 9 9 41 14 (eX Try.prog 41 14) lA
def aP (x:aE):(Option (Prod fY Int)):=(oE (x.t14.get (Int.toNat x.t16)).t x.x x.y)
def eM (x:aE):(Option Bool):=(p9 (⟨(ak ((x.t14.get (Int.toNat x.t16)).da.d+((aP x).getD default).fst.d)),(x.t14.get (Int.toNat x.t16)).da.item,(x.t14.get (Int.toNat x.t16)).da.cV,(x.t14.get (Int.toNat x.t16)).da.part,((aP x).getD default).fst.u,((aP x).getD default).fst.v⟩:aZ) x.oO)
def bJ (x:aE):aJ aE:=
 (cond (decide (x.t16 < x.t15))
 (cond ((decide ((0:Int)≤x.t16))&&(decide (x.t16 < ((x.t14.n:Nat):Int))))
 (cond (aP x).isSome
 (cond (((aP x).getD default).snd==(0:Int))
 (cond ((decide ((0:Int)≤(x.t14.get (Int.toNat x.t16)).da.item))&&(decide ((x.t14.get (Int.toNat x.t16)).da.item < ((x.dR.cX.items.n:Nat):Int))))
 (cond (!(x.dR.cX.items.get (Int.toNat (x.t14.get (Int.toNat x.t16)).da.item)).look.Ik)
 (cond (!x.pP)
 (.next (⟨x.x,x.y,x.t14,x.t15,(ak (x.t16+(1:Int))),x.dR,true,(⟨(ak ((x.t14.get (Int.toNat x.t16)).da.d+((aP x).getD default).fst.d)),(x.t14.get (Int.toNat x.t16)).da.item,(x.t14.get (Int.toNat x.t16)).da.cV,(x.t14.get (Int.toNat x.t16)).da.part,((aP x).getD default).fst.u,((aP x).getD default).fst.v⟩:aZ)⟩:aE))
 (cond (eM x).isSome
 (cond ((eM x).getD default)
 (.next (⟨x.x,x.y,x.t14,x.t15,(ak (x.t16+(1:Int))),x.dR,true,(⟨(ak ((x.t14.get (Int.toNat x.t16)).da.d+((aP x).getD default).fst.d)),(x.t14.get (Int.toNat x.t16)).da.item,(x.t14.get (Int.toNat x.t16)).da.cV,(x.t14.get (Int.toNat x.t16)).da.part,((aP x).getD default).fst.u,((aP x).getD default).fst.v⟩:aZ)⟩:aE))
 (.next (⟨x.x,x.y,x.t14,x.t15,(ak (x.t16+(1:Int))),x.dR,x.pP,x.oO⟩:aE)))
 .fail))
 (.next (⟨x.x,x.y,x.t14,x.t15,(ak (x.t16+(1:Int))),x.dR,x.pP,x.oO⟩:aE)))
 .fail)
 (.next (⟨x.x,x.y,x.t14,x.t15,(ak (x.t16+(1:Int))),x.dR,x.pP,x.oO⟩:aE)))
 .fail)
 .fail)
 (.out (aG.aw.exit 0) x))
theorem pV (x:aE):qK (eY x) (eZ x)=aJ.enc eY eZ (bJ x):=by
 unfold bJ
 try simp only [aJ.dg]
 kernel_rfl
def fh:Lp:=⟨41,14,lA,fun vs rs=>dD eY eZ (goN bJ (kZ vs rs)) [aG.aw.exit 0],false⟩
theorem qL:fh.Ok Try.prog:=eF funcs mixed (aq.cons pb (aq.cons Dy aq.nil)) aA.nil (L:=9) (n:=9) (step:=bJ) (ev:=eY) (er:=eZ) (pa:=kZ) rfl (fun wv wr=>⟨by kernel_rfl,by kernel_rfl⟩) pV
theorem pI:cz Try.prog fh.f fh.p=true:=by kernel_rfl
def zl:List (Nat×(List KV→KR KV)):=[(66,r5),(73,BU)]
def zm:List Lp:=[fh]
theorem Fp:aq Try.prog zl:=(aq.cons pb (aq.cons Dy aq.nil))
theorem Fq:aA Try.prog zm:=(aA.cons qL pI aA.nil)
def lP (s:aB) (x:Int) (y:Int):(aJ aE):=(goN bJ (⟨x,y,s.parts,((s.parts.n:Nat):Int),(0:Int),s,false,(⟨(-(2048:Int)),(-(1:Int)),(-(1:Int)),(0:Int),(0:Int),(0:Int)⟩:aZ)⟩:aE))
def gz (s:aB) (x:Int) (y:Int):Option (aZ×Bool):=
 (cond ((lP s x y).by (aG.aw.exit 0))
 (some ((lP s x y).st.oO,(lP s x y).st.pP))
 none)
theorem GL (s:aB) (x:Int) (y:Int):dn Try.prog (bp Try.prog zl zm (fun _=>false)) 9 9 43 [lZ s,(kI .i64) x,(kI .i64) y] = (gz s x y).map (fun (r:aZ×Bool)=>KV.jE [gZ r.1,kB r.2]):=by
 unfold gz
 try simp only [b7]
 kernel_rfl
def ib:List KV→KR KV:=cr Try.prog 43 (cD (fun (r:aZ×Bool)=>KV.jE [gZ r.1,kB r.2]) fun vs=>gz (np (vs.getD 0 .ax)) (intOf (vs.getD 1 .ax)) (intOf (vs.getD 2 .ax)))
theorem Fs (w:Nat→KV):cM Try.prog [96,3,3] w 0 = [lZ (np (ay Try.prog (ao Try.prog av) 96 (w 0))),(kI .i64) (intOf (ay Try.prog (ao Try.prog av) 3 (w 1))),(kI .i64) (intOf (ay Try.prog (ao Try.prog av) 3 (w 2)))]:=by kernel_rfl
theorem hJ:b9 Try.prog 43 ib:=aX funcs mixed Fp Fq (L:=9) (n:=9) fun w=>by
 have e:aK Try.prog 43 = [96,3,3]:=by kernel_rfl
 rw [e,Fs]
 exact (GL (np (ay Try.prog (ao Try.prog av) 96 (w 0))) (intOf (ay Try.prog (ao Try.prog av) 3 (w 1))) (intOf (ay Try.prog (ao Try.prog av) 3 (w 2)))).trans (by kernel_rfl)
end
end Go.Proofs.Ytahhdndhkgbcjaa.b
end
section
namespace Go.Proofs.Ytahhdndhkgbcjaa.b
open Go.K
open Go.aG (aw)
theorem acm {α:Type} (l:Sl α) (j:Nat) (h:j < l.n):(eV l)[j]? = some (l.get j):=by
 unfold eV
 rw [List.getElem?_map,List.getElem?_range h]
 rfl
theorem Ly {α:Type} {l:Sl α} {j:Nat} (h:j < l.n):l.get j∈eV l:=List.mem_map.2 ⟨j,List.mem_range.2 h,rfl⟩
def qA (x y:Int) (p:dq):Option aZ:=
 match oE p.t x y with
 | some (sp,e)=>cond (e==0) (some ⟨ak (p.da.d+sp.d),p.da.item,p.da.cV,p.da.part,sp.u,sp.v⟩) none
 | none=>none
def pt (x y:Int) (l:List dq):List aZ:=l.filterMap (qA x y)
theorem UN {x y:Int} (l:Sl dq) (j:Nat) (h:j < l.n):pt x y ((eV l).take (j+1))=pt x y ((eV l).take j)++(qA x y (l.get j)).toList:=by
 unfold pt
 rw [UH l j h,List.filterMap_append]
 congr 1
theorem Lz (t:bt) (x y:Int):∃ s e,oE t x y=some (s,e):=by
 obtain ⟨s,e,h,_⟩:=afB t x y
 exact ⟨s,e,h⟩
theorem akq (x y:Int) (l:List dq):(pt x y l).length≤l.length:=List.length_filterMap_le _ _
theorem adF (x:bn) (hn:x.t14.n≤98304) (h15:x.t15=(x.t14.n:Int)) (h16:x.t16=0) (h0:x.dR.n=0) :
  ∃ e y,goN cn x = .out e y∧(e = .exit 0∧eV y.dR=pt x.x x.y (eV x.t14)):=by
 refine dx (step:=cn) (fun j y=>y.t14=x.t14∧y.t15=(x.t14.n:Int)∧y.t16=(j:Int)∧y.x=x.x∧y.y=x.y∧j≤x.t14.n∧y.dR.n≤j∧eV y.dR=pt x.x x.y ((eV x.t14).take j)) (fun e y=>e = .exit 0∧eV y.dR=pt x.x x.y (eV x.t14)) x.t14.n (by have:mm=1000000000000:=rfl; omega) (fun j y hj ⟨f1,f2,f3,f4,f5,f6,f7,f8⟩=>?_) ⟨rfl,h15,h16,rfl,rfl,Nat.zero_le _,by omega,List.length_eq_zero_iff.1 (by rw [oI,h0])⟩
 have w1:ak (y.t16+1)=y.t16+1:=bz (by omega) (by omega)
 have a1:eo 48 y.dR.n 1=true:=Iv (by omega) (by omega) (by omega) (.inl (by omega))
 unfold cn
 by_cases h:y.t16 < y.t15
 ·have lX:j < x.t14.n:=by omega
  have hg:y.t14.get (Int.toNat y.t16)=x.t14.get j:=by rw [f1,f3,Int.toNat_natCast]
  obtain ⟨sp,e,hp⟩:=Lz (x.t14.get j).t x.x x.y
  have e0:df y=some (sp,e):=by
   unfold df
   rw [hg,f4,f5]
   exact hp
  have tk:=UN (x:=x.x) (y:=x.y) x.t14 j lX
  simp only [e0,w1,a1,a9,cond_true,Bool.and_self,Option.isSome_some,Option.getD_some,decide_eq_true h,decide_eq_true (show (0:Int)≤y.t16 by omega),decide_eq_true (show y.t16 < ((y.t14.n:Nat):Int) by rw [f1]; omega)]
  cases he:(e==(0:Int)) with
  | true=>
   have DF:qA x.x x.y (x.t14.get j)=some ⟨ak ((x.t14.get j).da.d+sp.d),(x.t14.get j).da.item,(x.t14.get j).da.cV,(x.t14.get j).da.part,sp.u,sp.v⟩:=by
    unfold qA
    rw [hp]
    simp only [he,cond_true]
   rw [cond_true]
   refine .inl ⟨_,rfl,by omega,f1,f2,by show y.t16+1=_; omega,f4,f5,by omega,by simp only [Sl.Ex]; omega,?_⟩
   show eV (Sl.push _ _)=_
   rw [UG,f8,tk,DF,hg]
   rfl
  | false=>
   have DF:qA x.x x.y (x.t14.get j)=none:=by
    unfold qA
    rw [hp]
    simp only [he,cond_false]
   rw [cond_false]
   refine .inl ⟨_,rfl,by omega,f1,f2,by show y.t16+1=_; omega,f4,f5,by omega,by show y.dR.n≤_; omega,?_⟩
   show eV y.dR=_
   rw [tk,DF,f8]
   simp
 ·simp only [a9,cond_true,cond_false,decide_eq_false h]
  refine .inr ⟨_,_,rfl,rfl,rfl,?_⟩
  rw [f8,show j=x.t14.n by omega,List.take_of_length_le (by rw [oI]; exact Nat.le_refl _)]
theorem adG (s:Show) (c:aU) (x y:Int):∃ l e,mu s c x y=some (l,e)∧
  (e≠0∧(∃ r,oH s c x y=some (r,e))∨e=0∧∃ r,oH s c x y=some (r,0)∧Ez s∧Iy c∧(0≤x∧x < c.w)∧(0≤y∧y < c.h)∧iB s c=some 0∧ny s c=some r∧r.cX=s∧eV r.parts=mT s c∧r.parts.n≤98304∧eV l=pt x y (mT s c)):=by
 have at_:∃ r e,oH s c x y=some (r,e)∧(e≠0∨e=0∧Ez s∧Iy c∧(0≤x∧x < c.w)∧(0≤y∧y < c.h)∧iB s c=some 0∧ny s c=some r∧r.cX=s∧eV r.parts=mT s c∧r.parts.n≤98304):=by
  obtain ⟨e,h1,h2⟩:=afF s c
  have e0:AY s c x y=some e:=h1
  unfold oH
  simp only [e0,Option.isSome_some,Option.getD_some,cond_true]
  cases he:(e != (0:Int)) with
  | true=>exact ⟨_,_,rfl,.inl (by simpa using he)⟩
  | false=>
   have he:e=0:=by simpa using he
   subst he
   obtain ⟨hs,hc⟩:=h2 rfl
   rw [cond_false]
   by_cases c1:x < 0
   ·rw [decide_eq_true c1]; exact ⟨_,_,rfl,.inl (by decide)⟩
   by_cases c2:x ≥ c.w
   ·rw [decide_eq_false c1,decide_eq_true c2]; exact ⟨_,_,rfl,.inl (by decide)⟩
   by_cases c3:y < 0
   ·rw [decide_eq_false c1,decide_eq_false c2,decide_eq_true c3]; exact ⟨_,_,rfl,.inl (by decide)⟩
   by_cases c4:y ≥ c.h
   ·rw [decide_eq_false c1,decide_eq_false c2,decide_eq_false c3,decide_eq_true c4]; exact ⟨_,_,rfl,.inl (by decide)⟩
   obtain ⟨r,hr,h3,h4,h5⟩:=aiB s c hs
   have e1:Fm s c x y=some r:=hr
   simp only [decide_eq_false c1,decide_eq_false c2,decide_eq_false c3,decide_eq_false c4,cond_false,e1,Option.isSome_some,Option.getD_some,cond_true]
   exact ⟨_,_,rfl,.inr ⟨rfl,hs,hc,⟨by omega,by omega⟩,⟨by omega,by omega⟩,h1,hr,h3,h4,h5⟩⟩
 obtain ⟨r,e,h1,h2⟩:=at_
 have e0:m4 s c x y=some (r,e):=h1
 rcases h2 with h2 | ⟨rfl,hs,hc,hx,hy,ha,ho,h3,h4,h5⟩
 ·unfold mu
  simp only [e0,Option.isSome_some,Option.getD_some,cond_true,show (e==(0:Int))=false by simpa using h2,cond_false]
  exact ⟨_,_,rfl,.inl ⟨h2,r,h1⟩⟩
 ·obtain ⟨e,z,hz,rfl,h6⟩:∃ e z,oV s c x y = .out e z∧(e = .exit 0∧eV z.dR=pt x y (eV r.parts)):=by
   unfold oV
   rw [e0]
   exact adF _ h5 rfl rfl rfl
  have b1:(oV s c x y).by (.exit 0)=true:=by rw [hz]; rfl
  have b2:(oV s c x y).st=z:=by rw [hz]; rfl
  refine ⟨z.dR,0,?_,.inr ⟨rfl,r,h1,hs,hc,hx,hy,ha,ho,h3,h4,h5,by rw [h6,h4]⟩⟩
  unfold mu
  simp only [e0,b1,b2,Option.isSome_some,Option.getD_some,cond_true,show ((0:Int)==0)=true from rfl]
end Go.Proofs.Ytahhdndhkgbcjaa.b
end
section
namespace Go.Proofs.Ytahhdndhkgbcjaa.b
open Go.K
open Go.aG (aw)
def EB (x y:Int):Int:=if x < y then -1 else if x > y then 1 else 0
theorem AZ (x y:Int):eA x y=some (EB x y):=by
 unfold eA wa qY nW EB
 simp only [bne_self_eq_false,Option.getD_some,cond_false]
 by_cases h:x < y
 ·rw [decide_eq_true h,if_pos h]; rfl
 ·rw [decide_eq_false h,if_neg h]
  by_cases h2:x > y
  ·rw [decide_eq_true h2,if_pos h2]; rfl
  ·rw [decide_eq_false h2,if_neg h2]; rfl
def or4 (a b c d:Int):Int:=if a≠0 then a else if b≠0 then b else if c≠0 then c else d
theorem akr (a b c d:Int):tg (Sl.lit [a,b,c,d])=some (or4 a b c d):=by
 have g0:(Sl.lit [a,b,c,d]).get 0=a:=rfl
 have g1:(Sl.lit [a,b,c,d]).get 1=b:=rfl
 have g2:(Sl.lit [a,b,c,d]).get 2=c:=rfl
 have g3:(Sl.lit [a,b,c,d]).get 3=d:=rfl
 generalize hl:Sl.lit [a,b,c,d] = l at g0 g1 g2 g3
 have hn:l.n=4:=by rw [← hl]; rfl
 obtain ⟨e,y,hy,hq⟩:∃ e y,p8 l = .out e y∧((e = .exit 0∧y.zero=0∧∀ i,i < 4→l.get i=0)∨e = .ret∧∃ j,j < 4∧(∀ i,i < j→l.get i=0)∧l.get j≠0∧y.t2=l.get j):=by
  unfold p8
  refine dx (step:=kG) (fun j y=>y.zero=0∧y.t6=l∧y.t7=4∧y.t8=(j:Int)∧j≤4∧∀ i,i < j→l.get i=0) _ 4 (by have:mm=1000000000000:=rfl; omega) (fun j y hj ⟨f1,f2,f3,f4,f5,f6⟩=>?_) ⟨rfl,rfl,by show ((l.n:Nat):Int)=4; omega,rfl,Nat.zero_le _,fun i hi=>absurd hi (Nat.not_lt_zero _)⟩
  have w1:ak (y.t8+1)=y.t8+1:=bz (by omega) (by omega)
  unfold kG
  by_cases h:y.t8 < y.t7
  ·have hg:y.t6.get (Int.toNat y.t8)=l.get j:=by rw [f2,f4,Int.toNat_natCast]
   simp only [w1,hg,f1,cond_true,Bool.and_self,decide_eq_true h,decide_eq_true (show (0:Int)≤y.t8 by omega),decide_eq_true (show y.t8 < ((y.t6.n:Nat):Int) by rw [f2]; omega)]
   cases hb:(l.get j != 0) with
   | true=>exact .inr ⟨_,_,rfl,rfl,.inr ⟨rfl,j,by omega,f6,by simpa using hb,rfl⟩⟩
   | false=>
    refine .inl ⟨_,rfl,by omega,by first | rfl | exact f1,f2,f3,by show y.t8+1=_; omega,by omega,fun i hi=>?_⟩
    by_cases he:i=j
    ·subst he; simpa using hb
    ·exact f6 i (by omega)
  ·simp only [cond_false,decide_eq_false h]
   exact .inr ⟨_,_,rfl,rfl,.inl ⟨rfl,f1,fun i hi=>f6 i (by omega)⟩⟩
 unfold tg or4
 rcases hq with ⟨rfl,h1,h2⟩ | ⟨rfl,j,h1,h2,h3,h4⟩
 ·rw [hy]
  simp only [aJ.kk,aJ.kK,fR,Nat.beq_refl,cond_true,h1]
  have e0:=h2 0 (by omega); have e1:=h2 1 (by omega); have e2:=h2 2 (by omega); have e3:=h2 3 (by omega)
  rw [g0] at e0; rw [g1] at e1; rw [g2] at e2; rw [g3] at e3
  simp [e0,e1,e2,e3]
 ·rw [hy]
  simp only [aJ.kk,aJ.kK,fR,cond_true,cond_false,h4]
  rcases j with _ | _ | _ | _ | j
  ·rw [g0] at h3 ⊢
   rw [if_pos h3]
  ·have e0:=h2 0 (by omega)
   rw [g0] at e0
   rw [g1] at h3 ⊢
   simp [e0,h3]
  ·have e0:=h2 0 (by omega); have e1:=h2 1 (by omega)
   rw [g0] at e0; rw [g1] at e1
   rw [g2] at h3 ⊢
   simp [e0,e1,h3]
  ·have e0:=h2 0 (by omega); have e1:=h2 1 (by omega); have e2:=h2 2 (by omega)
   rw [g0] at e0; rw [g1] at e1; rw [g2] at e2
   rw [g3] at h3 ⊢
   simp [e0,e1,e2]
  ·omega
theorem Si (x y:Int):EB x y < 0↔x < y:=by
 unfold EB
 split
 ·omega
 ·split <;> omega
theorem aav (x y:Int):EB x y=0↔x=y:=by
 unfold EB
 split
 ·omega
 ·split <;> omega
theorem ak9 (a b c d:Int):or4 a b c d < 0↔a < 0∨a=0∧(b < 0∨b=0∧(c < 0∨c=0∧d < 0)):=by
 unfold or4
 split
 ·omega
 ·split
  ·omega
  ·split <;> omega
def ng (a b:aZ):Prop:=b.d < a.d∨a.d=b.d∧(a.item < b.item∨a.item=b.item∧(a.cV < b.cV∨a.cV=b.cV∧a.part < b.part))
instance (a b:aZ):Decidable (ng a b):=by unfold ng; infer_instance
theorem adH (a b:aZ):p9 a b=some (decide (ng a b)):=by
 have e0:zh a b=some (EB b.d a.d):=AZ _ _
 have e1:zi a b=some (EB a.item b.item):=AZ _ _
 have e2:zj a b=some (EB a.cV b.cV):=AZ _ _
 have e3:zk a b=some (EB a.part b.part):=AZ _ _
 have e4:qz a b=some (or4 (EB b.d a.d) (EB a.item b.item) (EB a.cV b.cV) (EB a.part b.part)):=by
  unfold qz
  rw [e0,e1,e2,e3]
  exact akr _ _ _ _
 unfold p9
 simp only [e0,e1,e2,e3,e4,Option.isSome_some,Option.getD_some,cond_true]
 congr 1
 refine decide_eq_decide.2 ?_
 rw [ak9,Si,Si,Si,Si,aav,aav,aav]
 unfold ng
 omega
def fQ (s:Show) (f:aZ):Bool:=(s.items.get (Int.toNat f.item)).look.Ik
def afG (s:Show) (b:aZ×Bool) (f:aZ):aZ×Bool:=cond (!fQ s f) (cond (!b.2) (f,true) (cond (decide (ng f b.1)) (f,true) b)) b
def XA:aZ:=⟨-2048,-1,-1,0,0,0⟩
def Cv (s:Show) (l:List aZ):aZ×Bool:=l.foldl (afG s) (XA,false)
theorem acn (s:Show) (l:List aZ) (f:aZ):Cv s (l++[f])=afG s (Cv s l) f:=by
 unfold Cv
 rw [List.foldl_append]
 rfl
theorem UO {s:Show} {c:aU} {p:dq} (h:p∈mT s c):∃ i k n,i < s.items.n∧k < (s.items.get i).fO.n∧n < (prt s c i k).n∧p=partAt s c i k n:=by
 unfold mT at h
 obtain ⟨i,h1,h2⟩:=List.mem_flatMap.1 h
 unfold UI at h2
 obtain ⟨k,h3,h4⟩:=List.mem_flatMap.1 h2
 unfold ack at h4
 obtain ⟨n,h5,h6⟩:=List.mem_map.1 h4
 exact ⟨i,k,n,List.mem_range.1 h1,List.mem_range.1 h3,List.mem_range.1 h5,h6.symm⟩
theorem adI (s:Show) (x:aE) (hs:x.dR.cX=s) (hi:∀ j,j < x.t14.n→0≤(x.t14.get j).da.item∧(x.t14.get j).da.item < (s.items.n:Int)) (hn:x.t14.n≤98304) (h15:x.t15=(x.t14.n:Int)) (h16:x.t16=0) (h0:(x.oO,x.pP)=(XA,false)) :
  ∃ e y,goN bJ x = .out e y∧(e = .exit 0∧(y.oO,y.pP)=Cv s (pt x.x x.y (eV x.t14))):=by
 refine dx (step:=bJ) (fun j y=>y.t14=x.t14∧y.t15=(x.t14.n:Int)∧y.t16=(j:Int)∧y.x=x.x∧y.y=x.y∧j≤x.t14.n∧y.dR=x.dR∧(y.oO,y.pP)=Cv s (pt x.x x.y ((eV x.t14).take j))) _ x.t14.n (by have:mm=1000000000000:=rfl; omega) (fun j y hj ⟨f1,f2,f3,f4,f5,f6,f7,f8⟩=>?_) ⟨rfl,h15,h16,rfl,rfl,Nat.zero_le _,rfl,h0⟩
 have w1:ak (y.t16+1)=y.t16+1:=bz (by omega) (by omega)
 unfold bJ
 by_cases h:y.t16 < y.t15
 ·have lX:j < x.t14.n:=by omega
  have hg:y.t14.get (Int.toNat y.t16)=x.t14.get j:=by rw [f1,f3,Int.toNat_natCast]
  obtain ⟨sp,e,hp⟩:=Lz (x.t14.get j).t x.x x.y
  have e0:aP y=some (sp,e):=by
   unfold aP
   rw [hg,f4,f5]
   exact hp
  obtain ⟨i1,i2⟩:=hi j lX
  have tk:=UN (x:=x.x) (y:=x.y) x.t14 j lX
  have e1:=adH (⟨(ak ((x.t14.get j).da.d+sp.d)),(x.t14.get j).da.item,(x.t14.get j).da.cV,(x.t14.get j).da.part,sp.u,sp.v⟩:aZ) y.oO
  have e2:eM y=some (decide (ng (⟨(ak ((x.t14.get j).da.d+sp.d)),(x.t14.get j).da.item,(x.t14.get j).da.cV,(x.t14.get j).da.part,sp.u,sp.v⟩:aZ) y.oO)):=by
   unfold eM
   rw [e0,hg]
   exact e1
  simp only [e0,e2,hg,w1,cond_true,Bool.and_self,Option.isSome_some,Option.getD_some,decide_eq_true h,decide_eq_true (show (0:Int)≤y.t16 by omega),decide_eq_true (show y.t16 < ((y.t14.n:Nat):Int) by rw [f1]; omega),decide_eq_true i1,decide_eq_true (show (x.t14.get j).da.item < ((y.dR.cX.items.n:Nat):Int) by rw [f7,hs]; exact i2)]
  have IW:∀ {z:aZ×Bool} {y' : aE},y'.t14=y.t14→y'.t15=y.t15→y'.t16=y.t16+1→y'.x=y.x→y'.y=y.y→y'.dR=y.dR→(y'.oO,y'.pP)=z→z=Cv s (pt x.x x.y ((eV x.t14).take (j+1)))→
    (∃ x',(aJ.next y' : aJ aE) = .next x'∧j < x.t14.n∧x'.t14=x.t14∧x'.t15=(x.t14.n:Int)∧x'.t16=((j+1:Nat):Int)∧x'.x=x.x∧x'.y=x.y∧j+1≤x.t14.n∧x'.dR=x.dR∧(x'.oO,x'.pP)=Cv s (pt x.x x.y ((eV x.t14).take (j+1)))):=fun {z y'} q1 q2 q3 q4 q5 q6 q7 q8=>
   ⟨y',rfl,lX,q1.trans f1,q2.trans f2,by omega,q4.trans f4,q5.trans f5,by omega,q6.trans f7,q7.trans q8⟩
  cases he:(e==(0:Int)) with
  | false=>
   have DF:qA x.x x.y (x.t14.get j)=none:=by
    unfold qA
    rw [hp]
    simp only [he,cond_false]
   rw [cond_false]
   exact .inl (IW (z:=(y.oO,y.pP)) rfl rfl rfl rfl rfl rfl rfl (by rw [tk,DF,f8]; simp))
  | true=>
   have DF:qA x.x x.y (x.t14.get j)=some ⟨ak ((x.t14.get j).da.d+sp.d),(x.t14.get j).da.item,(x.t14.get j).da.cV,(x.t14.get j).da.part,sp.u,sp.v⟩:=by
    unfold qA
    rw [hp]
    simp only [he,cond_true]
   have mR:Cv s (pt x.x x.y ((eV x.t14).take (j+1)))=afG s (y.oO,y.pP) ⟨ak ((x.t14.get j).da.d+sp.d),(x.t14.get j).da.item,(x.t14.get j).da.cV,(x.t14.get j).da.part,sp.u,sp.v⟩:=by
    rw [tk,DF,f8]
    exact acn _ _ _
   have SQ:(y.dR.cX.items.get (Int.toNat (x.t14.get j).da.item)).look.Ik=fQ s ⟨ak ((x.t14.get j).da.d+sp.d),(x.t14.get j).da.item,(x.t14.get j).da.cV,(x.t14.get j).da.part,sp.u,sp.v⟩:=by
    rw [f7,hs]
    rfl
   rw [cond_true,SQ]
   unfold afG at mR
   cases hb:(!fQ s ⟨ak ((x.t14.get j).da.d+sp.d),(x.t14.get j).da.item,(x.t14.get j).da.cV,(x.t14.get j).da.part,sp.u,sp.v⟩) with
   | false=>
    rw [hb,cond_false] at mR
    rw [cond_false]
    exact .inl (IW rfl rfl rfl rfl rfl rfl rfl mR.symm)
   | true=>
    rw [hb,cond_true] at mR
    rw [cond_true]
    cases hc:(!y.pP) with
    | true=>
     rw [hc,cond_true] at mR
     rw [cond_true]
     exact .inl (IW rfl rfl rfl rfl rfl rfl rfl mR.symm)
    | false=>
     rw [hc,cond_false] at mR
     rw [cond_false]
     cases hd:decide (ng (⟨(ak ((x.t14.get j).da.d+sp.d)),(x.t14.get j).da.item,(x.t14.get j).da.cV,(x.t14.get j).da.part,sp.u,sp.v⟩:aZ) y.oO) with
     | true=>
      rw [hd,cond_true] at mR
      rw [cond_true]
      exact .inl (IW rfl rfl rfl rfl rfl rfl rfl mR.symm)
     | false=>
      rw [hd,cond_false] at mR
      rw [cond_false]
      exact .inl (IW rfl rfl rfl rfl rfl rfl rfl mR.symm)
 ·simp only [cond_false,decide_eq_false h]
  refine .inr ⟨_,_,rfl,rfl,rfl,?_⟩
  rw [f8,show j=x.t14.n by omega,List.take_of_length_le (by rw [oI]; exact Nat.le_refl _)]
theorem Sj (s:Show) (c:aU) (r:aB) (x y:Int) (h1:r.cX=s) (h2:eV r.parts=mT s c) (h3:r.parts.n≤98304):gz r x y=some (Cv s (pt x y (mT s c))):=by
 obtain ⟨e,z,hz,rfl,h6⟩:∃ e z,lP r x y = .out e z∧(e = .exit 0∧(z.oO,z.pP)=Cv s (pt x y (eV r.parts))):=by
  unfold lP
  refine adI s _ h1 (fun j hj=>?_) h3 rfl rfl rfl
  have hm:r.parts.get j∈eV r.parts:=Ly hj
  rw [h2] at hm
  obtain ⟨i,k,n,i1,i2,i3,e⟩:=UO hm
  show 0≤(r.parts.get j).da.item∧(r.parts.get j).da.item < (s.items.n:Int)
  rw [e]
  show 0≤(i:Int)∧(i:Int) < (s.items.n:Int)
  omega
 unfold gz
 rw [hz,← h2,← h6]
 rfl
end Go.Proofs.Ytahhdndhkgbcjaa.b
end
section
namespace Go.Proofs.Ytahhdndhkgbcjaa.b
open Go.K
open Go.aG (aw)
theorem aiC {α:Type} {Q:List α→Prop} (h0:Q []) (h1:∀ l x,Q l→Q (l++[x])) (l:List α):Q l:=by
 have:∀ (l pre:List α),Q pre→Q (pre++l):=by
  intro l
  induction l with
  | nil=>intro pre hp; rwa [List.append_nil]
  | cons x l ih=>intro pre hp; have:=ih (pre++[x]) (h1 _ _ hp); rwa [List.append_assoc] at this
 exact this l [] h0
def aks (s:Show) (l:List aZ) (b:aZ×Bool):Prop:=(b.2=false∧b.1=XA∧∀ g∈l,fQ s g=true)∨(b.2=true∧b.1∈l∧fQ s b.1=false∧∀ g∈l,fQ s g=false→¬ ng g b.1)
theorem afH {a b c:aZ} (h : ¬ ng a b) (h2:ng c b) : ¬ ng a c:=by
 unfold ng at *
 omega
theorem aco (a:aZ) : ¬ ng a a:=by
 unfold ng
 omega
theorem acp (s:Show) (l:List aZ):aks s l (Cv s l):=by
 refine aiC (Q:=fun l=>aks s l (Cv s l)) (.inl ⟨rfl,rfl,fun g hg=>by simp at hg⟩) (fun l f ih=>?_) l
 rw [acn]
 unfold afG
 cases hb:fQ s f with
 | true=>
  simp only [Bool.not_true,cond_false]
  rcases ih with ⟨h1,h2,h3⟩ | ⟨h1,h2,h3,h4⟩
  ·refine .inl ⟨h1,h2,fun g hg=>?_⟩
   rcases List.mem_append.1 hg with hg | hg
   ·exact h3 g hg
   ·rw [List.mem_singleton.1 hg]; exact hb
  ·refine .inr ⟨h1,List.mem_append_left _ h2,h3,fun g hg hgb=>?_⟩
   rcases List.mem_append.1 hg with hg | hg
   ·exact h4 g hg hgb
   ·rw [List.mem_singleton.1 hg,hb] at hgb; simp at hgb
 | false=>
  simp only [Bool.not_false,cond_true]
  rcases ih with ⟨h1,h2,h3⟩ | ⟨h1,h2,h3,h4⟩
  ·rw [h1]
   simp only [Bool.not_false,cond_true]
   refine .inr ⟨rfl,List.mem_append_right _ (List.mem_singleton.2 rfl),hb,fun g hg hgb=>?_⟩
   rcases List.mem_append.1 hg with hg | hg
   ·rw [h3 g hg] at hgb; simp at hgb
   ·rw [List.mem_singleton.1 hg]; exact aco f
  ·rw [h1]
   simp only [Bool.not_true,cond_false]
   by_cases hn:ng f (Cv s l).1
   ·rw [decide_eq_true hn,cond_true]
    refine .inr ⟨rfl,List.mem_append_right _ (List.mem_singleton.2 rfl),hb,fun g hg hgb=>?_⟩
    rcases List.mem_append.1 hg with hg | hg
    ·exact afH (h4 g hg hgb) hn
    ·rw [List.mem_singleton.1 hg]; exact aco f
   ·rw [decide_eq_false hn,cond_false]
    refine .inr ⟨h1,List.mem_append_left _ h2,h3,fun g hg hgb=>?_⟩
    rcases List.mem_append.1 hg with hg | hg
    ·exact h4 g hg hgb
    ·rw [List.mem_singleton.1 hg]; exact hn
theorem UQ {x y:Int} {p:dq} {f:aZ} (h:qA x y p=some f):f.item=p.da.item∧f.cV=p.da.cV∧f.part=p.da.part:=by
 unfold qA at h
 split at h
 ·rename_i sp e _
  cases he:(e==(0:Int)) with
  | true=>rw [he,cond_true] at h; injection h with h; subst h; exact ⟨rfl,rfl,rfl⟩
  | false=>rw [he,cond_false] at h; simp at h
 ·simp at h
theorem aaw {s:Show} {c:aU} {x y:Int} {f:aZ} (h:f∈pt x y (mT s c)):∃ i k n,i < s.items.n∧k < (s.items.get i).fO.n∧n < (prt s c i k).n∧qA x y (partAt s c i k n)=some f:=by
 obtain ⟨p,h1,h2⟩:=List.mem_filterMap.1 h
 obtain ⟨i,k,n,i1,i2,i3,rfl⟩:=UO h1
 exact ⟨i,k,n,i1,i2,i3,h2⟩
theorem UR {s:Show} {c:aU} {x y:Int} {f:aZ} (h:f∈pt x y (mT s c)):0≤f.item∧f.item < (s.items.n:Int):=by
 obtain ⟨i,k,n,i1,i2,i3,h2⟩:=aaw h
 obtain ⟨e1,_,_⟩:=UQ h2
 rw [e1]
 show 0≤(i:Int)∧(i:Int) < _
 omega
theorem akt {s:Show} {c:aU} {x y:Int} {f g:aZ} (h:f∈pt x y (mT s c)) (h' : g∈pt x y (mT s c)) (h1:f.item=g.item) (h2:f.cV=g.cV) (h3:f.part=g.part):f=g:=by
 obtain ⟨i,k,n,_,_,_,e⟩:=aaw h
 obtain ⟨i',k',n',_,_,_,e'⟩:=aaw h'
 obtain ⟨a1,a2,a3⟩:=UQ e
 obtain ⟨b1,b2,b3⟩:=UQ e'
 have c1:(i:Int)=(i' : Int):=a1.symm.trans (h1.trans b1)
 have c2:(k:Int)=(k' : Int):=a2.symm.trans (h2.trans b2)
 have c3:(n:Int)=(n' : Int):=a3.symm.trans (h3.trans b3)
 have d1:i=i':=by omega
 have d2:k=k':=by omega
 have d3:n=n':=by omega
 subst d1 d2 d3
 rw [e] at e'
 exact Option.some.inj e'
theorem afI {s:Show} {c:aU} {x y:Int} {f g:aZ} (h:f∈pt x y (mT s c)) (h' : g∈pt x y (mT s c)) (hn : ¬ ng g f) (dT:g≠f):ng f g:=by
 by_cases h1:f.item=g.item∧f.cV=g.cV∧f.part=g.part
 ·exact absurd (akt h h' h1.1 h1.2.1 h1.2.2).symm dT
 ·unfold ng at *
  omega
end Go.Proofs.Ytahhdndhkgbcjaa.b
end
section
namespace Go.Proofs.Ytahhdndhkgbcjaa.b
open Go.K
set_option linter.unusedVariables false
set_option linter.unusedSimpArgs false
noncomputable section
def LA:List (Nat×(List KV→KR KV)):=[(78,vj)]
def LB:List Lp:=[]
theorem UT:aq Try.prog LA:=(aq.cons v9 aq.nil)
theorem UU:aA Try.prog LB:=aA.nil
def xe (t:ew) (u:Int) (v:Int):(Option Int):=(gf t)
def th (t:ew) (u:Int) (v:Int):Option (Color×Int):=
 (cond (xe t u v).isSome
 (cond (((xe t u v).getD default) != (0:Int))
 (some ((⟨(0:Int),(0:Int),(0:Int),(0:Int)⟩:Color),((xe t u v).getD default)))
 (cond (decide ((min u v) < (0:Int)))
 (some ((⟨(0:Int),(0:Int),(0:Int),(0:Int)⟩:Color),(2:Int)))
 (cond (decide ((max u v) > (255:Int)))
 (some ((⟨(0:Int),(0:Int),(0:Int),(0:Int)⟩:Color),(2:Int)))
 (cond ((decide ((0:Int)≤(ak ((ak ((Int.fdiv (ak (v * t.h)) (256:Int)) * t.w))+(Int.fdiv (ak (u * t.w)) (256:Int))))))&&(decide ((ak ((ak ((Int.fdiv (ak (v * t.h)) (256:Int)) * t.w))+(Int.fdiv (ak (u * t.w)) (256:Int)))) < ((t.En.n:Nat):Int))))
 (some ((t.En.get (Int.toNat (ak ((ak ((Int.fdiv (ak (v * t.h)) (256:Int)) * t.w))+(Int.fdiv (ak (u * t.w)) (256:Int)))))),(0:Int)))
 none))))
 none)
theorem WW (t:ew) (u:Int) (v:Int):dn Try.prog (bp Try.prog LA LB (fun q=>Nat.beq q 58)) 9 9 47 [nK t,(kI .i64) u,(kI .i64) v] = (th t u v).map (fun (r:Color×Int)=>KV.jE [fV r.1,(kI .i64) r.2]):=by
 unfold th
 try simp only [b7]
 kernel_rfl
def NU:List KV→KR KV:=cr Try.prog 47 (cD (fun (r:Color×Int)=>KV.jE [fV r.1,(kI .i64) r.2]) fun vs=>th (kh (vs.getD 0 .ax)) (intOf (vs.getD 1 .ax)) (intOf (vs.getD 2 .ax)))
theorem UW (w:Nat→KV):cM Try.prog [108,3,3] w 0 = [nK (kh (ay Try.prog (ao Try.prog av) 108 (w 0))),(kI .i64) (intOf (ay Try.prog (ao Try.prog av) 3 (w 1))),(kI .i64) (intOf (ay Try.prog (ao Try.prog av) 3 (w 2)))]:=by kernel_rfl
theorem UX:b9 Try.prog 47 NU:=aX funcs mixed UT UU (L:=9) (n:=9) fun w=>by
 have e:aK Try.prog 47 = [108,3,3]:=by kernel_rfl
 rw [e,UW]
 exact (WW (kh (ay Try.prog (ao Try.prog av) 108 (w 0))) (intOf (ay Try.prog (ao Try.prog av) 3 (w 1))) (intOf (ay Try.prog (ao Try.prog av) 3 (w 2)))).trans (by kernel_rfl)
def NV:List (Nat×(List KV→KR KV)):=[]
def NW:List Lp:=[]
theorem WX:aq Try.prog NV:=aq.nil
theorem WY:aA Try.prog NW:=aA.nil
def Iz (a:Color) (b:Color):Option (Color):=
 (some ((⟨(w8 (ak (Int.tdiv (ak ((ak a.e0) * (ak b.e0))) (255:Int)))),(w8 (ak (Int.tdiv (ak ((ak a.e1) * (ak b.e1))) (255:Int)))),(w8 (ak (Int.tdiv (ak ((ak a.e2) * (ak b.e2))) (255:Int)))),(w8 (ak (Int.tdiv (ak ((ak a.e3) * (ak b.e3))) (255:Int))))⟩:Color)))
theorem aax (a:Color) (b:Color):dn Try.prog (bp Try.prog NV NW (fun q=>Nat.beq q 58)) 9 9 48 [fV a,fV b] = (Iz a b).map fV:=by
 unfold Iz
 kernel_rfl
def Sk:List KV→KR KV:=cr Try.prog 48 (cD fV fun vs=>Iz (kf (vs.getD 0 .ax)) (kf (vs.getD 1 .ax)))
theorem WZ (w:Nat→KV):cM Try.prog [37,37] w 0 = [fV (kf (ay Try.prog (ao Try.prog av) 37 (w 0))),fV (kf (ay Try.prog (ao Try.prog av) 37 (w 1)))]:=by kernel_rfl
theorem W3:b9 Try.prog 48 Sk:=aX funcs mixed WX WY (L:=9) (n:=9) fun w=>by
 have e:aK Try.prog 48 = [37,37]:=by kernel_rfl
 rw [e,WZ]
 exact (aax (kf (ay Try.prog (ao Try.prog av) 37 (w 0))) (kf (ay Try.prog (ao Try.prog av) 37 (w 1)))).trans (by kernel_rfl)
def JA:List (Nat×(List KV→KR KV)):=[(48,Sk),(47,NU),(46,pe),(45,tG)]
def JB:List Lp:=[]
theorem Sm:aq Try.prog JA:=(aq.cons W3 (aq.cons UX (aq.cons pE (aq.cons uD aq.nil))))
theorem Sn:aA Try.prog JB:=aA.nil
def vC (l:uE) (aR:(Sl ew)) (u:Int) (v:Int):(Option Int):=(gj aR)
def vD (l:uE) (aR:(Sl ew)) (u:Int) (v:Int):(Option Int):=(fG l ((aR.n:Nat):Int))
def m7 (l:uE) (aR:(Sl ew)) (u:Int) (v:Int):(Option (Prod Color Int)):=(th (aR.get (Int.toNat l.n7)) u v)
def pw (l:uE) (aR:(Sl ew)) (u:Int) (v:Int):Option (Color×Int):=
 (cond (vC l aR u v).isSome
 (cond (((vC l aR u v).getD default) != (0:Int))
 (some ((⟨(0:Int),(0:Int),(0:Int),(0:Int)⟩:Color),((vC l aR u v).getD default)))
 (cond (vD l aR u v).isSome
 (cond (((vD l aR u v).getD default) != (0:Int))
 (some ((⟨(0:Int),(0:Int),(0:Int),(0:Int)⟩:Color),((vD l aR u v).getD default)))
 (cond (decide ((min u v) < (0:Int)))
 (some ((⟨(0:Int),(0:Int),(0:Int),(0:Int)⟩:Color),(2:Int)))
 (cond (decide ((max u v) > (255:Int)))
 (some ((⟨(0:Int),(0:Int),(0:Int),(0:Int)⟩:Color),(2:Int)))
 (cond (decide (l.n7 < (0:Int)))
 (some (l.color,(0:Int)))
 (cond ((decide ((0:Int)≤l.n7))&&(decide (l.n7 < ((aR.n:Nat):Int))))
 (cond (m7 l aR u v).isSome
 (some ((⟨(w8 (ak (Int.tdiv (ak ((ak l.color.e0) * (ak ((m7 l aR u v).getD default).fst.e0))) (255:Int)))),(w8 (ak (Int.tdiv (ak ((ak l.color.e1) * (ak ((m7 l aR u v).getD default).fst.e1))) (255:Int)))),(w8 (ak (Int.tdiv (ak ((ak l.color.e2) * (ak ((m7 l aR u v).getD default).fst.e2))) (255:Int)))),(w8 (ak (Int.tdiv (ak ((ak l.color.e3) * (ak ((m7 l aR u v).getD default).fst.e3))) (255:Int))))⟩:Color),((m7 l aR u v).getD default).snd))
 none)
 none)))))
 none))
 none)
theorem UY (l:uE) (aR:(Sl ew)) (u:Int) (v:Int):dn Try.prog (bp Try.prog JA JB (fun q=>Nat.beq q 58)) 9 9 18 [adx l,(iU 108 nK) aR,(kI .i64) u,(kI .i64) v] = (pw l aR u v).map (fun (r:Color×Int)=>KV.jE [fV r.1,(kI .i64) r.2]):=by
 unfold pw
 try simp only [b7]
 kernel_rfl
def LC:List KV→KR KV:=cr Try.prog 18 (cD (fun (r:Color×Int)=>KV.jE [fV r.1,(kI .i64) r.2]) fun vs=>pw (Um (vs.getD 0 .ax)) ((iw kh) (vs.getD 1 .ax)) (intOf (vs.getD 2 .ax)) (intOf (vs.getD 3 .ax)))
theorem Sp (w:Nat→KV):cM Try.prog [39,23,3,3] w 0 = [adx (Um (ay Try.prog (ao Try.prog av) 39 (w 0))),(iU 108 nK) ((iw kh) (ay Try.prog (ao Try.prog av) 23 (w 1))),(kI .i64) (intOf (ay Try.prog (ao Try.prog av) 3 (w 2))),(kI .i64) (intOf (ay Try.prog (ao Try.prog av) 3 (w 3)))]:=by kernel_rfl
theorem Sq:b9 Try.prog 18 LC:=aX funcs mixed Sm Sn (L:=9) (n:=9) fun w=>by
 have e:aK Try.prog 18 = [39,23,3,3]:=by kernel_rfl
 rw [e,Sp]
 exact (UY (Um (ay Try.prog (ao Try.prog av) 39 (w 0))) ((iw kh) (ay Try.prog (ao Try.prog av) 23 (w 1))) (intOf (ay Try.prog (ao Try.prog av) 3 (w 2))) (intOf (ay Try.prog (ao Try.prog av) 3 (w 3)))).trans (by kernel_rfl)
def zI:List (Nat×(List KV→KR KV)):=[(18,LC)]
def zJ:List Lp:=[]
theorem GM:aq Try.prog zI:=(aq.cons Sq aq.nil)
theorem GN:aA Try.prog zJ:=aA.nil
def sM (s:aB) (f:aZ):(Option (Prod Color Int)):=(pw (s.cX.items.get (Int.toNat f.item)).look s.cX.aR f.u f.v)
def j6 (s:aB) (f:aZ):Option (Color):=
 (cond ((decide ((0:Int)≤f.item))&&(decide (f.item < ((s.cX.items.n:Nat):Int))))
 (cond (sM s f).isSome
 (some (((sM s f).getD default).fst))
 none)
 none)
theorem IA (s:aB) (f:aZ):dn Try.prog (bp Try.prog zI zJ (fun q=>Nat.beq q 58)) 9 9 74 [lZ s,gZ f] = (j6 s f).map fV:=by
 unfold j6
 try simp only [b7]
 kernel_rfl
def qB:List KV→KR KV:=cr Try.prog 74 (cD fV fun vs=>j6 (np (vs.getD 0 .ax)) (hH (vs.getD 1 .ax)))
theorem GP (w:Nat→KV):cM Try.prog [96,58] w 0 = [lZ (np (ay Try.prog (ao Try.prog av) 96 (w 0))),gZ (hH (ay Try.prog (ao Try.prog av) 58 (w 1)))]:=by kernel_rfl
theorem rT:b9 Try.prog 74 qB:=aX funcs mixed GM GN (L:=9) (n:=9) fun w=>by
 have e:aK Try.prog 74 = [96,58]:=by kernel_rfl
 rw [e,GP]
 exact (IA (np (ay Try.prog (ao Try.prog av) 96 (w 0))) (hH (ay Try.prog (ao Try.prog av) 58 (w 1)))).trans (by kernel_rfl)
def LD:List (Nat×(List KV→KR KV)):=[]
def LF:List Lp:=[]
theorem UZ:aq Try.prog LD:=aq.nil
theorem U0:aA Try.prog LF:=aA.nil
def A4 (top:Color) (under:Color):Option (Color):=
 (some ((⟨(w8 (ak (Int.tdiv (ak ((ak ((ak top.e0) * (ak top.e3)))+(ak ((ak under.e0) * (ak ((255:Int) - (ak top.e3))))))) (255:Int)))),(w8 (ak (Int.tdiv (ak ((ak ((ak top.e1) * (ak top.e3)))+(ak ((ak under.e1) * (ak ((255:Int) - (ak top.e3))))))) (255:Int)))),(w8 (ak (Int.tdiv (ak ((ak ((ak top.e2) * (ak top.e3)))+(ak ((ak under.e2) * (ak ((255:Int) - (ak top.e3))))))) (255:Int)))),(w8 (ak (Int.tdiv (ak ((ak ((255:Int) * (ak top.e3)))+(ak ((ak under.e3) * (ak ((255:Int) - (ak top.e3))))))) (255:Int))))⟩:Color)))
theorem W4 (top:Color) (under:Color):dn Try.prog (bp Try.prog LD LF (fun q=>Nat.beq q 58)) 9 9 19 [fV top,fV under] = (A4 top under).map fV:=by
 unfold A4
 kernel_rfl
def A5:List KV→KR KV:=cr Try.prog 19 (cD fV fun vs=>A4 (kf (vs.getD 0 .ax)) (kf (vs.getD 1 .ax)))
theorem U1 (w:Nat→KV):cM Try.prog [37,37] w 0 = [fV (kf (ay Try.prog (ao Try.prog av) 37 (w 0))),fV (kf (ay Try.prog (ao Try.prog av) 37 (w 1)))]:=by kernel_rfl
theorem Aq:b9 Try.prog 19 A5:=aX funcs mixed UZ U0 (L:=9) (n:=9) fun w=>by
 have e:aK Try.prog 19 = [37,37]:=by kernel_rfl
 rw [e,U1]
 exact (W4 (kf (ay Try.prog (ao Try.prog av) 37 (w 0))) (kf (ay Try.prog (ao Try.prog av) 37 (w 1)))).trans (by kernel_rfl)
structure aD where
 x:Int
 y:Int
 t14:(Sl dq)
 t15:Int
 t16:Int
 dR:aB
 pP:Bool
 oO:aZ
 fU:(Sl aZ)
instance:Inhabited aD:=⟨⟨default,default,default,default,default,default,default,default,default⟩⟩
def fj (x:aD):List KV:=[.int .i64 x.x,.int .i64 x.y,.fn (.func 75) [] [.ptr 0 0,.ptr 1 0,.ptr 2 0,.ptr 3 0],iU 139 sH x.t14,.int .i64 x.t15,.int .i64 x.t16]
def fk (x:aD):List (List KV):=[cI x.dR,[.bool x.pP],ady x.oO,[iU 58 gZ x.fU]]
def lB (vs:List KV) (rs:List (List KV)):aD:=⟨intOf (vs.getD 0 .ax),intOf (vs.getD 1 .ax),iw sI (vs.getD 3 .ax),intOf (vs.getD 4 .ax),intOf (vs.getD 5 .ax),cJ (fun k=>(rs.getD 0 []).getD k .ax),og ((rs.getD 1 []).getD 0 .ax),adz (fun k=>(rs.getD 2 []).getD k .ax),iw hH ((rs.getD 3 []).getD 0 .ax)⟩
def lQ:aQ:=⟨[(1,⟨false,[.k (.int .i64)]⟩),(2,⟨false,[.k (.int .i64)]⟩),(3,⟨false,[.ref (.fn (.func 75) [] [.ptr 0 0,.ptr 1 0,.ptr 2 0,.ptr 3 0])]⟩),(14,⟨false,[.k (.slice 139)]⟩),(15,⟨false,[.k (.int .i64)]⟩),(16,⟨false,[.k (.int .i64)]⟩)],[(100003,[.k (.slice 45),.k (.slice 108),.k (.slice 139)],1),(200003,[.k .bool],1),(300003,[.k (.int .i64),.k (.int .i64),.k (.int .i64),.k (.int .i64),.k (.int .i64),.k (.int .i64)],1),(400003,[.arr 58],1)],[]⟩
def qT:=jf Try.prog (bp Try.prog [(19,A5),(35,cc),(66,r5),(74,qB),(43,ib)] [] (fun q=>Nat.beq q 58) false false [lU]) 9 9 41 14 (eX Try.prog 41 14) lQ
def bd (x:aD):(Option (Prod fY Int)):=(oE (x.t14.get (Int.toNat x.t16)).t x.x x.y)
def bL (x:aD):aJ aD:=
 (cond (decide (x.t16 < x.t15))
 (cond ((decide ((0:Int)≤x.t16))&&(decide (x.t16 < ((x.t14.n:Nat):Int))))
 (cond (bd x).isSome
 (cond (((bd x).getD default).snd==(0:Int))
 (cond ((decide ((0:Int)≤(x.t14.get (Int.toNat x.t16)).da.item))&&(decide ((x.t14.get (Int.toNat x.t16)).da.item < ((x.dR.cX.items.n:Nat):Int))))
 (cond (x.dR.cX.items.get (Int.toNat (x.t14.get (Int.toNat x.t16)).da.item)).look.Ik
 (cond (!x.pP)
 (cond ((Nat.ble (((x.fU.n+1)+512) * 48) 17592186044416)&&(Nat.ble (x.fU.n+1) 17592186044416))
 (cond (au x.fU.n x.fU.n)
 (.next (⟨x.x,x.y,x.t14,x.t15,(ak (x.t16+(1:Int))),x.dR,x.pP,x.oO,(x.fU.push (⟨(ak ((x.t14.get (Int.toNat x.t16)).da.d+((bd x).getD default).fst.d)),(x.t14.get (Int.toNat x.t16)).da.item,(x.t14.get (Int.toNat x.t16)).da.cV,(x.t14.get (Int.toNat x.t16)).da.part,((bd x).getD default).fst.u,((bd x).getD default).fst.v⟩:aZ))⟩:aD))
 .fail)
 .fail)
 (cond (decide ((ak ((x.t14.get (Int.toNat x.t16)).da.d+((bd x).getD default).fst.d)) > x.oO.d))
 (cond ((Nat.ble (((x.fU.n+1)+512) * 48) 17592186044416)&&(Nat.ble (x.fU.n+1) 17592186044416))
 (cond (au x.fU.n x.fU.n)
 (.next (⟨x.x,x.y,x.t14,x.t15,(ak (x.t16+(1:Int))),x.dR,x.pP,x.oO,(x.fU.push (⟨(ak ((x.t14.get (Int.toNat x.t16)).da.d+((bd x).getD default).fst.d)),(x.t14.get (Int.toNat x.t16)).da.item,(x.t14.get (Int.toNat x.t16)).da.cV,(x.t14.get (Int.toNat x.t16)).da.part,((bd x).getD default).fst.u,((bd x).getD default).fst.v⟩:aZ))⟩:aD))
 .fail)
 .fail)
 (cond (au x.fU.n x.fU.n)
 (.next (⟨x.x,x.y,x.t14,x.t15,(ak (x.t16+(1:Int))),x.dR,x.pP,x.oO,x.fU⟩:aD))
 .fail)))
 (cond (au x.fU.n x.fU.n)
 (.next (⟨x.x,x.y,x.t14,x.t15,(ak (x.t16+(1:Int))),x.dR,x.pP,x.oO,x.fU⟩:aD))
 .fail))
 .fail)
 (cond (au x.fU.n x.fU.n)
 (.next (⟨x.x,x.y,x.t14,x.t15,(ak (x.t16+(1:Int))),x.dR,x.pP,x.oO,x.fU⟩:aD))
 .fail))
 .fail)
 .fail)
 (cond (au x.fU.n x.fU.n)
 (.out (aG.aw.exit 0) x)
 .fail))
theorem qC (x:aD):qT (fj x) (fk x)=aJ.enc fj fk (bL x):=by
 unfold bL
 try simp only [aJ.dg,aah]
 kernel_rfl
def dX:Lp:=⟨41,14,lQ,fun vs rs=>dD fj fk (goN bL (lB vs rs)) [aG.aw.exit 0],false⟩
theorem lC:dX.Ok Try.prog:=eF funcs mixed (aq.cons Aq (aq.cons bI (aq.cons pb (aq.cons rT (aq.cons hJ aq.nil))))) aA.nil (L:=9) (n:=9) (step:=bL) (ev:=fj) (er:=fk) (pa:=lB) rfl (fun wv wr=>⟨by kernel_rfl,by kernel_rfl⟩) qC (BN:=(fN.cons nE fN.nil))
theorem kz:cz Try.prog dX.f dX.p=true:=by kernel_rfl
structure cw where
 t33:(Sl aZ)
 t34:Int
 t35:Int
 s:aB
 ground:Color
 t8:Color
instance:Inhabited cw:=⟨⟨default,default,default,default,default,default⟩⟩
def mw (x:cw):List KV:=[iU 58 gZ x.t33,.int .i64 x.t34,.int .i64 x.t35]
def mz (x:cw):List (List KV):=[cI x.s,Mf x.ground,Mf x.t8]
def uL (vs:List KV) (rs:List (List KV)):cw:=⟨iw hH (vs.getD 0 .ax),intOf (vs.getD 1 .ax),intOf (vs.getD 2 .ax),cJ (fun k=>(rs.getD 0 []).getD k .ax),Mg (fun k=>(rs.getD 1 []).getD k .ax),Mg (fun k=>(rs.getD 2 []).getD k .ax)⟩
def vM:aQ:=⟨[(33,⟨false,[.arr 58]⟩),(34,⟨false,[.k (.int .i64)]⟩),(35,⟨false,[.k (.int .i64)]⟩)],[(4,[.k (.slice 45),.k (.slice 108),.k (.slice 139)],1),(5,[.k (.int .u8),.k (.int .u8),.k (.int .u8),.k (.int .u8)],1),(8,[.k (.int .u8),.k (.int .u8),.k (.int .u8),.k (.int .u8)],1)],[(4,0,0),(5,1,0),(8,2,0)]⟩
def Dz:=jf Try.prog (bp Try.prog [(19,A5),(35,cc),(66,r5),(74,qB),(43,ib)] [dX] (fun q=>Nat.beq q 58) false false [lU]) 9 9 44 1018 (eX Try.prog 44 1018) vM
def bZ (x:cw):(Option Color):=(j6 x.s (x.t33.get (0+(Int.toNat x.t35))))
def dP (x:cw):aJ cw:=
 (cond (decide (x.t35 < x.t34))
 (cond ((decide ((0:Int)≤x.t35))&&(decide (x.t35 < ((x.t33.n:Nat):Int))))
 (cond (bZ x).isSome
 (cond (au x.t33.n x.t33.n)
 (.next (⟨x.t33,x.t34,(ak (x.t35+(1:Int))),x.s,(⟨(w8 (ak (Int.tdiv (ak ((ak ((ak ((bZ x).getD default).e0) * (ak ((bZ x).getD default).e3)))+(ak ((ak x.ground.e0) * (ak ((255:Int) - (ak ((bZ x).getD default).e3))))))) (255:Int)))),(w8 (ak (Int.tdiv (ak ((ak ((ak ((bZ x).getD default).e1) * (ak ((bZ x).getD default).e3)))+(ak ((ak x.ground.e1) * (ak ((255:Int) - (ak ((bZ x).getD default).e3))))))) (255:Int)))),(w8 (ak (Int.tdiv (ak ((ak ((ak ((bZ x).getD default).e2) * (ak ((bZ x).getD default).e3)))+(ak ((ak x.ground.e2) * (ak ((255:Int) - (ak ((bZ x).getD default).e3))))))) (255:Int)))),(w8 (ak (Int.tdiv (ak ((ak ((255:Int) * (ak ((bZ x).getD default).e3)))+(ak ((ak x.ground.e3) * (ak ((255:Int) - (ak ((bZ x).getD default).e3))))))) (255:Int))))⟩:Color),x.t8⟩:cw))
 .fail)
 .fail)
 .fail)
 (cond (au x.t33.n x.t33.n)
 (.out (aG.aw.exit 0) x)
 .fail))
theorem BV (x:cw):Dz (mw x) (mz x)=aJ.enc mw mz (dP x):=by
 unfold dP
 try simp only [aJ.dg]
 kernel_rfl
def mP:Lp:=⟨44,1018,vM,fun vs rs=>dD mw mz (goN dP (uL vs rs)) [aG.aw.exit 0],false⟩
theorem DA:mP.Ok Try.prog:=eF funcs mixed (aq.cons Aq (aq.cons bI (aq.cons pb (aq.cons rT (aq.cons hJ aq.nil))))) (aA.cons lC kz aA.nil) (L:=9) (n:=9) (step:=dP) (ev:=mw) (er:=mz) (pa:=uL) rfl (fun wv wr=>⟨by kernel_rfl,by kernel_rfl⟩) BV (BN:=(fN.cons nE fN.nil))
theorem Bs:cz Try.prog mP.f mP.p=true:=by kernel_rfl
def zL:List (Nat×(List KV→KR KV)):=[(19,A5),(35,cc),(66,r5),(74,qB),(43,ib)]
def zM:List Lp:=[mP,dX]
theorem GQ:aq Try.prog zL:=(aq.cons Aq (aq.cons bI (aq.cons pb (aq.cons rT (aq.cons hJ aq.nil)))))
theorem GS:aA Try.prog zM:=(aA.cons DA Bs (aA.cons lC kz aA.nil))
def kr (s:aB) (ground:Color) (x:Int) (y:Int):(Option (Prod aZ Bool)):=(gz s x y)
def ow (s:aB) (ground:Color) (x:Int) (y:Int):(Option Color):=(j6 s ((kr s ground x y).getD default).fst)
def cf (s:aB) (ground:Color) (x:Int) (y:Int):(aJ aD):=(goN bL (⟨x,y,s.parts,((s.parts.n:Nat):Int),(0:Int),s,((kr s ground x y).getD default).snd,((kr s ground x y).getD default).fst,(⟨0,(fun i=>(⟨(0:Int),(0:Int),(0:Int),(0:Int),(0:Int),(0:Int)⟩:aZ))⟩:Sl _)⟩:aD))
def dQ (s:aB) (ground:Color) (x:Int) (y:Int):(aJ bO):=(jI (⟨(cf s ground x y).st.fU,(((cf s ground x y).st.fU.n:Nat):Int),(cf s ground x y).st.dR⟩:bO))
def ku (s:aB) (ground:Color) (x:Int) (y:Int):(aJ cw):=(goN dP (⟨(dQ s ground x y).st.data,(((cf s ground x y).st.fU.n:Nat):Int),(0:Int),(dQ s ground x y).st.held,((ow s ground x y).getD default),(⟨(0:Int),(0:Int),(0:Int),(0:Int)⟩:Color)⟩:cw))
def kv (s:aB) (ground:Color) (x:Int) (y:Int):(aJ cw):=(goN dP (⟨(dQ s ground x y).st.data,(((cf s ground x y).st.fU.n:Nat):Int),(0:Int),(dQ s ground x y).st.held,ground,(⟨(0:Int),(0:Int),(0:Int),(0:Int)⟩:Color)⟩:cw))
def fZ (s:aB) (ground:Color) (x:Int) (y:Int):Option (Color):=
 (cond (kr s ground x y).isSome
 (cond ((kr s ground x y).getD default).snd
 (cond (ow s ground x y).isSome
 (cond ((cf s ground x y).by (aG.aw.exit 0))
 (cond (au (cf s ground x y).st.fU.n (cf s ground x y).st.fU.n)
 (cond ((dQ s ground x y).by aG.aw.ret)
 (cond (au (dQ s ground x y).st.data.n (cf s ground x y).st.fU.n)
 (cond ((ku s ground x y).by (aG.aw.exit 0))
 (some ((ku s ground x y).st.ground))
 none)
 none)
 none)
 none)
 none)
 none)
 (cond ((cf s ground x y).by (aG.aw.exit 0))
 (cond (au (cf s ground x y).st.fU.n (cf s ground x y).st.fU.n)
 (cond ((dQ s ground x y).by aG.aw.ret)
 (cond (au (dQ s ground x y).st.data.n (cf s ground x y).st.fU.n)
 (cond ((kv s ground x y).by (aG.aw.exit 0))
 (some ((kv s ground x y).st.ground))
 none)
 none)
 none)
 none)
 none))
 none)
theorem IB (s:aB) (ground:Color) (x:Int) (y:Int):dn Try.prog (bp Try.prog zL zM (fun q=>Nat.beq q 58) false false [lU]) 9 9 44 [lZ s,fV ground,(kI .i64) x,(kI .i64) y] = (fZ s ground x y).map fV:=by
 unfold fZ
 try simp only [b7]
 kernel_rfl
def nF:List KV→KR KV:=cr Try.prog 44 (cD fV fun vs=>fZ (np (vs.getD 0 .ax)) (kf (vs.getD 1 .ax)) (intOf (vs.getD 2 .ax)) (intOf (vs.getD 3 .ax)))
theorem GU (w:Nat→KV):cM Try.prog [96,37,3,3] w 0 = [lZ (np (ay Try.prog (ao Try.prog av) 96 (w 0))),fV (kf (ay Try.prog (ao Try.prog av) 37 (w 1))),(kI .i64) (intOf (ay Try.prog (ao Try.prog av) 3 (w 2))),(kI .i64) (intOf (ay Try.prog (ao Try.prog av) 3 (w 3)))]:=by kernel_rfl
theorem nM:b9 Try.prog 44 nF:=aX funcs mixed GQ GS (L:=9) (n:=9) (BN:=(fN.cons nE fN.nil)) fun w=>by
 have e:aK Try.prog 44 = [96,37,3,3]:=by kernel_rfl
 rw [e,GU]
 exact (IB (np (ay Try.prog (ao Try.prog av) 96 (w 0))) (kf (ay Try.prog (ao Try.prog av) 37 (w 1))) (intOf (ay Try.prog (ao Try.prog av) 3 (w 2))) (intOf (ay Try.prog (ao Try.prog av) 3 (w 3)))).trans (by kernel_rfl)
end
end Go.Proofs.Ytahhdndhkgbcjaa.b
end
section
namespace Go.Proofs.Ytahhdndhkgbcjaa.b
open Go.K
set_option linter.unusedVariables false
set_option linter.unusedSimpArgs false
noncomputable section
def GV:List (Nat×(List KV→KR KV)):=[(43,ib),(40,Br)]
def GW:List Lp:=[]
theorem Pu:aq Try.prog GV:=(aq.cons hJ (aq.cons ze aq.nil))
theorem Pv:aA Try.prog GW:=aA.nil
def nN (s:Show) (c:aU) (x:Int) (y:Int):(Option (Prod aB Int)):=(oH s c x y)
def qD (s:Show) (c:aU) (x:Int) (y:Int):(Option (Prod aZ Bool)):=(gz ((nN s c x y).getD default).fst x y)
def mI (s:Show) (c:aU) (x:Int) (y:Int):Option (aZ×Bool×Int):=
 (cond (nN s c x y).isSome
 (cond (((nN s c x y).getD default).snd != (0:Int))
 (some ((⟨(0:Int),(0:Int),(0:Int),(0:Int),(0:Int),(0:Int)⟩:aZ),false,((nN s c x y).getD default).snd))
 (cond (qD s c x y).isSome
 (cond (!((qD s c x y).getD default).snd)
 (some ((⟨(0:Int),(0:Int),(0:Int),(0:Int),(0:Int),(0:Int)⟩:aZ),false,(0:Int)))
 (some (((qD s c x y).getD default).fst,true,(0:Int))))
 none))
 none)
theorem Sr (s:Show) (c:aU) (x:Int) (y:Int):dn Try.prog (bp Try.prog GV GW (fun _=>false)) 9 9 16 [ov s,iZ c,(kI .i64) x,(kI .i64) y] = (mI s c x y).map (fun (r:aZ×Bool×Int)=>KV.jE [gZ r.1,kB r.2.1,(kI .i64) r.2.2]):=by
 unfold mI
 try simp only [b7]
 kernel_rfl
def xf:List KV→KR KV:=cr Try.prog 16 (cD (fun (r:aZ×Bool×Int)=>KV.jE [gZ r.1,kB r.2.1,(kI .i64) r.2.2]) fun vs=>mI (kW (vs.getD 0 .ax)) (fw (vs.getD 1 .ax)) (intOf (vs.getD 2 .ax)) (intOf (vs.getD 3 .ax)))
theorem Pw (w:Nat→KV):cM Try.prog [25,53,3,3] w 0 = [ov (kW (ay Try.prog (ao Try.prog av) 25 (w 0))),iZ (fw (ay Try.prog (ao Try.prog av) 53 (w 1))),(kI .i64) (intOf (ay Try.prog (ao Try.prog av) 3 (w 2))),(kI .i64) (intOf (ay Try.prog (ao Try.prog av) 3 (w 3)))]:=by kernel_rfl
theorem xP:b9 Try.prog 16 xf:=aX funcs mixed Pu Pv (L:=9) (n:=9) fun w=>by
 have e:aK Try.prog 16 = [25,53,3,3]:=by kernel_rfl
 rw [e,Pw]
 exact (Sr (kW (ay Try.prog (ao Try.prog av) 25 (w 0))) (fw (ay Try.prog (ao Try.prog av) 53 (w 1))) (intOf (ay Try.prog (ao Try.prog av) 3 (w 2))) (intOf (ay Try.prog (ao Try.prog av) 3 (w 3)))).trans (by kernel_rfl)
def JC:List (Nat×(List KV→KR KV)):=[(44,nF),(40,Br)]
def JD:List Lp:=[]
theorem Ss:aq Try.prog JC:=(aq.cons nM (aq.cons ze aq.nil))
theorem Su:aA Try.prog JD:=aA.nil
def oW (s:Show) (c:aU) (ground:Color) (x:Int) (y:Int):(Option (Prod aB Int)):=(oH s c x y)
def vE (s:Show) (c:aU) (ground:Color) (x:Int) (y:Int):(Option Color):=(fZ ((oW s c ground x y).getD default).fst ground x y)
def nG (s:Show) (c:aU) (ground:Color) (x:Int) (y:Int):Option (Color×Int):=
 (cond (oW s c ground x y).isSome
 (cond (((oW s c ground x y).getD default).snd != (0:Int))
 (some ((⟨(0:Int),(0:Int),(0:Int),(0:Int)⟩:Color),((oW s c ground x y).getD default).snd))
 (cond (vE s c ground x y).isSome
 (some (((vE s c ground x y).getD default),(0:Int)))
 none))
 none)
theorem U2 (s:Show) (c:aU) (ground:Color) (x:Int) (y:Int):dn Try.prog (bp Try.prog JC JD (fun _=>false)) 9 9 17 [ov s,iZ c,fV ground,(kI .i64) x,(kI .i64) y] = (nG s c ground x y).map (fun (r:Color×Int)=>KV.jE [fV r.1,(kI .i64) r.2]):=by
 unfold nG
 try simp only [b7]
 kernel_rfl
def zn:List KV→KR KV:=cr Try.prog 17 (cD (fun (r:Color×Int)=>KV.jE [fV r.1,(kI .i64) r.2]) fun vs=>nG (kW (vs.getD 0 .ax)) (fw (vs.getD 1 .ax)) (kf (vs.getD 2 .ax)) (intOf (vs.getD 3 .ax)) (intOf (vs.getD 4 .ax)))
theorem Sv (w:Nat→KV):cM Try.prog [25,53,37,3,3] w 0 = [ov (kW (ay Try.prog (ao Try.prog av) 25 (w 0))),iZ (fw (ay Try.prog (ao Try.prog av) 53 (w 1))),fV (kf (ay Try.prog (ao Try.prog av) 37 (w 2))),(kI .i64) (intOf (ay Try.prog (ao Try.prog av) 3 (w 3))),(kI .i64) (intOf (ay Try.prog (ao Try.prog av) 3 (w 4)))]:=by kernel_rfl
theorem zo:b9 Try.prog 17 zn:=aX funcs mixed Ss Su (L:=9) (n:=9) fun w=>by
 have e:aK Try.prog 17 = [25,53,37,3,3]:=by kernel_rfl
 rw [e,Sv]
 exact (U2 (kW (ay Try.prog (ao Try.prog av) 25 (w 0))) (fw (ay Try.prog (ao Try.prog av) 53 (w 1))) (kf (ay Try.prog (ao Try.prog av) 37 (w 2))) (intOf (ay Try.prog (ao Try.prog av) 3 (w 3))) (intOf (ay Try.prog (ao Try.prog av) 3 (w 4)))).trans (by kernel_rfl)
structure Frame where
 w:Int
 h:Int
 color:(Sl Color)
 depth:(Sl Int)
 item:(Sl Int)
 cV:(Sl Int)
instance:Inhabited Frame:=⟨⟨default,default,default,default,default,default⟩⟩
def Sx (x:Frame):List KV:=[.int .i64 x.w,.int .i64 x.h,iU 37 fV x.color,iU 3 (kI .i64) x.depth,iU 3 (kI .i64) x.item,iU 3 (kI .i64) x.cV]
def ahL (x:Frame):KV:=.agg (Sx x)
def XB (c:Nat→KV):Frame:=⟨intOf (c 0),intOf (c 1),iw kf (c 2),iw intOf (c 3),iw intOf (c 4),iw intOf (c 5)⟩
structure fH where
 t7:Int
 t31:Int
 t32:Int
 c:aU
 ground:Color
 t6:Frame
 all:aB
 f:Frame
instance:Inhabited fH:=⟨⟨default,default,default,default,default,default,default,default⟩⟩
def qZ (x:fH):List KV:=[.int .i64 x.t7,.int .i64 x.t31,.int .i64 x.t32]
def ra (x:fH):List (List KV):=[Bi x.c,Mf x.ground,Sx x.t6,cI x.all,Sx x.f]
def Ca (vs:List KV) (rs:List (List KV)):fH:=⟨intOf (vs.getD 0 .ax),intOf (vs.getD 1 .ax),intOf (vs.getD 2 .ax),Bj (fun k=>(rs.getD 0 []).getD k .ax),Mg (fun k=>(rs.getD 1 []).getD k .ax),XB (fun k=>(rs.getD 2 []).getD k .ax),cJ (fun k=>(rs.getD 3 []).getD k .ax),XB (fun k=>(rs.getD 4 []).getD k .ax)⟩
def DB:aQ:=⟨[(7,⟨false,[.k (.int .i64)]⟩),(31,⟨false,[.k (.int .i64)]⟩),(32,⟨false,[.k (.int .i64)]⟩)],[(4,[.k (.int .i64),.k (.int .i64),.k (.int .i64),.k (.int .i64),.k (.int .i64),.k (.int .i64),.k (.int .i64),.k (.int .i64),.k (.int .i64),.k (.int .i64),.k (.int .i64),.k (.int .i64),.k (.int .i64),.k (.int .i64),.k (.int .i64),.k (.int .i64)],1),(5,[.k (.int .u8),.k (.int .u8),.k (.int .u8),.k (.int .u8)],1),(6,[.k (.int .i64),.k (.int .i64),.bb 37,.bb 3,.bb 3,.bb 3],1),(9,[.k (.slice 45),.k (.slice 108),.k (.slice 139)],1),(10,[.k (.int .i64),.k (.int .i64),.bb 37,.bb 3,.bb 3,.bb 3],1)],[(4,0,0),(5,1,0),(6,2,0),(9,3,0),(10,4,0)]⟩
structure dY where
 t7:Int
 y:Int
 t31:Int
 t32:Int
 t36:Int
 t37:Int
 c:aU
 ground:Color
 t6:Frame
 all:aB
 f:Frame
instance:Inhabited dY:=⟨⟨default,default,default,default,default,default,default,default,default,default,default⟩⟩
def pF (x:dY):List KV:=[.int .i64 x.t7,.int .i64 x.y,.int .i64 x.t31,.int .i64 x.t32,.int .i64 x.t36,.int .i64 x.t37]
def pG (x:dY):List (List KV):=[Bi x.c,Mf x.ground,Sx x.t6,cI x.all,Sx x.f]
def zN (vs:List KV) (rs:List (List KV)):dY:=⟨intOf (vs.getD 0 .ax),intOf (vs.getD 1 .ax),intOf (vs.getD 2 .ax),intOf (vs.getD 3 .ax),intOf (vs.getD 4 .ax),intOf (vs.getD 5 .ax),Bj (fun k=>(rs.getD 0 []).getD k .ax),Mg (fun k=>(rs.getD 1 []).getD k .ax),XB (fun k=>(rs.getD 2 []).getD k .ax),cJ (fun k=>(rs.getD 3 []).getD k .ax),XB (fun k=>(rs.getD 4 []).getD k .ax)⟩
def Bt:aQ:=⟨[(7,⟨false,[.k (.int .i64)]⟩),(11,⟨false,[.k (.int .i64)]⟩),(31,⟨false,[.k (.int .i64)]⟩),(32,⟨false,[.k (.int .i64)]⟩),(36,⟨false,[.k (.int .i64)]⟩),(37,⟨false,[.k (.int .i64)]⟩)],[(4,[.k (.int .i64),.k (.int .i64),.k (.int .i64),.k (.int .i64),.k (.int .i64),.k (.int .i64),.k (.int .i64),.k (.int .i64),.k (.int .i64),.k (.int .i64),.k (.int .i64),.k (.int .i64),.k (.int .i64),.k (.int .i64),.k (.int .i64),.k (.int .i64)],1),(5,[.k (.int .u8),.k (.int .u8),.k (.int .u8),.k (.int .u8)],1),(6,[.k (.int .i64),.k (.int .i64),.bb 37,.bb 3,.bb 3,.bb 3],1),(9,[.k (.slice 45),.k (.slice 108),.k (.slice 139)],1),(10,[.k (.int .i64),.k (.int .i64),.bb 37,.bb 3,.bb 3,.bb 3],1)],[(4,0,0),(5,1,0),(6,2,0),(9,3,0),(10,4,0)]⟩
def JS:=jf Try.prog (bp Try.prog [(44,nF),(43,ib),(57,Bq),(56,uI)] [] (fun _=>false)) 9 9 24 64102 (eX Try.prog 24 64102) Bt
def kx (x:dY):(Option (Prod aZ Bool)):=(gz x.all x.t37 x.y)
def ox (x:dY):(Option Color):=(fZ x.all x.ground x.t37 x.y)
def gH (x:dY):aJ dY:=
 (cond (decide (x.t37 < x.t36))
 (cond (kx x).isSome
 (cond (ox x).isSome
 (cond ((au x.f.color.n x.f.color.n)&&(eo 4 x.f.color.n 1))
 (cond ((au x.f.depth.n x.f.depth.n)&&(eo 8 x.f.depth.n 1))
 (cond ((au x.f.item.n x.f.item.n)&&(eo 8 x.f.item.n 1))
 (cond ((au x.f.cV.n x.f.cV.n)&&(eo 8 x.f.cV.n 1))
 (cond (cond (cond (cond (cond (cond (cond (cond (au (x.f.cV.n+1) (x.f.cV.n+1)) (au (x.f.item.n+1) (x.f.item.n+1)) false) (au (x.f.depth.n+1) (x.f.depth.n+1)) false) (au (x.f.color.n+1) (x.f.color.n+1)) false) (au x.t6.cV.n x.t6.cV.n) false) (au x.t6.item.n x.t6.item.n) false) (au x.t6.depth.n x.t6.depth.n) false) (au x.t6.color.n x.t6.color.n) false)
 (.next (⟨x.t7,x.y,x.t31,x.t32,x.t36,(ak (x.t37+(1:Int))),x.c,x.ground,x.t6,x.all,(⟨x.f.w,x.f.h,(x.f.color.push ((ox x).getD default)),(x.f.depth.push ((kx x).getD default).fst.d),(x.f.item.push ((kx x).getD default).fst.item),(x.f.cV.push ((kx x).getD default).fst.cV)⟩:Frame)⟩:dY))
 .fail)
 .fail)
 .fail)
 .fail)
 .fail)
 .fail)
 .fail)
 (cond (cond (cond (cond (cond (cond (cond (cond (au x.f.cV.n x.f.cV.n) (au x.f.item.n x.f.item.n) false) (au x.f.depth.n x.f.depth.n) false) (au x.f.color.n x.f.color.n) false) (au x.t6.cV.n x.t6.cV.n) false) (au x.t6.item.n x.t6.item.n) false) (au x.t6.depth.n x.t6.depth.n) false) (au x.t6.color.n x.t6.color.n) false)
 (.out (aG.aw.exit 2) x)
 .fail))
theorem GX (x:dY):JS (pF x) (pG x)=aJ.enc pF pG (gH x):=by
 unfold gH
 try simp only [aJ.dg,afu,acd]
 kernel_rfl
def nH:Lp:=⟨24,64102,Bt,fun vs rs=>dD pF pG (goN gH (zN vs rs)) [aG.aw.exit 2],false⟩
theorem zO:nH.Ok Try.prog:=eF funcs mixed (aq.cons nM (aq.cons hJ (aq.cons zd (aq.cons tM aq.nil)))) aA.nil (L:=9) (n:=9) (step:=gH) (ev:=pF) (er:=pG) (pa:=zN) rfl (fun wv wr=>⟨by kernel_rfl,by kernel_rfl⟩) GX
theorem wQ:cz Try.prog nH.f nH.p=true:=by kernel_rfl
def MR:=jf Try.prog (bp Try.prog [(44,nF),(43,ib),(57,Bq),(56,uI)] [nH] (fun _=>false)) 9 9 24 250 (eX Try.prog 24 250) DB
def bc (x:fH):(aJ dY):=(goN gH (⟨x.t7,x.t32,x.t31,x.t32,x.c.w,(0:Int),x.c,x.ground,x.t6,x.all,x.f⟩:dY))
def ic (x:fH):aJ fH:=
 (cond (decide (x.t32 < x.t31))
 (cond (cond (cond (cond (cond (cond (cond (cond (au x.f.cV.n x.f.cV.n) (au x.f.item.n x.f.item.n) false) (au x.f.depth.n x.f.depth.n) false) (au x.f.color.n x.f.color.n) false) (au x.t6.cV.n x.t6.cV.n) false) (au x.t6.item.n x.t6.item.n) false) (au x.t6.depth.n x.t6.depth.n) false) (au x.t6.color.n x.t6.color.n) false)
 (cond ((bc x).by (aG.aw.exit 2))
 (cond (cond (cond (cond (cond (cond (cond (cond (au (bc x).st.f.cV.n (bc x).st.f.cV.n) (au (bc x).st.f.item.n (bc x).st.f.item.n) false) (au (bc x).st.f.depth.n (bc x).st.f.depth.n) false) (au (bc x).st.f.color.n (bc x).st.f.color.n) false) (au (bc x).st.t6.cV.n (bc x).st.t6.cV.n) false) (au (bc x).st.t6.item.n (bc x).st.t6.item.n) false) (au (bc x).st.t6.depth.n (bc x).st.t6.depth.n) false) (au (bc x).st.t6.color.n (bc x).st.t6.color.n) false)
 (.next (⟨(bc x).st.t7,(bc x).st.t31,(ak ((bc x).st.t32+(1:Int))),(bc x).st.c,(bc x).st.ground,(bc x).st.t6,(bc x).st.all,(bc x).st.f⟩:fH))
 .fail)
 .fail)
 .fail)
 (cond (cond (cond (cond (cond (cond (cond (cond (au x.f.cV.n x.f.cV.n) (au x.f.item.n x.f.item.n) false) (au x.f.depth.n x.f.depth.n) false) (au x.f.color.n x.f.color.n) false) (au x.t6.cV.n x.t6.cV.n) false) (au x.t6.item.n x.t6.item.n) false) (au x.t6.depth.n x.t6.depth.n) false) (au x.t6.color.n x.t6.color.n) false)
 (.out (aG.aw.exit 0) x)
 .fail))
theorem JT (x:fH):MR (qZ x) (ra x)=aJ.enc qZ ra (ic x):=by
 unfold ic
 try simp only [aJ.dg]
 kernel_rfl
def sN:Lp:=⟨24,250,DB,fun vs rs=>dD qZ ra (goN ic (Ca vs rs)) [aG.aw.exit 0],false⟩
theorem MS:sN.Ok Try.prog:=eF funcs mixed (aq.cons nM (aq.cons hJ (aq.cons zd (aq.cons tM aq.nil)))) (aA.cons zO wQ aA.nil) (L:=9) (n:=9) (step:=ic) (ev:=qZ) (er:=ra) (pa:=Ca) rfl (fun wv wr=>⟨by kernel_rfl,by kernel_rfl⟩) JT
theorem IC:cz Try.prog sN.f sN.p=true:=by kernel_rfl
def JE:List (Nat×(List KV→KR KV)):=[(44,nF),(43,ib),(57,Bq),(56,uI)]
def JF:List Lp:=[nH,sN]
theorem Sy:aq Try.prog JE:=(aq.cons nM (aq.cons hJ (aq.cons zd (aq.cons tM aq.nil))))
theorem Sz:aA Try.prog JF:=(aA.cons zO wQ (aA.cons MS IC aA.nil))
def vF (s:Show) (c:aU) (ground:Color):(Option Int):=(iB s c)
def Ar (s:Show) (c:aU) (ground:Color):(Option aB):=(ny s c)
def oX (s:Show) (c:aU) (ground:Color):(aJ fH):=(goN ic (⟨(0:Int),c.h,(0:Int),c,ground,(⟨(0:Int),(0:Int),(⟨0,(fun i=>(⟨(0:Int),(0:Int),(0:Int),(0:Int)⟩:Color))⟩:Sl _),(⟨0,(fun i=>(0:Int))⟩:Sl _),(⟨0,(fun i=>(0:Int))⟩:Sl _),(⟨0,(fun i=>(0:Int))⟩:Sl _)⟩:Frame),((Ar s c ground).getD default),(⟨c.w,c.h,(⟨0,(fun i=>(⟨(0:Int),(0:Int),(0:Int),(0:Int)⟩:Color))⟩:Sl _),(⟨0,(fun i=>(0:Int))⟩:Sl _),(⟨0,(fun i=>(0:Int))⟩:Sl _),(⟨0,(fun i=>(0:Int))⟩:Sl _)⟩:Frame)⟩:fH))
def rU (s:Show) (c:aU) (ground:Color):Option (Frame×Int):=
 (cond (vF s c ground).isSome
 (cond (((vF s c ground).getD default) != (0:Int))
 (some ((⟨(0:Int),(0:Int),(⟨0,(fun i=>(⟨(0:Int),(0:Int),(0:Int),(0:Int)⟩:Color))⟩:Sl _),(⟨0,(fun i=>(0:Int))⟩:Sl _),(⟨0,(fun i=>(0:Int))⟩:Sl _),(⟨0,(fun i=>(0:Int))⟩:Sl _)⟩:Frame),((vF s c ground).getD default)))
 (cond (Ar s c ground).isSome
 (cond ((oX s c ground).by (aG.aw.exit 0))
 (some ((oX s c ground).st.f,(0:Int)))
 none)
 none))
 none)
theorem U3 (s:Show) (c:aU) (ground:Color):dn Try.prog (bp Try.prog JE JF (fun _=>false)) 9 9 24 [ov s,iZ c,fV ground] = (rU s c ground).map (fun (r:Frame×Int)=>KV.jE [ahL r.1,(kI .i64) r.2]):=by
 unfold rU
 try simp only [b7]
 kernel_rfl
def DC:List KV→KR KV:=cr Try.prog 24 (cD (fun (r:Frame×Int)=>KV.jE [ahL r.1,(kI .i64) r.2]) fun vs=>rU (kW (vs.getD 0 .ax)) (fw (vs.getD 1 .ax)) (kf (vs.getD 2 .ax)))
theorem SA (w:Nat→KV):cM Try.prog [25,53,37] w 0 = [ov (kW (ay Try.prog (ao Try.prog av) 25 (w 0))),iZ (fw (ay Try.prog (ao Try.prog av) 53 (w 1))),fV (kf (ay Try.prog (ao Try.prog av) 37 (w 2)))]:=by kernel_rfl
theorem EC:b9 Try.prog 24 DC:=aX funcs mixed Sy Sz (L:=9) (n:=9) fun w=>by
 have e:aK Try.prog 24 = [25,53,37]:=by kernel_rfl
 rw [e,SA]
 exact (U3 (kW (ay Try.prog (ao Try.prog av) 25 (w 0))) (fw (ay Try.prog (ao Try.prog av) 53 (w 1))) (kf (ay Try.prog (ao Try.prog av) 37 (w 2)))).trans (by kernel_rfl)
end
end Go.Proofs.Ytahhdndhkgbcjaa.b
end
section
namespace Go.Proofs.Ytahhdndhkgbcjaa.b
open Go.K
open Go.aG (aw)
def adJ (s:Show):Prop:=∀ i,i < s.items.n→nm (s.items.get i) (s.aR.n:Int)=some true
theorem afJ (s:Show) (hn:s.items.n≤256):∃ e x',eO s = .out e x'∧(e = .ret∧x'.t4 ≥ 0∧¬ adJ s∨e = .exit 0∧adJ s):=by
 unfold eO
 refine dx (step:=bG) (fun j y=>y.s=s.items∧y.t7=(s.items.n:Int)∧y.t8=(j:Int)∧j≤s.items.n∧y.aae=s∧∀ i,i < j→nm (s.items.get i) (s.aR.n:Int)=some true) _ s.items.n (by have:mm=1000000000000:=rfl; omega) (fun j y hj ⟨h1,h2,h3,h4,h5,h6⟩=>?_) ⟨rfl,rfl,rfl,Nat.zero_le _,rfl,fun i hi=>absurd hi (Nat.not_lt_zero _)⟩
 obtain ⟨b,hb,_⟩:=acj (y.s.get (Int.toNat y.t8)) ((y.aae.aR.n:Nat):Int)
 have e0:fK y=some b:=hb
 have w1:ak (y.t8+1)=y.t8+1:=bz (by omega) (by omega)
 rw [h1,h3,h5,Int.toNat_natCast] at hb
 unfold bG
 by_cases h:y.t8 < y.t7
 ·have lX:j < s.items.n:=by omega
  simp only [e0,w1,cond_true,Bool.and_self,Option.isSome_some,Option.getD_some,decide_eq_true h,decide_eq_true (show (0:Int)≤y.t8 by omega),decide_eq_true (show y.t8 < ((y.s.n:Nat):Int) by rw [h1]; omega)]
  cases b with
  | false=>exact .inr ⟨_,_,rfl,rfl,.inl ⟨rfl,by show y.t8 ≥ 0; omega,fun o4=>by have:=o4 j lX; rw [hb] at this; simp at this⟩⟩
  | true=>
   refine .inl ⟨_,rfl,lX,h1,h2,by show y.t8+1=_; omega,by omega,h5,fun i hi=>?_⟩
   by_cases OU:i < j
   ·exact h6 i OU
   ·have:i=j:=by omega
    subst this; exact hb
 ·simp only [cond_false,decide_eq_false h]
  exact .inr ⟨_,_,rfl,rfl,.inr ⟨rfl,fun i hi=>h6 i (by omega)⟩⟩
theorem agR (s:Show):kX s=some 0↔s.items.n≤256∧s.aR.n≤16∧gj s.aR=some 0∧adJ s:=by
 unfold kX
 by_cases g1:((s.items.n:Nat):Int) > 256
 ·rw [decide_eq_true g1,cond_true]
  exact ⟨fun h=>by simp at h,fun h=>by omega⟩
 by_cases g2:((s.aR.n:Nat):Int) > 16
 ·rw [decide_eq_false g1,decide_eq_true g2,cond_false,cond_true]
  exact ⟨fun h=>by simp at h,fun h=>by omega⟩
 obtain ⟨v,hv⟩:=Pm (NS s.aR)
 have e0:rL s=some v:=hv
 rw [decide_eq_false g1,decide_eq_false g2,hv]
 simp only [e0,cond_true,cond_false,Option.isSome_some,Option.getD_some]
 cases hz:(v != (0:Int)) with
 | true=>
  rw [cond_true]
  exact ⟨fun h=>by simp at h,fun h=>by have:=Option.some.inj h.2.2.1; simp [this] at hz⟩
 | false=>
  have hz:v=0:=by simpa using hz
  rw [cond_false,hz]
  obtain ⟨e,x',hx,h⟩:=afJ s (by omega)
  rcases h with ⟨rfl,h1,h2⟩ | ⟨rfl,h1⟩
  ·have b1:(eO s).by (.exit 0)=false:=by rw [hx]; rfl
   have b2:(eO s).by .ret=true:=by rw [hx]; rfl
   have b3:(eO s).st=x':=by rw [hx]; rfl
   rw [b1,b2,b3,decide_eq_true h1,cond_false,cond_true,cond_true]
   exact ⟨fun h=>by simp at h,fun h=>absurd h.2.2.2 h2⟩
  ·have b1:(eO s).by (.exit 0)=true:=by rw [hx]; rfl
   rw [b1,cond_true]
   exact ⟨fun _=>⟨by omega,by omega,rfl,h1⟩,fun _=>rfl⟩
theorem aiD {x:Item} {t:Int} (h:nm x t=some true):fG x.look t=some 0:=by
 unfold nm at h
 obtain ⟨v,hv⟩:=Pm (afE x.look t)
 have e0:uF x t=some v:=hv
 simp only [e0,Option.isSome_some,Option.getD_some,cond_true] at h
 cases g1:decide (((x.gI.n:Nat):Int) > (64:Int)) with
 | true=>rw [g1] at h; simp at h
 | false=>
 cases g2:(((x.uV.n:Nat):Int) != ((x.gI.n:Nat):Int)) with
 | true=>rw [g1,g2] at h; simp at h
 | false=>
 cases g3:decide (((x.fO.n:Nat):Int) > (64:Int)) with
 | true=>rw [g1,g2,g3] at h; simp at h
 | false=>
 cases g4:(v != (0:Int)) with
 | true=>rw [g1,g2,g3,g4] at h; simp at h
 | false=>
  have:v=0:=by simpa using g4
  rw [hv,this]
structure ala (l:uE) (t:Int):Prop where
 t0:0≤t
 t16:t≤16
 lo : -1≤l.n7
 hi:l.n7 < t
 b0 : -1024≤l.Le
 b1:l.Le≤1024
 n0:0≤l.bin
 n1:l.bin≤15
theorem aku {l:uE} {t:Int} (h:fG l t=some 0):ala l t:=by
 unfold fG at h
 by_cases c1:t < 0
 ·rw [decide_eq_true c1] at h; simp at h
 by_cases c2:t > 16
 ·rw [decide_eq_false c1,decide_eq_true c2] at h; simp at h
 by_cases c3:l.n7 < (-(1:Int))
 ·rw [decide_eq_false c1,decide_eq_false c2,decide_eq_true c3] at h; simp at h
 by_cases c4:l.n7 ≥ t
 ·rw [decide_eq_false c1,decide_eq_false c2,decide_eq_false c3,decide_eq_true c4] at h; simp at h
 by_cases c5:l.yN > 2
 ·rw [decide_eq_false c1,decide_eq_false c2,decide_eq_false c3,decide_eq_false c4,decide_eq_true c5] at h; simp at h
 by_cases c6:l.Le < (-(1024:Int))
 ·rw [decide_eq_false c1,decide_eq_false c2,decide_eq_false c3,decide_eq_false c4,decide_eq_false c5,decide_eq_true c6] at h; simp at h
 by_cases c7:l.Le > 1024
 ·rw [decide_eq_false c1,decide_eq_false c2,decide_eq_false c3,decide_eq_false c4,decide_eq_false c5,decide_eq_false c6,decide_eq_true c7] at h; simp at h
 by_cases c8:l.bin < 0
 ·rw [decide_eq_false c1,decide_eq_false c2,decide_eq_false c3,decide_eq_false c4,decide_eq_false c5,decide_eq_false c6,decide_eq_false c7,decide_eq_true c8] at h; simp at h
 by_cases c9:l.bin > 15
 ·rw [decide_eq_false c1,decide_eq_false c2,decide_eq_false c3,decide_eq_false c4,decide_eq_false c5,decide_eq_false c6,decide_eq_false c7,decide_eq_false c8,decide_eq_true c9] at h; simp at h
 exact ⟨by omega,by omega,by omega,by omega,by omega,by omega,by omega,by omega⟩
theorem aay {l:Sl ew} (h:gj l=some 0):∀ i,i < l.n→gf (l.get i)=some 0:=by
 unfold gj at h
 by_cases c1:((l.n:Nat):Int) > 16
 ·rw [decide_eq_true c1] at h; simp at h
 obtain ⟨e,x',h1,h2⟩:∃ e x',eC l = .out e x'∧(e = .ret∧x'.t2≠0∨e = .exit 0∧∀ i,i < l.n→gf (l.get i)=some 0):=by
  unfold eC
  refine dx (step:=fy) (fun j x=>x.t9=l∧x.t10=(l.n:Int)∧x.t11=(j:Int)∧j≤l.n∧∀ i,i < j→gf (l.get i)=some 0) _ l.n (by have:mm=1000000000000:=rfl; omega) (fun j x hj ⟨h2,h3,h4,h5,h6⟩=>?_) ⟨rfl,rfl,rfl,Nat.zero_le _,fun i hi=>absurd hi (Nat.not_lt_zero _)⟩
  obtain ⟨v,hv⟩:=Pm (Sd (x.t9.get (Int.toNat x.t11)))
  have e0:ki x=some v:=hv
  have w1:ak (x.t11+1)=x.t11+1:=bz (by omega) (by omega)
  rw [h2,h4,Int.toNat_natCast] at hv
  unfold fy
  by_cases h:x.t11 < x.t10
  ·simp only [e0,w1,cond_true,Bool.and_self,Option.isSome_some,Option.getD_some,decide_eq_true h,decide_eq_true (show (0:Int)≤x.t11 by omega),decide_eq_true (show x.t11 < ((x.t9.n:Nat):Int) by rw [h2]; omega)]
   cases hz:(v != (0:Int)) with
   | true=>exact .inr ⟨_,_,rfl,rfl,.inl ⟨rfl,by show v≠0; simpa using hz⟩⟩
   | false=>
    refine .inl ⟨_,rfl,by omega,h2,h3,by show x.t11+1=_; omega,by omega,fun i hi=>?_⟩
    by_cases OU:i < j
    ·exact h6 i OU
    ·have:i=j:=by omega
     subst this
     rw [hv,show v=0 by simpa using hz]
  ·simp only [cond_false,decide_eq_false h]
   exact .inr ⟨_,_,rfl,rfl,.inr ⟨rfl,fun i hi=>h6 i (by omega)⟩⟩
 rw [decide_eq_false c1,cond_false] at h
 rcases h2 with ⟨rfl,h2⟩ | ⟨rfl,h2⟩
 ·have b1:(eC l).by (.exit 0)=false:=by rw [h1]; rfl
  have b2:(eC l).by .ret=true:=by rw [h1]; rfl
  have b3:(eC l).st=x':=by rw [h1]; rfl
  rw [b1,b2,b3,cond_false,cond_true] at h
  exact absurd (Option.some.inj h) h2
 ·exact h2
theorem afK {n:Int} (h:lq n=some true):1≤n∧n≤16:=by
 unfold lq at h
 by_cases c1:n > 0
 ·rw [decide_eq_true c1,cond_true] at h
  have:=of_decide_eq_true (Option.some.inj h)
  omega
 ·rw [decide_eq_false c1] at h; simp at h
theorem alb {t:ew} (h:gf t=some 0):(1≤t.w∧t.w≤16)∧(1≤t.h∧t.h≤16)∧(t.En.n:Int)=t.w * t.h:=by
 unfold gf at h
 obtain ⟨a,ha⟩:=Pm (Sc t.w)
 obtain ⟨b,hb⟩:=Pm (Sc t.h)
 have e0:sB t=some a:=ha
 have e1:sC t=some b:=hb
 simp only [e0,e1,Option.isSome_some,Option.getD_some,cond_true] at h
 cases a with
 | false=>simp at h
 | true=>
 cases b with
 | false=>simp at h
 | true=>
  have h1:=afK ha
  have h2:=afK hb
  have h3:0≤t.w * t.h∧t.w * t.h≤16 * 16:=⟨Int.mul_nonneg (by omega) (by omega),Int.mul_le_mul h1.2 h2.2 (by omega) (by omega)⟩
  rw [bz (by omega) (by omega)] at h
  simp only [Bool.not_true,cond_false] at h
  cases hz:(((t.En.n:Nat):Int) != t.w * t.h) with
  | true=>rw [hz] at h; simp at h
  | false=>exact ⟨h1,h2,by simpa using hz⟩
theorem akv {t:ew} {u v:Int} (h:gf t=some 0) (hu:0≤u∧u≤255) (hv:0≤v∧v≤255):∃ c,th t u v=some (c,0):=by
 obtain ⟨⟨w0,w1⟩,⟨h0,h1⟩,hn⟩:=alb h
 have e0:xe t u v=some 0:=h
 have p1:0≤v * t.h∧v * t.h≤255 * 16:=⟨Int.mul_nonneg (by omega) (by omega),Int.mul_le_mul hv.2 h1 (by omega) (by omega)⟩
 have p2:0≤u * t.w∧u * t.w≤255 * 16:=⟨Int.mul_nonneg (by omega) (by omega),Int.mul_le_mul hu.2 w1 (by omega) (by omega)⟩
 have p3:v * t.h≤255 * t.h:=Int.mul_le_mul_of_nonneg_right hv.2 (by omega)
 have p4:u * t.w≤255 * t.w:=Int.mul_le_mul_of_nonneg_right hu.2 (by omega)
 have q1:0≤Int.fdiv (v * t.h) 256∧Int.fdiv (v * t.h) 256≤t.h - 1:=by
  rw [Int.fdiv_eq_ediv_of_nonneg _ (by decide)]
  omega
 have q2:0≤Int.fdiv (u * t.w) 256∧Int.fdiv (u * t.w) 256≤t.w - 1:=by
  rw [Int.fdiv_eq_ediv_of_nonneg _ (by decide)]
  omega
 have q3:0≤Int.fdiv (v * t.h) 256 * t.w∧Int.fdiv (v * t.h) 256 * t.w≤(t.h - 1) * t.w:=⟨Int.mul_nonneg q1.1 (by omega),Int.mul_le_mul_of_nonneg_right q1.2 (by omega)⟩
 have q4:(t.h - 1) * t.w=t.w * t.h - t.w:=by rw [Int.sub_mul,Int.one_mul,Int.mul_comm]
 have q5:t.w * t.h≤16 * 16:=Int.mul_le_mul w1 h1 (by omega) (by omega)
 unfold th
 rw [bz (n:=v * t.h) (by omega) (by omega),bz (n:=u * t.w) (by omega) (by omega),bz (n:=Int.fdiv (v * t.h) 256 * t.w) (by omega) (by omega),bz (n:=Int.fdiv (v * t.h) 256 * t.w+Int.fdiv (u * t.w) 256) (by omega) (by omega)]
 simp only [e0,Option.isSome_some,Option.getD_some,cond_true,bne_self_eq_false,cond_false,decide_eq_false (show ¬ min u v < 0 by omega),decide_eq_false (show ¬ max u v > 255 by omega),decide_eq_true (show 0≤Int.fdiv (v * t.h) 256 * t.w+Int.fdiv (u * t.w) 256 by omega),decide_eq_true (show Int.fdiv (v * t.h) 256 * t.w+Int.fdiv (u * t.w) 256 < ((t.En.n:Nat):Int) by omega),Bool.and_self]
 exact ⟨_,rfl⟩
theorem afL {l:uE} {ts:Sl ew} {u v:Int} (h1:gj ts=some 0) (h2:fG l (ts.n:Int)=some 0):∃ c e,pw l ts u v=some (c,e)∧((0≤u∧u≤255)∧(0≤v∧v≤255)→e=0):=by
 have e0:vC l ts u v=some 0:=h1
 have e1:vD l ts u v=some 0:=h2
 have hl:=aku h2
 unfold pw
 simp only [e0,e1,Option.isSome_some,Option.getD_some,cond_true,bne_self_eq_false,cond_false]
 by_cases c1:min u v < 0
 ·rw [decide_eq_true c1]; exact ⟨_,_,rfl,fun h=>by omega⟩
 by_cases c2:max u v > 255
 ·rw [decide_eq_false c1,decide_eq_true c2]; exact ⟨_,_,rfl,fun h=>by omega⟩
 rw [decide_eq_false c1,decide_eq_false c2]
 by_cases c3:l.n7 < 0
 ·rw [decide_eq_true c3]; exact ⟨_,_,rfl,fun _=>rfl⟩
 ·have:=hl.hi
  obtain ⟨c,hc⟩:=akv (u:=u) (v:=v) (aay h1 (Int.toNat l.n7) (by omega)) (by omega) (by omega)
  have e2:m7 l ts u v=some (c,0):=hc
  simp only [e2,Option.isSome_some,Option.getD_some,cond_true,cond_false,decide_eq_false c3,decide_eq_true (show 0≤l.n7 by omega),decide_eq_true (show l.n7 < ((ts.n:Nat):Int) by omega),Bool.and_self]
  exact ⟨_,_,rfl,fun _=>rfl⟩
end Go.Proofs.Ytahhdndhkgbcjaa.b
end
section
namespace Go.K.wi
variable {α:Type}
def b2 (b:Bool):Nat:=cond b 1 0
def sm (p:α→Bool) (d:Nat→α) (a:Nat):Nat→Nat
 | 0=>0
 | k+1=>sm p d a k+b2 (p (d (a+k)))
theorem px {p:α→Bool} {d d' : Nat→α} {a b:Nat} : ∀ {k:Nat},(∀ i,i < k→d (a+i)=d' (b+i))→sm p d a k=sm p d' b k
 | 0,_=>rfl
 | k+1,h=>by
  rw [sm,sm,px (k:=k) fun i hi=>h i (by omega),h k (by omega)]
theorem py {p:α→Bool} {d:Nat→α} {a k:Nat} : ∀ (l:Nat),sm p d a (k+l)=sm p d a k+sm p d (a+k) l
 | 0=>by simp [sm]
 | l+1=>by
  show sm p d a (k+l)+b2 (p (d (a+(k+l))))=sm p d a k+(sm p d (a+k) l+b2 (p (d (a+k+l))))
  rw [py l,Nat.add_assoc a k l]
  omega
theorem SB {p:α→Bool} {d:Nat→α} {a:Nat} : sm p d a 1=b2 (p (d a)):=by simp [sm]
theorem aaz {p:α→Bool} {d:Nat→α} {a:Nat} : ∀ {k:Nat},0 < sm p d a k→∃ i,i < k∧p (d (a+i))=true
 | 0,h=>by simp [sm] at h
 | k+1,h=>by
  rw [sm] at h
  cases hp:p (d (a+k)) with
  | true=>exact ⟨k,by omega,hp⟩
  | false=>
   rw [hp] at h
   obtain ⟨i,h1,h2⟩:=aaz (k:=k) (by simpa [b2] using h)
   exact ⟨i,by omega,h2⟩
theorem aaA {p:α→Bool} {d:Nat→α} {a i:Nat} : ∀ {k:Nat},i < k→p (d (a+i))=true→0 < sm p d a k
 | 0,h,_=>by omega
 | k+1,h,hp=>by
  rw [sm]
  by_cases e:i=k
  ·subst e; rw [hp]; simp [b2]
  ·have:=aaA (k:=k) (by omega) hp
   omega
def Perm (d d' : Nat→α) (a b:Nat):Prop:=(∀ p:α→Bool,sm p d' a (b - a)=sm p d a (b - a))∧∀ i,i < a∨b≤i→d' i=d i
theorem Perm.refl (d:Nat→α) (a b:Nat):Perm d d a b:=⟨fun _=>rfl,fun _ _=>rfl⟩
theorem Perm.trans {d d' d'' : Nat→α} {a b:Nat} (h:Perm d d' a b) (k:Perm d' d'' a b):Perm d d'' a b:=⟨fun p=>(k.1 p).trans (h.1 p),fun i hi=>(k.2 i hi).trans (h.2 i hi)⟩
theorem Perm.wide {d d' : Nat→α} {a b a' b' : Nat} (h:Perm d d' a b) (h1:a'≤a) (h2:a≤b) (h3:b≤b'):Perm d d' a' b':=by
 refine ⟨fun p=>?_,fun i hi=>h.2 i (by omega)⟩
 have e:b' - a' = (a - a')+((b - a)+(b' - b)):=by omega
 rw [e,py,py,py (d:=d),py (d:=d)]
 rw [show a' + (a - a')=a by omega,h.1 p,show a+(b - a)=b by omega]
 rw [px (d:=d') (d':=d) (a:=a') (b:=a') fun i hi=>h.2 _ (by omega),px (d:=d') (d':=d) (a:=b) (b:=b) fun i hi=>h.2 _ (by omega)]
theorem Perm.mem {d d' : Nat→α} {a b:Nat} (h:Perm d d' a b) {i:Nat} (h1:a≤i) (h2:i < b):∃ j,a≤j∧j < b∧d' i=d j:=by
 classical
 have:=aaA (p:=fun x=>decide (x=d' i)) (d:=d') (a:=a) (i:=i - a) (k:=b - a) (by omega) (by simp [show a+(i - a)=i by omega])
 rw [h.1] at this
 obtain ⟨j,h3,h4⟩:=aaz this
 exact ⟨a+j,by omega,by omega,(of_decide_eq_true h4).symm⟩
def ins (d:Nat→α) (j i:Nat):Nat→α:=fun t=>if t < j then d t else if t=j then d i else if t≤i then d (t - 1) else d t
theorem xg {d:Nat→α} {j i t:Nat} (h:t < j):ins d j i t=d t:=by simp [ins,h]
theorem ED {d:Nat→α} {j i:Nat} : ins d j i j=d i:=by simp [ins]
theorem GY {d:Nat→α} {j i t:Nat} (h:j < t) (h2:t≤i):ins d j i t=d (t - 1):=by
 rw [ins,if_neg (by omega),if_neg (by omega),if_pos h2]
theorem XC {d:Nat→α} {j i t:Nat} (h:j≤i) (h2:i < t):ins d j i t=d t:=by
 rw [ins,if_neg (by omega),if_neg (by omega),if_neg (by omega)]
theorem acq {d:Nat→α} {i:Nat} : ins d i i=d:=by
 funext t
 by_cases h:t < i
 ·exact xg h
 ·by_cases e:t=i
  ·subst e; exact ED
  ·exact XC (Nat.le_refl _) (by omega)
theorem acr {d:Nat→α} {a j i:Nat} (h1:a≤j) (h2:j≤i):Perm d (ins d j i) a (i+1):=by
 refine ⟨fun p=>?_,fun t ht=>?_⟩
 ·have e:i+1 - a=(j - a)+(1+(i - j)):=by omega
  have e2:i+1 - a=(j - a)+((i - j)+1):=by omega
  rw [e,py,py,SB,show a+(j - a)=j by omega,ED]
  rw [← e,e2,py,py (k:=i - j),SB,show a+(j - a)=j by omega,show j+(i - j)=i by omega]
  rw [px (d:=ins d j i) (d':=d) (a:=a) (b:=a) fun t ht=>xg (by omega),px (d:=ins d j i) (d':=d) (a:=j+1) (b:=j) fun t ht=>by rw [GY (by omega) (by omega)]; congr 1; omega]
  omega
 ·rcases ht with ht | ht
  ·exact xg (by omega)
  ·exact XC h2 (by omega)
theorem acs {d:Nat→α} {j i t:Nat} (h:j≤i) (h1:1≤j):ins d (j - 1) i t=if t=j - 1 then ins d j i j else if t=j then ins d j i (j - 1) else ins d j i t:=by
 by_cases e:t=j - 1
 ·subst e; rw [if_pos rfl,ED,ED]
 ·rw [if_neg e]
  by_cases e2:t=j
  ·subst e2; rw [if_pos rfl,GY (by omega) h,xg (by omega)]
  ·rw [if_neg e2]
   by_cases e3:t < j
   ·rw [xg (by omega),xg e3]
   ·by_cases e4:t≤i
    ·rw [GY (by omega) e4,GY (by omega) e4]
    ·rw [XC (by omega) (by omega),XC h (by omega)]
def GZ (d:Nat→α) (a k:Nat):Nat→α:=fun t=>if t < a then d t else if t < k then d (t+1) else if t=k then d a else d t
theorem XD {d:Nat→α} {a k t:Nat} (h:t < a):GZ d a k t=d t:=by simp [GZ,h]
theorem Bu {d:Nat→α} {a k t:Nat} (h:a≤t) (h2:t < k):GZ d a k t=d (t+1):=by
 rw [GZ,if_neg (by omega),if_pos h2]
theorem Mj {d:Nat→α} {a k:Nat} (h:a≤k):GZ d a k k=d a:=by
 rw [GZ,if_neg (by omega),if_neg (by omega),if_pos rfl]
theorem ID {d:Nat→α} {a k t:Nat} (h:a≤k) (h2:k < t):GZ d a k t=d t:=by
 rw [GZ,if_neg (by omega),if_neg (by omega),if_neg (by omega)]
theorem aiE {d:Nat→α} {a:Nat} : GZ d a a=d:=by
 funext t
 by_cases h:t < a
 ·exact XD h
 ·by_cases e:t=a
  ·subst e; exact Mj (Nat.le_refl _)
  ·exact ID (Nat.le_refl _) (by omega)
theorem aiF {d:Nat→α} {a k:Nat} (h:a≤k):Perm d (GZ d a k) a (k+1):=by
 refine ⟨fun p=>?_,fun t ht=>?_⟩
 ·have e:k+1 - a=(k - a)+1:=by omega
  have e2:k+1 - a=1+(k - a):=by omega
  rw [e,py,SB,show a+(k - a)=k by omega,Mj h,← e,e2,py,SB]
  rw [px (d:=GZ d a k) (d':=d) (a:=a) (b:=a+1) fun t ht=>by rw [Bu (by omega) (by omega)]; congr 1; omega]
  omega
 ·rcases ht with ht | ht
  ·exact XD ht
  ·exact ID h (by omega)
theorem aiG {d:Nat→α} {a k t:Nat} (h:a≤k):GZ d a (k+1) t=if t=k then GZ d a k (k+1) else if t=k+1 then GZ d a k k else GZ d a k t:=by
 by_cases e:t=k
 ·subst e; rw [if_pos rfl,Bu h (by omega),ID h (by omega)]
 ·rw [if_neg e]
  by_cases e2:t=k+1
  ·subst e2; rw [if_pos rfl,Mj (by omega),Mj h]
  ·rw [if_neg e2]
   by_cases e3:t < a
   ·rw [XD e3,XD e3]
   ·by_cases e4:t < k
    ·rw [Bu (by omega) (by omega),Bu (by omega) e4]
    ·rw [ID (by omega) (by omega),ID h (by omega)]
def Cw (d:Nat→α) (a m b:Nat):Nat→α:=fun t=>if t < a then d t else if t < a+(b - m) then d (t+(m - a)) else if t < b then d (t - (b - m)) else d t
theorem G0 {d:Nat→α} {a m b t:Nat} (h1:a≤m) (h2:m≤b) (h:t < a∨b≤t):Cw d a m b t=d t:=by
 rcases h with h | h
 ·simp [Cw,h]
 ·rw [Cw,if_neg (by omega),if_neg (by omega),if_neg (by omega)]
theorem Ml {d:Nat→α} {a m b t:Nat} (h1:a≤t) (h2:t < a+(b - m)):Cw d a m b t=d (t+(m - a)):=by
 rw [Cw,if_neg (by omega),if_pos h2]
theorem IE {d:Nat→α} {a m b t:Nat} (h1:a+(b - m)≤t) (h2:t < b):Cw d a m b t=d (t - (b - m)):=by
 rw [Cw,if_neg (by omega),if_neg (by omega),if_pos h2]
theorem aiH {d:Nat→α} {a m b:Nat} (h1:a≤m) (h2:m≤b):Perm d (Cw d a m b) a b:=by
 refine ⟨fun p=>?_,fun t ht=>G0 h1 h2 ht⟩
 have e:b - a=(b - m)+(m - a):=by omega
 have e2:b - a=(m - a)+(b - m):=by omega
 rw [e,py,← e,e2,py,show a+(m - a)=m by omega]
 rw [px (d:=Cw d a m b) (d':=d) (a:=a) (b:=m) fun t ht=>by rw [Ml (by omega) (by omega)]; congr 1; omega,px (d:=Cw d a m b) (d':=d) (a:=a+(b - m)) (b:=a) fun t ht=>by rw [IE (by omega) (by omega)]; congr 1; omega]
 omega
structure Ord (α:Type) where
 key:α→Int
 ga:α→α→Prop
def Ord.lt (o:Ord α) (x y:α):Prop:=o.key x < o.key y∨(o.key x=o.key y∧o.ga x y)
theorem Ord.alc {o:Ord α} {x y:α} (h:o.lt x y):o.key x≤o.key y:=by rcases h with h | h <;> omega
theorem Ord.agS {o:Ord α} {x y:α} (h:o.key x≤o.key y) (h0:o.ga x y):o.lt x y:=by
 by_cases e:o.key x=o.key y
 ·exact .inr ⟨e,h0⟩
 ·exact .inl (by omega)
def gm (o:Ord α) (d:Nat→α) (a b:Nat):Prop:=∀ i j,a≤i→i < j→j < b→o.lt (d i) (d j)
def DD (o:Ord α) (d:Nat→α) (a m b:Nat):Prop:=∀ i j,a≤i→i < m→m≤j→j < b→o.ga (d i) (d j)
variable {o:Ord α}
theorem gm.key {d:Nat→α} {a b:Nat} (h:gm o d a b) {i j:Nat} (h1:a≤i) (h2:i≤j) (h3:j < b):o.key (d i)≤o.key (d j):=by
 by_cases e:i=j
 ·subst e; exact Int.le_refl _
 ·exact Ord.alc (h i j h1 (by omega) h3)
theorem gm.congr {d d' : Nat→α} {a b:Nat} (h:gm o d a b) (e:∀ i,a≤i→i < b→d' i=d i):gm o d' a b:=fun i j h1 h2 h3=>by
 rw [e i h1 (by omega),e j (by omega) h3]; exact h i j h1 h2 h3
theorem gm.one {d:Nat→α} {a b:Nat} (h:b≤a+1):gm o d a b:=fun i j h1 h2 h3=>by omega
theorem VY {d:Nat→α} {a j i:Nat} (hs:gm o d a i) (hc:DD o d a i (i+1)) (h1:a≤j) (h2:j≤i) (hl:∀ s,a≤s→s < j→o.key (d s)≤o.key (d i)) (hr:∀ t,j≤t→t < i→o.key (d i) < o.key (d t)):gm o (ins d j i) a (i+1):=by
 intro s t q1 q2 q3
 by_cases ht:t < j
 ·rw [xg ht,xg (by omega)]
  exact hs s t q1 q2 (by omega)
 ·by_cases F6:t=j
  ·subst F6
   rw [ED,xg q2]
   exact Ord.agS (hl s q1 q2) (hc s i q1 (by omega) (Nat.le_refl _) (by omega))
  ·rw [GY (t:=t) (by omega) (by omega)]
   by_cases h3:s < j
   ·rw [xg h3]; exact hs s (t - 1) q1 (by omega) (by omega)
   ·by_cases h4:s=j
    ·subst h4; rw [ED]; exact .inl (hr (t - 1) (by omega) (by omega))
    ·rw [GY (t:=s) (by omega) (by omega)]; exact hs (s - 1) (t - 1) (by omega) (by omega) (by omega)
theorem afM {d:Nat→α} {a i b:Nat} (hs:gm o d (a+1) b) (hc:DD o d a (a+1) b) (h1:a+1≤i) (h2:i≤b) (hl:∀ t,a+1≤t→t < i→o.key (d t) < o.key (d a)) (hr:∀ t,i≤t→t < b→o.key (d a)≤o.key (d t)):gm o (GZ d a (i - 1)) a b:=by
 intro s t q1 q2 q3
 by_cases ht:t < i - 1
 ·rw [Bu (by omega) ht,Bu q1 (by omega)]
  exact hs _ _ (by omega) (by omega) (by omega)
 ·by_cases F6:t=i - 1
  ·subst F6
   rw [Mj (by omega),Bu q1 q2]
   exact .inl (hl _ (by omega) (by omega))
  ·rw [ID (t:=t) (by omega) (by omega)]
   by_cases h3:s < i - 1
   ·rw [Bu q1 h3]; exact hs _ _ (by omega) (by omega) q3
   ·by_cases h4:s=i - 1
    ·subst h4; rw [Mj (by omega)]; exact Ord.agS (hr t (by omega) q3) (hc a t (Nat.le_refl _) (by omega) (by omega) q3)
    ·rw [ID (t:=s) (by omega) (by omega)]; exact hs _ _ (by omega) q2 q3
structure Split (o:Ord α) (D:Nat→α) (a s cl e b:Nat):Prop where
 l1:gm o D a s
 l2:gm o D s cl
 l0:DD o D a s cl
 r1:gm o D cl e
 r2:gm o D e b
 r0:DD o D cl e b
 lr:∀ i j,a≤i→i < cl→cl≤j→j < b→o.lt (D i) (D j)
theorem agT {d:Nat→α} {a s cl m e b:Nat} (h1:gm o d a m) (h2:gm o d m b) (hc:DD o d a m b) (q1:a≤s) (q2:s≤m) (q3:m≤e) (q4:e≤b) (q5:e+s=cl+m) (hL:∀ i j,a≤i→i < s→e≤j→j < b→o.key (d i)≤o.key (d j)) (hR:∀ i j,s≤i→i < m→m≤j→j < e→o.key (d j) < o.key (d i)) :
  Split o (Cw d s m e) a s cl e b:=by
 have v1:∀ t,t < s→Cw d s m e t=d t:=fun t h=>G0 q2 q3 (.inl h)
 have v2:∀ t,s≤t→t < cl→Cw d s m e t=d (t+(m - s)):=fun t h h'=>Ml h (by omega)
 have v3:∀ t,cl≤t→t < e→Cw d s m e t=d (t - (e - m)):=fun t h h'=>IE (by omega) h'
 have v4:∀ t,e≤t→Cw d s m e t=d t:=fun t h=>G0 q2 q3 (.inr h)
 refine ⟨fun i j p1 p2 p3=>?_,fun i j p1 p2 p3=>?_,fun i j p1 p2 p3 p4=>?_,fun i j p1 p2 p3=>?_,fun i j p1 p2 p3=>?_,fun i j p1 p2 p3 p4=>?_,fun i j p1 p2 p3 p4=>?_⟩
 ·rw [v1 i (by omega),v1 j p3]; exact h1 i j p1 p2 (by omega)
 ·rw [v2 i p1 (by omega),v2 j (by omega) p3]; exact h2 _ _ (by omega) (by omega) (by omega)
 ·rw [v1 i p2,v2 j p3 p4]; exact hc _ _ p1 (by omega) (by omega) (by omega)
 ·rw [v3 i p1 (by omega),v3 j (by omega) p3]; exact h1 _ _ (by omega) (by omega) (by omega)
 ·rw [v4 i p1,v4 j (by omega)]; exact h2 _ _ (by omega) p2 p3
 ·rw [v3 i p1 p2,v4 j p3]; exact hc _ _ (by omega) (by omega) (by omega) p4
 ·by_cases hi:i < s
  ·rw [v1 i hi]
   by_cases hj:j < e
   ·rw [v3 j p3 hj]; exact h1 _ _ p1 (by omega) (by omega)
   ·rw [v4 j (by omega)]; exact Ord.agS (hL i j p1 hi (by omega) p4) (hc i j p1 (by omega) (by omega) p4)
  ·rw [v2 i (by omega) p2]
   by_cases hj:j < e
   ·rw [v3 j p3 hj]; exact .inl (hR _ _ (by omega) (by omega) (by omega) (by omega))
   ·rw [v4 j (by omega)]; exact h2 _ _ (by omega) (by omega) p4
theorem adK {D D2 D3:Nat→α} {a cl b:Nat} (h:∀ i j,a≤i→i < cl→cl≤j→j < b→o.lt (D i) (D j)) (p1:Perm D D2 a cl) (s1:gm o D2 a cl) (p2:Perm D2 D3 cl b) (s2:gm o D3 cl b):gm o D3 a b:=by
 intro i j q1 q2 q3
 by_cases hj:j < cl
 ·rw [p2.2 i (.inl (by omega)),p2.2 j (.inl hj)]; exact s1 i j q1 q2 hj
 ·by_cases hi:i < cl
  ·rw [p2.2 i (.inl hi)]
   obtain ⟨i',r1,r2,e1⟩:=p1.mem q1 hi
   obtain ⟨j',r3,r4,e2⟩:=p2.mem (i:=j) (by omega) q3
   rw [e1,e2,p1.2 j' (.inr r3)]
   exact h i' j' r1 r2 r3 r4
  ·exact s2 i j (by omega) q2 q3
theorem NX {d:Nat→α} {a s s0 r0 cl m b:Nat} (h1:gm o d a m) (h2:gm o d m b) (q1:a≤s) (q2:s≤m) (q3:m+s≤cl+m) (q4:cl+m≤b+s) (hs:(s=s0∧(s0=a∨cl+m=b+s0))∨(a < s∧cl+m < b+s∧o.key (d (s - 1))≤o.key (d (cl+m - s)))) (hr:(s=r0∧(r0=m∨r0=cl))∨(s < m∧s < cl∧o.key (d (cl+m - 1 - s)) < o.key (d s))) :
  (∀ i j,a≤i→i < s→cl+m - s≤j→j < b→o.key (d i)≤o.key (d j))∧∀ i j,s≤i→i < m→m≤j→j < cl+m - s→o.key (d j) < o.key (d i):=by
 constructor
 ·intro i j p1 p2 p3 p4
  rcases hs with ⟨e,h | h⟩ | ⟨e1,e2,e3⟩
  ·omega
  ·omega
  ·have k1:=h1.key (i:=i) (j:=s - 1) p1 (by omega) (by omega)
   have k2:=h2.key (i:=cl+m - s) (j:=j) (by omega) p3 p4
   omega
 ·intro i j p1 p2 p3 p4
  rcases hr with ⟨e,h | h⟩ | ⟨e1,e2,e3⟩
  ·omega
  ·omega
  ·have k1:=h1.key (i:=s) (j:=i) q1 p1 p2
   have k2:=h2.key (i:=j) (j:=cl+m - 1 - s) p3 (by omega) (by omega)
   omega
def acu (o:Ord α) (g:Nat→α) (n:Nat):Prop:=∀ i j,i < j→j < n→o.ga (g i) (g j)
theorem VZ {d g:Nat→α} {a k:Nat} (h:∀ p:α→Bool,sm p d a k=sm p g a k) {i:Nat} (h1:a≤i) (h2:i < a+k):∃ j,a≤j∧j < a+k∧d i=g j:=by
 classical
 have:=aaA (p:=fun x=>decide (x=d i)) (d:=d) (a:=a) (i:=i - a) (k:=k) (by omega) (by simp [show a+(i - a)=i by omega])
 rw [h] at this
 obtain ⟨j,h3,h4⟩:=aaz this
 exact ⟨a+j,by omega,by omega,(of_decide_eq_true h4).symm⟩
theorem acv {d g:Nat→α} {a m b n:Nat} (hg:acu o g n) (hb:b≤n) (h1:a≤m) (h2:m≤b) (c1:∀ p:α→Bool,sm p d a (m - a)=sm p g a (m - a)) (c2:∀ p:α→Bool,sm p d m (b - m)=sm p g m (b - m)):DD o d a m b:=by
 intro i j q1 q2 q3 q4
 obtain ⟨i',r1,r2,e1⟩:=VZ c1 q1 (by omega)
 obtain ⟨j',r3,r4,e2⟩:=VZ c2 q3 (by omega)
 rw [e1,e2]
 exact hg i' j' (by omega) (by omega)
end Go.K.wi
end
section
namespace Go.Proofs.Ytahhdndhkgbcjaa.b
open Go.K Go.K.wi
open Go.aG (aw)
theorem a9 (n:Nat):au n n=true:=Nat.beq_refl n
theorem SC {i n:Nat} (h:i < n):(decide ((0:Int)≤(i:Int))&&decide ((i:Int) < ((n:Nat):Int)))=true:=by
 rw [Bool.and_eq_true]
 exact ⟨decide_eq_true (by omega),decide_eq_true (by omega)⟩
theorem aaB {i j:Nat} (h:i+j≤100000000000):ak ((i:Int)+(j:Int))=((i+j:Nat):Int):=by
 rw [zf (by omega) (by omega)]; omega
theorem Px {i:Nat} (h:i≤100000000000):ak ((i:Int)+(1:Int))=((i+1:Nat):Int):=by
 rw [zf (by omega) (by omega)]; omega
theorem Bv {i j:Nat} (h:i≤100000000000) (hj:j≤i):ak ((i:Int) - (j:Int))=((i - j:Nat):Int):=by
 rw [zf (by omega) (by omega)]; omega
theorem aaC {i:Nat} (h:i≤100000000000) (hj:1≤i):ak ((i:Int) - (1:Int))=((i - 1:Nat):Int):=by
 rw [zf (by omega) (by omega)]; omega
theorem Mm {α:Type} (D:Sl α) (i j t:Nat) (u v:α):((D.set (0+i) u).set (0+j) v).get t=if t=j then v else if t=i then u else D.get t:=by
 simp only [Sl.set,Nat.zero_add]
 by_cases h:t=j
 ·subst h; simp
 ·rw [if_neg h]
  have e:Nat.beq t j=false:=by
   cases hb:Nat.beq t j with
   | false=>rfl
   | true=>exact absurd (Nat.eq_of_beq_eq_true hb) h
  rw [e,cond_false]
  by_cases h2:t=i
  ·subst h2; simp
  ·rw [if_neg h2]
   have e:Nat.beq t i=false:=by
    cases hb:Nat.beq t i with
    | false=>rfl
    | true=>exact absurd (Nat.eq_of_beq_eq_true hb) h2
   rw [e,cond_false]
theorem ahM {α:Type} (D:Sl α) (i j:Nat) (u v:α):((D.set i u).set j v).n=D.n:=rfl
def Au {α:Type} (d:Nat→α) (a b n:Nat):Nat→α:=fun t=>if a≤t∧t < a+n then d (t+(b - a)) else if b≤t∧t < b+n then d (t - (b - a)) else d t
theorem aiI {α:Type} (d:Nat→α) {a b j:Nat} (h:a+j < b) (t:Nat):Au d a b (j+1) t=if t=b+j then Au d a b j (a+j) else if t=a+j then Au d a b j (b+j) else Au d a b j t:=by
 have e1:Au d a b j (a+j)=d (a+j):=by rw [Au,if_neg (by omega),if_neg (by omega)]
 have e2:Au d a b j (b+j)=d (b+j):=by rw [Au,if_neg (by omega),if_neg (by omega)]
 rw [e1,e2]
 by_cases h1:t=b+j
 ·subst h1; rw [if_pos rfl,Au,if_neg (by omega),if_pos (by omega)]; congr 1; omega
 ·rw [if_neg h1]
  by_cases h2:t=a+j
  ·subst h2; rw [if_pos rfl,Au,if_pos (by omega)]; congr 1; omega
  ·rw [if_neg h2]
   unfold Au
   by_cases h3:a≤t∧t < a+j
   ·rw [if_pos (by omega),if_pos h3]
   ·rw [if_neg (by omega),if_neg h3]
    by_cases h4:b≤t∧t < b+j
    ·rw [if_pos (by omega),if_pos h4]
    ·rw [if_neg (by omega),if_neg h4]
theorem Mn (x y:Int):∃ r,eA x y=some r∧decide (r < 0)=decide (x < y):=by
 unfold eA wa qY nW
 simp only [bne_self_eq_false,Option.getD_some,cond_false]
 cases h:decide (x < y) with
 | true=>exact ⟨_,rfl,rfl⟩
 | false=>
  rw [cond_false]
  cases h2:decide (x > y) with
  | true=>exact ⟨_,rfl,rfl⟩
  | false=>exact ⟨_,rfl,rfl⟩
end Go.Proofs.Ytahhdndhkgbcjaa.b
end
