/- Part of the proof of ImageLeaves: a machine that runs the program's code over open terms, shown to be the model's, and the plain models of its functions. No conditions. -/
import Derived.Test.YtahhdndhkgbcjaaIp
section
namespace Go.Proofs.Ytahhdndhkgbcjaa.b
open Go.K
set_option linter.unusedVariables false
set_option linter.unusedSimpArgs false
noncomputable section
structure bm where
 data:(Sl aK)
 a:Int
 b:Int
 n:Int
 held:aB
instance:Inhabited bm:=⟨⟨default,default,default,default,default⟩⟩
def jS (x:bm):List KV:=[iE 58 hJ x.data,.int .i64 x.a,.int .i64 x.b,.int .i64 x.n,.fn (.func 77) [] [.ptr 0 0]]
def jT (x:bm):List (List KV):=[cY x.held]
def rb (vs:List KV) (rs:List (List KV)):bm:=⟨gZ gP (vs.getD 0 .aw),intOf (vs.getD 1 .aw),intOf (vs.getD 2 .aw),intOf (vs.getD 3 .aw),cZ (fun k=>(rs.getD 0 []).getD k .aw)⟩
def r5:aU:=⟨[(0,⟨false,[.arr 58]⟩),(1,⟨false,[.k (.int .i64)]⟩),(2,⟨false,[.k (.int .i64)]⟩),(3,⟨false,[.k (.int .i64)]⟩),(4,⟨false,[.ref (.fn (.func 77) [] [.ptr 0 0])]⟩)],[(100004,[.k (.slice 45),.k (.slice 108),.k (.slice 139)],1)],[]⟩
structure cJ where
 data:(Sl aK)
 a:Int
 b:Int
 n:Int
 i:Int
 eN:aB
instance:Inhabited cJ:=⟨⟨default,default,default,default,default,default⟩⟩
def jt (x:cJ):List KV:=[iE 58 hJ x.data,.int .i64 x.a,.int .i64 x.b,.int .i64 x.n,.fn (.func 77) [] [.ptr 0 0],.int .i64 x.i]
def ju (x:cJ):List (List KV):=[cY x.eN]
def pR (vs:List KV) (rs:List (List KV)):cJ:=⟨gZ gP (vs.getD 0 .aw),intOf (vs.getD 1 .aw),intOf (vs.getD 2 .aw),intOf (vs.getD 3 .aw),intOf (vs.getD 5 .aw),cZ (fun k=>(rs.getD 0 []).getD k .aw)⟩
def qI:aU:=⟨[(0,⟨false,[.arr 58]⟩),(1,⟨false,[.k (.int .i64)]⟩),(2,⟨false,[.k (.int .i64)]⟩),(3,⟨false,[.k (.int .i64)]⟩),(4,⟨false,[.ref (.fn (.func 77) [] [.ptr 0 0])]⟩),(10,⟨false,[.k (.int .i64)]⟩)],[(100004,[.k (.slice 45),.k (.slice 108),.k (.slice 139)],1)],[]⟩
def yx:=pM Try.prog (bo Try.prog [(35,cg)] [] (fun q=>Nat.beq q 58)) 9 9 144 6 (eZ Try.prog 144 6) qI
def di (x:cJ):aI cJ:=
 (cond (decide (x.i < x.n))
 (cond ((decide ((0:Int)≤(au (x.b+x.i))))&&(decide ((au (x.b+x.i)) < ((x.data.n:Nat):Int))))
 (cond ((decide ((0:Int)≤(au (x.a+x.i))))&&(decide ((au (x.a+x.i)) < ((x.data.n:Nat):Int))))
 (cond ((decide ((0:Int)≤(au (x.a+x.i))))&&(decide ((au (x.a+x.i)) < ((x.data.n:Nat):Int))))
 (cond ((decide ((0:Int)≤(au (x.b+x.i))))&&(decide ((au (x.b+x.i)) < ((x.data.n:Nat):Int))))
 (cond (av x.data.n x.data.n)
 (.next (⟨((x.data.set (0+(Int.toNat (au (x.a+x.i)))) (x.data.get (0+(Int.toNat (au (x.b+x.i)))))).set (0+(Int.toNat (au (x.b+x.i)))) (x.data.get (0+(Int.toNat (au (x.a+x.i)))))),x.a,x.b,x.n,(au (x.i+(1:Int))),x.eN⟩:cJ))
 .fail)
 .fail)
 .fail)
 .fail)
 .fail)
 (cond (av x.data.n x.data.n)
 (.out (aE.ak.exit 0) x)
 .fail))
theorem w5 (x:cJ):yx (jt x) (ju x)=aI.enc jt ju (di x):=by
 unfold di
 try simp only [aI.df,MS,Hh]
 kernel_rfl
def jK:Lp:=⟨144,6,qI,fun vs rs=>dC jt ju (goN di (pR vs rs)) [aE.ak.exit 0],true⟩
theorem yy:jK.Ok Try.prog:=lF funcs mixed (ao.cons bH ao.nil) az.nil (L:=9) (n:=9) (step:=di) (ev:=jt) (er:=ju) (pa:=pR) rfl (fun wv wr=>⟨by kernel_rfl,by kernel_rfl⟩) w5
theorem wA:cA Try.prog jK.f jK.p=true:=by kernel_rfl
def zL:=Fv Try.prog (bo Try.prog [(35,cg)] [jK] (fun q=>Nat.beq q 58)) 9 9 144 r5
def dh (x:bm):(aI cJ):=(goN di (⟨x.data,x.a,x.b,x.n,(0:Int),x.held⟩:cJ))
def jv (x:bm):aI bm:=
 (cond (av x.data.n x.data.n)
 (cond ((dh x).by (aE.ak.exit 0))
 (cond (av (dh x).st.data.n (dh x).st.data.n)
 (.out aE.ak.ret (⟨(dh x).st.data,(dh x).st.a,(dh x).st.b,(dh x).st.n,(dh x).st.eN⟩:bm))
 .fail)
 .fail)
 .fail)
theorem yz (x:bm):zL (jS x) (jT x)=aI.enc jS jT (jv x):=by
 unfold jv
 try simp only [aI.df]
 kernel_rfl
def eR (x:bm):aI bm:=jv x
def ny:Fc:=⟨144,r5,fun vs rs=>dC jS jT (eR (rb vs rs)) [aE.ak.ret]⟩
theorem qJ:ny.Ok Try.prog:=Br funcs mixed (ao.cons bH ao.nil) (az.cons yy wA az.nil) (L:=9) (n:=9) (step:=eR) (ev:=jS) (er:=jT) (pa:=rb) rfl (fun wv wr=>⟨by kernel_rfl,by kernel_rfl⟩) yz
structure bC where
 data:(Sl aK)
 a:Int
 m:Int
 b:Int
 held:aB
instance:Inhabited bC:=⟨⟨default,default,default,default,default⟩⟩
def lI (x:bC):List KV:=[iE 58 hJ x.data,.int .i64 x.a,.int .i64 x.m,.int .i64 x.b,.fn (.func 77) [] [.ptr 0 0]]
def lJ (x:bC):List (List KV):=[cY x.held]
def tu (vs:List KV) (rs:List (List KV)):bC:=⟨gZ gP (vs.getD 0 .aw),intOf (vs.getD 1 .aw),intOf (vs.getD 2 .aw),intOf (vs.getD 3 .aw),cZ (fun k=>(rs.getD 0 []).getD k .aw)⟩
def ui:aU:=⟨[(0,⟨false,[.arr 58]⟩),(1,⟨false,[.k (.int .i64)]⟩),(2,⟨false,[.k (.int .i64)]⟩),(3,⟨false,[.k (.int .i64)]⟩),(4,⟨false,[.ref (.fn (.func 77) [] [.ptr 0 0])]⟩)],[(100004,[.k (.slice 45),.k (.slice 108),.k (.slice 139)],1)],[]⟩
structure bR where
 data:(Sl aK)
 a:Int
 m:Int
 b:Int
 i:Int
 j:Int
 eN:aB
instance:Inhabited bR:=⟨⟨default,default,default,default,default,default,default⟩⟩
def jU (x:bR):List KV:=[iE 58 hJ x.data,.int .i64 x.a,.int .i64 x.m,.int .i64 x.b,.fn (.func 77) [] [.ptr 0 0],.int .i64 x.i,.int .i64 x.j]
def jV (x:bR):List (List KV):=[cY x.eN]
def rf (vs:List KV) (rs:List (List KV)):bR:=⟨gZ gP (vs.getD 0 .aw),intOf (vs.getD 1 .aw),intOf (vs.getD 2 .aw),intOf (vs.getD 3 .aw),intOf (vs.getD 5 .aw),intOf (vs.getD 6 .aw),cZ (fun k=>(rs.getD 0 []).getD k .aw)⟩
def r6:aU:=⟨[(0,⟨false,[.arr 58]⟩),(1,⟨false,[.k (.int .i64)]⟩),(2,⟨false,[.k (.int .i64)]⟩),(3,⟨false,[.k (.int .i64)]⟩),(4,⟨false,[.ref (.fn (.func 77) [] [.ptr 0 0])]⟩),(10,⟨false,[.k (.int .i64)]⟩),(11,⟨false,[.k (.int .i64)]⟩)],[(100004,[.k (.slice 45),.k (.slice 108),.k (.slice 139)],1)],[]⟩
def zM:=pM Try.prog (bo Try.prog [(35,cg)] [] (fun q=>Nat.beq q 58) false false [ny]) 9 9 135 28 (eZ Try.prog 135 28) r6
def fF (x:bR):(aI bm):=(eR (⟨x.data,(au (x.m - x.i)),x.m,x.j,x.eN⟩:bm))
def fG (x:bR):(aI bm):=(eR (⟨x.data,(au (x.m - x.i)),(au ((au (x.m+x.j)) - x.i)),x.i,x.eN⟩:bm))
def dw (x:bR):aI bR:=
 (cond (x.i != x.j)
 (cond (decide (x.i > x.j))
 (cond (av x.data.n x.data.n)
 (cond ((fF x).by aE.ak.ret)
 (cond (av (fF x).st.data.n x.data.n)
 (.next (⟨(fF x).st.data,x.a,x.m,x.b,(au (x.i - x.j)),x.j,(fF x).st.held⟩:bR))
 .fail)
 .fail)
 .fail)
 (cond (av x.data.n x.data.n)
 (cond ((fG x).by aE.ak.ret)
 (cond (av (fG x).st.data.n x.data.n)
 (.next (⟨(fG x).st.data,x.a,x.m,x.b,x.i,(au (x.j - x.i)),(fG x).st.held⟩:bR))
 .fail)
 .fail)
 .fail))
 (cond (av x.data.n x.data.n)
 (.out (aE.ak.exit 0) x)
 .fail))
theorem yA (x:bR):zM (jU x) (jV x)=aI.enc jU jV (dw x):=by
 unfold dw
 try simp only [aI.df]
 kernel_rfl
def kC:Lp:=⟨135,28,r6,fun vs rs=>dC jU jV (goN dw (rf vs rs)) [aE.ak.exit 0],true⟩
theorem zN:kC.Ok Try.prog:=lF funcs mixed (ao.cons bH ao.nil) az.nil (L:=9) (n:=9) (step:=dw) (ev:=jU) (er:=jV) (pa:=rf) rfl (fun wv wr=>⟨by kernel_rfl,by kernel_rfl⟩) yA (BV:=(fR.cons qJ fR.nil))
theorem x3:cA Try.prog kC.f kC.p=true:=by kernel_rfl
def B7:=Fv Try.prog (bo Try.prog [(35,cg)] [kC] (fun q=>Nat.beq q 58) false false [ny]) 9 9 135 ui
def bA (x:bC):(aI bR):=(goN dw (⟨x.data,x.a,x.m,x.b,(au (x.m - x.a)),(au (x.b - x.m)),x.held⟩:bR))
def gG (x:bC):(aI bm):=(eR (⟨(bA x).st.data,(au ((bA x).st.m - (bA x).st.i)),(bA x).st.m,(bA x).st.i,(bA x).st.eN⟩:bm))
def kD (x:bC):aI bC:=
 (cond (av x.data.n x.data.n)
 (cond ((bA x).by (aE.ak.exit 0))
 (cond (av (bA x).st.data.n (bA x).st.data.n)
 (cond ((gG x).by aE.ak.ret)
 (cond (av (gG x).st.data.n (bA x).st.data.n)
 (.out aE.ak.ret (⟨(gG x).st.data,(bA x).st.a,(bA x).st.m,(bA x).st.b,(gG x).st.held⟩:bC))
 .fail)
 .fail)
 .fail)
 .fail)
 .fail)
theorem AA (x:bC):B7 (lI x) (lJ x)=aI.enc lI lJ (kD x):=by
 unfold kD
 try simp only [aI.df]
 kernel_rfl
def dZ (x:bC):aI bC:=kD x
def eO:Fc:=⟨135,ui,fun vs rs=>dC lI lJ (dZ (tu vs rs)) [aE.ak.ret]⟩
theorem fh:eO.Ok Try.prog:=Br funcs mixed (ao.cons bH ao.nil) (az.cons zN x3 az.nil) (L:=9) (n:=9) (step:=dZ) (ev:=lI) (er:=lJ) (pa:=tu) rfl (fun wv wr=>⟨by kernel_rfl,by kernel_rfl⟩) AA (BV:=(fR.cons qJ fR.nil))
structure bf where
 data:(Sl aK)
 a:Int
 b:Int
 held:aB
instance:Inhabited bf:=⟨⟨default,default,default,default⟩⟩
def iJ (x:bf):List KV:=[iE 58 hJ x.data,.int .i64 x.a,.int .i64 x.b,.fn (.func 77) [] [.ptr 0 0]]
def iK (x:bf):List (List KV):=[cY x.held]
def oT (vs:List KV) (rs:List (List KV)):bf:=⟨gZ gP (vs.getD 0 .aw),intOf (vs.getD 1 .aw),intOf (vs.getD 2 .aw),cZ (fun k=>(rs.getD 0 []).getD k .aw)⟩
def py:aU:=⟨[(0,⟨false,[.arr 58]⟩),(1,⟨false,[.k (.int .i64)]⟩),(2,⟨false,[.k (.int .i64)]⟩),(3,⟨false,[.ref (.fn (.func 77) [] [.ptr 0 0])]⟩)],[(100003,[.k (.slice 45),.k (.slice 108),.k (.slice 139)],1)],[]⟩
structure bK where
 data:(Sl aK)
 a:Int
 b:Int
 i:Int
 bZ:aB
instance:Inhabited bK:=⟨⟨default,default,default,default,default⟩⟩
def hM (x:bK):List KV:=[iE 58 hJ x.data,.int .i64 x.a,.int .i64 x.b,.fn (.func 77) [] [.ptr 0 0],.int .i64 x.i]
def hO (x:bK):List (List KV):=[cY x.bZ]
def n8 (vs:List KV) (rs:List (List KV)):bK:=⟨gZ gP (vs.getD 0 .aw),intOf (vs.getD 1 .aw),intOf (vs.getD 2 .aw),intOf (vs.getD 4 .aw),cZ (fun k=>(rs.getD 0 []).getD k .aw)⟩
def ox:aU:=⟨[(0,⟨false,[.arr 58]⟩),(1,⟨false,[.k (.int .i64)]⟩),(2,⟨false,[.k (.int .i64)]⟩),(3,⟨false,[.ref (.fn (.func 77) [] [.ptr 0 0])]⟩),(8,⟨false,[.k (.int .i64)]⟩)],[(100003,[.k (.slice 45),.k (.slice 108),.k (.slice 139)],1)],[]⟩
structure bB where
 data:(Sl aK)
 a:Int
 b:Int
 i:Int
 j:Int
 bZ:aB
instance:Inhabited bB:=⟨⟨default,default,default,default,default,default⟩⟩
def gL (x:bB):List KV:=[iE 58 hJ x.data,.int .i64 x.a,.int .i64 x.b,.fn (.func 77) [] [.ptr 0 0],.int .i64 x.i,.int .i64 x.j]
def gM (x:bB):List (List KV):=[cY x.bZ]
def nE (vs:List KV) (rs:List (List KV)):bB:=⟨gZ gP (vs.getD 0 .aw),intOf (vs.getD 1 .aw),intOf (vs.getD 2 .aw),intOf (vs.getD 4 .aw),intOf (vs.getD 5 .aw),cZ (fun k=>(rs.getD 0 []).getD k .aw)⟩
def nX:aU:=⟨[(0,⟨false,[.arr 58]⟩),(1,⟨false,[.k (.int .i64)]⟩),(2,⟨false,[.k (.int .i64)]⟩),(3,⟨false,[.ref (.fn (.func 77) [] [.ptr 0 0])]⟩),(8,⟨false,[.k (.int .i64)]⟩),(9,⟨false,[.k (.int .i64)]⟩)],[(100003,[.k (.slice 45),.k (.slice 108),.k (.slice 139)],1)],[]⟩
def uv:=pM Try.prog (bo Try.prog [(35,cg)] [] (fun q=>Nat.beq q 58)) 9 9 122 402 (eZ Try.prog 122 402) nX
def gC (x:bB):(Option Int):=(eC (x.bZ.cT.items.get (Int.toNat (x.data.get (0+(Int.toNat x.j))).item)).look.bin (x.bZ.cT.items.get (Int.toNat (x.data.get (0+(Int.toNat (au (x.j - (1:Int)))))).item)).look.bin)
def cq (x:bB):aI bB:=
 (cond (decide (x.j > x.a))
 (cond ((decide ((0:Int)≤x.j))&&(decide (x.j < ((x.data.n:Nat):Int))))
 (cond ((decide ((0:Int)≤(au (x.j - (1:Int)))))&&(decide ((au (x.j - (1:Int))) < ((x.data.n:Nat):Int))))
 (cond ((decide ((0:Int)≤(x.data.get (0+(Int.toNat x.j))).item))&&(decide ((x.data.get (0+(Int.toNat x.j))).item < ((x.bZ.cT.items.n:Nat):Int))))
 (cond ((decide ((0:Int)≤(x.data.get (0+(Int.toNat (au (x.j - (1:Int)))))).item))&&(decide ((x.data.get (0+(Int.toNat (au (x.j - (1:Int)))))).item < ((x.bZ.cT.items.n:Nat):Int))))
 (cond (gC x).isSome
 (cond (decide (((gC x).getD default) < (0:Int)))
 (cond ((decide ((0:Int)≤(au (x.j - (1:Int)))))&&(decide ((au (x.j - (1:Int))) < ((x.data.n:Nat):Int))))
 (cond ((decide ((0:Int)≤x.j))&&(decide (x.j < ((x.data.n:Nat):Int))))
 (cond ((decide ((0:Int)≤x.j))&&(decide (x.j < ((x.data.n:Nat):Int))))
 (cond ((decide ((0:Int)≤(au (x.j - (1:Int)))))&&(decide ((au (x.j - (1:Int))) < ((x.data.n:Nat):Int))))
 (cond (av x.data.n x.data.n)
 (.next (⟨((x.data.set (0+(Int.toNat x.j)) (x.data.get (0+(Int.toNat (au (x.j - (1:Int))))))).set (0+(Int.toNat (au (x.j - (1:Int))))) (x.data.get (0+(Int.toNat x.j)))),x.a,x.b,x.i,(au (x.j - (1:Int))),x.bZ⟩:bB))
 .fail)
 .fail)
 .fail)
 .fail)
 .fail)
 (cond (av x.data.n x.data.n)
 (.out (aE.ak.exit 2) x)
 .fail))
 .fail)
 .fail)
 .fail)
 .fail)
 .fail)
 (cond (av x.data.n x.data.n)
 (.out (aE.ak.exit 2) x)
 .fail))
theorem tv (x:bB):uv (gL x) (gM x)=aI.enc gL gM (cq x):=by
 unfold cq
 try simp only [aI.df,MS,Hh]
 kernel_rfl
def fj:Lp:=⟨122,402,nX,fun vs rs=>dC gL gM (goN cq (nE vs rs)) [aE.ak.exit 2],true⟩
theorem nF:fj.Ok Try.prog:=lF funcs mixed (ao.cons bH ao.nil) az.nil (L:=9) (n:=9) (step:=cq) (ev:=gL) (er:=gM) (pa:=nE) rfl (fun wv wr=>⟨by kernel_rfl,by kernel_rfl⟩) tv
theorem mQ:cA Try.prog fj.f fj.p=true:=by kernel_rfl
def vN:=pM Try.prog (bo Try.prog [(35,cg)] [fj] (fun q=>Nat.beq q 58)) 9 9 122 6 (eZ Try.prog 122 6) ox
def bQ (x:bK):(aI bB):=(goN cq (⟨x.data,x.a,x.b,x.i,x.i,x.bZ⟩:bB))
def cI (x:bK):aI bK:=
 (cond (decide (x.i < x.b))
 (cond (av x.data.n x.data.n)
 (cond ((bQ x).by (aE.ak.exit 2))
 (cond (av (bQ x).st.data.n (bQ x).st.data.n)
 (.next (⟨(bQ x).st.data,(bQ x).st.a,(bQ x).st.b,(au ((bQ x).st.i+(1:Int))),(bQ x).st.bZ⟩:bK))
 .fail)
 .fail)
 .fail)
 (cond (av x.data.n x.data.n)
 (.out (aE.ak.exit 0) x)
 .fail))
theorem uw (x:bK):vN (hM x) (hO x)=aI.enc hM hO (cI x):=by
 unfold cI
 try simp only [aI.df]
 kernel_rfl
def im:Lp:=⟨122,6,ox,fun vs rs=>dC hM hO (goN cI (n8 vs rs)) [aE.ak.exit 0],true⟩
theorem vO:im.Ok Try.prog:=lF funcs mixed (ao.cons bH ao.nil) (az.cons nF mQ az.nil) (L:=9) (n:=9) (step:=cI) (ev:=hM) (er:=hO) (pa:=n8) rfl (fun wv wr=>⟨by kernel_rfl,by kernel_rfl⟩) uw
theorem tK:cA Try.prog im.f im.p=true:=by kernel_rfl
def w6:=Fv Try.prog (bo Try.prog [(35,cg)] [fj,im] (fun q=>Nat.beq q 58)) 9 9 122 py
def cD (x:bf):(aI bK):=(goN cI (⟨x.data,x.a,x.b,(au (x.a+(1:Int))),x.held⟩:bK))
def hQ (x:bf):aI bf:=
 (cond (av x.data.n x.data.n)
 (cond ((cD x).by (aE.ak.exit 0))
 (cond (av (cD x).st.data.n (cD x).st.data.n)
 (.out aE.ak.ret (⟨(cD x).st.data,(cD x).st.a,(cD x).st.b,(cD x).st.bZ⟩:bf))
 .fail)
 .fail)
 .fail)
theorem vP (x:bf):w6 (iJ x) (iK x)=aI.enc iJ iK (hQ x):=by
 unfold hQ
 try simp only [aI.df]
 kernel_rfl
def eS (x:bf):aI bf:=hQ x
def gw:Fc:=⟨122,py,fun vs rs=>dC iJ iK (eS (oT vs rs)) [aE.ak.ret]⟩
theorem iq:gw.Ok Try.prog:=Br funcs mixed (ao.cons bH ao.nil) (az.cons nF mQ (az.cons vO tK az.nil)) (L:=9) (n:=9) (step:=eS) (ev:=iJ) (er:=iK) (pa:=oT) rfl (fun wv wr=>⟨by kernel_rfl,by kernel_rfl⟩) vP
structure ah where
 data:(Sl aK)
 a:Int
 m:Int
 b:Int
 held:aB
instance:Inhabited ah:=⟨⟨default,default,default,default,default⟩⟩
def iB (x:ah):List KV:=[iE 58 hJ x.data,.int .i64 x.a,.int .i64 x.m,.int .i64 x.b,.fn (.func 77) [] [.ptr 0 0]]
def iC (x:ah):List (List KV):=[cY x.held]
def nz (vs:List KV) (rs:List (List KV)):ah:=⟨gZ gP (vs.getD 0 .aw),intOf (vs.getD 1 .aw),intOf (vs.getD 2 .aw),intOf (vs.getD 3 .aw),cZ (fun k=>(rs.getD 0 []).getD k .aw)⟩
def nY:aU:=⟨[(0,⟨false,[.arr 58]⟩),(1,⟨false,[.k (.int .i64)]⟩),(2,⟨false,[.k (.int .i64)]⟩),(3,⟨false,[.k (.int .i64)]⟩),(4,⟨false,[.ref (.fn (.func 77) [] [.ptr 0 0])]⟩)],[(100004,[.k (.slice 45),.k (.slice 108),.k (.slice 139)],1)],[]⟩
structure bM where
 data:(Sl aK)
 a:Int
 m:Int
 b:Int
 i:Int
 j:Int
 eN:aB
instance:Inhabited bM:=⟨⟨default,default,default,default,default,default,default⟩⟩
def ji (x:bM):List KV:=[iE 58 hJ x.data,.int .i64 x.a,.int .i64 x.m,.int .i64 x.b,.fn (.func 77) [] [.ptr 0 0],.int .i64 x.i,.int .i64 x.j]
def jj (x:bM):List (List KV):=[cY x.eN]
def pz (vs:List KV) (rs:List (List KV)):bM:=⟨gZ gP (vs.getD 0 .aw),intOf (vs.getD 1 .aw),intOf (vs.getD 2 .aw),intOf (vs.getD 3 .aw),intOf (vs.getD 5 .aw),intOf (vs.getD 6 .aw),cZ (fun k=>(rs.getD 0 []).getD k .aw)⟩
def pS:aU:=⟨[(0,⟨false,[.arr 58]⟩),(1,⟨false,[.k (.int .i64)]⟩),(2,⟨false,[.k (.int .i64)]⟩),(3,⟨false,[.k (.int .i64)]⟩),(4,⟨false,[.ref (.fn (.func 77) [] [.ptr 0 0])]⟩),(10,⟨false,[.k (.int .i64)]⟩),(11,⟨false,[.k (.int .i64)]⟩)],[(100004,[.k (.slice 45),.k (.slice 108),.k (.slice 139)],1)],[]⟩
def x4:=pM Try.prog (bo Try.prog [(35,cg)] [] (fun q=>Nat.beq q 58) false false [eO]) 9 9 123 172 (eZ Try.prog 123 172) pS
def iL (x:bM):(Option Int):=(eC (x.eN.cT.items.get (Int.toNat (x.data.get (0+(Int.toNat (au (Int.fdiv (m4 (au (x.i+x.j))) (2:Int)))))).item)).look.bin (x.eN.cT.items.get (Int.toNat (x.data.get (0+(Int.toNat x.a))).item)).look.bin)
def da (x:bM):aI bM:=
 (cond (decide (x.i < x.j))
 (cond ((decide ((0:Int)≤(au (Int.fdiv (m4 (au (x.i+x.j))) (2:Int)))))&&(decide ((au (Int.fdiv (m4 (au (x.i+x.j))) (2:Int))) < ((x.data.n:Nat):Int))))
 (cond ((decide ((0:Int)≤x.a))&&(decide (x.a < ((x.data.n:Nat):Int))))
 (cond ((decide ((0:Int)≤(x.data.get (0+(Int.toNat (au (Int.fdiv (m4 (au (x.i+x.j))) (2:Int)))))).item))&&(decide ((x.data.get (0+(Int.toNat (au (Int.fdiv (m4 (au (x.i+x.j))) (2:Int)))))).item < ((x.eN.cT.items.n:Nat):Int))))
 (cond ((decide ((0:Int)≤(x.data.get (0+(Int.toNat x.a))).item))&&(decide ((x.data.get (0+(Int.toNat x.a))).item < ((x.eN.cT.items.n:Nat):Int))))
 (cond (iL x).isSome
 (cond (decide (((iL x).getD default) < (0:Int)))
 (cond (av x.data.n x.data.n)
 (.next (⟨x.data,x.a,x.m,x.b,(au ((au (Int.fdiv (m4 (au (x.i+x.j))) (2:Int)))+(1:Int))),x.j,x.eN⟩:bM))
 .fail)
 (cond (av x.data.n x.data.n)
 (.next (⟨x.data,x.a,x.m,x.b,x.i,(au (Int.fdiv (m4 (au (x.i+x.j))) (2:Int))),x.eN⟩:bM))
 .fail))
 .fail)
 .fail)
 .fail)
 .fail)
 .fail)
 (cond (av x.data.n x.data.n)
 (.out (aE.ak.exit 0) x)
 .fail))
theorem wB (x:bM):x4 (ji x) (jj x)=aI.enc ji jj (da x):=by
 unfold da
 try simp only [aI.df]
 kernel_rfl
def cW:Lp:=⟨123,172,pS,fun vs rs=>dC ji jj (goN da (pz vs rs)) [aE.ak.exit 0],true⟩
theorem eT:cW.Ok Try.prog:=lF funcs mixed (ao.cons bH ao.nil) az.nil (L:=9) (n:=9) (step:=da) (ev:=ji) (er:=jj) (pa:=pz) rfl (fun wv wr=>⟨by kernel_rfl,by kernel_rfl⟩) wB (BV:=(fR.cons fh fR.nil))
theorem en:cA Try.prog cW.f cW.p=true:=by kernel_rfl
structure bN where
 data:(Sl aK)
 a:Int
 m:Int
 b:Int
 i:Int
 j:Int
 eN:aB
instance:Inhabited bN:=⟨⟨default,default,default,default,default,default,default⟩⟩
def jk (x:bN):List KV:=[iE 58 hJ x.data,.int .i64 x.a,.int .i64 x.m,.int .i64 x.b,.fn (.func 77) [] [.ptr 0 0],.int .i64 x.i,.int .i64 x.j]
def jl (x:bN):List (List KV):=[cY x.eN]
def pA (vs:List KV) (rs:List (List KV)):bN:=⟨gZ gP (vs.getD 0 .aw),intOf (vs.getD 1 .aw),intOf (vs.getD 2 .aw),intOf (vs.getD 3 .aw),intOf (vs.getD 5 .aw),intOf (vs.getD 6 .aw),cZ (fun k=>(rs.getD 0 []).getD k .aw)⟩
def pT:aU:=⟨[(0,⟨false,[.arr 58]⟩),(1,⟨false,[.k (.int .i64)]⟩),(2,⟨false,[.k (.int .i64)]⟩),(3,⟨false,[.k (.int .i64)]⟩),(4,⟨false,[.ref (.fn (.func 77) [] [.ptr 0 0])]⟩),(14,⟨false,[.k (.int .i64)]⟩),(15,⟨false,[.k (.int .i64)]⟩)],[(100004,[.k (.slice 45),.k (.slice 108),.k (.slice 139)],1)],[]⟩
def x5:=pM Try.prog (bo Try.prog [(35,cg)] [cW] (fun q=>Nat.beq q 58) false false [eO]) 9 9 123 428 (eZ Try.prog 123 428) pT
def iM (x:bN):(Option Int):=(eC (x.eN.cT.items.get (Int.toNat (x.data.get (0+(Int.toNat x.m))).item)).look.bin (x.eN.cT.items.get (Int.toNat (x.data.get (0+(Int.toNat (au (Int.fdiv (m4 (au (x.i+x.j))) (2:Int)))))).item)).look.bin)
def db (x:bN):aI bN:=
 (cond (decide (x.i < x.j))
 (cond ((decide ((0:Int)≤x.m))&&(decide (x.m < ((x.data.n:Nat):Int))))
 (cond ((decide ((0:Int)≤(au (Int.fdiv (m4 (au (x.i+x.j))) (2:Int)))))&&(decide ((au (Int.fdiv (m4 (au (x.i+x.j))) (2:Int))) < ((x.data.n:Nat):Int))))
 (cond ((decide ((0:Int)≤(x.data.get (0+(Int.toNat x.m))).item))&&(decide ((x.data.get (0+(Int.toNat x.m))).item < ((x.eN.cT.items.n:Nat):Int))))
 (cond ((decide ((0:Int)≤(x.data.get (0+(Int.toNat (au (Int.fdiv (m4 (au (x.i+x.j))) (2:Int)))))).item))&&(decide ((x.data.get (0+(Int.toNat (au (Int.fdiv (m4 (au (x.i+x.j))) (2:Int)))))).item < ((x.eN.cT.items.n:Nat):Int))))
 (cond (iM x).isSome
 (cond (!(decide (((iM x).getD default) < (0:Int))))
 (cond (av x.data.n x.data.n)
 (.next (⟨x.data,x.a,x.m,x.b,(au ((au (Int.fdiv (m4 (au (x.i+x.j))) (2:Int)))+(1:Int))),x.j,x.eN⟩:bN))
 .fail)
 (cond (av x.data.n x.data.n)
 (.next (⟨x.data,x.a,x.m,x.b,x.i,(au (Int.fdiv (m4 (au (x.i+x.j))) (2:Int))),x.eN⟩:bN))
 .fail))
 .fail)
 .fail)
 .fail)
 .fail)
 .fail)
 (cond (av x.data.n x.data.n)
 (.out (aE.ak.exit 4) x)
 .fail))
theorem wC (x:bN):x5 (jk x) (jl x)=aI.enc jk jl (db x):=by
 unfold db
 try simp only [aI.df]
 kernel_rfl
def dx:Lp:=⟨123,428,pT,fun vs rs=>dC jk jl (goN db (pA vs rs)) [aE.ak.exit 4],true⟩
theorem gx:dx.Ok Try.prog:=lF funcs mixed (ao.cons bH ao.nil) (az.cons eT en az.nil) (L:=9) (n:=9) (step:=db) (ev:=jk) (er:=jl) (pa:=pA) rfl (fun wv wr=>⟨by kernel_rfl,by kernel_rfl⟩) wC (BV:=(fR.cons fh fR.nil))
theorem fH:cA Try.prog dx.f dx.p=true:=by kernel_rfl
structure cC where
 data:(Sl aK)
 a:Int
 m:Int
 b:Int
 i:Int
 k:Int
 eN:aB
instance:Inhabited cC:=⟨⟨default,default,default,default,default,default,default⟩⟩
def jm (x:cC):List KV:=[iE 58 hJ x.data,.int .i64 x.a,.int .i64 x.m,.int .i64 x.b,.fn (.func 77) [] [.ptr 0 0],.int .i64 x.i,.int .i64 x.k]
def jn (x:cC):List (List KV):=[cY x.eN]
def pB (vs:List KV) (rs:List (List KV)):cC:=⟨gZ gP (vs.getD 0 .aw),intOf (vs.getD 1 .aw),intOf (vs.getD 2 .aw),intOf (vs.getD 3 .aw),intOf (vs.getD 5 .aw),intOf (vs.getD 6 .aw),cZ (fun k=>(rs.getD 0 []).getD k .aw)⟩
def pU:aU:=⟨[(0,⟨false,[.arr 58]⟩),(1,⟨false,[.k (.int .i64)]⟩),(2,⟨false,[.k (.int .i64)]⟩),(3,⟨false,[.k (.int .i64)]⟩),(4,⟨false,[.ref (.fn (.func 77) [] [.ptr 0 0])]⟩),(10,⟨false,[.k (.int .i64)]⟩),(13,⟨false,[.k (.int .i64)]⟩)],[(100004,[.k (.slice 45),.k (.slice 108),.k (.slice 139)],1)],[]⟩
def x6:=pM Try.prog (bo Try.prog [(35,cg)] [cW,dx] (fun q=>Nat.beq q 58) false false [eO]) 9 9 123 698 (eZ Try.prog 123 698) pU
def dc (x:cC):aI cC:=
 (cond (decide (x.k < (au (x.i - (1:Int)))))
 (cond ((decide ((0:Int)≤(au (x.k+(1:Int)))))&&(decide ((au (x.k+(1:Int))) < ((x.data.n:Nat):Int))))
 (cond ((decide ((0:Int)≤x.k))&&(decide (x.k < ((x.data.n:Nat):Int))))
 (cond ((decide ((0:Int)≤x.k))&&(decide (x.k < ((x.data.n:Nat):Int))))
 (cond ((decide ((0:Int)≤(au (x.k+(1:Int)))))&&(decide ((au (x.k+(1:Int))) < ((x.data.n:Nat):Int))))
 (cond (av x.data.n x.data.n)
 (.next (⟨((x.data.set (0+(Int.toNat x.k)) (x.data.get (0+(Int.toNat (au (x.k+(1:Int))))))).set (0+(Int.toNat (au (x.k+(1:Int))))) (x.data.get (0+(Int.toNat x.k)))),x.a,x.m,x.b,x.i,(au (x.k+(1:Int))),x.eN⟩:cC))
 .fail)
 .fail)
 .fail)
 .fail)
 .fail)
 (cond (av x.data.n x.data.n)
 (.out (aE.ak.exit 2) x)
 .fail))
theorem wD (x:cC):x6 (jm x) (jn x)=aI.enc jm jn (dc x):=by
 unfold dc
 try simp only [aI.df,MS,Hh]
 kernel_rfl
def ef:Lp:=⟨123,698,pU,fun vs rs=>dC jm jn (goN dc (pB vs rs)) [aE.ak.exit 2],true⟩
theorem jo:ef.Ok Try.prog:=lF funcs mixed (ao.cons bH ao.nil) (az.cons eT en (az.cons gx fH az.nil)) (L:=9) (n:=9) (step:=dc) (ev:=jm) (er:=jn) (pa:=pB) rfl (fun wv wr=>⟨by kernel_rfl,by kernel_rfl⟩) wD (BV:=(fR.cons fh fR.nil))
theorem hU:cA Try.prog ef.f ef.p=true:=by kernel_rfl
structure a7 where
 data:(Sl aK)
 a:Int
 m:Int
 b:Int
 cn:Int
 n:Int
 start:Int
 r:Int
 p:Int
 eN:aB
instance:Inhabited a7:=⟨⟨default,default,default,default,default,default,default,default,default,default⟩⟩
def iP (x:a7):List KV:=[iE 58 hJ x.data,.int .i64 x.a,.int .i64 x.m,.int .i64 x.b,.fn (.func 77) [] [.ptr 0 0],.int .i64 x.cn,.int .i64 x.n,.int .i64 x.start,.int .i64 x.r,.int .i64 x.p]
def iQ (x:a7):List (List KV):=[cY x.eN]
def oU (vs:List KV) (rs:List (List KV)):a7:=⟨gZ gP (vs.getD 0 .aw),intOf (vs.getD 1 .aw),intOf (vs.getD 2 .aw),intOf (vs.getD 3 .aw),intOf (vs.getD 5 .aw),intOf (vs.getD 6 .aw),intOf (vs.getD 7 .aw),intOf (vs.getD 8 .aw),intOf (vs.getD 9 .aw),cZ (fun k=>(rs.getD 0 []).getD k .aw)⟩
def pC:aU:=⟨[(0,⟨false,[.arr 58]⟩),(1,⟨false,[.k (.int .i64)]⟩),(2,⟨false,[.k (.int .i64)]⟩),(3,⟨false,[.k (.int .i64)]⟩),(4,⟨false,[.ref (.fn (.func 77) [] [.ptr 0 0])]⟩),(18,⟨false,[.k (.int .i64)]⟩),(19,⟨false,[.k (.int .i64)]⟩),(20,⟨false,[.k (.int .i64)]⟩),(21,⟨false,[.k (.int .i64)]⟩),(22,⟨false,[.k (.int .i64)]⟩)],[(100004,[.k (.slice 45),.k (.slice 108),.k (.slice 139)],1)],[]⟩
def w7:=pM Try.prog (bo Try.prog [(35,cg)] [cW,dx,ef] (fun q=>Nat.beq q 58) false false [eO]) 9 9 123 1020 (eZ Try.prog 123 1020) pC
def ir (x:a7):(Option Int):=(eC (x.eN.cT.items.get (Int.toNat (x.data.get (0+(Int.toNat (au (x.p - (au (Int.fdiv (m4 (au (x.start+x.r))) (2:Int)))))))).item)).look.bin (x.eN.cT.items.get (Int.toNat (x.data.get (0+(Int.toNat (au (Int.fdiv (m4 (au (x.start+x.r))) (2:Int)))))).item)).look.bin)
def ct (x:a7):aI a7:=
 (cond (decide (x.start < x.r))
 (cond ((decide ((0:Int)≤(au (x.p - (au (Int.fdiv (m4 (au (x.start+x.r))) (2:Int)))))))&&(decide ((au (x.p - (au (Int.fdiv (m4 (au (x.start+x.r))) (2:Int))))) < ((x.data.n:Nat):Int))))
 (cond ((decide ((0:Int)≤(au (Int.fdiv (m4 (au (x.start+x.r))) (2:Int)))))&&(decide ((au (Int.fdiv (m4 (au (x.start+x.r))) (2:Int))) < ((x.data.n:Nat):Int))))
 (cond ((decide ((0:Int)≤(x.data.get (0+(Int.toNat (au (x.p - (au (Int.fdiv (m4 (au (x.start+x.r))) (2:Int)))))))).item))&&(decide ((x.data.get (0+(Int.toNat (au (x.p - (au (Int.fdiv (m4 (au (x.start+x.r))) (2:Int)))))))).item < ((x.eN.cT.items.n:Nat):Int))))
 (cond ((decide ((0:Int)≤(x.data.get (0+(Int.toNat (au (Int.fdiv (m4 (au (x.start+x.r))) (2:Int)))))).item))&&(decide ((x.data.get (0+(Int.toNat (au (Int.fdiv (m4 (au (x.start+x.r))) (2:Int)))))).item < ((x.eN.cT.items.n:Nat):Int))))
 (cond (ir x).isSome
 (cond (!(decide (((ir x).getD default) < (0:Int))))
 (cond (av x.data.n x.data.n)
 (.next (⟨x.data,x.a,x.m,x.b,x.cn,x.n,(au ((au (Int.fdiv (m4 (au (x.start+x.r))) (2:Int)))+(1:Int))),x.r,x.p,x.eN⟩:a7))
 .fail)
 (cond (av x.data.n x.data.n)
 (.next (⟨x.data,x.a,x.m,x.b,x.cn,x.n,x.start,(au (Int.fdiv (m4 (au (x.start+x.r))) (2:Int))),x.p,x.eN⟩:a7))
 .fail))
 .fail)
 .fail)
 .fail)
 .fail)
 .fail)
 (cond (av x.data.n x.data.n)
 (.out (aE.ak.exit 8) x)
 .fail))
theorem vQ (x:a7):w7 (iP x) (iQ x)=aI.enc iP iQ (ct x):=by
 unfold ct
 try simp only [aI.df]
 kernel_rfl
def eU:Lp:=⟨123,1020,pC,fun vs rs=>dC iP iQ (goN ct (oU vs rs)) [aE.ak.exit 8],true⟩
theorem ly:eU.Ok Try.prog:=lF funcs mixed (ao.cons bH ao.nil) (az.cons eT en (az.cons gx fH (az.cons jo hU az.nil))) (L:=9) (n:=9) (step:=ct) (ev:=iP) (er:=iQ) (pa:=oU) rfl (fun wv wr=>⟨by kernel_rfl,by kernel_rfl⟩) vQ (BV:=(fR.cons fh fR.nil))
theorem j9:cA Try.prog eU.f eU.p=true:=by kernel_rfl
structure cp where
 data:(Sl aK)
 a:Int
 m:Int
 b:Int
 i:Int
 k:Int
 eN:aB
instance:Inhabited cp:=⟨⟨default,default,default,default,default,default,default⟩⟩
def iR (x:cp):List KV:=[iE 58 hJ x.data,.int .i64 x.a,.int .i64 x.m,.int .i64 x.b,.fn (.func 77) [] [.ptr 0 0],.int .i64 x.i,.int .i64 x.k]
def iU (x:cp):List (List KV):=[cY x.eN]
def oV (vs:List KV) (rs:List (List KV)):cp:=⟨gZ gP (vs.getD 0 .aw),intOf (vs.getD 1 .aw),intOf (vs.getD 2 .aw),intOf (vs.getD 3 .aw),intOf (vs.getD 5 .aw),intOf (vs.getD 6 .aw),cZ (fun k=>(rs.getD 0 []).getD k .aw)⟩
def pD:aU:=⟨[(0,⟨false,[.arr 58]⟩),(1,⟨false,[.k (.int .i64)]⟩),(2,⟨false,[.k (.int .i64)]⟩),(3,⟨false,[.k (.int .i64)]⟩),(4,⟨false,[.ref (.fn (.func 77) [] [.ptr 0 0])]⟩),(14,⟨false,[.k (.int .i64)]⟩),(17,⟨false,[.k (.int .i64)]⟩)],[(100004,[.k (.slice 45),.k (.slice 108),.k (.slice 139)],1)],[]⟩
def w9:=pM Try.prog (bo Try.prog [(35,cg)] [cW,dx,ef,eU] (fun q=>Nat.beq q 58) false false [eO]) 9 9 123 1722 (eZ Try.prog 123 1722) pD
def cU (x:cp):aI cp:=
 (cond (decide (x.k > x.i))
 (cond ((decide ((0:Int)≤(au (x.k - (1:Int)))))&&(decide ((au (x.k - (1:Int))) < ((x.data.n:Nat):Int))))
 (cond ((decide ((0:Int)≤x.k))&&(decide (x.k < ((x.data.n:Nat):Int))))
 (cond ((decide ((0:Int)≤x.k))&&(decide (x.k < ((x.data.n:Nat):Int))))
 (cond ((decide ((0:Int)≤(au (x.k - (1:Int)))))&&(decide ((au (x.k - (1:Int))) < ((x.data.n:Nat):Int))))
 (cond (av x.data.n x.data.n)
 (.next (⟨((x.data.set (0+(Int.toNat x.k)) (x.data.get (0+(Int.toNat (au (x.k - (1:Int))))))).set (0+(Int.toNat (au (x.k - (1:Int))))) (x.data.get (0+(Int.toNat x.k)))),x.a,x.m,x.b,x.i,(au (x.k - (1:Int))),x.eN⟩:cp))
 .fail)
 .fail)
 .fail)
 .fail)
 .fail)
 (cond (av x.data.n x.data.n)
 (.out (aE.ak.exit 6) x)
 .fail))
theorem vR (x:cp):w9 (iR x) (iU x)=aI.enc iR iU (cU x):=by
 unfold cU
 try simp only [aI.df,MS,Hh]
 kernel_rfl
def gz:Lp:=⟨123,1722,pD,fun vs rs=>dC iR iU (goN cU (oV vs rs)) [aE.ak.exit 6],true⟩
theorem oW:gz.Ok Try.prog:=lF funcs mixed (ao.cons bH ao.nil) (az.cons eT en (az.cons gx fH (az.cons jo hU (az.cons ly j9 az.nil)))) (L:=9) (n:=9) (step:=cU) (ev:=iR) (er:=iU) (pa:=oV) rfl (fun wv wr=>⟨by kernel_rfl,by kernel_rfl⟩) vR (BV:=(fR.cons fh fR.nil))
theorem nZ:cA Try.prog gz.f gz.p=true:=by kernel_rfl
def AB (rc:ah→aI ah):=Fv Try.prog (bo Try.prog [(35,cg)] [cW,dx,ef,eU,gz] (fun q=>Nat.beq q 58) false false ((⟨123,nY,fun vs rs=>dC iB iC (rc (nz vs rs)) [aE.ak.ret]⟩:Fc)::[eO])) 9 9 123 nY
def cu (rc:ah→aI ah) (x:ah):(aI bM):=(goN da (⟨x.data,x.a,x.m,x.b,x.m,x.b,x.held⟩:bM))
def cP (rc:ah→aI ah) (x:ah):(aI cC):=(goN dc (⟨(cu rc x).st.data,(cu rc x).st.a,(cu rc x).st.m,(cu rc x).st.b,(cu rc x).st.i,(cu rc x).st.a,(cu rc x).st.eN⟩:cC))
def cv (rc:ah→aI ah) (x:ah):(aI bN):=(goN db (⟨x.data,x.a,x.m,x.b,x.a,x.m,x.held⟩:bN))
def cQ (rc:ah→aI ah) (x:ah):(aI cp):=(goN cU (⟨(cv rc x).st.data,(cv rc x).st.a,(cv rc x).st.m,(cv rc x).st.b,(cv rc x).st.i,(cv rc x).st.m,(cv rc x).st.eN⟩:cp))
def ae (rc:ah→aI ah) (x:ah):(aI a7):=(goN ct (⟨x.data,x.a,x.m,x.b,(au (Int.fdiv (m4 (au (x.a+x.b))) (2:Int))),(au ((au (Int.fdiv (m4 (au (x.a+x.b))) (2:Int)))+x.m)),(au ((au ((au (Int.fdiv (m4 (au (x.a+x.b))) (2:Int)))+x.m)) - x.b)),(au (Int.fdiv (m4 (au (x.a+x.b))) (2:Int))),(au ((au ((au (Int.fdiv (m4 (au (x.a+x.b))) (2:Int)))+x.m)) - (1:Int))),x.held⟩:a7))
def aV (rc:ah→aI ah) (x:ah):(aI bC):=(dZ (⟨(ae rc x).st.data,(ae rc x).st.start,(ae rc x).st.m,(au ((ae rc x).st.n - (ae rc x).st.start)),(ae rc x).st.eN⟩:bC))
def cR (rc:ah→aI ah) (x:ah):(aI ah):=(rc (⟨(aV rc x).st.data,(ae rc x).st.a,(ae rc x).st.start,(ae rc x).st.cn,(aV rc x).st.held⟩:ah))
def jW (rc:ah→aI ah) (x:ah):(aI ah):=(rc (⟨(cR rc x).st.data,(ae rc x).st.cn,(au ((ae rc x).st.n - (ae rc x).st.start)),(ae rc x).st.b,(cR rc x).st.held⟩:ah))
def dQ (rc:ah→aI ah) (x:ah):(aI ah):=(rc (⟨(aV rc x).st.data,(ae rc x).st.cn,(au ((ae rc x).st.n - (ae rc x).st.start)),(ae rc x).st.b,(aV rc x).st.held⟩:ah))
def a9 (rc:ah→aI ah) (x:ah):(aI ah):=(rc (⟨(ae rc x).st.data,(ae rc x).st.a,(ae rc x).st.start,(ae rc x).st.cn,(ae rc x).st.eN⟩:ah))
def dD (rc:ah→aI ah) (x:ah):(aI ah):=(rc (⟨(a9 rc x).st.data,(ae rc x).st.cn,(au ((ae rc x).st.n - (ae rc x).st.start)),(ae rc x).st.b,(a9 rc x).st.held⟩:ah))
def bh (rc:ah→aI ah) (x:ah):(aI ah):=(rc (⟨(ae rc x).st.data,(ae rc x).st.cn,(au ((ae rc x).st.n - (ae rc x).st.start)),(ae rc x).st.b,(ae rc x).st.eN⟩:ah))
def aa (rc:ah→aI ah) (x:ah):(aI a7):=(goN ct (⟨x.data,x.a,x.m,x.b,(au (Int.fdiv (m4 (au (x.a+x.b))) (2:Int))),(au ((au (Int.fdiv (m4 (au (x.a+x.b))) (2:Int)))+x.m)),x.a,x.m,(au ((au ((au (Int.fdiv (m4 (au (x.a+x.b))) (2:Int)))+x.m)) - (1:Int))),x.held⟩:a7))
def aQ (rc:ah→aI ah) (x:ah):(aI bC):=(dZ (⟨(aa rc x).st.data,(aa rc x).st.start,(aa rc x).st.m,(au ((aa rc x).st.n - (aa rc x).st.start)),(aa rc x).st.eN⟩:bC))
def cK (rc:ah→aI ah) (x:ah):(aI ah):=(rc (⟨(aQ rc x).st.data,(aa rc x).st.a,(aa rc x).st.start,(aa rc x).st.cn,(aQ rc x).st.held⟩:ah))
def jL (rc:ah→aI ah) (x:ah):(aI ah):=(rc (⟨(cK rc x).st.data,(aa rc x).st.cn,(au ((aa rc x).st.n - (aa rc x).st.start)),(aa rc x).st.b,(cK rc x).st.held⟩:ah))
def dE (rc:ah→aI ah) (x:ah):(aI ah):=(rc (⟨(aQ rc x).st.data,(aa rc x).st.cn,(au ((aa rc x).st.n - (aa rc x).st.start)),(aa rc x).st.b,(aQ rc x).st.held⟩:ah))
def a8 (rc:ah→aI ah) (x:ah):(aI ah):=(rc (⟨(aa rc x).st.data,(aa rc x).st.a,(aa rc x).st.start,(aa rc x).st.cn,(aa rc x).st.eN⟩:ah))
def dF (rc:ah→aI ah) (x:ah):(aI ah):=(rc (⟨(a8 rc x).st.data,(aa rc x).st.cn,(au ((aa rc x).st.n - (aa rc x).st.start)),(aa rc x).st.b,(a8 rc x).st.held⟩:ah))
def bj (rc:ah→aI ah) (x:ah):(aI ah):=(rc (⟨(aa rc x).st.data,(aa rc x).st.cn,(au ((aa rc x).st.n - (aa rc x).st.start)),(aa rc x).st.b,(aa rc x).st.eN⟩:ah))
def dG (rc:ah→aI ah) (x:ah):aI ah:=
 (cond ((au (x.m - x.a))==(1:Int))
 (cond (av x.data.n x.data.n)
 (cond ((cu rc x).by (aE.ak.exit 0))
 (cond (av (cu rc x).st.data.n (cu rc x).st.data.n)
 (cond ((cP rc x).by (aE.ak.exit 2))
 (cond (av (cP rc x).st.data.n (cP rc x).st.data.n)
 (.out aE.ak.ret (⟨(cP rc x).st.data,(cP rc x).st.a,(cP rc x).st.m,(cP rc x).st.b,(cP rc x).st.eN⟩:ah))
 .fail)
 .fail)
 .fail)
 .fail)
 .fail)
 (cond ((au (x.b - x.m))==(1:Int))
 (cond (av x.data.n x.data.n)
 (cond ((cv rc x).by (aE.ak.exit 4))
 (cond (av (cv rc x).st.data.n (cv rc x).st.data.n)
 (cond ((cQ rc x).by (aE.ak.exit 6))
 (cond (av (cQ rc x).st.data.n (cQ rc x).st.data.n)
 (.out aE.ak.ret (⟨(cQ rc x).st.data,(cQ rc x).st.a,(cQ rc x).st.m,(cQ rc x).st.b,(cQ rc x).st.eN⟩:ah))
 .fail)
 .fail)
 .fail)
 .fail)
 .fail)
 (cond (decide (x.m > (au (Int.fdiv (m4 (au (x.a+x.b))) (2:Int)))))
 (cond (av x.data.n x.data.n)
 (cond ((ae rc x).by (aE.ak.exit 8))
 (cond (decide ((ae rc x).st.start < (ae rc x).st.m))
 (cond (decide ((ae rc x).st.m < (au ((ae rc x).st.n - (ae rc x).st.start))))
 (cond (av (ae rc x).st.data.n (ae rc x).st.data.n)
 (cond ((aV rc x).by aE.ak.ret)
 (cond (decide ((ae rc x).st.a < (ae rc x).st.start))
 (cond (decide ((ae rc x).st.start < (ae rc x).st.cn))
 (cond (av (aV rc x).st.data.n (ae rc x).st.data.n)
 (cond ((cR rc x).by aE.ak.ret)
 (cond (decide ((ae rc x).st.cn < (au ((ae rc x).st.n - (ae rc x).st.start))))
 (cond (decide ((au ((ae rc x).st.n - (ae rc x).st.start)) < (ae rc x).st.b))
 (cond (av (cR rc x).st.data.n (ae rc x).st.data.n)
 (cond ((jW rc x).by aE.ak.ret)
 (cond (av (jW rc x).st.data.n (ae rc x).st.data.n)
 (.out aE.ak.ret (⟨(jW rc x).st.data,(ae rc x).st.a,(ae rc x).st.m,(ae rc x).st.b,(jW rc x).st.held⟩:ah))
 .fail)
 .fail)
 .fail)
 (cond (av (cR rc x).st.data.n (ae rc x).st.data.n)
 (.out aE.ak.ret (⟨(cR rc x).st.data,(ae rc x).st.a,(ae rc x).st.m,(ae rc x).st.b,(cR rc x).st.held⟩:ah))
 .fail))
 (cond (av (cR rc x).st.data.n (ae rc x).st.data.n)
 (.out aE.ak.ret (⟨(cR rc x).st.data,(ae rc x).st.a,(ae rc x).st.m,(ae rc x).st.b,(cR rc x).st.held⟩:ah))
 .fail))
 .fail)
 .fail)
 (cond (decide ((ae rc x).st.cn < (au ((ae rc x).st.n - (ae rc x).st.start))))
 (cond (decide ((au ((ae rc x).st.n - (ae rc x).st.start)) < (ae rc x).st.b))
 (cond (av (aV rc x).st.data.n (ae rc x).st.data.n)
 (cond ((dQ rc x).by aE.ak.ret)
 (cond (av (dQ rc x).st.data.n (ae rc x).st.data.n)
 (.out aE.ak.ret (⟨(dQ rc x).st.data,(ae rc x).st.a,(ae rc x).st.m,(ae rc x).st.b,(dQ rc x).st.held⟩:ah))
 .fail)
 .fail)
 .fail)
 (cond (av (aV rc x).st.data.n (ae rc x).st.data.n)
 (.out aE.ak.ret (⟨(aV rc x).st.data,(ae rc x).st.a,(ae rc x).st.m,(ae rc x).st.b,(aV rc x).st.held⟩:ah))
 .fail))
 (cond (av (aV rc x).st.data.n (ae rc x).st.data.n)
 (.out aE.ak.ret (⟨(aV rc x).st.data,(ae rc x).st.a,(ae rc x).st.m,(ae rc x).st.b,(aV rc x).st.held⟩:ah))
 .fail)))
 (cond (decide ((ae rc x).st.cn < (au ((ae rc x).st.n - (ae rc x).st.start))))
 (cond (decide ((au ((ae rc x).st.n - (ae rc x).st.start)) < (ae rc x).st.b))
 (cond (av (aV rc x).st.data.n (ae rc x).st.data.n)
 (cond ((dQ rc x).by aE.ak.ret)
 (cond (av (dQ rc x).st.data.n (ae rc x).st.data.n)
 (.out aE.ak.ret (⟨(dQ rc x).st.data,(ae rc x).st.a,(ae rc x).st.m,(ae rc x).st.b,(dQ rc x).st.held⟩:ah))
 .fail)
 .fail)
 .fail)
 (cond (av (aV rc x).st.data.n (ae rc x).st.data.n)
 (.out aE.ak.ret (⟨(aV rc x).st.data,(ae rc x).st.a,(ae rc x).st.m,(ae rc x).st.b,(aV rc x).st.held⟩:ah))
 .fail))
 (cond (av (aV rc x).st.data.n (ae rc x).st.data.n)
 (.out aE.ak.ret (⟨(aV rc x).st.data,(ae rc x).st.a,(ae rc x).st.m,(ae rc x).st.b,(aV rc x).st.held⟩:ah))
 .fail)))
 .fail)
 .fail)
 (cond (decide ((ae rc x).st.a < (ae rc x).st.start))
 (cond (decide ((ae rc x).st.start < (ae rc x).st.cn))
 (cond (av (ae rc x).st.data.n (ae rc x).st.data.n)
 (cond ((a9 rc x).by aE.ak.ret)
 (cond (decide ((ae rc x).st.cn < (au ((ae rc x).st.n - (ae rc x).st.start))))
 (cond (decide ((au ((ae rc x).st.n - (ae rc x).st.start)) < (ae rc x).st.b))
 (cond (av (a9 rc x).st.data.n (ae rc x).st.data.n)
 (cond ((dD rc x).by aE.ak.ret)
 (cond (av (dD rc x).st.data.n (ae rc x).st.data.n)
 (.out aE.ak.ret (⟨(dD rc x).st.data,(ae rc x).st.a,(ae rc x).st.m,(ae rc x).st.b,(dD rc x).st.held⟩:ah))
 .fail)
 .fail)
 .fail)
 (cond (av (a9 rc x).st.data.n (ae rc x).st.data.n)
 (.out aE.ak.ret (⟨(a9 rc x).st.data,(ae rc x).st.a,(ae rc x).st.m,(ae rc x).st.b,(a9 rc x).st.held⟩:ah))
 .fail))
 (cond (av (a9 rc x).st.data.n (ae rc x).st.data.n)
 (.out aE.ak.ret (⟨(a9 rc x).st.data,(ae rc x).st.a,(ae rc x).st.m,(ae rc x).st.b,(a9 rc x).st.held⟩:ah))
 .fail))
 .fail)
 .fail)
 (cond (decide ((ae rc x).st.cn < (au ((ae rc x).st.n - (ae rc x).st.start))))
 (cond (decide ((au ((ae rc x).st.n - (ae rc x).st.start)) < (ae rc x).st.b))
 (cond (av (ae rc x).st.data.n (ae rc x).st.data.n)
 (cond ((bh rc x).by aE.ak.ret)
 (cond (av (bh rc x).st.data.n (ae rc x).st.data.n)
 (.out aE.ak.ret (⟨(bh rc x).st.data,(ae rc x).st.a,(ae rc x).st.m,(ae rc x).st.b,(bh rc x).st.held⟩:ah))
 .fail)
 .fail)
 .fail)
 (cond (av (ae rc x).st.data.n (ae rc x).st.data.n)
 (.out aE.ak.ret (⟨(ae rc x).st.data,(ae rc x).st.a,(ae rc x).st.m,(ae rc x).st.b,(ae rc x).st.eN⟩:ah))
 .fail))
 (cond (av (ae rc x).st.data.n (ae rc x).st.data.n)
 (.out aE.ak.ret (⟨(ae rc x).st.data,(ae rc x).st.a,(ae rc x).st.m,(ae rc x).st.b,(ae rc x).st.eN⟩:ah))
 .fail)))
 (cond (decide ((ae rc x).st.cn < (au ((ae rc x).st.n - (ae rc x).st.start))))
 (cond (decide ((au ((ae rc x).st.n - (ae rc x).st.start)) < (ae rc x).st.b))
 (cond (av (ae rc x).st.data.n (ae rc x).st.data.n)
 (cond ((bh rc x).by aE.ak.ret)
 (cond (av (bh rc x).st.data.n (ae rc x).st.data.n)
 (.out aE.ak.ret (⟨(bh rc x).st.data,(ae rc x).st.a,(ae rc x).st.m,(ae rc x).st.b,(bh rc x).st.held⟩:ah))
 .fail)
 .fail)
 .fail)
 (cond (av (ae rc x).st.data.n (ae rc x).st.data.n)
 (.out aE.ak.ret (⟨(ae rc x).st.data,(ae rc x).st.a,(ae rc x).st.m,(ae rc x).st.b,(ae rc x).st.eN⟩:ah))
 .fail))
 (cond (av (ae rc x).st.data.n (ae rc x).st.data.n)
 (.out aE.ak.ret (⟨(ae rc x).st.data,(ae rc x).st.a,(ae rc x).st.m,(ae rc x).st.b,(ae rc x).st.eN⟩:ah))
 .fail))))
 (cond (decide ((ae rc x).st.a < (ae rc x).st.start))
 (cond (decide ((ae rc x).st.start < (ae rc x).st.cn))
 (cond (av (ae rc x).st.data.n (ae rc x).st.data.n)
 (cond ((a9 rc x).by aE.ak.ret)
 (cond (decide ((ae rc x).st.cn < (au ((ae rc x).st.n - (ae rc x).st.start))))
 (cond (decide ((au ((ae rc x).st.n - (ae rc x).st.start)) < (ae rc x).st.b))
 (cond (av (a9 rc x).st.data.n (ae rc x).st.data.n)
 (cond ((dD rc x).by aE.ak.ret)
 (cond (av (dD rc x).st.data.n (ae rc x).st.data.n)
 (.out aE.ak.ret (⟨(dD rc x).st.data,(ae rc x).st.a,(ae rc x).st.m,(ae rc x).st.b,(dD rc x).st.held⟩:ah))
 .fail)
 .fail)
 .fail)
 (cond (av (a9 rc x).st.data.n (ae rc x).st.data.n)
 (.out aE.ak.ret (⟨(a9 rc x).st.data,(ae rc x).st.a,(ae rc x).st.m,(ae rc x).st.b,(a9 rc x).st.held⟩:ah))
 .fail))
 (cond (av (a9 rc x).st.data.n (ae rc x).st.data.n)
 (.out aE.ak.ret (⟨(a9 rc x).st.data,(ae rc x).st.a,(ae rc x).st.m,(ae rc x).st.b,(a9 rc x).st.held⟩:ah))
 .fail))
 .fail)
 .fail)
 (cond (decide ((ae rc x).st.cn < (au ((ae rc x).st.n - (ae rc x).st.start))))
 (cond (decide ((au ((ae rc x).st.n - (ae rc x).st.start)) < (ae rc x).st.b))
 (cond (av (ae rc x).st.data.n (ae rc x).st.data.n)
 (cond ((bh rc x).by aE.ak.ret)
 (cond (av (bh rc x).st.data.n (ae rc x).st.data.n)
 (.out aE.ak.ret (⟨(bh rc x).st.data,(ae rc x).st.a,(ae rc x).st.m,(ae rc x).st.b,(bh rc x).st.held⟩:ah))
 .fail)
 .fail)
 .fail)
 (cond (av (ae rc x).st.data.n (ae rc x).st.data.n)
 (.out aE.ak.ret (⟨(ae rc x).st.data,(ae rc x).st.a,(ae rc x).st.m,(ae rc x).st.b,(ae rc x).st.eN⟩:ah))
 .fail))
 (cond (av (ae rc x).st.data.n (ae rc x).st.data.n)
 (.out aE.ak.ret (⟨(ae rc x).st.data,(ae rc x).st.a,(ae rc x).st.m,(ae rc x).st.b,(ae rc x).st.eN⟩:ah))
 .fail)))
 (cond (decide ((ae rc x).st.cn < (au ((ae rc x).st.n - (ae rc x).st.start))))
 (cond (decide ((au ((ae rc x).st.n - (ae rc x).st.start)) < (ae rc x).st.b))
 (cond (av (ae rc x).st.data.n (ae rc x).st.data.n)
 (cond ((bh rc x).by aE.ak.ret)
 (cond (av (bh rc x).st.data.n (ae rc x).st.data.n)
 (.out aE.ak.ret (⟨(bh rc x).st.data,(ae rc x).st.a,(ae rc x).st.m,(ae rc x).st.b,(bh rc x).st.held⟩:ah))
 .fail)
 .fail)
 .fail)
 (cond (av (ae rc x).st.data.n (ae rc x).st.data.n)
 (.out aE.ak.ret (⟨(ae rc x).st.data,(ae rc x).st.a,(ae rc x).st.m,(ae rc x).st.b,(ae rc x).st.eN⟩:ah))
 .fail))
 (cond (av (ae rc x).st.data.n (ae rc x).st.data.n)
 (.out aE.ak.ret (⟨(ae rc x).st.data,(ae rc x).st.a,(ae rc x).st.m,(ae rc x).st.b,(ae rc x).st.eN⟩:ah))
 .fail))))
 .fail)
 .fail)
 (cond (av x.data.n x.data.n)
 (cond ((aa rc x).by (aE.ak.exit 8))
 (cond (decide ((aa rc x).st.start < (aa rc x).st.m))
 (cond (decide ((aa rc x).st.m < (au ((aa rc x).st.n - (aa rc x).st.start))))
 (cond (av (aa rc x).st.data.n (aa rc x).st.data.n)
 (cond ((aQ rc x).by aE.ak.ret)
 (cond (decide ((aa rc x).st.a < (aa rc x).st.start))
 (cond (decide ((aa rc x).st.start < (aa rc x).st.cn))
 (cond (av (aQ rc x).st.data.n (aa rc x).st.data.n)
 (cond ((cK rc x).by aE.ak.ret)
 (cond (decide ((aa rc x).st.cn < (au ((aa rc x).st.n - (aa rc x).st.start))))
 (cond (decide ((au ((aa rc x).st.n - (aa rc x).st.start)) < (aa rc x).st.b))
 (cond (av (cK rc x).st.data.n (aa rc x).st.data.n)
 (cond ((jL rc x).by aE.ak.ret)
 (cond (av (jL rc x).st.data.n (aa rc x).st.data.n)
 (.out aE.ak.ret (⟨(jL rc x).st.data,(aa rc x).st.a,(aa rc x).st.m,(aa rc x).st.b,(jL rc x).st.held⟩:ah))
 .fail)
 .fail)
 .fail)
 (cond (av (cK rc x).st.data.n (aa rc x).st.data.n)
 (.out aE.ak.ret (⟨(cK rc x).st.data,(aa rc x).st.a,(aa rc x).st.m,(aa rc x).st.b,(cK rc x).st.held⟩:ah))
 .fail))
 (cond (av (cK rc x).st.data.n (aa rc x).st.data.n)
 (.out aE.ak.ret (⟨(cK rc x).st.data,(aa rc x).st.a,(aa rc x).st.m,(aa rc x).st.b,(cK rc x).st.held⟩:ah))
 .fail))
 .fail)
 .fail)
 (cond (decide ((aa rc x).st.cn < (au ((aa rc x).st.n - (aa rc x).st.start))))
 (cond (decide ((au ((aa rc x).st.n - (aa rc x).st.start)) < (aa rc x).st.b))
 (cond (av (aQ rc x).st.data.n (aa rc x).st.data.n)
 (cond ((dE rc x).by aE.ak.ret)
 (cond (av (dE rc x).st.data.n (aa rc x).st.data.n)
 (.out aE.ak.ret (⟨(dE rc x).st.data,(aa rc x).st.a,(aa rc x).st.m,(aa rc x).st.b,(dE rc x).st.held⟩:ah))
 .fail)
 .fail)
 .fail)
 (cond (av (aQ rc x).st.data.n (aa rc x).st.data.n)
 (.out aE.ak.ret (⟨(aQ rc x).st.data,(aa rc x).st.a,(aa rc x).st.m,(aa rc x).st.b,(aQ rc x).st.held⟩:ah))
 .fail))
 (cond (av (aQ rc x).st.data.n (aa rc x).st.data.n)
 (.out aE.ak.ret (⟨(aQ rc x).st.data,(aa rc x).st.a,(aa rc x).st.m,(aa rc x).st.b,(aQ rc x).st.held⟩:ah))
 .fail)))
 (cond (decide ((aa rc x).st.cn < (au ((aa rc x).st.n - (aa rc x).st.start))))
 (cond (decide ((au ((aa rc x).st.n - (aa rc x).st.start)) < (aa rc x).st.b))
 (cond (av (aQ rc x).st.data.n (aa rc x).st.data.n)
 (cond ((dE rc x).by aE.ak.ret)
 (cond (av (dE rc x).st.data.n (aa rc x).st.data.n)
 (.out aE.ak.ret (⟨(dE rc x).st.data,(aa rc x).st.a,(aa rc x).st.m,(aa rc x).st.b,(dE rc x).st.held⟩:ah))
 .fail)
 .fail)
 .fail)
 (cond (av (aQ rc x).st.data.n (aa rc x).st.data.n)
 (.out aE.ak.ret (⟨(aQ rc x).st.data,(aa rc x).st.a,(aa rc x).st.m,(aa rc x).st.b,(aQ rc x).st.held⟩:ah))
 .fail))
 (cond (av (aQ rc x).st.data.n (aa rc x).st.data.n)
 (.out aE.ak.ret (⟨(aQ rc x).st.data,(aa rc x).st.a,(aa rc x).st.m,(aa rc x).st.b,(aQ rc x).st.held⟩:ah))
 .fail)))
 .fail)
 .fail)
 (cond (decide ((aa rc x).st.a < (aa rc x).st.start))
 (cond (decide ((aa rc x).st.start < (aa rc x).st.cn))
 (cond (av (aa rc x).st.data.n (aa rc x).st.data.n)
 (cond ((a8 rc x).by aE.ak.ret)
 (cond (decide ((aa rc x).st.cn < (au ((aa rc x).st.n - (aa rc x).st.start))))
 (cond (decide ((au ((aa rc x).st.n - (aa rc x).st.start)) < (aa rc x).st.b))
 (cond (av (a8 rc x).st.data.n (aa rc x).st.data.n)
 (cond ((dF rc x).by aE.ak.ret)
 (cond (av (dF rc x).st.data.n (aa rc x).st.data.n)
 (.out aE.ak.ret (⟨(dF rc x).st.data,(aa rc x).st.a,(aa rc x).st.m,(aa rc x).st.b,(dF rc x).st.held⟩:ah))
 .fail)
 .fail)
 .fail)
 (cond (av (a8 rc x).st.data.n (aa rc x).st.data.n)
 (.out aE.ak.ret (⟨(a8 rc x).st.data,(aa rc x).st.a,(aa rc x).st.m,(aa rc x).st.b,(a8 rc x).st.held⟩:ah))
 .fail))
 (cond (av (a8 rc x).st.data.n (aa rc x).st.data.n)
 (.out aE.ak.ret (⟨(a8 rc x).st.data,(aa rc x).st.a,(aa rc x).st.m,(aa rc x).st.b,(a8 rc x).st.held⟩:ah))
 .fail))
 .fail)
 .fail)
 (cond (decide ((aa rc x).st.cn < (au ((aa rc x).st.n - (aa rc x).st.start))))
 (cond (decide ((au ((aa rc x).st.n - (aa rc x).st.start)) < (aa rc x).st.b))
 (cond (av (aa rc x).st.data.n (aa rc x).st.data.n)
 (cond ((bj rc x).by aE.ak.ret)
 (cond (av (bj rc x).st.data.n (aa rc x).st.data.n)
 (.out aE.ak.ret (⟨(bj rc x).st.data,(aa rc x).st.a,(aa rc x).st.m,(aa rc x).st.b,(bj rc x).st.held⟩:ah))
 .fail)
 .fail)
 .fail)
 (cond (av (aa rc x).st.data.n (aa rc x).st.data.n)
 (.out aE.ak.ret (⟨(aa rc x).st.data,(aa rc x).st.a,(aa rc x).st.m,(aa rc x).st.b,(aa rc x).st.eN⟩:ah))
 .fail))
 (cond (av (aa rc x).st.data.n (aa rc x).st.data.n)
 (.out aE.ak.ret (⟨(aa rc x).st.data,(aa rc x).st.a,(aa rc x).st.m,(aa rc x).st.b,(aa rc x).st.eN⟩:ah))
 .fail)))
 (cond (decide ((aa rc x).st.cn < (au ((aa rc x).st.n - (aa rc x).st.start))))
 (cond (decide ((au ((aa rc x).st.n - (aa rc x).st.start)) < (aa rc x).st.b))
 (cond (av (aa rc x).st.data.n (aa rc x).st.data.n)
 (cond ((bj rc x).by aE.ak.ret)
 (cond (av (bj rc x).st.data.n (aa rc x).st.data.n)
 (.out aE.ak.ret (⟨(bj rc x).st.data,(aa rc x).st.a,(aa rc x).st.m,(aa rc x).st.b,(bj rc x).st.held⟩:ah))
 .fail)
 .fail)
 .fail)
 (cond (av (aa rc x).st.data.n (aa rc x).st.data.n)
 (.out aE.ak.ret (⟨(aa rc x).st.data,(aa rc x).st.a,(aa rc x).st.m,(aa rc x).st.b,(aa rc x).st.eN⟩:ah))
 .fail))
 (cond (av (aa rc x).st.data.n (aa rc x).st.data.n)
 (.out aE.ak.ret (⟨(aa rc x).st.data,(aa rc x).st.a,(aa rc x).st.m,(aa rc x).st.b,(aa rc x).st.eN⟩:ah))
 .fail))))
 (cond (decide ((aa rc x).st.a < (aa rc x).st.start))
 (cond (decide ((aa rc x).st.start < (aa rc x).st.cn))
 (cond (av (aa rc x).st.data.n (aa rc x).st.data.n)
 (cond ((a8 rc x).by aE.ak.ret)
 (cond (decide ((aa rc x).st.cn < (au ((aa rc x).st.n - (aa rc x).st.start))))
 (cond (decide ((au ((aa rc x).st.n - (aa rc x).st.start)) < (aa rc x).st.b))
 (cond (av (a8 rc x).st.data.n (aa rc x).st.data.n)
 (cond ((dF rc x).by aE.ak.ret)
 (cond (av (dF rc x).st.data.n (aa rc x).st.data.n)
 (.out aE.ak.ret (⟨(dF rc x).st.data,(aa rc x).st.a,(aa rc x).st.m,(aa rc x).st.b,(dF rc x).st.held⟩:ah))
 .fail)
 .fail)
 .fail)
 (cond (av (a8 rc x).st.data.n (aa rc x).st.data.n)
 (.out aE.ak.ret (⟨(a8 rc x).st.data,(aa rc x).st.a,(aa rc x).st.m,(aa rc x).st.b,(a8 rc x).st.held⟩:ah))
 .fail))
 (cond (av (a8 rc x).st.data.n (aa rc x).st.data.n)
 (.out aE.ak.ret (⟨(a8 rc x).st.data,(aa rc x).st.a,(aa rc x).st.m,(aa rc x).st.b,(a8 rc x).st.held⟩:ah))
 .fail))
 .fail)
 .fail)
 (cond (decide ((aa rc x).st.cn < (au ((aa rc x).st.n - (aa rc x).st.start))))
 (cond (decide ((au ((aa rc x).st.n - (aa rc x).st.start)) < (aa rc x).st.b))
 (cond (av (aa rc x).st.data.n (aa rc x).st.data.n)
 (cond ((bj rc x).by aE.ak.ret)
 (cond (av (bj rc x).st.data.n (aa rc x).st.data.n)
 (.out aE.ak.ret (⟨(bj rc x).st.data,(aa rc x).st.a,(aa rc x).st.m,(aa rc x).st.b,(bj rc x).st.held⟩:ah))
 .fail)
 .fail)
 .fail)
 (cond (av (aa rc x).st.data.n (aa rc x).st.data.n)
 (.out aE.ak.ret (⟨(aa rc x).st.data,(aa rc x).st.a,(aa rc x).st.m,(aa rc x).st.b,(aa rc x).st.eN⟩:ah))
 .fail))
 (cond (av (aa rc x).st.data.n (aa rc x).st.data.n)
 (.out aE.ak.ret (⟨(aa rc x).st.data,(aa rc x).st.a,(aa rc x).st.m,(aa rc x).st.b,(aa rc x).st.eN⟩:ah))
 .fail)))
 (cond (decide ((aa rc x).st.cn < (au ((aa rc x).st.n - (aa rc x).st.start))))
 (cond (decide ((au ((aa rc x).st.n - (aa rc x).st.start)) < (aa rc x).st.b))
 (cond (av (aa rc x).st.data.n (aa rc x).st.data.n)
 (cond ((bj rc x).by aE.ak.ret)
 (cond (av (bj rc x).st.data.n (aa rc x).st.data.n)
 (.out aE.ak.ret (⟨(bj rc x).st.data,(aa rc x).st.a,(aa rc x).st.m,(aa rc x).st.b,(bj rc x).st.held⟩:ah))
 .fail)
 .fail)
 .fail)
 (cond (av (aa rc x).st.data.n (aa rc x).st.data.n)
 (.out aE.ak.ret (⟨(aa rc x).st.data,(aa rc x).st.a,(aa rc x).st.m,(aa rc x).st.b,(aa rc x).st.eN⟩:ah))
 .fail))
 (cond (av (aa rc x).st.data.n (aa rc x).st.data.n)
 (.out aE.ak.ret (⟨(aa rc x).st.data,(aa rc x).st.a,(aa rc x).st.m,(aa rc x).st.b,(aa rc x).st.eN⟩:ah))
 .fail))))
 .fail)
 .fail))))
theorem zz (rc:ah→aI ah) (x:ah):AB rc (iB x) (iC x)=aI.enc iB iC (dG rc x):=by
 unfold dG
 try simp only [aI.df]
 kernel_rfl
def gH:Nat→ah→aI ah:=fun n=>Nat.rec (fun _=>.fail) (fun _ ih x=>dG ih x) n
def ja (n:Nat):Fc:=⟨123,nY,fun vs rs=>dC iB iC (gH n (nz vs rs)) [aE.ak.ret]⟩
theorem hZ:∀ n,(ja n).Ok Try.prog
 | 0=>ahc (cfg:=bo Try.prog [(35,cg)] [cW,dx,ef,eU,gz] (fun q=>Nat.beq q 58) false false [eO]) ((ao.cons bH ao.nil):ao Try.prog _).pc (MN funcs mixed (MO funcs mixed (fR.cons fh fR.nil)) (az.cons eT en (az.cons gx fH (az.cons jo hU (az.cons ly j9 (az.cons oW nZ az.nil)))))) rfl fun _ _=>rfl
 | n+1=>Br funcs mixed (ao.cons bH ao.nil) (az.cons eT en (az.cons gx fH (az.cons jo hU (az.cons ly j9 (az.cons oW nZ az.nil))))) (L:=9) (n:=9) (step:=gH (n+1)) (ev:=iB) (er:=iC) (pa:=nz) rfl (fun wv wr=>⟨by kernel_rfl,by kernel_rfl⟩) (zz (gH n)) (BV:=(fR.cons (hZ n) (fR.cons fh fR.nil)))
structure bO where
 data:(Sl aK)
 n:Int
 held:aB
instance:Inhabited bO:=⟨⟨default,default,default⟩⟩
def lK (x:bO):List KV:=[iE 58 hJ x.data,.int .i64 x.n,.fn (.func 77) [] [.ptr 0 0]]
def lL (x:bO):List (List KV):=[cY x.held]
def tw (vs:List KV) (rs:List (List KV)):bO:=⟨gZ gP (vs.getD 0 .aw),intOf (vs.getD 1 .aw),cZ (fun k=>(rs.getD 0 []).getD k .aw)⟩
def uj:aU:=⟨[(0,⟨false,[.arr 58]⟩),(1,⟨false,[.k (.int .i64)]⟩),(2,⟨false,[.ref (.fn (.func 77) [] [.ptr 0 0])]⟩)],[(100002,[.k (.slice 45),.k (.slice 108),.k (.slice 139)],1)],[]⟩
structure cE where
 data:(Sl aK)
 n:Int
 jE:Int
 a:Int
 b:Int
 JY:aB
instance:Inhabited cE:=⟨⟨default,default,default,default,default,default⟩⟩
def jX (x:cE):List KV:=[iE 58 hJ x.data,.int .i64 x.n,.fn (.func 77) [] [.ptr 0 0],.int .i64 x.jE,.int .i64 x.a,.int .i64 x.b]
def jY (x:cE):List (List KV):=[cY x.JY]
def rh (vs:List KV) (rs:List (List KV)):cE:=⟨gZ gP (vs.getD 0 .aw),intOf (vs.getD 1 .aw),intOf (vs.getD 3 .aw),intOf (vs.getD 4 .aw),intOf (vs.getD 5 .aw),cZ (fun k=>(rs.getD 0 []).getD k .aw)⟩
def r7:aU:=⟨[(0,⟨false,[.arr 58]⟩),(1,⟨false,[.k (.int .i64)]⟩),(2,⟨false,[.ref (.fn (.func 77) [] [.ptr 0 0])]⟩),(6,⟨false,[.k (.int .i64)]⟩),(7,⟨false,[.k (.int .i64)]⟩),(8,⟨false,[.k (.int .i64)]⟩)],[(100002,[.k (.slice 45),.k (.slice 108),.k (.slice 139)],1)],[]⟩
def zO:=pM Try.prog (bo Try.prog [(35,cg)] [] (fun q=>Nat.beq q 58) false false [gw,(ja Lg)]) 9 9 105 28 (eZ Try.prog 105 28) r7
def gW (x:cE):(aI bf):=(eS (⟨x.data,x.a,x.b,x.JY⟩:bf))
def dy (x:cE):aI cE:=
 (cond (decide (x.b≤x.n))
 (cond (av x.data.n x.data.n)
 (cond ((gW x).by aE.ak.ret)
 (cond (av (gW x).st.data.n x.data.n)
 (.next (⟨(gW x).st.data,x.n,x.jE,x.b,(au (x.b+x.jE)),(gW x).st.held⟩:cE))
 .fail)
 .fail)
 .fail)
 (cond (av x.data.n x.data.n)
 (.out (aE.ak.exit 0) x)
 .fail))
theorem yC (x:cE):zO (jX x) (jY x)=aI.enc jX jY (dy x):=by
 unfold dy
 try simp only [aI.df]
 kernel_rfl
def gi:Lp:=⟨105,28,r7,fun vs rs=>dC jX jY (goN dy (rh vs rs)) [aE.ak.exit 0],true⟩
theorem m8:gi.Ok Try.prog:=lF funcs mixed (ao.cons bH ao.nil) az.nil (L:=9) (n:=9) (step:=dy) (ev:=jX) (er:=jY) (pa:=rh) rfl (fun wv wr=>⟨by kernel_rfl,by kernel_rfl⟩) yC (BV:=(fR.cons iq (fR.cons (hZ Lg) fR.nil)))
theorem lW:cA Try.prog gi.f gi.p=true:=by kernel_rfl
structure bS where
 data:(Sl aK)
 n:Int
 jE:Int
 JY:aB
instance:Inhabited bS:=⟨⟨default,default,default,default⟩⟩
def jZ (x:bS):List KV:=[iE 58 hJ x.data,.int .i64 x.n,.fn (.func 77) [] [.ptr 0 0],.int .i64 x.jE]
def j6 (x:bS):List (List KV):=[cY x.JY]
def ri (vs:List KV) (rs:List (List KV)):bS:=⟨gZ gP (vs.getD 0 .aw),intOf (vs.getD 1 .aw),intOf (vs.getD 3 .aw),cZ (fun k=>(rs.getD 0 []).getD k .aw)⟩
def r8:aU:=⟨[(0,⟨false,[.arr 58]⟩),(1,⟨false,[.k (.int .i64)]⟩),(2,⟨false,[.ref (.fn (.func 77) [] [.ptr 0 0])]⟩),(6,⟨false,[.k (.int .i64)]⟩)],[(100002,[.k (.slice 45),.k (.slice 108),.k (.slice 139)],1)],[]⟩
structure ch where
 data:(Sl aK)
 n:Int
 jE:Int
 a:Int
 b:Int
 JY:aB
instance:Inhabited ch:=⟨⟨default,default,default,default,default,default⟩⟩
def jw (x:ch):List KV:=[iE 58 hJ x.data,.int .i64 x.n,.fn (.func 77) [] [.ptr 0 0],.int .i64 x.jE,.int .i64 x.a,.int .i64 x.b]
def jx (x:ch):List (List KV):=[cY x.JY]
def pV (vs:List KV) (rs:List (List KV)):ch:=⟨gZ gP (vs.getD 0 .aw),intOf (vs.getD 1 .aw),intOf (vs.getD 3 .aw),intOf (vs.getD 4 .aw),intOf (vs.getD 5 .aw),cZ (fun k=>(rs.getD 0 []).getD k .aw)⟩
def qK:aU:=⟨[(0,⟨false,[.arr 58]⟩),(1,⟨false,[.k (.int .i64)]⟩),(2,⟨false,[.ref (.fn (.func 77) [] [.ptr 0 0])]⟩),(6,⟨false,[.k (.int .i64)]⟩),(7,⟨false,[.k (.int .i64)]⟩),(8,⟨false,[.k (.int .i64)]⟩)],[(100002,[.k (.slice 45),.k (.slice 108),.k (.slice 139)],1)],[]⟩
def yD:=pM Try.prog (bo Try.prog [(35,cg)] [gi] (fun q=>Nat.beq q 58) false false [gw,(ja Lg)]) 9 9 105 3988 (eZ Try.prog 105 3988) qK
def eV (x:ch):(aI ah):=(gH 64 (⟨x.data,x.a,(au (x.a+x.jE)),x.b,x.JY⟩:ah))
def dj (x:ch):aI ch:=
 (cond (decide (x.b≤x.n))
 (cond (av x.data.n x.data.n)
 (cond ((eV x).by aE.ak.ret)
 (cond (av (eV x).st.data.n x.data.n)
 (.next (⟨(eV x).st.data,x.n,x.jE,x.b,(au (x.b+(au ((2:Int) * x.jE)))),(eV x).st.held⟩:ch))
 .fail)
 .fail)
 .fail)
 (cond (av x.data.n x.data.n)
 (.out (aE.ak.exit 4) x)
 .fail))
theorem xa (x:ch):yD (jw x) (jx x)=aI.enc jw jx (dj x):=by
 unfold dj
 try simp only [aI.df]
 kernel_rfl
def gX:Lp:=⟨105,3988,qK,fun vs rs=>dC jw jx (goN dj (pV vs rs)) [aE.ak.exit 4],true⟩
theorem pW:gX.Ok Try.prog:=lF funcs mixed (ao.cons bH ao.nil) (az.cons m8 lW az.nil) (L:=9) (n:=9) (step:=dj) (ev:=jw) (er:=jx) (pa:=pV) rfl (fun wv wr=>⟨by kernel_rfl,by kernel_rfl⟩) xa (BV:=(fR.cons iq (fR.cons (hZ Lg) fR.nil)))
theorem oy:cA Try.prog gX.f gX.p=true:=by kernel_rfl
def zP:=pM Try.prog (bo Try.prog [(35,cg)] [gi,gX] (fun q=>Nat.beq q 58) false false [gw,(ja Lg)]) 9 9 105 62 (eZ Try.prog 105 62) r8
def aG (x:bS):(aI ch):=(goN dj (⟨x.data,x.n,x.jE,(0:Int),(au ((2:Int) * x.jE)),x.JY⟩:ch))
def fI (x:bS):(aI ah):=(gH 64 (⟨(aG x).st.data,(aG x).st.a,(au ((aG x).st.a+(aG x).st.jE)),(aG x).st.n,(aG x).st.JY⟩:ah))
def dz (x:bS):aI bS:=
 (cond (decide (x.jE < x.n))
 (cond (av x.data.n x.data.n)
 (cond ((aG x).by (aE.ak.exit 4))
 (cond (decide ((au ((aG x).st.a+(aG x).st.jE)) < (aG x).st.n))
 (cond (av (aG x).st.data.n (aG x).st.data.n)
 (cond ((fI x).by aE.ak.ret)
 (cond (av (fI x).st.data.n (aG x).st.data.n)
 (.next (⟨(fI x).st.data,(aG x).st.n,(au ((aG x).st.jE * (2:Int))),(fI x).st.held⟩:bS))
 .fail)
 .fail)
 .fail)
 (cond (av (aG x).st.data.n (aG x).st.data.n)
 (.next (⟨(aG x).st.data,(aG x).st.n,(au ((aG x).st.jE * (2:Int))),(aG x).st.JY⟩:bS))
 .fail))
 .fail)
 .fail)
 (cond (av x.data.n x.data.n)
 (.out (aE.ak.exit 2) x)
 .fail))
theorem yE (x:bS):zP (jZ x) (j6 x)=aI.enc jZ j6 (dz x):=by
 unfold dz
 try simp only [aI.df]
 kernel_rfl
def kE:Lp:=⟨105,62,r8,fun vs rs=>dC jZ j6 (goN dz (ri vs rs)) [aE.ak.exit 2],true⟩
theorem zQ:kE.Ok Try.prog:=lF funcs mixed (ao.cons bH ao.nil) (az.cons m8 lW (az.cons pW oy az.nil)) (L:=9) (n:=9) (step:=dz) (ev:=jZ) (er:=j6) (pa:=ri) rfl (fun wv wr=>⟨by kernel_rfl,by kernel_rfl⟩) yE (BV:=(fR.cons iq (fR.cons (hZ Lg) fR.nil)))
theorem x7:cA Try.prog kE.f kE.p=true:=by kernel_rfl
def B8:=Fv Try.prog (bo Try.prog [(35,cg)] [gi,gX,kE] (fun q=>Nat.beq q 58) false false [gw,(ja Lg)]) 9 9 105 uj
def cO (x:bO):(aI cE):=(goN dy (⟨x.data,x.n,(20:Int),(0:Int),(20:Int),x.held⟩:cE))
def gI (x:bO):(aI bf):=(eS (⟨(cO x).st.data,(cO x).st.a,(cO x).st.n,(cO x).st.JY⟩:bf))
def ew (x:bO):(aI bS):=(goN dz (⟨(gI x).st.data,(cO x).st.n,(cO x).st.jE,(gI x).st.held⟩:bS))
def kF (x:bO):aI bO:=
 (cond (av x.data.n x.data.n)
 (cond ((cO x).by (aE.ak.exit 0))
 (cond (av (cO x).st.data.n (cO x).st.data.n)
 (cond ((gI x).by aE.ak.ret)
 (cond (av (gI x).st.data.n (cO x).st.data.n)
 (cond ((ew x).by (aE.ak.exit 2))
 (cond (av (ew x).st.data.n (ew x).st.data.n)
 (.out aE.ak.ret (⟨(ew x).st.data,(ew x).st.n,(ew x).st.JY⟩:bO))
 .fail)
 .fail)
 .fail)
 .fail)
 .fail)
 .fail)
 .fail)
theorem AD (x:bO):B8 (lK x) (lL x)=aI.enc lK lL (kF x):=by
 unfold kF
 try simp only [aI.df]
 kernel_rfl
def jM (x:bO):aI bO:=kF x
def mh:Fc:=⟨105,uj,fun vs rs=>dC lK lL (jM (tw vs rs)) [aE.ak.ret]⟩
theorem n3:mh.Ok Try.prog:=Br funcs mixed (ao.cons bH ao.nil) (az.cons m8 lW (az.cons pW oy (az.cons zQ x7 az.nil))) (L:=9) (n:=9) (step:=jM) (ev:=lK) (er:=lL) (pa:=tw) rfl (fun wv wr=>⟨by kernel_rfl,by kernel_rfl⟩) AD (BV:=(fR.cons iq (fR.cons (hZ Lg) fR.nil)))
end
end Go.Proofs.Ytahhdndhkgbcjaa.b
end
section
namespace Go.Proofs.Ytahhdndhkgbcjaa.b
open Go.K
set_option linter.unusedVariables false
set_option linter.unusedSimpArgs false
noncomputable section
structure iD where
 t2:Int
 zero:Int
 t6:(Sl Int)
 t7:Int
 t8:Int
instance:Inhabited iD:=⟨⟨default,default,default,default,default⟩⟩
def uk (x:iD):List KV:=[.int .i64 x.t2,.int .i64 x.zero,iE 3 (kI .i64) x.t6,.int .i64 x.t7,.int .i64 x.t8]
def um (x:iD):List (List KV):=[]
def EX (vs:List KV) (rs:List (List KV)):iD:=⟨intOf (vs.getD 0 .aw),intOf (vs.getD 1 .aw),gZ intOf (vs.getD 2 .aw),intOf (vs.getD 3 .aw),intOf (vs.getD 4 .aw)⟩
def Hm:aU:=⟨[(2,⟨false,[.k (.int .i64)]⟩),(3,⟨false,[.k (.int .i64)]⟩),(6,⟨false,[.k (.slice 3)]⟩),(7,⟨false,[.k (.int .i64)]⟩),(8,⟨false,[.k (.int .i64)]⟩)],[],[]⟩
def SU:=jh Try.prog (bo Try.prog [] [] (fun _=>false)) 9 9 104 58 (eZ Try.prog 104 58) Hm
def kS (x:iD):aI iD:=
 (cond (decide (x.t8 < x.t7))
 (cond ((decide ((0:Int)≤x.t8))&&(decide (x.t8 < ((x.t6.n:Nat):Int))))
 (cond ((x.t6.get (Int.toNat x.t8)) != x.zero)
 (.out aE.ak.ret (⟨(x.t6.get (Int.toNat x.t8)),x.zero,x.t6,x.t7,x.t8⟩:iD))
 (.next (⟨x.t2,x.zero,x.t6,x.t7,(au (x.t8+(1:Int)))⟩:iD)))
 .fail)
 (.out (aE.ak.exit 0) x))
theorem Nv (x:iD):SU (uk x) (um x)=aI.enc uk um (kS x):=by
 unfold kS
 try simp only [aI.df]
 kernel_rfl
def vS:Lp:=⟨104,58,Hm,fun vs rs=>dC uk um (goN kS (EX vs rs)) [aE.ak.exit 0,aE.ak.ret],false⟩
theorem SV:vS.Ok Try.prog:=eH funcs mixed ao.nil az.nil (L:=9) (n:=9) (step:=kS) (ev:=uk) (er:=um) (pa:=EX) rfl (fun wv wr=>⟨by kernel_rfl,by kernel_rfl⟩) Nv
theorem LZ:cA Try.prog vS.f vS.p=true:=by kernel_rfl
def L1:List (Nat×(List KV→KR KV)):=[]
def L3:List Lp:=[vS]
theorem Vi:ao Try.prog L1:=ao.nil
theorem Vj:az Try.prog L3:=(az.cons SV LZ az.nil)
def qf (dW:(Sl Int)):(aI iD):=(goN kS (⟨(0:Int),(0:Int),dW,((dW.n:Nat):Int),(0:Int)⟩:iD))
def tG (dW:(Sl Int)):Option (Int):=
 (cond ((qf dW).by (aE.ak.exit 0))
 (some ((qf dW).st.zero))
 (cond ((qf dW).by aE.ak.ret)
 (some ((qf dW).st.t2))
 none))
theorem Xy (dW:(Sl Int)):dm Try.prog (bo Try.prog L1 L3 (fun _=>false)) 9 9 104 [(iE 3 (kI .i64)) dW] = (tG dW).map (kI .i64):=by
 unfold tG
 try simp only [cc]
 kernel_rfl
def OA:List KV→KR KV:=cw Try.prog 104 (cG (kI .i64) fun vs=>tG ((gZ intOf) (vs.getD 0 .aw)))
theorem Vk (w:Nat→KV):cM Try.prog [26] w 0 = [(iE 3 (kI .i64)) ((gZ intOf) (ay Try.prog (aj Try.prog aq) 26 (w 0)))]:=by kernel_rfl
theorem Vl:ca Try.prog 104 OA:=aY funcs mixed Vi Vj (L:=9) (n:=9) fun w=>by
 have e:aJ Try.prog 104 = [26]:=by kernel_rfl
 rw [e,Vk]
 exact (Xy ((gZ intOf) (ay Try.prog (aj Try.prog aq) 26 (w 0)))).trans (by kernel_rfl)
def Hn:List (Nat×(List KV→KR KV)):=[(104,OA),(35,cg)]
def Ho:List Lp:=[]
theorem PZ:ao Try.prog Hn:=(ao.cons Vl (ao.cons bH ao.nil))
theorem P0:az Try.prog Ho:=az.nil
def zA (a:aK) (b:aK):(Option Int):=(eC b.d a.d)
def zB (a:aK) (b:aK):(Option Int):=(eC a.item b.item)
def zC (a:aK) (b:aK):(Option Int):=(eC a.gA b.gA)
def zD (a:aK) (b:aK):(Option Int):=(eC a.part b.part)
def qL (a:aK) (b:aK):(Option Int):=(tG (Sl.lit [((zA a b).getD default),((zB a b).getD default),((zC a b).getD default),((zD a b).getD default)]))
def qg (a:aK) (b:aK):Option (Bool):=
 (cond (zA a b).isSome
 (cond (zB a b).isSome
 (cond (zC a b).isSome
 (cond (zD a b).isSome
 (cond (qL a b).isSome
 (some ((decide (((qL a b).getD default) < (0:Int)))))
 none)
 none)
 none)
 none)
 none)
theorem SW (a:aK) (b:aK):dm Try.prog (bo Try.prog Hn Ho (fun _=>false)) 9 9 73 [hJ a,hJ b] = (qg a b).map kB:=by
 unfold qg
 try simp only [cc,qL,Lh]
 kernel_rfl
def B9:List KV→KR KV:=cw Try.prog 73 (cG kB fun vs=>qg (gP (vs.getD 0 .aw)) (gP (vs.getD 1 .aw)))
theorem Qa (w:Nat→KV):cM Try.prog [58,58] w 0 = [hJ (gP (ay Try.prog (aj Try.prog aq) 58 (w 0))),hJ (gP (ay Try.prog (aj Try.prog aq) 58 (w 1)))]:=by kernel_rfl
theorem DV:ca Try.prog 73 B9:=aY funcs mixed PZ P0 (L:=9) (n:=9) fun w=>by
 have e:aJ Try.prog 73 = [58,58]:=by kernel_rfl
 rw [e,Qa]
 exact (SW (gP (ay Try.prog (aj Try.prog aq) 58 (w 0))) (gP (ay Try.prog (aj Try.prog aq) 58 (w 1)))).trans (by kernel_rfl)
structure aD where
 x:Int
 y:Int
 t14:(Sl cH)
 t15:Int
 t16:Int
 bZ:aB
 pX:Bool
 oX:aK
instance:Inhabited aD:=⟨⟨default,default,default,default,default,default,default,default⟩⟩
def fa (x:aD):List KV:=[.int .i64 x.x,.int .i64 x.y,.fn (.func 72) [] [.ptr 0 0,.ptr 1 0,.ptr 2 0],iE 139 sW x.t14,.int .i64 x.t15,.int .i64 x.t16]
def fc (x:aD):List (List KV):=[cY x.bZ,[.bool x.pX],ahk x.oX]
def lz (vs:List KV) (rs:List (List KV)):aD:=⟨intOf (vs.getD 0 .aw),intOf (vs.getD 1 .aw),gZ sX (vs.getD 3 .aw),intOf (vs.getD 4 .aw),intOf (vs.getD 5 .aw),cZ (fun k=>(rs.getD 0 []).getD k .aw),ql ((rs.getD 1 []).getD 0 .aw),ahl (fun k=>(rs.getD 2 []).getD k .aw)⟩
def lN:aU:=⟨[(1,⟨false,[.k (.int .i64)]⟩),(2,⟨false,[.k (.int .i64)]⟩),(3,⟨false,[.ref (.fn (.func 72) [] [.ptr 0 0,.ptr 1 0,.ptr 2 0])]⟩),(14,⟨false,[.k (.slice 139)]⟩),(15,⟨false,[.k (.int .i64)]⟩),(16,⟨false,[.k (.int .i64)]⟩)],[(100003,[.k (.slice 45),.k (.slice 108),.k (.slice 139)],1),(200003,[.k .bool],1),(300003,[.k (.int .i64),.k (.int .i64),.k (.int .i64),.k (.int .i64),.k (.int .i64),.k (.int .i64)],1)],[]⟩
def qX:=jh Try.prog (bo Try.prog [(66,qy),(73,B9)] [] (fun _=>false)) 9 9 41 14 (eZ Try.prog 41 14) lN
def aR (x:aD):(Option (Prod fX Int)):=(nU (x.t14.get (Int.toNat x.t16)).t x.x x.y)
def eP (x:aD):(Option Bool):=(qg (⟨(au ((x.t14.get (Int.toNat x.t16)).cm.d+((aR x).getD default).fst.d)),(x.t14.get (Int.toNat x.t16)).cm.item,(x.t14.get (Int.toNat x.t16)).cm.gA,(x.t14.get (Int.toNat x.t16)).cm.part,((aR x).getD default).fst.u,((aR x).getD default).fst.v⟩:aK) x.oX)
def bI (x:aD):aI aD:=
 (cond (decide (x.t16 < x.t15))
 (cond ((decide ((0:Int)≤x.t16))&&(decide (x.t16 < ((x.t14.n:Nat):Int))))
 (cond (aR x).isSome
 (cond (((aR x).getD default).snd==(0:Int))
 (cond ((decide ((0:Int)≤(x.t14.get (Int.toNat x.t16)).cm.item))&&(decide ((x.t14.get (Int.toNat x.t16)).cm.item < ((x.bZ.cT.items.n:Nat):Int))))
 (cond (!(x.bZ.cT.items.get (Int.toNat (x.t14.get (Int.toNat x.t16)).cm.item)).look.FQ)
 (cond (!x.pX)
 (.next (⟨x.x,x.y,x.t14,x.t15,(au (x.t16+(1:Int))),x.bZ,true,(⟨(au ((x.t14.get (Int.toNat x.t16)).cm.d+((aR x).getD default).fst.d)),(x.t14.get (Int.toNat x.t16)).cm.item,(x.t14.get (Int.toNat x.t16)).cm.gA,(x.t14.get (Int.toNat x.t16)).cm.part,((aR x).getD default).fst.u,((aR x).getD default).fst.v⟩:aK)⟩:aD))
 (cond (eP x).isSome
 (cond ((eP x).getD default)
 (.next (⟨x.x,x.y,x.t14,x.t15,(au (x.t16+(1:Int))),x.bZ,true,(⟨(au ((x.t14.get (Int.toNat x.t16)).cm.d+((aR x).getD default).fst.d)),(x.t14.get (Int.toNat x.t16)).cm.item,(x.t14.get (Int.toNat x.t16)).cm.gA,(x.t14.get (Int.toNat x.t16)).cm.part,((aR x).getD default).fst.u,((aR x).getD default).fst.v⟩:aK)⟩:aD))
 (.next (⟨x.x,x.y,x.t14,x.t15,(au (x.t16+(1:Int))),x.bZ,x.pX,x.oX⟩:aD)))
 .fail))
 (.next (⟨x.x,x.y,x.t14,x.t15,(au (x.t16+(1:Int))),x.bZ,x.pX,x.oX⟩:aD)))
 .fail)
 (.next (⟨x.x,x.y,x.t14,x.t15,(au (x.t16+(1:Int))),x.bZ,x.pX,x.oX⟩:aD)))
 .fail)
 .fail)
 (.out (aE.ak.exit 0) x))
theorem p9 (x:aD):qX (fa x) (fc x)=aI.enc fa fc (bI x):=by
 unfold bI
 try simp only [aI.df]
 kernel_rfl
def fo:Lp:=⟨41,14,lN,fun vs rs=>dC fa fc (goN bI (lz vs rs)) [aE.ak.exit 0],false⟩
theorem qY:fo.Ok Try.prog:=eH funcs mixed (ao.cons nV (ao.cons DV ao.nil)) az.nil (L:=9) (n:=9) (step:=bI) (ev:=fa) (er:=fc) (pa:=lz) rfl (fun wv wr=>⟨by kernel_rfl,by kernel_rfl⟩) p9
theorem pQ:cA Try.prog fo.f fo.p=true:=by kernel_rfl
def zF:List (Nat×(List KV→KR KV)):=[(66,qy),(73,B9)]
def zG:List Lp:=[fo]
theorem FV:ao Try.prog zF:=(ao.cons nV (ao.cons DV ao.nil))
theorem FW:az Try.prog zG:=(az.cons qY pQ az.nil)
def l9 (s:aB) (x:Int) (y:Int):(aI aD):=(goN bI (⟨x,y,s.parts,((s.parts.n:Nat):Int),(0:Int),s,false,(⟨(-(2048:Int)),(-(1:Int)),(-(1:Int)),(0:Int),(0:Int),(0:Int)⟩:aK)⟩:aD))
def jF (s:aB) (x:Int) (y:Int):Option (aK×Bool):=
 (cond ((l9 s x y).by (aE.ak.exit 0))
 (some ((l9 s x y).st.oX,(l9 s x y).st.pX))
 none)
theorem Hp (s:aB) (x:Int) (y:Int):dm Try.prog (bo Try.prog zF zG (fun _=>false)) 9 9 43 [mv s,(kI .i64) x,(kI .i64) y] = (jF s x y).map (fun (r:aK×Bool)=>KV.kk [hJ r.1,kB r.2]):=by
 unfold jF
 try simp only [cc]
 kernel_rfl
def ni:List KV→KR KV:=cw Try.prog 43 (cG (fun (r:aK×Bool)=>KV.kk [hJ r.1,kB r.2]) fun vs=>jF (nJ (vs.getD 0 .aw)) (intOf (vs.getD 1 .aw)) (intOf (vs.getD 2 .aw)))
theorem FX (w:Nat→KV):cM Try.prog [96,3,3] w 0 = [mv (nJ (ay Try.prog (aj Try.prog aq) 96 (w 0))),(kI .i64) (intOf (ay Try.prog (aj Try.prog aq) 3 (w 1))),(kI .i64) (intOf (ay Try.prog (aj Try.prog aq) 3 (w 2)))]:=by kernel_rfl
theorem nK:ca Try.prog 43 ni:=aY funcs mixed FV FW (L:=9) (n:=9) fun w=>by
 have e:aJ Try.prog 43 = [96,3,3]:=by kernel_rfl
 rw [e,FX]
 exact (Hp (nJ (ay Try.prog (aj Try.prog aq) 96 (w 0))) (intOf (ay Try.prog (aj Try.prog aq) 3 (w 1))) (intOf (ay Try.prog (aj Try.prog aq) 3 (w 2)))).trans (by kernel_rfl)
end
end Go.Proofs.Ytahhdndhkgbcjaa.b
end
section
namespace Go.Proofs.Ytahhdndhkgbcjaa.b
open Go.K
open Go.aE (ak)
theorem C0 {α:Type} (l:Sl α) (j:Nat) (h:j < l.n):(eX l)[j]? = some (l.get j):=by
 unfold eX
 rw [List.getElem?_map,List.getElem?_range h]
 rfl
theorem ak3 {α:Type} {l:Sl α} {v:α} (h:v∈eX l):∃ j,j < l.n∧l.get j=v:=by
 unfold eX at h
 obtain ⟨j,h1,h2⟩:=List.mem_map.1 h
 exact ⟨j,List.mem_range.1 h1,h2⟩
theorem L6 {α:Type} {l:Sl α} {j:Nat} (h:j < l.n):l.get j∈eX l:=List.mem_map.2 ⟨j,List.mem_range.2 h,rfl⟩
def mi (x y:Int) (p:cH):Option aK:=
 match nU p.t x y with
 | some (sp,e)=>cond (e==0) (some ⟨au (p.cm.d+sp.d),p.cm.item,p.cm.gA,p.cm.part,sp.u,sp.v⟩) none
 | none=>none
def kX (x y:Int) (l:List cH):List aK:=l.filterMap (mi x y)
theorem MU {x y:Int} (l:Sl cH) (j:Nat) (h:j < l.n):kX x y ((eX l).take (j+1))=kX x y ((eX l).take j)++(mi x y (l.get j)).toList:=by
 unfold kX
 rw [acU l j h,List.filterMap_append]
 congr 1
theorem EY (t:bg) (x y:Int):∃ s e,nU t x y=some (s,e):=by
 obtain ⟨s,e,h,_⟩:=aga t x y
 exact ⟨s,e,h⟩
theorem aec (x:cf) (hn:x.t14.n≤98304) (h15:x.t15=(x.t14.n:Int)) (h16:x.t16=0) (h0:x.bZ.n=0) :
  ∃ e y,goN gn x = .out e y∧(e = .exit 0∧eX y.bZ=kX x.x x.y (eX x.t14)):=by
 refine dp (step:=gn) (fun j y=>y.t14=x.t14∧y.t15=(x.t14.n:Int)∧y.t16=(j:Int)∧y.x=x.x∧y.y=x.y∧j≤x.t14.n∧y.bZ.n≤j∧eX y.bZ=kX x.x x.y ((eX x.t14).take j)) (fun e y=>e = .exit 0∧eX y.bZ=kX x.x x.y (eX x.t14)) x.t14.n (by have:mm=1000000000000:=rfl; omega) (fun j y hj ⟨f1,f2,f3,f4,f5,f6,f7,f8⟩=>?_) ⟨rfl,h15,h16,rfl,rfl,Nat.zero_le _,by omega,List.length_eq_zero_iff.1 (by rw [kV,h0])⟩
 have w1:au (y.t16+1)=y.t16+1:=bx (by omega) (by omega)
 have a1:fe 48 y.bZ.n 1=true:=I5 (by omega) (by omega) (by omega) (.inl (by omega))
 unfold gn
 by_cases h:y.t16 < y.t15
 ·have mr:j < x.t14.n:=by omega
  have hg:y.t14.get (Int.toNat y.t16)=x.t14.get j:=by rw [f1,f3,Int.toNat_natCast]
  obtain ⟨sp,e,hp⟩:=EY (x.t14.get j).t x.x x.y
  have e0:de y=some (sp,e):=by
   unfold de
   rw [hg,f4,f5]
   exact hp
  have tk:=MU (x:=x.x) (y:=x.y) x.t14 j mr
  simp only [e0,w1,a1,aZ,cond_true,Bool.and_self,Option.isSome_some,Option.getD_some,decide_eq_true h,decide_eq_true (show (0:Int)≤y.t16 by omega),decide_eq_true (show y.t16 < ((y.t14.n:Nat):Int) by rw [f1]; omega)]
  cases he:(e==(0:Int)) with
  | true=>
   have yK:mi x.x x.y (x.t14.get j)=some ⟨au ((x.t14.get j).cm.d+sp.d),(x.t14.get j).cm.item,(x.t14.get j).cm.gA,(x.t14.get j).cm.part,sp.u,sp.v⟩:=by
    unfold mi
    rw [hp]
    simp only [he,cond_true]
   rw [cond_true]
   refine .inl ⟨_,rfl,by omega,f1,f2,by show y.t16+1=_; omega,f4,f5,by omega,by simp only [Sl.CN]; omega,?_⟩
   show eX (Sl.push _ _)=_
   rw [MT,f8,tk,yK,hg]
   rfl
  | false=>
   have yK:mi x.x x.y (x.t14.get j)=none:=by
    unfold mi
    rw [hp]
    simp only [he,cond_false]
   rw [cond_false]
   refine .inl ⟨_,rfl,by omega,f1,f2,by show y.t16+1=_; omega,f4,f5,by omega,by show y.bZ.n≤_; omega,?_⟩
   show eX y.bZ=_
   rw [tk,yK,f8]
   simp
 ·simp only [aZ,cond_true,cond_false,decide_eq_false h]
  refine .inr ⟨_,_,rfl,rfl,rfl,?_⟩
  rw [f8,show j=x.t14.n by omega,List.take_of_length_le (by rw [kV]; exact Nat.le_refl _)]
theorem aed (s:Show) (c:aP) (x y:Int):∃ l e,DQ s c x y=some (l,e)∧
  (e≠0∧(∃ r,jC s c x y=some (r,e))∨e=0∧∃ r,jC s c x y=some (r,0)∧I8 s∧PU c∧(0≤x∧x < c.w)∧(0≤y∧y < c.h)∧gU s c=some 0∧sm s c=some r∧r.cT=s∧eX r.parts=iI s c∧r.parts.n≤98304∧eX l=kX x y (iI s c)):=by
 have at_:∃ r e,jC s c x y=some (r,e)∧(e≠0∨e=0∧I8 s∧PU c∧(0≤x∧x < c.w)∧(0≤y∧y < c.h)∧gU s c=some 0∧sm s c=some r∧r.cT=s∧eX r.parts=iI s c∧r.parts.n≤98304):=by
  obtain ⟨e,h1,h2⟩:=Ws s c
  have e0:w4 s c x y=some e:=h1
  unfold jC
  simp only [e0,Option.isSome_some,Option.getD_some,cond_true]
  cases he:(e != (0:Int)) with
  | true=>exact ⟨_,_,rfl,.inl (by simpa using he)⟩
  | false=>
   have he:e=0:=by simpa using he
   subst he
   obtain ⟨hs,hc⟩:=h2 rfl
   rw [cond_false]
   by_cases c1:x < 0
   ·rw [decide_eq_true c1]; exact ⟨_,_,rfl,.inl (by decide)⟩
   by_cases c2:x ≥ c.w
   ·rw [decide_eq_false c1,decide_eq_true c2]; exact ⟨_,_,rfl,.inl (by decide)⟩
   by_cases c3:y < 0
   ·rw [decide_eq_false c1,decide_eq_false c2,decide_eq_true c3]; exact ⟨_,_,rfl,.inl (by decide)⟩
   by_cases c4:y ≥ c.h
   ·rw [decide_eq_false c1,decide_eq_false c2,decide_eq_false c3,decide_eq_true c4]; exact ⟨_,_,rfl,.inl (by decide)⟩
   obtain ⟨r,hr,h3,h4,h5⟩:=acV s c hs
   have e1:Bc s c x y=some r:=hr
   simp only [decide_eq_false c1,decide_eq_false c2,decide_eq_false c3,decide_eq_false c4,cond_false,e1,Option.isSome_some,Option.getD_some,cond_true]
   exact ⟨_,_,rfl,.inr ⟨rfl,hs,hc,⟨by omega,by omega⟩,⟨by omega,by omega⟩,h1,hr,h3,h4,h5⟩⟩
 obtain ⟨r,e,h1,h2⟩:=at_
 have e0:nw s c x y=some (r,e):=h1
 rcases h2 with h2 | ⟨rfl,hs,hc,hx,hy,ha,ho,h3,h4,h5⟩
 ·unfold DQ
  simp only [e0,Option.isSome_some,Option.getD_some,cond_true,show (e==(0:Int))=false by simpa using h2,cond_false]
  exact ⟨_,_,rfl,.inl ⟨h2,r,h1⟩⟩
 ·obtain ⟨e,z,hz,rfl,h6⟩:∃ e z,o9 s c x y = .out e z∧(e = .exit 0∧eX z.bZ=kX x y (eX r.parts)):=by
   unfold o9
   rw [e0]
   exact aec _ h5 rfl rfl rfl
  have b1:(o9 s c x y).by (.exit 0)=true:=by rw [hz]; rfl
  have b2:(o9 s c x y).st=z:=by rw [hz]; rfl
  refine ⟨z.bZ,0,?_,.inr ⟨rfl,r,h1,hs,hc,hx,hy,ha,ho,h3,h4,h5,by rw [h6,h4]⟩⟩
  unfold DQ
  simp only [e0,b1,b2,Option.isSome_some,Option.getD_some,cond_true,show ((0:Int)==0)=true from rfl]
end Go.Proofs.Ytahhdndhkgbcjaa.b
end
section
namespace Go.Proofs.Ytahhdndhkgbcjaa.b
open Go.K
open Go.aE (ak)
def EZ (x y:Int):Int:=if x < y then -1 else if x > y then 1 else 0
theorem Bd (x y:Int):eC x y=some (EZ x y):=by
 unfold eC wz rz oj EZ
 simp only [bne_self_eq_false,Option.getD_some,cond_false]
 by_cases h:x < y
 ·rw [decide_eq_true h,if_pos h]; rfl
 ·rw [decide_eq_false h,if_neg h]
  by_cases h2:x > y
  ·rw [decide_eq_true h2,if_pos h2]; rfl
  ·rw [decide_eq_false h2,if_neg h2]; rfl
def or4 (a b c d:Int):Int:=if a≠0 then a else if b≠0 then b else if c≠0 then c else d
theorem ak4 (a b c d:Int):tG (Sl.lit [a,b,c,d])=some (or4 a b c d):=by
 have g0:(Sl.lit [a,b,c,d]).get 0=a:=rfl
 have g1:(Sl.lit [a,b,c,d]).get 1=b:=rfl
 have g2:(Sl.lit [a,b,c,d]).get 2=c:=rfl
 have g3:(Sl.lit [a,b,c,d]).get 3=d:=rfl
 generalize hl:Sl.lit [a,b,c,d] = l at g0 g1 g2 g3
 have hn:l.n=4:=by rw [← hl]; rfl
 obtain ⟨e,y,hy,hq⟩:∃ e y,qf l = .out e y∧((e = .exit 0∧y.zero=0∧∀ i,i < 4→l.get i=0)∨e = .ret∧∃ j,j < 4∧(∀ i,i < j→l.get i=0)∧l.get j≠0∧y.t2=l.get j):=by
  unfold qf
  refine dp (step:=kS) (fun j y=>y.zero=0∧y.t6=l∧y.t7=4∧y.t8=(j:Int)∧j≤4∧∀ i,i < j→l.get i=0) _ 4 (by have:mm=1000000000000:=rfl; omega) (fun j y hj ⟨f1,f2,f3,f4,f5,f6⟩=>?_) ⟨rfl,rfl,by show ((l.n:Nat):Int)=4; omega,rfl,Nat.zero_le _,fun i hi=>absurd hi (Nat.not_lt_zero _)⟩
  have w1:au (y.t8+1)=y.t8+1:=bx (by omega) (by omega)
  unfold kS
  by_cases h:y.t8 < y.t7
  ·have hg:y.t6.get (Int.toNat y.t8)=l.get j:=by rw [f2,f4,Int.toNat_natCast]
   simp only [w1,hg,f1,cond_true,Bool.and_self,decide_eq_true h,decide_eq_true (show (0:Int)≤y.t8 by omega),decide_eq_true (show y.t8 < ((y.t6.n:Nat):Int) by rw [f2]; omega)]
   cases hb:(l.get j != 0) with
   | true=>exact .inr ⟨_,_,rfl,rfl,.inr ⟨rfl,j,by omega,f6,by simpa using hb,rfl⟩⟩
   | false=>
    refine .inl ⟨_,rfl,by omega,by first | rfl | exact f1,f2,f3,by show y.t8+1=_; omega,by omega,fun i hi=>?_⟩
    by_cases he:i=j
    ·subst he; simpa using hb
    ·exact f6 i (by omega)
  ·simp only [cond_false,decide_eq_false h]
   exact .inr ⟨_,_,rfl,rfl,.inl ⟨rfl,f1,fun i hi=>f6 i (by omega)⟩⟩
 unfold tG or4
 rcases hq with ⟨rfl,h1,h2⟩ | ⟨rfl,j,h1,h2,h3,h4⟩
 ·rw [hy]
  simp only [aI.jR,aI.kA,fB,Nat.beq_refl,cond_true,h1]
  have e0:=h2 0 (by omega); have e1:=h2 1 (by omega); have e2:=h2 2 (by omega); have e3:=h2 3 (by omega)
  rw [g0] at e0; rw [g1] at e1; rw [g2] at e2; rw [g3] at e3
  simp [e0,e1,e2,e3]
 ·rw [hy]
  simp only [aI.jR,aI.kA,fB,cond_true,cond_false,h4]
  rcases j with _ | _ | _ | _ | j
  ·rw [g0] at h3 ⊢
   rw [if_pos h3]
  ·have e0:=h2 0 (by omega)
   rw [g0] at e0
   rw [g1] at h3 ⊢
   simp [e0,h3]
  ·have e0:=h2 0 (by omega); have e1:=h2 1 (by omega)
   rw [g0] at e0; rw [g1] at e1
   rw [g2] at h3 ⊢
   simp [e0,e1,h3]
  ·have e0:=h2 0 (by omega); have e1:=h2 1 (by omega); have e2:=h2 2 (by omega)
   rw [g0] at e0; rw [g1] at e1; rw [g2] at e2
   rw [g3] at h3 ⊢
   simp [e0,e1,e2]
  ·omega
theorem SX (x y:Int):EZ x y < 0↔x < y:=by
 unfold EZ
 split
 ·omega
 ·split <;> omega
theorem aa3 (x y:Int):EZ x y=0↔x=y:=by
 unfold EZ
 split
 ·omega
 ·split <;> omega
theorem alQ (a b c d:Int):or4 a b c d < 0↔a < 0∨a=0∧(b < 0∨b=0∧(c < 0∨c=0∧d < 0)):=by
 unfold or4
 split
 ·omega
 ·split
  ·omega
  ·split <;> omega
def xb (a b:aK):Prop:=b.d < a.d∨a.d=b.d∧(a.item < b.item∨a.item=b.item∧(a.gA < b.gA∨a.gA=b.gA∧a.part < b.part))
instance (a b:aK):Decidable (xb a b):=by unfold xb; infer_instance
theorem aee (a b:aK):qg a b=some (decide (xb a b)):=by
 have e0:zA a b=some (EZ b.d a.d):=Bd _ _
 have e1:zB a b=some (EZ a.item b.item):=Bd _ _
 have e2:zC a b=some (EZ a.gA b.gA):=Bd _ _
 have e3:zD a b=some (EZ a.part b.part):=Bd _ _
 have e4:qL a b=some (or4 (EZ b.d a.d) (EZ a.item b.item) (EZ a.gA b.gA) (EZ a.part b.part)):=by
  unfold qL
  rw [e0,e1,e2,e3]
  exact ak4 _ _ _ _
 unfold qg
 simp only [e0,e1,e2,e3,e4,Option.isSome_some,Option.getD_some,cond_true]
 congr 1
 refine decide_eq_decide.2 ?_
 rw [alQ,SX,SX,SX,SX,aa3,aa3,aa3]
 unfold xb
 omega
def pE (s:Show) (f:aK):Bool:=(s.items.get (Int.toNat f.item)).look.FQ
def acW (s:Show) (b:aK×Bool) (f:aK):aK×Bool:=cond (!pE s f) (cond (!b.2) (f,true) (cond (decide (xb f b.1)) (f,true) b)) b
def MV:aK:=⟨-2048,-1,-1,0,0,0⟩
def tL (s:Show) (l:List aK):aK×Bool:=l.foldl (acW s) (MV,false)
theorem MW (s:Show) (l:List aK) (f:aK):tL s (l++[f])=acW s (tL s l) f:=by
 unfold tL
 rw [List.foldl_append]
 rfl
theorem Vm {s:Show} {c:aP} {p:cH} (h:p∈iI s c):∃ i k n,i < s.items.n∧k < (s.items.get i).fS.n∧n < (Vh s c i k).n∧p=partAt s c i k n:=by
 unfold iI at h
 obtain ⟨i,h1,h2⟩:=List.mem_flatMap.1 h
 unfold xZ at h2
 obtain ⟨k,h3,h4⟩:=List.mem_flatMap.1 h2
 unfold LV at h4
 obtain ⟨n,h5,h6⟩:=List.mem_map.1 h4
 exact ⟨i,k,n,List.mem_range.1 h1,List.mem_range.1 h3,List.mem_range.1 h5,h6.symm⟩
theorem aef (s:Show) (x:aD) (hs:x.bZ.cT=s) (hi:∀ j,j < x.t14.n→0≤(x.t14.get j).cm.item∧(x.t14.get j).cm.item < (s.items.n:Int)) (hn:x.t14.n≤98304) (h15:x.t15=(x.t14.n:Int)) (h16:x.t16=0) (h0:(x.oX,x.pX)=(MV,false)) :
  ∃ e y,goN bI x = .out e y∧(e = .exit 0∧(y.oX,y.pX)=tL s (kX x.x x.y (eX x.t14))):=by
 refine dp (step:=bI) (fun j y=>y.t14=x.t14∧y.t15=(x.t14.n:Int)∧y.t16=(j:Int)∧y.x=x.x∧y.y=x.y∧j≤x.t14.n∧y.bZ=x.bZ∧(y.oX,y.pX)=tL s (kX x.x x.y ((eX x.t14).take j))) _ x.t14.n (by have:mm=1000000000000:=rfl; omega) (fun j y hj ⟨f1,f2,f3,f4,f5,f6,f7,f8⟩=>?_) ⟨rfl,h15,h16,rfl,rfl,Nat.zero_le _,rfl,h0⟩
 have w1:au (y.t16+1)=y.t16+1:=bx (by omega) (by omega)
 unfold bI
 by_cases h:y.t16 < y.t15
 ·have mr:j < x.t14.n:=by omega
  have hg:y.t14.get (Int.toNat y.t16)=x.t14.get j:=by rw [f1,f3,Int.toNat_natCast]
  obtain ⟨sp,e,hp⟩:=EY (x.t14.get j).t x.x x.y
  have e0:aR y=some (sp,e):=by
   unfold aR
   rw [hg,f4,f5]
   exact hp
  obtain ⟨i1,i2⟩:=hi j mr
  have tk:=MU (x:=x.x) (y:=x.y) x.t14 j mr
  have e1:=aee (⟨(au ((x.t14.get j).cm.d+sp.d)),(x.t14.get j).cm.item,(x.t14.get j).cm.gA,(x.t14.get j).cm.part,sp.u,sp.v⟩:aK) y.oX
  have e2:eP y=some (decide (xb (⟨(au ((x.t14.get j).cm.d+sp.d)),(x.t14.get j).cm.item,(x.t14.get j).cm.gA,(x.t14.get j).cm.part,sp.u,sp.v⟩:aK) y.oX)):=by
   unfold eP
   rw [e0,hg]
   exact e1
  simp only [e0,e2,hg,w1,cond_true,Bool.and_self,Option.isSome_some,Option.getD_some,decide_eq_true h,decide_eq_true (show (0:Int)≤y.t16 by omega),decide_eq_true (show y.t16 < ((y.t14.n:Nat):Int) by rw [f1]; omega),decide_eq_true i1,decide_eq_true (show (x.t14.get j).cm.item < ((y.bZ.cT.items.n:Nat):Int) by rw [f7,hs]; exact i2)]
  have Jn:∀ {z:aK×Bool} {y' : aD},y'.t14=y.t14→y'.t15=y.t15→y'.t16=y.t16+1→y'.x=y.x→y'.y=y.y→y'.bZ=y.bZ→(y'.oX,y'.pX)=z→z=tL s (kX x.x x.y ((eX x.t14).take (j+1)))→
    (∃ x',(aI.next y' : aI aD) = .next x'∧j < x.t14.n∧x'.t14=x.t14∧x'.t15=(x.t14.n:Int)∧x'.t16=((j+1:Nat):Int)∧x'.x=x.x∧x'.y=x.y∧j+1≤x.t14.n∧x'.bZ=x.bZ∧(x'.oX,x'.pX)=tL s (kX x.x x.y ((eX x.t14).take (j+1)))):=fun {z y'} q1 q2 q3 q4 q5 q6 q7 q8=>
   ⟨y',rfl,mr,q1.trans f1,q2.trans f2,by omega,q4.trans f4,q5.trans f5,by omega,q6.trans f7,q7.trans q8⟩
  cases he:(e==(0:Int)) with
  | false=>
   have yK:mi x.x x.y (x.t14.get j)=none:=by
    unfold mi
    rw [hp]
    simp only [he,cond_false]
   rw [cond_false]
   exact .inl (Jn (z:=(y.oX,y.pX)) rfl rfl rfl rfl rfl rfl rfl (by rw [tk,yK,f8]; simp))
  | true=>
   have yK:mi x.x x.y (x.t14.get j)=some ⟨au ((x.t14.get j).cm.d+sp.d),(x.t14.get j).cm.item,(x.t14.get j).cm.gA,(x.t14.get j).cm.part,sp.u,sp.v⟩:=by
    unfold mi
    rw [hp]
    simp only [he,cond_true]
   have ng:tL s (kX x.x x.y ((eX x.t14).take (j+1)))=acW s (y.oX,y.pX) ⟨au ((x.t14.get j).cm.d+sp.d),(x.t14.get j).cm.item,(x.t14.get j).cm.gA,(x.t14.get j).cm.part,sp.u,sp.v⟩:=by
    rw [tk,yK,f8]
    exact MW _ _ _
   have hbl:(y.bZ.cT.items.get (Int.toNat (x.t14.get j).cm.item)).look.FQ=pE s ⟨au ((x.t14.get j).cm.d+sp.d),(x.t14.get j).cm.item,(x.t14.get j).cm.gA,(x.t14.get j).cm.part,sp.u,sp.v⟩:=by
    rw [f7,hs]
    rfl
   rw [cond_true,hbl]
   unfold acW at ng
   cases hb:(!pE s ⟨au ((x.t14.get j).cm.d+sp.d),(x.t14.get j).cm.item,(x.t14.get j).cm.gA,(x.t14.get j).cm.part,sp.u,sp.v⟩) with
   | false=>
    rw [hb,cond_false] at ng
    rw [cond_false]
    exact .inl (Jn rfl rfl rfl rfl rfl rfl rfl ng.symm)
   | true=>
    rw [hb,cond_true] at ng
    rw [cond_true]
    cases hc:(!y.pX) with
    | true=>
     rw [hc,cond_true] at ng
     rw [cond_true]
     exact .inl (Jn rfl rfl rfl rfl rfl rfl rfl ng.symm)
    | false=>
     rw [hc,cond_false] at ng
     rw [cond_false]
     cases hd:decide (xb (⟨(au ((x.t14.get j).cm.d+sp.d)),(x.t14.get j).cm.item,(x.t14.get j).cm.gA,(x.t14.get j).cm.part,sp.u,sp.v⟩:aK) y.oX) with
     | true=>
      rw [hd,cond_true] at ng
      rw [cond_true]
      exact .inl (Jn rfl rfl rfl rfl rfl rfl rfl ng.symm)
     | false=>
      rw [hd,cond_false] at ng
      rw [cond_false]
      exact .inl (Jn rfl rfl rfl rfl rfl rfl rfl ng.symm)
 ·simp only [cond_false,decide_eq_false h]
  refine .inr ⟨_,_,rfl,rfl,rfl,?_⟩
  rw [f8,show j=x.t14.n by omega,List.take_of_length_le (by rw [kV]; exact Nat.le_refl _)]
theorem aeg (s:Show) (c:aP) (r:aB) (x y:Int) (h1:r.cT=s) (h2:eX r.parts=iI s c) (h3:r.parts.n≤98304):jF r x y=some (tL s (kX x y (iI s c))):=by
 obtain ⟨e,z,hz,rfl,h6⟩:∃ e z,l9 r x y = .out e z∧(e = .exit 0∧(z.oX,z.pX)=tL s (kX x y (eX r.parts))):=by
  unfold l9
  refine aef s _ h1 (fun j hj=>?_) h3 rfl rfl rfl
  have hm:r.parts.get j∈eX r.parts:=L6 hj
  rw [h2] at hm
  obtain ⟨i,k,n,i1,i2,i3,e⟩:=Vm hm
  show 0≤(r.parts.get j).cm.item∧(r.parts.get j).cm.item < (s.items.n:Int)
  rw [e]
  show 0≤(i:Int)∧(i:Int) < (s.items.n:Int)
  omega
 unfold jF
 rw [hz,← h2,← h6]
 rfl
end Go.Proofs.Ytahhdndhkgbcjaa.b
end
section
namespace Go.Proofs.Ytahhdndhkgbcjaa.b
open Go.K
open Go.aE (ak)
theorem acX {α:Type} {Q:List α→Prop} (h0:Q []) (h1:∀ l x,Q l→Q (l++[x])) (l:List α):Q l:=by
 have:∀ (l pre:List α),Q pre→Q (pre++l):=by
  intro l
  induction l with
  | nil=>intro pre hp; rwa [List.append_nil]
  | cons x l ih=>intro pre hp; have:=ih (pre++[x]) (h1 _ _ hp); rwa [List.append_assoc] at this
 exact this l [] h0
def ak5 (s:Show) (l:List aK) (b:aK×Bool):Prop:=(b.2=false∧b.1=MV∧∀ g∈l,pE s g=true)∨(b.2=true∧b.1∈l∧pE s b.1=false∧∀ g∈l,pE s g=false→¬ xb g b.1)
theorem age {a b c:aK} (h : ¬ xb a b) (h2:xb c b) : ¬ xb a c:=by
 unfold xb at *
 omega
theorem acY (a:aK) : ¬ xb a a:=by
 unfold xb
 omega
theorem Vn (s:Show) (l:List aK):ak5 s l (tL s l):=by
 refine acX (Q:=fun l=>ak5 s l (tL s l)) (.inl ⟨rfl,rfl,fun g hg=>by simp at hg⟩) (fun l f ih=>?_) l
 rw [MW]
 unfold acW
 cases hb:pE s f with
 | true=>
  simp only [Bool.not_true,cond_false]
  rcases ih with ⟨h1,h2,h3⟩ | ⟨h1,h2,h3,h4⟩
  ·refine .inl ⟨h1,h2,fun g hg=>?_⟩
   rcases List.mem_append.1 hg with hg | hg
   ·exact h3 g hg
   ·rw [List.mem_singleton.1 hg]; exact hb
  ·refine .inr ⟨h1,List.mem_append_left _ h2,h3,fun g hg hgb=>?_⟩
   rcases List.mem_append.1 hg with hg | hg
   ·exact h4 g hg hgb
   ·rw [List.mem_singleton.1 hg,hb] at hgb; simp at hgb
 | false=>
  simp only [Bool.not_false,cond_true]
  rcases ih with ⟨h1,h2,h3⟩ | ⟨h1,h2,h3,h4⟩
  ·rw [h1]
   simp only [Bool.not_false,cond_true]
   refine .inr ⟨rfl,List.mem_append_right _ (List.mem_singleton.2 rfl),hb,fun g hg hgb=>?_⟩
   rcases List.mem_append.1 hg with hg | hg
   ·rw [h3 g hg] at hgb; simp at hgb
   ·rw [List.mem_singleton.1 hg]; exact acY f
  ·rw [h1]
   simp only [Bool.not_true,cond_false]
   by_cases hn:xb f (tL s l).1
   ·rw [decide_eq_true hn,cond_true]
    refine .inr ⟨rfl,List.mem_append_right _ (List.mem_singleton.2 rfl),hb,fun g hg hgb=>?_⟩
    rcases List.mem_append.1 hg with hg | hg
    ·exact age (h4 g hg hgb) hn
    ·rw [List.mem_singleton.1 hg]; exact acY f
   ·rw [decide_eq_false hn,cond_false]
    refine .inr ⟨h1,List.mem_append_left _ h2,h3,fun g hg hgb=>?_⟩
    rcases List.mem_append.1 hg with hg | hg
    ·exact h4 g hg hgb
    ·rw [List.mem_singleton.1 hg]; exact hn
theorem MX {x y:Int} {p:cH} {f:aK} (h:mi x y p=some f):f.item=p.cm.item∧f.gA=p.cm.gA∧f.part=p.cm.part:=by
 unfold mi at h
 split at h
 ·rename_i sp e _
  cases he:(e==(0:Int)) with
  | true=>rw [he,cond_true] at h; injection h with h; subst h; exact ⟨rfl,rfl,rfl⟩
  | false=>rw [he,cond_false] at h; simp at h
 ·simp at h
theorem ak6 {s:Show} {c:aP} {x y:Int} {f:aK} (h:f∈kX x y (iI s c)):∃ i k n,i < s.items.n∧k < (s.items.get i).fS.n∧n < (Vh s c i k).n∧mi x y (partAt s c i k n)=some f:=by
 obtain ⟨p,h1,h2⟩:=List.mem_filterMap.1 h
 obtain ⟨i,k,n,i1,i2,i3,rfl⟩:=Vm h1
 exact ⟨i,k,n,i1,i2,i3,h2⟩
theorem C1 {s:Show} {c:aP} {x y:Int} {f:aK} (h:f∈kX x y (iI s c)):0≤f.item∧f.item < (s.items.n:Int):=by
 obtain ⟨i,k,n,i1,i2,i3,h2⟩:=ak6 h
 obtain ⟨e1,_,_⟩:=MX h2
 rw [e1]
 show 0≤(i:Int)∧(i:Int) < _
 omega
end Go.Proofs.Ytahhdndhkgbcjaa.b
end
section
namespace Go.Proofs.Ytahhdndhkgbcjaa.b
open Go.K
set_option linter.unusedVariables false
set_option linter.unusedSimpArgs false
noncomputable section
def L8:List (Nat×(List KV→KR KV)):=[(78,vE)]
def L9:List Lp:=[]
theorem Vo:ao Try.prog L8:=(ao.cons wy ao.nil)
theorem Vp:az Try.prog L9:=az.nil
def xv (t:ek) (u:Int) (v:Int):(Option Int):=(gg t)
def tH (t:ek) (u:Int) (v:Int):Option (Color×Int):=
 (cond (xv t u v).isSome
 (cond (((xv t u v).getD default) != (0:Int))
 (some ((⟨(0:Int),(0:Int),(0:Int),(0:Int)⟩:Color),((xv t u v).getD default)))
 (cond (decide ((min u v) < (0:Int)))
 (some ((⟨(0:Int),(0:Int),(0:Int),(0:Int)⟩:Color),(2:Int)))
 (cond (decide ((max u v) > (255:Int)))
 (some ((⟨(0:Int),(0:Int),(0:Int),(0:Int)⟩:Color),(2:Int)))
 (cond ((decide ((0:Int)≤(au ((au ((Int.fdiv (au (v * t.h)) (256:Int)) * t.w))+(Int.fdiv (au (u * t.w)) (256:Int))))))&&(decide ((au ((au ((Int.fdiv (au (v * t.h)) (256:Int)) * t.w))+(Int.fdiv (au (u * t.w)) (256:Int)))) < ((t.EO.n:Nat):Int))))
 (some ((t.EO.get (Int.toNat (au ((au ((Int.fdiv (au (v * t.h)) (256:Int)) * t.w))+(Int.fdiv (au (u * t.w)) (256:Int)))))),(0:Int)))
 none))))
 none)
theorem Xz (t:ek) (u:Int) (v:Int):dm Try.prog (bo Try.prog L8 L9 (fun q=>Nat.beq q 58)) 9 9 47 [n7 t,(kI .i64) u,(kI .i64) v] = (tH t u v).map (fun (r:Color×Int)=>KV.kk [il r.1,(kI .i64) r.2]):=by
 unfold tH
 try simp only [cc]
 kernel_rfl
def OB:List KV→KR KV:=cw Try.prog 47 (cG (fun (r:Color×Int)=>KV.kk [il r.1,(kI .i64) r.2]) fun vs=>tH (kx (vs.getD 0 .aw)) (intOf (vs.getD 1 .aw)) (intOf (vs.getD 2 .aw)))
theorem Vq (w:Nat→KV):cM Try.prog [108,3,3] w 0 = [n7 (kx (ay Try.prog (aj Try.prog aq) 108 (w 0))),(kI .i64) (intOf (ay Try.prog (aj Try.prog aq) 3 (w 1))),(kI .i64) (intOf (ay Try.prog (aj Try.prog aq) 3 (w 2)))]:=by kernel_rfl
theorem Vr:ca Try.prog 47 OB:=aY funcs mixed Vo Vp (L:=9) (n:=9) fun w=>by
 have e:aJ Try.prog 47 = [108,3,3]:=by kernel_rfl
 rw [e,Vq]
 exact (Xz (kx (ay Try.prog (aj Try.prog aq) 108 (w 0))) (intOf (ay Try.prog (aj Try.prog aq) 3 (w 1))) (intOf (ay Try.prog (aj Try.prog aq) 3 (w 2)))).trans (by kernel_rfl)
def OC:List (Nat×(List KV→KR KV)):=[]
def OD:List Lp:=[]
theorem XA:ao Try.prog OC:=ao.nil
theorem XB:az Try.prog OD:=az.nil
def I9 (a:Color) (b:Color):Option (Color):=
 (some ((⟨(w8 (au (Int.tdiv (au ((au a.e0) * (au b.e0))) (255:Int)))),(w8 (au (Int.tdiv (au ((au a.e1) * (au b.e1))) (255:Int)))),(w8 (au (Int.tdiv (au ((au a.e2) * (au b.e2))) (255:Int)))),(w8 (au (Int.tdiv (au ((au a.e3) * (au b.e3))) (255:Int))))⟩:Color)))
theorem aa4 (a:Color) (b:Color):dm Try.prog (bo Try.prog OC OD (fun q=>Nat.beq q 58)) 9 9 48 [il a,il b] = (I9 a b).map il:=by
 unfold I9
 kernel_rfl
def SY:List KV→KR KV:=cw Try.prog 48 (cG il fun vs=>I9 (n6 (vs.getD 0 .aw)) (n6 (vs.getD 1 .aw)))
theorem XC (w:Nat→KV):cM Try.prog [37,37] w 0 = [il (n6 (ay Try.prog (aj Try.prog aq) 37 (w 0))),il (n6 (ay Try.prog (aj Try.prog aq) 37 (w 1)))]:=by kernel_rfl
theorem XD:ca Try.prog 48 SY:=aY funcs mixed XA XB (L:=9) (n:=9) fun w=>by
 have e:aJ Try.prog 48 = [37,37]:=by kernel_rfl
 rw [e,XC]
 exact (aa4 (n6 (ay Try.prog (aj Try.prog aq) 37 (w 0))) (n6 (ay Try.prog (aj Try.prog aq) 37 (w 1)))).trans (by kernel_rfl)
def JZ:List (Nat×(List KV→KR KV)):=[(48,SY),(47,OB),(46,pw),(45,ub)]
def J0:List Lp:=[]
theorem SZ:ao Try.prog JZ:=(ao.cons XD (ao.cons Vr (ao.cons pP (ao.cons uZ ao.nil))))
theorem S0:az Try.prog J0:=az.nil
def vT (l:tt) (aL:(Sl ek)) (u:Int) (v:Int):(Option Int):=(gk aL)
def vU (l:tt) (aL:(Sl ek)) (u:Int) (v:Int):(Option Int):=(fJ l ((aL.n:Nat):Int))
def nA (l:tt) (aL:(Sl ek)) (u:Int) (v:Int):(Option (Prod Color Int)):=(tH (aL.get (Int.toNat l.ov)) u v)
def pF (l:tt) (aL:(Sl ek)) (u:Int) (v:Int):Option (Color×Int):=
 (cond (vT l aL u v).isSome
 (cond (((vT l aL u v).getD default) != (0:Int))
 (some ((⟨(0:Int),(0:Int),(0:Int),(0:Int)⟩:Color),((vT l aL u v).getD default)))
 (cond (vU l aL u v).isSome
 (cond (((vU l aL u v).getD default) != (0:Int))
 (some ((⟨(0:Int),(0:Int),(0:Int),(0:Int)⟩:Color),((vU l aL u v).getD default)))
 (cond (decide ((min u v) < (0:Int)))
 (some ((⟨(0:Int),(0:Int),(0:Int),(0:Int)⟩:Color),(2:Int)))
 (cond (decide ((max u v) > (255:Int)))
 (some ((⟨(0:Int),(0:Int),(0:Int),(0:Int)⟩:Color),(2:Int)))
 (cond (decide (l.ov < (0:Int)))
 (some (l.color,(0:Int)))
 (cond ((decide ((0:Int)≤l.ov))&&(decide (l.ov < ((aL.n:Nat):Int))))
 (cond (nA l aL u v).isSome
 (some ((⟨(w8 (au (Int.tdiv (au ((au l.color.e0) * (au ((nA l aL u v).getD default).fst.e0))) (255:Int)))),(w8 (au (Int.tdiv (au ((au l.color.e1) * (au ((nA l aL u v).getD default).fst.e1))) (255:Int)))),(w8 (au (Int.tdiv (au ((au l.color.e2) * (au ((nA l aL u v).getD default).fst.e2))) (255:Int)))),(w8 (au (Int.tdiv (au ((au l.color.e3) * (au ((nA l aL u v).getD default).fst.e3))) (255:Int))))⟩:Color),((nA l aL u v).getD default).snd))
 none)
 none)))))
 none))
 none)
theorem Vs (l:tt) (aL:(Sl ek)) (u:Int) (v:Int):dm Try.prog (bo Try.prog JZ J0 (fun q=>Nat.beq q 58)) 9 9 18 [ad6 l,(iE 108 n7) aL,(kI .i64) u,(kI .i64) v] = (pF l aL u v).map (fun (r:Color×Int)=>KV.kk [il r.1,(kI .i64) r.2]):=by
 unfold pF
 try simp only [cc]
 kernel_rfl
def Ma:List KV→KR KV:=cw Try.prog 18 (cG (fun (r:Color×Int)=>KV.kk [il r.1,(kI .i64) r.2]) fun vs=>pF (UW (vs.getD 0 .aw)) ((gZ kx) (vs.getD 1 .aw)) (intOf (vs.getD 2 .aw)) (intOf (vs.getD 3 .aw)))
theorem S9 (w:Nat→KV):cM Try.prog [39,23,3,3] w 0 = [ad6 (UW (ay Try.prog (aj Try.prog aq) 39 (w 0))),(iE 108 n7) ((gZ kx) (ay Try.prog (aj Try.prog aq) 23 (w 1))),(kI .i64) (intOf (ay Try.prog (aj Try.prog aq) 3 (w 2))),(kI .i64) (intOf (ay Try.prog (aj Try.prog aq) 3 (w 3)))]:=by kernel_rfl
theorem Ta:ca Try.prog 18 Ma:=aY funcs mixed SZ S0 (L:=9) (n:=9) fun w=>by
 have e:aJ Try.prog 18 = [39,23,3,3]:=by kernel_rfl
 rw [e,S9]
 exact (Vs (UW (ay Try.prog (aj Try.prog aq) 39 (w 0))) ((gZ kx) (ay Try.prog (aj Try.prog aq) 23 (w 1))) (intOf (ay Try.prog (aj Try.prog aq) 3 (w 2))) (intOf (ay Try.prog (aj Try.prog aq) 3 (w 3)))).trans (by kernel_rfl)
def zX:List (Nat×(List KV→KR KV)):=[(18,Ma)]
def zY:List Lp:=[]
theorem Hq:ao Try.prog zX:=(ao.cons Ta ao.nil)
theorem Hr:az Try.prog zY:=az.nil
def s4 (s:aB) (f:aK):(Option (Prod Color Int)):=(pF (s.cT.items.get (Int.toNat f.item)).look s.cT.aL f.u f.v)
def kc (s:aB) (f:aK):Option (Color):=
 (cond ((decide ((0:Int)≤f.item))&&(decide (f.item < ((s.cT.items.n:Nat):Int))))
 (cond (s4 s f).isSome
 (some (((s4 s f).getD default).fst))
 none)
 none)
theorem Ja (s:aB) (f:aK):dm Try.prog (bo Try.prog zX zY (fun q=>Nat.beq q 58)) 9 9 74 [mv s,hJ f] = (kc s f).map il:=by
 unfold kc
 try simp only [cc]
 kernel_rfl
def qM:List KV→KR KV:=cw Try.prog 74 (cG il fun vs=>kc (nJ (vs.getD 0 .aw)) (gP (vs.getD 1 .aw)))
theorem Hs (w:Nat→KV):cM Try.prog [96,58] w 0 = [mv (nJ (ay Try.prog (aj Try.prog aq) 96 (w 0))),hJ (gP (ay Try.prog (aj Try.prog aq) 58 (w 1)))]:=by kernel_rfl
theorem r9:ca Try.prog 74 qM:=aY funcs mixed Hq Hr (L:=9) (n:=9) fun w=>by
 have e:aJ Try.prog 74 = [96,58]:=by kernel_rfl
 rw [e,Hs]
 exact (Ja (nJ (ay Try.prog (aj Try.prog aq) 96 (w 0))) (gP (ay Try.prog (aj Try.prog aq) 58 (w 1)))).trans (by kernel_rfl)
def Mb:List (Nat×(List KV→KR KV)):=[]
def Mc:List Lp:=[]
theorem Vt:ao Try.prog Mb:=ao.nil
theorem Vu:az Try.prog Mc:=az.nil
def Bf (top:Color) (under:Color):Option (Color):=
 (some ((⟨(w8 (au (Int.tdiv (au ((au ((au top.e0) * (au top.e3)))+(au ((au under.e0) * (au ((255:Int) - (au top.e3))))))) (255:Int)))),(w8 (au (Int.tdiv (au ((au ((au top.e1) * (au top.e3)))+(au ((au under.e1) * (au ((255:Int) - (au top.e3))))))) (255:Int)))),(w8 (au (Int.tdiv (au ((au ((au top.e2) * (au top.e3)))+(au ((au under.e2) * (au ((255:Int) - (au top.e3))))))) (255:Int)))),(w8 (au (Int.tdiv (au ((au ((255:Int) * (au top.e3)))+(au ((au under.e3) * (au ((255:Int) - (au top.e3))))))) (255:Int))))⟩:Color)))
theorem XE (top:Color) (under:Color):dm Try.prog (bo Try.prog Mb Mc (fun q=>Nat.beq q 58)) 9 9 19 [il top,il under] = (Bf top under).map il:=by
 unfold Bf
 kernel_rfl
def Bg:List KV→KR KV:=cw Try.prog 19 (cG il fun vs=>Bf (n6 (vs.getD 0 .aw)) (n6 (vs.getD 1 .aw)))
theorem Vv (w:Nat→KV):cM Try.prog [37,37] w 0 = [il (n6 (ay Try.prog (aj Try.prog aq) 37 (w 0))),il (n6 (ay Try.prog (aj Try.prog aq) 37 (w 1)))]:=by kernel_rfl
theorem AE:ca Try.prog 19 Bg:=aY funcs mixed Vt Vu (L:=9) (n:=9) fun w=>by
 have e:aJ Try.prog 19 = [37,37]:=by kernel_rfl
 rw [e,Vv]
 exact (XE (n6 (ay Try.prog (aj Try.prog aq) 37 (w 0))) (n6 (ay Try.prog (aj Try.prog aq) 37 (w 1)))).trans (by kernel_rfl)
structure aC where
 x:Int
 y:Int
 t14:(Sl cH)
 t15:Int
 t16:Int
 bZ:aB
 pX:Bool
 oX:aK
 fY:(Sl aK)
instance:Inhabited aC:=⟨⟨default,default,default,default,default,default,default,default,default⟩⟩
def fp (x:aC):List KV:=[.int .i64 x.x,.int .i64 x.y,.fn (.func 75) [] [.ptr 0 0,.ptr 1 0,.ptr 2 0,.ptr 3 0],iE 139 sW x.t14,.int .i64 x.t15,.int .i64 x.t16]
def fq (x:aC):List (List KV):=[cY x.bZ,[.bool x.pX],ahk x.oX,[iE 58 hJ x.fY]]
def lO (vs:List KV) (rs:List (List KV)):aC:=⟨intOf (vs.getD 0 .aw),intOf (vs.getD 1 .aw),gZ sX (vs.getD 3 .aw),intOf (vs.getD 4 .aw),intOf (vs.getD 5 .aw),cZ (fun k=>(rs.getD 0 []).getD k .aw),ql ((rs.getD 1 []).getD 0 .aw),ahl (fun k=>(rs.getD 2 []).getD k .aw),gZ gP ((rs.getD 3 []).getD 0 .aw)⟩
def ma:aU:=⟨[(1,⟨false,[.k (.int .i64)]⟩),(2,⟨false,[.k (.int .i64)]⟩),(3,⟨false,[.ref (.fn (.func 75) [] [.ptr 0 0,.ptr 1 0,.ptr 2 0,.ptr 3 0])]⟩),(14,⟨false,[.k (.slice 139)]⟩),(15,⟨false,[.k (.int .i64)]⟩),(16,⟨false,[.k (.int .i64)]⟩)],[(100003,[.k (.slice 45),.k (.slice 108),.k (.slice 139)],1),(200003,[.k .bool],1),(300003,[.k (.int .i64),.k (.int .i64),.k (.int .i64),.k (.int .i64),.k (.int .i64),.k (.int .i64)],1),(400003,[.arr 58],1)],[]⟩
def rl:=jh Try.prog (bo Try.prog [(19,Bg),(35,cg),(66,qy),(74,qM),(43,ni)] [] (fun q=>Nat.beq q 58) false false [mh]) 9 9 41 14 (eZ Try.prog 41 14) ma
def ba (x:aC):(Option (Prod fX Int)):=(nU (x.t14.get (Int.toNat x.t16)).t x.x x.y)
def bL (x:aC):aI aC:=
 (cond (decide (x.t16 < x.t15))
 (cond ((decide ((0:Int)≤x.t16))&&(decide (x.t16 < ((x.t14.n:Nat):Int))))
 (cond (ba x).isSome
 (cond (((ba x).getD default).snd==(0:Int))
 (cond ((decide ((0:Int)≤(x.t14.get (Int.toNat x.t16)).cm.item))&&(decide ((x.t14.get (Int.toNat x.t16)).cm.item < ((x.bZ.cT.items.n:Nat):Int))))
 (cond (x.bZ.cT.items.get (Int.toNat (x.t14.get (Int.toNat x.t16)).cm.item)).look.FQ
 (cond (!x.pX)
 (cond ((Nat.ble (((x.fY.n+1)+512) * 48) 17592186044416)&&(Nat.ble (x.fY.n+1) 17592186044416))
 (cond (av x.fY.n x.fY.n)
 (.next (⟨x.x,x.y,x.t14,x.t15,(au (x.t16+(1:Int))),x.bZ,x.pX,x.oX,(x.fY.push (⟨(au ((x.t14.get (Int.toNat x.t16)).cm.d+((ba x).getD default).fst.d)),(x.t14.get (Int.toNat x.t16)).cm.item,(x.t14.get (Int.toNat x.t16)).cm.gA,(x.t14.get (Int.toNat x.t16)).cm.part,((ba x).getD default).fst.u,((ba x).getD default).fst.v⟩:aK))⟩:aC))
 .fail)
 .fail)
 (cond (decide ((au ((x.t14.get (Int.toNat x.t16)).cm.d+((ba x).getD default).fst.d)) > x.oX.d))
 (cond ((Nat.ble (((x.fY.n+1)+512) * 48) 17592186044416)&&(Nat.ble (x.fY.n+1) 17592186044416))
 (cond (av x.fY.n x.fY.n)
 (.next (⟨x.x,x.y,x.t14,x.t15,(au (x.t16+(1:Int))),x.bZ,x.pX,x.oX,(x.fY.push (⟨(au ((x.t14.get (Int.toNat x.t16)).cm.d+((ba x).getD default).fst.d)),(x.t14.get (Int.toNat x.t16)).cm.item,(x.t14.get (Int.toNat x.t16)).cm.gA,(x.t14.get (Int.toNat x.t16)).cm.part,((ba x).getD default).fst.u,((ba x).getD default).fst.v⟩:aK))⟩:aC))
 .fail)
 .fail)
 (cond (av x.fY.n x.fY.n)
 (.next (⟨x.x,x.y,x.t14,x.t15,(au (x.t16+(1:Int))),x.bZ,x.pX,x.oX,x.fY⟩:aC))
 .fail)))
 (cond (av x.fY.n x.fY.n)
 (.next (⟨x.x,x.y,x.t14,x.t15,(au (x.t16+(1:Int))),x.bZ,x.pX,x.oX,x.fY⟩:aC))
 .fail))
 .fail)
 (cond (av x.fY.n x.fY.n)
 (.next (⟨x.x,x.y,x.t14,x.t15,(au (x.t16+(1:Int))),x.bZ,x.pX,x.oX,x.fY⟩:aC))
 .fail))
 .fail)
 .fail)
 (cond (av x.fY.n x.fY.n)
 (.out (aE.ak.exit 0) x)
 .fail))
theorem qN (x:aC):rl (fp x) (fq x)=aI.enc fp fq (bL x):=by
 unfold bL
 try simp only [aI.df,aaO]
 kernel_rfl
def dX:Lp:=⟨41,14,ma,fun vs rs=>dC fp fq (goN bL (lO vs rs)) [aE.ak.exit 0],false⟩
theorem lP:dX.Ok Try.prog:=eH funcs mixed (ao.cons AE (ao.cons bH (ao.cons nV (ao.cons r9 (ao.cons nK ao.nil))))) az.nil (L:=9) (n:=9) (step:=bL) (ev:=fp) (er:=fq) (pa:=lO) rfl (fun wv wr=>⟨by kernel_rfl,by kernel_rfl⟩) qN (BV:=(fR.cons n3 fR.nil))
theorem kM:cA Try.prog dX.f dX.p=true:=by kernel_rfl
structure cz where
 t33:(Sl aK)
 t34:Int
 t35:Int
 s:aB
 ground:Color
 t8:Color
instance:Inhabited cz:=⟨⟨default,default,default,default,default,default⟩⟩
def mR (x:cz):List KV:=[iE 58 hJ x.t33,.int .i64 x.t34,.int .i64 x.t35]
def mS (x:cz):List (List KV):=[cY x.s,X7 x.ground,X7 x.t8]
def u9 (vs:List KV) (rs:List (List KV)):cz:=⟨gZ gP (vs.getD 0 .aw),intOf (vs.getD 1 .aw),intOf (vs.getD 2 .aw),cZ (fun k=>(rs.getD 0 []).getD k .aw),X8 (fun k=>(rs.getD 1 []).getD k .aw),X8 (fun k=>(rs.getD 2 []).getD k .aw)⟩
def v8:aU:=⟨[(33,⟨false,[.arr 58]⟩),(34,⟨false,[.k (.int .i64)]⟩),(35,⟨false,[.k (.int .i64)]⟩)],[(4,[.k (.slice 45),.k (.slice 108),.k (.slice 139)],1),(5,[.k (.int .u8),.k (.int .u8),.k (.int .u8),.k (.int .u8)],1),(8,[.k (.int .u8),.k (.int .u8),.k (.int .u8),.k (.int .u8)],1)],[(4,0,0),(5,1,0),(8,2,0)]⟩
def DW:=jh Try.prog (bo Try.prog [(19,Bg),(35,cg),(66,qy),(74,qM),(43,ni)] [dX] (fun q=>Nat.beq q 58) false false [mh]) 9 9 44 1018 (eZ Try.prog 44 1018) v8
def b7 (x:cz):(Option Color):=(kc x.s (x.t33.get (0+(Int.toNat x.t35))))
def dR (x:cz):aI cz:=
 (cond (decide (x.t35 < x.t34))
 (cond ((decide ((0:Int)≤x.t35))&&(decide (x.t35 < ((x.t33.n:Nat):Int))))
 (cond (b7 x).isSome
 (cond (av x.t33.n x.t33.n)
 (.next (⟨x.t33,x.t34,(au (x.t35+(1:Int))),x.s,(⟨(w8 (au (Int.tdiv (au ((au ((au ((b7 x).getD default).e0) * (au ((b7 x).getD default).e3)))+(au ((au x.ground.e0) * (au ((255:Int) - (au ((b7 x).getD default).e3))))))) (255:Int)))),(w8 (au (Int.tdiv (au ((au ((au ((b7 x).getD default).e1) * (au ((b7 x).getD default).e3)))+(au ((au x.ground.e1) * (au ((255:Int) - (au ((b7 x).getD default).e3))))))) (255:Int)))),(w8 (au (Int.tdiv (au ((au ((au ((b7 x).getD default).e2) * (au ((b7 x).getD default).e3)))+(au ((au x.ground.e2) * (au ((255:Int) - (au ((b7 x).getD default).e3))))))) (255:Int)))),(w8 (au (Int.tdiv (au ((au ((255:Int) * (au ((b7 x).getD default).e3)))+(au ((au x.ground.e3) * (au ((255:Int) - (au ((b7 x).getD default).e3))))))) (255:Int))))⟩:Color),x.t8⟩:cz))
 .fail)
 .fail)
 .fail)
 (cond (av x.t33.n x.t33.n)
 (.out (aE.ak.exit 0) x)
 .fail))
theorem Ca (x:cz):DW (mR x) (mS x)=aI.enc mR mS (dR x):=by
 unfold dR
 try simp only [aI.df]
 kernel_rfl
def nc:Lp:=⟨44,1018,v8,fun vs rs=>dC mR mS (goN dR (u9 vs rs)) [aE.ak.exit 0],false⟩
theorem DX:nc.Ok Try.prog:=eH funcs mixed (ao.cons AE (ao.cons bH (ao.cons nV (ao.cons r9 (ao.cons nK ao.nil))))) (az.cons lP kM az.nil) (L:=9) (n:=9) (step:=dR) (ev:=mR) (er:=mS) (pa:=u9) rfl (fun wv wr=>⟨by kernel_rfl,by kernel_rfl⟩) Ca (BV:=(fR.cons n3 fR.nil))
theorem BA:cA Try.prog nc.f nc.p=true:=by kernel_rfl
def zZ:List (Nat×(List KV→KR KV)):=[(19,Bg),(35,cg),(66,qy),(74,qM),(43,ni)]
def z0:List Lp:=[nc,dX]
theorem Ht:ao Try.prog zZ:=(ao.cons AE (ao.cons bH (ao.cons nV (ao.cons r9 (ao.cons nK ao.nil)))))
theorem Hu:az Try.prog z0:=(az.cons DX BA (az.cons lP kM az.nil))
def kG (s:aB) (ground:Color) (x:Int) (y:Int):(Option (Prod aK Bool)):=(jF s x y)
def oL (s:aB) (ground:Color) (x:Int) (y:Int):(Option Color):=(kc s ((kG s ground x y).getD default).fst)
def cj (s:aB) (ground:Color) (x:Int) (y:Int):(aI aC):=(goN bL (⟨x,y,s.parts,((s.parts.n:Nat):Int),(0:Int),s,((kG s ground x y).getD default).snd,((kG s ground x y).getD default).fst,(⟨0,(fun i=>(⟨(0:Int),(0:Int),(0:Int),(0:Int),(0:Int),(0:Int)⟩:aK))⟩:Sl _)⟩:aC))
def dS (s:aB) (ground:Color) (x:Int) (y:Int):(aI bO):=(jM (⟨(cj s ground x y).st.fY,(((cj s ground x y).st.fY.n:Nat):Int),(cj s ground x y).st.bZ⟩:bO))
def kH (s:aB) (ground:Color) (x:Int) (y:Int):(aI cz):=(goN dR (⟨(dS s ground x y).st.data,(((cj s ground x y).st.fY.n:Nat):Int),(0:Int),(dS s ground x y).st.held,((oL s ground x y).getD default),(⟨(0:Int),(0:Int),(0:Int),(0:Int)⟩:Color)⟩:cz))
def kJ (s:aB) (ground:Color) (x:Int) (y:Int):(aI cz):=(goN dR (⟨(dS s ground x y).st.data,(((cj s ground x y).st.fY.n:Nat):Int),(0:Int),(dS s ground x y).st.held,ground,(⟨(0:Int),(0:Int),(0:Int),(0:Int)⟩:Color)⟩:cz))
def gb (s:aB) (ground:Color) (x:Int) (y:Int):Option (Color):=
 (cond (kG s ground x y).isSome
 (cond ((kG s ground x y).getD default).snd
 (cond (oL s ground x y).isSome
 (cond ((cj s ground x y).by (aE.ak.exit 0))
 (cond (av (cj s ground x y).st.fY.n (cj s ground x y).st.fY.n)
 (cond ((dS s ground x y).by aE.ak.ret)
 (cond (av (dS s ground x y).st.data.n (cj s ground x y).st.fY.n)
 (cond ((kH s ground x y).by (aE.ak.exit 0))
 (some ((kH s ground x y).st.ground))
 none)
 none)
 none)
 none)
 none)
 none)
 (cond ((cj s ground x y).by (aE.ak.exit 0))
 (cond (av (cj s ground x y).st.fY.n (cj s ground x y).st.fY.n)
 (cond ((dS s ground x y).by aE.ak.ret)
 (cond (av (dS s ground x y).st.data.n (cj s ground x y).st.fY.n)
 (cond ((kJ s ground x y).by (aE.ak.exit 0))
 (some ((kJ s ground x y).st.ground))
 none)
 none)
 none)
 none)
 none))
 none)
theorem Jb (s:aB) (ground:Color) (x:Int) (y:Int):dm Try.prog (bo Try.prog zZ z0 (fun q=>Nat.beq q 58) false false [mh]) 9 9 44 [mv s,il ground,(kI .i64) x,(kI .i64) y] = (gb s ground x y).map il:=by
 unfold gb
 try simp only [cc]
 kernel_rfl
def BB:List KV→KR KV:=cw Try.prog 44 (cG il fun vs=>gb (nJ (vs.getD 0 .aw)) (n6 (vs.getD 1 .aw)) (intOf (vs.getD 2 .aw)) (intOf (vs.getD 3 .aw)))
theorem Hv (w:Nat→KV):cM Try.prog [96,37,3,3] w 0 = [mv (nJ (ay Try.prog (aj Try.prog aq) 96 (w 0))),il (n6 (ay Try.prog (aj Try.prog aq) 37 (w 1))),(kI .i64) (intOf (ay Try.prog (aj Try.prog aq) 3 (w 2))),(kI .i64) (intOf (ay Try.prog (aj Try.prog aq) 3 (w 3)))]:=by kernel_rfl
theorem Hw:ca Try.prog 44 BB:=aY funcs mixed Ht Hu (L:=9) (n:=9) (BV:=(fR.cons n3 fR.nil)) fun w=>by
 have e:aJ Try.prog 44 = [96,37,3,3]:=by kernel_rfl
 rw [e,Hv]
 exact (Jb (nJ (ay Try.prog (aj Try.prog aq) 96 (w 0))) (n6 (ay Try.prog (aj Try.prog aq) 37 (w 1))) (intOf (ay Try.prog (aj Try.prog aq) 3 (w 2))) (intOf (ay Try.prog (aj Try.prog aq) 3 (w 3)))).trans (by kernel_rfl)
end
end Go.Proofs.Ytahhdndhkgbcjaa.b
end
section
namespace Go.Proofs.Ytahhdndhkgbcjaa.b
open Go.K
set_option linter.unusedVariables false
set_option linter.unusedSimpArgs false
noncomputable section
def Hx:List (Nat×(List KV→KR KV)):=[(43,ni),(40,yu)]
def Hy:List Lp:=[]
theorem Qb:ao Try.prog Hx:=(ao.cons nK (ao.cons u7 ao.nil))
theorem Qc:az Try.prog Hy:=az.nil
def uo (s:Show) (c:aP) (x:Int) (y:Int):(Option (Prod aB Int)):=(jC s c x y)
def zH (s:Show) (c:aP) (x:Int) (y:Int):(Option (Prod aK Bool)):=(jF ((uo s c x y).getD default).fst x y)
def Cb (s:Show) (c:aP) (x:Int) (y:Int):Option (aK×Bool×Int):=
 (cond (uo s c x y).isSome
 (cond (((uo s c x y).getD default).snd != (0:Int))
 (some ((⟨(0:Int),(0:Int),(0:Int),(0:Int),(0:Int),(0:Int)⟩:aK),false,((uo s c x y).getD default).snd))
 (cond (zH s c x y).isSome
 (cond (!((zH s c x y).getD default).snd)
 (some ((⟨(0:Int),(0:Int),(0:Int),(0:Int),(0:Int),(0:Int)⟩:aK),false,(0:Int)))
 (some (((zH s c x y).getD default).fst,true,(0:Int))))
 none))
 none)
theorem Tb (s:Show) (c:aP) (x:Int) (y:Int):dm Try.prog (bo Try.prog Hx Hy (fun _=>false)) 9 9 16 [oK s,kK c,(kI .i64) x,(kI .i64) y] = (Cb s c x y).map (fun (r:aK×Bool×Int)=>KV.kk [hJ r.1,kB r.2.1,(kI .i64) r.2.2]):=by
 unfold Cb
 try simp only [cc]
 kernel_rfl
def J1:List KV→KR KV:=cw Try.prog 16 (cG (fun (r:aK×Bool×Int)=>KV.kk [hJ r.1,kB r.2.1,(kI .i64) r.2.2]) fun vs=>Cb (mO (vs.getD 0 .aw)) (hY (vs.getD 1 .aw)) (intOf (vs.getD 2 .aw)) (intOf (vs.getD 3 .aw)))
theorem Qd (w:Nat→KV):cM Try.prog [25,53,3,3] w 0 = [oK (mO (ay Try.prog (aj Try.prog aq) 25 (w 0))),kK (hY (ay Try.prog (aj Try.prog aq) 53 (w 1))),(kI .i64) (intOf (ay Try.prog (aj Try.prog aq) 3 (w 2))),(kI .i64) (intOf (ay Try.prog (aj Try.prog aq) 3 (w 3)))]:=by kernel_rfl
theorem Qe:ca Try.prog 16 J1:=aY funcs mixed Qb Qc (L:=9) (n:=9) fun w=>by
 have e:aJ Try.prog 16 = [25,53,3,3]:=by kernel_rfl
 rw [e,Qd]
 exact (Tb (mO (ay Try.prog (aj Try.prog aq) 25 (w 0))) (hY (ay Try.prog (aj Try.prog aq) 53 (w 1))) (intOf (ay Try.prog (aj Try.prog aq) 3 (w 2))) (intOf (ay Try.prog (aj Try.prog aq) 3 (w 3)))).trans (by kernel_rfl)
def J2:List (Nat×(List KV→KR KV)):=[(44,BB),(40,yu)]
def J3:List Lp:=[]
theorem Td:ao Try.prog J2:=(ao.cons Hw (ao.cons u7 ao.nil))
theorem Te:az Try.prog J3:=az.nil
def sa (s:Show) (c:aP) (ground:Color) (x:Int) (y:Int):(Option (Prod aB Int)):=(jC s c x y)
def vV (s:Show) (c:aP) (ground:Color) (x:Int) (y:Int):(Option Color):=(gb ((sa s c ground x y).getD default).fst ground x y)
def mT (s:Show) (c:aP) (ground:Color) (x:Int) (y:Int):Option (Color×Int):=
 (cond (sa s c ground x y).isSome
 (cond (((sa s c ground x y).getD default).snd != (0:Int))
 (some ((⟨(0:Int),(0:Int),(0:Int),(0:Int)⟩:Color),((sa s c ground x y).getD default).snd))
 (cond (vV s c ground x y).isSome
 (some (((vV s c ground x y).getD default),(0:Int)))
 none))
 none)
theorem Vw (s:Show) (c:aP) (ground:Color) (x:Int) (y:Int):dm Try.prog (bo Try.prog J2 J3 (fun _=>false)) 9 9 17 [oK s,kK c,il ground,(kI .i64) x,(kI .i64) y] = (mT s c ground x y).map (fun (r:Color×Int)=>KV.kk [il r.1,(kI .i64) r.2]):=by
 unfold mT
 try simp only [cc]
 kernel_rfl
def va:List KV→KR KV:=cw Try.prog 17 (cG (fun (r:Color×Int)=>KV.kk [il r.1,(kI .i64) r.2]) fun vs=>mT (mO (vs.getD 0 .aw)) (hY (vs.getD 1 .aw)) (n6 (vs.getD 2 .aw)) (intOf (vs.getD 3 .aw)) (intOf (vs.getD 4 .aw)))
theorem Tf (w:Nat→KV):cM Try.prog [25,53,37,3,3] w 0 = [oK (mO (ay Try.prog (aj Try.prog aq) 25 (w 0))),kK (hY (ay Try.prog (aj Try.prog aq) 53 (w 1))),il (n6 (ay Try.prog (aj Try.prog aq) 37 (w 2))),(kI .i64) (intOf (ay Try.prog (aj Try.prog aq) 3 (w 3))),(kI .i64) (intOf (ay Try.prog (aj Try.prog aq) 3 (w 4)))]:=by kernel_rfl
theorem uq:ca Try.prog 17 va:=aY funcs mixed Td Te (L:=9) (n:=9) fun w=>by
 have e:aJ Try.prog 17 = [25,53,37,3,3]:=by kernel_rfl
 rw [e,Tf]
 exact (Vw (mO (ay Try.prog (aj Try.prog aq) 25 (w 0))) (hY (ay Try.prog (aj Try.prog aq) 53 (w 1))) (n6 (ay Try.prog (aj Try.prog aq) 37 (w 2))) (intOf (ay Try.prog (aj Try.prog aq) 3 (w 3))) (intOf (ay Try.prog (aj Try.prog aq) 3 (w 4)))).trans (by kernel_rfl)
structure Frame where
 w:Int
 h:Int
 color:(Sl Color)
 depth:(Sl Int)
 item:(Sl Int)
 gA:(Sl Int)
instance:Inhabited Frame:=⟨⟨default,default,default,default,default,default⟩⟩
end
end Go.Proofs.Ytahhdndhkgbcjaa.b
end
section
namespace Go.Proofs.Ytahhdndhkgbcjaa.b
open Go.K
open Go.aE (ak)
def aeh (s:Show):Prop:=∀ i,i < s.items.n→nI (s.items.get i) (s.aL.n:Int)=some true
theorem agf (s:Show) (hn:s.items.n≤256):∃ e x',eQ s = .out e x'∧(e = .ret∧x'.t4 ≥ 0∧¬ aeh s∨e = .exit 0∧aeh s):=by
 unfold eQ
 refine dp (step:=bF) (fun j y=>y.s=s.items∧y.t7=(s.items.n:Int)∧y.t8=(j:Int)∧j≤s.items.n∧y.aaL=s∧∀ i,i < j→nI (s.items.get i) (s.aL.n:Int)=some true) _ s.items.n (by have:mm=1000000000000:=rfl; omega) (fun j y hj ⟨h1,h2,h3,h4,h5,h6⟩=>?_) ⟨rfl,rfl,rfl,Nat.zero_le _,rfl,fun i hi=>absurd hi (Nat.not_lt_zero _)⟩
 obtain ⟨b,hb,_⟩:=acT (y.s.get (Int.toNat y.t8)) ((y.aaL.aL.n:Nat):Int)
 have e0:fM y=some b:=hb
 have w1:au (y.t8+1)=y.t8+1:=bx (by omega) (by omega)
 rw [h1,h3,h5,Int.toNat_natCast] at hb
 unfold bF
 by_cases h:y.t8 < y.t7
 ·have mr:j < s.items.n:=by omega
  simp only [e0,w1,cond_true,Bool.and_self,Option.isSome_some,Option.getD_some,decide_eq_true h,decide_eq_true (show (0:Int)≤y.t8 by omega),decide_eq_true (show y.t8 < ((y.s.n:Nat):Int) by rw [h1]; omega)]
  cases b with
  | false=>exact .inr ⟨_,_,rfl,rfl,.inl ⟨rfl,by show y.t8 ≥ 0; omega,fun pg=>by have:=pg j mr; rw [hb] at this; simp at this⟩⟩
  | true=>
   refine .inl ⟨_,rfl,mr,h1,h2,by show y.t8+1=_; omega,by omega,h5,fun i hi=>?_⟩
   by_cases CI:i < j
   ·exact h6 i CI
   ·have:i=j:=by omega
    subst this; exact hb
 ·simp only [cond_false,decide_eq_false h]
  exact .inr ⟨_,_,rfl,rfl,.inr ⟨rfl,fun i hi=>h6 i (by omega)⟩⟩
theorem Qf (s:Show):iA s=some 0↔s.items.n≤256∧s.aL.n≤16∧gk s.aL=some 0∧aeh s:=by
 unfold iA
 by_cases g1:((s.items.n:Nat):Int) > 256
 ·rw [decide_eq_true g1,cond_true]
  exact ⟨fun h=>by simp at h,fun h=>by omega⟩
 by_cases g2:((s.aL.n:Nat):Int) > 16
 ·rw [decide_eq_false g1,decide_eq_true g2,cond_false,cond_true]
  exact ⟨fun h=>by simp at h,fun h=>by omega⟩
 obtain ⟨v,hv⟩:=PT (Oz s.aL)
 have e0:rW s=some v:=hv
 rw [decide_eq_false g1,decide_eq_false g2,hv]
 simp only [e0,cond_true,cond_false,Option.isSome_some,Option.getD_some]
 cases hz:(v != (0:Int)) with
 | true=>
  rw [cond_true]
  exact ⟨fun h=>by simp at h,fun h=>by have:=Option.some.inj h.2.2.1; simp [this] at hz⟩
 | false=>
  have hz:v=0:=by simpa using hz
  rw [cond_false,hz]
  obtain ⟨e,x',hx,h⟩:=agf s (by omega)
  rcases h with ⟨rfl,h1,h2⟩ | ⟨rfl,h1⟩
  ·have b1:(eQ s).by (.exit 0)=false:=by rw [hx]; rfl
   have b2:(eQ s).by .ret=true:=by rw [hx]; rfl
   have b3:(eQ s).st=x':=by rw [hx]; rfl
   rw [b1,b2,b3,decide_eq_true h1,cond_false,cond_true,cond_true]
   exact ⟨fun h=>by simp at h,fun h=>absurd h.2.2.2 h2⟩
  ·have b1:(eQ s).by (.exit 0)=true:=by rw [hx]; rfl
   rw [b1,cond_true]
   exact ⟨fun _=>⟨by omega,by omega,rfl,h1⟩,fun _=>rfl⟩
theorem ajc {x:Item} {t:Int} (h:nI x t=some true):fJ x.look t=some 0:=by
 unfold nI at h
 obtain ⟨v,hv⟩:=PT (agd x.look t)
 have e0:u3 x t=some v:=hv
 simp only [e0,Option.isSome_some,Option.getD_some,cond_true] at h
 cases g1:decide (((x.gJ.n:Nat):Int) > (64:Int)) with
 | true=>rw [g1] at h; simp at h
 | false=>
 cases g2:(((x.uV.n:Nat):Int) != ((x.gJ.n:Nat):Int)) with
 | true=>rw [g1,g2] at h; simp at h
 | false=>
 cases g3:decide (((x.fS.n:Nat):Int) > (64:Int)) with
 | true=>rw [g1,g2,g3] at h; simp at h
 | false=>
 cases g4:(v != (0:Int)) with
 | true=>rw [g1,g2,g3,g4] at h; simp at h
 | false=>
  have:v=0:=by simpa using g4
  rw [hv,this]
structure alR (l:tt) (t:Int):Prop where
 t0:0≤t
 t16:t≤16
 lo : -1≤l.ov
 hi:l.ov < t
 b0 : -1024≤l.LI
 b1:l.LI≤1024
 n0:0≤l.bin
 n1:l.bin≤15
theorem agh {l:tt} {t:Int} (h:fJ l t=some 0):alR l t:=by
 unfold fJ at h
 by_cases c1:t < 0
 ·rw [decide_eq_true c1] at h; simp at h
 by_cases c2:t > 16
 ·rw [decide_eq_false c1,decide_eq_true c2] at h; simp at h
 by_cases c3:l.ov < (-(1:Int))
 ·rw [decide_eq_false c1,decide_eq_false c2,decide_eq_true c3] at h; simp at h
 by_cases c4:l.ov ≥ t
 ·rw [decide_eq_false c1,decide_eq_false c2,decide_eq_false c3,decide_eq_true c4] at h; simp at h
 by_cases c5:l.zc > 2
 ·rw [decide_eq_false c1,decide_eq_false c2,decide_eq_false c3,decide_eq_false c4,decide_eq_true c5] at h; simp at h
 by_cases c6:l.LI < (-(1024:Int))
 ·rw [decide_eq_false c1,decide_eq_false c2,decide_eq_false c3,decide_eq_false c4,decide_eq_false c5,decide_eq_true c6] at h; simp at h
 by_cases c7:l.LI > 1024
 ·rw [decide_eq_false c1,decide_eq_false c2,decide_eq_false c3,decide_eq_false c4,decide_eq_false c5,decide_eq_false c6,decide_eq_true c7] at h; simp at h
 by_cases c8:l.bin < 0
 ·rw [decide_eq_false c1,decide_eq_false c2,decide_eq_false c3,decide_eq_false c4,decide_eq_false c5,decide_eq_false c6,decide_eq_false c7,decide_eq_true c8] at h; simp at h
 by_cases c9:l.bin > 15
 ·rw [decide_eq_false c1,decide_eq_false c2,decide_eq_false c3,decide_eq_false c4,decide_eq_false c5,decide_eq_false c6,decide_eq_false c7,decide_eq_false c8,decide_eq_true c9] at h; simp at h
 exact ⟨by omega,by omega,by omega,by omega,by omega,by omega,by omega,by omega⟩
theorem aa5 {l:Sl ek} (h:gk l=some 0):∀ i,i < l.n→gg (l.get i)=some 0:=by
 unfold gk at h
 by_cases c1:((l.n:Nat):Int) > 16
 ·rw [decide_eq_true c1] at h; simp at h
 obtain ⟨e,x',h1,h2⟩:∃ e x',eE l = .out e x'∧(e = .ret∧x'.t2≠0∨e = .exit 0∧∀ i,i < l.n→gg (l.get i)=some 0):=by
  unfold eE
  refine dp (step:=fC) (fun j x=>x.t9=l∧x.t10=(l.n:Int)∧x.t11=(j:Int)∧j≤l.n∧∀ i,i < j→gg (l.get i)=some 0) _ l.n (by have:mm=1000000000000:=rfl; omega) (fun j x hj ⟨h2,h3,h4,h5,h6⟩=>?_) ⟨rfl,rfl,rfl,Nat.zero_le _,fun i hi=>absurd hi (Nat.not_lt_zero _)⟩
  obtain ⟨v,hv⟩:=PT (SR (x.t9.get (Int.toNat x.t11)))
  have e0:ky x=some v:=hv
  have w1:au (x.t11+1)=x.t11+1:=bx (by omega) (by omega)
  rw [h2,h4,Int.toNat_natCast] at hv
  unfold fC
  by_cases h:x.t11 < x.t10
  ·simp only [e0,w1,cond_true,Bool.and_self,Option.isSome_some,Option.getD_some,decide_eq_true h,decide_eq_true (show (0:Int)≤x.t11 by omega),decide_eq_true (show x.t11 < ((x.t9.n:Nat):Int) by rw [h2]; omega)]
   cases hz:(v != (0:Int)) with
   | true=>exact .inr ⟨_,_,rfl,rfl,.inl ⟨rfl,by show v≠0; simpa using hz⟩⟩
   | false=>
    refine .inl ⟨_,rfl,by omega,h2,h3,by show x.t11+1=_; omega,by omega,fun i hi=>?_⟩
    by_cases CI:i < j
    ·exact h6 i CI
    ·have:i=j:=by omega
     subst this
     rw [hv,show v=0 by simpa using hz]
  ·simp only [cond_false,decide_eq_false h]
   exact .inr ⟨_,_,rfl,rfl,.inr ⟨rfl,fun i hi=>h6 i (by omega)⟩⟩
 rw [decide_eq_false c1,cond_false] at h
 rcases h2 with ⟨rfl,h2⟩ | ⟨rfl,h2⟩
 ·have b1:(eE l).by (.exit 0)=false:=by rw [h1]; rfl
  have b2:(eE l).by .ret=true:=by rw [h1]; rfl
  have b3:(eE l).st=x':=by rw [h1]; rfl
  rw [b1,b2,b3,cond_false,cond_true] at h
  exact absurd (Option.some.inj h) h2
 ·exact h2
theorem agi {n:Int} (h:lH n=some true):1≤n∧n≤16:=by
 unfold lH at h
 by_cases c1:n > 0
 ·rw [decide_eq_true c1,cond_true] at h
  have:=of_decide_eq_true (Option.some.inj h)
  omega
 ·rw [decide_eq_false c1] at h; simp at h
theorem alS {t:ek} (h:gg t=some 0):(1≤t.w∧t.w≤16)∧(1≤t.h∧t.h≤16)∧(t.EO.n:Int)=t.w * t.h:=by
 unfold gg at h
 obtain ⟨a,ha⟩:=PT (SQ t.w)
 obtain ⟨b,hb⟩:=PT (SQ t.h)
 have e0:sQ t=some a:=ha
 have e1:sR t=some b:=hb
 simp only [e0,e1,Option.isSome_some,Option.getD_some,cond_true] at h
 cases a with
 | false=>simp at h
 | true=>
 cases b with
 | false=>simp at h
 | true=>
  have h1:=agi ha
  have h2:=agi hb
  have h3:0≤t.w * t.h∧t.w * t.h≤16 * 16:=⟨Int.mul_nonneg (by omega) (by omega),Int.mul_le_mul h1.2 h2.2 (by omega) (by omega)⟩
  rw [bx (by omega) (by omega)] at h
  simp only [Bool.not_true,cond_false] at h
  cases hz:(((t.EO.n:Nat):Int) != t.w * t.h) with
  | true=>rw [hz] at h; simp at h
  | false=>exact ⟨h1,h2,by simpa using hz⟩
theorem ak7 {t:ek} {u v:Int} (h:gg t=some 0) (hu:0≤u∧u≤255) (hv:0≤v∧v≤255):∃ c,tH t u v=some (c,0):=by
 obtain ⟨⟨w0,w1⟩,⟨h0,h1⟩,hn⟩:=alS h
 have e0:xv t u v=some 0:=h
 have p1:0≤v * t.h∧v * t.h≤255 * 16:=⟨Int.mul_nonneg (by omega) (by omega),Int.mul_le_mul hv.2 h1 (by omega) (by omega)⟩
 have p2:0≤u * t.w∧u * t.w≤255 * 16:=⟨Int.mul_nonneg (by omega) (by omega),Int.mul_le_mul hu.2 w1 (by omega) (by omega)⟩
 have p3:v * t.h≤255 * t.h:=Int.mul_le_mul_of_nonneg_right hv.2 (by omega)
 have p4:u * t.w≤255 * t.w:=Int.mul_le_mul_of_nonneg_right hu.2 (by omega)
 have q1:0≤Int.fdiv (v * t.h) 256∧Int.fdiv (v * t.h) 256≤t.h - 1:=by
  rw [Int.fdiv_eq_ediv_of_nonneg _ (by decide)]
  omega
 have q2:0≤Int.fdiv (u * t.w) 256∧Int.fdiv (u * t.w) 256≤t.w - 1:=by
  rw [Int.fdiv_eq_ediv_of_nonneg _ (by decide)]
  omega
 have q3:0≤Int.fdiv (v * t.h) 256 * t.w∧Int.fdiv (v * t.h) 256 * t.w≤(t.h - 1) * t.w:=⟨Int.mul_nonneg q1.1 (by omega),Int.mul_le_mul_of_nonneg_right q1.2 (by omega)⟩
 have q4:(t.h - 1) * t.w=t.w * t.h - t.w:=by rw [Int.sub_mul,Int.one_mul,Int.mul_comm]
 have q5:t.w * t.h≤16 * 16:=Int.mul_le_mul w1 h1 (by omega) (by omega)
 unfold tH
 rw [bx (n:=v * t.h) (by omega) (by omega),bx (n:=u * t.w) (by omega) (by omega),bx (n:=Int.fdiv (v * t.h) 256 * t.w) (by omega) (by omega),bx (n:=Int.fdiv (v * t.h) 256 * t.w+Int.fdiv (u * t.w) 256) (by omega) (by omega)]
 simp only [e0,Option.isSome_some,Option.getD_some,cond_true,bne_self_eq_false,cond_false,decide_eq_false (show ¬ min u v < 0 by omega),decide_eq_false (show ¬ max u v > 255 by omega),decide_eq_true (show 0≤Int.fdiv (v * t.h) 256 * t.w+Int.fdiv (u * t.w) 256 by omega),decide_eq_true (show Int.fdiv (v * t.h) 256 * t.w+Int.fdiv (u * t.w) 256 < ((t.EO.n:Nat):Int) by omega),Bool.and_self]
 exact ⟨_,rfl⟩
theorem agj {l:tt} {ts:Sl ek} {u v:Int} (h1:gk ts=some 0) (h2:fJ l (ts.n:Int)=some 0):∃ c e,pF l ts u v=some (c,e)∧((0≤u∧u≤255)∧(0≤v∧v≤255)→e=0):=by
 have e0:vT l ts u v=some 0:=h1
 have e1:vU l ts u v=some 0:=h2
 have hl:=agh h2
 unfold pF
 simp only [e0,e1,Option.isSome_some,Option.getD_some,cond_true,bne_self_eq_false,cond_false]
 by_cases c1:min u v < 0
 ·rw [decide_eq_true c1]; exact ⟨_,_,rfl,fun h=>by omega⟩
 by_cases c2:max u v > 255
 ·rw [decide_eq_false c1,decide_eq_true c2]; exact ⟨_,_,rfl,fun h=>by omega⟩
 rw [decide_eq_false c1,decide_eq_false c2]
 by_cases c3:l.ov < 0
 ·rw [decide_eq_true c3]; exact ⟨_,_,rfl,fun _=>rfl⟩
 ·have:=hl.hi
  obtain ⟨c,hc⟩:=ak7 (u:=u) (v:=v) (aa5 h1 (Int.toNat l.ov) (by omega)) (by omega) (by omega)
  have e2:nA l ts u v=some (c,0):=hc
  simp only [e2,Option.isSome_some,Option.getD_some,cond_true,cond_false,decide_eq_false c3,decide_eq_true (show 0≤l.ov by omega),decide_eq_true (show l.ov < ((ts.n:Nat):Int) by omega),Bool.and_self]
  exact ⟨_,_,rfl,fun _=>rfl⟩
end Go.Proofs.Ytahhdndhkgbcjaa.b
end
section
namespace Go.K.se
variable {α:Type}
def b2 (b:Bool):Nat:=cond b 1 0
def sI (p:α→Bool) (d:Nat→α) (a:Nat):Nat→Nat
 | 0=>0
 | k+1=>sI p d a k+b2 (p (d (a+k)))
theorem pG {p:α→Bool} {d d' : Nat→α} {a b:Nat} : ∀ {k:Nat},(∀ i,i < k→d (a+i)=d' (b+i))→sI p d a k=sI p d' b k
 | 0,_=>rfl
 | k+1,h=>by
  rw [sI,sI,pG (k:=k) fun i hi=>h i (by omega),h k (by omega)]
theorem pH {p:α→Bool} {d:Nat→α} {a k:Nat} : ∀ (l:Nat),sI p d a (k+l)=sI p d a k+sI p d (a+k) l
 | 0=>by simp [sI]
 | l+1=>by
  show sI p d a (k+l)+b2 (p (d (a+(k+l))))=sI p d a k+(sI p d (a+k) l+b2 (p (d (a+k+l))))
  rw [pH l,Nat.add_assoc a k l]
  omega
theorem Tg {p:α→Bool} {d:Nat→α} {a:Nat} : sI p d a 1=b2 (p (d a)):=by simp [sI]
theorem aa6 {p:α→Bool} {d:Nat→α} {a:Nat} : ∀ {k:Nat},0 < sI p d a k→∃ i,i < k∧p (d (a+i))=true
 | 0,h=>by simp [sI] at h
 | k+1,h=>by
  rw [sI] at h
  cases hp:p (d (a+k)) with
  | true=>exact ⟨k,by omega,hp⟩
  | false=>
   rw [hp] at h
   obtain ⟨i,h1,h2⟩:=aa6 (k:=k) (by simpa [b2] using h)
   exact ⟨i,by omega,h2⟩
theorem aa7 {p:α→Bool} {d:Nat→α} {a i:Nat} : ∀ {k:Nat},i < k→p (d (a+i))=true→0 < sI p d a k
 | 0,h,_=>by omega
 | k+1,h,hp=>by
  rw [sI]
  by_cases e:i=k
  ·subst e; rw [hp]; simp [b2]
  ·have:=aa7 (k:=k) (by omega) hp
   omega
def Perm (d d' : Nat→α) (a b:Nat):Prop:=(∀ p:α→Bool,sI p d' a (b - a)=sI p d a (b - a))∧∀ i,i < a∨b≤i→d' i=d i
theorem Perm.refl (d:Nat→α) (a b:Nat):Perm d d a b:=⟨fun _=>rfl,fun _ _=>rfl⟩
theorem Perm.trans {d d' d'' : Nat→α} {a b:Nat} (h:Perm d d' a b) (k:Perm d' d'' a b):Perm d d'' a b:=⟨fun p=>(k.1 p).trans (h.1 p),fun i hi=>(k.2 i hi).trans (h.2 i hi)⟩
theorem Perm.wide {d d' : Nat→α} {a b a' b' : Nat} (h:Perm d d' a b) (h1:a'≤a) (h2:a≤b) (h3:b≤b'):Perm d d' a' b':=by
 refine ⟨fun p=>?_,fun i hi=>h.2 i (by omega)⟩
 have e:b' - a' = (a - a')+((b - a)+(b' - b)):=by omega
 rw [e,pH,pH,pH (d:=d),pH (d:=d)]
 rw [show a' + (a - a')=a by omega,h.1 p,show a+(b - a)=b by omega]
 rw [pG (d:=d') (d':=d) (a:=a') (b:=a') fun i hi=>h.2 _ (by omega),pG (d:=d') (d':=d) (a:=b) (b:=b) fun i hi=>h.2 _ (by omega)]
theorem Perm.mem {d d' : Nat→α} {a b:Nat} (h:Perm d d' a b) {i:Nat} (h1:a≤i) (h2:i < b):∃ j,a≤j∧j < b∧d' i=d j:=by
 classical
 have:=aa7 (p:=fun x=>decide (x=d' i)) (d:=d') (a:=a) (i:=i - a) (k:=b - a) (by omega) (by simp [show a+(i - a)=i by omega])
 rw [h.1] at this
 obtain ⟨j,h3,h4⟩:=aa6 this
 exact ⟨a+j,by omega,by omega,(of_decide_eq_true h4).symm⟩
def ins (d:Nat→α) (j i:Nat):Nat→α:=fun t=>if t < j then d t else if t=j then d i else if t≤i then d (t - 1) else d t
theorem xw {d:Nat→α} {j i t:Nat} (h:t < j):ins d j i t=d t:=by simp [ins,h]
theorem E4 {d:Nat→α} {j i:Nat} : ins d j i j=d i:=by simp [ins]
theorem Hz {d:Nat→α} {j i t:Nat} (h:j < t) (h2:t≤i):ins d j i t=d (t - 1):=by
 rw [ins,if_neg (by omega),if_neg (by omega),if_pos h2]
theorem X9 {d:Nat→α} {j i t:Nat} (h:j≤i) (h2:i < t):ins d j i t=d t:=by
 rw [ins,if_neg (by omega),if_neg (by omega),if_neg (by omega)]
theorem acZ {d:Nat→α} {i:Nat} : ins d i i=d:=by
 funext t
 by_cases h:t < i
 ·exact xw h
 ·by_cases e:t=i
  ·subst e; exact E4
  ·exact X9 (Nat.le_refl _) (by omega)
theorem ac0 {d:Nat→α} {a j i:Nat} (h1:a≤j) (h2:j≤i):Perm d (ins d j i) a (i+1):=by
 refine ⟨fun p=>?_,fun t ht=>?_⟩
 ·have e:i+1 - a=(j - a)+(1+(i - j)):=by omega
  have e2:i+1 - a=(j - a)+((i - j)+1):=by omega
  rw [e,pH,pH,Tg,show a+(j - a)=j by omega,E4]
  rw [← e,e2,pH,pH (k:=i - j),Tg,show a+(j - a)=j by omega,show j+(i - j)=i by omega]
  rw [pG (d:=ins d j i) (d':=d) (a:=a) (b:=a) fun t ht=>xw (by omega),pG (d:=ins d j i) (d':=d) (a:=j+1) (b:=j) fun t ht=>by rw [Hz (by omega) (by omega)]; congr 1; omega]
  omega
 ·rcases ht with ht | ht
  ·exact xw (by omega)
  ·exact X9 h2 (by omega)
theorem ac1 {d:Nat→α} {j i t:Nat} (h:j≤i) (h1:1≤j):ins d (j - 1) i t=if t=j - 1 then ins d j i j else if t=j then ins d j i (j - 1) else ins d j i t:=by
 by_cases e:t=j - 1
 ·subst e; rw [if_pos rfl,E4,E4]
 ·rw [if_neg e]
  by_cases e2:t=j
  ·subst e2; rw [if_pos rfl,Hz (by omega) h,xw (by omega)]
  ·rw [if_neg e2]
   by_cases e3:t < j
   ·rw [xw (by omega),xw e3]
   ·by_cases e4:t≤i
    ·rw [Hz (by omega) e4,Hz (by omega) e4]
    ·rw [X9 (by omega) (by omega),X9 h (by omega)]
def HA (d:Nat→α) (a k:Nat):Nat→α:=fun t=>if t < a then d t else if t < k then d (t+1) else if t=k then d a else d t
theorem Ya {d:Nat→α} {a k t:Nat} (h:t < a):HA d a k t=d t:=by simp [HA,h]
theorem BC {d:Nat→α} {a k t:Nat} (h:a≤t) (h2:t < k):HA d a k t=d (t+1):=by
 rw [HA,if_neg (by omega),if_pos h2]
theorem MZ {d:Nat→α} {a k:Nat} (h:a≤k):HA d a k k=d a:=by
 rw [HA,if_neg (by omega),if_neg (by omega),if_pos rfl]
theorem Jc {d:Nat→α} {a k t:Nat} (h:a≤k) (h2:k < t):HA d a k t=d t:=by
 rw [HA,if_neg (by omega),if_neg (by omega),if_neg (by omega)]
theorem ajd {d:Nat→α} {a:Nat} : HA d a a=d:=by
 funext t
 by_cases h:t < a
 ·exact Ya h
 ·by_cases e:t=a
  ·subst e; exact MZ (Nat.le_refl _)
  ·exact Jc (Nat.le_refl _) (by omega)
theorem aje {d:Nat→α} {a k:Nat} (h:a≤k):Perm d (HA d a k) a (k+1):=by
 refine ⟨fun p=>?_,fun t ht=>?_⟩
 ·have e:k+1 - a=(k - a)+1:=by omega
  have e2:k+1 - a=1+(k - a):=by omega
  rw [e,pH,Tg,show a+(k - a)=k by omega,MZ h,← e,e2,pH,Tg]
  rw [pG (d:=HA d a k) (d':=d) (a:=a) (b:=a+1) fun t ht=>by rw [BC (by omega) (by omega)]; congr 1; omega]
  omega
 ·rcases ht with ht | ht
  ·exact Ya ht
  ·exact Jc h (by omega)
theorem ajf {d:Nat→α} {a k t:Nat} (h:a≤k):HA d a (k+1) t=if t=k then HA d a k (k+1) else if t=k+1 then HA d a k k else HA d a k t:=by
 by_cases e:t=k
 ·subst e; rw [if_pos rfl,BC h (by omega),Jc h (by omega)]
 ·rw [if_neg e]
  by_cases e2:t=k+1
  ·subst e2; rw [if_pos rfl,MZ (by omega),MZ h]
  ·rw [if_neg e2]
   by_cases e3:t < a
   ·rw [Ya e3,Ya e3]
   ·by_cases e4:t < k
    ·rw [BC (by omega) (by omega),BC (by omega) e4]
    ·rw [Jc (by omega) (by omega),Jc h (by omega)]
def CO (d:Nat→α) (a m b:Nat):Nat→α:=fun t=>if t < a then d t else if t < a+(b - m) then d (t+(m - a)) else if t < b then d (t - (b - m)) else d t
theorem HB {d:Nat→α} {a m b t:Nat} (h1:a≤m) (h2:m≤b) (h:t < a∨b≤t):CO d a m b t=d t:=by
 rcases h with h | h
 ·simp [CO,h]
 ·rw [CO,if_neg (by omega),if_neg (by omega),if_neg (by omega)]
theorem M0 {d:Nat→α} {a m b t:Nat} (h1:a≤t) (h2:t < a+(b - m)):CO d a m b t=d (t+(m - a)):=by
 rw [CO,if_neg (by omega),if_pos h2]
theorem Jd {d:Nat→α} {a m b t:Nat} (h1:a+(b - m)≤t) (h2:t < b):CO d a m b t=d (t - (b - m)):=by
 rw [CO,if_neg (by omega),if_neg (by omega),if_pos h2]
theorem ajg {d:Nat→α} {a m b:Nat} (h1:a≤m) (h2:m≤b):Perm d (CO d a m b) a b:=by
 refine ⟨fun p=>?_,fun t ht=>HB h1 h2 ht⟩
 have e:b - a=(b - m)+(m - a):=by omega
 have e2:b - a=(m - a)+(b - m):=by omega
 rw [e,pH,← e,e2,pH,show a+(m - a)=m by omega]
 rw [pG (d:=CO d a m b) (d':=d) (a:=a) (b:=m) fun t ht=>by rw [M0 (by omega) (by omega)]; congr 1; omega,pG (d:=CO d a m b) (d':=d) (a:=a+(b - m)) (b:=a) fun t ht=>by rw [Jd (by omega) (by omega)]; congr 1; omega]
 omega
structure Ord (α:Type) where
 key:α→Int
 gd:α→α→Prop
def Ord.lt (o:Ord α) (x y:α):Prop:=o.key x < o.key y∨(o.key x=o.key y∧o.gd x y)
theorem Ord.alT {o:Ord α} {x y:α} (h:o.lt x y):o.key x≤o.key y:=by rcases h with h | h <;> omega
theorem Ord.ahq {o:Ord α} {x y:α} (h:o.key x≤o.key y) (h0:o.gd x y):o.lt x y:=by
 by_cases e:o.key x=o.key y
 ·exact .inr ⟨e,h0⟩
 ·exact .inl (by omega)
def gp (o:Ord α) (d:Nat→α) (a b:Nat):Prop:=∀ i j,a≤i→i < j→j < b→o.lt (d i) (d j)
def DY (o:Ord α) (d:Nat→α) (a m b:Nat):Prop:=∀ i j,a≤i→i < m→m≤j→j < b→o.gd (d i) (d j)
variable {o:Ord α}
theorem gp.key {d:Nat→α} {a b:Nat} (h:gp o d a b) {i j:Nat} (h1:a≤i) (h2:i≤j) (h3:j < b):o.key (d i)≤o.key (d j):=by
 by_cases e:i=j
 ·subst e; exact Int.le_refl _
 ·exact Ord.alT (h i j h1 (by omega) h3)
theorem gp.congr {d d' : Nat→α} {a b:Nat} (h:gp o d a b) (e:∀ i,a≤i→i < b→d' i=d i):gp o d' a b:=fun i j h1 h2 h3=>by
 rw [e i h1 (by omega),e j (by omega) h3]; exact h i j h1 h2 h3
theorem gp.one {d:Nat→α} {a b:Nat} (h:b≤a+1):gp o d a b:=fun i j h1 h2 h3=>by omega
theorem Wu {d:Nat→α} {a j i:Nat} (hs:gp o d a i) (hc:DY o d a i (i+1)) (h1:a≤j) (h2:j≤i) (hl:∀ s,a≤s→s < j→o.key (d s)≤o.key (d i)) (hr:∀ t,j≤t→t < i→o.key (d i) < o.key (d t)):gp o (ins d j i) a (i+1):=by
 intro s t q1 q2 q3
 by_cases ht:t < j
 ·rw [xw ht,xw (by omega)]
  exact hs s t q1 q2 (by omega)
 ·by_cases Gy:t=j
  ·subst Gy
   rw [E4,xw q2]
   exact Ord.ahq (hl s q1 q2) (hc s i q1 (by omega) (Nat.le_refl _) (by omega))
  ·rw [Hz (t:=t) (by omega) (by omega)]
   by_cases h3:s < j
   ·rw [xw h3]; exact hs s (t - 1) q1 (by omega) (by omega)
   ·by_cases h4:s=j
    ·subst h4; rw [E4]; exact .inl (hr (t - 1) (by omega) (by omega))
    ·rw [Hz (t:=s) (by omega) (by omega)]; exact hs (s - 1) (t - 1) (by omega) (by omega) (by omega)
theorem agk {d:Nat→α} {a i b:Nat} (hs:gp o d (a+1) b) (hc:DY o d a (a+1) b) (h1:a+1≤i) (h2:i≤b) (hl:∀ t,a+1≤t→t < i→o.key (d t) < o.key (d a)) (hr:∀ t,i≤t→t < b→o.key (d a)≤o.key (d t)):gp o (HA d a (i - 1)) a b:=by
 intro s t q1 q2 q3
 by_cases ht:t < i - 1
 ·rw [BC (by omega) ht,BC q1 (by omega)]
  exact hs _ _ (by omega) (by omega) (by omega)
 ·by_cases Gy:t=i - 1
  ·subst Gy
   rw [MZ (by omega),BC q1 q2]
   exact .inl (hl _ (by omega) (by omega))
  ·rw [Jc (t:=t) (by omega) (by omega)]
   by_cases h3:s < i - 1
   ·rw [BC q1 h3]; exact hs _ _ (by omega) (by omega) q3
   ·by_cases h4:s=i - 1
    ·subst h4; rw [MZ (by omega)]; exact Ord.ahq (hr t (by omega) q3) (hc a t (Nat.le_refl _) (by omega) (by omega) q3)
    ·rw [Jc (t:=s) (by omega) (by omega)]; exact hs _ _ (by omega) q2 q3
structure Split (o:Ord α) (D:Nat→α) (a s cn e b:Nat):Prop where
 l1:gp o D a s
 l2:gp o D s cn
 l0:DY o D a s cn
 r1:gp o D cn e
 r2:gp o D e b
 r0:DY o D cn e b
 lr:∀ i j,a≤i→i < cn→cn≤j→j < b→o.lt (D i) (D j)
theorem ahr {d:Nat→α} {a s cn m e b:Nat} (h1:gp o d a m) (h2:gp o d m b) (hc:DY o d a m b) (q1:a≤s) (q2:s≤m) (q3:m≤e) (q4:e≤b) (q5:e+s=cn+m) (hL:∀ i j,a≤i→i < s→e≤j→j < b→o.key (d i)≤o.key (d j)) (hR:∀ i j,s≤i→i < m→m≤j→j < e→o.key (d j) < o.key (d i)) :
  Split o (CO d s m e) a s cn e b:=by
 have v1:∀ t,t < s→CO d s m e t=d t:=fun t h=>HB q2 q3 (.inl h)
 have v2:∀ t,s≤t→t < cn→CO d s m e t=d (t+(m - s)):=fun t h h'=>M0 h (by omega)
 have v3:∀ t,cn≤t→t < e→CO d s m e t=d (t - (e - m)):=fun t h h'=>Jd (by omega) h'
 have v4:∀ t,e≤t→CO d s m e t=d t:=fun t h=>HB q2 q3 (.inr h)
 refine ⟨fun i j p1 p2 p3=>?_,fun i j p1 p2 p3=>?_,fun i j p1 p2 p3 p4=>?_,fun i j p1 p2 p3=>?_,fun i j p1 p2 p3=>?_,fun i j p1 p2 p3 p4=>?_,fun i j p1 p2 p3 p4=>?_⟩
 ·rw [v1 i (by omega),v1 j p3]; exact h1 i j p1 p2 (by omega)
 ·rw [v2 i p1 (by omega),v2 j (by omega) p3]; exact h2 _ _ (by omega) (by omega) (by omega)
 ·rw [v1 i p2,v2 j p3 p4]; exact hc _ _ p1 (by omega) (by omega) (by omega)
 ·rw [v3 i p1 (by omega),v3 j (by omega) p3]; exact h1 _ _ (by omega) (by omega) (by omega)
 ·rw [v4 i p1,v4 j (by omega)]; exact h2 _ _ (by omega) p2 p3
 ·rw [v3 i p1 p2,v4 j p3]; exact hc _ _ (by omega) (by omega) (by omega) p4
 ·by_cases hi:i < s
  ·rw [v1 i hi]
   by_cases hj:j < e
   ·rw [v3 j p3 hj]; exact h1 _ _ p1 (by omega) (by omega)
   ·rw [v4 j (by omega)]; exact Ord.ahq (hL i j p1 hi (by omega) p4) (hc i j p1 (by omega) (by omega) p4)
  ·rw [v2 i (by omega) p2]
   by_cases hj:j < e
   ·rw [v3 j p3 hj]; exact .inl (hR _ _ (by omega) (by omega) (by omega) (by omega))
   ·rw [v4 j (by omega)]; exact h2 _ _ (by omega) (by omega) p4
theorem aei {D D2 D3:Nat→α} {a cn b:Nat} (h:∀ i j,a≤i→i < cn→cn≤j→j < b→o.lt (D i) (D j)) (p1:Perm D D2 a cn) (s1:gp o D2 a cn) (p2:Perm D2 D3 cn b) (s2:gp o D3 cn b):gp o D3 a b:=by
 intro i j q1 q2 q3
 by_cases hj:j < cn
 ·rw [p2.2 i (.inl (by omega)),p2.2 j (.inl hj)]; exact s1 i j q1 q2 hj
 ·by_cases hi:i < cn
  ·rw [p2.2 i (.inl hi)]
   obtain ⟨i',r1,r2,e1⟩:=p1.mem q1 hi
   obtain ⟨j',r3,r4,e2⟩:=p2.mem (i:=j) (by omega) q3
   rw [e1,e2,p1.2 j' (.inr r3)]
   exact h i' j' r1 r2 r3 r4
  ·exact s2 i j (by omega) q2 q3
theorem OE {d:Nat→α} {a s s0 r0 cn m b:Nat} (h1:gp o d a m) (h2:gp o d m b) (q1:a≤s) (q2:s≤m) (q3:m+s≤cn+m) (q4:cn+m≤b+s) (hs:(s=s0∧(s0=a∨cn+m=b+s0))∨(a < s∧cn+m < b+s∧o.key (d (s - 1))≤o.key (d (cn+m - s)))) (hr:(s=r0∧(r0=m∨r0=cn))∨(s < m∧s < cn∧o.key (d (cn+m - 1 - s)) < o.key (d s))) :
  (∀ i j,a≤i→i < s→cn+m - s≤j→j < b→o.key (d i)≤o.key (d j))∧∀ i j,s≤i→i < m→m≤j→j < cn+m - s→o.key (d j) < o.key (d i):=by
 constructor
 ·intro i j p1 p2 p3 p4
  rcases hs with ⟨e,h | h⟩ | ⟨e1,e2,e3⟩
  ·omega
  ·omega
  ·have k1:=h1.key (i:=i) (j:=s - 1) p1 (by omega) (by omega)
   have k2:=h2.key (i:=cn+m - s) (j:=j) (by omega) p3 p4
   omega
 ·intro i j p1 p2 p3 p4
  rcases hr with ⟨e,h | h⟩ | ⟨e1,e2,e3⟩
  ·omega
  ·omega
  ·have k1:=h1.key (i:=s) (j:=i) q1 p1 p2
   have k2:=h2.key (i:=j) (j:=cn+m - 1 - s) p3 (by omega) (by omega)
   omega
def ac2 (o:Ord α) (g:Nat→α) (n:Nat):Prop:=∀ i j,i < j→j < n→o.gd (g i) (g j)
theorem Wv {d g:Nat→α} {a k:Nat} (h:∀ p:α→Bool,sI p d a k=sI p g a k) {i:Nat} (h1:a≤i) (h2:i < a+k):∃ j,a≤j∧j < a+k∧d i=g j:=by
 classical
 have:=aa7 (p:=fun x=>decide (x=d i)) (d:=d) (a:=a) (i:=i - a) (k:=k) (by omega) (by simp [show a+(i - a)=i by omega])
 rw [h] at this
 obtain ⟨j,h3,h4⟩:=aa6 this
 exact ⟨a+j,by omega,by omega,(of_decide_eq_true h4).symm⟩
theorem ac3 {d g:Nat→α} {a m b n:Nat} (hg:ac2 o g n) (hb:b≤n) (h1:a≤m) (h2:m≤b) (c1:∀ p:α→Bool,sI p d a (m - a)=sI p g a (m - a)) (c2:∀ p:α→Bool,sI p d m (b - m)=sI p g m (b - m)):DY o d a m b:=by
 intro i j q1 q2 q3 q4
 obtain ⟨i',r1,r2,e1⟩:=Wv c1 q1 (by omega)
 obtain ⟨j',r3,r4,e2⟩:=Wv c2 q3 (by omega)
 rw [e1,e2]
 exact hg i' j' (by omega) (by omega)
end Go.K.se
end
section
namespace Go.Proofs.Ytahhdndhkgbcjaa.b
open Go.K Go.K.se
open Go.aE (ak)
theorem aZ (n:Nat):av n n=true:=Nat.beq_refl n
theorem Th {i n:Nat} (h:i < n):(decide ((0:Int)≤(i:Int))&&decide ((i:Int) < ((n:Nat):Int)))=true:=by
 rw [Bool.and_eq_true]
 exact ⟨decide_eq_true (by omega),decide_eq_true (by omega)⟩
theorem aa8 {i j:Nat} (h:i+j≤100000000000):au ((i:Int)+(j:Int))=((i+j:Nat):Int):=by
 rw [zy (by omega) (by omega)]; omega
theorem Qg {i:Nat} (h:i≤100000000000):au ((i:Int)+(1:Int))=((i+1:Nat):Int):=by
 rw [zy (by omega) (by omega)]; omega
theorem BD {i j:Nat} (h:i≤100000000000) (hj:j≤i):au ((i:Int) - (j:Int))=((i - j:Nat):Int):=by
 rw [zy (by omega) (by omega)]; omega
theorem aa9 {i:Nat} (h:i≤100000000000) (hj:1≤i):au ((i:Int) - (1:Int))=((i - 1:Nat):Int):=by
 rw [zy (by omega) (by omega)]; omega
theorem M1 {α:Type} (D:Sl α) (i j t:Nat) (u v:α):((D.set (0+i) u).set (0+j) v).get t=if t=j then v else if t=i then u else D.get t:=by
 simp only [Sl.set,Nat.zero_add]
 by_cases h:t=j
 ·subst h; simp
 ·rw [if_neg h]
  have e:Nat.beq t j=false:=by
   cases hb:Nat.beq t j with
   | false=>rfl
   | true=>exact absurd (Nat.eq_of_beq_eq_true hb) h
  rw [e,cond_false]
  by_cases h2:t=i
  ·subst h2; simp
  ·rw [if_neg h2]
   have e:Nat.beq t i=false:=by
    cases hb:Nat.beq t i with
    | false=>rfl
    | true=>exact absurd (Nat.eq_of_beq_eq_true hb) h2
   rw [e,cond_false]
theorem ain {α:Type} (D:Sl α) (i j:Nat) (u v:α):((D.set i u).set j v).n=D.n:=rfl
def AG {α:Type} (d:Nat→α) (a b n:Nat):Nat→α:=fun t=>if a≤t∧t < a+n then d (t+(b - a)) else if b≤t∧t < b+n then d (t - (b - a)) else d t
theorem ajh {α:Type} (d:Nat→α) {a b j:Nat} (h:a+j < b) (t:Nat):AG d a b (j+1) t=if t=b+j then AG d a b j (a+j) else if t=a+j then AG d a b j (b+j) else AG d a b j t:=by
 have e1:AG d a b j (a+j)=d (a+j):=by rw [AG,if_neg (by omega),if_neg (by omega)]
 have e2:AG d a b j (b+j)=d (b+j):=by rw [AG,if_neg (by omega),if_neg (by omega)]
 rw [e1,e2]
 by_cases h1:t=b+j
 ·subst h1; rw [if_pos rfl,AG,if_neg (by omega),if_pos (by omega)]; congr 1; omega
 ·rw [if_neg h1]
  by_cases h2:t=a+j
  ·subst h2; rw [if_pos rfl,AG,if_pos (by omega)]; congr 1; omega
  ·rw [if_neg h2]
   unfold AG
   by_cases h3:a≤t∧t < a+j
   ·rw [if_pos (by omega),if_pos h3]
   ·rw [if_neg (by omega),if_neg h3]
    by_cases h4:b≤t∧t < b+j
    ·rw [if_pos (by omega),if_pos h4]
    ·rw [if_neg (by omega),if_neg h4]
theorem M3 (x y:Int):∃ r,eC x y=some r∧decide (r < 0)=decide (x < y):=by
 unfold eC wz rz oj
 simp only [bne_self_eq_false,Option.getD_some,cond_false]
 cases h:decide (x < y) with
 | true=>exact ⟨_,rfl,rfl⟩
 | false=>
  rw [cond_false]
  cases h2:decide (x > y) with
  | true=>exact ⟨_,rfl,rfl⟩
  | false=>exact ⟨_,rfl,rfl⟩
end Go.Proofs.Ytahhdndhkgbcjaa.b
end
section
namespace Go.Proofs.Ytahhdndhkgbcjaa.b
open Go.K Go.K.se
open Go.aE (ak)
theorem XF (h:aB) (D:Sl aK) (a b n:Nat) (h1:a+n≤b) (h2:b+n≤D.n) (h3:D.n≤10000000000) :
  ∃ e y,goN di ⟨D,(a:Int),(b:Int),(n:Int),(0:Int),h⟩ = .out e y∧(e = .exit 0∧y.a=(a:Int)∧y.b=(b:Int)∧y.n=(n:Int)∧y.eN=h∧y.data.n=D.n∧∀ t,y.data.get t=AG D.get a b n t):=by
 refine dp (step:=di) (fun j y=>y.a=(a:Int)∧y.b=(b:Int)∧y.n=(n:Int)∧y.eN=h∧y.i=(j:Int)∧j≤n∧y.data.n=D.n∧∀ t,y.data.get t=AG D.get a b j t) (fun e y=>e = .exit 0∧y.a=(a:Int)∧y.b=(b:Int)∧y.n=(n:Int)∧y.eN=h∧y.data.n=D.n∧∀ t,y.data.get t=AG D.get a b n t) n (by have:mm=1000000000000:=rfl; omega) (fun j y hj ⟨f1,f2,f3,f4,f5,f6,f7,f8⟩=>?_) ⟨rfl,rfl,rfl,rfl,rfl,Nat.zero_le _,rfl,fun t=>by rw [AG,if_neg (by omega),if_neg (by omega)]⟩
 unfold di
 simp only [f1,f2,f3,f5,f7,aZ,cond_true]
 by_cases bV:j < n
 ·rw [decide_eq_true (show (j:Int) < (n:Int) by omega),cond_true,aa8 (by omega),aa8 (by omega),Th (by omega),Th (by omega),Qg (by omega)]
  simp only [cond_true,Int.toNat_natCast]
  refine .inl ⟨_,rfl,bV,rfl,rfl,rfl,f4,rfl,bV,by rw [ain]; exact f7,fun t=>?_⟩
  rw [M1,ajh D.get (by omega) t,f8,f8,f8,Nat.zero_add,Nat.zero_add]
 ·rw [decide_eq_false (show ¬ (j:Int) < (n:Int) by omega),cond_false]
  have:j=n:=by omega
  subst this
  exact .inr ⟨_,_,rfl,rfl,rfl,f1,f2,f3,f4,f7,f8⟩
theorem Cc (h:aB) (D:Sl aK) (a b n:Nat) (h1:a+n≤b) (h2:b+n≤D.n) (h3:D.n≤10000000000) :
  ∃ D',eR ⟨D,(a:Int),(b:Int),(n:Int),h⟩ = .out .ret ⟨D',(a:Int),(b:Int),(n:Int),h⟩∧D'.n=D.n∧∀ t,D'.get t=AG D.get a b n t:=by
 obtain ⟨e,y,hy,rfl,y1,y2,y3,y4,y5,y6⟩:=XF h D a b n h1 h2 h3
 have e0:dh ⟨D,(a:Int),(b:Int),(n:Int),h⟩ = .out (.exit 0) y:=hy
 refine ⟨y.data,?_,y5,y6⟩
 unfold eR jv
 rw [e0]
 simp only [aZ,cond_true,aI.jR,aI.kA,fB,Nat.beq_refl,y1,y2,y3,y4]
theorem aba (h:aB) (D:Sl aK) (a m b:Nat) (h1:a < m) (h2:m < b) (h4:b≤D.n) (h3:D.n≤10000000000) :
  ∃ e y,goN dw ⟨D,(a:Int),(m:Int),(b:Int),((m - a:Nat):Int),((b - m:Nat):Int),h⟩ = .out e y∧(e = .exit 0∧y.a=(a:Int)∧y.m=(m:Int)∧y.b=(b:Int)∧y.eN=h∧y.data.n=D.n∧
   ∃ i:Nat,1≤i∧a+i≤m∧m+i≤b∧y.i=(i:Int)∧y.j=(i:Int)∧(∀ t,t < m - i∨m+i≤t→y.data.get t=CO D.get a m b t)∧(∀ t,m - i≤t→t < m→CO D.get a m b t=y.data.get (t+i))∧∀ t,m≤t→t < m+i→CO D.get a m b t=y.data.get (t - i)):=by
 refine dp (step:=dw) (fun k y=>y.a=(a:Int)∧y.m=(m:Int)∧y.b=(b:Int)∧y.eN=h∧y.data.n=D.n∧
   ∃ i j:Nat,1≤i∧1≤j∧a+i≤m∧m+j≤b∧i+j+k≤b - a∧y.i=(i:Int)∧y.j=(j:Int)∧(∀ t,t < m - i∨m+j≤t→y.data.get t=CO D.get a m b t)∧(∀ t,m - i≤t→t < m - i+j→CO D.get a m b t=y.data.get (t+i))∧∀ t,m - i+j≤t→t < m+j→CO D.get a m b t=y.data.get (t - j)) _ (b - a) (by have:mm=1000000000000:=rfl; omega) (fun k y hk ⟨f1,f2,f3,f4,f5,i,j,g1,g2,g3,g4,g5,g6,g7,g8,g9,g10⟩=>?_) ?_
 ·unfold dw
  by_cases he:i=j
  ·subst he
   rw [g6,g7,bne_self_eq_false,cond_false,aZ,cond_true]
   exact .inr ⟨_,_,rfl,rfl,rfl,f1,f2,f3,f4,f5,i,g1,g3,g4,g6,g7,g8,fun t q1 q2=>g9 t q1 (by omega),fun t q1 q2=>g10 t (by omega) q2⟩
  ·rw [g6,g7,show ((i:Int) != (j:Int))=true by simpa using (show ¬ (i:Int)=(j:Int) by omega),cond_true]
   by_cases hgt:j < i
   ·rw [decide_eq_true (show (i:Int) > (j:Int) by omega),cond_true]
    obtain ⟨D',q1,q2,q3⟩:=Cc h y.data (m - i) m j (by omega) (by omega) (by omega)
    have e0:fF y = .out .ret ⟨D',((m - i:Nat):Int),(m:Int),(j:Int),h⟩:=by
     unfold fF
     rw [f2,g6,g7,f4,BD (by omega) (by omega)]
     exact q1
    rw [e0]
    simp only [aZ,cond_true,aI.jR,aI.kA,fB,q2]
    refine .inl ⟨_,rfl,by omega,f1,f2,f3,rfl,by rw [q2]; exact f5,i - j,j,by omega,g2,by omega,g4,by omega,BD (by omega) (by omega),rfl,fun t ht=>?_,fun t t1 t2=>?_,fun t t1 t2=>?_⟩
    ·rw [q3]
     by_cases wN:m - i≤t∧t < m - i+j
     ·rw [AG,if_pos wN,g9 t wN.1 wN.2]; congr 1; omega
     ·rw [AG,if_neg wN,if_neg (by omega)]; exact g8 t (by omega)
    ·rw [q3,AG,if_neg (by omega),if_pos (by omega),g10 t (by omega) (by omega)]; congr 1; omega
    ·rw [q3,AG,if_neg (by omega),if_neg (by omega),g10 t (by omega) (by omega)]
   ·rw [decide_eq_false (show ¬ (i:Int) > (j:Int) by omega),cond_false]
    obtain ⟨D',q1,q2,q3⟩:=Cc h y.data (m - i) (m+j - i) i (by omega) (by omega) (by omega)
    have e0:fG y = .out .ret ⟨D',((m - i:Nat):Int),((m+j - i:Nat):Int),(i:Int),h⟩:=by
     unfold fG
     rw [f2,g6,g7,f4,BD (by omega) (by omega),aa8 (by omega),BD (by omega) (by omega)]
     exact q1
    rw [e0]
    simp only [aZ,cond_true,aI.jR,aI.kA,fB,q2]
    refine .inl ⟨_,rfl,by omega,f1,f2,f3,rfl,by rw [q2]; exact f5,i,j - i,g1,by omega,g3,by omega,by omega,rfl,BD (by omega) (by omega),fun t ht=>?_,fun t t1 t2=>?_,fun t t1 t2=>?_⟩
    ·rw [q3]
     by_cases wN:m+j - i≤t∧t < m+j - i+i
     ·rw [AG,if_neg (by omega),if_pos wN,g10 t (by omega) (by omega)]; congr 1; omega
     ·rw [AG,if_neg (by omega),if_neg wN]; exact g8 t (by omega)
    ·rw [q3,AG,if_neg (by omega),if_neg (by omega),g9 t (by omega) (by omega)]
    ·rw [q3,AG,if_pos (by omega),g9 t (by omega) (by omega)]; congr 1; omega
 ·refine ⟨rfl,rfl,rfl,rfl,rfl,m - a,b - m,by omega,by omega,by omega,by omega,by omega,rfl,rfl,fun t ht=>?_,fun t t1 t2=>?_,fun t t1 t2=>?_⟩
  ·rw [HB (by omega) (by omega) (by omega)]
  ·rw [M0 (by omega) (by omega)]
  ·rw [Jd (by omega) (by omega)]
theorem abb (h:aB) (D:Sl aK) (a m b:Nat) (h1:a < m) (h2:m < b) (h4:b≤D.n) (h3:D.n≤10000000000) :
  ∃ D',dZ ⟨D,(a:Int),(m:Int),(b:Int),h⟩ = .out .ret ⟨D',(a:Int),(m:Int),(b:Int),h⟩∧D'.n=D.n∧∀ t,D'.get t=CO D.get a m b t:=by
 obtain ⟨e,y,hy,rfl,y1,y2,y3,y4,y5,i,i1,i2,i3,i4,i5,i6,i7,i8⟩:=aba h D a m b h1 h2 h4 h3
 have e0:bA ⟨D,(a:Int),(m:Int),(b:Int),h⟩ = .out (.exit 0) y:=by
  unfold bA
  rw [BD (by omega) (by omega),BD (by omega) (by omega)]
  exact hy
 obtain ⟨D',q1,q2,q3⟩:=Cc h y.data (m - i) m i (by omega) (by omega) (by omega)
 have e1:gG ⟨D,(a:Int),(m:Int),(b:Int),h⟩ = .out .ret ⟨D',((m - i:Nat):Int),(m:Int),(i:Int),h⟩:=by
  unfold gG
  rw [e0]
  simp only [aI.kA,y2,i4,y4]
  rw [BD (by omega) (by omega)]
  exact q1
 refine ⟨D',?_,q2.trans y5,fun t=>?_⟩
 ·unfold dZ kD
  rw [e0,e1]
  simp only [aZ,cond_true,aI.jR,aI.kA,fB,Nat.beq_refl,y1,y2,y3,q2]
 ·rw [q3]
  by_cases c1:m - i≤t∧t < m - i+i
  ·rw [AG,if_pos c1,i7 t (by omega) (by omega)]; congr 1; omega
  ·by_cases c2:m≤t∧t < m+i
   ·rw [AG,if_neg c1,if_pos c2,i8 t c2.1 c2.2]; congr 1; omega
   ·rw [AG,if_neg c1,if_neg c2]; exact i6 t (by omega)
def bT (h:aB) (d:aK):Int:=(h.cT.items.get (Int.toNat d.item)).look.bin
def hX (h:aB) (d:aK):Bool:=(decide ((0:Int)≤d.item))&&(decide (d.item < ((h.cT.items.n:Nat):Int)))
theorem abc (h:aB) (D:Sl aK) (a b i:Nat) (h1:a≤i) (h2:i < D.n) (h3:D.n≤10000000000) (b9:∀ t,t < D.n→hX h (D.get t)=true) :
  ∃ e y,goN cq ⟨D,(a:Int),(b:Int),(i:Int),(i:Int),h⟩ = .out e y∧(e = .exit 2∧y.a=(a:Int)∧y.b=(b:Int)∧y.i=(i:Int)∧y.bZ=h∧y.data.n=D.n∧∃ j:Nat,a≤j∧j≤i∧(∀ t,y.data.get t=ins D.get j i t)∧(∀ t,j≤t→t < i→bT h (D.get i) < bT h (D.get t))∧(j=a∨¬ bT h (D.get i) < bT h (D.get (j - 1)))):=by
 refine dp (step:=cq) (fun k y=>y.a=(a:Int)∧y.b=(b:Int)∧y.i=(i:Int)∧y.bZ=h∧y.data.n=D.n∧a+k≤i∧y.j=((i - k:Nat):Int)∧(∀ t,y.data.get t=ins D.get (i - k) i t)∧∀ t,i - k≤t→t < i→bT h (D.get i) < bT h (D.get t)) _ (i - a) (by have:mm=1000000000000:=rfl; omega) (fun k y hk ⟨f1,f2,f3,f4,f5,f6,f7,f8,f9⟩=>?_) ⟨rfl,rfl,rfl,rfl,rfl,by omega,by simp,fun t=>by rw [Nat.sub_zero,acZ],fun t t1 t2=>by omega⟩
 unfold cq
 by_cases bV:a < i - k
 ·have g1:y.data.get (0+Int.toNat ((i - k:Nat):Int))=D.get i:=by rw [Int.toNat_natCast,Nat.zero_add,f8,E4]
  have g2:y.data.get (0+Int.toNat ((i - k - 1:Nat):Int))=D.get (i - k - 1):=by rw [Int.toNat_natCast,Nat.zero_add,f8,xw (by omega)]
  obtain ⟨r,r1,r2⟩:=M3 (bT h (D.get i)) (bT h (D.get (i - k - 1)))
  have e0:gC y=some r:=by
   unfold gC
   rw [f7,aa9 (by omega) (by omega),g1,g2,f4]
   exact r1
  have o1:((decide ((0:Int)≤(D.get i).item))&&(decide ((D.get i).item < ((h.cT.items.n:Nat):Int))))=true:=b9 i h2
  have o2:((decide ((0:Int)≤(D.get (i - k - 1)).item))&&(decide ((D.get (i - k - 1)).item < ((h.cT.items.n:Nat):Int))))=true:=b9 _ (by omega)
  rw [f7,f1,decide_eq_true (show ((i - k:Nat):Int) > (a:Int) by omega),cond_true,f5,Th (by omega),cond_true,aa9 (by omega) (by omega),Th (by omega),cond_true,g1,g2,f4,o1,o2,e0]
  simp only [cond_true,Option.isSome_some,Option.getD_some,aZ,r2]
  by_cases hc:bT h (D.get i) < bT h (D.get (i - k - 1))
  ·rw [decide_eq_true hc,cond_true]
   refine .inl ⟨_,rfl,by omega,rfl,f2,f3,rfl,by rw [ain]; exact f5,by omega,by rw [show i - (k+1)=i - k - 1 by omega],fun t=>?_,fun t t1 t2=>?_⟩
   ·rw [M1,show i - (k+1)=i - k - 1 by omega,ac1 (by omega) (by omega),Int.toNat_natCast,Int.toNat_natCast,E4,xw (by omega),f8]
   ·by_cases e:t=i - k - 1
    ·rw [e]; exact hc
    ·exact f9 t (by omega) t2
  ·rw [decide_eq_false hc,cond_false]
   exact .inr ⟨_,_,rfl,rfl,rfl,f1,f2,f3,f4,f5,i - k,by omega,by omega,f8,f9,.inr hc⟩
 ·rw [f7,f1,decide_eq_false (show ¬ ((i - k:Nat):Int) > (a:Int) by omega),cond_false,aZ,cond_true]
  exact .inr ⟨_,_,rfl,rfl,rfl,f1,f2,f3,f4,f5,i - k,by omega,by omega,f8,f9,.inl (by omega)⟩
def bJ (h:aB) (gd:aK→aK→Prop):se.Ord aK:=⟨bT h,gd⟩
theorem HC (h:aB) (gd:aK→aK→Prop) (D:Sl aK) (a b:Nat) (h1:a≤b) (h2:b≤D.n) (h3:D.n≤10000000000) (b9:∀ t,t < D.n→hX h (D.get t)=true) (hr:∀ s t,a≤s→s < t→t < b→gd (D.get s) (D.get t)) :
  ∃ D',eS ⟨D,(a:Int),(b:Int),h⟩ = .out .ret ⟨D',(a:Int),(b:Int),h⟩∧D'.n=D.n∧Perm D.get D'.get a b∧gp (bJ h gd) D'.get a b:=by
 have amQ:∃ e y,goN cI ⟨D,(a:Int),(b:Int),((a+1:Nat):Int),h⟩ = .out e y∧(e = .exit 0∧y.a=(a:Int)∧y.b=(b:Int)∧y.bZ=h∧y.data.n=D.n∧Perm D.get y.data.get a b∧gp (bJ h gd) y.data.get a b):=by
  refine dp (step:=cI) (fun k y=>y.a=(a:Int)∧y.b=(b:Int)∧y.i=((a+1+k:Nat):Int)∧y.bZ=h∧y.data.n=D.n∧(k=0∨a+1+k≤b)∧Perm D.get y.data.get a (a+1+k)∧gp (bJ h gd) y.data.get a (a+1+k)) _ (b - a) (by have:mm=1000000000000:=rfl; omega) (fun k y hk ⟨f1,f2,f3,f4,f5,f6,f7,f8⟩=>?_) ⟨rfl,rfl,rfl,rfl,rfl,.inl rfl,.refl _ _ _,.one (by omega)⟩
  unfold cI
  by_cases bV:a+1+k < b
  ·have VY:∀ t,t < y.data.n→hX h (y.data.get t)=true:=fun t ht=>by
    rw [f5] at ht
    by_cases wN:a≤t∧t < a+1+k
    ·obtain ⟨j,j1,j2,e⟩:=f7.mem wN.1 wN.2
     rw [e]; exact b9 j (by omega)
    ·rw [f7.2 t (by omega)]; exact b9 t ht
   obtain ⟨e,z,hz,rfl,z1,z2,z3,z4,z5,j,j1,j2,j3,j4,j5⟩:=abc h y.data a b (a+1+k) (by omega) (by omega) (by omega) VY
   have e0:bQ y = .out (.exit 2) z:=by
    unfold bQ
    rw [f1,f2,f3,f4]
    exact hz
   rw [f3,f2,decide_eq_true (show ((a+1+k:Nat):Int) < (b:Int) by omega),cond_true,e0]
   simp only [aZ,cond_true,aI.jR,aI.kA,fB,Nat.beq_refl]
   have amh:z.data.get=ins y.data.get j (a+1+k):=funext j3
   refine .inl ⟨_,rfl,by omega,z1,z2,(by show au (z.i+1)=_; rw [z3,Qg (by omega)]; rfl),z4,by rw [z5]; exact f5,.inr (by omega),?_,?_⟩
   ·rw [amh]
    exact (f7.wide (Nat.le_refl _) (by omega) (by omega)).trans ((ac0 (a:=a) j1 j2).wide (Nat.le_refl _) (by omega) (by omega))
   ·rw [amh]
    refine Wu f8 (fun s t s1 s2 t1 t2=>?_) j1 j2 (fun s s1 s2=>?_) j4
    ·have:t=a+1+k:=by omega
     subst this
     obtain ⟨s',p1,p2,e⟩:=f7.mem s1 s2
     rw [e,f7.2 (a+1+k) (by omega)]
     exact hr s' _ p1 p2 bV
    ·rcases j5 with rfl | j5
     ·omega
     ·have:=f8.key (i:=s) (j:=j - 1) s1 (by omega) (by omega)
      have h5 : ¬ (bJ h gd).key (y.data.get (a+1+k)) < (bJ h gd).key (y.data.get (j - 1)):=j5
      omega
  ·rw [f3,f2,decide_eq_false (show ¬ ((a+1+k:Nat):Int) < (b:Int) by omega),cond_false,aZ,cond_true]
   refine .inr ⟨_,_,rfl,rfl,rfl,f1,f2,f4,f5,?_,?_⟩
   ·rcases f6 with rfl | f6
    ·by_cases e:a=b
     ·subst e
      refine ⟨fun p=>by rw [Nat.sub_self]; rfl,fun i _=>?_⟩
      by_cases hi:i=a
      ·subst hi
       have:=f7.1
       obtain ⟨j,p1,p2,e⟩:=f7.mem (i:=i) (by omega) (by omega)
       rw [e]; congr 1; omega
      ·exact f7.2 i (by omega)
     ·rw [show b=a+1+0 by omega]; exact f7
    ·rw [show b=a+1+k by omega]; exact f7
   ·exact fun s t s1 s2 t1=>f8 s t s1 s2 (by omega)
 obtain ⟨e,y,hy,rfl,y1,y2,y3,y4,y5,y6⟩:=amQ
 have e0:cD ⟨D,(a:Int),(b:Int),h⟩ = .out (.exit 0) y:=by
  unfold cD
  rw [Qg (by omega)]
  exact hy
 refine ⟨y.data,?_,y4,y5,y6⟩
 unfold eS hQ
 rw [e0]
 simp only [aZ,cond_true,aI.jR,aI.kA,fB,Nat.beq_refl,y1,y2,y3]
end Go.Proofs.Ytahhdndhkgbcjaa.b
end
section
namespace Go.Proofs.Ytahhdndhkgbcjaa.b
open Go.K Go.K.se
open Go.aE (ak)
theorem ak8 {n:Int} (h:0≤n) (h' : n < 18446744073709551616):m4 n=n:=by
 show Go.IntKind.wrap .u64 n=n
 unfold Go.IntKind.wrap
 simp only [Go.IntKind.signed,Go.IntKind.bits]
 first | omega | (simp; omega)
theorem aej {i j:Nat} (h:i+j≤100000000000):au (Int.fdiv (m4 (au ((i:Int)+(j:Int)))) (2:Int))=(((i+j) / 2:Nat):Int):=by
 rw [aa8 h,ak8 (by omega) (by omega),show Int.fdiv ((i+j:Nat):Int) (2:Int)=(((i+j) / 2:Nat):Int) from ?_,zy (by omega) (by omega)]
 rw [Int.fdiv_eq_ediv_of_nonneg _ (by omega)]
 omega
end Go.Proofs.Ytahhdndhkgbcjaa.b
end
