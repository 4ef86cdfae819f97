/- Part of the proof of BinsAll: a machine that runs the program's code over open terms, shown to be the model's, and the plain models of its functions. No conditions. -/
import Derived.Test.YtahhdndhkgbcjaaIp
section
namespace Go.Proofs.Ytahhdndhkgbcjaa.b
open Go.K
set_option linter.unusedVariables false
set_option linter.unusedSimpArgs false
noncomputable section
structure ah where
  data:(Sl aZ)
  a:Int
  m:Int
  b:Int
  held:Show
instance:Inhabited ah:=⟨⟨default,default,default,default,default⟩⟩
def gg (x:ah):List KV:=[ij 47 fc x.data,.int .i64 x.a,.int .i64 x.m,.int .i64 x.b,.fn (.func 34) [] [.ptr 0 0]]
def gh (x:ah):List (List KV):=[lC x.held]
def lU (vs:List KV) (rs:List (List KV)):ah:=⟨hZ fD (vs.getD 0 .aq),intOf (vs.getD 1 .aq),intOf (vs.getD 2 .aq),intOf (vs.getD 3 .aq),lD (fun k=>(rs.getD 0 []).getD k .aq)⟩
def ml:aD:=⟨[(0,⟨false,[.arr 47]⟩),(1,⟨false,[.k (.int .i64)]⟩),(2,⟨false,[.k (.int .i64)]⟩),(3,⟨false,[.k (.int .i64)]⟩),(4,⟨false,[.ref (.fn (.func 34) [] [.ptr 0 0])]⟩)],[(100004,[.k (.slice 45),.k (.slice 108)],1)],[]⟩
structure bz where
  data:(Sl aZ)
  a:Int
  m:Int
  b:Int
  i:Int
  j:Int
  dA:Show
instance:Inhabited bz:=⟨⟨default,default,default,default,default,default,default⟩⟩
def gP (x:bz):List KV:=[ij 47 fc x.data,.int .i64 x.a,.int .i64 x.m,.int .i64 x.b,.fn (.func 34) [] [.ptr 0 0],.int .i64 x.i,.int .i64 x.j]
def gQ (x:bz):List (List KV):=[lC x.dA]
def nH (vs:List KV) (rs:List (List KV)):bz:=⟨hZ fD (vs.getD 0 .aq),intOf (vs.getD 1 .aq),intOf (vs.getD 2 .aq),intOf (vs.getD 3 .aq),intOf (vs.getD 5 .aq),intOf (vs.getD 6 .aq),lD (fun k=>(rs.getD 0 []).getD k .aq)⟩
def nZ:aD:=⟨[(0,⟨false,[.arr 47]⟩),(1,⟨false,[.k (.int .i64)]⟩),(2,⟨false,[.k (.int .i64)]⟩),(3,⟨false,[.k (.int .i64)]⟩),(4,⟨false,[.ref (.fn (.func 34) [] [.ptr 0 0])]⟩),(10,⟨false,[.k (.int .i64)]⟩),(11,⟨false,[.k (.int .i64)]⟩)],[(100004,[.k (.slice 45),.k (.slice 108)],1)],[]⟩
def ur:=nQ Try.prog (cR Try.prog [(35,b6)] [] (fun q=>Nat.beq q 47) false false [dB]) 9 9 103 172 (fh Try.prog 103 172) nZ
def gx (x:bz):(Option Int):=(iv (x.dA.items.get (Int.toNat (x.data.get (0+(Int.toNat (aB (Int.fdiv (ly (aB (x.i+x.j))) (2:Int)))))).item)).look.bin (x.dA.items.get (Int.toNat (x.data.get (0+(Int.toNat x.a))).item)).look.bin)
def cz (x:bz):aE bz:=
 (cond (decide (x.i < x.j))
 (cond ((decide ((0:Int)≤(aB (Int.fdiv (ly (aB (x.i+x.j))) (2:Int))))) && (decide ((aB (Int.fdiv (ly (aB (x.i+x.j))) (2:Int))) < ((x.data.n:Nat):Int))))
 (cond ((decide ((0:Int)≤x.a)) && (decide (x.a < ((x.data.n:Nat):Int))))
 (cond ((decide ((0:Int)≤(x.data.get (0+(Int.toNat (aB (Int.fdiv (ly (aB (x.i+x.j))) (2:Int)))))).item)) && (decide ((x.data.get (0+(Int.toNat (aB (Int.fdiv (ly (aB (x.i+x.j))) (2:Int)))))).item < ((x.dA.items.n:Nat):Int))))
 (cond ((decide ((0:Int)≤(x.data.get (0+(Int.toNat x.a))).item)) && (decide ((x.data.get (0+(Int.toNat x.a))).item < ((x.dA.items.n:Nat):Int))))
 (cond (gx x).isSome
 (cond (decide (((gx x).getD default) < (0:Int)))
 (cond (ay x.data.n x.data.n)
 (.next (⟨x.data,x.a,x.m,x.b,(aB ((aB (Int.fdiv (ly (aB (x.i+x.j))) (2:Int)))+(1:Int))),x.j,x.dA⟩:bz))
 .fail)
 (cond (ay x.data.n x.data.n)
 (.next (⟨x.data,x.a,x.m,x.b,x.i,(aB (Int.fdiv (ly (aB (x.i+x.j))) (2:Int))),x.dA⟩:bz))
 .fail))
 .fail)
 .fail)
 .fail)
 .fail)
 .fail)
 (cond (ay x.data.n x.data.n)
 (.out (av.ai.exit 0) x)
 .fail))
theorem sZ (x:bz):ur (gP x) (gQ x)=aE.enc gP gQ (cz x):=by
  unfold cz
  try simp only [aE.dc]
  kernel_rfl
def cw:Lp:=⟨103,172,nZ,fun vs rs=>dt gP gQ (goN cz (nH vs rs)) [av.ai.exit 0],true⟩
theorem dF:cw.Ok Try.prog:=jX funcs mixed (aw.cons bF aw.nil) aF.nil (L:=9) (n:=9) (step:=cz) (ev:=gP) (er:=gQ) (pa:=nH) rfl (fun wv wr=>⟨by kernel_rfl,by kernel_rfl⟩) sZ (yp:=(ew.cons dS ew.nil))
theorem dj:cH Try.prog cw.f cw.p=true:=by kernel_rfl
structure bA where
  data:(Sl aZ)
  a:Int
  m:Int
  b:Int
  i:Int
  j:Int
  dA:Show
instance:Inhabited bA:=⟨⟨default,default,default,default,default,default,default⟩⟩
def gR (x:bA):List KV:=[ij 47 fc x.data,.int .i64 x.a,.int .i64 x.m,.int .i64 x.b,.fn (.func 34) [] [.ptr 0 0],.int .i64 x.i,.int .i64 x.j]
def gS (x:bA):List (List KV):=[lC x.dA]
def nI (vs:List KV) (rs:List (List KV)):bA:=⟨hZ fD (vs.getD 0 .aq),intOf (vs.getD 1 .aq),intOf (vs.getD 2 .aq),intOf (vs.getD 3 .aq),intOf (vs.getD 5 .aq),intOf (vs.getD 6 .aq),lD (fun k=>(rs.getD 0 []).getD k .aq)⟩
def n3:aD:=⟨[(0,⟨false,[.arr 47]⟩),(1,⟨false,[.k (.int .i64)]⟩),(2,⟨false,[.k (.int .i64)]⟩),(3,⟨false,[.k (.int .i64)]⟩),(4,⟨false,[.ref (.fn (.func 34) [] [.ptr 0 0])]⟩),(14,⟨false,[.k (.int .i64)]⟩),(15,⟨false,[.k (.int .i64)]⟩)],[(100004,[.k (.slice 45),.k (.slice 108)],1)],[]⟩
def uu:=nQ Try.prog (cR Try.prog [(35,b6)] [cw] (fun q=>Nat.beq q 47) false false [dB]) 9 9 103 428 (fh Try.prog 103 428) n3
def gz (x:bA):(Option Int):=(iv (x.dA.items.get (Int.toNat (x.data.get (0+(Int.toNat x.m))).item)).look.bin (x.dA.items.get (Int.toNat (x.data.get (0+(Int.toNat (aB (Int.fdiv (ly (aB (x.i+x.j))) (2:Int)))))).item)).look.bin)
def cA (x:bA):aE bA:=
 (cond (decide (x.i < x.j))
 (cond ((decide ((0:Int)≤x.m)) && (decide (x.m < ((x.data.n:Nat):Int))))
 (cond ((decide ((0:Int)≤(aB (Int.fdiv (ly (aB (x.i+x.j))) (2:Int))))) && (decide ((aB (Int.fdiv (ly (aB (x.i+x.j))) (2:Int))) < ((x.data.n:Nat):Int))))
 (cond ((decide ((0:Int)≤(x.data.get (0+(Int.toNat x.m))).item)) && (decide ((x.data.get (0+(Int.toNat x.m))).item < ((x.dA.items.n:Nat):Int))))
 (cond ((decide ((0:Int)≤(x.data.get (0+(Int.toNat (aB (Int.fdiv (ly (aB (x.i+x.j))) (2:Int)))))).item)) && (decide ((x.data.get (0+(Int.toNat (aB (Int.fdiv (ly (aB (x.i+x.j))) (2:Int)))))).item < ((x.dA.items.n:Nat):Int))))
 (cond (gz x).isSome
 (cond (!(decide (((gz x).getD default) < (0:Int))))
 (cond (ay x.data.n x.data.n)
 (.next (⟨x.data,x.a,x.m,x.b,(aB ((aB (Int.fdiv (ly (aB (x.i+x.j))) (2:Int)))+(1:Int))),x.j,x.dA⟩:bA))
 .fail)
 (cond (ay x.data.n x.data.n)
 (.next (⟨x.data,x.a,x.m,x.b,x.i,(aB (Int.fdiv (ly (aB (x.i+x.j))) (2:Int))),x.dA⟩:bA))
 .fail))
 .fail)
 .fail)
 .fail)
 .fail)
 .fail)
 (cond (ay x.data.n x.data.n)
 (.out (av.ai.exit 4) x)
 .fail))
theorem s4 (x:bA):uu (gR x) (gS x)=aE.enc gR gS (cA x):=by
  unfold cA
  try simp only [aE.dc]
  kernel_rfl
def cN:Lp:=⟨103,428,n3,fun vs rs=>dt gR gS (goN cA (nI vs rs)) [av.ai.exit 4],true⟩
theorem eQ:cN.Ok Try.prog:=jX funcs mixed (aw.cons bF aw.nil) (aF.cons dF dj aF.nil) (L:=9) (n:=9) (step:=cA) (ev:=gR) (er:=gS) (pa:=nI) rfl (fun wv wr=>⟨by kernel_rfl,by kernel_rfl⟩) s4 (yp:=(ew.cons dS ew.nil))
theorem eh:cH Try.prog cN.f cN.p=true:=by kernel_rfl
structure b8 where
  data:(Sl aZ)
  a:Int
  m:Int
  b:Int
  i:Int
  k:Int
  dA:Show
instance:Inhabited b8:=⟨⟨default,default,default,default,default,default,default⟩⟩
def gT (x:b8):List KV:=[ij 47 fc x.data,.int .i64 x.a,.int .i64 x.m,.int .i64 x.b,.fn (.func 34) [] [.ptr 0 0],.int .i64 x.i,.int .i64 x.k]
def gU (x:b8):List (List KV):=[lC x.dA]
def nJ (vs:List KV) (rs:List (List KV)):b8:=⟨hZ fD (vs.getD 0 .aq),intOf (vs.getD 1 .aq),intOf (vs.getD 2 .aq),intOf (vs.getD 3 .aq),intOf (vs.getD 5 .aq),intOf (vs.getD 6 .aq),lD (fun k=>(rs.getD 0 []).getD k .aq)⟩
def n4:aD:=⟨[(0,⟨false,[.arr 47]⟩),(1,⟨false,[.k (.int .i64)]⟩),(2,⟨false,[.k (.int .i64)]⟩),(3,⟨false,[.k (.int .i64)]⟩),(4,⟨false,[.ref (.fn (.func 34) [] [.ptr 0 0])]⟩),(10,⟨false,[.k (.int .i64)]⟩),(13,⟨false,[.k (.int .i64)]⟩)],[(100004,[.k (.slice 45),.k (.slice 108)],1)],[]⟩
def uv:=nQ Try.prog (cR Try.prog [(35,b6)] [cw,cN] (fun q=>Nat.beq q 47) false false [dB]) 9 9 103 698 (fh Try.prog 103 698) n4
def cB (x:b8):aE b8:=
 (cond (decide (x.k < (aB (x.i - (1:Int)))))
 (cond ((decide ((0:Int)≤(aB (x.k+(1:Int))))) && (decide ((aB (x.k+(1:Int))) < ((x.data.n:Nat):Int))))
 (cond ((decide ((0:Int)≤x.k)) && (decide (x.k < ((x.data.n:Nat):Int))))
 (cond ((decide ((0:Int)≤x.k)) && (decide (x.k < ((x.data.n:Nat):Int))))
 (cond ((decide ((0:Int)≤(aB (x.k+(1:Int))))) && (decide ((aB (x.k+(1:Int))) < ((x.data.n:Nat):Int))))
 (cond (ay x.data.n x.data.n)
 (.next (⟨((x.data.set (0+(Int.toNat x.k)) (x.data.get (0+(Int.toNat (aB (x.k+(1:Int))))))).set (0+(Int.toNat (aB (x.k+(1:Int))))) (x.data.get (0+(Int.toNat x.k)))),x.a,x.m,x.b,x.i,(aB (x.k+(1:Int))),x.dA⟩:b8))
 .fail)
 .fail)
 .fail)
 .fail)
 .fail)
 (cond (ay x.data.n x.data.n)
 (.out (av.ai.exit 2) x)
 .fail))
theorem s5 (x:b8):uv (gT x) (gU x)=aE.enc gT gU (cB x):=by
  unfold cB
  try simp only [aE.dc,HG,HF]
  kernel_rfl
def dg:Lp:=⟨103,698,n4,fun vs rs=>dt gT gU (goN cB (nJ vs rs)) [av.ai.exit 2],true⟩
theorem gV:dg.Ok Try.prog:=jX funcs mixed (aw.cons bF aw.nil) (aF.cons dF dj (aF.cons eQ eh aF.nil)) (L:=9) (n:=9) (step:=cB) (ev:=gT) (er:=gU) (pa:=nJ) rfl (fun wv wr=>⟨by kernel_rfl,by kernel_rfl⟩) s5 (yp:=(ew.cons dS ew.nil))
theorem fH:cH Try.prog dg.f dg.p=true:=by kernel_rfl
structure aH where
  data:(Sl aZ)
  a:Int
  m:Int
  b:Int
  bS:Int
  n:Int
  start:Int
  r:Int
  p:Int
  dA:Show
instance:Inhabited aH:=⟨⟨default,default,default,default,default,default,default,default,default,default⟩⟩
def gA (x:aH):List KV:=[ij 47 fc x.data,.int .i64 x.a,.int .i64 x.m,.int .i64 x.b,.fn (.func 34) [] [.ptr 0 0],.int .i64 x.bS,.int .i64 x.n,.int .i64 x.start,.int .i64 x.r,.int .i64 x.p]
def gC (x:aH):List (List KV):=[lC x.dA]
def np (vs:List KV) (rs:List (List KV)):aH:=⟨hZ fD (vs.getD 0 .aq),intOf (vs.getD 1 .aq),intOf (vs.getD 2 .aq),intOf (vs.getD 3 .aq),intOf (vs.getD 5 .aq),intOf (vs.getD 6 .aq),intOf (vs.getD 7 .aq),intOf (vs.getD 8 .aq),intOf (vs.getD 9 .aq),lD (fun k=>(rs.getD 0 []).getD k .aq)⟩
def nK:aD:=⟨[(0,⟨false,[.arr 47]⟩),(1,⟨false,[.k (.int .i64)]⟩),(2,⟨false,[.k (.int .i64)]⟩),(3,⟨false,[.k (.int .i64)]⟩),(4,⟨false,[.ref (.fn (.func 34) [] [.ptr 0 0])]⟩),(18,⟨false,[.k (.int .i64)]⟩),(19,⟨false,[.k (.int .i64)]⟩),(20,⟨false,[.k (.int .i64)]⟩),(21,⟨false,[.k (.int .i64)]⟩),(22,⟨false,[.k (.int .i64)]⟩)],[(100004,[.k (.slice 45),.k (.slice 108)],1)],[]⟩
def tB:=nQ Try.prog (cR Try.prog [(35,b6)] [cw,cN,dg] (fun q=>Nat.beq q 47) false false [dB]) 9 9 103 1020 (fh Try.prog 103 1020) nK
def fX (x:aH):(Option Int):=(iv (x.dA.items.get (Int.toNat (x.data.get (0+(Int.toNat (aB (x.p - (aB (Int.fdiv (ly (aB (x.start+x.r))) (2:Int)))))))).item)).look.bin (x.dA.items.get (Int.toNat (x.data.get (0+(Int.toNat (aB (Int.fdiv (ly (aB (x.start+x.r))) (2:Int)))))).item)).look.bin)
def bW (x:aH):aE aH:=
 (cond (decide (x.start < x.r))
 (cond ((decide ((0:Int)≤(aB (x.p - (aB (Int.fdiv (ly (aB (x.start+x.r))) (2:Int))))))) && (decide ((aB (x.p - (aB (Int.fdiv (ly (aB (x.start+x.r))) (2:Int))))) < ((x.data.n:Nat):Int))))
 (cond ((decide ((0:Int)≤(aB (Int.fdiv (ly (aB (x.start+x.r))) (2:Int))))) && (decide ((aB (Int.fdiv (ly (aB (x.start+x.r))) (2:Int))) < ((x.data.n:Nat):Int))))
 (cond ((decide ((0:Int)≤(x.data.get (0+(Int.toNat (aB (x.p - (aB (Int.fdiv (ly (aB (x.start+x.r))) (2:Int)))))))).item)) && (decide ((x.data.get (0+(Int.toNat (aB (x.p - (aB (Int.fdiv (ly (aB (x.start+x.r))) (2:Int)))))))).item < ((x.dA.items.n:Nat):Int))))
 (cond ((decide ((0:Int)≤(x.data.get (0+(Int.toNat (aB (Int.fdiv (ly (aB (x.start+x.r))) (2:Int)))))).item)) && (decide ((x.data.get (0+(Int.toNat (aB (Int.fdiv (ly (aB (x.start+x.r))) (2:Int)))))).item < ((x.dA.items.n:Nat):Int))))
 (cond (fX x).isSome
 (cond (!(decide (((fX x).getD default) < (0:Int))))
 (cond (ay x.data.n x.data.n)
 (.next (⟨x.data,x.a,x.m,x.b,x.bS,x.n,(aB ((aB (Int.fdiv (ly (aB (x.start+x.r))) (2:Int)))+(1:Int))),x.r,x.p,x.dA⟩:aH))
 .fail)
 (cond (ay x.data.n x.data.n)
 (.next (⟨x.data,x.a,x.m,x.b,x.bS,x.n,x.start,(aB (Int.fdiv (ly (aB (x.start+x.r))) (2:Int))),x.p,x.dA⟩:aH))
 .fail))
 .fail)
 .fail)
 .fail)
 .fail)
 .fail)
 (cond (ay x.data.n x.data.n)
 (.out (av.ai.exit 8) x)
 .fail))
theorem sI (x:aH):tB (gA x) (gC x)=aE.enc gA gC (bW x):=by
  unfold bW
  try simp only [aE.dc]
  kernel_rfl
def dG:Lp:=⟨103,1020,nK,fun vs rs=>dt gA gC (goN bW (np vs rs)) [av.ai.exit 8],true⟩
theorem jR:dG.Ok Try.prog:=jX funcs mixed (aw.cons bF aw.nil) (aF.cons dF dj (aF.cons eQ eh (aF.cons gV fH aF.nil))) (L:=9) (n:=9) (step:=bW) (ev:=gA) (er:=gC) (pa:=np) rfl (fun wv wr=>⟨by kernel_rfl,by kernel_rfl⟩) sI (yp:=(ew.cons dS ew.nil))
theorem iX:cH Try.prog dG.f dG.p=true:=by kernel_rfl
structure bT where
  data:(Sl aZ)
  a:Int
  m:Int
  b:Int
  i:Int
  k:Int
  dA:Show
instance:Inhabited bT:=⟨⟨default,default,default,default,default,default,default⟩⟩
def gD (x:bT):List KV:=[ij 47 fc x.data,.int .i64 x.a,.int .i64 x.m,.int .i64 x.b,.fn (.func 34) [] [.ptr 0 0],.int .i64 x.i,.int .i64 x.k]
def gE (x:bT):List (List KV):=[lC x.dA]
def nq (vs:List KV) (rs:List (List KV)):bT:=⟨hZ fD (vs.getD 0 .aq),intOf (vs.getD 1 .aq),intOf (vs.getD 2 .aq),intOf (vs.getD 3 .aq),intOf (vs.getD 5 .aq),intOf (vs.getD 6 .aq),lD (fun k=>(rs.getD 0 []).getD k .aq)⟩
def nL:aD:=⟨[(0,⟨false,[.arr 47]⟩),(1,⟨false,[.k (.int .i64)]⟩),(2,⟨false,[.k (.int .i64)]⟩),(3,⟨false,[.k (.int .i64)]⟩),(4,⟨false,[.ref (.fn (.func 34) [] [.ptr 0 0])]⟩),(14,⟨false,[.k (.int .i64)]⟩),(17,⟨false,[.k (.int .i64)]⟩)],[(100004,[.k (.slice 45),.k (.slice 108)],1)],[]⟩
def tC:=nQ Try.prog (cR Try.prog [(35,b6)] [cw,cN,dg,dG] (fun q=>Nat.beq q 47) false false [dB]) 9 9 103 1722 (fh Try.prog 103 1722) nL
def cu (x:bT):aE bT:=
 (cond (decide (x.k > x.i))
 (cond ((decide ((0:Int)≤(aB (x.k - (1:Int))))) && (decide ((aB (x.k - (1:Int))) < ((x.data.n:Nat):Int))))
 (cond ((decide ((0:Int)≤x.k)) && (decide (x.k < ((x.data.n:Nat):Int))))
 (cond ((decide ((0:Int)≤x.k)) && (decide (x.k < ((x.data.n:Nat):Int))))
 (cond ((decide ((0:Int)≤(aB (x.k - (1:Int))))) && (decide ((aB (x.k - (1:Int))) < ((x.data.n:Nat):Int))))
 (cond (ay x.data.n x.data.n)
 (.next (⟨((x.data.set (0+(Int.toNat x.k)) (x.data.get (0+(Int.toNat (aB (x.k - (1:Int))))))).set (0+(Int.toNat (aB (x.k - (1:Int))))) (x.data.get (0+(Int.toNat x.k)))),x.a,x.m,x.b,x.i,(aB (x.k - (1:Int))),x.dA⟩:bT))
 .fail)
 .fail)
 .fail)
 .fail)
 .fail)
 (cond (ay x.data.n x.data.n)
 (.out (av.ai.exit 6) x)
 .fail))
theorem sJ (x:bT):tC (gD x) (gE x)=aE.enc gD gE (cu x):=by
  unfold cu
  try simp only [aE.dc,HG,HF]
  kernel_rfl
def eR:Lp:=⟨103,1722,nL,fun vs rs=>dt gD gE (goN cu (nq vs rs)) [av.ai.exit 6],true⟩
theorem ns:eR.Ok Try.prog:=jX funcs mixed (aw.cons bF aw.nil) (aF.cons dF dj (aF.cons eQ eh (aF.cons gV fH (aF.cons jR iX aF.nil)))) (L:=9) (n:=9) (step:=cu) (ev:=gD) (er:=gE) (pa:=nq) rfl (fun wv wr=>⟨by kernel_rfl,by kernel_rfl⟩) sJ (yp:=(ew.cons dS ew.nil))
theorem mm:cH Try.prog eR.f eR.p=true:=by kernel_rfl
def w6 (rc:ah→aE ah):=BC Try.prog (cR Try.prog [(35,b6)] [cw,cN,dg,dG,eR] (fun q=>Nat.beq q 47) false false ((⟨103,ml,fun vs rs=>dt gg gh (rc (lU vs rs)) [av.ai.ret]⟩:Fc) :: [dB])) 9 9 103 ml
def bX (rc:ah→aE ah) (x:ah):(aE bz):=(goN cz (⟨x.data,x.a,x.m,x.b,x.m,x.b,x.held⟩:bz))
def cn (rc:ah→aE ah) (x:ah):(aE b8):=(goN cB (⟨(bX rc x).st.data,(bX rc x).st.a,(bX rc x).st.m,(bX rc x).st.b,(bX rc x).st.i,(bX rc x).st.a,(bX rc x).st.dA⟩:b8))
def bZ (rc:ah→aE ah) (x:ah):(aE bA):=(goN cA (⟨x.data,x.a,x.m,x.b,x.a,x.m,x.held⟩:bA))
def cp (rc:ah→aE ah) (x:ah):(aE bT):=(goN cu (⟨(bZ rc x).st.data,(bZ rc x).st.a,(bZ rc x).st.m,(bZ rc x).st.b,(bZ rc x).st.i,(bZ rc x).st.m,(bZ rc x).st.dA⟩:bT))
def ae (rc:ah→aE ah) (x:ah):(aE aH):=(goN bW (⟨x.data,x.a,x.m,x.b,(aB (Int.fdiv (ly (aB (x.a+x.b))) (2:Int))),(aB ((aB (Int.fdiv (ly (aB (x.a+x.b))) (2:Int)))+x.m)),(aB ((aB ((aB (Int.fdiv (ly (aB (x.a+x.b))) (2:Int)))+x.m)) - x.b)),(aB (Int.fdiv (ly (aB (x.a+x.b))) (2:Int))),(aB ((aB ((aB (Int.fdiv (ly (aB (x.a+x.b))) (2:Int)))+x.m)) - (1:Int))),x.held⟩:aH))
def aC (rc:ah→aE ah) (x:ah):(aE bk):=(df (⟨(ae rc x).st.data,(ae rc x).st.start,(ae rc x).st.m,(aB ((ae rc x).st.n - (ae rc x).st.start)),(ae rc x).st.dA⟩:bk))
def cq (rc:ah→aE ah) (x:ah):(aE ah):=(rc (⟨(aC rc x).st.data,(ae rc x).st.a,(ae rc x).st.start,(ae rc x).st.bS,(aC rc x).st.held⟩:ah))
def iM (rc:ah→aE ah) (x:ah):(aE ah):=(rc (⟨(cq rc x).st.data,(ae rc x).st.bS,(aB ((ae rc x).st.n - (ae rc x).st.start)),(ae rc x).st.b,(cq rc x).st.held⟩:ah))
def c9 (rc:ah→aE ah) (x:ah):(aE ah):=(rc (⟨(aC rc x).st.data,(ae rc x).st.bS,(aB ((ae rc x).st.n - (ae rc x).st.start)),(ae rc x).st.b,(aC rc x).st.held⟩:ah))
def aO (rc:ah→aE ah) (x:ah):(aE ah):=(rc (⟨(ae rc x).st.data,(ae rc x).st.a,(ae rc x).st.start,(ae rc x).st.bS,(ae rc x).st.dA⟩:ah))
def cT (rc:ah→aE ah) (x:ah):(aE ah):=(rc (⟨(aO rc x).st.data,(ae rc x).st.bS,(aB ((ae rc x).st.n - (ae rc x).st.start)),(ae rc x).st.b,(aO rc x).st.held⟩:ah))
def aU (rc:ah→aE ah) (x:ah):(aE ah):=(rc (⟨(ae rc x).st.data,(ae rc x).st.bS,(aB ((ae rc x).st.n - (ae rc x).st.start)),(ae rc x).st.b,(ae rc x).st.dA⟩:ah))
def aa (rc:ah→aE ah) (x:ah):(aE aH):=(goN bW (⟨x.data,x.a,x.m,x.b,(aB (Int.fdiv (ly (aB (x.a+x.b))) (2:Int))),(aB ((aB (Int.fdiv (ly (aB (x.a+x.b))) (2:Int)))+x.m)),x.a,x.m,(aB ((aB ((aB (Int.fdiv (ly (aB (x.a+x.b))) (2:Int)))+x.m)) - (1:Int))),x.held⟩:aH))
def aA (rc:ah→aE ah) (x:ah):(aE bk):=(df (⟨(aa rc x).st.data,(aa rc x).st.start,(aa rc x).st.m,(aB ((aa rc x).st.n - (aa rc x).st.start)),(aa rc x).st.dA⟩:bk))
def cj (rc:ah→aE ah) (x:ah):(aE ah):=(rc (⟨(aA rc x).st.data,(aa rc x).st.a,(aa rc x).st.start,(aa rc x).st.bS,(aA rc x).st.held⟩:ah))
def iy (rc:ah→aE ah) (x:ah):(aE ah):=(rc (⟨(cj rc x).st.data,(aa rc x).st.bS,(aB ((aa rc x).st.n - (aa rc x).st.start)),(aa rc x).st.b,(cj rc x).st.held⟩:ah))
def cU (rc:ah→aE ah) (x:ah):(aE ah):=(rc (⟨(aA rc x).st.data,(aa rc x).st.bS,(aB ((aa rc x).st.n - (aa rc x).st.start)),(aa rc x).st.b,(aA rc x).st.held⟩:ah))
def aJ (rc:ah→aE ah) (x:ah):(aE ah):=(rc (⟨(aa rc x).st.data,(aa rc x).st.a,(aa rc x).st.start,(aa rc x).st.bS,(aa rc x).st.dA⟩:ah))
def cV (rc:ah→aE ah) (x:ah):(aE ah):=(rc (⟨(aJ rc x).st.data,(aa rc x).st.bS,(aB ((aa rc x).st.n - (aa rc x).st.start)),(aa rc x).st.b,(aJ rc x).st.held⟩:ah))
def aV (rc:ah→aE ah) (x:ah):(aE ah):=(rc (⟨(aa rc x).st.data,(aa rc x).st.bS,(aB ((aa rc x).st.n - (aa rc x).st.start)),(aa rc x).st.b,(aa rc x).st.dA⟩:ah))
def cW (rc:ah→aE ah) (x:ah):aE ah:=
 (cond ((aB (x.m - x.a)) == (1:Int))
 (cond (ay x.data.n x.data.n)
 (cond ((bX rc x).by (av.ai.exit 0))
 (cond (ay (bX rc x).st.data.n (bX rc x).st.data.n)
 (cond ((cn rc x).by (av.ai.exit 2))
 (cond (ay (cn rc x).st.data.n (cn rc x).st.data.n)
 (.out av.ai.ret (⟨(cn rc x).st.data,(cn rc x).st.a,(cn rc x).st.m,(cn rc x).st.b,(cn rc x).st.dA⟩:ah))
 .fail)
 .fail)
 .fail)
 .fail)
 .fail)
 (cond ((aB (x.b - x.m)) == (1:Int))
 (cond (ay x.data.n x.data.n)
 (cond ((bZ rc x).by (av.ai.exit 4))
 (cond (ay (bZ rc x).st.data.n (bZ rc x).st.data.n)
 (cond ((cp rc x).by (av.ai.exit 6))
 (cond (ay (cp rc x).st.data.n (cp rc x).st.data.n)
 (.out av.ai.ret (⟨(cp rc x).st.data,(cp rc x).st.a,(cp rc x).st.m,(cp rc x).st.b,(cp rc x).st.dA⟩:ah))
 .fail)
 .fail)
 .fail)
 .fail)
 .fail)
 (cond (decide (x.m > (aB (Int.fdiv (ly (aB (x.a+x.b))) (2:Int)))))
 (cond (ay x.data.n x.data.n)
 (cond ((ae rc x).by (av.ai.exit 8))
 (cond (decide ((ae rc x).st.start < (ae rc x).st.m))
 (cond (decide ((ae rc x).st.m < (aB ((ae rc x).st.n - (ae rc x).st.start))))
 (cond (ay (ae rc x).st.data.n (ae rc x).st.data.n)
 (cond ((aC rc x).by av.ai.ret)
 (cond (decide ((ae rc x).st.a < (ae rc x).st.start))
 (cond (decide ((ae rc x).st.start < (ae rc x).st.bS))
 (cond (ay (aC rc x).st.data.n (ae rc x).st.data.n)
 (cond ((cq rc x).by av.ai.ret)
 (cond (decide ((ae rc x).st.bS < (aB ((ae rc x).st.n - (ae rc x).st.start))))
 (cond (decide ((aB ((ae rc x).st.n - (ae rc x).st.start)) < (ae rc x).st.b))
 (cond (ay (cq rc x).st.data.n (ae rc x).st.data.n)
 (cond ((iM rc x).by av.ai.ret)
 (cond (ay (iM rc x).st.data.n (ae rc x).st.data.n)
 (.out av.ai.ret (⟨(iM rc x).st.data,(ae rc x).st.a,(ae rc x).st.m,(ae rc x).st.b,(iM rc x).st.held⟩:ah))
 .fail)
 .fail)
 .fail)
 (cond (ay (cq rc x).st.data.n (ae rc x).st.data.n)
 (.out av.ai.ret (⟨(cq rc x).st.data,(ae rc x).st.a,(ae rc x).st.m,(ae rc x).st.b,(cq rc x).st.held⟩:ah))
 .fail))
 (cond (ay (cq rc x).st.data.n (ae rc x).st.data.n)
 (.out av.ai.ret (⟨(cq rc x).st.data,(ae rc x).st.a,(ae rc x).st.m,(ae rc x).st.b,(cq rc x).st.held⟩:ah))
 .fail))
 .fail)
 .fail)
 (cond (decide ((ae rc x).st.bS < (aB ((ae rc x).st.n - (ae rc x).st.start))))
 (cond (decide ((aB ((ae rc x).st.n - (ae rc x).st.start)) < (ae rc x).st.b))
 (cond (ay (aC rc x).st.data.n (ae rc x).st.data.n)
 (cond ((c9 rc x).by av.ai.ret)
 (cond (ay (c9 rc x).st.data.n (ae rc x).st.data.n)
 (.out av.ai.ret (⟨(c9 rc x).st.data,(ae rc x).st.a,(ae rc x).st.m,(ae rc x).st.b,(c9 rc x).st.held⟩:ah))
 .fail)
 .fail)
 .fail)
 (cond (ay (aC rc x).st.data.n (ae rc x).st.data.n)
 (.out av.ai.ret (⟨(aC rc x).st.data,(ae rc x).st.a,(ae rc x).st.m,(ae rc x).st.b,(aC rc x).st.held⟩:ah))
 .fail))
 (cond (ay (aC rc x).st.data.n (ae rc x).st.data.n)
 (.out av.ai.ret (⟨(aC rc x).st.data,(ae rc x).st.a,(ae rc x).st.m,(ae rc x).st.b,(aC rc x).st.held⟩:ah))
 .fail)))
 (cond (decide ((ae rc x).st.bS < (aB ((ae rc x).st.n - (ae rc x).st.start))))
 (cond (decide ((aB ((ae rc x).st.n - (ae rc x).st.start)) < (ae rc x).st.b))
 (cond (ay (aC rc x).st.data.n (ae rc x).st.data.n)
 (cond ((c9 rc x).by av.ai.ret)
 (cond (ay (c9 rc x).st.data.n (ae rc x).st.data.n)
 (.out av.ai.ret (⟨(c9 rc x).st.data,(ae rc x).st.a,(ae rc x).st.m,(ae rc x).st.b,(c9 rc x).st.held⟩:ah))
 .fail)
 .fail)
 .fail)
 (cond (ay (aC rc x).st.data.n (ae rc x).st.data.n)
 (.out av.ai.ret (⟨(aC rc x).st.data,(ae rc x).st.a,(ae rc x).st.m,(ae rc x).st.b,(aC rc x).st.held⟩:ah))
 .fail))
 (cond (ay (aC rc x).st.data.n (ae rc x).st.data.n)
 (.out av.ai.ret (⟨(aC rc x).st.data,(ae rc x).st.a,(ae rc x).st.m,(ae rc x).st.b,(aC rc x).st.held⟩:ah))
 .fail)))
 .fail)
 .fail)
 (cond (decide ((ae rc x).st.a < (ae rc x).st.start))
 (cond (decide ((ae rc x).st.start < (ae rc x).st.bS))
 (cond (ay (ae rc x).st.data.n (ae rc x).st.data.n)
 (cond ((aO rc x).by av.ai.ret)
 (cond (decide ((ae rc x).st.bS < (aB ((ae rc x).st.n - (ae rc x).st.start))))
 (cond (decide ((aB ((ae rc x).st.n - (ae rc x).st.start)) < (ae rc x).st.b))
 (cond (ay (aO rc x).st.data.n (ae rc x).st.data.n)
 (cond ((cT rc x).by av.ai.ret)
 (cond (ay (cT rc x).st.data.n (ae rc x).st.data.n)
 (.out av.ai.ret (⟨(cT rc x).st.data,(ae rc x).st.a,(ae rc x).st.m,(ae rc x).st.b,(cT rc x).st.held⟩:ah))
 .fail)
 .fail)
 .fail)
 (cond (ay (aO rc x).st.data.n (ae rc x).st.data.n)
 (.out av.ai.ret (⟨(aO rc x).st.data,(ae rc x).st.a,(ae rc x).st.m,(ae rc x).st.b,(aO rc x).st.held⟩:ah))
 .fail))
 (cond (ay (aO rc x).st.data.n (ae rc x).st.data.n)
 (.out av.ai.ret (⟨(aO rc x).st.data,(ae rc x).st.a,(ae rc x).st.m,(ae rc x).st.b,(aO rc x).st.held⟩:ah))
 .fail))
 .fail)
 .fail)
 (cond (decide ((ae rc x).st.bS < (aB ((ae rc x).st.n - (ae rc x).st.start))))
 (cond (decide ((aB ((ae rc x).st.n - (ae rc x).st.start)) < (ae rc x).st.b))
 (cond (ay (ae rc x).st.data.n (ae rc x).st.data.n)
 (cond ((aU rc x).by av.ai.ret)
 (cond (ay (aU rc x).st.data.n (ae rc x).st.data.n)
 (.out av.ai.ret (⟨(aU rc x).st.data,(ae rc x).st.a,(ae rc x).st.m,(ae rc x).st.b,(aU rc x).st.held⟩:ah))
 .fail)
 .fail)
 .fail)
 (cond (ay (ae rc x).st.data.n (ae rc x).st.data.n)
 (.out av.ai.ret (⟨(ae rc x).st.data,(ae rc x).st.a,(ae rc x).st.m,(ae rc x).st.b,(ae rc x).st.dA⟩:ah))
 .fail))
 (cond (ay (ae rc x).st.data.n (ae rc x).st.data.n)
 (.out av.ai.ret (⟨(ae rc x).st.data,(ae rc x).st.a,(ae rc x).st.m,(ae rc x).st.b,(ae rc x).st.dA⟩:ah))
 .fail)))
 (cond (decide ((ae rc x).st.bS < (aB ((ae rc x).st.n - (ae rc x).st.start))))
 (cond (decide ((aB ((ae rc x).st.n - (ae rc x).st.start)) < (ae rc x).st.b))
 (cond (ay (ae rc x).st.data.n (ae rc x).st.data.n)
 (cond ((aU rc x).by av.ai.ret)
 (cond (ay (aU rc x).st.data.n (ae rc x).st.data.n)
 (.out av.ai.ret (⟨(aU rc x).st.data,(ae rc x).st.a,(ae rc x).st.m,(ae rc x).st.b,(aU rc x).st.held⟩:ah))
 .fail)
 .fail)
 .fail)
 (cond (ay (ae rc x).st.data.n (ae rc x).st.data.n)
 (.out av.ai.ret (⟨(ae rc x).st.data,(ae rc x).st.a,(ae rc x).st.m,(ae rc x).st.b,(ae rc x).st.dA⟩:ah))
 .fail))
 (cond (ay (ae rc x).st.data.n (ae rc x).st.data.n)
 (.out av.ai.ret (⟨(ae rc x).st.data,(ae rc x).st.a,(ae rc x).st.m,(ae rc x).st.b,(ae rc x).st.dA⟩:ah))
 .fail))))
 (cond (decide ((ae rc x).st.a < (ae rc x).st.start))
 (cond (decide ((ae rc x).st.start < (ae rc x).st.bS))
 (cond (ay (ae rc x).st.data.n (ae rc x).st.data.n)
 (cond ((aO rc x).by av.ai.ret)
 (cond (decide ((ae rc x).st.bS < (aB ((ae rc x).st.n - (ae rc x).st.start))))
 (cond (decide ((aB ((ae rc x).st.n - (ae rc x).st.start)) < (ae rc x).st.b))
 (cond (ay (aO rc x).st.data.n (ae rc x).st.data.n)
 (cond ((cT rc x).by av.ai.ret)
 (cond (ay (cT rc x).st.data.n (ae rc x).st.data.n)
 (.out av.ai.ret (⟨(cT rc x).st.data,(ae rc x).st.a,(ae rc x).st.m,(ae rc x).st.b,(cT rc x).st.held⟩:ah))
 .fail)
 .fail)
 .fail)
 (cond (ay (aO rc x).st.data.n (ae rc x).st.data.n)
 (.out av.ai.ret (⟨(aO rc x).st.data,(ae rc x).st.a,(ae rc x).st.m,(ae rc x).st.b,(aO rc x).st.held⟩:ah))
 .fail))
 (cond (ay (aO rc x).st.data.n (ae rc x).st.data.n)
 (.out av.ai.ret (⟨(aO rc x).st.data,(ae rc x).st.a,(ae rc x).st.m,(ae rc x).st.b,(aO rc x).st.held⟩:ah))
 .fail))
 .fail)
 .fail)
 (cond (decide ((ae rc x).st.bS < (aB ((ae rc x).st.n - (ae rc x).st.start))))
 (cond (decide ((aB ((ae rc x).st.n - (ae rc x).st.start)) < (ae rc x).st.b))
 (cond (ay (ae rc x).st.data.n (ae rc x).st.data.n)
 (cond ((aU rc x).by av.ai.ret)
 (cond (ay (aU rc x).st.data.n (ae rc x).st.data.n)
 (.out av.ai.ret (⟨(aU rc x).st.data,(ae rc x).st.a,(ae rc x).st.m,(ae rc x).st.b,(aU rc x).st.held⟩:ah))
 .fail)
 .fail)
 .fail)
 (cond (ay (ae rc x).st.data.n (ae rc x).st.data.n)
 (.out av.ai.ret (⟨(ae rc x).st.data,(ae rc x).st.a,(ae rc x).st.m,(ae rc x).st.b,(ae rc x).st.dA⟩:ah))
 .fail))
 (cond (ay (ae rc x).st.data.n (ae rc x).st.data.n)
 (.out av.ai.ret (⟨(ae rc x).st.data,(ae rc x).st.a,(ae rc x).st.m,(ae rc x).st.b,(ae rc x).st.dA⟩:ah))
 .fail)))
 (cond (decide ((ae rc x).st.bS < (aB ((ae rc x).st.n - (ae rc x).st.start))))
 (cond (decide ((aB ((ae rc x).st.n - (ae rc x).st.start)) < (ae rc x).st.b))
 (cond (ay (ae rc x).st.data.n (ae rc x).st.data.n)
 (cond ((aU rc x).by av.ai.ret)
 (cond (ay (aU rc x).st.data.n (ae rc x).st.data.n)
 (.out av.ai.ret (⟨(aU rc x).st.data,(ae rc x).st.a,(ae rc x).st.m,(ae rc x).st.b,(aU rc x).st.held⟩:ah))
 .fail)
 .fail)
 .fail)
 (cond (ay (ae rc x).st.data.n (ae rc x).st.data.n)
 (.out av.ai.ret (⟨(ae rc x).st.data,(ae rc x).st.a,(ae rc x).st.m,(ae rc x).st.b,(ae rc x).st.dA⟩:ah))
 .fail))
 (cond (ay (ae rc x).st.data.n (ae rc x).st.data.n)
 (.out av.ai.ret (⟨(ae rc x).st.data,(ae rc x).st.a,(ae rc x).st.m,(ae rc x).st.b,(ae rc x).st.dA⟩:ah))
 .fail))))
 .fail)
 .fail)
 (cond (ay x.data.n x.data.n)
 (cond ((aa rc x).by (av.ai.exit 8))
 (cond (decide ((aa rc x).st.start < (aa rc x).st.m))
 (cond (decide ((aa rc x).st.m < (aB ((aa rc x).st.n - (aa rc x).st.start))))
 (cond (ay (aa rc x).st.data.n (aa rc x).st.data.n)
 (cond ((aA rc x).by av.ai.ret)
 (cond (decide ((aa rc x).st.a < (aa rc x).st.start))
 (cond (decide ((aa rc x).st.start < (aa rc x).st.bS))
 (cond (ay (aA rc x).st.data.n (aa rc x).st.data.n)
 (cond ((cj rc x).by av.ai.ret)
 (cond (decide ((aa rc x).st.bS < (aB ((aa rc x).st.n - (aa rc x).st.start))))
 (cond (decide ((aB ((aa rc x).st.n - (aa rc x).st.start)) < (aa rc x).st.b))
 (cond (ay (cj rc x).st.data.n (aa rc x).st.data.n)
 (cond ((iy rc x).by av.ai.ret)
 (cond (ay (iy rc x).st.data.n (aa rc x).st.data.n)
 (.out av.ai.ret (⟨(iy rc x).st.data,(aa rc x).st.a,(aa rc x).st.m,(aa rc x).st.b,(iy rc x).st.held⟩:ah))
 .fail)
 .fail)
 .fail)
 (cond (ay (cj rc x).st.data.n (aa rc x).st.data.n)
 (.out av.ai.ret (⟨(cj rc x).st.data,(aa rc x).st.a,(aa rc x).st.m,(aa rc x).st.b,(cj rc x).st.held⟩:ah))
 .fail))
 (cond (ay (cj rc x).st.data.n (aa rc x).st.data.n)
 (.out av.ai.ret (⟨(cj rc x).st.data,(aa rc x).st.a,(aa rc x).st.m,(aa rc x).st.b,(cj rc x).st.held⟩:ah))
 .fail))
 .fail)
 .fail)
 (cond (decide ((aa rc x).st.bS < (aB ((aa rc x).st.n - (aa rc x).st.start))))
 (cond (decide ((aB ((aa rc x).st.n - (aa rc x).st.start)) < (aa rc x).st.b))
 (cond (ay (aA rc x).st.data.n (aa rc x).st.data.n)
 (cond ((cU rc x).by av.ai.ret)
 (cond (ay (cU rc x).st.data.n (aa rc x).st.data.n)
 (.out av.ai.ret (⟨(cU rc x).st.data,(aa rc x).st.a,(aa rc x).st.m,(aa rc x).st.b,(cU rc x).st.held⟩:ah))
 .fail)
 .fail)
 .fail)
 (cond (ay (aA rc x).st.data.n (aa rc x).st.data.n)
 (.out av.ai.ret (⟨(aA rc x).st.data,(aa rc x).st.a,(aa rc x).st.m,(aa rc x).st.b,(aA rc x).st.held⟩:ah))
 .fail))
 (cond (ay (aA rc x).st.data.n (aa rc x).st.data.n)
 (.out av.ai.ret (⟨(aA rc x).st.data,(aa rc x).st.a,(aa rc x).st.m,(aa rc x).st.b,(aA rc x).st.held⟩:ah))
 .fail)))
 (cond (decide ((aa rc x).st.bS < (aB ((aa rc x).st.n - (aa rc x).st.start))))
 (cond (decide ((aB ((aa rc x).st.n - (aa rc x).st.start)) < (aa rc x).st.b))
 (cond (ay (aA rc x).st.data.n (aa rc x).st.data.n)
 (cond ((cU rc x).by av.ai.ret)
 (cond (ay (cU rc x).st.data.n (aa rc x).st.data.n)
 (.out av.ai.ret (⟨(cU rc x).st.data,(aa rc x).st.a,(aa rc x).st.m,(aa rc x).st.b,(cU rc x).st.held⟩:ah))
 .fail)
 .fail)
 .fail)
 (cond (ay (aA rc x).st.data.n (aa rc x).st.data.n)
 (.out av.ai.ret (⟨(aA rc x).st.data,(aa rc x).st.a,(aa rc x).st.m,(aa rc x).st.b,(aA rc x).st.held⟩:ah))
 .fail))
 (cond (ay (aA rc x).st.data.n (aa rc x).st.data.n)
 (.out av.ai.ret (⟨(aA rc x).st.data,(aa rc x).st.a,(aa rc x).st.m,(aa rc x).st.b,(aA rc x).st.held⟩:ah))
 .fail)))
 .fail)
 .fail)
 (cond (decide ((aa rc x).st.a < (aa rc x).st.start))
 (cond (decide ((aa rc x).st.start < (aa rc x).st.bS))
 (cond (ay (aa rc x).st.data.n (aa rc x).st.data.n)
 (cond ((aJ rc x).by av.ai.ret)
 (cond (decide ((aa rc x).st.bS < (aB ((aa rc x).st.n - (aa rc x).st.start))))
 (cond (decide ((aB ((aa rc x).st.n - (aa rc x).st.start)) < (aa rc x).st.b))
 (cond (ay (aJ rc x).st.data.n (aa rc x).st.data.n)
 (cond ((cV rc x).by av.ai.ret)
 (cond (ay (cV rc x).st.data.n (aa rc x).st.data.n)
 (.out av.ai.ret (⟨(cV rc x).st.data,(aa rc x).st.a,(aa rc x).st.m,(aa rc x).st.b,(cV rc x).st.held⟩:ah))
 .fail)
 .fail)
 .fail)
 (cond (ay (aJ rc x).st.data.n (aa rc x).st.data.n)
 (.out av.ai.ret (⟨(aJ rc x).st.data,(aa rc x).st.a,(aa rc x).st.m,(aa rc x).st.b,(aJ rc x).st.held⟩:ah))
 .fail))
 (cond (ay (aJ rc x).st.data.n (aa rc x).st.data.n)
 (.out av.ai.ret (⟨(aJ rc x).st.data,(aa rc x).st.a,(aa rc x).st.m,(aa rc x).st.b,(aJ rc x).st.held⟩:ah))
 .fail))
 .fail)
 .fail)
 (cond (decide ((aa rc x).st.bS < (aB ((aa rc x).st.n - (aa rc x).st.start))))
 (cond (decide ((aB ((aa rc x).st.n - (aa rc x).st.start)) < (aa rc x).st.b))
 (cond (ay (aa rc x).st.data.n (aa rc x).st.data.n)
 (cond ((aV rc x).by av.ai.ret)
 (cond (ay (aV rc x).st.data.n (aa rc x).st.data.n)
 (.out av.ai.ret (⟨(aV rc x).st.data,(aa rc x).st.a,(aa rc x).st.m,(aa rc x).st.b,(aV rc x).st.held⟩:ah))
 .fail)
 .fail)
 .fail)
 (cond (ay (aa rc x).st.data.n (aa rc x).st.data.n)
 (.out av.ai.ret (⟨(aa rc x).st.data,(aa rc x).st.a,(aa rc x).st.m,(aa rc x).st.b,(aa rc x).st.dA⟩:ah))
 .fail))
 (cond (ay (aa rc x).st.data.n (aa rc x).st.data.n)
 (.out av.ai.ret (⟨(aa rc x).st.data,(aa rc x).st.a,(aa rc x).st.m,(aa rc x).st.b,(aa rc x).st.dA⟩:ah))
 .fail)))
 (cond (decide ((aa rc x).st.bS < (aB ((aa rc x).st.n - (aa rc x).st.start))))
 (cond (decide ((aB ((aa rc x).st.n - (aa rc x).st.start)) < (aa rc x).st.b))
 (cond (ay (aa rc x).st.data.n (aa rc x).st.data.n)
 (cond ((aV rc x).by av.ai.ret)
 (cond (ay (aV rc x).st.data.n (aa rc x).st.data.n)
 (.out av.ai.ret (⟨(aV rc x).st.data,(aa rc x).st.a,(aa rc x).st.m,(aa rc x).st.b,(aV rc x).st.held⟩:ah))
 .fail)
 .fail)
 .fail)
 (cond (ay (aa rc x).st.data.n (aa rc x).st.data.n)
 (.out av.ai.ret (⟨(aa rc x).st.data,(aa rc x).st.a,(aa rc x).st.m,(aa rc x).st.b,(aa rc x).st.dA⟩:ah))
 .fail))
 (cond (ay (aa rc x).st.data.n (aa rc x).st.data.n)
 (.out av.ai.ret (⟨(aa rc x).st.data,(aa rc x).st.a,(aa rc x).st.m,(aa rc x).st.b,(aa rc x).st.dA⟩:ah))
 .fail))))
 (cond (decide ((aa rc x).st.a < (aa rc x).st.start))
 (cond (decide ((aa rc x).st.start < (aa rc x).st.bS))
 (cond (ay (aa rc x).st.data.n (aa rc x).st.data.n)
 (cond ((aJ rc x).by av.ai.ret)
 (cond (decide ((aa rc x).st.bS < (aB ((aa rc x).st.n - (aa rc x).st.start))))
 (cond (decide ((aB ((aa rc x).st.n - (aa rc x).st.start)) < (aa rc x).st.b))
 (cond (ay (aJ rc x).st.data.n (aa rc x).st.data.n)
 (cond ((cV rc x).by av.ai.ret)
 (cond (ay (cV rc x).st.data.n (aa rc x).st.data.n)
 (.out av.ai.ret (⟨(cV rc x).st.data,(aa rc x).st.a,(aa rc x).st.m,(aa rc x).st.b,(cV rc x).st.held⟩:ah))
 .fail)
 .fail)
 .fail)
 (cond (ay (aJ rc x).st.data.n (aa rc x).st.data.n)
 (.out av.ai.ret (⟨(aJ rc x).st.data,(aa rc x).st.a,(aa rc x).st.m,(aa rc x).st.b,(aJ rc x).st.held⟩:ah))
 .fail))
 (cond (ay (aJ rc x).st.data.n (aa rc x).st.data.n)
 (.out av.ai.ret (⟨(aJ rc x).st.data,(aa rc x).st.a,(aa rc x).st.m,(aa rc x).st.b,(aJ rc x).st.held⟩:ah))
 .fail))
 .fail)
 .fail)
 (cond (decide ((aa rc x).st.bS < (aB ((aa rc x).st.n - (aa rc x).st.start))))
 (cond (decide ((aB ((aa rc x).st.n - (aa rc x).st.start)) < (aa rc x).st.b))
 (cond (ay (aa rc x).st.data.n (aa rc x).st.data.n)
 (cond ((aV rc x).by av.ai.ret)
 (cond (ay (aV rc x).st.data.n (aa rc x).st.data.n)
 (.out av.ai.ret (⟨(aV rc x).st.data,(aa rc x).st.a,(aa rc x).st.m,(aa rc x).st.b,(aV rc x).st.held⟩:ah))
 .fail)
 .fail)
 .fail)
 (cond (ay (aa rc x).st.data.n (aa rc x).st.data.n)
 (.out av.ai.ret (⟨(aa rc x).st.data,(aa rc x).st.a,(aa rc x).st.m,(aa rc x).st.b,(aa rc x).st.dA⟩:ah))
 .fail))
 (cond (ay (aa rc x).st.data.n (aa rc x).st.data.n)
 (.out av.ai.ret (⟨(aa rc x).st.data,(aa rc x).st.a,(aa rc x).st.m,(aa rc x).st.b,(aa rc x).st.dA⟩:ah))
 .fail)))
 (cond (decide ((aa rc x).st.bS < (aB ((aa rc x).st.n - (aa rc x).st.start))))
 (cond (decide ((aB ((aa rc x).st.n - (aa rc x).st.start)) < (aa rc x).st.b))
 (cond (ay (aa rc x).st.data.n (aa rc x).st.data.n)
 (cond ((aV rc x).by av.ai.ret)
 (cond (ay (aV rc x).st.data.n (aa rc x).st.data.n)
 (.out av.ai.ret (⟨(aV rc x).st.data,(aa rc x).st.a,(aa rc x).st.m,(aa rc x).st.b,(aV rc x).st.held⟩:ah))
 .fail)
 .fail)
 .fail)
 (cond (ay (aa rc x).st.data.n (aa rc x).st.data.n)
 (.out av.ai.ret (⟨(aa rc x).st.data,(aa rc x).st.a,(aa rc x).st.m,(aa rc x).st.b,(aa rc x).st.dA⟩:ah))
 .fail))
 (cond (ay (aa rc x).st.data.n (aa rc x).st.data.n)
 (.out av.ai.ret (⟨(aa rc x).st.data,(aa rc x).st.a,(aa rc x).st.m,(aa rc x).st.b,(aa rc x).st.dA⟩:ah))
 .fail))))
 .fail)
 .fail))))
theorem vP (rc:ah→aE ah) (x:ah):w6 rc (gg x) (gh x)=aE.enc gg gh (cW rc x):=by
  unfold cW
  try simp only [aE.dc]
  kernel_rfl
def eW:Nat→ah→aE ah:=fun n=>Nat.rec (fun _=>.fail) (fun _ ih x=>cW ih x) n
def gI (n:Nat):Fc:=⟨103,ml,fun vs rs=>dt gg gh (eW n (lU vs rs)) [av.ai.ret]⟩
theorem fL:∀ n,(gI n).Ok Try.prog
  | 0=>aaf (cfg:=cR Try.prog [(35,b6)] [cw,cN,dg,dG,eR] (fun q=>Nat.beq q 47) false false [dB]) ((aw.cons bF aw.nil):aw Try.prog _).pc (Hy funcs mixed (Hz funcs mixed (ew.cons dS ew.nil)) (aF.cons dF dj (aF.cons eQ eh (aF.cons gV fH (aF.cons jR iX (aF.cons ns mm aF.nil)))))) rfl fun _ _=>rfl
  | n+1=>xV funcs mixed (aw.cons bF aw.nil) (aF.cons dF dj (aF.cons eQ eh (aF.cons gV fH (aF.cons jR iX (aF.cons ns mm aF.nil))))) (L:=9) (n:=9) (step:=eW (n+1)) (ev:=gg) (er:=gh) (pa:=lU) rfl (fun wv wr=>⟨by kernel_rfl,by kernel_rfl⟩) (vP (eW n)) (yp:=(ew.cons (fL n) (ew.cons dS ew.nil)))
structure bK where
  data:(Sl aZ)
  n:Int
  held:Show
instance:Inhabited bK:=⟨⟨default,default,default⟩⟩
def kD (x:bK):List KV:=[ij 47 fc x.data,.int .i64 x.n,.fn (.func 34) [] [.ptr 0 0]]
def kE (x:bK):List (List KV):=[lC x.held]
def rj (vs:List KV) (rs:List (List KV)):bK:=⟨hZ fD (vs.getD 0 .aq),intOf (vs.getD 1 .aq),lD (fun k=>(rs.getD 0 []).getD k .aq)⟩
def rR:aD:=⟨[(0,⟨false,[.arr 47]⟩),(1,⟨false,[.k (.int .i64)]⟩),(2,⟨false,[.ref (.fn (.func 34) [] [.ptr 0 0])]⟩)],[(100002,[.k (.slice 45),.k (.slice 108)],1)],[]⟩
structure cm where
  data:(Sl aZ)
  n:Int
  ik:Int
  a:Int
  b:Int
  EH:Show
instance:Inhabited cm:=⟨⟨default,default,default,default,default,default⟩⟩
def jn (x:cm):List KV:=[ij 47 fc x.data,.int .i64 x.n,.fn (.func 34) [] [.ptr 0 0],.int .i64 x.ik,.int .i64 x.a,.int .i64 x.b]
def jo (x:cm):List (List KV):=[lC x.EH]
def pK (vs:List KV) (rs:List (List KV)):cm:=⟨hZ fD (vs.getD 0 .aq),intOf (vs.getD 1 .aq),intOf (vs.getD 3 .aq),intOf (vs.getD 4 .aq),intOf (vs.getD 5 .aq),lD (fun k=>(rs.getD 0 []).getD k .aq)⟩
def pU:aD:=⟨[(0,⟨false,[.arr 47]⟩),(1,⟨false,[.k (.int .i64)]⟩),(2,⟨false,[.ref (.fn (.func 34) [] [.ptr 0 0])]⟩),(6,⟨false,[.k (.int .i64)]⟩),(7,⟨false,[.k (.int .i64)]⟩),(8,⟨false,[.k (.int .i64)]⟩)],[(100002,[.k (.slice 45),.k (.slice 108)],1)],[]⟩
def w7:=nQ Try.prog (cR Try.prog [(35,b6)] [] (fun q=>Nat.beq q 47) false false [eP,(gI Gs)]) 9 9 70 28 (fh Try.prog 70 28) pU
def fM (x:cm):(aE aR):=(dE (⟨x.data,x.a,x.b,x.EH⟩:aR))
def cX (x:cm):aE cm:=
 (cond (decide (x.b≤x.n))
 (cond (ay x.data.n x.data.n)
 (cond ((fM x).by av.ai.ret)
 (cond (ay (fM x).st.data.n x.data.n)
 (.next (⟨(fM x).st.data,x.n,x.ik,x.b,(aB (x.b+x.ik)),(fM x).st.held⟩:cm))
 .fail)
 .fail)
 .fail)
 (cond (ay x.data.n x.data.n)
 (.out (av.ai.exit 0) x)
 .fail))
theorem vQ (x:cm):w7 (jn x) (jo x)=aE.enc jn jo (cX x):=by
  unfold cX
  try simp only [aE.dc]
  kernel_rfl
def eX:Lp:=⟨70,28,pU,fun vs rs=>dt jn jo (goN cX (pK vs rs)) [av.ai.exit 0],true⟩
theorem lV:eX.Ok Try.prog:=jX funcs mixed (aw.cons bF aw.nil) aF.nil (L:=9) (n:=9) (step:=cX) (ev:=jn) (er:=jo) (pa:=pK) rfl (fun wv wr=>⟨by kernel_rfl,by kernel_rfl⟩) vQ (yp:=(ew.cons fW (ew.cons (fL Gs) ew.nil)))
theorem kG:cH Try.prog eX.f eX.p=true:=by kernel_rfl
structure bL where
  data:(Sl aZ)
  n:Int
  ik:Int
  EH:Show
instance:Inhabited bL:=⟨⟨default,default,default,default⟩⟩
def jq (x:bL):List KV:=[ij 47 fc x.data,.int .i64 x.n,.fn (.func 34) [] [.ptr 0 0],.int .i64 x.ik]
def jr (x:bL):List (List KV):=[lC x.EH]
def pL (vs:List KV) (rs:List (List KV)):bL:=⟨hZ fD (vs.getD 0 .aq),intOf (vs.getD 1 .aq),intOf (vs.getD 3 .aq),lD (fun k=>(rs.getD 0 []).getD k .aq)⟩
def pV:aD:=⟨[(0,⟨false,[.arr 47]⟩),(1,⟨false,[.k (.int .i64)]⟩),(2,⟨false,[.ref (.fn (.func 34) [] [.ptr 0 0])]⟩),(6,⟨false,[.k (.int .i64)]⟩)],[(100002,[.k (.slice 45),.k (.slice 108)],1)],[]⟩
structure b5 where
  data:(Sl aZ)
  n:Int
  ik:Int
  a:Int
  b:Int
  EH:Show
instance:Inhabited b5:=⟨⟨default,default,default,default,default,default⟩⟩
def iz (x:b5):List KV:=[ij 47 fc x.data,.int .i64 x.n,.fn (.func 34) [] [.ptr 0 0],.int .i64 x.ik,.int .i64 x.a,.int .i64 x.b]
def iA (x:b5):List (List KV):=[lC x.EH]
def oJ (vs:List KV) (rs:List (List KV)):b5:=⟨hZ fD (vs.getD 0 .aq),intOf (vs.getD 1 .aq),intOf (vs.getD 3 .aq),intOf (vs.getD 4 .aq),intOf (vs.getD 5 .aq),lD (fun k=>(rs.getD 0 []).getD k .aq)⟩
def pb:aD:=⟨[(0,⟨false,[.arr 47]⟩),(1,⟨false,[.k (.int .i64)]⟩),(2,⟨false,[.ref (.fn (.func 34) [] [.ptr 0 0])]⟩),(6,⟨false,[.k (.int .i64)]⟩),(7,⟨false,[.k (.int .i64)]⟩),(8,⟨false,[.k (.int .i64)]⟩)],[(100002,[.k (.slice 45),.k (.slice 108)],1)],[]⟩
def vR:=nQ Try.prog (cR Try.prog [(35,b6)] [eX] (fun q=>Nat.beq q 47) false false [eP,(gI Gs)]) 9 9 70 3988 (fh Try.prog 70 3988) pb
def dN (x:b5):(aE ah):=(eW 64 (⟨x.data,x.a,(aB (x.a+x.ik)),x.b,x.EH⟩:ah))
def cI (x:b5):aE b5:=
 (cond (decide (x.b≤x.n))
 (cond (ay x.data.n x.data.n)
 (cond ((dN x).by av.ai.ret)
 (cond (ay (dN x).st.data.n x.data.n)
 (.next (⟨(dN x).st.data,x.n,x.ik,x.b,(aB (x.b+(aB ((2:Int) * x.ik)))),(dN x).st.held⟩:b5))
 .fail)
 .fail)
 .fail)
 (cond (ay x.data.n x.data.n)
 (.out (av.ai.exit 4) x)
 .fail))
theorem uw (x:b5):vR (iz x) (iA x)=aE.enc iz iA (cI x):=by
  unfold cI
  try simp only [aE.dc]
  kernel_rfl
def fN:Lp:=⟨70,3988,pb,fun vs rs=>dt iz iA (goN cI (oJ vs rs)) [av.ai.exit 4],true⟩
theorem oK:fN.Ok Try.prog:=jX funcs mixed (aw.cons bF aw.nil) (aF.cons lV kG aF.nil) (L:=9) (n:=9) (step:=cI) (ev:=iz) (er:=iA) (pa:=oJ) rfl (fun wv wr=>⟨by kernel_rfl,by kernel_rfl⟩) uw (yp:=(ew.cons fW (ew.cons (fL Gs) ew.nil)))
theorem nt:cH Try.prog fN.f fN.p=true:=by kernel_rfl
def w8:=nQ Try.prog (cR Try.prog [(35,b6)] [eX,fN] (fun q=>Nat.beq q 47) false false [eP,(gI Gs)]) 9 9 70 62 (fh Try.prog 70 62) pV
def ax (x:bL):(aE b5):=(goN cI (⟨x.data,x.n,x.ik,(0:Int),(aB ((2:Int) * x.ik)),x.EH⟩:b5))
def eB (x:bL):(aE ah):=(eW 64 (⟨(ax x).st.data,(ax x).st.a,(aB ((ax x).st.a+(ax x).st.ik)),(ax x).st.n,(ax x).st.EH⟩:ah))
def cY (x:bL):aE bL:=
 (cond (decide (x.ik < x.n))
 (cond (ay x.data.n x.data.n)
 (cond ((ax x).by (av.ai.exit 4))
 (cond (decide ((aB ((ax x).st.a+(ax x).st.ik)) < (ax x).st.n))
 (cond (ay (ax x).st.data.n (ax x).st.data.n)
 (cond ((eB x).by av.ai.ret)
 (cond (ay (eB x).st.data.n (ax x).st.data.n)
 (.next (⟨(eB x).st.data,(ax x).st.n,(aB ((ax x).st.ik * (2:Int))),(eB x).st.held⟩:bL))
 .fail)
 .fail)
 .fail)
 (cond (ay (ax x).st.data.n (ax x).st.data.n)
 (.next (⟨(ax x).st.data,(ax x).st.n,(aB ((ax x).st.ik * (2:Int))),(ax x).st.EH⟩:bL))
 .fail))
 .fail)
 .fail)
 (cond (ay x.data.n x.data.n)
 (.out (av.ai.exit 2) x)
 .fail))
theorem vS (x:bL):w8 (jq x) (jr x)=aE.enc jq jr (cY x):=by
  unfold cY
  try simp only [aE.dc]
  kernel_rfl
def jy:Lp:=⟨70,62,pV,fun vs rs=>dt jq jr (goN cY (pL vs rs)) [av.ai.exit 2],true⟩
theorem w9:jy.Ok Try.prog:=jX funcs mixed (aw.cons bF aw.nil) (aF.cons lV kG (aF.cons oK nt aF.nil)) (L:=9) (n:=9) (step:=cY) (ev:=jq) (er:=jr) (pa:=pL) rfl (fun wv wr=>⟨by kernel_rfl,by kernel_rfl⟩) vS (yp:=(ew.cons fW (ew.cons (fL Gs) ew.nil)))
theorem uY:cH Try.prog jy.f jy.p=true:=by kernel_rfl
def y9:=BC Try.prog (cR Try.prog [(35,b6)] [eX,fN,jy] (fun q=>Nat.beq q 47) false false [eP,(gI Gs)]) 9 9 70 rR
def cv (x:bK):(aE cm):=(goN cX (⟨x.data,x.n,(20:Int),(0:Int),(20:Int),x.held⟩:cm))
def fv (x:bK):(aE aR):=(dE (⟨(cv x).st.data,(cv x).st.a,(cv x).st.n,(cv x).st.EH⟩:aR))
def dx (x:bK):(aE bL):=(goN cY (⟨(fv x).st.data,(cv x).st.n,(cv x).st.ik,(fv x).st.held⟩:bL))
def jz (x:bK):aE bK:=
 (cond (ay x.data.n x.data.n)
 (cond ((cv x).by (av.ai.exit 0))
 (cond (ay (cv x).st.data.n (cv x).st.data.n)
 (cond ((fv x).by av.ai.ret)
 (cond (ay (fv x).st.data.n (cv x).st.data.n)
 (cond ((dx x).by (av.ai.exit 2))
 (cond (ay (dx x).st.data.n (dx x).st.data.n)
 (.out av.ai.ret (⟨(dx x).st.data,(dx x).st.n,(dx x).st.EH⟩:bK))
 .fail)
 .fail)
 .fail)
 .fail)
 .fail)
 .fail)
 .fail)
theorem x3 (x:bK):y9 (kD x) (kE x)=aE.enc kD kE (jz x):=by
  unfold jz
  try simp only [aE.dc]
  kernel_rfl
def iY (x:bK):aE bK:=jz x
def lq:Fc:=⟨70,rR,fun vs rs=>dt kD kE (iY (rj vs rs)) [av.ai.ret]⟩
theorem mP:lq.Ok Try.prog:=xV funcs mixed (aw.cons bF aw.nil) (aF.cons lV kG (aF.cons oK nt (aF.cons w9 uY aF.nil))) (L:=9) (n:=9) (step:=iY) (ev:=kD) (er:=kE) (pa:=rj) rfl (fun wv wr=>⟨by kernel_rfl,by kernel_rfl⟩) x3 (yp:=(ew.cons fW (ew.cons (fL Gs) ew.nil)))
end
end Go.Proofs.Ytahhdndhkgbcjaa.b
end
section
namespace Go.Proofs.Ytahhdndhkgbcjaa.b
open Go.K
set_option linter.unusedVariables false
set_option linter.unusedSimpArgs false
noncomputable section
structure bd where
  cQ:Bool
  l:(Sl aZ)
  e:Int
  last:Int
  t18:(Sl Int)
  t19:Int
  t20:Int
  s:Show
instance:Inhabited bd:=⟨⟨default,default,default,default,default,default,default,default⟩⟩
def gW (x:bd):List KV:=[.bool x.cQ,ij 47 fc x.l,.int .i64 x.e,.int .i64 x.last,ij 3 (kI .i64) x.t18,.int .i64 x.t19,.int .i64 x.t20]
def gX (x:bd):List (List KV):=[lC x.s]
def nM (vs:List KV) (rs:List (List KV)):bd:=⟨l7 (vs.getD 0 .aq),hZ fD (vs.getD 1 .aq),intOf (vs.getD 2 .aq),intOf (vs.getD 3 .aq),hZ intOf (vs.getD 4 .aq),intOf (vs.getD 5 .aq),intOf (vs.getD 6 .aq),lD (fun k=>(rs.getD 0 []).getD k .aq)⟩
def n5:aD:=⟨[(2,⟨false,[.k .bool]⟩),(6,⟨false,[.arr 47]⟩),(7,⟨false,[.k (.int .i64)]⟩),(9,⟨false,[.k (.int .i64)]⟩),(18,⟨false,[.k (.slice 3)]⟩),(19,⟨false,[.k (.int .i64)]⟩),(20,⟨false,[.k (.int .i64)]⟩)],[(3,[.k (.slice 45),.k (.slice 108)],1)],[(3,0,0)]⟩
structure bw where
  cQ:Bool
  l:(Sl aZ)
  e:Int
  last:Int
  n:Int
  t18:(Sl Int)
  t19:Int
  t20:Int
  t41:Int
  t42:Int
  s:Show
instance:Inhabited bw:=⟨⟨default,default,default,default,default,default,default,default,default,default,default⟩⟩
def fI (x:bw):List KV:=[.bool x.cQ,ij 47 fc x.l,.int .i64 x.e,.int .i64 x.last,.int .i64 x.n,ij 3 (kI .i64) x.t18,.int .i64 x.t19,.int .i64 x.t20,.int .i64 x.t41,.int .i64 x.t42]
def fJ (x:bw):List (List KV):=[lC x.s]
def mD (vs:List KV) (rs:List (List KV)):bw:=⟨l7 (vs.getD 0 .aq),hZ fD (vs.getD 1 .aq),intOf (vs.getD 2 .aq),intOf (vs.getD 3 .aq),intOf (vs.getD 4 .aq),hZ intOf (vs.getD 5 .aq),intOf (vs.getD 6 .aq),intOf (vs.getD 7 .aq),intOf (vs.getD 8 .aq),intOf (vs.getD 9 .aq),lD (fun k=>(rs.getD 0 []).getD k .aq)⟩
def mX:aD:=⟨[(2,⟨false,[.k .bool]⟩),(6,⟨false,[.arr 47]⟩),(7,⟨false,[.k (.int .i64)]⟩),(9,⟨false,[.k (.int .i64)]⟩),(11,⟨false,[.k (.int .i64)]⟩),(18,⟨false,[.k (.slice 3)]⟩),(19,⟨false,[.k (.int .i64)]⟩),(20,⟨false,[.k (.int .i64)]⟩),(41,⟨false,[.k (.int .i64)]⟩),(42,⟨false,[.k (.int .i64)]⟩)],[(3,[.k (.slice 45),.k (.slice 108)],1)],[(3,0,0)]⟩
def sK:=ky Try.prog (cR Try.prog [(35,b6),(50,nE)] [] (fun q=>Nat.beq q 47) false false [lq]) 9 9 32 125342 (fh Try.prog 32 125342) mX
def cd (x:bw):aE bw:=
 (cond (decide (x.t42 < x.t41))
 (cond ((decide ((0:Int)≤x.n)) && (decide (x.n < ((x.s.items.n:Nat):Int))))
 (cond ((x.s.items.get (Int.toNat x.n)).look.cQ == x.cQ)
 (cond ((Nat.ble (((x.l.n+1)+512) * 16) 17592186044416) && (Nat.ble (x.l.n+1) 17592186044416))
 (cond (ay (x.l.n+1) (x.l.n+1))
 (.next (⟨x.cQ,(x.l.push (⟨x.n,x.t42⟩:aZ)),x.e,x.last,x.n,x.t18,x.t19,x.t20,x.t41,(aB (x.t42+(1:Int))),x.s⟩:bw))
 .fail)
 .fail)
 (cond (ay x.l.n x.l.n)
 (.next (⟨x.cQ,x.l,x.e,x.last,x.n,x.t18,x.t19,x.t20,x.t41,(aB (x.t42+(1:Int))),x.s⟩:bw))
 .fail))
 .fail)
 (cond (ay x.l.n x.l.n)
 (.out (av.ai.exit 2) x)
 .fail))
theorem ru (x:bw):sK (fI x) (fJ x)=aE.enc fI fJ (cd x):=by
  unfold cd
  try simp only [aE.dc,Sr]
  kernel_rfl
def eA:Lp:=⟨32,125342,mX,fun vs rs=>dt fI fJ (goN cd (mD vs rs)) [av.ai.exit 2],false⟩
theorem mF:eA.Ok Try.prog:=fQ funcs mixed (aw.cons bF (aw.cons mB aw.nil)) aF.nil (L:=9) (n:=9) (step:=cd) (ev:=fI) (er:=fJ) (pa:=mD) rfl (fun wv wr=>⟨by kernel_rfl,by kernel_rfl⟩) ru (yp:=(ew.cons mP ew.nil))
theorem lI:cH Try.prog eA.f eA.p=true:=by kernel_rfl
def ux:=ky Try.prog (cR Try.prog [(35,b6),(50,nE)] [eA] (fun q=>Nat.beq q 47) false false [lq]) 9 9 32 122 (fh Try.prog 32 122) n5
def a8 (x:bd):(aE bw):=(goN cd (⟨x.cQ,x.l,x.e,(x.t18.get (Int.toNat x.t20)),(x.t18.get (Int.toNat x.t20)),x.t18,x.t19,x.t20,(((x.s.items.get (Int.toNat (x.t18.get (Int.toNat x.t20)))).dp.n:Nat):Int),(0:Int),x.s⟩:bw))
def cC (x:bd):aE bd:=
 (cond (decide (x.t20 < x.t19))
 (cond ((decide ((0:Int)≤x.t20)) && (decide (x.t20 < ((x.t18.n:Nat):Int))))
 (cond (decide ((x.t18.get (Int.toNat x.t20))≤x.last))
 (.out av.ai.ret (⟨x.cQ,(⟨0,(fun i=>(⟨(0:Int),(0:Int)⟩:aZ))⟩:Sl _),(2:Int),x.last,x.t18,x.t19,x.t20,x.s⟩:bd))
 (cond (decide ((x.t18.get (Int.toNat x.t20)) ≥ ((x.s.items.n:Nat):Int)))
 (.out av.ai.ret (⟨x.cQ,(⟨0,(fun i=>(⟨(0:Int),(0:Int)⟩:aZ))⟩:Sl _),(2:Int),x.last,x.t18,x.t19,x.t20,x.s⟩:bd))
 (cond ((decide ((0:Int)≤(x.t18.get (Int.toNat x.t20)))) && (decide ((x.t18.get (Int.toNat x.t20)) < ((x.s.items.n:Nat):Int))))
 (cond (ay x.l.n x.l.n)
 (cond ((a8 x).by (av.ai.exit 2))
 (cond (ay (a8 x).st.l.n (a8 x).st.l.n)
 (.next (⟨(a8 x).st.cQ,(a8 x).st.l,(a8 x).st.e,(a8 x).st.last,(a8 x).st.t18,(a8 x).st.t19,(aB ((a8 x).st.t20+(1:Int))),(a8 x).st.s⟩:bd))
 .fail)
 .fail)
 .fail)
 .fail)))
 .fail)
 (cond (ay x.l.n x.l.n)
 (.out (av.ai.exit 0) x)
 .fail))
theorem s6 (x:bd):ux (gW x) (gX x)=aE.enc gW gX (cC x):=by
  unfold cC
  try simp only [aE.dc]
  kernel_rfl
def hU:Lp:=⟨32,122,n5,fun vs rs=>dt gW gX (goN cC (nM vs rs)) [av.ai.exit 0,av.ai.ret],false⟩
theorem uy:hU.Ok Try.prog:=fQ funcs mixed (aw.cons bF (aw.cons mB aw.nil)) (aF.cons mF lI aF.nil) (L:=9) (n:=9) (step:=cC) (ev:=gW) (er:=gX) (pa:=nM) rfl (fun wv wr=>⟨by kernel_rfl,by kernel_rfl⟩) s6 (yp:=(ew.cons mP ew.nil))
theorem sL:cH Try.prog hU.f hU.p=true:=by kernel_rfl
def CU:List (Nat×(List KV→KR KV)):=[(35,b6),(50,nE)]
def CV:List Lp:=[eA,hU]
theorem J9:aw Try.prog CU:=(aw.cons bF (aw.cons mB aw.nil))
theorem Ka:aF Try.prog CV:=(aF.cons mF lI (aF.cons uy sL aF.nil))
def rl (s:Show) (items:(Sl Int)):(Option Int):=(ll s)
def eL (s:Show) (items:(Sl Int)):(aE bd):=(goN cC (⟨true,(⟨0,(fun i=>(⟨(0:Int),(0:Int)⟩:aZ))⟩:Sl _),(0:Int),(-(1:Int)),items,((items.n:Nat):Int),(0:Int),s⟩:bd))
def jA (s:Show) (items:(Sl Int)):(aE bK):=(iY (⟨(eL s items).st.l,(((eL s items).st.l.n:Nat):Int),s⟩:bK))
def oi (s:Show) (items:(Sl Int)):Option ((Sl aZ)×Int):=
 (cond (rl s items).isSome
 (cond (((rl s items).getD default) != (0:Int))
 (some ((⟨0,(fun i=>(⟨(0:Int),(0:Int)⟩:aZ))⟩:Sl _),((rl s items).getD default)))
 (cond ((eL s items).by (av.ai.exit 0))
 (cond (ay (eL s items).st.l.n (eL s items).st.l.n)
 (cond ((jA s items).by av.ai.ret)
 (some ((⟨(eL s items).st.l.n,(fun i=>((jA s items).st.data.get (0+i)))⟩:Sl _),(0:Int)))
 none)
 none)
 (cond ((eL s items).by av.ai.ret)
 (cond (ay (eL s items).st.l.n (eL s items).st.l.n)
 (cond ((jA s items).by av.ai.ret)
 (some ((⟨(eL s items).st.l.n,(fun i=>((jA s items).st.data.get (0+i)))⟩:Sl _),(eL s items).st.e))
 none)
 none)
 none)))
 none)
theorem L9 (s:Show) (items:(Sl Int)):lL Try.prog (cR Try.prog CU CV (fun q=>Nat.beq q 47) false false [lq]) 9 9 12 [yr s,(ij 3 (kI .i64)) items] = (oi s items).map (fun (r:(Sl aZ)×Int)=>KV.pQ [(ij 47 fc) r.1,(kI .i64) r.2]):=by
  unfold oi
  try simp only [jG]
  kernel_rfl
def oj:List KV→KR KV:=kz Try.prog 12 (lE (fun (r:(Sl aZ)×Int)=>KV.pQ [(ij 47 fc) r.1,(kI .i64) r.2]) fun vs=>oi (sW (vs.getD 0 .aq)) ((hZ intOf) (vs.getD 1 .aq)))
theorem Kb (w:Nat→KV):iC Try.prog [25,26] w 0 = [yr (sW (cf Try.prog (aK Try.prog a6) 25 (w 0))),(ij 3 (kI .i64)) ((hZ intOf) (cf Try.prog (aK Try.prog a6) 26 (w 1)))]:=by kernel_rfl
theorem nN:gN Try.prog 12 oj:=eG funcs mixed J9 Ka (L:=9) (n:=9) (yp:=(ew.cons mP ew.nil)) fun w=>by
  have e:bM Try.prog 12 = [25,26]:=by kernel_rfl
  rw [e,Kb]
  exact (L9 (sW (cf Try.prog (aK Try.prog a6) 25 (w 0))) ((hZ intOf) (cf Try.prog (aK Try.prog a6) 26 (w 1)))).trans (by kernel_rfl)
end
end Go.Proofs.Ytahhdndhkgbcjaa.b
end
section
namespace Go.Proofs.Ytahhdndhkgbcjaa.b
open Go.K
set_option linter.unusedVariables false
set_option linter.unusedSimpArgs false
noncomputable section
structure ei where
  cQ:Bool
  l:(Sl aZ)
  e:Int
  last:Int
  t18:(Sl Int)
  t19:Int
  t20:Int
  s:Show
instance:Inhabited ei:=⟨⟨default,default,default,default,default,default,default,default⟩⟩
def qm (x:ei):List KV:=[.bool x.cQ,ij 47 fc x.l,.int .i64 x.e,.int .i64 x.last,ij 3 (kI .i64) x.t18,.int .i64 x.t19,.int .i64 x.t20]
def qn (x:ei):List (List KV):=[lC x.s]
def Ag (vs:List KV) (rs:List (List KV)):ei:=⟨l7 (vs.getD 0 .aq),hZ fD (vs.getD 1 .aq),intOf (vs.getD 2 .aq),intOf (vs.getD 3 .aq),hZ intOf (vs.getD 4 .aq),intOf (vs.getD 5 .aq),intOf (vs.getD 6 .aq),lD (fun k=>(rs.getD 0 []).getD k .aq)⟩
def A9:aD:=⟨[(2,⟨false,[.k .bool]⟩),(6,⟨false,[.aW 47]⟩),(7,⟨false,[.k (.int .i64)]⟩),(9,⟨false,[.k (.int .i64)]⟩),(18,⟨false,[.k (.slice 3)]⟩),(19,⟨false,[.k (.int .i64)]⟩),(20,⟨false,[.k (.int .i64)]⟩)],[(3,[.k (.slice 45),.k (.slice 108)],1)],[(3,0,0)]⟩
structure dU where
  cQ:Bool
  l:(Sl aZ)
  e:Int
  last:Int
  n:Int
  t18:(Sl Int)
  t19:Int
  t20:Int
  t41:Int
  t42:Int
  s:Show
instance:Inhabited dU:=⟨⟨default,default,default,default,default,default,default,default,default,default,default⟩⟩
def nT (x:dU):List KV:=[.bool x.cQ,ij 47 fc x.l,.int .i64 x.e,.int .i64 x.last,.int .i64 x.n,ij 3 (kI .i64) x.t18,.int .i64 x.t19,.int .i64 x.t20,.int .i64 x.t41,.int .i64 x.t42]
def nU (x:dU):List (List KV):=[lC x.s]
def wk (vs:List KV) (rs:List (List KV)):dU:=⟨l7 (vs.getD 0 .aq),hZ fD (vs.getD 1 .aq),intOf (vs.getD 2 .aq),intOf (vs.getD 3 .aq),intOf (vs.getD 4 .aq),hZ intOf (vs.getD 5 .aq),intOf (vs.getD 6 .aq),intOf (vs.getD 7 .aq),intOf (vs.getD 8 .aq),intOf (vs.getD 9 .aq),lD (fun k=>(rs.getD 0 []).getD k .aq)⟩
def x4:aD:=⟨[(2,⟨false,[.k .bool]⟩),(6,⟨false,[.aW 47]⟩),(7,⟨false,[.k (.int .i64)]⟩),(9,⟨false,[.k (.int .i64)]⟩),(11,⟨false,[.k (.int .i64)]⟩),(18,⟨false,[.k (.slice 3)]⟩),(19,⟨false,[.k (.int .i64)]⟩),(20,⟨false,[.k (.int .i64)]⟩),(41,⟨false,[.k (.int .i64)]⟩),(42,⟨false,[.k (.int .i64)]⟩)],[(3,[.k (.slice 45),.k (.slice 108)],1)],[(3,0,0)]⟩
def EY:=ky Try.prog (cR Try.prog [(50,nE)] [] (fun _=>false)) 9 9 32 125342 (fh Try.prog 32 125342) x4
def eY (x:dU):aE dU:=
 (cond (decide (x.t42 < x.t41))
 (cond ((decide ((0:Int)≤x.n)) && (decide (x.n < ((x.s.items.n:Nat):Int))))
 (cond ((x.s.items.get (Int.toNat x.n)).look.cQ == x.cQ)
 (cond ((ay x.l.n x.l.n) && (MR 16 x.l.n 1))
 (cond (ay (x.l.n+1) (x.l.n+1))
 (.next (⟨x.cQ,(x.l.push (⟨x.n,x.t42⟩:aZ)),x.e,x.last,x.n,x.t18,x.t19,x.t20,x.t41,(aB (x.t42+(1:Int))),x.s⟩:dU))
 .fail)
 .fail)
 (cond (ay x.l.n x.l.n)
 (.next (⟨x.cQ,x.l,x.e,x.last,x.n,x.t18,x.t19,x.t20,x.t41,(aB (x.t42+(1:Int))),x.s⟩:dU))
 .fail))
 .fail)
 (cond (ay x.l.n x.l.n)
 (.out (av.ai.exit 2) x)
 .fail))
theorem CW (x:dU):EY (nT x) (nU x)=aE.enc nT nU (eY x):=by
  unfold eY
  try simp only [aE.dc,Sr]
  kernel_rfl
def mn:Lp:=⟨32,125342,x4,fun vs rs=>dt nT nU (goN eY (wk vs rs)) [av.ai.exit 2],false⟩
theorem wm:mn.Ok Try.prog:=fQ funcs mixed (aw.cons mB aw.nil) aF.nil (L:=9) (n:=9) (step:=eY) (ev:=nT) (er:=nU) (pa:=wk) rfl (fun wv wr=>⟨by kernel_rfl,by kernel_rfl⟩) CW
theorem tD:cH Try.prog mn.f mn.p=true:=by kernel_rfl
def Kc:=ky Try.prog (cR Try.prog [(50,nE)] [mn] (fun _=>false)) 9 9 32 122 (fh Try.prog 32 122) A9
def dq (x:ei):(aE dU):=(goN eY (⟨x.cQ,x.l,x.e,(x.t18.get (Int.toNat x.t20)),(x.t18.get (Int.toNat x.t20)),x.t18,x.t19,x.t20,(((x.s.items.get (Int.toNat (x.t18.get (Int.toNat x.t20)))).dp.n:Nat):Int),(0:Int),x.s⟩:dU))
def gJ (x:ei):aE ei:=
 (cond (decide (x.t20 < x.t19))
 (cond ((decide ((0:Int)≤x.t20)) && (decide (x.t20 < ((x.t18.n:Nat):Int))))
 (cond (decide ((x.t18.get (Int.toNat x.t20))≤x.last))
 (.out av.ai.ret (⟨x.cQ,(⟨0,(fun i=>(⟨(0:Int),(0:Int)⟩:aZ))⟩:Sl _),(2:Int),x.last,x.t18,x.t19,x.t20,x.s⟩:ei))
 (cond (decide ((x.t18.get (Int.toNat x.t20)) ≥ ((x.s.items.n:Nat):Int)))
 (.out av.ai.ret (⟨x.cQ,(⟨0,(fun i=>(⟨(0:Int),(0:Int)⟩:aZ))⟩:Sl _),(2:Int),x.last,x.t18,x.t19,x.t20,x.s⟩:ei))
 (cond ((decide ((0:Int)≤(x.t18.get (Int.toNat x.t20)))) && (decide ((x.t18.get (Int.toNat x.t20)) < ((x.s.items.n:Nat):Int))))
 (cond (ay x.l.n x.l.n)
 (cond ((dq x).by (av.ai.exit 2))
 (cond (ay (dq x).st.l.n (dq x).st.l.n)
 (.next (⟨(dq x).st.cQ,(dq x).st.l,(dq x).st.e,(dq x).st.last,(dq x).st.t18,(dq x).st.t19,(aB ((dq x).st.t20+(1:Int))),(dq x).st.s⟩:ei))
 .fail)
 .fail)
 .fail)
 .fail)))
 .fail)
 (cond (ay x.l.n x.l.n)
 (.out (av.ai.exit 0) x)
 .fail))
theorem GJ (x:ei):Kc (qm x) (qn x)=aE.enc qm qn (gJ x):=by
  unfold gJ
  try simp only [aE.dc]
  kernel_rfl
def rm:Lp:=⟨32,122,A9,fun vs rs=>dt qm qn (goN gJ (Ag vs rs)) [av.ai.exit 0,av.ai.ret],false⟩
theorem Kd:rm.Ok Try.prog:=fQ funcs mixed (aw.cons mB aw.nil) (aF.cons wm tD aF.nil) (L:=9) (n:=9) (step:=gJ) (ev:=qm) (er:=qn) (pa:=Ag) rfl (fun wv wr=>⟨by kernel_rfl,by kernel_rfl⟩) GJ
theorem EZ:cH Try.prog rm.f rm.p=true:=by kernel_rfl
def GK:List (Nat×(List KV→KR KV)):=[(50,nE)]
def GL:List Lp:=[mn,rm]
theorem Nr:aw Try.prog GK:=(aw.cons mB aw.nil)
theorem Ns:aF Try.prog GL:=(aF.cons wm tD (aF.cons Kd EZ aF.nil))
def tQ (s:Show) (items:(Sl Int)) (cQ:Bool):(Option Int):=(ll s)
def om (s:Show) (items:(Sl Int)) (cQ:Bool):(aE ei):=(goN gJ (⟨cQ,(⟨0,(fun i=>(⟨(0:Int),(0:Int)⟩:aZ))⟩:Sl _),(0:Int),(-(1:Int)),items,((items.n:Nat):Int),(0:Int),s⟩:ei))
def qM (s:Show) (items:(Sl Int)) (cQ:Bool):Option ((Sl aZ)×Int):=
 (cond (tQ s items cQ).isSome
 (cond (((tQ s items cQ).getD default) != (0:Int))
 (some ((⟨0,(fun i=>(⟨(0:Int),(0:Int)⟩:aZ))⟩:Sl _),((tQ s items cQ).getD default)))
 (cond ((om s items cQ).by (av.ai.exit 0))
 (some ((om s items cQ).st.l,(0:Int)))
 (cond ((om s items cQ).by av.ai.ret)
 (some ((om s items cQ).st.l,(om s items cQ).st.e))
 none)))
 none)
theorem Pc (s:Show) (items:(Sl Int)) (cQ:Bool):lL Try.prog (cR Try.prog GK GL (fun _=>false)) 9 9 32 [yr s,(ij 3 (kI .i64)) items,kB cQ] = (qM s items cQ).map (fun (r:(Sl aZ)×Int)=>KV.pQ [(ij 47 fc) r.1,(kI .i64) r.2]):=by
  unfold qM
  try simp only [jG]
  kernel_rfl
def I5:List KV→KR KV:=kz Try.prog 32 (lE (fun (r:(Sl aZ)×Int)=>KV.pQ [(ij 47 fc) r.1,(kI .i64) r.2]) fun vs=>qM (sW (vs.getD 0 .aq)) ((hZ intOf) (vs.getD 1 .aq)) (l7 (vs.getD 2 .aq)))
theorem Nt (w:Nat→KV):iC Try.prog [25,26,4] w 0 = [yr (sW (cf Try.prog (aK Try.prog a6) 25 (w 0))),(ij 3 (kI .i64)) ((hZ intOf) (cf Try.prog (aK Try.prog a6) 26 (w 1))),kB (l7 (cf Try.prog (aK Try.prog a6) 4 (w 2)))]:=by kernel_rfl
theorem Nu:gN Try.prog 32 I5:=eG funcs mixed Nr Ns (L:=9) (n:=9) fun w=>by
  have e:bM Try.prog 32 = [25,26,4]:=by kernel_rfl
  rw [e,Nt]
  exact (Pc (sW (cf Try.prog (aK Try.prog a6) 25 (w 0))) ((hZ intOf) (cf Try.prog (aK Try.prog a6) 26 (w 1))) (l7 (cf Try.prog (aK Try.prog a6) 4 (w 2)))).trans (by kernel_rfl)
def EI:List (Nat×(List KV→KR KV)):=[(32,I5)]
def EJ:List Lp:=[]
theorem Ma:aw Try.prog EI:=(aw.cons Nu aw.nil)
theorem Mb:aF Try.prog EJ:=aF.nil
def sM (s:Show) (items:(Sl Int)):(Option (Prod (Sl aZ) Int)):=(qM s items false)
def pM (s:Show) (items:(Sl Int)):Option ((Sl aZ)×Int):=
 (cond (sM s items).isSome
 (some (((sM s items).getD default).fst,((sM s items).getD default).snd))
 none)
theorem Nv (s:Show) (items:(Sl Int)):lL Try.prog (cR Try.prog EI EJ (fun _=>false)) 9 9 11 [yr s,(ij 3 (kI .i64)) items] = (pM s items).map (fun (r:(Sl aZ)×Int)=>KV.pQ [(ij 47 fc) r.1,(kI .i64) r.2]):=by
  unfold pM
  try simp only [jG]
  kernel_rfl
def pN:List KV→KR KV:=kz Try.prog 11 (lE (fun (r:(Sl aZ)×Int)=>KV.pQ [(ij 47 fc) r.1,(kI .i64) r.2]) fun vs=>pM (sW (vs.getD 0 .aq)) ((hZ intOf) (vs.getD 1 .aq)))
theorem Mc (w:Nat→KV):iC Try.prog [25,26] w 0 = [yr (sW (cf Try.prog (aK Try.prog a6) 25 (w 0))),(ij 3 (kI .i64)) ((hZ intOf) (cf Try.prog (aK Try.prog a6) 26 (w 1)))]:=by kernel_rfl
theorem oL:gN Try.prog 11 pN:=eG funcs mixed Ma Mb (L:=9) (n:=9) fun w=>by
  have e:bM Try.prog 11 = [25,26]:=by kernel_rfl
  rw [e,Mc]
  exact (Nv (sW (cf Try.prog (aK Try.prog a6) 25 (w 0))) ((hZ intOf) (cf Try.prog (aK Try.prog a6) 26 (w 1)))).trans (by kernel_rfl)
end
end Go.Proofs.Ytahhdndhkgbcjaa.b
end
section
namespace Go.K
open Go Go.av
theorem aE.YG {X:Type} {step:X→aE X} {I:Nat→X→Prop} {Q:ai→X→Prop} {n:Nat}
    (h:∀ j x,j≤n→I j x→(∃ x',step x = .next x'∧j < n∧I (j+1) x')∨∃ e x',step x = .out e x'∧uL e=false∧Q e x') :
    ∀ (r j:Nat) (x:X),j+r=n→I j x→∀ N,r < N→∃ e x',aE.go step N x = .out e x'∧Q e x'
  | r,j,x,hj,hI,0,hN=>by omega
  | r,j,x,hj,hI,N+1,hN=>by
    rcases h j x (by omega) hI with ⟨x',h1,h2,h3⟩ | ⟨e,x',h1,h2,h3⟩
    · obtain ⟨r',rfl⟩:∃ r',r=r' + 1:=⟨r - 1,by omega⟩
      obtain ⟨e,y,h4,h5⟩:=aE.YG h r' (j+1) x' (by omega) h3 N (by omega)
      exact ⟨e,y,by simp only [aE.go,h1,h4],h5⟩
    · exact ⟨e,x',by simp only [aE.go,h1,h2,cond_false],h3⟩
theorem dP {X:Type} {step:X→aE X} (I:Nat→X→Prop) (Q:ai→X→Prop) (n:Nat) (hn:n < mV)
    (h:∀ j x,j≤n→I j x→(∃ x',step x = .next x'∧j < n∧I (j+1) x')∨∃ e x',step x = .out e x'∧uL e=false∧Q e x') {x:X} (h0:I 0 x) :
    ∃ e x',goN step x = .out e x'∧Q e x':=aE.YG h n 0 x (by omega) h0 mV hn
theorem aE.jB {X:Type} (e:ai) (x:X) (e' : ai):(aE.out e x).by e' = dM e e':=rfl
theorem aE.js {X:Type} [Inhabited X] (e:ai) (x:X):(aE.out e x).st=x:=rfl
theorem vT {n:Int} (h : -9223372036854775808≤n) (h' : n < 9223372036854775808):aB n=n:=by
  show IntKind.wrap .i64 n=n
  unfold IntKind.wrap
  by_cases hn:0≤n
  · have h1:n % (2 ^ IntKind.i64.bits:Int)=n:=Int.emod_eq_of_lt hn (by show n < 18446744073709551616; omega)
    simp only [h1]
    rw [if_neg]
    intro hc
    simp only [Bool.and_eq_true,decide_eq_true_eq] at hc
    have:n ≥ 9223372036854775808:=hc.2
    omega
  · have h1:n % (2 ^ IntKind.i64.bits:Int)=n+18446744073709551616:=by
      show n % 18446744073709551616=n+18446744073709551616
      omega
    simp only [h1]
    rw [if_pos]
    · show n+18446744073709551616 - 18446744073709551616=n
      omega
    · simp only [Bool.and_eq_true,decide_eq_true_eq]
      refine ⟨rfl,?_⟩
      show n+18446744073709551616 ≥ 9223372036854775808
      omega
theorem Wl {b n m:Nat} (hb:b≤1000000) (hn:n≤1000000) (hm:m≤1000000) (h:0 < m∨n=0):MR b n m=true:=by
  unfold MR
  simp only [Bool.and_eq_true,Bool.or_eq_true]
  refine ⟨⟨Nat.ble_eq_true_of_le ?_,Nat.ble_eq_true_of_le (by omega)⟩,?_⟩
  · calc (n+m+512) * b≤2000512 * 1000000:=Nat.mul_le_mul (by omega) hb
      _≤17592186044416:=by decide
  · rcases h with h | h
    · exact .inl (by rw [Nat.blt_eq]; exact h)
    · exact .inr (by subst h; rfl)
@[simp] theorem bh (n:Nat):ay n n=true:=Nat.beq_refl n
theorem Sl.Pz {α:Type} [Inhabited α] (s:Sl α) (v:α):(s.push v).n=s.n+1:=rfl
theorem Sl.CX {α:Type} [Inhabited α] {s:Sl α} {v:α} {i:Nat} (h:i < s.n):(s.push v).get i=s.get i:=by
  have:Nat.blt i s.n=true:=by rw [Nat.blt_eq]; exact h
  simp only [Sl.push,this,cond_true]
theorem Sl.Nw {α:Type} [Inhabited α] {s:Sl α} {v:α} : (s.push v).get s.n=v:=by
  have:Nat.blt s.n s.n=false:=by
    cases h:Nat.blt s.n s.n with
    | false=>rfl
    | true=>rw [Nat.blt_eq] at h; omega
  simp only [Sl.push,this,cond_false,Nat.beq_refl,cond_true]
end Go.K
end
section
namespace Go.Proofs.Ytahhdndhkgbcjaa.b
open Go.K
open Go.av (ai)
theorem mQ {n:Int} (h : -4611686018427387904≤n) (h' : n≤4611686018427387904):aB n=n:=vT (by omega) (by omega)
theorem aey (mz:Int) (l:Sl Int) (hn:l.n≤1000) (hm:0≤mz∧mz≤1000000):∃ b,zk mz l=some b∧(b=true ↔ ∀ i,i < l.n→-mz≤l.get i∧l.get i≤mz):=by
  have hw:aB (0 - mz) = -mz:=by rw [mQ (by omega) (by omega)]; omega
  obtain ⟨e,x',h1,h2⟩:=dP (step:=mM) (x:=⟨mz,false,l,((l.n:Nat):Int),(0:Int)⟩)
    (fun j x=>x=⟨mz,false,l,((l.n:Nat):Int),(j:Int)⟩∧j≤l.n∧∀ i,i < j→-mz≤l.get i∧l.get i≤mz)
    (fun e x=>(e = .exit 0∧∀ i,i < l.n→-mz≤l.get i∧l.get i≤mz)∨(e = .ret∧x.t4=false∧¬ ∀ i,i < l.n→-mz≤l.get i∧l.get i≤mz)) l.n (by have:mV=1000000000000:=rfl; omega)
    (fun j x hj ⟨hx,hle,hI⟩=>by
      subst hx
      unfold mM
      by_cases aL:j < l.n
      · have e1:decide ((j:Int) < ((l.n:Nat):Int))=true:=decide_eq_true (by omega)
        have e2:decide ((0:Int)≤(j:Int))=true:=decide_eq_true (by omega)
        simp only [e1,e2,cond_true,Bool.and_self,Int.toNat_natCast,hw]
        cases ha:decide (l.get j < -mz) with
        | true=>
          right
          refine ⟨_,_,rfl,rfl,.inr ⟨rfl,rfl,fun h=>?_⟩⟩
          have:=h j aL; have:=of_decide_eq_true ha; omega
        | false=>
          cases hb:decide (l.get j > mz) with
          | true=>
            right
            refine ⟨_,_,rfl,rfl,.inr ⟨rfl,rfl,fun h=>?_⟩⟩
            have:=h j aL; have:=of_decide_eq_true hb; omega
          | false=>
            left
            refine ⟨_,rfl,by omega,?_,by omega,fun i PE=>?_⟩
            · rw [mQ (by omega) (by omega)]; rfl
            · by_cases hij:i=j
              · subst hij
                have:=of_decide_eq_false ha; have:=of_decide_eq_false hb; omega
              · exact hI i (by omega)
      · have e1:decide ((j:Int) < ((l.n:Nat):Int))=false:=decide_eq_false (by omega)
        simp only [e1,cond_false]
        right
        exact ⟨_,_,rfl,rfl,.inl ⟨rfl,fun i PE=>hI i (by omega)⟩⟩)
    ⟨rfl,by omega,fun i PE=>by omega⟩
  have h0:AX mz l = .out e x':=h1
  unfold zk
  rw [h0,aE.jB,aE.jB,aE.js]
  rcases h2 with ⟨rfl,h2⟩ | ⟨rfl,h3,h2⟩
  · exact ⟨true,rfl,by simpa using h2⟩
  · exact ⟨false,by simp [dM,h3],by simpa using h2⟩
def aah (v:pe):Prop:=-4096≤v.x∧v.x≤4096∧-4096≤v.y∧v.y≤4096∧-4096≤v.z∧v.z≤4096
theorem ah3 {p:Int→Prop} (a b c:Int):(∀ i,i < (Sl.lit [a,b,c]).n→p ((Sl.lit [a,b,c]).get i)) ↔ p a∧p b∧p c:=by
  constructor
  · intro h
    exact ⟨h 0 (show 0 < 3 by omega),h 1 (show 1 < 3 by omega),h 2 (show 2 < 3 by omega)⟩
  · rintro ⟨h1,h2,h3⟩ i hi
    have hi:i < 3:=hi
    match i,hi with
    | 0,_=>exact h1
    | 1,_=>exact h2
    | 2,_=>exact h3
theorem Sy (v:pe):∃ e,qh v=some e∧(e=0 ↔ aah v):=by
  obtain ⟨b,h1,h2⟩:=aey 4096 (Sl.lit [v.x,v.y,v.z]) (show 3≤1000 by omega) (by omega)
  rw [ah3 (p:=fun n=>-4096≤n∧n≤4096)] at h2
  unfold qh vD
  rw [h1]
  cases b with
  | true=>exact ⟨0,rfl,by simpa [aah,and_assoc] using h2⟩
  | false=>exact ⟨20,rfl,by simp only [Bool.false_eq_true,false_iff] at h2; simp only [aah]; omega⟩
def Wm (s:Yz):Prop:=(-131072≤s.x∧s.x≤131072)∧(-131072≤s.y∧s.y≤131072)∧(1≤s.d∧s.d≤65536)∧(0≤s.u∧s.u≤255)∧0≤s.v∧s.v≤255
def agN (t:xW):Prop:=Wm t.e0∧Wm t.e1∧Wm t.e2
def age (t:xW):Int:=(t.e1.x - t.e0.x) * (t.e2.y - t.e0.y) - (t.e2.x - t.e0.x) * (t.e1.y - t.e0.y)
end Go.Proofs.Ytahhdndhkgbcjaa.b
end
section
namespace Go.Proofs.Ytahhdndhkgbcjaa.b
open Go.K
def agO (t:xW):Prop:=agN t∧0 < age t
def W0 (t:xW) (p q:Int):Int:=(t.e2.x - t.e1.x) * (q - t.e1.y) - (p - t.e1.x) * (t.e2.y - t.e1.y)
def W1 (t:xW) (p q:Int):Int:=(t.e0.x - t.e2.x) * (q - t.e2.y) - (p - t.e2.x) * (t.e0.y - t.e2.y)
def W2 (t:xW) (p q:Int):Int:=(t.e1.x - t.e0.x) * (q - t.e0.y) - (p - t.e0.x) * (t.e1.y - t.e0.y)
theorem aez (a b c d e f x y:Int):((e-c)*(y-d)-(x-c)*(f-d))+((a-e)*(y-f)-(x-e)*(b-f))+((c-a)*(y-b)-(x-a)*(d-b))=(c-a)*(f-b)-(e-a)*(d-b):=by grind
theorem agP (a b c d e f x y:Int):((e-c)*(y-d)-(x-c)*(f-d))*(a-x)+((a-e)*(y-f)-(x-e)*(b-f))*(c-x)+((c-a)*(y-b)-(x-a)*(d-b))*(e-x)=0:=by grind
theorem agQ (a b c d e f x y:Int):((e-c)*(y-d)-(x-c)*(f-d))*(b-y)+((a-e)*(y-f)-(x-e)*(b-f))*(d-y)+((c-a)*(y-b)-(x-a)*(d-b))*(f-y)=0:=by grind
theorem Sz (p q r u v w:Int) (hp:0≤p) (hq:0≤q) (hr:0≤r) (hs:0 < p+q+r) (h:p * u+q * v+r * w=0):u≤0∨v≤0∨w≤0:=by
  by_cases h1:u≤0
  · exact .inl h1
  by_cases h2:v≤0
  · exact .inr (.inl h2)
  by_cases h3:w≤0
  · exact .inr (.inr h3)
  exfalso
  have a1:p * 1≤p * u:=Int.mul_le_mul_of_nonneg_left (by omega) hp
  have a2:q * 1≤q * v:=Int.mul_le_mul_of_nonneg_left (by omega) hq
  have a3:r * 1≤r * w:=Int.mul_le_mul_of_nonneg_left (by omega) hr
  omega
theorem YH (p q r u v w:Int) (hp:0≤p) (hq:0≤q) (hr:0≤r) (hs:0 < p+q+r) (h:p * u+q * v+r * w=0):0≤u∨0≤v∨0≤w:=by
  have:=Sz p q r (-u) (-v) (-w) hp hq hr hs (by rw [Int.mul_neg,Int.mul_neg,Int.mul_neg]; omega)
  omega
theorem between (t:xW) (p q:Int) (hf:agO t) (h0:0≤W0 t p q) (h1:0≤W1 t p q) (h2:0≤W2 t p q) :
    (min (min t.e0.x t.e1.x) t.e2.x≤p∧p≤max (max t.e0.x t.e1.x) t.e2.x)∧min (min t.e0.y t.e1.y) t.e2.y≤q∧q≤max (max t.e0.y t.e1.y) t.e2.y:=by
  have hs:0 < W0 t p q+W1 t p q+W2 t p q:=by
    have:=aez t.e0.x t.e0.y t.e1.x t.e1.y t.e2.x t.e2.y p q
    have h:=hf.2
    unfold age at h
    unfold W0 W1 W2
    omega
  have hx:=agP t.e0.x t.e0.y t.e1.x t.e1.y t.e2.x t.e2.y p q
  have hy:=agQ t.e0.x t.e0.y t.e1.x t.e1.y t.e2.x t.e2.y p q
  have a1:=Sz _ _ _ _ _ _ h0 h1 h2 hs hx
  have a2:=YH _ _ _ _ _ _ h0 h1 h2 hs hx
  have a3:=Sz _ _ _ _ _ _ h0 h1 h2 hs hy
  have a4:=YH _ _ _ _ _ _ h0 h1 h2 hs hy
  omega
end Go.Proofs.Ytahhdndhkgbcjaa.b
end
section
namespace Go.Proofs.Ytahhdndhkgbcjaa.b
open Go.K
open Go.av (ai)
theorem tE {α:Type} {c:Bool} {a b:Option α} (ha:c=true→a.isSome=true) (hb:c=false→b.isSome=true):(cond c a b).isSome=true:=by
  cases c with
  | true=>exact ha rfl
  | false=>exact hb rfl
theorem agR {α:Type} {a:Option α} (h:a.isSome=true):∃ r,a=some r:=Option.isSome_iff_exists.1 h
theorem Wn (v:pe):(qh v).isSome=true:=by obtain ⟨e,h,_⟩:=Sy v; rw [h]; rfl
end Go.Proofs.Ytahhdndhkgbcjaa.b
end
section
namespace Go.Proofs.Ytahhdndhkgbcjaa.b
open Go.K
open Go.av (ai)
end Go.Proofs.Ytahhdndhkgbcjaa.b
end
section
namespace Go.Proofs.Ytahhdndhkgbcjaa.b
open Go.K
open Go.av (ai)
def I6 (x:Item):Prop:=x.uV.n=x.hJ.n∧∀ i,i < x.dp.n→(0≤(x.dp.get i).e0∧(x.dp.get i).e0 < (x.hJ.n:Int))∧(0≤(x.dp.get i).e1∧(x.dp.get i).e1 < (x.hJ.n:Int))∧0≤(x.dp.get i).e2∧(x.dp.get i).e2 < (x.hJ.n:Int)
end Go.Proofs.Ytahhdndhkgbcjaa.b
end
section
namespace Go.Proofs.Ytahhdndhkgbcjaa.b
open Go.K
open Go.av (ai)
theorem Nx (n:Int):(uO n).isSome=true:=by
  unfold uO
  exact tE (fun _=>rfl) (fun _=>rfl)
theorem afB (l:Sl pe) (hn:l.n≤4096):∃ e x',eU l = .out e x'∧(e = .ret∨e = .exit 0∧x'.l=l):=by
  unfold eU
  refine dP (step:=mN) (fun j x=>x.l=l∧x.t17=l∧x.t18=(l.n:Int)∧x.t19=(j:Int)∧j≤l.n) (fun e x'=>e = .ret∨e = .exit 0∧x'.l=l) l.n (by have:mV=1000000000000:=rfl; omega) (fun j x hj ⟨h1,h2,h3,h4,h5⟩=>?_) ⟨rfl,rfl,rfl,rfl,Nat.zero_le _⟩
  have e0:(vF x).isSome=true:=Nx _
  have e1:(vG x).isSome=true:=Nx _
  have e2:(vH x).isSome=true:=Nx _
  have w1:aB (x.t19+1)=x.t19+1:=mQ (by omega) (by omega)
  unfold mN
  by_cases h:x.t19 < x.t18
  · simp only [e0,e1,e2,w1,cond_true,Bool.and_self,decide_eq_true h,decide_eq_true (show (0:Int)≤x.t19 by omega),decide_eq_true (show x.t19 < ((x.t17.n:Nat):Int) by rw [h2]; omega)]
    cases (!((vF x).getD default)) with
    | true=>exact .inr ⟨_,_,rfl,rfl,.inl rfl⟩
    | false=>
      cases (!((vG x).getD default)) with
      | true=>exact .inr ⟨_,_,rfl,rfl,.inl rfl⟩
      | false=>
        cases (!((vH x).getD default)) with
        | true=>exact .inr ⟨_,_,rfl,rfl,.inl rfl⟩
        | false=>exact .inl ⟨_,rfl,by omega,h1,h2,h3,by show x.t19+1=_; omega,by omega⟩
  · simp only [cond_false,decide_eq_false h]
    exact .inr ⟨_,_,rfl,rfl,.inr ⟨rfl,h1⟩⟩
theorem aeA (x:jO) (hn:x.t49.n≤4096) (h0:x.t50=(x.t49.n:Int)) (h1:x.t51=0):∃ x',goN ku x = .out (.exit 2) x':=by
  obtain ⟨e,x',h,rfl⟩:=dP (step:=ku) (x:=x) (fun j y=>y.t49=x.t49∧y.t50=(x.t49.n:Int)∧y.t51=(j:Int)∧j≤x.t49.n) (fun e _=>e = .exit 2) x.t49.n (by have:mV=1000000000000:=rfl; omega) (fun j y hj ⟨h2,h3,h4,h5⟩=>by
    have w1:aB (y.t51+1)=y.t51+1:=mQ (by omega) (by omega)
    unfold ku
    by_cases h:y.t51 < y.t50
    · simp only [w1,cond_true,Bool.and_self,decide_eq_true h,decide_eq_true (show (0:Int)≤y.t51 by omega),decide_eq_true (show y.t51 < ((y.t49.n:Nat):Int) by rw [h2]; omega)]
      exact .inl ⟨_,rfl,by omega,h2,h3,by show y.t51+1=_; omega,by omega⟩
    · simp only [cond_false,decide_eq_false h]
      exact .inr ⟨_,_,rfl,rfl,rfl⟩) ⟨rfl,h0,h1,Nat.zero_le _⟩
  exact ⟨x',h⟩
theorem acm (l:Sl pe):(zl l).isSome=true:=by
  unfold zl
  refine tE (fun _=>rfl) (fun h0=>tE (fun _=>rfl) (fun h1=>?_))
  have hz:l.n≠0:=fun h=>by
    rw [h] at h0
    exact absurd h0 (by decide)
  have hn:l.n≤4096:=by
    have:=of_decide_eq_false h1
    omega
  obtain ⟨e,x',hx,h⟩:=afB l hn
  rcases h with rfl | ⟨rfl,hl⟩
  · have b1:(eU l).by (.exit 0)=false:=by rw [hx]; rfl
    have b2:(eU l).by .ret=true:=by rw [hx]; rfl
    simp only [b1,b2,cond_true,cond_false]
    rfl
  · have b1:(eU l).by (.exit 0)=true:=by rw [hx]; rfl
    have b2:(eU l).st.l=l:=by rw [hx]; exact hl
    obtain ⟨y,hy⟩:∃ y,xX l = .out (.exit 2) y:=by
      unfold xX
      simp only [b2]
      exact aeA _ (by show Int.toNat _ - 1≤4096; omega) rfl rfl
    have b3:(xX l).by (.exit 2)=true:=by rw [hy]; rfl
    simp only [b1,b2,b3,cond_true,Bool.and_self,decide_eq_true (show (0:Int) < ((l.n:Nat):Int) by omega),decide_eq_true (show (1:Int)≤((l.n:Nat):Int) by omega),decide_eq_true (show ((l.n:Nat):Int)≤((l.n:Nat):Int) by omega)]
    rfl
theorem YI (n:Int):(mO n).isSome=true:=by
  unfold mO
  exact tE (fun _=>rfl) (fun _=>rfl)
theorem Wo (t:jP):(nv t).isSome=true:=by
  have e0:(uk t).isSome=true:=YI _
  have e1:(um t).isSome=true:=YI _
  unfold nv
  simp only [e0,e1,cond_true]
  repeat' (refine tE (fun _=>?_) (fun _=>?_))
  all_goals rfl
theorem Tq (l:Sl jP):(mA l).isSome=true:=by
  unfold mA
  refine tE (fun _=>rfl) (fun h0=>?_)
  have hn:l.n≤16:=by
    have:=of_decide_eq_false h0
    omega
  obtain ⟨e,x',h1,h2⟩:∃ e x',ib l = .out e x'∧(e = .ret∨e = .exit 0):=by
    unfold ib
    refine dP (step:=gf) (fun j x=>x.t9=l∧x.t10=(l.n:Int)∧x.t11=(j:Int)∧j≤l.n) (fun e _=>e = .ret∨e = .exit 0) l.n (by have:mV=1000000000000:=rfl; omega) (fun j x hj ⟨h2,h3,h4,h5⟩=>?_) ⟨rfl,rfl,rfl,Nat.zero_le _⟩
    have e0:(lh x).isSome=true:=Wo _
    have w1:aB (x.t11+1)=x.t11+1:=mQ (by omega) (by omega)
    unfold gf
    by_cases h:x.t11 < x.t10
    · simp only [e0,w1,cond_true,Bool.and_self,decide_eq_true h,decide_eq_true (show (0:Int)≤x.t11 by omega),decide_eq_true (show x.t11 < ((x.t9.n:Nat):Int) by rw [h2]; omega)]
      cases (((lh x).getD default) != (0:Int)) with
      | true=>exact .inr ⟨_,_,rfl,rfl,.inl rfl⟩
      | false=>exact .inl ⟨_,rfl,by omega,h2,h3,by show x.t11+1=_; omega,by omega⟩
    · simp only [cond_false,decide_eq_false h]
      exact .inr ⟨_,_,rfl,rfl,.inr rfl⟩
  rcases h2 with rfl | rfl
  · have b1:(ib l).by (.exit 0)=false:=by rw [h1]; rfl
    have b2:(ib l).by .ret=true:=by rw [h1]; rfl
    simp only [b1,b2,cond_true,cond_false]
    rfl
  · have b1:(ib l).by (.exit 0)=true:=by rw [h1]; rfl
    simp only [b1,cond_true]
    rfl
theorem aeB (l:LW) (t:Int):(lQ l t).isSome=true:=by
  unfold lQ
  repeat' (refine tE (fun _=>?_) (fun _=>?_))
  all_goals rfl
end Go.Proofs.Ytahhdndhkgbcjaa.b
end
section
namespace Go.Proofs.Ytahhdndhkgbcjaa.b
open Go.K
open Go.av (ai)
theorem aeC (x:Item) (t:Int) (hn:x.hJ.n≤64) (hu:x.uV.n=x.hJ.n):∃ e x',eO x t = .out e x'∧(e = .ret∧x'.t4=false∨e = .exit 0∧x'.n=(x.hJ.n:Int)∧x'.x=x∧x'.t4=false):=by
  unfold eO
  refine dP (step:=jx) (fun j y=>y.x=x∧y.t38=x.hJ∧y.t39=(x.hJ.n:Int)∧y.t40=(j:Int)∧j≤x.hJ.n∧y.n=(x.hJ.n:Int)∧y.t4=false) (fun e y=>e = .ret∧y.t4=false∨e = .exit 0∧y.n=(x.hJ.n:Int)∧y.x=x∧y.t4=false) x.hJ.n (by have:mV=1000000000000:=rfl; omega) (fun j y hj ⟨h1,h2,h3,h4,h5,h6,h7⟩=>?_) ⟨rfl,rfl,rfl,rfl,Nat.zero_le _,rfl,rfl⟩
  have e0:(qj y).isSome=true:=Wn _
  have w1:aB (y.t40+1)=y.t40+1:=mQ (by omega) (by omega)
  unfold jx
  by_cases h:y.t40 < y.t39
  · simp only [e0,w1,cond_true,Bool.and_self,decide_eq_true h,decide_eq_true (show (0:Int)≤y.t40 by omega),decide_eq_true (show y.t40 < ((y.t38.n:Nat):Int) by rw [h2]; omega),decide_eq_true (show y.t40 < ((y.x.uV.n:Nat):Int) by rw [h1]; omega)]
    cases (((qj y).getD default) != (0:Int)) with
    | true=>exact .inr ⟨_,_,rfl,rfl,.inl ⟨rfl,rfl⟩⟩
    | false=>
      cases (decide ((min (y.x.uV.get (Int.toNat y.t40)).e0 (y.x.uV.get (Int.toNat y.t40)).e1) < (0:Int))) with
      | true=>exact .inr ⟨_,_,rfl,rfl,.inl ⟨rfl,rfl⟩⟩
      | false=>
        cases (decide ((max (y.x.uV.get (Int.toNat y.t40)).e0 (y.x.uV.get (Int.toNat y.t40)).e1) > (255:Int))) with
        | true=>exact .inr ⟨_,_,rfl,rfl,.inl ⟨rfl,rfl⟩⟩
        | false=>exact .inl ⟨_,rfl,by omega,h1,h2,h3,by show y.t40+1=_; omega,by omega,h6,h7⟩
  · simp only [cond_false,decide_eq_false h]
    exact .inr ⟨_,_,rfl,rfl,.inr ⟨rfl,h6,h1,h7⟩⟩
def SA (l:Sl AY) (n:Int) (i:Nat):Prop:=(0≤(l.get i).e0∧(l.get i).e0 < n)∧(0≤(l.get i).e1∧(l.get i).e1 < n)∧0≤(l.get i).e2∧(l.get i).e2 < n
theorem aeD (x:eJ) (hn:x.t82.n≤64) (h0:x.t83=(x.t82.n:Int)) (h1:x.t84=0) (h2:x.t4=false):∃ e x',goN ic x = .out e x'∧(e = .ret∧x'.t4=false∨e = .exit 2∧x'.n=x.n∧x'.x=x.x∧∀ i,i < x.t82.n→SA x.t82 x.n i):=by
  refine dP (step:=ic) (fun j y=>y.x=x.x∧y.t82=x.t82∧y.t83=(x.t82.n:Int)∧y.t84=(j:Int)∧j≤x.t82.n∧y.n=x.n∧y.t4=false∧∀ i,i < j→SA x.t82 x.n i) (fun e y=>e = .ret∧y.t4=false∨e = .exit 2∧y.n=x.n∧y.x=x.x∧∀ i,i < x.t82.n→SA x.t82 x.n i) x.t82.n (by have:mV=1000000000000:=rfl; omega) (fun j y hj ⟨h1,h2,h3,h4,h5,h6,h7,h8⟩=>?_) ⟨rfl,rfl,h0,h1,Nat.zero_le _,rfl,h2,fun i h=>absurd h (Nat.not_lt_zero _)⟩
  have w1:aB (y.t84+1)=y.t84+1:=mQ (by omega) (by omega)
  unfold ic
  by_cases h:y.t84 < y.t83
  · simp only [w1,cond_true,Bool.and_self,decide_eq_true h,decide_eq_true (show (0:Int)≤y.t84 by omega),decide_eq_true (show y.t84 < ((y.t82.n:Nat):Int) by rw [h2]; omega)]
    cases g1:decide ((min (min (y.t82.get (Int.toNat y.t84)).e0 (y.t82.get (Int.toNat y.t84)).e1) (y.t82.get (Int.toNat y.t84)).e2) < (0:Int)) with
    | true=>exact .inr ⟨_,_,rfl,rfl,.inl ⟨rfl,rfl⟩⟩
    | false=>
      cases g2:decide ((max (max (y.t82.get (Int.toNat y.t84)).e0 (y.t82.get (Int.toNat y.t84)).e1) (y.t82.get (Int.toNat y.t84)).e2) ≥ y.n) with
      | true=>exact .inr ⟨_,_,rfl,rfl,.inl ⟨rfl,rfl⟩⟩
      | false=>
        refine .inl ⟨_,rfl,by omega,h1,h2,h3,by show y.t84+1=_; omega,by omega,h6,h7,fun i hi=>?_⟩
        by_cases hij:i < j
        · exact h8 i hij
        · have e:i=j:=by omega
          subst e
          have g1':=of_decide_eq_false g1
          have g2':=of_decide_eq_false g2
          rw [h2,h4,Int.toNat_natCast] at g1' g2'
          rw [h6] at g2'
          unfold SA
          omega
  · simp only [cond_false,decide_eq_false h]
    exact .inr ⟨_,_,rfl,rfl,.inr ⟨rfl,h6,h1,fun i hi=>h8 i (by omega)⟩⟩
theorem acn (x:Item) (t:Int):∃ b,sq x t=some b∧(b=true→x.hJ.n≤64∧x.dp.n≤64∧I6 x):=by
  have no:∃ b,(some false:Option Bool)=some b∧(b=true→x.hJ.n≤64∧x.dp.n≤64∧I6 x):=⟨false,rfl,fun h=>absurd h (by decide)⟩
  unfold sq
  cases g1:decide (((x.hJ.n:Nat):Int) > (64:Int)) with
  | true=>exact no
  | false=>
  cases g2:(((x.uV.n:Nat):Int) != ((x.hJ.n:Nat):Int)) with
  | true=>exact no
  | false=>
  cases g3:decide (((x.dp.n:Nat):Int) > (64:Int)) with
  | true=>exact no
  | false=>
  have e0:(vM x t).isSome=true:=aeB _ _
  simp only [cond_false,cond_true,e0]
  cases (((vM x t).getD default) != (0:Int)) with
  | true=>exact no
  | false=>
  have hv:x.hJ.n≤64:=by
    have:=of_decide_eq_false g1
    omega
  have ht:x.dp.n≤64:=by
    have:=of_decide_eq_false g3
    omega
  have hu:x.uV.n=x.hJ.n:=by
    have:((x.uV.n:Nat):Int)=((x.hJ.n:Nat):Int):=by simpa using g2
    omega
  obtain ⟨e,y,hy,h⟩:=aeC x t hv hu
  rcases h with ⟨rfl,hf⟩ | ⟨rfl,hn,hx,hf⟩
  · have b1:(eO x t).by (.exit 0)=false:=by rw [hy]; rfl
    have b2:(eO x t).by .ret=true:=by rw [hy]; rfl
    have b3:(eO x t).st.t4=false:=by rw [hy]; exact hf
    simp only [b1,b2,b3,cond_true,cond_false]
    exact no
  · have b1:(eO x t).by (.exit 0)=true:=by rw [hy]; rfl
    have s1:(eO x t).st=y:=by rw [hy]; rfl
    obtain ⟨e,z,hz,h⟩:∃ e z,dR x t = .out e z∧(e = .ret∧z.t4=false∨e = .exit 2∧z.n=(x.hJ.n:Int)∧z.x=x∧∀ i,i < x.dp.n→SA x.dp (x.hJ.n:Int) i):=by
      unfold dR
      rw [s1,hn,hx]
      exact aeD _ ht rfl rfl hf
    rcases h with ⟨rfl,OM⟩ | ⟨rfl,_,ZH,im⟩
    · have b2:(dR x t).by (.exit 2)=false:=by rw [hz]; rfl
      have b3:(dR x t).by .ret=true:=by rw [hz]; rfl
      have b4:(dR x t).st.t4=false:=by rw [hz]; exact OM
      simp only [b1,b2,b3,b4,cond_true,cond_false]
      exact no
    · have b2:(dR x t).by (.exit 2)=true:=by rw [hz]; rfl
      have e3:(lj x t).isSome=true:=acm _
      simp only [b1,b2,e3,cond_true]
      have ok:x.hJ.n≤64∧x.dp.n≤64∧I6 x:=⟨hv,ht,hu,im⟩
      have q:∀ {c:Bool} {a b:Option Bool},(∃ r,a=some r∧(r=true→x.hJ.n≤64∧x.dp.n≤64∧I6 x))→(∃ r,b=some r∧(r=true→x.hJ.n≤64∧x.dp.n≤64∧I6 x))→∃ r,_root_.cond c a b=some r∧(r=true→x.hJ.n≤64∧x.dp.n≤64∧I6 x):=fun {c} {a} {b} h1 h2=>by
        cases c with
        | true=>exact h1
        | false=>exact h2
      repeat' (refine q ?_ ?_)
      all_goals first | exact no | exact ⟨_,rfl,fun _=>ok⟩
def vU (s:Show):Prop:=s.items.n≤256∧∀ i,i < s.items.n→(s.items.get i).hJ.n≤64∧(s.items.get i).dp.n≤64∧I6 (s.items.get i)
theorem Pd (s:Show):∃ e,ll s=some e∧(e=0→vU s):=by
  have no:∀ k:Int,k≠0→∃ e,(some k:Option Int)=some e∧(e=0→vU s):=fun k hk=>⟨k,rfl,fun h=>absurd h hk⟩
  unfold ll
  cases g1:decide (((s.items.n:Nat):Int) > (256:Int)) with
  | true=>exact no 4 (by decide)
  | false=>
  cases decide (((s.bN.n:Nat):Int) > (16:Int)) with
  | true=>exact no 4 (by decide)
  | false=>
  have hn:s.items.n≤256:=by
    have:=of_decide_eq_false g1
    omega
  have e0:(ss s).isSome=true:=Tq _
  simp only [e0,cond_true,cond_false]
  cases (((ss s).getD default) != (0:Int)) with
  | true=>exact no 8 (by decide)
  | false=>
  obtain ⟨e,x',hx,h⟩:∃ e x',jk s = .out e x'∧(e = .ret∧x'.t4 ≥ 0∨e = .exit 0∧∀ i,i < s.items.n→(s.items.get i).hJ.n≤64∧(s.items.get i).dp.n≤64∧I6 (s.items.get i)):=by
    unfold jk
    refine dP (step:=ca) (fun j y=>y.s=s.items∧y.t7=(s.items.n:Int)∧y.t8=(j:Int)∧j≤s.items.n∧∀ i,i < j→(s.items.get i).hJ.n≤64∧(s.items.get i).dp.n≤64∧I6 (s.items.get i)) (fun e x'=>e = .ret∧x'.t4 ≥ 0∨e = .exit 0∧∀ i,i < s.items.n→(s.items.get i).hJ.n≤64∧(s.items.get i).dp.n≤64∧I6 (s.items.get i)) s.items.n (by have:mV=1000000000000:=rfl; omega) (fun j y hj ⟨h1,h2,h3,h4,h5⟩=>?_) ⟨rfl,rfl,rfl,Nat.zero_le _,fun i h=>absurd h (Nat.not_lt_zero _)⟩
    obtain ⟨b,hb,bc⟩:=acn (y.s.get (Int.toNat y.t8)) ((y.YF.bN.n:Nat):Int)
    have e0:gF y=some b:=hb
    have w1:aB (y.t8+1)=y.t8+1:=mQ (by omega) (by omega)
    unfold ca
    by_cases h:y.t8 < y.t7
    · simp only [e0,w1,cond_true,Bool.and_self,Option.isSome_some,Option.getD_some,decide_eq_true h,decide_eq_true (show (0:Int)≤y.t8 by omega),decide_eq_true (show y.t8 < ((y.s.n:Nat):Int) by rw [h1]; omega)]
      cases b with
      | false=>exact .inr ⟨_,_,rfl,rfl,.inl ⟨rfl,by show y.t8 ≥ 0; omega⟩⟩
      | true=>
        refine .inl ⟨_,rfl,by omega,h1,h2,by show y.t8+1=_; omega,by omega,fun i hi=>?_⟩
        by_cases hij:i < j
        · exact h5 i hij
        · have e:i=j:=by omega
          subst e
          have:=bc rfl
          rw [h1,h3,Int.toNat_natCast] at this
          exact this
    · simp only [cond_false,decide_eq_false h]
      exact .inr ⟨_,_,rfl,rfl,.inr ⟨rfl,fun i hi=>h5 i (by omega)⟩⟩
  rcases h with ⟨rfl,hp⟩ | ⟨rfl,im⟩
  · have b1:(jk s).by (.exit 0)=false:=by rw [hx]; rfl
    have b2:(jk s).by .ret=true:=by rw [hx]; rfl
    have b3:decide ((jk s).st.t4 ≥ (0:Int))=true:=by rw [hx]; exact decide_eq_true hp
    simp only [b1,b2,b3,cond_true,cond_false]
    exact no 8 (by decide)
  · have b1:(jk s).by (.exit 0)=true:=by rw [hx]; rfl
    simp only [b1,cond_true]
    exact ⟨0,rfl,fun _=>⟨hn,im⟩⟩
end Go.Proofs.Ytahhdndhkgbcjaa.b
end
section
namespace Go.Proofs.Ytahhdndhkgbcjaa.b
open Go.K
open Go.av (ai)
end Go.Proofs.Ytahhdndhkgbcjaa.b
end
section
namespace Go.Proofs.Ytahhdndhkgbcjaa.b
open Go.K
open Go.av (ai)
end Go.Proofs.Ytahhdndhkgbcjaa.b
end
section
namespace Go.Proofs.Ytahhdndhkgbcjaa.b
open Go.K
open Go.av (ai)
end Go.Proofs.Ytahhdndhkgbcjaa.b
end
section
namespace Go.Proofs.Ytahhdndhkgbcjaa.b
open Go.K
open Go.av (ai)
end Go.Proofs.Ytahhdndhkgbcjaa.b
end
section
namespace Go.Proofs.Ytahhdndhkgbcjaa.b
open Go.K
open Go.av (ai)
end Go.Proofs.Ytahhdndhkgbcjaa.b
end
section
namespace Go.Proofs.Ytahhdndhkgbcjaa.b
open Go.K
open Go.av (ai)
end Go.Proofs.Ytahhdndhkgbcjaa.b
end
section
namespace Go.Proofs.Ytahhdndhkgbcjaa.b
open Go.K
open Go.av (ai)
end Go.Proofs.Ytahhdndhkgbcjaa.b
end
section
namespace Go.Proofs.Ytahhdndhkgbcjaa.b
open Go.K
open Go.av (ai)
end Go.Proofs.Ytahhdndhkgbcjaa.b
end
section
namespace Go.Proofs.Ytahhdndhkgbcjaa.b
open Go.K
open Go.av (ai)
end Go.Proofs.Ytahhdndhkgbcjaa.b
end
section
namespace Go.Proofs.Ytahhdndhkgbcjaa.b
open Go.K
open Go.av (ai)
end Go.Proofs.Ytahhdndhkgbcjaa.b
end
section
namespace Go.Proofs.Ytahhdndhkgbcjaa.b
open Go.K
open Go.av (ai)
end Go.Proofs.Ytahhdndhkgbcjaa.b
end
section
namespace Go.Proofs.Ytahhdndhkgbcjaa.b
open Go.K
open Go.av (ai)
def s7 (d e:aZ):Bool:=(e.item == d.item) && ((e.GD == d.GD) && true)
end Go.Proofs.Ytahhdndhkgbcjaa.b
end
section
namespace Go.Proofs.Ytahhdndhkgbcjaa.b
open Go.K
open Go.av (ai)
theorem aai (l:Sl jP):(sA l).isSome=true:=by
  obtain ⟨e,z,hz,rfl⟩:∃ e z,pH l = .out e z∧e = .exit 0:=by
    unfold pH
    refine dP (step:=ke) (fun j y=>y.i=(j:Int)) (fun e _=>e = .exit 0) 100 (by decide) (fun j y hj f1=>?_) rfl
    have w1:aB (y.i+1)=y.i+1:=mQ (by omega) (by omega)
    unfold ke
    cases h:decide (y.i < ((y.l.n:Nat):Int)) with
    | false=>exact .inr ⟨_,_,rfl,rfl,rfl⟩
    | true=>
      cases h2:decide (y.i < (100:Int)) with
      | false=>exact .inr ⟨_,_,rfl,rfl,rfl⟩
      | true=>
        have B6:=of_decide_eq_true h2
        simp only [w1,cond_true,Bool.and_self,decide_eq_true (show (0:Int)≤y.i by omega)]
        exact .inl ⟨_,rfl,by omega,by show y.i+1=_; omega⟩
  have b1:(pH l).by (.exit 0)=true:=by rw [hz]; rfl
  unfold sA
  simp only [b1,cond_true]
  exact tE (fun _=>rfl) (fun _=>rfl)
theorem aco (s:Show):(sD s).isSome=true:=by
  obtain ⟨e,z,hz,rfl⟩:∃ e z,nF s = .out e z∧e = .exit 0:=by
    unfold nF
    refine dP (step:=kf) (fun j y=>y.i=(j:Int)) (fun e _=>e = .exit 0) 300 (by decide) (fun j y hj f1=>?_) rfl
    have w1:aB (y.i+1)=y.i+1:=mQ (by omega) (by omega)
    unfold kf
    cases h:decide (y.i < ((y.s.items.n:Nat):Int)) with
    | false=>exact .inr ⟨_,_,rfl,rfl,rfl⟩
    | true=>
      cases h2:decide (y.i < (300:Int)) with
      | false=>exact .inr ⟨_,_,rfl,rfl,rfl⟩
      | true=>
        have B6:=of_decide_eq_true h2
        simp only [w1,cond_true,Bool.and_self,decide_eq_true (show (0:Int)≤y.i by omega)]
        exact .inl ⟨_,rfl,by omega,by show y.i+1=_; omega⟩
  have b1:(nF s).by (.exit 0)=true:=by rw [hz]; rfl
  have e1:(Ac s).isSome=true:=aai _
  unfold sD
  simp only [b1,e1,cond_true]
  exact tE (fun _=>rfl) (fun _=>tE (fun _=>rfl) (fun _=>rfl))
end Go.Proofs.Ytahhdndhkgbcjaa.b
end
section
namespace Go.K.vV
variable {α:Type}
def b2 (b:Bool):Nat:=cond b 1 0
def lG (p:α→Bool) (d:Nat→α) (a:Nat):Nat→Nat
  | 0=>0
  | k+1=>lG p d a k+b2 (p (d (a+k)))
theorem mR {p:α→Bool} {d d' : Nat→α} {a b:Nat} : ∀ {k:Nat},(∀ i,i < k→d (a+i)=d' (b+i))→lG p d a k=lG p d' b k
  | 0,_=>rfl
  | k+1,h=>by
    rw [lG,lG,mR (k:=k) fun i hi=>h i (by omega),h k (by omega)]
theorem mo {p:α→Bool} {d:Nat→α} {a k:Nat} : ∀ (l:Nat),lG p d a (k+l)=lG p d a k+lG p d (a+k) l
  | 0=>by simp [lG]
  | l+1=>by
    show lG p d a (k+l)+b2 (p (d (a+(k+l))))=lG p d a k+(lG p d (a+k) l+b2 (p (d (a+k+l))))
    rw [mo l,Nat.add_assoc a k l]
    omega
theorem GM {p:α→Bool} {d:Nat→α} {a:Nat} : lG p d a 1=b2 (p (d a)):=by simp [lG]
theorem SB {p:α→Bool} {d:Nat→α} {a:Nat} : ∀ {k:Nat},0 < lG p d a k→∃ i,i < k∧p (d (a+i))=true
  | 0,h=>by simp [lG] at h
  | k+1,h=>by
    rw [lG] at h
    cases hp:p (d (a+k)) with
    | true=>exact ⟨k,by omega,hp⟩
    | false=>
      rw [hp] at h
      obtain ⟨i,h1,h2⟩:=SB (k:=k) (by simpa [b2] using h)
      exact ⟨i,by omega,h2⟩
theorem SC {p:α→Bool} {d:Nat→α} {a i:Nat} : ∀ {k:Nat},i < k→p (d (a+i))=true→0 < lG p d a k
  | 0,h,_=>by omega
  | k+1,h,hp=>by
    rw [lG]
    by_cases e:i=k
    · subst e; rw [hp]; simp [b2]
    · have:=SC (k:=k) (by omega) hp
      omega
def Perm (d d' : Nat→α) (a b:Nat):Prop:=(∀ p:α→Bool,lG p d' a (b - a)=lG p d a (b - a))∧∀ i,i < a∨b≤i→d' i=d i
theorem Perm.refl (d:Nat→α) (a b:Nat):Perm d d a b:=⟨fun _=>rfl,fun _ _=>rfl⟩
theorem Perm.trans {d d' d'' : Nat→α} {a b:Nat} (h:Perm d d' a b) (k:Perm d' d'' a b):Perm d d'' a b:=⟨fun p=>(k.1 p).trans (h.1 p),fun i hi=>(k.2 i hi).trans (h.2 i hi)⟩
theorem Perm.wide {d d' : Nat→α} {a b a' b' : Nat} (h:Perm d d' a b) (h1:a'≤a) (h2:a≤b) (h3:b≤b'):Perm d d' a' b':=by
  refine ⟨fun p=>?_,fun i hi=>h.2 i (by omega)⟩
  have e:b' - a' = (a - a')+((b - a)+(b' - b)):=by omega
  rw [e,mo,mo,mo (d:=d),mo (d:=d)]
  rw [show a' + (a - a')=a by omega,h.1 p,show a+(b - a)=b by omega]
  rw [mR (d:=d') (d':=d) (a:=a') (b:=a') fun i hi=>h.2 _ (by omega),mR (d:=d') (d':=d) (a:=b) (b:=b) fun i hi=>h.2 _ (by omega)]
theorem Perm.mem {d d' : Nat→α} {a b:Nat} (h:Perm d d' a b) {i:Nat} (h1:a≤i) (h2:i < b):∃ j,a≤j∧j < b∧d' i=d j:=by
  classical
  have:=SC (p:=fun x=>decide (x=d' i)) (d:=d') (a:=a) (i:=i - a) (k:=b - a) (by omega) (by simp [show a+(i - a)=i by omega])
  rw [h.1] at this
  obtain ⟨j,h3,h4⟩:=SB this
  exact ⟨a+j,by omega,by omega,(of_decide_eq_true h4).symm⟩
def ins (d:Nat→α) (j i:Nat):Nat→α:=fun t=>if t < j then d t else if t=j then d i else if t≤i then d (t - 1) else d t
theorem tR {d:Nat→α} {j i t:Nat} (h:t < j):ins d j i t=d t:=by simp [ins,h]
theorem Ba {d:Nat→α} {j i:Nat} : ins d j i j=d i:=by simp [ins]
theorem CY {d:Nat→α} {j i t:Nat} (h:j < t) (h2:t≤i):ins d j i t=d (t - 1):=by
  rw [ins,if_neg (by omega),if_neg (by omega),if_pos h2]
theorem PA {d:Nat→α} {j i t:Nat} (h:j≤i) (h2:i < t):ins d j i t=d t:=by
  rw [ins,if_neg (by omega),if_neg (by omega),if_neg (by omega)]
theorem Ur {d:Nat→α} {i:Nat} : ins d i i=d:=by
  funext t
  by_cases h:t < i
  · exact tR h
  · by_cases e:t=i
    · subst e; exact Ba
    · exact PA (Nat.le_refl _) (by omega)
theorem Ut {d:Nat→α} {a j i:Nat} (h1:a≤j) (h2:j≤i):Perm d (ins d j i) a (i+1):=by
  refine ⟨fun p=>?_,fun t ht=>?_⟩
  · have e:i+1 - a=(j - a)+(1+(i - j)):=by omega
    have e2:i+1 - a=(j - a)+((i - j)+1):=by omega
    rw [e,mo,mo,GM,show a+(j - a)=j by omega,Ba]
    rw [← e,e2,mo,mo (k:=i - j),GM,show a+(j - a)=j by omega,show j+(i - j)=i by omega]
    rw [mR (d:=ins d j i) (d':=d) (a:=a) (b:=a) fun t ht=>tR (by omega),mR (d:=ins d j i) (d':=d) (a:=j+1) (b:=j) fun t ht=>by rw [CY (by omega) (by omega)]; congr 1; omega]
    omega
  · rcases ht with ht | ht
    · exact tR (by omega)
    · exact PA h2 (by omega)
theorem Uu {d:Nat→α} {j i t:Nat} (h:j≤i) (h1:1≤j):ins d (j - 1) i t=if t=j - 1 then ins d j i j else if t=j then ins d j i (j - 1) else ins d j i t:=by
  by_cases e:t=j - 1
  · subst e; rw [if_pos rfl,Ba,Ba]
  · rw [if_neg e]
    by_cases e2:t=j
    · subst e2; rw [if_pos rfl,CY (by omega) h,tR (by omega)]
    · rw [if_neg e2]
      by_cases e3:t < j
      · rw [tR (by omega),tR e3]
      · by_cases e4:t≤i
        · rw [CY (by omega) e4,CY (by omega) e4]
        · rw [PA (by omega) (by omega),PA h (by omega)]
def CZ (d:Nat→α) (a k:Nat):Nat→α:=fun t=>if t < a then d t else if t < k then d (t+1) else if t=k then d a else d t
theorem PB {d:Nat→α} {a k t:Nat} (h:t < a):CZ d a k t=d t:=by simp [CZ,h]
theorem x5 {d:Nat→α} {a k t:Nat} (h:a≤t) (h2:t < k):CZ d a k t=d (t+1):=by
  rw [CZ,if_neg (by omega),if_pos h2]
theorem HH {d:Nat→α} {a k:Nat} (h:a≤k):CZ d a k k=d a:=by
  rw [CZ,if_neg (by omega),if_neg (by omega),if_pos rfl]
theorem Eh {d:Nat→α} {a k t:Nat} (h:a≤k) (h2:k < t):CZ d a k t=d t:=by
  rw [CZ,if_neg (by omega),if_neg (by omega),if_neg (by omega)]
theorem acp {d:Nat→α} {a:Nat} : CZ d a a=d:=by
  funext t
  by_cases h:t < a
  · exact PB h
  · by_cases e:t=a
    · subst e; exact HH (Nat.le_refl _)
    · exact Eh (Nat.le_refl _) (by omega)
theorem acq {d:Nat→α} {a k:Nat} (h:a≤k):Perm d (CZ d a k) a (k+1):=by
  refine ⟨fun p=>?_,fun t ht=>?_⟩
  · have e:k+1 - a=(k - a)+1:=by omega
    have e2:k+1 - a=1+(k - a):=by omega
    rw [e,mo,GM,show a+(k - a)=k by omega,HH h,← e,e2,mo,GM]
    rw [mR (d:=CZ d a k) (d':=d) (a:=a) (b:=a+1) fun t ht=>by rw [x5 (by omega) (by omega)]; congr 1; omega]
    omega
  · rcases ht with ht | ht
    · exact PB ht
    · exact Eh h (by omega)
theorem acr {d:Nat→α} {a k t:Nat} (h:a≤k):CZ d a (k+1) t=if t=k then CZ d a k (k+1) else if t=k+1 then CZ d a k k else CZ d a k t:=by
  by_cases e:t=k
  · subst e; rw [if_pos rfl,x5 h (by omega),Eh h (by omega)]
  · rw [if_neg e]
    by_cases e2:t=k+1
    · subst e2; rw [if_pos rfl,HH (by omega),HH h]
    · rw [if_neg e2]
      by_cases e3:t < a
      · rw [PB e3,PB e3]
      · by_cases e4:t < k
        · rw [x5 (by omega) (by omega),x5 (by omega) e4]
        · rw [Eh (by omega) (by omega),Eh h (by omega)]
def za (d:Nat→α) (a m b:Nat):Nat→α:=fun t=>if t < a then d t else if t < a+(b - m) then d (t+(m - a)) else if t < b then d (t - (b - m)) else d t
theorem C0 {d:Nat→α} {a m b t:Nat} (h1:a≤m) (h2:m≤b) (h:t < a∨b≤t):za d a m b t=d t:=by
  rcases h with h | h
  · simp [za,h]
  · rw [za,if_neg (by omega),if_neg (by omega),if_neg (by omega)]
theorem HI {d:Nat→α} {a m b t:Nat} (h1:a≤t) (h2:t < a+(b - m)):za d a m b t=d (t+(m - a)):=by
  rw [za,if_neg (by omega),if_pos h2]
theorem Ei {d:Nat→α} {a m b t:Nat} (h1:a+(b - m)≤t) (h2:t < b):za d a m b t=d (t - (b - m)):=by
  rw [za,if_neg (by omega),if_neg (by omega),if_pos h2]
theorem acs {d:Nat→α} {a m b:Nat} (h1:a≤m) (h2:m≤b):Perm d (za d a m b) a b:=by
  refine ⟨fun p=>?_,fun t ht=>C0 h1 h2 ht⟩
  have e:b - a=(b - m)+(m - a):=by omega
  have e2:b - a=(m - a)+(b - m):=by omega
  rw [e,mo,← e,e2,mo,show a+(m - a)=m by omega]
  rw [mR (d:=za d a m b) (d':=d) (a:=a) (b:=m) fun t ht=>by rw [HI (by omega) (by omega)]; congr 1; omega,mR (d:=za d a m b) (d':=d) (a:=a+(b - m)) (b:=a) fun t ht=>by rw [Ei (by omega) (by omega)]; congr 1; omega]
  omega
structure Ord (α:Type) where
  key:α→Int
  fg:α→α→Prop
def Ord.lt (o:Ord α) (x y:α):Prop:=o.key x < o.key y∨(o.key x=o.key y∧o.fg x y)
theorem Ord.afC {o:Ord α} {x y:α} (h:o.lt x y):o.key x≤o.key y:=by rcases h with h | h <;> omega
theorem Ord.aaj {o:Ord α} {x y:α} (h:o.key x≤o.key y) (h0:o.fg x y):o.lt x y:=by
  by_cases e:o.key x=o.key y
  · exact .inr ⟨e,h0⟩
  · exact .inl (by omega)
def eF (o:Ord α) (d:Nat→α) (a b:Nat):Prop:=∀ i j,a≤i→i < j→j < b→o.lt (d i) (d j)
def Ah (o:Ord α) (d:Nat→α) (a m b:Nat):Prop:=∀ i j,a≤i→i < m→m≤j→j < b→o.fg (d i) (d j)
variable {o:Ord α}
theorem eF.key {d:Nat→α} {a b:Nat} (h:eF o d a b) {i j:Nat} (h1:a≤i) (h2:i≤j) (h3:j < b):o.key (d i)≤o.key (d j):=by
  by_cases e:i=j
  · subst e; exact Int.le_refl _
  · exact Ord.afC (h i j h1 (by omega) h3)
theorem eF.congr {d d' : Nat→α} {a b:Nat} (h:eF o d a b) (e:∀ i,a≤i→i < b→d' i=d i):eF o d' a b:=fun i j h1 h2 h3=>by
  rw [e i h1 (by omega),e j (by omega) h3]; exact h i j h1 h2 h3
theorem eF.one {d:Nat→α} {a b:Nat} (h:b≤a+1):eF o d a b:=fun i j h1 h2 h3=>by omega
theorem OB {d:Nat→α} {a j i:Nat} (hs:eF o d a i) (hc:Ah o d a i (i+1)) (h1:a≤j) (h2:j≤i) (hl:∀ s,a≤s→s < j→o.key (d s)≤o.key (d i)) (hr:∀ t,j≤t→t < i→o.key (d i) < o.key (d t)):eF o (ins d j i) a (i+1):=by
  intro s t q1 q2 q3
  by_cases ht:t < j
  · rw [tR ht,tR (by omega)]
    exact hs s t q1 q2 (by omega)
  · by_cases yO:t=j
    · subst yO
      rw [Ba,tR q2]
      exact Ord.aaj (hl s q1 q2) (hc s i q1 (by omega) (Nat.le_refl _) (by omega))
    · rw [CY (t:=t) (by omega) (by omega)]
      by_cases h3:s < j
      · rw [tR h3]; exact hs s (t - 1) q1 (by omega) (by omega)
      · by_cases h4:s=j
        · subst h4; rw [Ba]; exact .inl (hr (t - 1) (by omega) (by omega))
        · rw [CY (t:=s) (by omega) (by omega)]; exact hs (s - 1) (t - 1) (by omega) (by omega) (by omega)
theorem YJ {d:Nat→α} {a i b:Nat} (hs:eF o d (a+1) b) (hc:Ah o d a (a+1) b) (h1:a+1≤i) (h2:i≤b) (hl:∀ t,a+1≤t→t < i→o.key (d t) < o.key (d a)) (hr:∀ t,i≤t→t < b→o.key (d a)≤o.key (d t)):eF o (CZ d a (i - 1)) a b:=by
  intro s t q1 q2 q3
  by_cases ht:t < i - 1
  · rw [x5 (by omega) ht,x5 q1 (by omega)]
    exact hs _ _ (by omega) (by omega) (by omega)
  · by_cases yO:t=i - 1
    · subst yO
      rw [HH (by omega),x5 q1 q2]
      exact .inl (hl _ (by omega) (by omega))
    · rw [Eh (t:=t) (by omega) (by omega)]
      by_cases h3:s < i - 1
      · rw [x5 q1 h3]; exact hs _ _ (by omega) (by omega) q3
      · by_cases h4:s=i - 1
        · subst h4; rw [HH (by omega)]; exact Ord.aaj (hr t (by omega) q3) (hc a t (Nat.le_refl _) (by omega) (by omega) q3)
        · rw [Eh (t:=s) (by omega) (by omega)]; exact hs _ _ (by omega) q2 q3
structure Split (o:Ord α) (D:Nat→α) (a s bS e b:Nat):Prop where
  l1:eF o D a s
  l2:eF o D s bS
  l0:Ah o D a s bS
  r1:eF o D bS e
  r2:eF o D e b
  r0:Ah o D bS e b
  lr:∀ i j,a≤i→i < bS→bS≤j→j < b→o.lt (D i) (D j)
theorem aak {d:Nat→α} {a s bS m e b:Nat} (h1:eF o d a m) (h2:eF o d m b) (hc:Ah o d a m b) (q1:a≤s) (q2:s≤m) (q3:m≤e) (q4:e≤b) (q5:e+s=bS+m) (hL:∀ i j,a≤i→i < s→e≤j→j < b→o.key (d i)≤o.key (d j)) (hR:∀ i j,s≤i→i < m→m≤j→j < e→o.key (d j) < o.key (d i)) :
    Split o (za d s m e) a s bS e b:=by
  have v1:∀ t,t < s→za d s m e t=d t:=fun t h=>C0 q2 q3 (.inl h)
  have v2:∀ t,s≤t→t < bS→za d s m e t=d (t+(m - s)):=fun t h h'=>HI h (by omega)
  have v3:∀ t,bS≤t→t < e→za d s m e t=d (t - (e - m)):=fun t h h'=>Ei (by omega) h'
  have v4:∀ t,e≤t→za d s m e t=d t:=fun t h=>C0 q2 q3 (.inr h)
  refine ⟨fun i j p1 p2 p3=>?_,fun i j p1 p2 p3=>?_,fun i j p1 p2 p3 p4=>?_,fun i j p1 p2 p3=>?_,fun i j p1 p2 p3=>?_,fun i j p1 p2 p3 p4=>?_,fun i j p1 p2 p3 p4=>?_⟩
  · rw [v1 i (by omega),v1 j p3]; exact h1 i j p1 p2 (by omega)
  · rw [v2 i p1 (by omega),v2 j (by omega) p3]; exact h2 _ _ (by omega) (by omega) (by omega)
  · rw [v1 i p2,v2 j p3 p4]; exact hc _ _ p1 (by omega) (by omega) (by omega)
  · rw [v3 i p1 (by omega),v3 j (by omega) p3]; exact h1 _ _ (by omega) (by omega) (by omega)
  · rw [v4 i p1,v4 j (by omega)]; exact h2 _ _ (by omega) p2 p3
  · rw [v3 i p1 p2,v4 j p3]; exact hc _ _ (by omega) (by omega) (by omega) p4
  · by_cases hi:i < s
    · rw [v1 i hi]
      by_cases hj:j < e
      · rw [v3 j p3 hj]; exact h1 _ _ p1 (by omega) (by omega)
      · rw [v4 j (by omega)]; exact Ord.aaj (hL i j p1 hi (by omega) p4) (hc i j p1 (by omega) (by omega) p4)
    · rw [v2 i (by omega) p2]
      by_cases hj:j < e
      · rw [v3 j p3 hj]; exact .inl (hR _ _ (by omega) (by omega) (by omega) (by omega))
      · rw [v4 j (by omega)]; exact h2 _ _ (by omega) (by omega) p4
theorem Wp {D D2 D3:Nat→α} {a bS b:Nat} (h:∀ i j,a≤i→i < bS→bS≤j→j < b→o.lt (D i) (D j)) (p1:Perm D D2 a bS) (s1:eF o D2 a bS) (p2:Perm D2 D3 bS b) (s2:eF o D3 bS b):eF o D3 a b:=by
  intro i j q1 q2 q3
  by_cases hj:j < bS
  · rw [p2.2 i (.inl (by omega)),p2.2 j (.inl hj)]; exact s1 i j q1 q2 hj
  · by_cases hi:i < bS
    · rw [p2.2 i (.inl hi)]
      obtain ⟨i',r1,r2,e1⟩:=p1.mem q1 hi
      obtain ⟨j',r3,r4,e2⟩:=p2.mem (i:=j) (by omega) q3
      rw [e1,e2,p1.2 j' (.inr r3)]
      exact h i' j' r1 r2 r3 r4
    · exact s2 i j (by omega) q2 q3
theorem I7 {d:Nat→α} {a s s0 r0 bS m b:Nat} (h1:eF o d a m) (h2:eF o d m b) (q1:a≤s) (q2:s≤m) (q3:m+s≤bS+m) (q4:bS+m≤b+s) (hs:(s=s0∧(s0=a∨bS+m=b+s0))∨(a < s∧bS+m < b+s∧o.key (d (s - 1))≤o.key (d (bS+m - s)))) (hr:(s=r0∧(r0=m∨r0=bS))∨(s < m∧s < bS∧o.key (d (bS+m - 1 - s)) < o.key (d s))) :
    (∀ i j,a≤i→i < s→bS+m - s≤j→j < b→o.key (d i)≤o.key (d j))∧∀ i j,s≤i→i < m→m≤j→j < bS+m - s→o.key (d j) < o.key (d i):=by
  constructor
  · intro i j p1 p2 p3 p4
    rcases hs with ⟨e,h | h⟩ | ⟨e1,e2,e3⟩
    · omega
    · omega
    · have k1:=h1.key (i:=i) (j:=s - 1) p1 (by omega) (by omega)
      have k2:=h2.key (i:=bS+m - s) (j:=j) (by omega) p3 p4
      omega
  · intro i j p1 p2 p3 p4
    rcases hr with ⟨e,h | h⟩ | ⟨e1,e2,e3⟩
    · omega
    · omega
    · have k1:=h1.key (i:=s) (j:=i) q1 p1 p2
      have k2:=h2.key (i:=j) (j:=bS+m - 1 - s) p3 (by omega) (by omega)
      omega
def YK (o:Ord α) (g:Nat→α) (n:Nat):Prop:=∀ i j,i < j→j < n→o.fg (g i) (g j)
theorem GN {d g:Nat→α} {a k:Nat} (h:∀ p:α→Bool,lG p d a k=lG p g a k) {i:Nat} (h1:a≤i) (h2:i < a+k):∃ j,a≤j∧j < a+k∧d i=g j:=by
  classical
  have:=SC (p:=fun x=>decide (x=d i)) (d:=d) (a:=a) (i:=i - a) (k:=k) (by omega) (by simp [show a+(i - a)=i by omega])
  rw [h] at this
  obtain ⟨j,h3,h4⟩:=SB this
  exact ⟨a+j,by omega,by omega,(of_decide_eq_true h4).symm⟩
theorem Uv {d g:Nat→α} {a m b n:Nat} (hg:YK o g n) (hb:b≤n) (h1:a≤m) (h2:m≤b) (c1:∀ p:α→Bool,lG p d a (m - a)=lG p g a (m - a)) (c2:∀ p:α→Bool,lG p d m (b - m)=lG p g m (b - m)):Ah o d a m b:=by
  intro i j q1 q2 q3 q4
  obtain ⟨i',r1,r2,e1⟩:=GN c1 q1 (by omega)
  obtain ⟨j',r3,r4,e2⟩:=GN c2 q3 (by omega)
  rw [e1,e2]
  exact hg i' j' (by omega) (by omega)
end Go.K.vV
end
section
namespace Go.Proofs.Ytahhdndhkgbcjaa.b
open Go.K Go.K.vV
open Go.av (ai)
theorem bh (n:Nat):ay n n=true:=Nat.beq_refl n
theorem Ak {i n:Nat} (h:i < n):(decide ((0:Int)≤(i:Int)) && decide ((i:Int) < ((n:Nat):Int)))=true:=by
  rw [Bool.and_eq_true]
  exact ⟨decide_eq_true (by omega),decide_eq_true (by omega)⟩
theorem OC {i j:Nat} (h:i+j≤100000000000):aB ((i:Int)+(j:Int))=((i+j:Nat):Int):=by
  rw [vT (by omega) (by omega)]; omega
theorem s8 {i:Nat} (h:i≤100000000000):aB ((i:Int)+(1:Int))=((i+1:Nat):Int):=by
  rw [vT (by omega) (by omega)]; omega
theorem x6 {i j:Nat} (h:i≤100000000000) (hj:j≤i):aB ((i:Int) - (j:Int))=((i - j:Nat):Int):=by
  rw [vT (by omega) (by omega)]; omega
theorem Ke {i:Nat} (h:i≤100000000000) (hj:1≤i):aB ((i:Int) - (1:Int))=((i - 1:Nat):Int):=by
  rw [vT (by omega) (by omega)]; omega
theorem HJ {α:Type} (D:Sl α) (i j t:Nat) (u v:α):((D.set (0+i) u).set (0+j) v).get t=if t=j then v else if t=i then u else D.get t:=by
  simp only [Sl.set,Nat.zero_add]
  by_cases h:t=j
  · subst h; simp
  · rw [if_neg h]
    have e:Nat.beq t j=false:=by
      cases hb:Nat.beq t j with
      | false=>rfl
      | true=>exact absurd (Nat.eq_of_beq_eq_true hb) h
    rw [e,cond_false]
    by_cases h2:t=i
    · subst h2; simp
    · rw [if_neg h2]
      have e:Nat.beq t i=false:=by
        cases hb:Nat.beq t i with
        | false=>rfl
        | true=>exact absurd (Nat.eq_of_beq_eq_true hb) h2
      rw [e,cond_false]
theorem abq {α:Type} (D:Sl α) (i j:Nat) (u v:α):((D.set i u).set j v).n=D.n:=rfl
def xa {α:Type} (d:Nat→α) (a b n:Nat):Nat→α:=fun t=>if a≤t∧t < a+n then d (t+(b - a)) else if b≤t∧t < b+n then d (t - (b - a)) else d t
theorem acu {α:Type} (d:Nat→α) {a b j:Nat} (h:a+j < b) (t:Nat):xa d a b (j+1) t=if t=b+j then xa d a b j (a+j) else if t=a+j then xa d a b j (b+j) else xa d a b j t:=by
  have e1:xa d a b j (a+j)=d (a+j):=by rw [xa,if_neg (by omega),if_neg (by omega)]
  have e2:xa d a b j (b+j)=d (b+j):=by rw [xa,if_neg (by omega),if_neg (by omega)]
  rw [e1,e2]
  by_cases h1:t=b+j
  · subst h1; rw [if_pos rfl,xa,if_neg (by omega),if_pos (by omega)]; congr 1; omega
  · rw [if_neg h1]
    by_cases h2:t=a+j
    · subst h2; rw [if_pos rfl,xa,if_pos (by omega)]; congr 1; omega
    · rw [if_neg h2]
      unfold xa
      by_cases h3:a≤t∧t < a+j
      · rw [if_pos (by omega),if_pos h3]
      · rw [if_neg (by omega),if_neg h3]
        by_cases h4:b≤t∧t < b+j
        · rw [if_pos (by omega),if_pos h4]
        · rw [if_neg (by omega),if_neg h4]
theorem HK (x y:Int):∃ r,iv x y=some r∧decide (r < 0)=decide (x < y):=by
  unfold iv yG sX oh
  simp only [bne_self_eq_false,Option.getD_some,cond_false]
  cases h:decide (x < y) with
  | true=>exact ⟨_,rfl,rfl⟩
  | false=>
    rw [cond_false]
    cases h2:decide (x > y) with
    | true=>exact ⟨_,rfl,rfl⟩
    | false=>exact ⟨_,rfl,rfl⟩
theorem Pe (h:Show) (D:Sl aZ) (a b n:Nat) (h1:a+n≤b) (h2:b+n≤D.n) (h3:D.n≤10000000000) :
    ∃ e y,goN cE ⟨D,(a:Int),(b:Int),(n:Int),(0:Int),h⟩ = .out e y∧(e = .exit 0∧y.a=(a:Int)∧y.b=(b:Int)∧y.n=(n:Int)∧y.dA=h∧y.data.n=D.n∧∀ t,y.data.get t=xa D.get a b n t):=by
  refine dP (step:=cE) (fun j y=>y.a=(a:Int)∧y.b=(b:Int)∧y.n=(n:Int)∧y.dA=h∧y.i=(j:Int)∧j≤n∧y.data.n=D.n∧∀ t,y.data.get t=xa D.get a b j t) (fun e y=>e = .exit 0∧y.a=(a:Int)∧y.b=(b:Int)∧y.n=(n:Int)∧y.dA=h∧y.data.n=D.n∧∀ t,y.data.get t=xa D.get a b n t) n (by have:mV=1000000000000:=rfl; omega) (fun j y hj ⟨f1,f2,f3,f4,f5,f6,f7,f8⟩=>?_) ⟨rfl,rfl,rfl,rfl,rfl,Nat.zero_le _,rfl,fun t=>by rw [xa,if_neg (by omega),if_neg (by omega)]⟩
  unfold cE
  simp only [f1,f2,f3,f5,f7,bh,cond_true]
  by_cases aL:j < n
  · rw [decide_eq_true (show (j:Int) < (n:Int) by omega),cond_true,OC (by omega),OC (by omega),Ak (by omega),Ak (by omega),s8 (by omega)]
    simp only [cond_true,Int.toNat_natCast]
    refine .inl ⟨_,rfl,aL,rfl,rfl,rfl,f4,rfl,aL,by rw [abq]; exact f7,fun t=>?_⟩
    rw [HJ,acu D.get (by omega) t,f8,f8,f8,Nat.zero_add,Nat.zero_add]
  · rw [decide_eq_false (show ¬ (j:Int) < (n:Int) by omega),cond_false]
    have:j=n:=by omega
    subst this
    exact .inr ⟨_,_,rfl,rfl,rfl,f1,f2,f3,f4,f7,f8⟩
theorem yv (h:Show) (D:Sl aZ) (a b n:Nat) (h1:a+n≤b) (h2:b+n≤D.n) (h3:D.n≤10000000000) :
    ∃ D',dD ⟨D,(a:Int),(b:Int),(n:Int),h⟩ = .out .ret ⟨D',(a:Int),(b:Int),(n:Int),h⟩∧D'.n=D.n∧∀ t,D'.get t=xa D.get a b n t:=by
  obtain ⟨e,y,hy,rfl,y1,y2,y3,y4,y5,y6⟩:=Pe h D a b n h1 h2 h3
  have e0:cD ⟨D,(a:Int),(b:Int),(n:Int),h⟩ = .out (.exit 0) y:=hy
  refine ⟨y.data,?_,y5,y6⟩
  unfold dD hQ
  rw [e0]
  simp only [bh,cond_true,aE.jB,aE.js,dM,Nat.beq_refl,y1,y2,y3,y4]
theorem SD (h:Show) (D:Sl aZ) (a m b:Nat) (h1:a < m) (h2:m < b) (h4:b≤D.n) (h3:D.n≤10000000000) :
    ∃ e y,goN cM ⟨D,(a:Int),(m:Int),(b:Int),((m - a:Nat):Int),((b - m:Nat):Int),h⟩ = .out e y∧(e = .exit 0∧y.a=(a:Int)∧y.m=(m:Int)∧y.b=(b:Int)∧y.dA=h∧y.data.n=D.n∧
      ∃ i:Nat,1≤i∧a+i≤m∧m+i≤b∧y.i=(i:Int)∧y.j=(i:Int)∧(∀ t,t < m - i∨m+i≤t→y.data.get t=za D.get a m b t)∧(∀ t,m - i≤t→t < m→za D.get a m b t=y.data.get (t+i))∧∀ t,m≤t→t < m+i→za D.get a m b t=y.data.get (t - i)):=by
  refine dP (step:=cM) (fun k y=>y.a=(a:Int)∧y.m=(m:Int)∧y.b=(b:Int)∧y.dA=h∧y.data.n=D.n∧
      ∃ i j:Nat,1≤i∧1≤j∧a+i≤m∧m+j≤b∧i+j+k≤b - a∧y.i=(i:Int)∧y.j=(j:Int)∧(∀ t,t < m - i∨m+j≤t→y.data.get t=za D.get a m b t)∧(∀ t,m - i≤t→t < m - i+j→za D.get a m b t=y.data.get (t+i))∧∀ t,m - i+j≤t→t < m+j→za D.get a m b t=y.data.get (t - j)) _ (b - a) (by have:mV=1000000000000:=rfl; omega) (fun k y hk ⟨f1,f2,f3,f4,f5,i,j,g1,g2,g3,g4,g5,g6,g7,g8,g9,g10⟩=>?_) ?_
  · unfold cM
    by_cases he:i=j
    · subst he
      rw [g6,g7,bne_self_eq_false,cond_false,bh,cond_true]
      exact .inr ⟨_,_,rfl,rfl,rfl,f1,f2,f3,f4,f5,i,g1,g3,g4,g6,g7,g8,fun t q1 q2=>g9 t q1 (by omega),fun t q1 q2=>g10 t (by omega) q2⟩
    · rw [g6,g7,show ((i:Int) != (j:Int))=true by simpa using (show ¬ (i:Int)=(j:Int) by omega),cond_true]
      by_cases hgt:j < i
      · rw [decide_eq_true (show (i:Int) > (j:Int) by omega),cond_true]
        obtain ⟨D',q1,q2,q3⟩:=yv h y.data (m - i) m j (by omega) (by omega) (by omega)
        have e0:dZ y = .out .ret ⟨D',((m - i:Nat):Int),(m:Int),(j:Int),h⟩:=by
          unfold dZ
          rw [f2,g6,g7,f4,x6 (by omega) (by omega)]
          exact q1
        rw [e0]
        simp only [bh,cond_true,aE.jB,aE.js,dM,q2]
        refine .inl ⟨_,rfl,by omega,f1,f2,f3,rfl,by rw [q2]; exact f5,i - j,j,by omega,g2,by omega,g4,by omega,x6 (by omega) (by omega),rfl,fun t ht=>?_,fun t t1 t2=>?_,fun t t1 t2=>?_⟩
        · rw [q3]
          by_cases ov:m - i≤t∧t < m - i+j
          · rw [xa,if_pos ov,g9 t ov.1 ov.2]; congr 1; omega
          · rw [xa,if_neg ov,if_neg (by omega)]; exact g8 t (by omega)
        · rw [q3,xa,if_neg (by omega),if_pos (by omega),g10 t (by omega) (by omega)]; congr 1; omega
        · rw [q3,xa,if_neg (by omega),if_neg (by omega),g10 t (by omega) (by omega)]
      · rw [decide_eq_false (show ¬ (i:Int) > (j:Int) by omega),cond_false]
        obtain ⟨D',q1,q2,q3⟩:=yv h y.data (m - i) (m+j - i) i (by omega) (by omega) (by omega)
        have e0:ef y = .out .ret ⟨D',((m - i:Nat):Int),((m+j - i:Nat):Int),(i:Int),h⟩:=by
          unfold ef
          rw [f2,g6,g7,f4,x6 (by omega) (by omega),OC (by omega),x6 (by omega) (by omega)]
          exact q1
        rw [e0]
        simp only [bh,cond_true,aE.jB,aE.js,dM,q2]
        refine .inl ⟨_,rfl,by omega,f1,f2,f3,rfl,by rw [q2]; exact f5,i,j - i,g1,by omega,g3,by omega,by omega,rfl,x6 (by omega) (by omega),fun t ht=>?_,fun t t1 t2=>?_,fun t t1 t2=>?_⟩
        · rw [q3]
          by_cases ov:m+j - i≤t∧t < m+j - i+i
          · rw [xa,if_neg (by omega),if_pos ov,g10 t (by omega) (by omega)]; congr 1; omega
          · rw [xa,if_neg (by omega),if_neg ov]; exact g8 t (by omega)
        · rw [q3,xa,if_neg (by omega),if_neg (by omega),g9 t (by omega) (by omega)]
        · rw [q3,xa,if_pos (by omega),g9 t (by omega) (by omega)]; congr 1; omega
  · refine ⟨rfl,rfl,rfl,rfl,rfl,m - a,b - m,by omega,by omega,by omega,by omega,by omega,rfl,rfl,fun t ht=>?_,fun t t1 t2=>?_,fun t t1 t2=>?_⟩
    · rw [C0 (by omega) (by omega) (by omega)]
    · rw [HI (by omega) (by omega)]
    · rw [Ei (by omega) (by omega)]
theorem SE (h:Show) (D:Sl aZ) (a m b:Nat) (h1:a < m) (h2:m < b) (h4:b≤D.n) (h3:D.n≤10000000000) :
    ∃ D',df ⟨D,(a:Int),(m:Int),(b:Int),h⟩ = .out .ret ⟨D',(a:Int),(m:Int),(b:Int),h⟩∧D'.n=D.n∧∀ t,D'.get t=za D.get a m b t:=by
  obtain ⟨e,y,hy,rfl,y1,y2,y3,y4,y5,i,i1,i2,i3,i4,i5,i6,i7,i8⟩:=SD h D a m b h1 h2 h4 h3
  have e0:bf ⟨D,(a:Int),(m:Int),(b:Int),h⟩ = .out (.exit 0) y:=by
    unfold bf
    rw [x6 (by omega) (by omega),x6 (by omega) (by omega)]
    exact hy
  obtain ⟨D',q1,q2,q3⟩:=yv h y.data (m - i) m i (by omega) (by omega) (by omega)
  have e1:eV ⟨D,(a:Int),(m:Int),(b:Int),h⟩ = .out .ret ⟨D',((m - i:Nat):Int),(m:Int),(i:Int),h⟩:=by
    unfold eV
    rw [e0]
    simp only [aE.js,y2,i4,y4]
    rw [x6 (by omega) (by omega)]
    exact q1
  refine ⟨D',?_,q2.trans y5,fun t=>?_⟩
  · unfold df jm
    rw [e0,e1]
    simp only [bh,cond_true,aE.jB,aE.js,dM,Nat.beq_refl,y1,y2,y3,q2]
  · rw [q3]
    by_cases c1:m - i≤t∧t < m - i+i
    · rw [xa,if_pos c1,i7 t (by omega) (by omega)]; congr 1; omega
    · by_cases c2:m≤t∧t < m+i
      · rw [xa,if_neg c1,if_pos c2,i8 t c2.1 c2.2]; congr 1; omega
      · rw [xa,if_neg c1,if_neg c2]; exact i6 t (by omega)
def bQ (h:Show) (d:aZ):Int:=(h.items.get (Int.toNat d.item)).look.bin
def eZ (h:Show) (d:aZ):Bool:=(decide ((0:Int)≤d.item)) && (decide (d.item < ((h.items.n:Nat):Int)))
theorem SF (h:Show) (D:Sl aZ) (a b i:Nat) (h1:a≤i) (h2:i < D.n) (h3:D.n≤10000000000) (bc:∀ t,t < D.n→eZ h (D.get t)=true) :
    ∃ e y,goN bU ⟨D,(a:Int),(b:Int),(i:Int),(i:Int),h⟩ = .out e y∧(e = .exit 2∧y.a=(a:Int)∧y.b=(b:Int)∧y.i=(i:Int)∧y.Af=h∧y.data.n=D.n∧∃ j:Nat,a≤j∧j≤i∧(∀ t,y.data.get t=ins D.get j i t)∧(∀ t,j≤t→t < i→bQ h (D.get i) < bQ h (D.get t))∧(j=a∨¬ bQ h (D.get i) < bQ h (D.get (j - 1)))):=by
  refine dP (step:=bU) (fun k y=>y.a=(a:Int)∧y.b=(b:Int)∧y.i=(i:Int)∧y.Af=h∧y.data.n=D.n∧a+k≤i∧y.j=((i - k:Nat):Int)∧(∀ t,y.data.get t=ins D.get (i - k) i t)∧∀ t,i - k≤t→t < i→bQ h (D.get i) < bQ h (D.get t)) _ (i - a) (by have:mV=1000000000000:=rfl; omega) (fun k y hk ⟨f1,f2,f3,f4,f5,f6,f7,f8,f9⟩=>?_) ⟨rfl,rfl,rfl,rfl,rfl,by omega,by simp,fun t=>by rw [Nat.sub_zero,Ur],fun t t1 t2=>by omega⟩
  unfold bU
  by_cases aL:a < i - k
  · have g1:y.data.get (0+Int.toNat ((i - k:Nat):Int))=D.get i:=by rw [Int.toNat_natCast,Nat.zero_add,f8,Ba]
    have g2:y.data.get (0+Int.toNat ((i - k - 1:Nat):Int))=D.get (i - k - 1):=by rw [Int.toNat_natCast,Nat.zero_add,f8,tR (by omega)]
    obtain ⟨r,r1,r2⟩:=HK (bQ h (D.get i)) (bQ h (D.get (i - k - 1)))
    have e0:eT y=some r:=by
      unfold eT
      rw [f7,Ke (by omega) (by omega),g1,g2,f4]
      exact r1
    have o1:((decide ((0:Int)≤(D.get i).item)) && (decide ((D.get i).item < ((h.items.n:Nat):Int))))=true:=bc i h2
    have o2:((decide ((0:Int)≤(D.get (i - k - 1)).item)) && (decide ((D.get (i - k - 1)).item < ((h.items.n:Nat):Int))))=true:=bc _ (by omega)
    rw [f7,f1,decide_eq_true (show ((i - k:Nat):Int) > (a:Int) by omega),cond_true,f5,Ak (by omega),cond_true,Ke (by omega) (by omega),Ak (by omega),cond_true,g1,g2,f4,o1,o2,e0]
    simp only [cond_true,Option.isSome_some,Option.getD_some,bh,r2]
    by_cases hc:bQ h (D.get i) < bQ h (D.get (i - k - 1))
    · rw [decide_eq_true hc,cond_true]
      refine .inl ⟨_,rfl,by omega,rfl,f2,f3,rfl,by rw [abq]; exact f5,by omega,by rw [show i - (k+1)=i - k - 1 by omega],fun t=>?_,fun t t1 t2=>?_⟩
      · rw [HJ,show i - (k+1)=i - k - 1 by omega,Uu (by omega) (by omega),Int.toNat_natCast,Int.toNat_natCast,Ba,tR (by omega),f8]
      · by_cases e:t=i - k - 1
        · rw [e]; exact hc
        · exact f9 t (by omega) t2
    · rw [decide_eq_false hc,cond_false]
      exact .inr ⟨_,_,rfl,rfl,rfl,f1,f2,f3,f4,f5,i - k,by omega,by omega,f8,f9,.inr hc⟩
  · rw [f7,f1,decide_eq_false (show ¬ ((i - k:Nat):Int) > (a:Int) by omega),cond_false,bh,cond_true]
    exact .inr ⟨_,_,rfl,rfl,rfl,f1,f2,f3,f4,f5,i - k,by omega,by omega,f8,f9,.inl (by omega)⟩
def bB (h:Show) (fg:aZ→aZ→Prop):vV.Ord aZ:=⟨bQ h,fg⟩
theorem C1 (h:Show) (fg:aZ→aZ→Prop) (D:Sl aZ) (a b:Nat) (h1:a≤b) (h2:b≤D.n) (h3:D.n≤10000000000) (bc:∀ t,t < D.n→eZ h (D.get t)=true) (hr:∀ s t,a≤s→s < t→t < b→fg (D.get s) (D.get t)) :
    ∃ D',dE ⟨D,(a:Int),(b:Int),h⟩ = .out .ret ⟨D',(a:Int),(b:Int),h⟩∧D'.n=D.n∧Perm D.get D'.get a b∧eF (bB h fg) D'.get a b:=by
  have agS:∃ e y,goN cc ⟨D,(a:Int),(b:Int),((a+1:Nat):Int),h⟩ = .out e y∧(e = .exit 0∧y.a=(a:Int)∧y.b=(b:Int)∧y.Af=h∧y.data.n=D.n∧Perm D.get y.data.get a b∧eF (bB h fg) y.data.get a b):=by
    refine dP (step:=cc) (fun k y=>y.a=(a:Int)∧y.b=(b:Int)∧y.i=((a+1+k:Nat):Int)∧y.Af=h∧y.data.n=D.n∧(k=0∨a+1+k≤b)∧Perm D.get y.data.get a (a+1+k)∧eF (bB h fg) y.data.get a (a+1+k)) _ (b - a) (by have:mV=1000000000000:=rfl; omega) (fun k y hk ⟨f1,f2,f3,f4,f5,f6,f7,f8⟩=>?_) ⟨rfl,rfl,rfl,rfl,rfl,.inl rfl,.refl _ _ _,.one (by omega)⟩
    unfold cc
    by_cases aL:a+1+k < b
    · have Ij:∀ t,t < y.data.n→eZ h (y.data.get t)=true:=fun t ht=>by
        rw [f5] at ht
        by_cases ov:a≤t∧t < a+1+k
        · obtain ⟨j,j1,j2,e⟩:=f7.mem ov.1 ov.2
          rw [e]; exact bc j (by omega)
        · rw [f7.2 t (by omega)]; exact bc t ht
      obtain ⟨e,z,hz,rfl,z1,z2,z3,z4,z5,j,j1,j2,j3,j4,j5⟩:=SF h y.data a b (a+1+k) (by omega) (by omega) (by omega) Ij
      have e0:bG y = .out (.exit 2) z:=by
        unfold bG
        rw [f1,f2,f3,f4]
        exact hz
      rw [f3,f2,decide_eq_true (show ((a+1+k:Nat):Int) < (b:Int) by omega),cond_true,e0]
      simp only [bh,cond_true,aE.jB,aE.js,dM,Nat.beq_refl]
      have agf:z.data.get=ins y.data.get j (a+1+k):=funext j3
      refine .inl ⟨_,rfl,by omega,z1,z2,(by show aB (z.i+1)=_; rw [z3,s8 (by omega)]; rfl),z4,by rw [z5]; exact f5,.inr (by omega),?_,?_⟩
      · rw [agf]
        exact (f7.wide (Nat.le_refl _) (by omega) (by omega)).trans ((Ut (a:=a) j1 j2).wide (Nat.le_refl _) (by omega) (by omega))
      · rw [agf]
        refine OB f8 (fun s t s1 s2 t1 t2=>?_) j1 j2 (fun s s1 s2=>?_) j4
        · have:t=a+1+k:=by omega
          subst this
          obtain ⟨s',p1,p2,e⟩:=f7.mem s1 s2
          rw [e,f7.2 (a+1+k) (by omega)]
          exact hr s' _ p1 p2 aL
        · rcases j5 with rfl | j5
          · omega
          · have:=f8.key (i:=s) (j:=j - 1) s1 (by omega) (by omega)
            have h5 : ¬ (bB h fg).key (y.data.get (a+1+k)) < (bB h fg).key (y.data.get (j - 1)):=j5
            omega
    · rw [f3,f2,decide_eq_false (show ¬ ((a+1+k:Nat):Int) < (b:Int) by omega),cond_false,bh,cond_true]
      refine .inr ⟨_,_,rfl,rfl,rfl,f1,f2,f4,f5,?_,?_⟩
      · rcases f6 with rfl | f6
        · by_cases e:a=b
          · subst e
            refine ⟨fun p=>by rw [Nat.sub_self]; rfl,fun i _=>?_⟩
            by_cases hi:i=a
            · subst hi
              have:=f7.1
              obtain ⟨j,p1,p2,e⟩:=f7.mem (i:=i) (by omega) (by omega)
              rw [e]; congr 1; omega
            · exact f7.2 i (by omega)
          · rw [show b=a+1+0 by omega]; exact f7
        · rw [show b=a+1+k by omega]; exact f7
      · exact fun s t s1 s2 t1=>f8 s t s1 s2 (by omega)
  obtain ⟨e,y,hy,rfl,y1,y2,y3,y4,y5,y6⟩:=agS
  have e0:b9 ⟨D,(a:Int),(b:Int),h⟩ = .out (.exit 0) y:=by
    unfold b9
    rw [s8 (by omega)]
    exact hy
  refine ⟨y.data,?_,y4,y5,y6⟩
  unfold dE fG
  rw [e0]
  simp only [bh,cond_true,aE.jB,aE.js,dM,Nat.beq_refl,y1,y2,y3]
end Go.Proofs.Ytahhdndhkgbcjaa.b
end
section
namespace Go.Proofs.Ytahhdndhkgbcjaa.b
open Go.K Go.K.vV
open Go.av (ai)
theorem aeE {n:Int} (h:0≤n) (h' : n < 18446744073709551616):ly n=n:=by
  show Go.IntKind.wrap .u64 n=n
  unfold Go.IntKind.wrap
  simp only [Go.IntKind.signed,Go.IntKind.bits]
  first | omega | (simp; omega)
theorem Wq {i j:Nat} (h:i+j≤100000000000):aB (Int.fdiv (ly (aB ((i:Int)+(j:Int)))) (2:Int))=(((i+j) / 2:Nat):Int):=by
  rw [OC h,aeE (by omega) (by omega),show Int.fdiv ((i+j:Nat):Int) (2:Int)=(((i+j) / 2:Nat):Int) from ?_,vT (by omega) (by omega)]
  rw [Int.fdiv_eq_ediv_of_nonneg _ (by omega)]
  omega
theorem Wr (h:Show) (D:Sl aZ) (fg:aZ→aZ→Prop) (a m b:Nat) (h1:a+1=m) (h2:m≤b) (h4:b≤D.n) (h3:D.n≤10000000000) (bc:∀ t,t < D.n→eZ h (D.get t)=true) (hs:eF (bB h fg) D.get m b) :
    ∃ i:Nat,goN cz ⟨D,(a:Int),(m:Int),(b:Int),(m:Int),(b:Int),h⟩ = .out (.exit 0) ⟨D,(a:Int),(m:Int),(b:Int),(i:Int),(i:Int),h⟩∧m≤i∧i≤b∧(∀ t,m≤t→t < i→bQ h (D.get t) < bQ h (D.get a))∧∀ t,i≤t→t < b→bQ h (D.get a)≤bQ h (D.get t):=by
  refine Exists.elim (dP (step:=cz) (x:=⟨D,(a:Int),(m:Int),(b:Int),(m:Int),(b:Int),h⟩) (fun k y=>∃ i j:Nat,y=⟨D,(a:Int),(m:Int),(b:Int),(i:Int),(j:Int),h⟩∧m≤i∧i≤j∧j≤b∧j - i+k≤b - m∧(∀ t,m≤t→t < i→bQ h (D.get t) < bQ h (D.get a))∧∀ t,j≤t→t < b→bQ h (D.get a)≤bQ h (D.get t)) (fun e y=>e = .exit 0∧∃ i:Nat,y=⟨D,(a:Int),(m:Int),(b:Int),(i:Int),(i:Int),h⟩∧m≤i∧i≤b∧(∀ t,m≤t→t < i→bQ h (D.get t) < bQ h (D.get a))∧∀ t,i≤t→t < b→bQ h (D.get a)≤bQ h (D.get t)) (b - m) (by have:mV=1000000000000:=rfl; omega) (fun k y hk ⟨i,j,hy,g1,g2,g3,g4,g5,g6⟩=>?_) ⟨m,b,rfl,Nat.le_refl _,h2,Nat.le_refl _,by omega,fun t t1 t2=>by omega,fun t t1 t2=>by omega⟩) fun e ⟨y,hy,he,i,hi,q⟩=>⟨i,by rw [hy,he,hi],q⟩
  · subst hy
    unfold cz
    by_cases aL:i < j
    · have hh:=Wq (i:=i) (j:=j) (by omega)
      obtain ⟨r,r1,r2⟩:=HK (bQ h (D.get ((i+j) / 2))) (bQ h (D.get a))
      have e0:gx ⟨D,(a:Int),(m:Int),(b:Int),(i:Int),(j:Int),h⟩=some r:=by
        unfold gx
        simp only [hh,Int.toNat_natCast,Nat.zero_add]
        exact r1
      have o1:((decide ((0:Int)≤(D.get ((i+j) / 2)).item)) && (decide ((D.get ((i+j) / 2)).item < ((h.items.n:Nat):Int))))=true:=bc _ (by omega)
      have o2:((decide ((0:Int)≤(D.get a).item)) && (decide ((D.get a).item < ((h.items.n:Nat):Int))))=true:=bc _ (by omega)
      simp only [hh,e0,decide_eq_true (show (i:Int) < (j:Int) by omega),cond_true,Ak (show (i+j) / 2 < D.n by omega),Ak (show a < D.n by omega),Int.toNat_natCast,Nat.zero_add,o1,o2,Option.isSome_some,Option.getD_some,bh,r2]
      by_cases hc:bQ h (D.get ((i+j) / 2)) < bQ h (D.get a)
      · rw [decide_eq_true hc,cond_true,s8 (by omega)]
        refine .inl ⟨_,rfl,by omega,(i+j) / 2+1,j,rfl,by omega,by omega,g3,by omega,fun t t1 t2=>?_,g6⟩
        have:=hs.key (i:=t) (j:=(i+j) / 2) t1 (by omega) (by omega)
        exact Int.lt_of_le_of_lt this hc
      · rw [decide_eq_false hc,cond_false]
        refine .inl ⟨_,rfl,by omega,i,(i+j) / 2,rfl,g1,by omega,by omega,by omega,g5,fun t t1 t2=>?_⟩
        have:=hs.key (i:=(i+j) / 2) (j:=t) (by omega) t1 t2
        exact Int.le_trans (Int.not_lt.1 hc) this
    · simp only [decide_eq_false (show ¬ (i:Int) < (j:Int) by omega),cond_false,bh,cond_true]
      have:j=i:=by omega
      subst this
      exact .inr ⟨_,_,rfl,rfl,rfl,j,rfl,g1,g3,g5,g6⟩
theorem Ws (h:Show) (D:Sl aZ) (fg:aZ→aZ→Prop) (a m b:Nat) (h2:a≤m) (h4:m < D.n) (h3:D.n≤10000000000) (bc:∀ t,t < D.n→eZ h (D.get t)=true) (hs:eF (bB h fg) D.get a m) :
    ∃ i:Nat,goN cA ⟨D,(a:Int),(m:Int),(b:Int),(a:Int),(m:Int),h⟩ = .out (.exit 4) ⟨D,(a:Int),(m:Int),(b:Int),(i:Int),(i:Int),h⟩∧a≤i∧i≤m∧(∀ t,a≤t→t < i→bQ h (D.get t)≤bQ h (D.get m))∧∀ t,i≤t→t < m→bQ h (D.get m) < bQ h (D.get t):=by
  refine Exists.elim (dP (step:=cA) (x:=⟨D,(a:Int),(m:Int),(b:Int),(a:Int),(m:Int),h⟩) (fun k y=>∃ i j:Nat,y=⟨D,(a:Int),(m:Int),(b:Int),(i:Int),(j:Int),h⟩∧a≤i∧i≤j∧j≤m∧j - i+k≤m - a∧(∀ t,a≤t→t < i→bQ h (D.get t)≤bQ h (D.get m))∧∀ t,j≤t→t < m→bQ h (D.get m) < bQ h (D.get t)) (fun e y=>e = .exit 4∧∃ i:Nat,y=⟨D,(a:Int),(m:Int),(b:Int),(i:Int),(i:Int),h⟩∧a≤i∧i≤m∧(∀ t,a≤t→t < i→bQ h (D.get t)≤bQ h (D.get m))∧∀ t,i≤t→t < m→bQ h (D.get m) < bQ h (D.get t)) (m - a) (by have:mV=1000000000000:=rfl; omega) (fun k y hk ⟨i,j,hy,g1,g2,g3,g4,g5,g6⟩=>?_) ⟨a,m,rfl,Nat.le_refl _,h2,Nat.le_refl _,by omega,fun t t1 t2=>by omega,fun t t1 t2=>by omega⟩) fun e ⟨y,hy,he,i,hi,q⟩=>⟨i,by rw [hy,he,hi],q⟩
  · subst hy
    unfold cA
    by_cases aL:i < j
    · have hh:=Wq (i:=i) (j:=j) (by omega)
      obtain ⟨r,r1,r2⟩:=HK (bQ h (D.get m)) (bQ h (D.get ((i+j) / 2)))
      have e0:gz ⟨D,(a:Int),(m:Int),(b:Int),(i:Int),(j:Int),h⟩=some r:=by
        unfold gz
        simp only [hh,Int.toNat_natCast,Nat.zero_add]
        exact r1
      have o1:((decide ((0:Int)≤(D.get ((i+j) / 2)).item)) && (decide ((D.get ((i+j) / 2)).item < ((h.items.n:Nat):Int))))=true:=bc _ (by omega)
      have o2:((decide ((0:Int)≤(D.get m).item)) && (decide ((D.get m).item < ((h.items.n:Nat):Int))))=true:=bc _ (by omega)
      simp only [hh,e0,decide_eq_true (show (i:Int) < (j:Int) by omega),cond_true,Ak (show (i+j) / 2 < D.n by omega),Ak h4,Int.toNat_natCast,Nat.zero_add,o1,o2,Option.isSome_some,Option.getD_some,bh,r2]
      by_cases hc:bQ h (D.get m) < bQ h (D.get ((i+j) / 2))
      · rw [decide_eq_true hc,Bool.not_true,cond_false]
        refine .inl ⟨_,rfl,by omega,i,(i+j) / 2,rfl,g1,by omega,by omega,by omega,g5,fun t t1 t2=>?_⟩
        have:=hs.key (i:=(i+j) / 2) (j:=t) (by omega) t1 t2
        exact Int.lt_of_lt_of_le hc this
      · rw [decide_eq_false hc,Bool.not_false,cond_true,s8 (by omega)]
        refine .inl ⟨_,rfl,by omega,(i+j) / 2+1,j,rfl,by omega,by omega,g3,by omega,fun t t1 t2=>?_,g6⟩
        have:=hs.key (i:=t) (j:=(i+j) / 2) t1 (by omega) (by omega)
        exact Int.le_trans this (Int.not_lt.1 hc)
    · simp only [decide_eq_false (show ¬ (i:Int) < (j:Int) by omega),cond_false,bh,cond_true]
      have:j=i:=by omega
      subst this
      exact .inr ⟨_,_,rfl,rfl,rfl,j,rfl,g1,g3,g5,g6⟩
theorem Md (h:Show) (D:Sl aZ) (a m b bS s0 r0:Nat) (h1:s0≤r0) (h2:r0≤m) (h5:r0≤bS) (h6:bS+m≤b+s0) (h7:m≤b) (h4:b≤D.n) (h3:D.n≤10000000000) (h8:1≤m) (bc:∀ t,t < D.n→eZ h (D.get t)=true) :
    ∃ s:Nat,goN bW ⟨D,(a:Int),(m:Int),(b:Int),(bS:Int),((bS+m:Nat):Int),(s0:Int),(r0:Int),((bS+m - 1:Nat):Int),h⟩ = .out (.exit 8) ⟨D,(a:Int),(m:Int),(b:Int),(bS:Int),((bS+m:Nat):Int),(s:Int),(s:Int),((bS+m - 1:Nat):Int),h⟩∧s0≤s∧s≤r0∧
      (s=s0∨(s0 < s∧bQ h (D.get (s - 1))≤bQ h (D.get (bS+m - s))))∧(s=r0∨(s < r0∧bQ h (D.get (bS+m - 1 - s)) < bQ h (D.get s))):=by
  refine Exists.elim (dP (step:=bW) (x:=⟨D,(a:Int),(m:Int),(b:Int),(bS:Int),((bS+m:Nat):Int),(s0:Int),(r0:Int),((bS+m - 1:Nat):Int),h⟩) (fun k y=>∃ i j:Nat,y=⟨D,(a:Int),(m:Int),(b:Int),(bS:Int),((bS+m:Nat):Int),(i:Int),(j:Int),((bS+m - 1:Nat):Int),h⟩∧s0≤i∧i≤j∧j≤r0∧j - i+k≤r0 - s0∧(i=s0∨(s0 < i∧bQ h (D.get (i - 1))≤bQ h (D.get (bS+m - i))))∧(j=r0∨(j < r0∧bQ h (D.get (bS+m - 1 - j)) < bQ h (D.get j)))) (fun e y=>e = .exit 8∧∃ i:Nat,y=⟨D,(a:Int),(m:Int),(b:Int),(bS:Int),((bS+m:Nat):Int),(i:Int),(i:Int),((bS+m - 1:Nat):Int),h⟩∧s0≤i∧i≤r0∧(i=s0∨(s0 < i∧bQ h (D.get (i - 1))≤bQ h (D.get (bS+m - i))))∧(i=r0∨(i < r0∧bQ h (D.get (bS+m - 1 - i)) < bQ h (D.get i)))) (r0 - s0) (by have:mV=1000000000000:=rfl; omega) (fun k y hk ⟨i,j,hy,g1,g2,g3,g4,g5,g6⟩=>?_) ⟨s0,r0,rfl,Nat.le_refl _,h1,Nat.le_refl _,by omega,.inl rfl,.inl rfl⟩) fun e ⟨y,hy,he,i,hi,q⟩=>⟨i,by rw [hy,he,hi],q⟩
  · subst hy
    unfold bW
    by_cases aL:i < j
    · have hh:=Wq (i:=i) (j:=j) (by omega)
      have hp:=x6 (i:=bS+m - 1) (j:=(i+j) / 2) (by omega) (by omega)
      obtain ⟨r,r1,r2⟩:=HK (bQ h (D.get (bS+m - 1 - (i+j) / 2))) (bQ h (D.get ((i+j) / 2)))
      have e0:fX ⟨D,(a:Int),(m:Int),(b:Int),(bS:Int),((bS+m:Nat):Int),(i:Int),(j:Int),((bS+m - 1:Nat):Int),h⟩=some r:=by
        unfold fX
        simp only [hh,hp,Int.toNat_natCast,Nat.zero_add]
        exact r1
      have o1:((decide ((0:Int)≤(D.get ((i+j) / 2)).item)) && (decide ((D.get ((i+j) / 2)).item < ((h.items.n:Nat):Int))))=true:=bc _ (by omega)
      have o2:((decide ((0:Int)≤(D.get (bS+m - 1 - (i+j) / 2)).item)) && (decide ((D.get (bS+m - 1 - (i+j) / 2)).item < ((h.items.n:Nat):Int))))=true:=bc _ (by omega)
      simp only [hh,hp,e0,decide_eq_true (show (i:Int) < (j:Int) by omega),cond_true,Ak (show (i+j) / 2 < D.n by omega),Ak (show bS+m - 1 - (i+j) / 2 < D.n by omega),Int.toNat_natCast,Nat.zero_add,o1,o2,Option.isSome_some,Option.getD_some,bh,r2]
      by_cases hc:bQ h (D.get (bS+m - 1 - (i+j) / 2)) < bQ h (D.get ((i+j) / 2))
      · rw [decide_eq_true hc,Bool.not_true,cond_false]
        exact .inl ⟨_,rfl,by omega,i,(i+j) / 2,rfl,g1,by omega,by omega,by omega,g5,.inr ⟨by omega,hc⟩⟩
      · rw [decide_eq_false hc,Bool.not_false,cond_true,s8 (by omega)]
        refine .inl ⟨_,rfl,by omega,(i+j) / 2+1,j,rfl,by omega,by omega,g3,by omega,.inr ⟨by omega,?_⟩,g6⟩
        rw [show bS+m - ((i+j) / 2+1)=bS+m - 1 - (i+j) / 2 by omega,Nat.add_sub_cancel]
        exact Int.not_lt.1 hc
    · simp only [decide_eq_false (show ¬ (i:Int) < (j:Int) by omega),cond_false,bh,cond_true]
      have:j=i:=by omega
      subst this
      exact .inr ⟨_,_,rfl,rfl,rfl,j,rfl,g1,g3,g5,g6⟩
theorem Wt (h:Show) (D:Sl aZ) (a m b i:Nat) (h1:a+1≤i) (h4:i≤D.n) (h3:D.n≤10000000000) :
    ∃ D',∃ k:Int,goN cB ⟨D,(a:Int),(m:Int),(b:Int),(i:Int),(a:Int),h⟩ = .out (.exit 2) ⟨D',(a:Int),(m:Int),(b:Int),(i:Int),k,h⟩∧D'.n=D.n∧∀ t,D'.get t=CZ D.get a (i - 1) t:=by
  refine Exists.elim (dP (step:=cB) (x:=⟨D,(a:Int),(m:Int),(b:Int),(i:Int),(a:Int),h⟩) (fun k y=>∃ D',y=⟨D',(a:Int),(m:Int),(b:Int),(i:Int),((a+k:Nat):Int),h⟩∧a+k≤i - 1∧D'.n=D.n∧∀ t,D'.get t=CZ D.get a (a+k) t) (fun e y=>e = .exit 2∧∃ D',∃ k:Int,y=⟨D',(a:Int),(m:Int),(b:Int),(i:Int),k,h⟩∧D'.n=D.n∧∀ t,D'.get t=CZ D.get a (i - 1) t) (i - 1 - a) (by have:mV=1000000000000:=rfl; omega) (fun k y hk ⟨D',hy,g1,g2,g3⟩=>?_) ⟨D,rfl,by omega,rfl,fun t=>by rw [Nat.add_zero,acp]⟩) fun e ⟨y,hy,he,D',k,hi,q⟩=>⟨D',k,by rw [hy,he,hi],q⟩
  · subst hy
    unfold cB
    have hi:=Ke (i:=i) (by omega) (by omega)
    by_cases aL:a+k < i - 1
    · have B9:=s8 (i:=a+k) (by omega)
      simp only [hi,B9,decide_eq_true (show ((a+k:Nat):Int) < ((i - 1:Nat):Int) by omega),cond_true,Ak (show a+k < D'.n by omega),Ak (show a+k+1 < D'.n by omega),bh]
      refine .inl ⟨_,rfl,by omega,_,rfl,by omega,g2,fun t=>?_⟩
      rw [HJ,Int.toNat_natCast,Int.toNat_natCast,Nat.zero_add,Nat.zero_add,show a+(k+1)=a+k+1 by omega,acr (by omega),g3,g3,g3]
      by_cases e1:t=a+k+1
      · subst e1; rw [if_pos rfl,if_neg (by omega),if_pos rfl]
      · rw [if_neg e1]
        by_cases e2:t=a+k
        · subst e2; rw [if_pos rfl,if_pos rfl]
        · rw [if_neg e2,if_neg e2,if_neg e1]
    · simp only [hi,decide_eq_false (show ¬ ((a+k:Nat):Int) < ((i - 1:Nat):Int) by omega),cond_false,bh,cond_true]
      exact .inr ⟨_,_,rfl,rfl,rfl,D',_,rfl,g2,fun t=>by rw [g3,show a+k=i - 1 by omega]⟩
theorem Wu (h:Show) (D:Sl aZ) (a m b i:Nat) (h1:i≤m) (h4:m < D.n) (h3:D.n≤10000000000) :
    ∃ D',∃ k:Int,goN cu ⟨D,(a:Int),(m:Int),(b:Int),(i:Int),(m:Int),h⟩ = .out (.exit 6) ⟨D',(a:Int),(m:Int),(b:Int),(i:Int),k,h⟩∧D'.n=D.n∧∀ t,D'.get t=ins D.get i m t:=by
  refine Exists.elim (dP (step:=cu) (x:=⟨D,(a:Int),(m:Int),(b:Int),(i:Int),(m:Int),h⟩) (fun k y=>∃ D',y=⟨D',(a:Int),(m:Int),(b:Int),(i:Int),((m - k:Nat):Int),h⟩∧i+k≤m∧D'.n=D.n∧∀ t,D'.get t=ins D.get (m - k) m t) (fun e y=>e = .exit 6∧∃ D',∃ k:Int,y=⟨D',(a:Int),(m:Int),(b:Int),(i:Int),k,h⟩∧D'.n=D.n∧∀ t,D'.get t=ins D.get i m t) (m - i) (by have:mV=1000000000000:=rfl; omega) (fun k y hk ⟨D',hy,g1,g2,g3⟩=>?_) ⟨D,rfl,by omega,rfl,fun t=>by rw [Nat.sub_zero,Ur]⟩) fun e ⟨y,hy,he,D',k,hi,q⟩=>⟨D',k,by rw [hy,he,hi],q⟩
  · subst hy
    unfold cu
    by_cases aL:i < m - k
    · have B9:=Ke (i:=m - k) (by omega) (by omega)
      simp only [B9,decide_eq_true (show ((m - k:Nat):Int) > (i:Int) by omega),cond_true,Ak (show m - k < D'.n by omega),Ak (show m - k - 1 < D'.n by omega),bh]
      refine .inl ⟨_,rfl,by omega,_,rfl,by omega,g2,fun t=>?_⟩
      rw [HJ,Int.toNat_natCast,Int.toNat_natCast,Nat.zero_add,Nat.zero_add,show m - (k+1)=m - k - 1 by omega,Uu (by omega) (by omega),g3,g3,g3]
    · simp only [decide_eq_false (show ¬ ((m - k:Nat):Int) > (i:Int) by omega),cond_false,bh,cond_true]
      exact .inr ⟨_,_,rfl,rfl,rfl,D',_,rfl,g2,fun t=>by rw [g3,show m - k=i by omega]⟩
end Go.Proofs.Ytahhdndhkgbcjaa.b
end
section
namespace Go.Proofs.Ytahhdndhkgbcjaa.b
open Go.K Go.K.vV
open Go.av (ai)
def zm (rc:ah→aE ah) (z:aH) (D:Sl aZ) (h:Show):aE ah:=
  cond (decide (z.bS < aB (z.n - z.start)))
    (cond (decide (aB (z.n - z.start) < z.b))
      (cond (ay D.n z.data.n) (cond ((rc ⟨D,z.bS,aB (z.n - z.start),z.b,h⟩).by .ret) (cond (ay (rc ⟨D,z.bS,aB (z.n - z.start),z.b,h⟩).st.data.n z.data.n) (.out .ret ⟨(rc ⟨D,z.bS,aB (z.n - z.start),z.b,h⟩).st.data,z.a,z.m,z.b,(rc ⟨D,z.bS,aB (z.n - z.start),z.b,h⟩).st.held⟩) .fail) .fail) .fail)
      (cond (ay D.n z.data.n) (.out .ret ⟨D,z.a,z.m,z.b,h⟩) .fail))
    (cond (ay D.n z.data.n) (.out .ret ⟨D,z.a,z.m,z.b,h⟩) .fail)
def C2 (rc:ah→aE ah) (z:aH) (D:Sl aZ) (h:Show):aE ah:=
  cond (decide (z.a < z.start))
    (cond (decide (z.start < z.bS))
      (cond (ay D.n z.data.n) (cond ((rc ⟨D,z.a,z.start,z.bS,h⟩).by .ret) (zm rc z (rc ⟨D,z.a,z.start,z.bS,h⟩).st.data (rc ⟨D,z.a,z.start,z.bS,h⟩).st.held) .fail) .fail)
      (zm rc z D h))
    (zm rc z D h)
def HL (rc:ah→aE ah) (z:aH):aE ah:=
  cond (decide (z.start < z.m))
    (cond (decide (z.m < aB (z.n - z.start)))
      (cond (ay z.data.n z.data.n) (cond ((df ⟨z.data,z.start,z.m,aB (z.n - z.start),z.dA⟩).by .ret) (C2 rc z (df ⟨z.data,z.start,z.m,aB (z.n - z.start),z.dA⟩).st.data (df ⟨z.data,z.start,z.m,aB (z.n - z.start),z.dA⟩).st.held) .fail) .fail)
      (C2 rc z z.data z.dA))
    (C2 rc z z.data z.dA)
theorem SG (rc:ah→aE ah) (x:ah) (h1:((aB (x.m - x.a)) == (1:Int))=false) (h2:((aB (x.b - x.m)) == (1:Int))=false) :
    cW rc x=cond (decide (x.m > (aB (Int.fdiv (ly (aB (x.a+x.b))) (2:Int)))))
      (cond (ay x.data.n x.data.n) (cond ((ae rc x).by (.exit 8)) (HL rc (ae rc x).st) .fail) .fail)
      (cond (ay x.data.n x.data.n) (cond ((aa rc x).by (.exit 8)) (HL rc (aa rc x).st) .fail) .fail):=by
  unfold cW
  rw [h1,h2]
  rfl
def qo (h:Show) (fg:aZ→aZ→Prop) (D D' : Sl aZ) (a b:Nat):Prop:=D'.n=D.n∧Perm D.get D'.get a b∧eF (bB h fg) D'.get a b
def sN (h:Show) (fg:aZ→aZ→Prop) (rc:ah→aE ah) (L:Nat):Prop:=∀ (D:Sl aZ) (a m b:Nat),a < m→m < b→b≤D.n→D.n≤10000000000→(∀ t,t < D.n→eZ h (D.get t)=true)→b - a≤L→eF (bB h fg) D.get a m→eF (bB h fg) D.get m b→Ah (bB h fg) D.get a m b→
  ∃ D',rc ⟨D,(a:Int),(m:Int),(b:Int),h⟩ = .out .ret ⟨D',(a:Int),(m:Int),(b:Int),h⟩∧qo h fg D D' a b
theorem pO {h:Show} {D D' : Sl aZ} {a b:Nat} (hn:D'.n=D.n) (hb:b≤D.n) (hp:Perm D.get D'.get a b) (bc:∀ t,t < D.n→eZ h (D.get t)=true):∀ t,t < D'.n→eZ h (D'.get t)=true:=fun t ht=>by
  rw [hn] at ht
  by_cases ov:a≤t∧t < b
  · obtain ⟨j,j1,j2,e⟩:=hp.mem ov.1 ov.2
    rw [e]; exact bc j (by omega)
  · rw [hp.2 t (by omega)]; exact bc t ht
section
variable {h:Show} {fg:aZ→aZ→Prop} {rc:ah→aE ah} {L:Nat}
theorem SH (Wv:sN h fg rc L) (Z D:Sl aZ) (a m b bS s e:Nat) (p:Int) (hm:m≤D.n) (hn:D.n=Z.n) (h3:D.n≤10000000000) (hb:b≤D.n) (hs:e+s=bS+m) (q1:bS≤e) (q2:e≤b) (bc:∀ t,t < D.n→eZ h (D.get t)=true) (hL:b - bS≤L) (r1:eF (bB h fg) D.get bS e) (r2:eF (bB h fg) D.get e b) (r0:Ah (bB h fg) D.get bS e b) :
    ∃ D',zm rc ⟨Z,(a:Int),(m:Int),(b:Int),(bS:Int),((bS+m:Nat):Int),(s:Int),(s:Int),p,h⟩ D h = .out .ret ⟨D',(a:Int),(m:Int),(b:Int),h⟩∧qo h fg D D' bS b:=by
  have he:aB (((bS+m:Nat):Int) - (s:Int))=(e:Int):=by rw [x6 (by omega) (by omega)]; congr 1; omega
  unfold zm
  simp only [he,hn,bh,cond_true]
  by_cases c1:bS < e
  · rw [decide_eq_true (show (bS:Int) < (e:Int) by omega),cond_true]
    by_cases c2:e < b
    · rw [decide_eq_true (show (e:Int) < (b:Int) by omega),cond_true]
      obtain ⟨D',k1,k2,k3,k4⟩:=Wv D bS e b c1 c2 hb h3 bc hL r1 r2 r0
      rw [k1]
      simp only [aE.jB,aE.js,dM,cond_true,k2,hn,bh]
      exact ⟨D',rfl,k2,k3,k4⟩
    · rw [decide_eq_false (show ¬ (e:Int) < (b:Int) by omega),cond_false]
      have:e=b:=by omega
      subst this
      exact ⟨D,rfl,rfl,.refl _ _ _,r1⟩
  · rw [decide_eq_false (show ¬ (bS:Int) < (e:Int) by omega),cond_false]
    have:bS=e:=by omega
    subst this
    exact ⟨D,rfl,rfl,.refl _ _ _,r2⟩
theorem Tr (Wv:sN h fg rc L) (Z D:Sl aZ) (a m b bS s e:Nat) (p:Int) (hm:m≤D.n) (hn:D.n=Z.n) (h3:D.n≤10000000000) (hb:b≤D.n) (hs:e+s=bS+m) (q0:a≤s) (q3:s≤bS) (q1:bS≤e) (q2:e≤b) (bc:∀ t,t < D.n→eZ h (D.get t)=true) (hL1:bS - a≤L) (hL:b - bS≤L) (qt:Split (bB h fg) D.get a s bS e b) :
    ∃ D',C2 rc ⟨Z,(a:Int),(m:Int),(b:Int),(bS:Int),((bS+m:Nat):Int),(s:Int),(s:Int),p,h⟩ D h = .out .ret ⟨D',(a:Int),(m:Int),(b:Int),h⟩∧qo h fg D D' a b:=by
  have rest:∀ D2:Sl aZ,qo h fg D D2 a bS→∃ D',zm rc ⟨Z,(a:Int),(m:Int),(b:Int),(bS:Int),((bS+m:Nat):Int),(s:Int),(s:Int),p,h⟩ D2 h = .out .ret ⟨D',(a:Int),(m:Int),(b:Int),h⟩∧qo h fg D D' a b:=fun D2 ⟨m1,m2,m3⟩=>by
    have same:∀ i,bS≤i→D2.get i=D.get i:=fun i hi=>m2.2 i (.inr hi)
    obtain ⟨D',k1,k2,k3,k4⟩:=SH Wv Z D2 a m b bS s e p (by omega) (m1.trans hn) (by omega) (by omega) hs q1 q2 (pO m1 (by omega) m2 bc) hL (qt.r1.congr fun i i1 _=>same i i1) (qt.r2.congr fun i i1 _=>same i (by omega)) (fun i j i1 i2 j1 j2=>by rw [same i i1,same j (by omega)]; exact qt.r0 i j i1 i2 j1 j2)
    exact ⟨D',k1,k2.trans m1,(m2.wide (Nat.le_refl _) (by omega) (by omega)).trans (k3.wide (by omega) (by omega) (Nat.le_refl _)),Wp qt.lr m2 m3 k3 k4⟩
  unfold C2
  simp only [hn,bh,cond_true]
  by_cases c1:a < s
  · rw [decide_eq_true (show (a:Int) < (s:Int) by omega),cond_true]
    by_cases c2:s < bS
    · rw [decide_eq_true (show (s:Int) < (bS:Int) by omega),cond_true]
      obtain ⟨D2,k1,k2⟩:=Wv D a s bS c1 c2 (by omega) h3 bc hL1 qt.l1 qt.l2 qt.l0
      rw [k1]
      simp only [aE.jB,aE.js,dM,cond_true]
      exact rest D2 k2
    · rw [decide_eq_false (show ¬ (s:Int) < (bS:Int) by omega),cond_false]
      have:s=bS:=by omega
      exact rest D ⟨rfl,.refl _ _ _,by rw [← this]; exact qt.l1⟩
  · rw [decide_eq_false (show ¬ (a:Int) < (s:Int) by omega),cond_false]
    have:a=s:=by omega
    exact rest D ⟨rfl,.refl _ _ _,by rw [this]; exact qt.l2⟩
theorem GP (Wv:sN h fg rc L) (D:Sl aZ) (a m b bS s e:Nat) (p:Int) (h3:D.n≤10000000000) (hb:b≤D.n) (hs:e+s=bS+m) (q0:a≤s) (q3:s≤bS) (q4:s≤m) (q1:bS≤e) (q5:m≤e) (q2:e≤b) (bc:∀ t,t < D.n→eZ h (D.get t)=true) (hL1:bS - a≤L) (hL:b - bS≤L) (s1:eF (bB h fg) D.get a m) (s2:eF (bB h fg) D.get m b) (s0:Ah (bB h fg) D.get a m b) (w1:∀ i j,a≤i→i < s→e≤j→j < b→(bB h fg).key (D.get i)≤(bB h fg).key (D.get j)) (w2:∀ i j,s≤i→i < m→m≤j→j < e→(bB h fg).key (D.get j) < (bB h fg).key (D.get i)) :
    ∃ D',HL rc ⟨D,(a:Int),(m:Int),(b:Int),(bS:Int),((bS+m:Nat):Int),(s:Int),(s:Int),p,h⟩ = .out .ret ⟨D',(a:Int),(m:Int),(b:Int),h⟩∧qo h fg D D' a b:=by
  have he:aB (((bS+m:Nat):Int) - (s:Int))=(e:Int):=by rw [x6 (by omega) (by omega)]; congr 1; omega
  have qt:=aak (o:=bB h fg) s1 s2 s0 q0 q4 q5 q2 hs w1 w2
  have rest:∀ D1:Sl aZ,D1.n=D.n→(∀ t,D1.get t=za D.get s m e t)→∃ D',C2 rc ⟨D,(a:Int),(m:Int),(b:Int),(bS:Int),((bS+m:Nat):Int),(s:Int),(s:Int),p,h⟩ D1 h = .out .ret ⟨D',(a:Int),(m:Int),(b:Int),h⟩∧qo h fg D D' a b:=fun D1 n1 g1=>by
    have hf:D1.get=za D.get s m e:=funext g1
    have hp:Perm D.get D1.get s e:=by rw [hf]; exact acs q4 q5
    obtain ⟨D',k1,k2,k3,k4⟩:=Tr Wv D D1 a m b bS s e p (by omega) n1 (by omega) (by omega) hs q0 q3 q1 q2 (pO n1 (by omega) hp bc) hL1 hL (by rw [hf]; exact qt)
    exact ⟨D',k1,k2.trans n1,(hp.wide q0 (by omega) q2).trans k3,k4⟩
  unfold HL
  simp only [he,bh,cond_true]
  by_cases c1:s < m
  · rw [decide_eq_true (show (s:Int) < (m:Int) by omega),cond_true]
    by_cases c2:m < e
    · rw [decide_eq_true (show (m:Int) < (e:Int) by omega),cond_true]
      obtain ⟨D1,k1,k2,k3⟩:=SE h D s m e c1 c2 (by omega) h3
      rw [k1]
      simp only [aE.jB,aE.js,dM,cond_true]
      exact rest D1 k2 k3
    · rw [decide_eq_false (show ¬ (m:Int) < (e:Int) by omega),cond_false]
      refine rest D rfl fun t=>?_
      by_cases ht:t < s∨e≤t
      · rw [C0 q4 q5 ht]
      · rw [Ei (by omega) (by omega)]; congr 1; omega
  · rw [decide_eq_false (show ¬ (s:Int) < (m:Int) by omega),cond_false]
    refine rest D rfl fun t=>?_
    by_cases ht:t < s∨e≤t
    · rw [C0 q4 q5 ht]
    · rw [HI (by omega) (by omega)]; congr 1; omega
theorem Pf (Wv:sN h fg rc L):sN h fg (cW rc) (2 * L):=by
  intro D a m b h1 h2 h4 h3 bc hL s1 s2 s0
  by_cases c1:m - a=1
  · obtain ⟨i,k1,k2,k3,k4,k5⟩:=Wr h D fg a m b (by omega) (by omega) h4 h3 bc s2
    obtain ⟨D',k,j1,j2,j3⟩:=Wt h D a m b i (by omega) (by omega) h3
    have e0:bX rc ⟨D,(a:Int),(m:Int),(b:Int),h⟩=_:=k1
    have e1:cn rc ⟨D,(a:Int),(m:Int),(b:Int),h⟩ = .out (.exit 2) ⟨D',(a:Int),(m:Int),(b:Int),(i:Int),k,h⟩:=by
      unfold cn
      rw [e0]
      exact j1
    have hf:D'.get=CZ D.get a (i - 1):=funext j3
    refine ⟨D',?_,j2,?_,?_⟩
    · unfold cW
      simp only [x6 (i:=m) (j:=a) (by omega) (by omega),c1,e0,e1]
      simp only [bh,cond_true,aE.jB,aE.js,dM,Nat.beq_refl,show (((1:Nat):Int) == (1:Int))=true from rfl]
    · rw [hf]
      exact (acq (d:=D.get) (a:=a) (k:=i - 1) (by omega)).wide (Nat.le_refl _) (by omega) (by omega)
    · rw [hf]
      have hm:m=a+1:=by omega
      subst hm
      exact YJ (o:=bB h fg) s2 s0 k2 k3 k4 k5
  · by_cases c2:b - m=1
    · obtain ⟨i,k1,k2,k3,k4,k5⟩:=Ws h D fg a m b (by omega) (by omega) h3 bc s1
      obtain ⟨D',k,j1,j2,j3⟩:=Wu h D a m b i k3 (by omega) h3
      have e0:bZ rc ⟨D,(a:Int),(m:Int),(b:Int),h⟩=_:=k1
      have e1:cp rc ⟨D,(a:Int),(m:Int),(b:Int),h⟩ = .out (.exit 6) ⟨D',(a:Int),(m:Int),(b:Int),(i:Int),k,h⟩:=by
        unfold cp
        rw [e0]
        exact j1
      have hf:D'.get=ins D.get i m:=funext j3
      have hb:b=m+1:=by omega
      refine ⟨D',?_,j2,?_,?_⟩
      · unfold cW
        simp only [x6 (i:=m) (j:=a) (by omega) (by omega),x6 (i:=b) (j:=m) (by omega) (by omega),c2,e0,e1,show (((m - a:Nat):Int) == (1:Int))=false by simpa using (show ¬ ((m - a:Nat):Int)=1 by omega),cond_false]
        simp only [bh,cond_true,aE.jB,aE.js,dM,Nat.beq_refl,show (((1:Nat):Int) == (1:Int))=true from rfl]
      · rw [hf,hb]
        exact (Ut (d:=D.get) (a:=a) k2 k3)
      · rw [hf,hb]
        rw [hb] at s0
        exact OB s1 s0 k2 k3 k4 k5
    · have aeF:=Wq (i:=a) (j:=b) (by omega)
      have hn:=OC (i:=(a+b) / 2) (j:=m) (by omega)
      have hp:=Ke (i:=(a+b) / 2+m) (by omega) (by omega)
      have g1:((aB ((m:Int) - (a:Int))) == (1:Int))=false:=by
        rw [x6 (by omega) (by omega)]
        simpa using (show ¬ ((m - a:Nat):Int)=1 by omega)
      have g2:((aB ((b:Int) - (m:Int))) == (1:Int))=false:=by
        rw [x6 (by omega) (by omega)]
        simpa using (show ¬ ((b - m:Nat):Int)=1 by omega)
      rw [SG rc _ g1 g2]
      simp only [aeF,bh,cond_true]
      by_cases c3:(a+b) / 2 < m
      · rw [decide_eq_true (show (m:Int) > (((a+b) / 2:Nat):Int) by omega),cond_true]
        have gm:=x6 (i:=(a+b) / 2+m) (j:=b) (by omega) (by omega)
        obtain ⟨s,k1,k2,k3,k4,k5⟩:=Md h D a m b ((a+b) / 2) ((a+b) / 2+m - b) ((a+b) / 2) (by omega) (by omega) (Nat.le_refl _) (by omega) (by omega) h4 h3 (by omega) bc
        have e4:ae rc ⟨D,(a:Int),(m:Int),(b:Int),h⟩ = .out (.exit 8) ⟨D,(a:Int),(m:Int),(b:Int),(((a+b) / 2:Nat):Int),(((a+b) / 2+m:Nat):Int),(s:Int),(s:Int),(((a+b) / 2+m - 1:Nat):Int),h⟩:=by
          unfold ae
          simp only [aeF,hn,hp,gm]
          exact k1
        rw [e4]
        simp only [aE.jB,aE.js,dM,Nat.beq_refl,cond_true]
        obtain ⟨w1,w2⟩:=I7 (o:=bB h fg) (s:=s) (s0:=(a+b) / 2+m - b) (r0:=(a+b) / 2) (bS:=(a+b) / 2) s1 s2 (by omega) (by omega) (by omega) (by omega) (k4.imp (fun e=>⟨e,.inr (by omega)⟩) fun ⟨q1,q2⟩=>⟨by omega,by omega,q2⟩) (k5.imp (fun e=>⟨e,.inr rfl⟩) fun ⟨q1,q2⟩=>⟨by omega,q1,q2⟩)
        exact GP Wv D a m b ((a+b) / 2) s ((a+b) / 2+m - s) _ h3 h4 (by omega) (by omega) (by omega) (by omega) (by omega) (by omega) (by omega) bc (by omega) (by omega) s1 s2 s0 w1 w2
      · rw [decide_eq_false (show ¬ (m:Int) > (((a+b) / 2:Nat):Int) by omega),cond_false]
        obtain ⟨s,k1,k2,k3,k4,k5⟩:=Md h D a m b ((a+b) / 2) a m (by omega) (Nat.le_refl _) (by omega) (by omega) (by omega) h4 h3 (by omega) bc
        have e4:aa rc ⟨D,(a:Int),(m:Int),(b:Int),h⟩ = .out (.exit 8) ⟨D,(a:Int),(m:Int),(b:Int),(((a+b) / 2:Nat):Int),(((a+b) / 2+m:Nat):Int),(s:Int),(s:Int),(((a+b) / 2+m - 1:Nat):Int),h⟩:=by
          unfold aa
          simp only [aeF,hn,hp]
          exact k1
        rw [e4]
        simp only [aE.jB,aE.js,dM,Nat.beq_refl,cond_true]
        obtain ⟨w1,w2⟩:=I7 (o:=bB h fg) (s:=s) (s0:=a) (r0:=m) (bS:=(a+b) / 2) s1 s2 (by omega) (by omega) (by omega) (by omega) (k4.imp (fun e=>⟨e,.inl rfl⟩) fun ⟨q1,q2⟩=>⟨q1,by omega,q2⟩) (k5.imp (fun e=>⟨e,.inl rfl⟩) fun ⟨q1,q2⟩=>⟨q1,by omega,q2⟩)
        exact GP Wv D a m b ((a+b) / 2) s ((a+b) / 2+m - s) _ h3 h4 (by omega) (by omega) (by omega) (by omega) (by omega) (by omega) (by omega) bc (by omega) (by omega) s1 s2 s0 w1 w2
end
theorem xb (h:Show) (fg:aZ→aZ→Prop):∀ n:Nat,sN h fg (eW n) (2 ^ n)
  | 0=>fun D a m b h1 h2 _ _ _ hL=>by simp at hL; omega
  | n+1=>by
    have:=Pf (xb h fg n)
    rw [Nat.pow_succ,Nat.mul_comm]
    exact this
end Go.Proofs.Ytahhdndhkgbcjaa.b
end
