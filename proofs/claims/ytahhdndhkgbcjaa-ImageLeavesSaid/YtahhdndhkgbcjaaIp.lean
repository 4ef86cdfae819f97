/- Part of the proof of ImageLeaves: a machine that runs the program's code over open terms, shown to be the model's, and the plain models of its functions. No conditions. -/
import Derived.Test.YtahhdndhkgbcjaaHp
section
namespace Go.Proofs.Ytahhdndhkgbcjaa.b
open Go.K
set_option linter.unusedVariables false
set_option linter.unusedSimpArgs false
noncomputable section
structure dL where
 e0:bX
 e1:bX
 e2:bX
instance:Inhabited dL:=⟨⟨default,default,default⟩⟩
def aav (x:dL):List KV:=[.int .i64 x.e0.p.x,.int .i64 x.e0.p.y,.int .i64 x.e0.p.z,.int .i64 x.e0.u,.int .i64 x.e0.v,.int .i64 x.e1.p.x,.int .i64 x.e1.p.y,.int .i64 x.e1.p.z,.int .i64 x.e1.u,.int .i64 x.e1.v,.int .i64 x.e2.p.x,.int .i64 x.e2.p.y,.int .i64 x.e2.p.z,.int .i64 x.e2.u,.int .i64 x.e2.v]
def pt (x:dL):KV:=.agg (aav x)
def aaw (c:Nat→KV):dL:=⟨⟨⟨intOf (c 0),intOf (c 1),intOf (c 2)⟩,intOf (c 3),intOf (c 4)⟩,⟨⟨intOf (c 5),intOf (c 6),intOf (c 7)⟩,intOf (c 8),intOf (c 9)⟩,⟨⟨intOf (c 10),intOf (c 11),intOf (c 12)⟩,intOf (c 13),intOf (c 14)⟩⟩
def qW (v:KV):dL:=aaw fun k=>v.cells.getD k .aw
theorem adY (x:dL):qW (pt x)=x:=rfl
theorem adZ:qW .aw=default:=rfl
theorem aax (s:Sl dL) (v:dL):s.push v=kl qW (s.n+1) (ff s.n (fun i=>pt (s.get i)) (rq [pt v])):=(yk adY adZ s v).symm
structure aA where
 aO:Int
 out:(Sl dL)
 l:(Sl bX)
 t22:dL
 t23:Int
 t:dL
instance:Inhabited aA:=⟨⟨default,default,default,default,default,default⟩⟩
def tX (x:aA):List KV:=[.int .i64 x.aO,iE 181 pt x.out,iE 180 nb x.l,pt x.t22,.int .i64 x.t23]
def tY (x:aA):List (List KV):=[aav x.t]
def EK (vs:List KV) (rs:List (List KV)):aA:=⟨intOf (vs.getD 0 .aw),gZ qW (vs.getD 1 .aw),gZ jQ (vs.getD 2 .aw),qW (vs.getD 3 .aw),intOf (vs.getD 4 .aw),aaw (fun k=>(rs.getD 0 []).getD k .aw)⟩
def G7:aU:=⟨[(0,⟨false,[.k (.int .i64)]⟩),(4,⟨false,[.bc 181]⟩),(7,⟨false,[.bc 180]⟩),(22,⟨true,[.k (.int .i64),.k (.int .i64),.k (.int .i64),.k (.int .i64),.k (.int .i64),.k (.int .i64),.k (.int .i64),.k (.int .i64),.k (.int .i64),.k (.int .i64),.k (.int .i64),.k (.int .i64),.k (.int .i64),.k (.int .i64),.k (.int .i64)]⟩),(23,⟨false,[.k (.int .i64)]⟩)],[(3,[.k (.int .i64),.k (.int .i64),.k (.int .i64),.k (.int .i64),.k (.int .i64),.k (.int .i64),.k (.int .i64),.k (.int .i64),.k (.int .i64),.k (.int .i64),.k (.int .i64),.k (.int .i64),.k (.int .i64),.k (.int .i64),.k (.int .i64)],5)],[(3,0,0)]⟩
def Sf:=jh Try.prog (bo Try.prog [(129,EE),(130,qV)] [] (fun _=>false) false true) 9 9 111 122 (eZ Try.prog 111 122) G7
def xP (x:aA):(Option (Prod bX Int)):=(eM x.aO x.t.e0 x.t22.e0)
def xQ (x:aA):(Option (Prod bX Int)):=(eM x.aO x.t22.e0 x.t.e0)
def xR (x:aA):(Option (Prod bX Int)):=(eM x.aO x.t.e1 x.t22.e0)
def xS (x:aA):(Option (Prod bX Int)):=(eM x.aO x.t22.e0 x.t.e1)
def xT (x:aA):(Option (Prod bX Int)):=(eM x.aO x.t.e2 x.t22.e0)
def xU (x:aA):(Option (Prod bX Int)):=(eM x.aO x.t22.e0 x.t.e2)
def xV (x:aA):(Option (Prod bX Int)):=(eM x.aO x.t.e0 x.t22.e1)
def xW (x:aA):(Option (Prod bX Int)):=(eM x.aO x.t22.e1 x.t.e0)
def xX (x:aA):(Option (Prod bX Int)):=(eM x.aO x.t.e1 x.t22.e1)
def xY (x:aA):(Option (Prod bX Int)):=(eM x.aO x.t22.e1 x.t.e1)
def wi (x:aA):(Option (Prod bX Int)):=(eM x.aO x.t.e2 x.t22.e1)
def wj (x:aA):(Option (Prod bX Int)):=(eM x.aO x.t22.e1 x.t.e2)
def wk (x:aA):(Option (Prod bX Int)):=(eM x.aO x.t.e0 x.t22.e2)
def wm (x:aA):(Option (Prod bX Int)):=(eM x.aO x.t22.e2 x.t.e0)
def wo (x:aA):(Option (Prod bX Int)):=(eM x.aO x.t.e1 x.t22.e2)
def wq (x:aA):(Option (Prod bX Int)):=(eM x.aO x.t22.e2 x.t.e1)
def wu (x:aA):(Option (Prod bX Int)):=(eM x.aO x.t.e2 x.t22.e2)
def wx (x:aA):(Option (Prod bX Int)):=(eM x.aO x.t22.e2 x.t.e2)
def ij (x:aA):aI aA:=
 (cond (decide (x.t23 < (3:Int)))
 (cond (decide (x.t23=(0:Int)))
 (cond (decide ((Int.tmod (au (x.t23+(1:Int))) (3:Int))=(0:Int)))
 (cond (decide (x.t22.e0.p.z ≥ x.aO))
 (cond (decide (x.t.e0.p.z ≥ x.aO))
 (cond ((av x.l.n x.l.n)&&(fe 40 x.l.n 1))
 (cond (cond (av (x.l.n+1) (x.l.n+1)) (av x.out.n x.out.n) false)
 (.next (⟨x.aO,x.out,(x.l.push x.t22.e0),x.t22,(au (x.t23+(1:Int))),x.t⟩:aA))
 .fail)
 .fail)
 (cond ((av x.l.n x.l.n)&&(fe 40 x.l.n 1))
 (cond (xP x).isSome
 (cond ((av (x.l.n+1) (x.l.n+1))&&(fe 40 (x.l.n+1) 1))
 (cond (cond (av ((x.l.n+1)+1) ((x.l.n+1)+1)) (av x.out.n x.out.n) false)
 (.next (⟨x.aO,x.out,((x.l.push x.t22.e0).push ((xP x).getD default).fst),x.t22,(au (x.t23+(1:Int))),x.t⟩:aA))
 .fail)
 .fail)
 .fail)
 .fail))
 (cond (decide (x.t.e0.p.z ≥ x.aO))
 (cond (xQ x).isSome
 (cond ((av x.l.n x.l.n)&&(fe 40 x.l.n 1))
 (cond (cond (av (x.l.n+1) (x.l.n+1)) (av x.out.n x.out.n) false)
 (.next (⟨x.aO,x.out,(x.l.push ((xQ x).getD default).fst),x.t22,(au (x.t23+(1:Int))),x.t⟩:aA))
 .fail)
 .fail)
 .fail)
 (cond (cond (av x.l.n x.l.n) (av x.out.n x.out.n) false)
 (.next (⟨x.aO,x.out,x.l,x.t22,(au (x.t23+(1:Int))),x.t⟩:aA))
 .fail)))
 (cond (decide ((Int.tmod (au (x.t23+(1:Int))) (3:Int))=(1:Int)))
 (cond (decide (x.t22.e0.p.z ≥ x.aO))
 (cond (decide (x.t.e1.p.z ≥ x.aO))
 (cond ((av x.l.n x.l.n)&&(fe 40 x.l.n 1))
 (cond (cond (av (x.l.n+1) (x.l.n+1)) (av x.out.n x.out.n) false)
 (.next (⟨x.aO,x.out,(x.l.push x.t22.e0),x.t22,(au (x.t23+(1:Int))),x.t⟩:aA))
 .fail)
 .fail)
 (cond ((av x.l.n x.l.n)&&(fe 40 x.l.n 1))
 (cond (xR x).isSome
 (cond ((av (x.l.n+1) (x.l.n+1))&&(fe 40 (x.l.n+1) 1))
 (cond (cond (av ((x.l.n+1)+1) ((x.l.n+1)+1)) (av x.out.n x.out.n) false)
 (.next (⟨x.aO,x.out,((x.l.push x.t22.e0).push ((xR x).getD default).fst),x.t22,(au (x.t23+(1:Int))),x.t⟩:aA))
 .fail)
 .fail)
 .fail)
 .fail))
 (cond (decide (x.t.e1.p.z ≥ x.aO))
 (cond (xS x).isSome
 (cond ((av x.l.n x.l.n)&&(fe 40 x.l.n 1))
 (cond (cond (av (x.l.n+1) (x.l.n+1)) (av x.out.n x.out.n) false)
 (.next (⟨x.aO,x.out,(x.l.push ((xS x).getD default).fst),x.t22,(au (x.t23+(1:Int))),x.t⟩:aA))
 .fail)
 .fail)
 .fail)
 (cond (cond (av x.l.n x.l.n) (av x.out.n x.out.n) false)
 (.next (⟨x.aO,x.out,x.l,x.t22,(au (x.t23+(1:Int))),x.t⟩:aA))
 .fail)))
 (cond (decide ((Int.tmod (au (x.t23+(1:Int))) (3:Int))=(2:Int)))
 (cond (decide (x.t22.e0.p.z ≥ x.aO))
 (cond (decide (x.t.e2.p.z ≥ x.aO))
 (cond ((av x.l.n x.l.n)&&(fe 40 x.l.n 1))
 (cond (cond (av (x.l.n+1) (x.l.n+1)) (av x.out.n x.out.n) false)
 (.next (⟨x.aO,x.out,(x.l.push x.t22.e0),x.t22,(au (x.t23+(1:Int))),x.t⟩:aA))
 .fail)
 .fail)
 (cond ((av x.l.n x.l.n)&&(fe 40 x.l.n 1))
 (cond (xT x).isSome
 (cond ((av (x.l.n+1) (x.l.n+1))&&(fe 40 (x.l.n+1) 1))
 (cond (cond (av ((x.l.n+1)+1) ((x.l.n+1)+1)) (av x.out.n x.out.n) false)
 (.next (⟨x.aO,x.out,((x.l.push x.t22.e0).push ((xT x).getD default).fst),x.t22,(au (x.t23+(1:Int))),x.t⟩:aA))
 .fail)
 .fail)
 .fail)
 .fail))
 (cond (decide (x.t.e2.p.z ≥ x.aO))
 (cond (xU x).isSome
 (cond ((av x.l.n x.l.n)&&(fe 40 x.l.n 1))
 (cond (cond (av (x.l.n+1) (x.l.n+1)) (av x.out.n x.out.n) false)
 (.next (⟨x.aO,x.out,(x.l.push ((xU x).getD default).fst),x.t22,(au (x.t23+(1:Int))),x.t⟩:aA))
 .fail)
 .fail)
 .fail)
 (cond (cond (av x.l.n x.l.n) (av x.out.n x.out.n) false)
 (.next (⟨x.aO,x.out,x.l,x.t22,(au (x.t23+(1:Int))),x.t⟩:aA))
 .fail)))
 .fail)))
 (cond (decide (x.t23=(1:Int)))
 (cond (decide ((Int.tmod (au (x.t23+(1:Int))) (3:Int))=(0:Int)))
 (cond (decide (x.t22.e1.p.z ≥ x.aO))
 (cond (decide (x.t.e0.p.z ≥ x.aO))
 (cond ((av x.l.n x.l.n)&&(fe 40 x.l.n 1))
 (cond (cond (av (x.l.n+1) (x.l.n+1)) (av x.out.n x.out.n) false)
 (.next (⟨x.aO,x.out,(x.l.push x.t22.e1),x.t22,(au (x.t23+(1:Int))),x.t⟩:aA))
 .fail)
 .fail)
 (cond ((av x.l.n x.l.n)&&(fe 40 x.l.n 1))
 (cond (xV x).isSome
 (cond ((av (x.l.n+1) (x.l.n+1))&&(fe 40 (x.l.n+1) 1))
 (cond (cond (av ((x.l.n+1)+1) ((x.l.n+1)+1)) (av x.out.n x.out.n) false)
 (.next (⟨x.aO,x.out,((x.l.push x.t22.e1).push ((xV x).getD default).fst),x.t22,(au (x.t23+(1:Int))),x.t⟩:aA))
 .fail)
 .fail)
 .fail)
 .fail))
 (cond (decide (x.t.e0.p.z ≥ x.aO))
 (cond (xW x).isSome
 (cond ((av x.l.n x.l.n)&&(fe 40 x.l.n 1))
 (cond (cond (av (x.l.n+1) (x.l.n+1)) (av x.out.n x.out.n) false)
 (.next (⟨x.aO,x.out,(x.l.push ((xW x).getD default).fst),x.t22,(au (x.t23+(1:Int))),x.t⟩:aA))
 .fail)
 .fail)
 .fail)
 (cond (cond (av x.l.n x.l.n) (av x.out.n x.out.n) false)
 (.next (⟨x.aO,x.out,x.l,x.t22,(au (x.t23+(1:Int))),x.t⟩:aA))
 .fail)))
 (cond (decide ((Int.tmod (au (x.t23+(1:Int))) (3:Int))=(1:Int)))
 (cond (decide (x.t22.e1.p.z ≥ x.aO))
 (cond (decide (x.t.e1.p.z ≥ x.aO))
 (cond ((av x.l.n x.l.n)&&(fe 40 x.l.n 1))
 (cond (cond (av (x.l.n+1) (x.l.n+1)) (av x.out.n x.out.n) false)
 (.next (⟨x.aO,x.out,(x.l.push x.t22.e1),x.t22,(au (x.t23+(1:Int))),x.t⟩:aA))
 .fail)
 .fail)
 (cond ((av x.l.n x.l.n)&&(fe 40 x.l.n 1))
 (cond (xX x).isSome
 (cond ((av (x.l.n+1) (x.l.n+1))&&(fe 40 (x.l.n+1) 1))
 (cond (cond (av ((x.l.n+1)+1) ((x.l.n+1)+1)) (av x.out.n x.out.n) false)
 (.next (⟨x.aO,x.out,((x.l.push x.t22.e1).push ((xX x).getD default).fst),x.t22,(au (x.t23+(1:Int))),x.t⟩:aA))
 .fail)
 .fail)
 .fail)
 .fail))
 (cond (decide (x.t.e1.p.z ≥ x.aO))
 (cond (xY x).isSome
 (cond ((av x.l.n x.l.n)&&(fe 40 x.l.n 1))
 (cond (cond (av (x.l.n+1) (x.l.n+1)) (av x.out.n x.out.n) false)
 (.next (⟨x.aO,x.out,(x.l.push ((xY x).getD default).fst),x.t22,(au (x.t23+(1:Int))),x.t⟩:aA))
 .fail)
 .fail)
 .fail)
 (cond (cond (av x.l.n x.l.n) (av x.out.n x.out.n) false)
 (.next (⟨x.aO,x.out,x.l,x.t22,(au (x.t23+(1:Int))),x.t⟩:aA))
 .fail)))
 (cond (decide ((Int.tmod (au (x.t23+(1:Int))) (3:Int))=(2:Int)))
 (cond (decide (x.t22.e1.p.z ≥ x.aO))
 (cond (decide (x.t.e2.p.z ≥ x.aO))
 (cond ((av x.l.n x.l.n)&&(fe 40 x.l.n 1))
 (cond (cond (av (x.l.n+1) (x.l.n+1)) (av x.out.n x.out.n) false)
 (.next (⟨x.aO,x.out,(x.l.push x.t22.e1),x.t22,(au (x.t23+(1:Int))),x.t⟩:aA))
 .fail)
 .fail)
 (cond ((av x.l.n x.l.n)&&(fe 40 x.l.n 1))
 (cond (wi x).isSome
 (cond ((av (x.l.n+1) (x.l.n+1))&&(fe 40 (x.l.n+1) 1))
 (cond (cond (av ((x.l.n+1)+1) ((x.l.n+1)+1)) (av x.out.n x.out.n) false)
 (.next (⟨x.aO,x.out,((x.l.push x.t22.e1).push ((wi x).getD default).fst),x.t22,(au (x.t23+(1:Int))),x.t⟩:aA))
 .fail)
 .fail)
 .fail)
 .fail))
 (cond (decide (x.t.e2.p.z ≥ x.aO))
 (cond (wj x).isSome
 (cond ((av x.l.n x.l.n)&&(fe 40 x.l.n 1))
 (cond (cond (av (x.l.n+1) (x.l.n+1)) (av x.out.n x.out.n) false)
 (.next (⟨x.aO,x.out,(x.l.push ((wj x).getD default).fst),x.t22,(au (x.t23+(1:Int))),x.t⟩:aA))
 .fail)
 .fail)
 .fail)
 (cond (cond (av x.l.n x.l.n) (av x.out.n x.out.n) false)
 (.next (⟨x.aO,x.out,x.l,x.t22,(au (x.t23+(1:Int))),x.t⟩:aA))
 .fail)))
 .fail)))
 (cond (decide (x.t23=(2:Int)))
 (cond (decide ((Int.tmod (au (x.t23+(1:Int))) (3:Int))=(0:Int)))
 (cond (decide (x.t22.e2.p.z ≥ x.aO))
 (cond (decide (x.t.e0.p.z ≥ x.aO))
 (cond ((av x.l.n x.l.n)&&(fe 40 x.l.n 1))
 (cond (cond (av (x.l.n+1) (x.l.n+1)) (av x.out.n x.out.n) false)
 (.next (⟨x.aO,x.out,(x.l.push x.t22.e2),x.t22,(au (x.t23+(1:Int))),x.t⟩:aA))
 .fail)
 .fail)
 (cond ((av x.l.n x.l.n)&&(fe 40 x.l.n 1))
 (cond (wk x).isSome
 (cond ((av (x.l.n+1) (x.l.n+1))&&(fe 40 (x.l.n+1) 1))
 (cond (cond (av ((x.l.n+1)+1) ((x.l.n+1)+1)) (av x.out.n x.out.n) false)
 (.next (⟨x.aO,x.out,((x.l.push x.t22.e2).push ((wk x).getD default).fst),x.t22,(au (x.t23+(1:Int))),x.t⟩:aA))
 .fail)
 .fail)
 .fail)
 .fail))
 (cond (decide (x.t.e0.p.z ≥ x.aO))
 (cond (wm x).isSome
 (cond ((av x.l.n x.l.n)&&(fe 40 x.l.n 1))
 (cond (cond (av (x.l.n+1) (x.l.n+1)) (av x.out.n x.out.n) false)
 (.next (⟨x.aO,x.out,(x.l.push ((wm x).getD default).fst),x.t22,(au (x.t23+(1:Int))),x.t⟩:aA))
 .fail)
 .fail)
 .fail)
 (cond (cond (av x.l.n x.l.n) (av x.out.n x.out.n) false)
 (.next (⟨x.aO,x.out,x.l,x.t22,(au (x.t23+(1:Int))),x.t⟩:aA))
 .fail)))
 (cond (decide ((Int.tmod (au (x.t23+(1:Int))) (3:Int))=(1:Int)))
 (cond (decide (x.t22.e2.p.z ≥ x.aO))
 (cond (decide (x.t.e1.p.z ≥ x.aO))
 (cond ((av x.l.n x.l.n)&&(fe 40 x.l.n 1))
 (cond (cond (av (x.l.n+1) (x.l.n+1)) (av x.out.n x.out.n) false)
 (.next (⟨x.aO,x.out,(x.l.push x.t22.e2),x.t22,(au (x.t23+(1:Int))),x.t⟩:aA))
 .fail)
 .fail)
 (cond ((av x.l.n x.l.n)&&(fe 40 x.l.n 1))
 (cond (wo x).isSome
 (cond ((av (x.l.n+1) (x.l.n+1))&&(fe 40 (x.l.n+1) 1))
 (cond (cond (av ((x.l.n+1)+1) ((x.l.n+1)+1)) (av x.out.n x.out.n) false)
 (.next (⟨x.aO,x.out,((x.l.push x.t22.e2).push ((wo x).getD default).fst),x.t22,(au (x.t23+(1:Int))),x.t⟩:aA))
 .fail)
 .fail)
 .fail)
 .fail))
 (cond (decide (x.t.e1.p.z ≥ x.aO))
 (cond (wq x).isSome
 (cond ((av x.l.n x.l.n)&&(fe 40 x.l.n 1))
 (cond (cond (av (x.l.n+1) (x.l.n+1)) (av x.out.n x.out.n) false)
 (.next (⟨x.aO,x.out,(x.l.push ((wq x).getD default).fst),x.t22,(au (x.t23+(1:Int))),x.t⟩:aA))
 .fail)
 .fail)
 .fail)
 (cond (cond (av x.l.n x.l.n) (av x.out.n x.out.n) false)
 (.next (⟨x.aO,x.out,x.l,x.t22,(au (x.t23+(1:Int))),x.t⟩:aA))
 .fail)))
 (cond (decide ((Int.tmod (au (x.t23+(1:Int))) (3:Int))=(2:Int)))
 (cond (decide (x.t22.e2.p.z ≥ x.aO))
 (cond (decide (x.t.e2.p.z ≥ x.aO))
 (cond ((av x.l.n x.l.n)&&(fe 40 x.l.n 1))
 (cond (cond (av (x.l.n+1) (x.l.n+1)) (av x.out.n x.out.n) false)
 (.next (⟨x.aO,x.out,(x.l.push x.t22.e2),x.t22,(au (x.t23+(1:Int))),x.t⟩:aA))
 .fail)
 .fail)
 (cond ((av x.l.n x.l.n)&&(fe 40 x.l.n 1))
 (cond (wu x).isSome
 (cond ((av (x.l.n+1) (x.l.n+1))&&(fe 40 (x.l.n+1) 1))
 (cond (cond (av ((x.l.n+1)+1) ((x.l.n+1)+1)) (av x.out.n x.out.n) false)
 (.next (⟨x.aO,x.out,((x.l.push x.t22.e2).push ((wu x).getD default).fst),x.t22,(au (x.t23+(1:Int))),x.t⟩:aA))
 .fail)
 .fail)
 .fail)
 .fail))
 (cond (decide (x.t.e2.p.z ≥ x.aO))
 (cond (wx x).isSome
 (cond ((av x.l.n x.l.n)&&(fe 40 x.l.n 1))
 (cond (cond (av (x.l.n+1) (x.l.n+1)) (av x.out.n x.out.n) false)
 (.next (⟨x.aO,x.out,(x.l.push ((wx x).getD default).fst),x.t22,(au (x.t23+(1:Int))),x.t⟩:aA))
 .fail)
 .fail)
 .fail)
 (cond (cond (av x.l.n x.l.n) (av x.out.n x.out.n) false)
 (.next (⟨x.aO,x.out,x.l,x.t22,(au (x.t23+(1:Int))),x.t⟩:aA))
 .fail)))
 .fail)))
 .fail)))
 (cond (cond (av x.l.n x.l.n) (av x.out.n x.out.n) false)
 (.out (aE.ak.exit 0) x)
 .fail))
theorem Nh (x:aA):Sf (tX x) (tY x)=aI.enc tX tY (ij x):=by
 unfold ij
 try simp only [aI.df,afV,ahh]
 kernel_rfl
def rT:Lp:=⟨111,122,G7,fun vs rs=>dC tX tY (goN ij (EK vs rs)) [aE.ak.exit 0],false⟩
theorem EL:rT.Ok Try.prog:=eH funcs mixed (ao.cons DH (ao.cons o3 ao.nil)) az.nil (L:=9) (n:=9) (step:=ij) (ev:=tX) (er:=tY) (pa:=EK) rfl (fun wv wr=>⟨by kernel_rfl,by kernel_rfl⟩) Nh
theorem Bu:cA Try.prog rT.f rT.p=true:=by kernel_rfl
structure iy where
 out:(Sl dL)
 l:(Sl bX)
 i:Int
instance:Inhabited iy:=⟨⟨default,default,default⟩⟩
def tZ (x:iy):List KV:=[iE 181 pt x.out,iE 180 nb x.l,.int .i64 x.i]
def ua (x:iy):List (List KV):=[]
def EM (vs:List KV) (rs:List (List KV)):iy:=⟨gZ qW (vs.getD 0 .aw),gZ jQ (vs.getD 1 .aw),intOf (vs.getD 2 .aw)⟩
def G8:aU:=⟨[(4,⟨false,[.bc 181]⟩),(7,⟨false,[.bc 180]⟩),(15,⟨false,[.k (.int .i64)]⟩)],[],[]⟩
def Sg:=jh Try.prog (bo Try.prog [(129,EE),(130,qV)] [rT] (fun _=>false) false true) 9 9 111 250 (eZ Try.prog 111 250) G8
def kQ (x:iy):aI iy:=
 (cond (decide (x.i < ((x.l.n:Nat):Int)))
 (cond (decide ((0:Int) < ((x.l.n:Nat):Int)))
 (cond ((decide ((0:Int)≤(au (x.i - (1:Int)))))&&(decide ((au (x.i - (1:Int))) < ((x.l.n:Nat):Int))))
 (cond ((decide ((0:Int)≤x.i))&&(decide (x.i < ((x.l.n:Nat):Int))))
 (cond ((av x.out.n x.out.n)&&(fe 120 x.out.n 1))
 (cond (cond (av x.l.n x.l.n) (av (x.out.n+1) (x.out.n+1)) false)
 (.next (⟨(x.out.push (⟨(x.l.get 0),(x.l.get (Int.toNat (au (x.i - (1:Int))))),(x.l.get (Int.toNat x.i))⟩:dL)),x.l,(au (x.i+(1:Int)))⟩:iy))
 .fail)
 .fail)
 .fail)
 .fail)
 .fail)
 (cond (cond (av x.l.n x.l.n) (av x.out.n x.out.n) false)
 (.out (aE.ak.exit 2) x)
 .fail))
theorem Ni (x:iy):Sg (tZ x) (ua x)=aI.enc tZ ua (kQ x):=by
 unfold kQ
 try simp only [aI.df,aax]
 kernel_rfl
def vC:Lp:=⟨111,250,G8,fun vs rs=>dC tZ ua (goN kQ (EM vs rs)) [aE.ak.exit 2],false⟩
theorem Sh:vC.Ok Try.prog:=eH funcs mixed (ao.cons DH (ao.cons o3 ao.nil)) (az.cons EL Bu az.nil) (L:=9) (n:=9) (step:=kQ) (ev:=tZ) (er:=ua) (pa:=EM) rfl (fun wv wr=>⟨by kernel_rfl,by kernel_rfl⟩) Ni
theorem LB:cA Try.prog vC.f vC.p=true:=by kernel_rfl
def Oe:List (Nat×(List KV→KR KV)):=[(129,EE),(130,qV)]
def Og:List Lp:=[rT,vC]
theorem W9:ao Try.prog Oe:=(ao.cons DH (ao.cons o3 ao.nil))
theorem Xa:az Try.prog Og:=(az.cons EL Bu (az.cons Sh LB az.nil))
def uW (aO:Int) (t:dL):(Option Int):=(lu t.e0)
def cN (aO:Int) (t:dL):(aI aA):=(goN ij (⟨aO,(⟨0,(fun i=>(⟨(⟨(⟨(0:Int),(0:Int),(0:Int)⟩:dY),(0:Int),(0:Int)⟩:bX),(⟨(⟨(0:Int),(0:Int),(0:Int)⟩:dY),(0:Int),(0:Int)⟩:bX),(⟨(⟨(0:Int),(0:Int),(0:Int)⟩:dY),(0:Int),(0:Int)⟩:bX)⟩:dL))⟩:Sl _),(⟨0,(fun i=>(⟨(⟨(0:Int),(0:Int),(0:Int)⟩:dY),(0:Int),(0:Int)⟩:bX))⟩:Sl _),t,(0:Int),t⟩:aA))
def iz (aO:Int) (t:dL):(aI iy):=(goN kQ (⟨(cN aO t).st.out,(cN aO t).st.l,(2:Int)⟩:iy))
def uX (aO:Int) (t:dL):(Option Int):=(lu t.e1)
def uY (aO:Int) (t:dL):(Option Int):=(lu t.e2)
def vD (aO:Int) (t:dL):Option ((Sl dL)×Int):=
 (cond (decide (aO < (256:Int)))
 (some ((⟨0,(fun i=>(⟨(⟨(⟨(0:Int),(0:Int),(0:Int)⟩:dY),(0:Int),(0:Int)⟩:bX),(⟨(⟨(0:Int),(0:Int),(0:Int)⟩:dY),(0:Int),(0:Int)⟩:bX),(⟨(⟨(0:Int),(0:Int),(0:Int)⟩:dY),(0:Int),(0:Int)⟩:bX)⟩:dL))⟩:Sl _),(2:Int)))
 (cond (decide (aO > (4096:Int)))
 (some ((⟨0,(fun i=>(⟨(⟨(⟨(0:Int),(0:Int),(0:Int)⟩:dY),(0:Int),(0:Int)⟩:bX),(⟨(⟨(0:Int),(0:Int),(0:Int)⟩:dY),(0:Int),(0:Int)⟩:bX),(⟨(⟨(0:Int),(0:Int),(0:Int)⟩:dY),(0:Int),(0:Int)⟩:bX)⟩:dL))⟩:Sl _),(2:Int)))
 (cond (uW aO t).isSome
 (cond (((uW aO t).getD default) != (0:Int))
 (cond (((uW aO t).getD default) != (0:Int))
 (some ((⟨0,(fun i=>(⟨(⟨(⟨(0:Int),(0:Int),(0:Int)⟩:dY),(0:Int),(0:Int)⟩:bX),(⟨(⟨(0:Int),(0:Int),(0:Int)⟩:dY),(0:Int),(0:Int)⟩:bX),(⟨(⟨(0:Int),(0:Int),(0:Int)⟩:dY),(0:Int),(0:Int)⟩:bX)⟩:dL))⟩:Sl _),((uW aO t).getD default)))
 (cond ((cN aO t).by (aE.ak.exit 0))
 (cond (cond (av (cN aO t).st.l.n (cN aO t).st.l.n) (av (cN aO t).st.out.n (cN aO t).st.out.n) false)
 (cond ((iz aO t).by (aE.ak.exit 2))
 (some ((iz aO t).st.out,(0:Int)))
 none)
 none)
 none))
 (cond (uX aO t).isSome
 (cond (((uX aO t).getD default) != (0:Int))
 (cond (((uX aO t).getD default) != (0:Int))
 (some ((⟨0,(fun i=>(⟨(⟨(⟨(0:Int),(0:Int),(0:Int)⟩:dY),(0:Int),(0:Int)⟩:bX),(⟨(⟨(0:Int),(0:Int),(0:Int)⟩:dY),(0:Int),(0:Int)⟩:bX),(⟨(⟨(0:Int),(0:Int),(0:Int)⟩:dY),(0:Int),(0:Int)⟩:bX)⟩:dL))⟩:Sl _),((uX aO t).getD default)))
 (cond ((cN aO t).by (aE.ak.exit 0))
 (cond (cond (av (cN aO t).st.l.n (cN aO t).st.l.n) (av (cN aO t).st.out.n (cN aO t).st.out.n) false)
 (cond ((iz aO t).by (aE.ak.exit 2))
 (some ((iz aO t).st.out,(0:Int)))
 none)
 none)
 none))
 (cond (uY aO t).isSome
 (cond (((uY aO t).getD default) != (0:Int))
 (cond (((uY aO t).getD default) != (0:Int))
 (some ((⟨0,(fun i=>(⟨(⟨(⟨(0:Int),(0:Int),(0:Int)⟩:dY),(0:Int),(0:Int)⟩:bX),(⟨(⟨(0:Int),(0:Int),(0:Int)⟩:dY),(0:Int),(0:Int)⟩:bX),(⟨(⟨(0:Int),(0:Int),(0:Int)⟩:dY),(0:Int),(0:Int)⟩:bX)⟩:dL))⟩:Sl _),((uY aO t).getD default)))
 (cond ((cN aO t).by (aE.ak.exit 0))
 (cond (cond (av (cN aO t).st.l.n (cN aO t).st.l.n) (av (cN aO t).st.out.n (cN aO t).st.out.n) false)
 (cond ((iz aO t).by (aE.ak.exit 2))
 (some ((iz aO t).st.out,(0:Int)))
 none)
 none)
 none))
 (cond ((cN aO t).by (aE.ak.exit 0))
 (cond (cond (av (cN aO t).st.l.n (cN aO t).st.l.n) (av (cN aO t).st.out.n (cN aO t).st.out.n) false)
 (cond ((iz aO t).by (aE.ak.exit 2))
 (some ((iz aO t).st.out,(0:Int)))
 none)
 none)
 none))
 none))
 none))
 none)))
theorem aay (aO:Int) (t:dL):dm Try.prog (bo Try.prog Oe Og (fun _=>false) false true) 9 9 111 [(kI .i64) aO,pt t] = (vD aO t).map (fun (r:(Sl dL)×Int)=>KV.kk [(iE 181 pt) r.1,(kI .i64) r.2]):=by
 unfold vD
 try simp only [cc]
 kernel_rfl
def IU:List KV→KR KV:=cw Try.prog 111 (cG (fun (r:(Sl dL)×Int)=>KV.kk [(iE 181 pt) r.1,(kI .i64) r.2]) fun vs=>vD (intOf (vs.getD 0 .aw)) (qW (vs.getD 1 .aw)))
theorem Xb (w:Nat→KV):cM Try.prog [3,181] w 0 = [(kI .i64) (intOf (ay Try.prog (aj Try.prog aq) 3 (w 0))),pt (qW (ay Try.prog (aj Try.prog aq) 181 (w 1)))]:=by kernel_rfl
theorem JI:ca Try.prog 111 IU:=aY funcs mixed W9 Xa (L:=9) (n:=9) fun w=>by
 have e:aJ Try.prog 111 = [3,181]:=by kernel_rfl
 rw [e,Xb]
 exact (aay (intOf (ay Try.prog (aj Try.prog aq) 3 (w 0))) (qW (ay Try.prog (aj Try.prog aq) 181 (w 1)))).trans (by kernel_rfl)
end
end Go.Proofs.Ytahhdndhkgbcjaa.b
end
section
namespace Go.Proofs.Ytahhdndhkgbcjaa.b
open Go.K
set_option linter.unusedVariables false
set_option linter.unusedSimpArgs false
noncomputable section
def aaz:List (Nat×(List KV→KR KV)):=[]
def aaA:List Lp:=[]
theorem ad0:ao Try.prog aaz:=ao.nil
theorem ad1:az Try.prog aaA:=az.nil
def yr (n:Int):Option (Bool):=
 (cond (decide (n ≥ (-(32768:Int))))
 (some ((decide (n≤(32768:Int)))))
 (some (false)))
theorem af2 (n:Int):dm Try.prog (bo Try.prog aaz aaA (fun _=>false)) 9 9 125 [(kI .i64) n] = (yr n).map kB:=by
 unfold yr
 try simp only [cc]
 kernel_rfl
def MP:List KV→KR KV:=cw Try.prog 125 (cG kB fun vs=>yr (intOf (vs.getD 0 .aw)))
theorem ad2 (w:Nat→KV):cM Try.prog [3] w 0 = [(kI .i64) (intOf (ay Try.prog (aj Try.prog aq) 3 (w 0)))]:=by kernel_rfl
theorem IV:ca Try.prog 125 MP:=aY funcs mixed ad0 ad1 (L:=9) (n:=9) fun w=>by
 have e:aJ Try.prog 125 = [3]:=by kernel_rfl
 rw [e,ad2]
 exact (af2 (intOf (ay Try.prog (aj Try.prog aq) 3 (w 0)))).trans (by kernel_rfl)
structure tr where
 low:dY
 high:dY
instance:Inhabited tr:=⟨⟨default,default⟩⟩
def akK (x:tr):List KV:=[.int .i64 x.low.x,.int .i64 x.low.y,.int .i64 x.low.z,.int .i64 x.high.x,.int .i64 x.high.y,.int .i64 x.high.z]
def zS (x:tr):KV:=.agg (akK x)
def akL (c:Nat→KV):tr:=⟨⟨intOf (c 0),intOf (c 1),intOf (c 2)⟩,⟨intOf (c 3),intOf (c 4),intOf (c 5)⟩⟩
def Si (v:KV):tr:=akL fun k=>v.cells.getD k .aw
structure Span where
 low:Int
 high:Int
instance:Inhabited Span:=⟨⟨default,default⟩⟩
structure zp where
 e0:Span
 e1:Span
 e2:Span
instance:Inhabited zp:=⟨⟨default,default,default⟩⟩
def ai3 (x:zp):List KV:=[.int .i64 x.e0.low,.int .i64 x.e0.high,.int .i64 x.e1.low,.int .i64 x.e1.high,.int .i64 x.e2.low,.int .i64 x.e2.high]
def MQ (x:zp):KV:=.agg (ai3 x)
def ai4 (c:Nat→KV):zp:=⟨⟨intOf (c 0),intOf (c 1)⟩,⟨intOf (c 2),intOf (c 3)⟩,⟨intOf (c 4),intOf (c 5)⟩⟩
def UT (v:KV):zp:=ai4 fun k=>v.cells.getD k .aw
def Oh:List (Nat×(List KV→KR KV)):=[]
def Oi:List Lp:=[]
theorem Xc:ao Try.prog Oh:=ao.nil
theorem Xd:az Try.prog Oi:=az.nil
def IW (b:tr):Option (zp):=
 (some ((⟨(⟨b.low.x,b.high.x⟩:Span),(⟨b.low.y,b.high.y⟩:Span),(⟨b.low.z,b.high.z⟩:Span)⟩:zp)))
theorem aaB (b:tr):dm Try.prog (bo Try.prog Oh Oi (fun _=>false)) 9 9 136 [zS b] = (IW b).map MQ:=by
 unfold IW
 kernel_rfl
def Sj:List KV→KR KV:=cw Try.prog 136 (cG MQ fun vs=>IW (Si (vs.getD 0 .aw)))
theorem Xe (w:Nat→KV):cM Try.prog [43] w 0 = [zS (Si (ay Try.prog (aj Try.prog aq) 43 (w 0)))]:=by kernel_rfl
theorem Xf:ca Try.prog 136 Sj:=aY funcs mixed Xc Xd (L:=9) (n:=9) fun w=>by
 have e:aJ Try.prog 136 = [43]:=by kernel_rfl
 rw [e,Xe]
 exact (aaB (Si (ay Try.prog (aj Try.prog aq) 43 (w 0)))).trans (by kernel_rfl)
def Oj:List (Nat×(List KV→KR KV)):=[]
def Ol:List Lp:=[]
theorem Xg:ao Try.prog Oj:=ao.nil
theorem Xh:az Try.prog Ol:=az.nil
def IX (s:zp):Option (tr):=
 (some ((⟨(⟨s.e0.low,s.e1.low,s.e2.low⟩:dY),(⟨s.e0.high,s.e1.high,s.e2.high⟩:dY)⟩:tr)))
theorem aaC (s:zp):dm Try.prog (bo Try.prog Oj Ol (fun _=>false)) 9 9 137 [MQ s] = (IX s).map zS:=by
 unfold IX
 kernel_rfl
def Sk:List KV→KR KV:=cw Try.prog 137 (cG zS fun vs=>IX (UT (vs.getD 0 .aw)))
theorem Xi (w:Nat→KV):cM Try.prog [217] w 0 = [MQ (UT (ay Try.prog (aj Try.prog aq) 217 (w 0)))]:=by kernel_rfl
theorem Xj:ca Try.prog 137 Sk:=aY funcs mixed Xg Xh (L:=9) (n:=9) fun w=>by
 have e:aJ Try.prog 137 = [217]:=by kernel_rfl
 rw [e,Xi]
 exact (aaC (UT (ay Try.prog (aj Try.prog aq) 217 (w 0)))).trans (by kernel_rfl)
def Sm:List (Nat×(List KV→KR KV)):=[(137,Sk),(136,Sj)]
def Sn:List Lp:=[]
theorem aaD:ao Try.prog Sm:=(ao.cons Xj (ao.cons Xf ao.nil))
theorem aaE:az Try.prog Sn:=az.nil
def LC (a:tr) (b:tr):Option (tr):=
 (some ((⟨(⟨(min a.low.x b.low.x),(min a.low.y b.low.y),(min a.low.z b.low.z)⟩:dY),(⟨(max a.high.x b.high.x),(max a.high.y b.high.y),(max a.high.z b.high.z)⟩:dY)⟩:tr)))
theorem abP (a:tr) (b:tr):dm Try.prog (bo Try.prog Sm Sn (fun _=>false)) 9 9 126 [zS a,zS b] = (LC a b).map zS:=by
 unfold LC
 kernel_rfl
def EN:List KV→KR KV:=cw Try.prog 126 (cG zS fun vs=>LC (Si (vs.getD 0 .aw)) (Si (vs.getD 1 .aw)))
theorem aaF (w:Nat→KV):cM Try.prog [43,43] w 0 = [zS (Si (ay Try.prog (aj Try.prog aq) 43 (w 0))),zS (Si (ay Try.prog (aj Try.prog aq) 43 (w 1)))]:=by kernel_rfl
theorem DJ:ca Try.prog 126 EN:=aY funcs mixed aaD aaE (L:=9) (n:=9) fun w=>by
 have e:aJ Try.prog 126 = [43,43]:=by kernel_rfl
 rw [e,aaF]
 exact (abP (Si (ay Try.prog (aj Try.prog aq) 43 (w 0))) (Si (ay Try.prog (aj Try.prog aq) 43 (w 1)))).trans (by kernel_rfl)
structure ik where
 l:(Sl dY)
 e:Int
 t17:(Sl dY)
 t18:Int
 t19:Int
 b:tr
instance:Inhabited ik:=⟨⟨default,default,default,default,default,default⟩⟩
def A8 (x:ik):List KV:=[iE 41 wW x.l,.int .i64 x.e,iE 41 wW x.t17,.int .i64 x.t18,.int .i64 x.t19]
def A9 (x:ik):List (List KV):=[akK x.b]
def Om (vs:List KV) (rs:List (List KV)):ik:=⟨gZ yl (vs.getD 0 .aw),intOf (vs.getD 1 .aw),gZ yl (vs.getD 2 .aw),intOf (vs.getD 3 .aw),intOf (vs.getD 4 .aw),akL (fun k=>(rs.getD 0 []).getD k .aw)⟩
def Sp:aU:=⟨[(0,⟨false,[.k (.slice 41)]⟩),(3,⟨false,[.k (.int .i64)]⟩),(17,⟨false,[.k (.slice 41)]⟩),(18,⟨false,[.k (.int .i64)]⟩),(19,⟨false,[.k (.int .i64)]⟩)],[(2,[.k (.int .i64),.k (.int .i64),.k (.int .i64),.k (.int .i64),.k (.int .i64),.k (.int .i64)],1)],[(2,0,0)]⟩
def abQ:=jh Try.prog (bo Try.prog [(126,EN),(125,MP)] [] (fun _=>false)) 9 9 109 58 (eZ Try.prog 109 58) Sp
def zq (x:ik):(Option Bool):=(yr (x.t17.get (Int.toNat x.t19)).x)
def zr (x:ik):(Option Bool):=(yr (x.t17.get (Int.toNat x.t19)).y)
def zt (x:ik):(Option Bool):=(yr (x.t17.get (Int.toNat x.t19)).z)
def oi (x:ik):aI ik:=
 (cond (decide (x.t19 < x.t18))
 (cond ((decide ((0:Int)≤x.t19))&&(decide (x.t19 < ((x.t17.n:Nat):Int))))
 (cond (zq x).isSome
 (cond (!((zq x).getD default))
 (.out aE.ak.ret (⟨x.l,(20:Int),x.t17,x.t18,x.t19,(⟨(⟨(0:Int),(0:Int),(0:Int)⟩:dY),(⟨(0:Int),(0:Int),(0:Int)⟩:dY)⟩:tr)⟩:ik))
 (cond (zr x).isSome
 (cond (!((zr x).getD default))
 (.out aE.ak.ret (⟨x.l,(20:Int),x.t17,x.t18,x.t19,(⟨(⟨(0:Int),(0:Int),(0:Int)⟩:dY),(⟨(0:Int),(0:Int),(0:Int)⟩:dY)⟩:tr)⟩:ik))
 (cond (zt x).isSome
 (cond (!((zt x).getD default))
 (.out aE.ak.ret (⟨x.l,(20:Int),x.t17,x.t18,x.t19,(⟨(⟨(0:Int),(0:Int),(0:Int)⟩:dY),(⟨(0:Int),(0:Int),(0:Int)⟩:dY)⟩:tr)⟩:ik))
 (.next (⟨x.l,x.e,x.t17,x.t18,(au (x.t19+(1:Int))),x.b⟩:ik)))
 .fail))
 .fail))
 .fail)
 .fail)
 (.out (aE.ak.exit 0) x))
theorem Xk (x:ik):abQ (A8 x) (A9 x)=aI.enc A8 A9 (oi x):=by
 unfold oi
 try simp only [aI.df]
 kernel_rfl
def zu:Lp:=⟨109,58,Sp,fun vs rs=>dC A8 A9 (goN oi (Om vs rs)) [aE.ak.exit 0,aE.ak.ret],false⟩
theorem Oo:zu.Ok Try.prog:=eH funcs mixed (ao.cons DJ (ao.cons IV ao.nil)) az.nil (L:=9) (n:=9) (step:=oi) (ev:=A8) (er:=A9) (pa:=Om) rfl (fun wv wr=>⟨by kernel_rfl,by kernel_rfl⟩) Xk
theorem G9:cA Try.prog zu.f zu.p=true:=by kernel_rfl
structure lv where
 t49:(Sl dY)
 t50:Int
 t51:Int
 b:tr
instance:Inhabited lv:=⟨⟨default,default,default,default⟩⟩
def zv (x:lv):List KV:=[iE 41 wW x.t49,.int .i64 x.t50,.int .i64 x.t51]
def zw (x:lv):List (List KV):=[akK x.b]
def LD (vs:List KV) (rs:List (List KV)):lv:=⟨gZ yl (vs.getD 0 .aw),intOf (vs.getD 1 .aw),intOf (vs.getD 2 .aw),akL (fun k=>(rs.getD 0 []).getD k .aw)⟩
def Oq:aU:=⟨[(49,⟨false,[.k (.slice 41)]⟩),(50,⟨false,[.k (.int .i64)]⟩),(51,⟨false,[.k (.int .i64)]⟩)],[(2,[.k (.int .i64),.k (.int .i64),.k (.int .i64),.k (.int .i64),.k (.int .i64),.k (.int .i64)],1)],[(2,0,0)]⟩
def aaG:=jh Try.prog (bo Try.prog [(126,EN),(125,MP)] [zu] (fun _=>false)) 9 9 109 250 (eZ Try.prog 109 250) Oq
def l8 (x:lv):aI lv:=
 (cond (decide (x.t51 < x.t50))
 (cond ((decide ((0:Int)≤x.t51))&&(decide (x.t51 < ((x.t49.n:Nat):Int))))
 (.next (⟨x.t49,x.t50,(au (x.t51+(1:Int))),(⟨(⟨(min x.b.low.x (x.t49.get (Int.toNat x.t51)).x),(min x.b.low.y (x.t49.get (Int.toNat x.t51)).y),(min x.b.low.z (x.t49.get (Int.toNat x.t51)).z)⟩:dY),(⟨(max x.b.high.x (x.t49.get (Int.toNat x.t51)).x),(max x.b.high.y (x.t49.get (Int.toNat x.t51)).y),(max x.b.high.z (x.t49.get (Int.toNat x.t51)).z)⟩:dY)⟩:tr)⟩:lv))
 .fail)
 (.out (aE.ak.exit 2) x))
theorem UU (x:lv):aaG (zv x) (zw x)=aI.enc zv zw (l8 x):=by
 unfold l8
 try simp only [aI.df]
 kernel_rfl
def Ba:Lp:=⟨109,250,Oq,fun vs rs=>dC zv zw (goN l8 (LD vs rs)) [aE.ak.exit 2],false⟩
theorem aaH:Ba.Ok Try.prog:=eH funcs mixed (ao.cons DJ (ao.cons IV ao.nil)) (az.cons Oo G9 az.nil) (L:=9) (n:=9) (step:=l8) (ev:=zv) (er:=zw) (pa:=LD) rfl (fun wv wr=>⟨by kernel_rfl,by kernel_rfl⟩) UU
theorem Sq:cA Try.prog Ba.f Ba.p=true:=by kernel_rfl
def aaI:List (Nat×(List KV→KR KV)):=[(126,EN),(125,MP)]
def aaJ:List Lp:=[zu,Ba]
theorem ad3:ao Try.prog aaI:=(ao.cons DJ (ao.cons IV ao.nil))
theorem ad4:az Try.prog aaJ:=(az.cons Oo G9 (az.cons aaH Sq az.nil))
def gF (l:(Sl dY)):(aI ik):=(goN oi (⟨l,(0:Int),l,((l.n:Nat):Int),(0:Int),(⟨(⟨(0:Int),(0:Int),(0:Int)⟩:dY),(⟨(0:Int),(0:Int),(0:Int)⟩:dY)⟩:tr)⟩:ik))
def Bv (l:(Sl dY)):(aI lv):=(goN l8 (⟨(⟨((Int.toNat (((gF l).st.l.n:Nat):Int)) - 1),(fun i=>((gF l).st.l.get (1+i)))⟩:Sl _),((((Int.toNat (((gF l).st.l.n:Nat):Int)) - 1):Nat):Int),(0:Int),(⟨((gF l).st.l.get 0),((gF l).st.l.get 0)⟩:tr)⟩:lv))
def CZ (l:(Sl dY)):Option (tr×Int):=
 (cond (((l.n:Nat):Int)==(0:Int))
 (some ((⟨(⟨(0:Int),(0:Int),(0:Int)⟩:dY),(⟨(0:Int),(0:Int),(0:Int)⟩:dY)⟩:tr),(4:Int)))
 (cond (decide (((l.n:Nat):Int) > (4096:Int)))
 (some ((⟨(⟨(0:Int),(0:Int),(0:Int)⟩:dY),(⟨(0:Int),(0:Int),(0:Int)⟩:dY)⟩:tr),(4:Int)))
 (cond ((gF l).by (aE.ak.exit 0))
 (cond (decide ((0:Int) < (((gF l).st.l.n:Nat):Int)))
 (cond (decide ((0:Int) < (((gF l).st.l.n:Nat):Int)))
 (cond ((decide ((1:Int)≤(((gF l).st.l.n:Nat):Int)))&&(decide ((((gF l).st.l.n:Nat):Int)≤(((gF l).st.l.n:Nat):Int))))
 (cond ((Bv l).by (aE.ak.exit 2))
 (some ((Bv l).st.b,(0:Int)))
 none)
 none)
 none)
 none)
 (cond ((gF l).by aE.ak.ret)
 (some ((gF l).st.b,(gF l).st.e))
 none))))
theorem af3 (l:(Sl dY)):dm Try.prog (bo Try.prog aaI aaJ (fun _=>false)) 9 9 109 [(iE 41 wW) l] = (CZ l).map (fun (r:tr×Int)=>KV.kk [zS r.1,(kI .i64) r.2]):=by
 unfold CZ
 try simp only [cc]
 kernel_rfl
def MR:List KV→KR KV:=cw Try.prog 109 (cG (fun (r:tr×Int)=>KV.kk [zS r.1,(kI .i64) r.2]) fun vs=>CZ ((gZ yl) (vs.getD 0 .aw)))
theorem ad5 (w:Nat→KV):cM Try.prog [33] w 0 = [(iE 41 wW) ((gZ yl) (ay Try.prog (aj Try.prog aq) 33 (w 0)))]:=by kernel_rfl
theorem IY:ca Try.prog 109 MR:=aY funcs mixed ad3 ad4 (L:=9) (n:=9) fun w=>by
 have e:aJ Try.prog 109 = [33]:=by kernel_rfl
 rw [e,ad5]
 exact (af3 ((gZ yl) (ay Try.prog (aj Try.prog aq) 33 (w 0)))).trans (by kernel_rfl)
def Ha:List (Nat×(List KV→KR KV)):=[]
def Hb:List Lp:=[]
theorem PJ:ao Try.prog Ha:=ao.nil
theorem PK:az Try.prog Hb:=az.nil
def lH (n:Int):Option (Bool):=
 (cond (decide (n > (0:Int)))
 (some ((decide (n≤(16:Int)))))
 (some (false)))
theorem Sr (n:Int):dm Try.prog (bo Try.prog Ha Hb (fun _=>false)) 9 9 106 [(kI .i64) n] = (lH n).map kB:=by
 unfold lH
 try simp only [cc]
 kernel_rfl
def JJ:List KV→KR KV:=cw Try.prog 106 (cG kB fun vs=>lH (intOf (vs.getD 0 .aw)))
theorem PL (w:Nat→KV):cM Try.prog [3] w 0 = [(kI .i64) (intOf (ay Try.prog (aj Try.prog aq) 3 (w 0)))]:=by kernel_rfl
theorem PM:ca Try.prog 106 JJ:=aY funcs mixed PJ PK (L:=9) (n:=9) fun w=>by
 have e:aJ Try.prog 106 = [3]:=by kernel_rfl
 rw [e,PL]
 exact (Sr (intOf (ay Try.prog (aj Try.prog aq) 3 (w 0)))).trans (by kernel_rfl)
structure Color where
 e0:Int
 e1:Int
 e2:Int
 e3:Int
instance:Inhabited Color:=⟨⟨default,default,default,default⟩⟩
def X7 (x:Color):List KV:=[.int .u8 x.e0,.int .u8 x.e1,.int .u8 x.e2,.int .u8 x.e3]
def il (x:Color):KV:=.agg (X7 x)
def X8 (c:Nat→KV):Color:=⟨intOf (c 0),intOf (c 1),intOf (c 2),intOf (c 3)⟩
def n6 (v:KV):Color:=X8 fun k=>v.cells.getD k .aw
structure ek where
 w:Int
 h:Int
 EO:(Sl Color)
instance:Inhabited ek:=⟨⟨default,default,default⟩⟩
def ai5 (x:ek):List KV:=[.int .i64 x.w,.int .i64 x.h,iE 37 il x.EO]
def n7 (x:ek):KV:=.agg (ai5 x)
def ai6 (c:Nat→KV):ek:=⟨intOf (c 0),intOf (c 1),gZ n6 (c 2)⟩
def kx (v:KV):ek:=ai6 fun k=>v.cells.getD k .aw
def EP:List (Nat×(List KV→KR KV)):=[(106,JJ)]
def ER:List Lp:=[]
theorem Nj:ao Try.prog EP:=(ao.cons PM ao.nil)
theorem Nk:az Try.prog ER:=az.nil
def sQ (t:ek):(Option Bool):=(lH t.w)
def sR (t:ek):(Option Bool):=(lH t.h)
def gg (t:ek):Option (Int):=
 (cond (sQ t).isSome
 (cond (!((sQ t).getD default))
 (some ((8:Int)))
 (cond (sR t).isSome
 (cond (!((sR t).getD default))
 (some ((8:Int)))
 (cond (((t.EO.n:Nat):Int) != (au (t.w * t.h)))
 (some ((8:Int)))
 (some ((0:Int)))))
 none))
 none)
theorem PN (t:ek):dm Try.prog (bo Try.prog EP ER (fun _=>false)) 9 9 78 [n7 t] = (gg t).map (kI .i64):=by
 unfold gg
 try simp only [cc]
 kernel_rfl
def vE:List KV→KR KV:=cw Try.prog 78 (cG (kI .i64) fun vs=>gg (kx (vs.getD 0 .aw)))
theorem Nl (w:Nat→KV):cM Try.prog [108] w 0 = [n7 (kx (ay Try.prog (aj Try.prog aq) 108 (w 0)))]:=by kernel_rfl
theorem wy:ca Try.prog 78 vE:=aY funcs mixed Nj Nk (L:=9) (n:=9) fun w=>by
 have e:aJ Try.prog 78 = [108]:=by kernel_rfl
 rw [e,Nl]
 exact (PN (kx (ay Try.prog (aj Try.prog aq) 108 (w 0)))).trans (by kernel_rfl)
structure eI where
 t2:Int
 t9:(Sl ek)
 t10:Int
 t11:Int
instance:Inhabited eI:=⟨⟨default,default,default,default⟩⟩
def pN (x:eI):List KV:=[.int .i64 x.t2,iE 108 n7 x.t9,.int .i64 x.t10,.int .i64 x.t11]
def pO (x:eI):List (List KV):=[]
def zV (vs:List KV) (rs:List (List KV)):eI:=⟨intOf (vs.getD 0 .aw),gZ kx (vs.getD 1 .aw),intOf (vs.getD 2 .aw),intOf (vs.getD 3 .aw)⟩
def Bw:aU:=⟨[(2,⟨false,[.k (.int .i64)]⟩),(9,⟨false,[.k (.slice 108)]⟩),(10,⟨false,[.k (.int .i64)]⟩),(11,⟨false,[.k (.int .i64)]⟩)],[],[]⟩
def Kb:=jh Try.prog (bo Try.prog [(78,vE)] [] (fun _=>false)) 9 9 45 58 (eZ Try.prog 45 58) Bw
def ky (x:eI):(Option Int):=(gg (x.t9.get (Int.toNat x.t11)))
def fC (x:eI):aI eI:=
 (cond (decide (x.t11 < x.t10))
 (cond ((decide ((0:Int)≤x.t11))&&(decide (x.t11 < ((x.t9.n:Nat):Int))))
 (cond (ky x).isSome
 (cond (((ky x).getD default) != (0:Int))
 (.out aE.ak.ret (⟨((ky x).getD default),x.t9,x.t10,x.t11⟩:eI))
 (.next (⟨x.t2,x.t9,x.t10,(au (x.t11+(1:Int)))⟩:eI)))
 .fail)
 .fail)
 (.out (aE.ak.exit 0) x))
theorem Hc (x:eI):Kb (pN x) (pO x)=aI.enc pN pO (fC x):=by
 unfold fC
 try simp only [aI.df]
 kernel_rfl
def qz:Lp:=⟨45,58,Bw,fun vs rs=>dC pN pO (goN fC (zV vs rs)) [aE.ak.exit 0,aE.ak.ret],false⟩
theorem Kc:qz.Ok Try.prog:=eH funcs mixed (ao.cons wy ao.nil) az.nil (L:=9) (n:=9) (step:=fC) (ev:=pN) (er:=pO) (pa:=zV) rfl (fun wv wr=>⟨by kernel_rfl,by kernel_rfl⟩) Hc
theorem FO:cA Try.prog qz.f qz.p=true:=by kernel_rfl
def DK:List (Nat×(List KV→KR KV)):=[(78,vE)]
def DL:List Lp:=[qz]
theorem LF:ao Try.prog DK:=(ao.cons wy ao.nil)
theorem LG:az Try.prog DL:=(az.cons Kc FO az.nil)
def eE (l:(Sl ek)):(aI eI):=(goN fC (⟨(0:Int),l,((l.n:Nat):Int),(0:Int)⟩:eI))
def gk (l:(Sl ek)):Option (Int):=
 (cond (decide (((l.n:Nat):Int) > (16:Int)))
 (some ((4:Int)))
 (cond ((eE l).by (aE.ak.exit 0))
 (some ((0:Int)))
 (cond ((eE l).by aE.ak.ret)
 (some ((eE l).st.t2))
 none)))
theorem Nm (l:(Sl ek)):dm Try.prog (bo Try.prog DK DL (fun _=>false)) 9 9 45 [(iE 108 n7) l] = (gk l).map (kI .i64):=by
 unfold gk
 try simp only [cc]
 kernel_rfl
def ub:List KV→KR KV:=cw Try.prog 45 (cG (kI .i64) fun vs=>gk ((gZ kx) (vs.getD 0 .aw)))
theorem LH (w:Nat→KV):cM Try.prog [23] w 0 = [(iE 108 n7) ((gZ kx) (ay Try.prog (aj Try.prog aq) 23 (w 0)))]:=by kernel_rfl
theorem uZ:ca Try.prog 45 ub:=aY funcs mixed LF LG (L:=9) (n:=9) fun w=>by
 have e:aJ Try.prog 45 = [23]:=by kernel_rfl
 rw [e,LH]
 exact (Nm ((gZ kx) (ay Try.prog (aj Try.prog aq) 23 (w 0)))).trans (by kernel_rfl)
structure tt where
 color:Color
 ov:Int
 zc:Int
 LI:Int
 FQ:Bool
 bin:Int
instance:Inhabited tt:=⟨⟨default,default,default,default,default,default⟩⟩
def amK (x:tt):List KV:=[.int .u8 x.color.e0,.int .u8 x.color.e1,.int .u8 x.color.e2,.int .u8 x.color.e3,.int .i64 x.ov,.int .u8 x.zc,.int .i64 x.LI,.bool x.FQ,.int .i64 x.bin]
def ad6 (x:tt):KV:=.agg (amK x)
def amL (c:Nat→KV):tt:=⟨⟨intOf (c 0),intOf (c 1),intOf (c 2),intOf (c 3)⟩,intOf (c 4),intOf (c 5),intOf (c 6),ql (c 7),intOf (c 8)⟩
def UW (v:KV):tt:=amL fun k=>v.cells.getD k .aw
def Ck:List (Nat×(List KV→KR KV)):=[]
def Cl:List Lp:=[]
theorem Kd:ao Try.prog Ck:=ao.nil
theorem Ke:az Try.prog Cl:=az.nil
def fJ (l:tt) (aL:Int):Option (Int):=
 (cond (decide (aL < (0:Int)))
 (some ((2:Int)))
 (cond (decide (aL > (16:Int)))
 (some ((2:Int)))
 (cond (decide (l.ov < (-(1:Int))))
 (some ((8:Int)))
 (cond (decide (l.ov ≥ aL))
 (some ((8:Int)))
 (cond (decide (l.zc > (2:Int)))
 (some ((8:Int)))
 (cond (decide (l.LI < (-(1024:Int))))
 (some ((8:Int)))
 (cond (decide (l.LI > (1024:Int)))
 (some ((8:Int)))
 (cond (decide (l.bin < (0:Int)))
 (some ((8:Int)))
 (cond (decide (l.bin > (15:Int)))
 (some ((8:Int)))
 (some ((0:Int))))))))))))
theorem LJ (l:tt) (aL:Int):dm Try.prog (bo Try.prog Ck Cl (fun _=>false)) 9 9 46 [ad6 l,(kI .i64) aL] = (fJ l aL).map (kI .i64):=by
 unfold fJ
 try simp only [cc]
 kernel_rfl
def pw:List KV→KR KV:=cw Try.prog 46 (cG (kI .i64) fun vs=>fJ (UW (vs.getD 0 .aw)) (intOf (vs.getD 1 .aw)))
theorem Kf (w:Nat→KV):cM Try.prog [39,3] w 0 = [ad6 (UW (ay Try.prog (aj Try.prog aq) 39 (w 0))),(kI .i64) (intOf (ay Try.prog (aj Try.prog aq) 3 (w 1)))]:=by kernel_rfl
theorem pP:ca Try.prog 46 pw:=aY funcs mixed Kd Ke (L:=9) (n:=9) fun w=>by
 have e:aJ Try.prog 46 = [39,3]:=by kernel_rfl
 rw [e,Kf]
 exact (LJ (UW (ay Try.prog (aj Try.prog aq) 39 (w 0))) (intOf (ay Try.prog (aj Try.prog aq) 3 (w 1)))).trans (by kernel_rfl)
structure uc where
 e0:Int
 e1:Int
instance:Inhabited uc:=⟨⟨default,default⟩⟩
def akM (x:uc):List KV:=[.int .i64 x.e0,.int .i64 x.e1]
def akN (x:uc):KV:=.agg (akM x)
def akO (c:Nat→KV):uc:=⟨intOf (c 0),intOf (c 1)⟩
def akP (v:KV):uc:=akO fun k=>v.cells.getD k .aw
structure Item where
 gJ:(Sl dY)
 uV:(Sl uc)
 fS:(Sl eL)
 look:tt
 box:tr
instance:Inhabited Item:=⟨⟨default,default,default,default,default⟩⟩
def UX (x:Item):List KV:=[iE 41 wW x.gJ,iE 176 akN x.uV,iE 50 tl x.fS,.int .u8 x.look.color.e0,.int .u8 x.look.color.e1,.int .u8 x.look.color.e2,.int .u8 x.look.color.e3,.int .i64 x.look.ov,.int .u8 x.look.zc,.int .i64 x.look.LI,.bool x.look.FQ,.int .i64 x.look.bin,.int .i64 x.box.low.x,.int .i64 x.box.low.y,.int .i64 x.box.low.z,.int .i64 x.box.high.x,.int .i64 x.box.high.y,.int .i64 x.box.high.z]
def BX (x:Item):KV:=.agg (UX x)
def UY (c:Nat→KV):Item:=⟨gZ yl (c 0),gZ akP (c 1),gZ Bs (c 2),⟨⟨intOf (c 3),intOf (c 4),intOf (c 5),intOf (c 6)⟩,intOf (c 7),intOf (c 8),intOf (c 9),ql (c 10),intOf (c 11)⟩,⟨⟨intOf (c 12),intOf (c 13),intOf (c 14)⟩,⟨intOf (c 15),intOf (c 16),intOf (c 17)⟩⟩⟩
def Az (v:KV):Item:=UY fun k=>v.cells.getD k .aw
theorem akQ (x:Item):Az (BX x)=x:=rfl
theorem akR:Az .aw=default:=rfl
theorem ahj (s:Sl Item) (v:Item):s.push v=kl Az (s.n+1) (ff s.n (fun i=>BX (s.get i)) (rq [BX v])):=(yk akQ akR s v).symm
structure fD where
 t4:Bool
 n:Int
 t38:(Sl dY)
 t39:Int
 t40:Int
 x:Item
instance:Inhabited fD:=⟨⟨default,default,default,default,default,default⟩⟩
def ud (x:fD):List KV:=[.bool x.t4,.int .i64 x.n,iE 41 wW x.t38,.int .i64 x.t39,.int .i64 x.t40]
def ue (x:fD):List (List KV):=[UX x.x]
def ES (vs:List KV) (rs:List (List KV)):fD:=⟨ql (vs.getD 0 .aw),intOf (vs.getD 1 .aw),gZ yl (vs.getD 2 .aw),intOf (vs.getD 3 .aw),intOf (vs.getD 4 .aw),UY (fun k=>(rs.getD 0 []).getD k .aw)⟩
def Hd:aU:=⟨[(4,⟨false,[.k .bool]⟩),(5,⟨false,[.k (.int .i64)]⟩),(38,⟨false,[.k (.slice 41)]⟩),(39,⟨false,[.k (.int .i64)]⟩),(40,⟨false,[.k (.int .i64)]⟩)],[(2,[.k (.slice 41),.k (.slice 176),.k (.slice 50),.k (.int .u8),.k (.int .u8),.k (.int .u8),.k (.int .u8),.k (.int .i64),.k (.int .u8),.k (.int .i64),.k .bool,.k (.int .i64),.k (.int .i64),.k (.int .i64),.k (.int .i64),.k (.int .i64),.k (.int .i64),.k (.int .i64)],1)],[(2,0,0)]⟩
def Ss:=jh Try.prog (bo Try.prog [(109,MR),(108,vu),(46,pw)] [] (fun _=>false)) 9 9 81 122 (eZ Try.prog 81 122) Hd
def sS (x:fD):(Option Int):=(oJ (x.t38.get (Int.toNat x.t40)))
def kR (x:fD):aI fD:=
 (cond (decide (x.t40 < x.t39))
 (cond ((decide ((0:Int)≤x.t40))&&(decide (x.t40 < ((x.t38.n:Nat):Int))))
 (cond (sS x).isSome
 (cond (((sS x).getD default) != (0:Int))
 (.out aE.ak.ret (⟨false,x.n,x.t38,x.t39,x.t40,x.x⟩:fD))
 (cond ((decide ((0:Int)≤x.t40))&&(decide (x.t40 < ((x.x.uV.n:Nat):Int))))
 (cond ((decide ((0:Int)≤x.t40))&&(decide (x.t40 < ((x.x.uV.n:Nat):Int))))
 (cond (decide ((min (x.x.uV.get (Int.toNat x.t40)).e0 (x.x.uV.get (Int.toNat x.t40)).e1) < (0:Int)))
 (.out aE.ak.ret (⟨false,x.n,x.t38,x.t39,x.t40,x.x⟩:fD))
 (cond ((decide ((0:Int)≤x.t40))&&(decide (x.t40 < ((x.x.uV.n:Nat):Int))))
 (cond ((decide ((0:Int)≤x.t40))&&(decide (x.t40 < ((x.x.uV.n:Nat):Int))))
 (cond (decide ((max (x.x.uV.get (Int.toNat x.t40)).e0 (x.x.uV.get (Int.toNat x.t40)).e1) > (255:Int)))
 (.out aE.ak.ret (⟨false,x.n,x.t38,x.t39,x.t40,x.x⟩:fD))
 (.next (⟨x.t4,x.n,x.t38,x.t39,(au (x.t40+(1:Int))),x.x⟩:fD)))
 .fail)
 .fail))
 .fail)
 .fail))
 .fail)
 .fail)
 (.out (aE.ak.exit 0) x))
theorem Nn (x:fD):Ss (ud x) (ue x)=aI.enc ud ue (kR x):=by
 unfold kR
 try simp only [aI.df]
 kernel_rfl
def rU:Lp:=⟨81,122,Hd,fun vs rs=>dC ud ue (goN kR (ES vs rs)) [aE.ak.exit 0,aE.ak.ret],false⟩
theorem ET:rU.Ok Try.prog:=eH funcs mixed (ao.cons IY (ao.cons tj (ao.cons pP ao.nil))) az.nil (L:=9) (n:=9) (step:=kR) (ev:=ud) (er:=ue) (pa:=ES) rfl (fun wv wr=>⟨by kernel_rfl,by kernel_rfl⟩) Nn
theorem Bx:cA Try.prog rU.f rU.p=true:=by kernel_rfl
structure gh where
 t4:Bool
 n:Int
 t82:(Sl eL)
 t83:Int
 t84:Int
 x:Item
instance:Inhabited gh:=⟨⟨default,default,default,default,default,default⟩⟩
def uf (x:gh):List KV:=[.bool x.t4,.int .i64 x.n,iE 50 tl x.t82,.int .i64 x.t83,.int .i64 x.t84]
def ug (x:gh):List (List KV):=[UX x.x]
def EU (vs:List KV) (rs:List (List KV)):gh:=⟨ql (vs.getD 0 .aw),intOf (vs.getD 1 .aw),gZ Bs (vs.getD 2 .aw),intOf (vs.getD 3 .aw),intOf (vs.getD 4 .aw),UY (fun k=>(rs.getD 0 []).getD k .aw)⟩
def Hf:aU:=⟨[(4,⟨false,[.k .bool]⟩),(5,⟨false,[.k (.int .i64)]⟩),(82,⟨false,[.k (.slice 50)]⟩),(83,⟨false,[.k (.int .i64)]⟩),(84,⟨false,[.k (.int .i64)]⟩)],[(2,[.k (.slice 41),.k (.slice 176),.k (.slice 50),.k (.int .u8),.k (.int .u8),.k (.int .u8),.k (.int .u8),.k (.int .i64),.k (.int .u8),.k (.int .i64),.k .bool,.k (.int .i64),.k (.int .i64),.k (.int .i64),.k (.int .i64),.k (.int .i64),.k (.int .i64),.k (.int .i64)],1)],[(2,0,0)]⟩
def Su:=jh Try.prog (bo Try.prog [(109,MR),(108,vu),(46,pw)] [rU] (fun _=>false)) 9 9 81 250 (eZ Try.prog 81 250) Hf
def jB (x:gh):aI gh:=
 (cond (decide (x.t84 < x.t83))
 (cond ((decide ((0:Int)≤x.t84))&&(decide (x.t84 < ((x.t82.n:Nat):Int))))
 (cond (decide ((min (min (x.t82.get (Int.toNat x.t84)).e0 (x.t82.get (Int.toNat x.t84)).e1) (x.t82.get (Int.toNat x.t84)).e2) < (0:Int)))
 (.out aE.ak.ret (⟨false,x.n,x.t82,x.t83,x.t84,x.x⟩:gh))
 (cond (decide ((max (max (x.t82.get (Int.toNat x.t84)).e0 (x.t82.get (Int.toNat x.t84)).e1) (x.t82.get (Int.toNat x.t84)).e2) ≥ x.n))
 (.out aE.ak.ret (⟨false,x.n,x.t82,x.t83,x.t84,x.x⟩:gh))
 (.next (⟨x.t4,x.n,x.t82,x.t83,(au (x.t84+(1:Int))),x.x⟩:gh))))
 .fail)
 (.out (aE.ak.exit 2) x))
theorem Np (x:gh):Su (uf x) (ug x)=aI.enc uf ug (jB x):=by
 unfold jB
 try simp only [aI.df]
 kernel_rfl
def vF:Lp:=⟨81,250,Hf,fun vs rs=>dC uf ug (goN jB (EU vs rs)) [aE.ak.exit 2,aE.ak.ret],false⟩
theorem Sv:vF.Ok Try.prog:=eH funcs mixed (ao.cons IY (ao.cons tj (ao.cons pP ao.nil))) (az.cons ET Bx az.nil) (L:=9) (n:=9) (step:=jB) (ev:=uf) (er:=ug) (pa:=EU) rfl (fun wv wr=>⟨by kernel_rfl,by kernel_rfl⟩) Np
theorem LK:cA Try.prog vF.f vF.p=true:=by kernel_rfl
def Ot:List (Nat×(List KV→KR KV)):=[(109,MR),(108,vu),(46,pw)]
def Ou:List Lp:=[rU,vF]
theorem Xl:ao Try.prog Ot:=(ao.cons IY (ao.cons tj (ao.cons pP ao.nil)))
theorem Xm:az Try.prog Ou:=(az.cons ET Bx (az.cons Sv LK az.nil))
def u3 (x:Item) (aL:Int):(Option Int):=(fJ x.look aL)
def gv (x:Item) (aL:Int):(aI fD):=(goN kR (⟨false,((x.gJ.n:Nat):Int),x.gJ,((x.gJ.n:Nat):Int),(0:Int),x⟩:fD))
def fg (x:Item) (aL:Int):(aI gh):=(goN jB (⟨(gv x aL).st.t4,(gv x aL).st.n,(gv x aL).st.x.fS,(((gv x aL).st.x.fS.n:Nat):Int),(0:Int),(gv x aL).st.x⟩:gh))
def mN (x:Item) (aL:Int):(Option (Prod tr Int)):=(CZ (fg x aL).st.x.gJ)
def nI (x:Item) (aL:Int):Option (Bool):=
 (cond (decide (((x.gJ.n:Nat):Int) > (64:Int)))
 (some (false))
 (cond (((x.uV.n:Nat):Int) != ((x.gJ.n:Nat):Int))
 (some (false))
 (cond (decide (((x.fS.n:Nat):Int) > (64:Int)))
 (some (false))
 (cond (u3 x aL).isSome
 (cond (((u3 x aL).getD default) != (0:Int))
 (some (false))
 (cond ((gv x aL).by (aE.ak.exit 0))
 (cond ((fg x aL).by (aE.ak.exit 2))
 (cond (mN x aL).isSome
 (cond ((((mN x aL).getD default).fst.low.x==(fg x aL).st.x.box.low.x)&&((((mN x aL).getD default).fst.low.y==(fg x aL).st.x.box.low.y)&&((((mN x aL).getD default).fst.low.z==(fg x aL).st.x.box.low.z)&&((((mN x aL).getD default).fst.high.x==(fg x aL).st.x.box.high.x)&&((((mN x aL).getD default).fst.high.y==(fg x aL).st.x.box.high.y)&&((((mN x aL).getD default).fst.high.z==(fg x aL).st.x.box.high.z)&&true))))))
 (cond (((mN x aL).getD default).snd==(0:Int))
 (some (true))
 (some (((fg x aL).st.n==(0:Int)))))
 (some (false)))
 none)
 (cond ((fg x aL).by aE.ak.ret)
 (some ((fg x aL).st.t4))
 none))
 (cond ((gv x aL).by aE.ak.ret)
 (some ((gv x aL).st.t4))
 none)))
 none))))
theorem aaK (x:Item) (aL:Int):dm Try.prog (bo Try.prog Ot Ou (fun _=>false)) 9 9 81 [BX x,(kI .i64) aL] = (nI x aL).map kB:=by
 unfold nI
 try simp only [cc]
 kernel_rfl
def IZ:List KV→KR KV:=cw Try.prog 81 (cG kB fun vs=>nI (Az (vs.getD 0 .aw)) (intOf (vs.getD 1 .aw)))
theorem Xn (w:Nat→KV):cM Try.prog [45,3] w 0 = [BX (Az (ay Try.prog (aj Try.prog aq) 45 (w 0))),(kI .i64) (intOf (ay Try.prog (aj Try.prog aq) 3 (w 1)))]:=by kernel_rfl
theorem JK:ca Try.prog 81 IZ:=aY funcs mixed Xl Xm (L:=9) (n:=9) fun w=>by
 have e:aJ Try.prog 81 = [45,3]:=by kernel_rfl
 rw [e,Xn]
 exact (aaK (Az (ay Try.prog (aj Try.prog aq) 45 (w 0))) (intOf (ay Try.prog (aj Try.prog aq) 3 (w 1)))).trans (by kernel_rfl)
structure Show where
 items:(Sl Item)
 aL:(Sl ek)
instance:Inhabited Show:=⟨⟨default,default⟩⟩
def I0 (x:Show):List KV:=[iE 45 BX x.items,iE 108 n7 x.aL]
def oK (x:Show):KV:=.agg (I0 x)
def I1 (c:Nat→KV):Show:=⟨gZ Az (c 0),gZ kx (c 1)⟩
def mO (v:KV):Show:=I1 fun k=>v.cells.getD k .aw
structure bk where
 s:(Sl Item)
 t4:Int
 t7:Int
 t8:Int
 aaL:Show
instance:Inhabited bk:=⟨⟨default,default,default,default,default⟩⟩
def fZ (x:bk):List KV:=[iE 45 BX x.s,.fn (.func 80) [] [.ptr 0 0],.int .i64 x.t4,.int .i64 x.t7,.int .i64 x.t8]
def ga (x:bk):List (List KV):=[I0 x.aaL]
def mP (vs:List KV) (rs:List (List KV)):bk:=⟨gZ Az (vs.getD 0 .aw),intOf (vs.getD 2 .aw),intOf (vs.getD 3 .aw),intOf (vs.getD 4 .aw),I1 (fun k=>(rs.getD 0 []).getD k .aw)⟩
def m5:aU:=⟨[(0,⟨false,[.k (.slice 45)]⟩),(1,⟨false,[.ref (.fn (.func 80) [] [.ptr 0 0])]⟩),(4,⟨false,[.k (.int .i64)]⟩),(7,⟨false,[.k (.int .i64)]⟩),(8,⟨false,[.k (.int .i64)]⟩)],[(100001,[.k (.slice 45),.k (.slice 108)],1)],[]⟩
def sT:=jh Try.prog (bo Try.prog [(81,IZ),(45,ub)] [] (fun _=>false)) 9 9 107 26 (eZ Try.prog 107 26) m5
def fM (x:bk):(Option Bool):=(nI (x.s.get (Int.toNat x.t8)) ((x.aaL.aL.n:Nat):Int))
def bF (x:bk):aI bk:=
 (cond (decide (x.t8 < x.t7))
 (cond ((decide ((0:Int)≤x.t8))&&(decide (x.t8 < ((x.s.n:Nat):Int))))
 (cond (fM x).isSome
 (cond (!((fM x).getD default))
 (.out aE.ak.ret (⟨x.s,x.t8,x.t7,x.t8,x.aaL⟩:bk))
 (.next (⟨x.s,x.t4,x.t7,(au (x.t8+(1:Int))),x.aaL⟩:bk)))
 .fail)
 .fail)
 (.out (aE.ak.exit 0) x))
theorem rV (x:bk):sT (fZ x) (ga x)=aI.enc fZ ga (bF x):=by
 unfold bF
 try simp only [aI.df]
 kernel_rfl
def gm:Lp:=⟨107,26,m5,fun vs rs=>dC fZ ga (goN bF (mP vs rs)) [aE.ak.exit 0,aE.ak.ret],false⟩
theorem sU:gm.Ok Try.prog:=eH funcs mixed (ao.cons JK (ao.cons uZ ao.nil)) az.nil (L:=9) (n:=9) (step:=bF) (ev:=fZ) (er:=ga) (pa:=mP) rfl (fun wv wr=>⟨by kernel_rfl,by kernel_rfl⟩) rV
theorem rj:cA Try.prog gm.f gm.p=true:=by kernel_rfl
def JL:List (Nat×(List KV→KR KV)):=[(81,IZ),(45,ub)]
def JM:List Lp:=[gm]
theorem Sx:ao Try.prog JL:=(ao.cons JK (ao.cons uZ ao.nil))
theorem Sy:az Try.prog JM:=(az.cons sU rj az.nil)
def rW (s:Show):(Option Int):=(gk s.aL)
def eQ (s:Show):(aI bk):=(goN bF (⟨s.items,(0:Int),((s.items.n:Nat):Int),(0:Int),s⟩:bk))
def iA (s:Show):Option (Int):=
 (cond (decide (((s.items.n:Nat):Int) > (256:Int)))
 (some ((4:Int)))
 (cond (decide (((s.aL.n:Nat):Int) > (16:Int)))
 (some ((4:Int)))
 (cond (rW s).isSome
 (cond (((rW s).getD default) != (0:Int))
 (some ((8:Int)))
 (cond ((eQ s).by (aE.ak.exit 0))
 (some ((0:Int)))
 (cond ((eQ s).by aE.ak.ret)
 (cond (decide ((eQ s).st.t4 ≥ (0:Int)))
 (some ((8:Int)))
 (some ((0:Int))))
 none)))
 none)))
theorem UZ (s:Show):dm Try.prog (bo Try.prog JL JM (fun _=>false)) 9 9 50 [oK s] = (iA s).map (kI .i64):=by
 unfold iA
 try simp only [cc]
 kernel_rfl
def LL:List KV→KR KV:=cw Try.prog 50 (cG (kI .i64) fun vs=>iA (mO (vs.getD 0 .aw)))
theorem Sz (w:Nat→KV):cM Try.prog [25] w 0 = [oK (mO (ay Try.prog (aj Try.prog aq) 25 (w 0)))]:=by kernel_rfl
theorem SA:ca Try.prog 50 LL:=aY funcs mixed Sx Sy (L:=9) (n:=9) fun w=>by
 have e:aJ Try.prog 50 = [25]:=by kernel_rfl
 rw [e,Sz]
 exact (UZ (mO (ay Try.prog (aj Try.prog aq) 25 (w 0)))).trans (by kernel_rfl)
end
end Go.Proofs.Ytahhdndhkgbcjaa.b
end
section
namespace Go.Proofs.Ytahhdndhkgbcjaa.b
open Go.K
set_option linter.unusedVariables false
set_option linter.unusedSimpArgs false
noncomputable section
def LM:List (Nat×(List KV→KR KV)):=[(99,uU),(130,qV),(82,xm)]
def LN:List Lp:=[]
theorem U0:ao Try.prog LM:=(ao.cons tT (ao.cons o3 (ao.cons xO ao.nil)))
theorem U5:az Try.prog LN:=az.nil
def xo (c:aP) (p:bX):(Option Int):=(kf c)
def xp (c:aP) (p:bX):(Option Int):=(lu p)
def BZ (c:aP) (p:bX):(Option (Prod Int Int)):=(eB (au ((au ((8:Int) * c.UH)) * p.p.x)) p.p.z)
def B4 (c:aP) (p:bX):(Option (Prod Int Int)):=(eB (au ((au ((8:Int) * c.UH)) * p.p.y)) p.p.z)
def oS (c:aP) (p:bX):Option (fX×Int):=
 (cond (xo c p).isSome
 (cond (((xo c p).getD default) != (0:Int))
 (some ((⟨(0:Int),(0:Int),(0:Int),(0:Int),(0:Int)⟩:fX),((xo c p).getD default)))
 (cond (xp c p).isSome
 (cond (((xp c p).getD default) != (0:Int))
 (some ((⟨(0:Int),(0:Int),(0:Int),(0:Int),(0:Int)⟩:fX),((xp c p).getD default)))
 (cond (decide (p.p.z < c.aO))
 (some ((⟨(0:Int),(0:Int),(0:Int),(0:Int),(0:Int)⟩:fX),(6:Int)))
 (cond (BZ c p).isSome
 (cond (B4 c p).isSome
 (cond (!(decide (p.p.z=(0:Int))))
 (some ((⟨(au (((BZ c p).getD default).fst+(au ((4:Int) * c.w)))),(au ((au ((4:Int) * c.h)) - ((B4 c p).getD default).fst)),(au (Int.tdiv (16777216:Int) p.p.z)),p.u,p.v⟩:fX),(0:Int)))
 none)
 none)
 none)))
 none))
 none)
theorem Xo (c:aP) (p:bX):dm Try.prog (bo Try.prog LM LN (fun _=>false)) 9 9 112 [kK c,nb p] = (oS c p).map (fun (r:fX×Int)=>KV.kk [Uu r.1,(kI .i64) r.2]):=by
 unfold oS
 try simp only [cc]
 kernel_rfl
def FT:List KV→KR KV:=cw Try.prog 112 (cG (fun (r:fX×Int)=>KV.kk [Uu r.1,(kI .i64) r.2]) fun vs=>oS (hY (vs.getD 0 .aw)) (jQ (vs.getD 1 .aw)))
theorem U6 (w:Nat→KV):cM Try.prog [53,180] w 0 = [kK (hY (ay Try.prog (aj Try.prog aq) 53 (w 0))),nb (jQ (ay Try.prog (aj Try.prog aq) 180 (w 1)))]:=by kernel_rfl
theorem Hg:ca Try.prog 112 FT:=aY funcs mixed U0 U5 (L:=9) (n:=9) fun w=>by
 have e:aJ Try.prog 112 = [53,180]:=by kernel_rfl
 rw [e,U6]
 exact (Xo (hY (ay Try.prog (aj Try.prog aq) 53 (w 0))) (jQ (ay Try.prog (aj Try.prog aq) 180 (w 1)))).trans (by kernel_rfl)
structure dn where
 out:(Sl bg)
 t72:(Sl dL)
 t73:Int
 t74:Int
 c:aP
 x:Item
instance:Inhabited dn:=⟨⟨default,default,default,default,default,default⟩⟩
def ru (x:dn):List KV:=[iE 118 iw x.out,iE 181 pt x.t72,.int .i64 x.t73,.int .i64 x.t74]
def rv (x:dn):List (List KV):=[GQ x.c,UX x.x]
def Cm (vs:List KV) (rs:List (List KV)):dn:=⟨gZ gE (vs.getD 0 .aw),gZ qW (vs.getD 1 .aw),intOf (vs.getD 2 .aw),intOf (vs.getD 3 .aw),GS (fun k=>(rs.getD 0 []).getD k .aw),UY (fun k=>(rs.getD 1 []).getD k .aw)⟩
def DM:aU:=⟨[(8,⟨false,[.bc 118]⟩),(72,⟨false,[.k (.slice 181)]⟩),(73,⟨false,[.k (.int .i64)]⟩),(74,⟨false,[.k (.int .i64)]⟩)],[(5,[.k (.int .i64),.k (.int .i64),.k (.int .i64),.k (.int .i64),.k (.int .i64),.k (.int .i64),.k (.int .i64),.k (.int .i64),.k (.int .i64),.k (.int .i64),.k (.int .i64),.k (.int .i64),.k (.int .i64),.k (.int .i64),.k (.int .i64),.k (.int .i64)],1),(9,[.k (.slice 41),.k (.slice 176),.k (.slice 50),.k (.int .u8),.k (.int .u8),.k (.int .u8),.k (.int .u8),.k (.int .i64),.k (.int .u8),.k (.int .i64),.k .bool,.k (.int .i64),.k (.int .i64),.k (.int .i64),.k (.int .i64),.k (.int .i64),.k (.int .i64),.k (.int .i64)],1)],[(5,0,0),(9,1,0)]⟩
def Nq:=jh Try.prog (bo Try.prog [(114,FB),(113,Fz),(112,FT),(111,IU),(110,DF)] [] (fun _=>false)) 9 9 84 506 (eZ Try.prog 84 506) DM
def qA (x:dn):(Option (Prod fX Int)):=(oS x.c (x.t72.get (Int.toNat x.t74)).e0)
def qB (x:dn):(Option (Prod fX Int)):=(oS x.c (x.t72.get (Int.toNat x.t74)).e1)
def qC (x:dn):(Option (Prod fX Int)):=(oS x.c (x.t72.get (Int.toNat x.t74)).e2)
def qD (x:dn):(Option (Prod Bool Int)):=(tD (⟨((qA x).getD default).fst,((qB x).getD default).fst,((qC x).getD default).fst⟩:bg) x.x.look.zc)
def u4 (x:dn):(Option (Prod bg Int)):=(tE (⟨((qA x).getD default).fst,((qB x).getD default).fst,((qC x).getD default).fst⟩:bg))
def ib (x:dn):aI dn:=
 (cond (decide (x.t74 < x.t73))
 (cond ((decide ((0:Int)≤x.t74))&&(decide (x.t74 < ((x.t72.n:Nat):Int))))
 (cond (qA x).isSome
 (cond (qB x).isSome
 (cond (qC x).isSome
 (cond (qD x).isSome
 (cond ((qD x).getD default).fst
 (cond (u4 x).isSome
 (cond ((av x.out.n x.out.n)&&(fe 120 x.out.n 1))
 (cond (av (x.out.n+1) (x.out.n+1))
 (.next (⟨(x.out.push ((u4 x).getD default).fst),x.t72,x.t73,(au (x.t74+(1:Int))),x.c,x.x⟩:dn))
 .fail)
 .fail)
 .fail)
 (cond (av x.out.n x.out.n)
 (.next (⟨x.out,x.t72,x.t73,(au (x.t74+(1:Int))),x.c,x.x⟩:dn))
 .fail))
 .fail)
 .fail)
 .fail)
 .fail)
 .fail)
 (cond (av x.out.n x.out.n)
 (.out (aE.ak.exit 2) x)
 .fail))
theorem Kg (x:dn):Nq (ru x) (rv x)=aI.enc ru rv (ib x):=by
 unfold ib
 try simp only [aI.df,abG]
 kernel_rfl
def sV:Lp:=⟨84,506,DM,fun vs rs=>dC ru rv (goN ib (Cm vs rs)) [aE.ak.exit 2],false⟩
theorem Nr:sV.Ok Try.prog:=eH funcs mixed (ao.cons GN (ao.cons GM (ao.cons Hg (ao.cons JI (ao.cons EC ao.nil))))) az.nil (L:=9) (n:=9) (step:=ib) (ev:=ru) (er:=rv) (pa:=Cm) rfl (fun wv wr=>⟨by kernel_rfl,by kernel_rfl⟩) Kg
theorem I2:cA Try.prog sV.f sV.p=true:=by kernel_rfl
def JN:List (Nat×(List KV→KR KV)):=[(114,FB),(113,Fz),(112,FT),(111,IU),(110,DF)]
def JO:List Lp:=[sV]
theorem SB:ao Try.prog JN:=(ao.cons GN (ao.cons GM (ao.cons Hg (ao.cons JI (ao.cons EC ao.nil)))))
theorem SC:az Try.prog JO:=(az.cons Nr I2 az.nil)
def o5 (s:Show) (c:aP) (item:Int) (gA:Int):(Option (Prod dY Int)):=(nS c ((s.items.get (Int.toNat item)).gJ.get (Int.toNat ((s.items.get (Int.toNat item)).fS.get (Int.toNat gA)).e0)))
def o6 (s:Show) (c:aP) (item:Int) (gA:Int):(Option (Prod dY Int)):=(nS c ((s.items.get (Int.toNat item)).gJ.get (Int.toNat ((s.items.get (Int.toNat item)).fS.get (Int.toNat gA)).e1)))
def o7 (s:Show) (c:aP) (item:Int) (gA:Int):(Option (Prod dY Int)):=(nS c ((s.items.get (Int.toNat item)).gJ.get (Int.toNat ((s.items.get (Int.toNat item)).fS.get (Int.toNat gA)).e2)))
def nv (s:Show) (c:aP) (item:Int) (gA:Int):(Option (Prod (Sl dL) Int)):=(vD c.aO (⟨(⟨((o5 s c item gA).getD default).fst,((s.items.get (Int.toNat item)).uV.get (Int.toNat ((s.items.get (Int.toNat item)).fS.get (Int.toNat gA)).e0)).e0,((s.items.get (Int.toNat item)).uV.get (Int.toNat ((s.items.get (Int.toNat item)).fS.get (Int.toNat gA)).e0)).e1⟩:bX),(⟨((o6 s c item gA).getD default).fst,((s.items.get (Int.toNat item)).uV.get (Int.toNat ((s.items.get (Int.toNat item)).fS.get (Int.toNat gA)).e1)).e0,((s.items.get (Int.toNat item)).uV.get (Int.toNat ((s.items.get (Int.toNat item)).fS.get (Int.toNat gA)).e1)).e1⟩:bX),(⟨((o7 s c item gA).getD default).fst,((s.items.get (Int.toNat item)).uV.get (Int.toNat ((s.items.get (Int.toNat item)).fS.get (Int.toNat gA)).e2)).e0,((s.items.get (Int.toNat item)).uV.get (Int.toNat ((s.items.get (Int.toNat item)).fS.get (Int.toNat gA)).e2)).e1⟩:bX)⟩:dL))
def kz (s:Show) (c:aP) (item:Int) (gA:Int):(aI dn):=(goN ib (⟨(⟨0,(fun i=>(⟨(⟨(0:Int),(0:Int),(0:Int),(0:Int),(0:Int)⟩:fX),(⟨(0:Int),(0:Int),(0:Int),(0:Int),(0:Int)⟩:fX),(⟨(0:Int),(0:Int),(0:Int),(0:Int),(0:Int)⟩:fX)⟩:bg))⟩:Sl _),((nv s c item gA).getD default).fst,((((nv s c item gA).getD default).fst.n:Nat):Int),(0:Int),c,(s.items.get (Int.toNat item))⟩:dn))
def lx (s:Show) (c:aP) (item:Int) (gA:Int):Option ((Sl bg)):=
 (cond ((decide ((0:Int)≤item))&&(decide (item < ((s.items.n:Nat):Int))))
 (cond ((decide ((0:Int)≤gA))&&(decide (gA < (((s.items.get (Int.toNat item)).fS.n:Nat):Int))))
 (cond ((decide ((0:Int)≤((s.items.get (Int.toNat item)).fS.get (Int.toNat gA)).e0))&&(decide (((s.items.get (Int.toNat item)).fS.get (Int.toNat gA)).e0 < (((s.items.get (Int.toNat item)).gJ.n:Nat):Int))))
 (cond (o5 s c item gA).isSome
 (cond ((decide ((0:Int)≤((s.items.get (Int.toNat item)).fS.get (Int.toNat gA)).e0))&&(decide (((s.items.get (Int.toNat item)).fS.get (Int.toNat gA)).e0 < (((s.items.get (Int.toNat item)).uV.n:Nat):Int))))
 (cond ((decide ((0:Int)≤((s.items.get (Int.toNat item)).fS.get (Int.toNat gA)).e0))&&(decide (((s.items.get (Int.toNat item)).fS.get (Int.toNat gA)).e0 < (((s.items.get (Int.toNat item)).uV.n:Nat):Int))))
 (cond ((decide ((0:Int)≤((s.items.get (Int.toNat item)).fS.get (Int.toNat gA)).e1))&&(decide (((s.items.get (Int.toNat item)).fS.get (Int.toNat gA)).e1 < (((s.items.get (Int.toNat item)).gJ.n:Nat):Int))))
 (cond (o6 s c item gA).isSome
 (cond ((decide ((0:Int)≤((s.items.get (Int.toNat item)).fS.get (Int.toNat gA)).e1))&&(decide (((s.items.get (Int.toNat item)).fS.get (Int.toNat gA)).e1 < (((s.items.get (Int.toNat item)).uV.n:Nat):Int))))
 (cond ((decide ((0:Int)≤((s.items.get (Int.toNat item)).fS.get (Int.toNat gA)).e1))&&(decide (((s.items.get (Int.toNat item)).fS.get (Int.toNat gA)).e1 < (((s.items.get (Int.toNat item)).uV.n:Nat):Int))))
 (cond ((decide ((0:Int)≤((s.items.get (Int.toNat item)).fS.get (Int.toNat gA)).e2))&&(decide (((s.items.get (Int.toNat item)).fS.get (Int.toNat gA)).e2 < (((s.items.get (Int.toNat item)).gJ.n:Nat):Int))))
 (cond (o7 s c item gA).isSome
 (cond ((decide ((0:Int)≤((s.items.get (Int.toNat item)).fS.get (Int.toNat gA)).e2))&&(decide (((s.items.get (Int.toNat item)).fS.get (Int.toNat gA)).e2 < (((s.items.get (Int.toNat item)).uV.n:Nat):Int))))
 (cond ((decide ((0:Int)≤((s.items.get (Int.toNat item)).fS.get (Int.toNat gA)).e2))&&(decide (((s.items.get (Int.toNat item)).fS.get (Int.toNat gA)).e2 < (((s.items.get (Int.toNat item)).uV.n:Nat):Int))))
 (cond (nv s c item gA).isSome
 (cond ((kz s c item gA).by (aE.ak.exit 2))
 (some ((kz s c item gA).st.out))
 none)
 none)
 none)
 none)
 none)
 none)
 none)
 none)
 none)
 none)
 none)
 none)
 none)
 none)
 none)
 none)
theorem U7 (s:Show) (c:aP) (item:Int) (gA:Int):dm Try.prog (bo Try.prog JN JO (fun _=>false)) 9 9 84 [oK s,kK c,(kI .i64) item,(kI .i64) gA] = (lx s c item gA).map (iE 118 iw):=by
 unfold lx
 try simp only [cc]
 kernel_rfl
def u5:List KV→KR KV:=cw Try.prog 84 (cG (iE 118 iw) fun vs=>lx (mO (vs.getD 0 .aw)) (hY (vs.getD 1 .aw)) (intOf (vs.getD 2 .aw)) (intOf (vs.getD 3 .aw)))
theorem SD (w:Nat→KV):cM Try.prog [25,53,3,3] w 0 = [oK (mO (ay Try.prog (aj Try.prog aq) 25 (w 0))),kK (hY (ay Try.prog (aj Try.prog aq) 53 (w 1))),(kI .i64) (intOf (ay Try.prog (aj Try.prog aq) 3 (w 2))),(kI .i64) (intOf (ay Try.prog (aj Try.prog aq) 3 (w 3)))]:=by kernel_rfl
theorem uh:ca Try.prog 84 u5:=aY funcs mixed SB SC (L:=9) (n:=9) fun w=>by
 have e:aJ Try.prog 84 = [25,53,3,3]:=by kernel_rfl
 rw [e,SD]
 exact (U7 (mO (ay Try.prog (aj Try.prog aq) 25 (w 0))) (hY (ay Try.prog (aj Try.prog aq) 53 (w 1))) (intOf (ay Try.prog (aj Try.prog aq) 3 (w 2))) (intOf (ay Try.prog (aj Try.prog aq) 3 (w 3)))).trans (by kernel_rfl)
def JP:List (Nat×(List KV→KR KV)):=[(82,xm),(50,LL)]
def JQ:List Lp:=[]
theorem SE:ao Try.prog JP:=(ao.cons xO (ao.cons SA ao.nil))
theorem SF:az Try.prog JQ:=az.nil
def o8 (s:Show) (c:aP):(Option Int):=(iA s)
def rX (s:Show) (c:aP):(Option Int):=(kf c)
def gU (s:Show) (c:aP):Option (Int):=
 (cond (o8 s c).isSome
 (cond (((o8 s c).getD default) != (0:Int))
 (some (((o8 s c).getD default)))
 (cond (rX s c).isSome
 (some (((rX s c).getD default)))
 none))
 none)
theorem U8 (s:Show) (c:aP):dm Try.prog (bo Try.prog JP JQ (fun _=>false)) 9 9 56 [oK s,kK c] = (gU s c).map (kI .i64):=by
 unfold gU
 try simp only [cc]
 kernel_rfl
def LO:List KV→KR KV:=cw Try.prog 56 (cG (kI .i64) fun vs=>gU (mO (vs.getD 0 .aw)) (hY (vs.getD 1 .aw)))
theorem SG (w:Nat→KV):cM Try.prog [25,53] w 0 = [oK (mO (ay Try.prog (aj Try.prog aq) 25 (w 0))),kK (hY (ay Try.prog (aj Try.prog aq) 53 (w 1)))]:=by kernel_rfl
theorem SH:ca Try.prog 56 LO:=aY funcs mixed SE SF (L:=9) (n:=9) fun w=>by
 have e:aJ Try.prog 56 = [25,53]:=by kernel_rfl
 rw [e,SG]
 exact (U8 (mO (ay Try.prog (aj Try.prog aq) 25 (w 0))) (hY (ay Try.prog (aj Try.prog aq) 53 (w 1)))).trans (by kernel_rfl)
end
end Go.Proofs.Ytahhdndhkgbcjaa.b
end
section
namespace Go.Proofs.Ytahhdndhkgbcjaa.b
open Go.K
set_option linter.unusedVariables false
set_option linter.unusedSimpArgs false
noncomputable section
structure aaM where
 item:Int
 gA:Int
instance:Inhabited aaM:=⟨⟨default,default⟩⟩
structure aK where
 d:Int
 item:Int
 gA:Int
 part:Int
 u:Int
 v:Int
instance:Inhabited aK:=⟨⟨default,default,default,default,default,default⟩⟩
def ahk (x:aK):List KV:=[.int .i64 x.d,.int .i64 x.item,.int .i64 x.gA,.int .i64 x.part,.int .i64 x.u,.int .i64 x.v]
def hJ (x:aK):KV:=.agg (ahk x)
def ahl (c:Nat→KV):aK:=⟨intOf (c 0),intOf (c 1),intOf (c 2),intOf (c 3),intOf (c 4),intOf (c 5)⟩
def gP (v:KV):aK:=ahl fun k=>v.cells.getD k .aw
theorem aaN (x:aK):gP (hJ x)=x:=rfl
theorem akS:gP .aw=default:=rfl
theorem aaO (s:Sl aK) (v:aK):s.push v=kl gP (s.n+1) (ff s.n (fun i=>hJ (s.get i)) (rq [hJ v])):=(yk aaN akS s v).symm
theorem Hh (s:Sl aK) (i:Nat) (v:aK):s.set i v=kl gP s.n (sC (fun j=>hJ (s.get j)) i (hJ v)):=(Z2 aaN s i v).symm
theorem MS (m n' i:Nat) (acc:Nat→KV) (v:KV):kl gP m (sC (fun j=>hJ ((kl gP n' acc).get j)) i v)=kl gP m (sC acc i v):=afT aaN ..
structure cH where
 t:bg
 cm:aK
instance:Inhabited cH:=⟨⟨default,default⟩⟩
def ad7 (x:cH):List KV:=[.int .i64 x.t.e0.x,.int .i64 x.t.e0.y,.int .i64 x.t.e0.d,.int .i64 x.t.e0.u,.int .i64 x.t.e0.v,.int .i64 x.t.e1.x,.int .i64 x.t.e1.y,.int .i64 x.t.e1.d,.int .i64 x.t.e1.u,.int .i64 x.t.e1.v,.int .i64 x.t.e2.x,.int .i64 x.t.e2.y,.int .i64 x.t.e2.d,.int .i64 x.t.e2.u,.int .i64 x.t.e2.v,.int .i64 x.cm.d,.int .i64 x.cm.item,.int .i64 x.cm.gA,.int .i64 x.cm.part,.int .i64 x.cm.u,.int .i64 x.cm.v]
def sW (x:cH):KV:=.agg (ad7 x)
def ad8 (c:Nat→KV):cH:=⟨⟨⟨intOf (c 0),intOf (c 1),intOf (c 2),intOf (c 3),intOf (c 4)⟩,⟨intOf (c 5),intOf (c 6),intOf (c 7),intOf (c 8),intOf (c 9)⟩,⟨intOf (c 10),intOf (c 11),intOf (c 12),intOf (c 13),intOf (c 14)⟩⟩,⟨intOf (c 15),intOf (c 16),intOf (c 17),intOf (c 18),intOf (c 19),intOf (c 20)⟩⟩
def sX (v:KV):cH:=ad8 fun k=>v.cells.getD k .aw
theorem aaP (x:cH):sX (sW x)=x:=rfl
theorem aaQ:sX .aw=default:=rfl
theorem U9 (s:Sl cH) (v:cH):s.push v=kl sX (s.n+1) (ff s.n (fun i=>sW (s.get i)) (rq [sW v])):=(yk aaP aaQ s v).symm
structure aB where
 cT:Show
 parts:(Sl cH)
instance:Inhabited aB:=⟨⟨default,default⟩⟩
def cY (x:aB):List KV:=[iE 45 BX x.cT.items,iE 108 n7 x.cT.aL,iE 139 sW x.parts]
def mv (x:aB):KV:=.agg (cY x)
def cZ (c:Nat→KV):aB:=⟨⟨gZ Az (c 0),gZ kx (c 1)⟩,gZ sX (c 2)⟩
def nJ (v:KV):aB:=cZ fun k=>v.cells.getD k .aw
structure js where
 t14:(Sl Item)
 t15:Int
 t16:Int
 s:Show
 c:aP
 t4:aB
 out:aB
instance:Inhabited js:=⟨⟨default,default,default,default,default,default,default⟩⟩
def xq (x:js):List KV:=[iE 45 BX x.t14,.int .i64 x.t15,.int .i64 x.t16]
def xr (x:js):List (List KV):=[I0 x.s,GQ x.c,cY x.t4,cY x.out]
def JR (vs:List KV) (rs:List (List KV)):js:=⟨gZ Az (vs.getD 0 .aw),intOf (vs.getD 1 .aw),intOf (vs.getD 2 .aw),I1 (fun k=>(rs.getD 0 []).getD k .aw),GS (fun k=>(rs.getD 1 []).getD k .aw),cZ (fun k=>(rs.getD 2 []).getD k .aw),cZ (fun k=>(rs.getD 3 []).getD k .aw)⟩
def LP:aU:=⟨[(14,⟨false,[.k (.slice 45)]⟩),(15,⟨false,[.k (.int .i64)]⟩),(16,⟨false,[.k (.int .i64)]⟩)],[(2,[.k (.slice 45),.k (.slice 108)],1),(3,[.k (.int .i64),.k (.int .i64),.k (.int .i64),.k (.int .i64),.k (.int .i64),.k (.int .i64),.k (.int .i64),.k (.int .i64),.k (.int .i64),.k (.int .i64),.k (.int .i64),.k (.int .i64),.k (.int .i64),.k (.int .i64),.k (.int .i64),.k (.int .i64)],1),(4,[.k (.slice 45),.k (.slice 108),.bc 139],1),(5,[.k (.slice 45),.k (.slice 108),.bc 139],1)],[(2,0,0),(3,1,0),(4,2,0),(5,3,0)]⟩
structure fE where
 i:Int
 t14:(Sl Item)
 t15:Int
 t16:Int
 t23:Int
 t24:Int
 s:Show
 c:aP
 t4:aB
 out:aB
 x:Item
instance:Inhabited fE:=⟨⟨default,default,default,default,default,default,default,default,default,default,default⟩⟩
def sY (x:fE):List KV:=[.int .i64 x.i,iE 45 BX x.t14,.int .i64 x.t15,.int .i64 x.t16,.int .i64 x.t23,.int .i64 x.t24]
def sZ (x:fE):List (List KV):=[I0 x.s,GQ x.c,cY x.t4,cY x.out,UX x.x]
def DN (vs:List KV) (rs:List (List KV)):fE:=⟨intOf (vs.getD 0 .aw),gZ Az (vs.getD 1 .aw),intOf (vs.getD 2 .aw),intOf (vs.getD 3 .aw),intOf (vs.getD 4 .aw),intOf (vs.getD 5 .aw),I1 (fun k=>(rs.getD 0 []).getD k .aw),GS (fun k=>(rs.getD 1 []).getD k .aw),cZ (fun k=>(rs.getD 2 []).getD k .aw),cZ (fun k=>(rs.getD 3 []).getD k .aw),UY (fun k=>(rs.getD 4 []).getD k .aw)⟩
def EV:aU:=⟨[(6,⟨false,[.k (.int .i64)]⟩),(14,⟨false,[.k (.slice 45)]⟩),(15,⟨false,[.k (.int .i64)]⟩),(16,⟨false,[.k (.int .i64)]⟩),(23,⟨false,[.k (.int .i64)]⟩),(24,⟨false,[.k (.int .i64)]⟩)],[(2,[.k (.slice 45),.k (.slice 108)],1),(3,[.k (.int .i64),.k (.int .i64),.k (.int .i64),.k (.int .i64),.k (.int .i64),.k (.int .i64),.k (.int .i64),.k (.int .i64),.k (.int .i64),.k (.int .i64),.k (.int .i64),.k (.int .i64),.k (.int .i64),.k (.int .i64),.k (.int .i64),.k (.int .i64)],1),(4,[.k (.slice 45),.k (.slice 108),.bc 139],1),(5,[.k (.slice 45),.k (.slice 108),.bc 139],1),(7,[.k (.slice 41),.k (.slice 176),.k (.slice 50),.k (.int .u8),.k (.int .u8),.k (.int .u8),.k (.int .u8),.k (.int .i64),.k (.int .u8),.k (.int .i64),.k .bool,.k (.int .i64),.k (.int .i64),.k (.int .i64),.k (.int .i64),.k (.int .i64),.k (.int .i64),.k (.int .i64)],1)],[(2,0,0),(3,1,0),(4,2,0),(5,3,0),(7,4,0)]⟩
structure fT where
 i:Int
 k:Int
 t14:(Sl Item)
 t15:Int
 t16:Int
 t23:Int
 t24:Int
 t31:(Sl bg)
 t32:Int
 t33:Int
 s:Show
 c:aP
 t4:aB
 out:aB
 x:Item
instance:Inhabited fT:=⟨⟨default,default,default,default,default,default,default,default,default,default,default,default,default,default,default⟩⟩
def qE (x:fT):List KV:=[.int .i64 x.i,.int .i64 x.k,iE 45 BX x.t14,.int .i64 x.t15,.int .i64 x.t16,.int .i64 x.t23,.int .i64 x.t24,iE 118 iw x.t31,.int .i64 x.t32,.int .i64 x.t33]
def qF (x:fT):List (List KV):=[I0 x.s,GQ x.c,cY x.t4,cY x.out,UX x.x]
def Bz (vs:List KV) (rs:List (List KV)):fT:=⟨intOf (vs.getD 0 .aw),intOf (vs.getD 1 .aw),gZ Az (vs.getD 2 .aw),intOf (vs.getD 3 .aw),intOf (vs.getD 4 .aw),intOf (vs.getD 5 .aw),intOf (vs.getD 6 .aw),gZ gE (vs.getD 7 .aw),intOf (vs.getD 8 .aw),intOf (vs.getD 9 .aw),I1 (fun k=>(rs.getD 0 []).getD k .aw),GS (fun k=>(rs.getD 1 []).getD k .aw),cZ (fun k=>(rs.getD 2 []).getD k .aw),cZ (fun k=>(rs.getD 3 []).getD k .aw),UY (fun k=>(rs.getD 4 []).getD k .aw)⟩
def Cn:aU:=⟨[(6,⟨false,[.k (.int .i64)]⟩),(8,⟨false,[.k (.int .i64)]⟩),(14,⟨false,[.k (.slice 45)]⟩),(15,⟨false,[.k (.int .i64)]⟩),(16,⟨false,[.k (.int .i64)]⟩),(23,⟨false,[.k (.int .i64)]⟩),(24,⟨false,[.k (.int .i64)]⟩),(31,⟨false,[.k (.slice 118)]⟩),(32,⟨false,[.k (.int .i64)]⟩),(33,⟨false,[.k (.int .i64)]⟩)],[(2,[.k (.slice 45),.k (.slice 108)],1),(3,[.k (.int .i64),.k (.int .i64),.k (.int .i64),.k (.int .i64),.k (.int .i64),.k (.int .i64),.k (.int .i64),.k (.int .i64),.k (.int .i64),.k (.int .i64),.k (.int .i64),.k (.int .i64),.k (.int .i64),.k (.int .i64),.k (.int .i64),.k (.int .i64)],1),(4,[.k (.slice 45),.k (.slice 108),.bc 139],1),(5,[.k (.slice 45),.k (.slice 108),.bc 139],1),(7,[.k (.slice 41),.k (.slice 176),.k (.slice 50),.k (.int .u8),.k (.int .u8),.k (.int .u8),.k (.int .u8),.k (.int .i64),.k (.int .u8),.k (.int .i64),.k .bool,.k (.int .i64),.k (.int .i64),.k (.int .i64),.k (.int .i64),.k (.int .i64),.k (.int .i64),.k (.int .i64)],1)],[(2,0,0),(3,1,0),(4,2,0),(5,3,0),(7,4,0)]⟩
def LQ:=jh Try.prog (bo Try.prog [(84,u5)] [] (fun _=>false)) 9 9 57 3827302 (eZ Try.prog 57 3827302) Cn
def gV (x:fT):aI fT:=
 (cond (decide (x.t33 < x.t32))
 (cond ((decide ((0:Int)≤x.t33))&&(decide (x.t33 < ((x.t31.n:Nat):Int))))
 (cond ((av x.out.parts.n x.out.parts.n)&&(fe 168 x.out.parts.n 1))
 (cond (cond (av (x.out.parts.n+1) (x.out.parts.n+1)) (av x.t4.parts.n x.t4.parts.n) false)
 (.next (⟨x.i,x.k,x.t14,x.t15,x.t16,x.t23,x.t24,x.t31,x.t32,(au (x.t33+(1:Int))),x.s,x.c,x.t4,(⟨x.out.cT,(x.out.parts.push (⟨(x.t31.get (Int.toNat x.t33)),(⟨x.x.look.LI,x.i,x.k,x.t33,(0:Int),(0:Int)⟩:aK)⟩:cH))⟩:aB),x.x⟩:fT))
 .fail)
 .fail)
 .fail)
 (cond (cond (av x.out.parts.n x.out.parts.n) (av x.t4.parts.n x.t4.parts.n) false)
 (.out (aE.ak.exit 4) x)
 .fail))
theorem I3 (x:fT):LQ (qE x) (qF x)=aI.enc qE qF (gV x):=by
 unfold gV
 try simp only [aI.df,U9]
 kernel_rfl
def mW:Lp:=⟨57,3827302,Cn,fun vs rs=>dC qE qF (goN gV (Bz vs rs)) [aE.ak.exit 4],false⟩
theorem u6:mW.Ok Try.prog:=eH funcs mixed (ao.cons uh ao.nil) az.nil (L:=9) (n:=9) (step:=gV) (ev:=qE) (er:=qF) (pa:=Bz) rfl (fun wv wr=>⟨by kernel_rfl,by kernel_rfl⟩) I3
theorem rY:cA Try.prog mW.f mW.p=true:=by kernel_rfl
def PO:=jh Try.prog (bo Try.prog [(84,u5)] [mW] (fun _=>false)) 9 9 57 14950 (eZ Try.prog 57 14950) EV
def ow (x:fE):(Option (Sl bg)):=(lx x.s x.c x.i x.t24)
def ck (x:fE):(aI fT):=(goN gV (⟨x.i,x.t24,x.t14,x.t15,x.t16,x.t23,x.t24,((ow x).getD default),((((ow x).getD default).n:Nat):Int),(0:Int),x.s,x.c,x.t4,x.out,x.x⟩:fT))
def iZ (x:fE):aI fE:=
 (cond (decide (x.t24 < x.t23))
 (cond (ow x).isSome
 (cond (cond (av x.out.parts.n x.out.parts.n) (av x.t4.parts.n x.t4.parts.n) false)
 (cond ((ck x).by (aE.ak.exit 4))
 (cond (cond (av (ck x).st.out.parts.n (ck x).st.out.parts.n) (av (ck x).st.t4.parts.n (ck x).st.t4.parts.n) false)
 (.next (⟨(ck x).st.i,(ck x).st.t14,(ck x).st.t15,(ck x).st.t16,(ck x).st.t23,(au ((ck x).st.t24+(1:Int))),(ck x).st.s,(ck x).st.c,(ck x).st.t4,(ck x).st.out,(ck x).st.x⟩:fE))
 .fail)
 .fail)
 .fail)
 .fail)
 (cond (cond (av x.out.parts.n x.out.parts.n) (av x.t4.parts.n x.t4.parts.n) false)
 (.out (aE.ak.exit 2) x)
 .fail))
theorem LR (x:fE):PO (sY x) (sZ x)=aI.enc sY sZ (iZ x):=by
 unfold iZ
 try simp only [aI.df]
 kernel_rfl
def qG:Lp:=⟨57,14950,EV,fun vs rs=>dC sY sZ (goN iZ (DN vs rs)) [aE.ak.exit 2],false⟩
theorem DP:qG.Ok Try.prog:=eH funcs mixed (ao.cons uh ao.nil) (az.cons u6 rY az.nil) (L:=9) (n:=9) (step:=iZ) (ev:=sY) (er:=sZ) (pa:=DN) rfl (fun wv wr=>⟨by kernel_rfl,by kernel_rfl⟩) LR
theorem zW:cA Try.prog qG.f qG.p=true:=by kernel_rfl
def Xp:=jh Try.prog (bo Try.prog [(84,u5)] [mW,qG] (fun _=>false)) 9 9 57 58 (eZ Try.prog 57 58) LP
def eF (x:js):(aI fE):=(goN iZ (⟨x.t16,x.t14,x.t15,x.t16,(((x.t14.get (Int.toNat x.t16)).fS.n:Nat):Int),(0:Int),x.s,x.c,x.t4,x.out,(x.t14.get (Int.toNat x.t16))⟩:fE))
def kU (x:js):aI js:=
 (cond (decide (x.t16 < x.t15))
 (cond ((decide ((0:Int)≤x.t16))&&(decide (x.t16 < ((x.t14.n:Nat):Int))))
 (cond (cond (av x.out.parts.n x.out.parts.n) (av x.t4.parts.n x.t4.parts.n) false)
 (cond ((eF x).by (aE.ak.exit 2))
 (cond (cond (av (eF x).st.out.parts.n (eF x).st.out.parts.n) (av (eF x).st.t4.parts.n (eF x).st.t4.parts.n) false)
 (.next (⟨(eF x).st.t14,(eF x).st.t15,(au ((eF x).st.t16+(1:Int))),(eF x).st.s,(eF x).st.c,(eF x).st.t4,(eF x).st.out⟩:js))
 .fail)
 .fail)
 .fail)
 .fail)
 (cond (cond (av x.out.parts.n x.out.parts.n) (av x.t4.parts.n x.t4.parts.n) false)
 (.out (aE.ak.exit 0) x)
 .fail))
theorem SI (x:js):Xp (xq x) (xr x)=aI.enc xq xr (kU x):=by
 unfold kU
 try simp only [aI.df]
 kernel_rfl
def zx:Lp:=⟨57,58,LP,fun vs rs=>dC xq xr (goN kU (JR vs rs)) [aE.ak.exit 0],false⟩
theorem Xq:zx.Ok Try.prog:=eH funcs mixed (ao.cons uh ao.nil) (az.cons u6 rY (az.cons DP zW az.nil)) (L:=9) (n:=9) (step:=kU) (ev:=xq) (er:=xr) (pa:=JR) rfl (fun wv wr=>⟨by kernel_rfl,by kernel_rfl⟩) SI
theorem PQ:cA Try.prog zx.f zx.p=true:=by kernel_rfl
def SJ:List (Nat×(List KV→KR KV)):=[(84,u5)]
def SK:List Lp:=[mW,qG,zx]
theorem aaR:ao Try.prog SJ:=(ao.cons uh ao.nil)
theorem aaS:az Try.prog SK:=(az.cons u6 rY (az.cons DP zW (az.cons Xq PQ az.nil)))
def Bb (s:Show) (c:aP):(aI js):=(goN kU (⟨s.items,((s.items.n:Nat):Int),(0:Int),s,c,(⟨(⟨(⟨0,(fun i=>(⟨(⟨0,(fun i=>(⟨(0:Int),(0:Int),(0:Int)⟩:dY))⟩:Sl _),(⟨0,(fun i=>(⟨(0:Int),(0:Int)⟩:uc))⟩:Sl _),(⟨0,(fun i=>(⟨(0:Int),(0:Int),(0:Int)⟩:eL))⟩:Sl _),(⟨(⟨(0:Int),(0:Int),(0:Int),(0:Int)⟩:Color),(0:Int),(0:Int),(0:Int),false,(0:Int)⟩:tt),(⟨(⟨(0:Int),(0:Int),(0:Int)⟩:dY),(⟨(0:Int),(0:Int),(0:Int)⟩:dY)⟩:tr)⟩:Item))⟩:Sl _),(⟨0,(fun i=>(⟨(0:Int),(0:Int),(⟨0,(fun i=>(⟨(0:Int),(0:Int),(0:Int),(0:Int)⟩:Color))⟩:Sl _)⟩:ek))⟩:Sl _)⟩:Show),(⟨0,(fun i=>(⟨(⟨(⟨(0:Int),(0:Int),(0:Int),(0:Int),(0:Int)⟩:fX),(⟨(0:Int),(0:Int),(0:Int),(0:Int),(0:Int)⟩:fX),(⟨(0:Int),(0:Int),(0:Int),(0:Int),(0:Int)⟩:fX)⟩:bg),(⟨(0:Int),(0:Int),(0:Int),(0:Int),(0:Int),(0:Int)⟩:aK)⟩:cH))⟩:Sl _)⟩:aB),(⟨s,(⟨0,(fun i=>(⟨(⟨(⟨(0:Int),(0:Int),(0:Int),(0:Int),(0:Int)⟩:fX),(⟨(0:Int),(0:Int),(0:Int),(0:Int),(0:Int)⟩:fX),(⟨(0:Int),(0:Int),(0:Int),(0:Int),(0:Int)⟩:fX)⟩:bg),(⟨(0:Int),(0:Int),(0:Int),(0:Int),(0:Int),(0:Int)⟩:aK)⟩:cH))⟩:Sl _)⟩:aB)⟩:js))
def sm (s:Show) (c:aP):Option (aB):=
 (cond ((Bb s c).by (aE.ak.exit 0))
 (some ((Bb s c).st.out))
 none)
theorem abR (s:Show) (c:aP):dm Try.prog (bo Try.prog SJ SK (fun _=>false)) 9 9 57 [oK s,kK c] = (sm s c).map mv:=by
 unfold sm
 try simp only [cc]
 kernel_rfl
def Wq:List KV→KR KV:=cw Try.prog 57 (cG mv fun vs=>sm (mO (vs.getD 0 .aw)) (hY (vs.getD 1 .aw)))
theorem aaT (w:Nat→KV):cM Try.prog [25,53] w 0 = [oK (mO (ay Try.prog (aj Try.prog aq) 25 (w 0))),kK (hY (ay Try.prog (aj Try.prog aq) 53 (w 1)))]:=by kernel_rfl
theorem aaU:ca Try.prog 57 Wq:=aY funcs mixed aaR aaS (L:=9) (n:=9) fun w=>by
 have e:aJ Try.prog 57 = [25,53]:=by kernel_rfl
 rw [e,aaT]
 exact (abR (mO (ay Try.prog (aj Try.prog aq) 25 (w 0))) (hY (ay Try.prog (aj Try.prog aq) 53 (w 1)))).trans (by kernel_rfl)
def SL:List (Nat×(List KV→KR KV)):=[(57,Wq),(56,LO)]
def SM:List Lp:=[]
theorem aaV:ao Try.prog SL:=(ao.cons aaU (ao.cons SH ao.nil))
theorem aaW:az Try.prog SM:=az.nil
def w4 (s:Show) (c:aP) (x:Int) (y:Int):(Option Int):=(gU s c)
def Bc (s:Show) (c:aP) (x:Int) (y:Int):(Option aB):=(sm s c)
def jC (s:Show) (c:aP) (x:Int) (y:Int):Option (aB×Int):=
 (cond (w4 s c x y).isSome
 (cond (((w4 s c x y).getD default) != (0:Int))
 (some ((⟨(⟨(⟨0,(fun i=>(⟨(⟨0,(fun i=>(⟨(0:Int),(0:Int),(0:Int)⟩:dY))⟩:Sl _),(⟨0,(fun i=>(⟨(0:Int),(0:Int)⟩:uc))⟩:Sl _),(⟨0,(fun i=>(⟨(0:Int),(0:Int),(0:Int)⟩:eL))⟩:Sl _),(⟨(⟨(0:Int),(0:Int),(0:Int),(0:Int)⟩:Color),(0:Int),(0:Int),(0:Int),false,(0:Int)⟩:tt),(⟨(⟨(0:Int),(0:Int),(0:Int)⟩:dY),(⟨(0:Int),(0:Int),(0:Int)⟩:dY)⟩:tr)⟩:Item))⟩:Sl _),(⟨0,(fun i=>(⟨(0:Int),(0:Int),(⟨0,(fun i=>(⟨(0:Int),(0:Int),(0:Int),(0:Int)⟩:Color))⟩:Sl _)⟩:ek))⟩:Sl _)⟩:Show),(⟨0,(fun i=>(⟨(⟨(⟨(0:Int),(0:Int),(0:Int),(0:Int),(0:Int)⟩:fX),(⟨(0:Int),(0:Int),(0:Int),(0:Int),(0:Int)⟩:fX),(⟨(0:Int),(0:Int),(0:Int),(0:Int),(0:Int)⟩:fX)⟩:bg),(⟨(0:Int),(0:Int),(0:Int),(0:Int),(0:Int),(0:Int)⟩:aK)⟩:cH))⟩:Sl _)⟩:aB),((w4 s c x y).getD default)))
 (cond (decide (x < (0:Int)))
 (some ((⟨(⟨(⟨0,(fun i=>(⟨(⟨0,(fun i=>(⟨(0:Int),(0:Int),(0:Int)⟩:dY))⟩:Sl _),(⟨0,(fun i=>(⟨(0:Int),(0:Int)⟩:uc))⟩:Sl _),(⟨0,(fun i=>(⟨(0:Int),(0:Int),(0:Int)⟩:eL))⟩:Sl _),(⟨(⟨(0:Int),(0:Int),(0:Int),(0:Int)⟩:Color),(0:Int),(0:Int),(0:Int),false,(0:Int)⟩:tt),(⟨(⟨(0:Int),(0:Int),(0:Int)⟩:dY),(⟨(0:Int),(0:Int),(0:Int)⟩:dY)⟩:tr)⟩:Item))⟩:Sl _),(⟨0,(fun i=>(⟨(0:Int),(0:Int),(⟨0,(fun i=>(⟨(0:Int),(0:Int),(0:Int),(0:Int)⟩:Color))⟩:Sl _)⟩:ek))⟩:Sl _)⟩:Show),(⟨0,(fun i=>(⟨(⟨(⟨(0:Int),(0:Int),(0:Int),(0:Int),(0:Int)⟩:fX),(⟨(0:Int),(0:Int),(0:Int),(0:Int),(0:Int)⟩:fX),(⟨(0:Int),(0:Int),(0:Int),(0:Int),(0:Int)⟩:fX)⟩:bg),(⟨(0:Int),(0:Int),(0:Int),(0:Int),(0:Int),(0:Int)⟩:aK)⟩:cH))⟩:Sl _)⟩:aB),(2:Int)))
 (cond (decide (x ≥ c.w))
 (some ((⟨(⟨(⟨0,(fun i=>(⟨(⟨0,(fun i=>(⟨(0:Int),(0:Int),(0:Int)⟩:dY))⟩:Sl _),(⟨0,(fun i=>(⟨(0:Int),(0:Int)⟩:uc))⟩:Sl _),(⟨0,(fun i=>(⟨(0:Int),(0:Int),(0:Int)⟩:eL))⟩:Sl _),(⟨(⟨(0:Int),(0:Int),(0:Int),(0:Int)⟩:Color),(0:Int),(0:Int),(0:Int),false,(0:Int)⟩:tt),(⟨(⟨(0:Int),(0:Int),(0:Int)⟩:dY),(⟨(0:Int),(0:Int),(0:Int)⟩:dY)⟩:tr)⟩:Item))⟩:Sl _),(⟨0,(fun i=>(⟨(0:Int),(0:Int),(⟨0,(fun i=>(⟨(0:Int),(0:Int),(0:Int),(0:Int)⟩:Color))⟩:Sl _)⟩:ek))⟩:Sl _)⟩:Show),(⟨0,(fun i=>(⟨(⟨(⟨(0:Int),(0:Int),(0:Int),(0:Int),(0:Int)⟩:fX),(⟨(0:Int),(0:Int),(0:Int),(0:Int),(0:Int)⟩:fX),(⟨(0:Int),(0:Int),(0:Int),(0:Int),(0:Int)⟩:fX)⟩:bg),(⟨(0:Int),(0:Int),(0:Int),(0:Int),(0:Int),(0:Int)⟩:aK)⟩:cH))⟩:Sl _)⟩:aB),(2:Int)))
 (cond (decide (y < (0:Int)))
 (some ((⟨(⟨(⟨0,(fun i=>(⟨(⟨0,(fun i=>(⟨(0:Int),(0:Int),(0:Int)⟩:dY))⟩:Sl _),(⟨0,(fun i=>(⟨(0:Int),(0:Int)⟩:uc))⟩:Sl _),(⟨0,(fun i=>(⟨(0:Int),(0:Int),(0:Int)⟩:eL))⟩:Sl _),(⟨(⟨(0:Int),(0:Int),(0:Int),(0:Int)⟩:Color),(0:Int),(0:Int),(0:Int),false,(0:Int)⟩:tt),(⟨(⟨(0:Int),(0:Int),(0:Int)⟩:dY),(⟨(0:Int),(0:Int),(0:Int)⟩:dY)⟩:tr)⟩:Item))⟩:Sl _),(⟨0,(fun i=>(⟨(0:Int),(0:Int),(⟨0,(fun i=>(⟨(0:Int),(0:Int),(0:Int),(0:Int)⟩:Color))⟩:Sl _)⟩:ek))⟩:Sl _)⟩:Show),(⟨0,(fun i=>(⟨(⟨(⟨(0:Int),(0:Int),(0:Int),(0:Int),(0:Int)⟩:fX),(⟨(0:Int),(0:Int),(0:Int),(0:Int),(0:Int)⟩:fX),(⟨(0:Int),(0:Int),(0:Int),(0:Int),(0:Int)⟩:fX)⟩:bg),(⟨(0:Int),(0:Int),(0:Int),(0:Int),(0:Int),(0:Int)⟩:aK)⟩:cH))⟩:Sl _)⟩:aB),(2:Int)))
 (cond (decide (y ≥ c.h))
 (some ((⟨(⟨(⟨0,(fun i=>(⟨(⟨0,(fun i=>(⟨(0:Int),(0:Int),(0:Int)⟩:dY))⟩:Sl _),(⟨0,(fun i=>(⟨(0:Int),(0:Int)⟩:uc))⟩:Sl _),(⟨0,(fun i=>(⟨(0:Int),(0:Int),(0:Int)⟩:eL))⟩:Sl _),(⟨(⟨(0:Int),(0:Int),(0:Int),(0:Int)⟩:Color),(0:Int),(0:Int),(0:Int),false,(0:Int)⟩:tt),(⟨(⟨(0:Int),(0:Int),(0:Int)⟩:dY),(⟨(0:Int),(0:Int),(0:Int)⟩:dY)⟩:tr)⟩:Item))⟩:Sl _),(⟨0,(fun i=>(⟨(0:Int),(0:Int),(⟨0,(fun i=>(⟨(0:Int),(0:Int),(0:Int),(0:Int)⟩:Color))⟩:Sl _)⟩:ek))⟩:Sl _)⟩:Show),(⟨0,(fun i=>(⟨(⟨(⟨(0:Int),(0:Int),(0:Int),(0:Int),(0:Int)⟩:fX),(⟨(0:Int),(0:Int),(0:Int),(0:Int),(0:Int)⟩:fX),(⟨(0:Int),(0:Int),(0:Int),(0:Int),(0:Int)⟩:fX)⟩:bg),(⟨(0:Int),(0:Int),(0:Int),(0:Int),(0:Int),(0:Int)⟩:aK)⟩:cH))⟩:Sl _)⟩:aB),(2:Int)))
 (cond (Bc s c x y).isSome
 (some (((Bc s c x y).getD default),(0:Int)))
 none))))))
 none)
theorem abS (s:Show) (c:aP) (x:Int) (y:Int):dm Try.prog (bo Try.prog SL SM (fun _=>false)) 9 9 40 [oK s,kK c,(kI .i64) x,(kI .i64) y] = (jC s c x y).map (fun (r:aB×Int)=>KV.kk [mv r.1,(kI .i64) r.2]):=by
 unfold jC
 try simp only [cc]
 kernel_rfl
def yu:List KV→KR KV:=cw Try.prog 40 (cG (fun (r:aB×Int)=>KV.kk [mv r.1,(kI .i64) r.2]) fun vs=>jC (mO (vs.getD 0 .aw)) (hY (vs.getD 1 .aw)) (intOf (vs.getD 2 .aw)) (intOf (vs.getD 3 .aw)))
theorem aaX (w:Nat→KV):cM Try.prog [25,53,3,3] w 0 = [oK (mO (ay Try.prog (aj Try.prog aq) 25 (w 0))),kK (hY (ay Try.prog (aj Try.prog aq) 53 (w 1))),(kI .i64) (intOf (ay Try.prog (aj Try.prog aq) 3 (w 2))),(kI .i64) (intOf (ay Try.prog (aj Try.prog aq) 3 (w 3)))]:=by kernel_rfl
theorem u7:ca Try.prog 40 yu:=aY funcs mixed aaV aaW (L:=9) (n:=9) fun w=>by
 have e:aJ Try.prog 40 = [25,53,3,3]:=by kernel_rfl
 rw [e,aaX]
 exact (abS (mO (ay Try.prog (aj Try.prog aq) 25 (w 0))) (hY (ay Try.prog (aj Try.prog aq) 53 (w 1))) (intOf (ay Try.prog (aj Try.prog aq) 3 (w 2))) (intOf (ay Try.prog (aj Try.prog aq) 3 (w 3)))).trans (by kernel_rfl)
structure cf where
 x:Int
 y:Int
 t14:(Sl cH)
 t15:Int
 t16:Int
 bZ:(Sl aK)
instance:Inhabited cf:=⟨⟨default,default,default,default,default,default⟩⟩
def de (x:cf):(Option (Prod fX Int)):=(nU (x.t14.get (Int.toNat x.t16)).t x.x x.y)
def gn (x:cf):aI cf:=
 (cond (decide (x.t16 < x.t15))
 (cond ((decide ((0:Int)≤x.t16))&&(decide (x.t16 < ((x.t14.n:Nat):Int))))
 (cond (de x).isSome
 (cond (((de x).getD default).snd==(0:Int))
 (cond ((av x.bZ.n x.bZ.n)&&(fe 48 x.bZ.n 1))
 (cond (av x.bZ.n x.bZ.n)
 (.next (⟨x.x,x.y,x.t14,x.t15,(au (x.t16+(1:Int))),(x.bZ.push (⟨(au ((x.t14.get (Int.toNat x.t16)).cm.d+((de x).getD default).fst.d)),(x.t14.get (Int.toNat x.t16)).cm.item,(x.t14.get (Int.toNat x.t16)).cm.gA,(x.t14.get (Int.toNat x.t16)).cm.part,((de x).getD default).fst.u,((de x).getD default).fst.v⟩:aK))⟩:cf))
 .fail)
 .fail)
 (cond (av x.bZ.n x.bZ.n)
 (.next (⟨x.x,x.y,x.t14,x.t15,(au (x.t16+(1:Int))),x.bZ⟩:cf))
 .fail))
 .fail)
 .fail)
 (cond (av x.bZ.n x.bZ.n)
 (.out (aE.ak.exit 0) x)
 .fail))
def nw (s:Show) (c:aP) (x:Int) (y:Int):(Option (Prod aB Int)):=(jC s c x y)
def o9 (s:Show) (c:aP) (x:Int) (y:Int):(aI cf):=(goN gn (⟨x,y,((nw s c x y).getD default).fst.parts,((((nw s c x y).getD default).fst.parts.n:Nat):Int),(0:Int),(⟨0,(fun i=>(⟨(0:Int),(0:Int),(0:Int),(0:Int),(0:Int),(0:Int)⟩:aK))⟩:Sl _)⟩:cf))
def DQ (s:Show) (c:aP) (x:Int) (y:Int):Option ((Sl aK)×Int):=
 (cond (nw s c x y).isSome
 (cond (((nw s c x y).getD default).snd==(0:Int))
 (cond ((o9 s c x y).by (aE.ak.exit 0))
 (some ((o9 s c x y).st.bZ,((nw s c x y).getD default).snd))
 none)
 (some ((⟨0,(fun i=>(⟨(0:Int),(0:Int),(0:Int),(0:Int),(0:Int),(0:Int)⟩:aK))⟩:Sl _),((nw s c x y).getD default).snd)))
 none)
structure kh where
 l:(Sl ek)
 n:Int
 i:Int
instance:Inhabited kh:=⟨⟨default,default,default⟩⟩
def vG (x:kh):List KV:=[iE 108 n7 x.l,.int .i64 x.n,.int .i64 x.i]
def vH (x:kh):List (List KV):=[]
def Hi (vs:List KV) (rs:List (List KV)):kh:=⟨gZ kx (vs.getD 0 .aw),intOf (vs.getD 1 .aw),intOf (vs.getD 2 .aw)⟩
def JS:aU:=⟨[(0,⟨false,[.k (.slice 108)]⟩),(3,⟨false,[.k (.int .i64)]⟩),(4,⟨false,[.k (.int .i64)]⟩)],[],[]⟩
def Va:=jh Try.prog (bo Try.prog [] [] (fun _=>false)) 9 9 31 58 (eZ Try.prog 31 58) JS
def lU (x:kh):aI kh:=
 (cond (decide (x.i < ((x.l.n:Nat):Int)))
 (cond (decide (x.i < (100:Int)))
 (cond ((decide ((0:Int)≤x.i))&&(decide (x.i < ((x.l.n:Nat):Int))))
 (.next (⟨x.l,(au (x.n+(min (((x.l.get (Int.toNat x.i)).EO.n:Nat):Int) (100000:Int)))),(au (x.i+(1:Int)))⟩:kh))
 .fail)
 (.out (aE.ak.exit 0) x))
 (.out (aE.ak.exit 0) x))
theorem PR (x:kh):Va (vG x) (vH x)=aI.enc vG vH (lU x):=by
 unfold lU
 try simp only [aI.df]
 kernel_rfl
def xt:Lp:=⟨31,58,JS,fun vs rs=>dC vG vH (goN lU (Hi vs rs)) [aE.ak.exit 0],false⟩
theorem Vb:xt.Ok Try.prog:=eH funcs mixed ao.nil az.nil (L:=9) (n:=9) (step:=lU) (ev:=vG) (er:=vH) (pa:=Hi) rfl (fun wv wr=>⟨by kernel_rfl,by kernel_rfl⟩) PR
theorem Ns:cA Try.prog xt.f xt.p=true:=by kernel_rfl
def Ov:List (Nat×(List KV→KR KV)):=[]
def Ow:List Lp:=[xt]
theorem Xr:ao Try.prog Ov:=ao.nil
theorem Xs:az Try.prog Ow:=(az.cons Vb Ns az.nil)
def rZ (l:(Sl ek)):(aI kh):=(goN lU (⟨l,(0:Int),(0:Int)⟩:kh))
def vI (l:(Sl ek)):Option (Bool):=
 (cond ((rZ l).by (aE.ak.exit 0))
 (cond (decide ((((rZ l).st.l.n:Nat):Int) > (40:Int)))
 (some (true))
 (some ((decide ((rZ l).st.n > (20000:Int))))))
 none)
theorem aaY (l:(Sl ek)):dm Try.prog (bo Try.prog Ov Ow (fun _=>false)) 9 9 31 [(iE 108 n7) l] = (vI l).map kB:=by
 unfold vI
 try simp only [cc]
 kernel_rfl
def I4:List KV→KR KV:=cw Try.prog 31 (cG kB fun vs=>vI ((gZ kx) (vs.getD 0 .aw)))
theorem Xt (w:Nat→KV):cM Try.prog [23] w 0 = [(iE 108 n7) ((gZ kx) (ay Try.prog (aj Try.prog aq) 23 (w 0)))]:=by kernel_rfl
theorem JT:ca Try.prog 31 I4:=aY funcs mixed Xr Xs (L:=9) (n:=9) fun w=>by
 have e:aJ Try.prog 31 = [23]:=by kernel_rfl
 rw [e,Xt]
 exact (aaY ((gZ kx) (ay Try.prog (aj Try.prog aq) 23 (w 0)))).trans (by kernel_rfl)
structure ki where
 n:Int
 i:Int
 s:Show
instance:Inhabited ki:=⟨⟨default,default,default⟩⟩
def vJ (x:ki):List KV:=[.int .i64 x.n,.int .i64 x.i]
def vK (x:ki):List (List KV):=[I0 x.s]
def Hj (vs:List KV) (rs:List (List KV)):ki:=⟨intOf (vs.getD 0 .aw),intOf (vs.getD 1 .aw),I1 (fun k=>(rs.getD 0 []).getD k .aw)⟩
def JU:aU:=⟨[(3,⟨false,[.k (.int .i64)]⟩),(4,⟨false,[.k (.int .i64)]⟩)],[(1,[.k (.slice 45),.k (.slice 108)],1)],[(1,0,0)]⟩
def Vc:=jh Try.prog (bo Try.prog [(31,I4)] [] (fun _=>false)) 9 9 10 58 (eZ Try.prog 10 58) JU
def lV (x:ki):aI ki:=
 (cond (decide (x.i < ((x.s.items.n:Nat):Int)))
 (cond (decide (x.i < (300:Int)))
 (cond ((decide ((0:Int)≤x.i))&&(decide (x.i < ((x.s.items.n:Nat):Int))))
 (cond ((decide ((0:Int)≤x.i))&&(decide (x.i < ((x.s.items.n:Nat):Int))))
 (cond ((decide ((0:Int)≤x.i))&&(decide (x.i < ((x.s.items.n:Nat):Int))))
 (.next (⟨(au ((au ((au (x.n+(min (((x.s.items.get (Int.toNat x.i)).gJ.n:Nat):Int) (10000:Int))))+(min (((x.s.items.get (Int.toNat x.i)).uV.n:Nat):Int) (10000:Int))))+(au ((2:Int) * (min (((x.s.items.get (Int.toNat x.i)).fS.n:Nat):Int) (10000:Int)))))),(au (x.i+(1:Int))),x.s⟩:ki))
 .fail)
 .fail)
 .fail)
 (.out (aE.ak.exit 0) x))
 (.out (aE.ak.exit 0) x))
theorem PS (x:ki):Vc (vJ x) (vK x)=aI.enc vJ vK (lV x):=by
 unfold lV
 try simp only [aI.df]
 kernel_rfl
def xu:Lp:=⟨10,58,JU,fun vs rs=>dC vJ vK (goN lV (Hj vs rs)) [aE.ak.exit 0],false⟩
theorem Vd:xu.Ok Try.prog:=eH funcs mixed (ao.cons JT ao.nil) az.nil (L:=9) (n:=9) (step:=lV) (ev:=vJ) (er:=vK) (pa:=Hj) rfl (fun wv wr=>⟨by kernel_rfl,by kernel_rfl⟩) PS
theorem Nt:cA Try.prog xu.f xu.p=true:=by kernel_rfl
def Ox:List (Nat×(List KV→KR KV)):=[(31,I4)]
def Oy:List Lp:=[xu]
theorem Xu:ao Try.prog Ox:=(ao.cons JT ao.nil)
theorem Xv:az Try.prog Oy:=(az.cons Vd Nt az.nil)
def px (s:Show):(aI ki):=(goN lV (⟨(0:Int),(0:Int),s⟩:ki))
def DR (s:Show):(Option Bool):=(vI (px s).st.s.aL)
def vL (s:Show):Option (Bool):=
 (cond ((px s).by (aE.ak.exit 0))
 (cond (decide ((((px s).st.s.items.n:Nat):Int) > (260:Int)))
 (some (true))
 (cond (decide ((px s).st.n > (800:Int)))
 (some (true))
 (cond (DR s).isSome
 (some (((DR s).getD default)))
 none)))
 none)
theorem aaZ (s:Show):dm Try.prog (bo Try.prog Ox Oy (fun _=>false)) 9 9 10 [oK s] = (vL s).map kB:=by
 unfold vL
 try simp only [cc]
 kernel_rfl
def CM:List KV→KR KV:=cw Try.prog 10 (cG kB fun vs=>vL (mO (vs.getD 0 .aw)))
theorem Xw (w:Nat→KV):cM Try.prog [25] w 0 = [oK (mO (ay Try.prog (aj Try.prog aq) 25 (w 0)))]:=by kernel_rfl
theorem B5:ca Try.prog 10 CM:=aY funcs mixed Xu Xv (L:=9) (n:=9) fun w=>by
 have e:aJ Try.prog 10 = [25]:=by kernel_rfl
 rw [e,Xw]
 exact (aaZ (mO (ay Try.prog (aj Try.prog aq) 25 (w 0)))).trans (by kernel_rfl)
end
end Go.Proofs.Ytahhdndhkgbcjaa.b
end
section
namespace Go.K
open Go Go.aE
theorem aI.af4 {X:Type} {step:X→aI X} {I:Nat→X→Prop} {Q:ak→X→Prop} {n:Nat}
  (h:∀ j x,j≤n→I j x→(∃ x',step x = .next x'∧j < n∧I (j+1) x')∨∃ e x',step x = .out e x'∧yh e=false∧Q e x') :
  ∀ (r j:Nat) (x:X),j+r=n→I j x→∀ N,r < N→∃ e x',aI.go step N x = .out e x'∧Q e x'
 | r,j,x,hj,hI,0,hN=>by omega
 | r,j,x,hj,hI,N+1,hN=>by
  rcases h j x (by omega) hI with ⟨x',h1,h2,h3⟩ | ⟨e,x',h1,h2,h3⟩
  ·obtain ⟨r',rfl⟩:∃ r',r=r' + 1:=⟨r - 1,by omega⟩
   obtain ⟨e,y,h4,h5⟩:=aI.af4 h r' (j+1) x' (by omega) h3 N (by omega)
   exact ⟨e,y,by simp only [aI.go,h1,h4],h5⟩
  ·exact ⟨e,x',by simp only [aI.go,h1,h2,cond_false],h3⟩
theorem dp {X:Type} {step:X→aI X} (I:Nat→X→Prop) (Q:ak→X→Prop) (n:Nat) (hn:n < mm)
  (h:∀ j x,j≤n→I j x→(∃ x',step x = .next x'∧j < n∧I (j+1) x')∨∃ e x',step x = .out e x'∧yh e=false∧Q e x') {x:X} (h0:I 0 x) :
  ∃ e x',goN step x = .out e x'∧Q e x':=aI.af4 h n 0 x (by omega) h0 mm hn
theorem aI.jR {X:Type} (e:ak) (x:X) (e' : ak):(aI.out e x).by e' = fB e e':=rfl
theorem aI.kA {X:Type} [Inhabited X] (e:ak) (x:X):(aI.out e x).st=x:=rfl
theorem zy {n:Int} (h : -9223372036854775808≤n) (h' : n < 9223372036854775808):au n=n:=by
 show IntKind.wrap .i64 n=n
 unfold IntKind.wrap
 by_cases hn:0≤n
 ·have h1:n % (2 ^ IntKind.i64.bits:Int)=n:=Int.emod_eq_of_lt hn (by show n < 18446744073709551616; omega)
  simp only [h1]
  rw [if_neg]
  intro hc
  simp only [Bool.and_eq_true,decide_eq_true_eq] at hc
  have:n ≥ 9223372036854775808:=hc.2
  omega
 ·have h1:n % (2 ^ IntKind.i64.bits:Int)=n+18446744073709551616:=by
   show n % 18446744073709551616=n+18446744073709551616
   omega
  simp only [h1]
  rw [if_pos]
  ·show n+18446744073709551616 - 18446744073709551616=n
   omega
  ·simp only [Bool.and_eq_true,decide_eq_true_eq]
   refine ⟨rfl,?_⟩
   show n+18446744073709551616 ≥ 9223372036854775808
   omega
theorem I5 {b n m:Nat} (hb:b≤1000000) (hn:n≤1000000) (hm:m≤1000000) (h:0 < m∨n=0):fe b n m=true:=by
 unfold fe
 simp only [Bool.and_eq_true,Bool.or_eq_true]
 refine ⟨⟨Nat.ble_eq_true_of_le ?_,Nat.ble_eq_true_of_le (by omega)⟩,?_⟩
 ·calc (n+m+512) * b≤2000512 * 1000000:=Nat.mul_le_mul (by omega) hb
   _≤17592186044416:=by decide
 ·rcases h with h | h
  ·exact .inl (by rw [Nat.blt_eq]; exact h)
  ·exact .inr (by subst h; rfl)
@[simp] theorem aZ (n:Nat):av n n=true:=Nat.beq_refl n
theorem Sl.CN {α:Type} [Inhabited α] (s:Sl α) (v:α):(s.push v).n=s.n+1:=rfl
theorem Sl.acP {α:Type} [Inhabited α] {s:Sl α} {v:α} {i:Nat} (h:i < s.n):(s.push v).get i=s.get i:=by
 have:Nat.blt i s.n=true:=by rw [Nat.blt_eq]; exact h
 simp only [Sl.push,this,cond_true]
theorem Sl.acQ {α:Type} [Inhabited α] {s:Sl α} {v:α} : (s.push v).get s.n=v:=by
 have:Nat.blt s.n s.n=false:=by
  cases h:Nat.blt s.n s.n with
  | false=>rfl
  | true=>rw [Nat.blt_eq] at h; omega
 simp only [Sl.push,this,cond_false,Nat.beq_refl,cond_true]
end Go.K
end
section
namespace Go.Proofs.Ytahhdndhkgbcjaa.b
open Go.K
open Go.aE (ak)
theorem bx {n:Int} (h : -4611686018427387904≤n) (h' : n≤4611686018427387904):au n=n:=zy (by omega) (by omega)
theorem I6 (lo hi:Int) (l:Sl Int) (hn:l.n≤1000):∃ b,nR lo hi l=some b∧(b=true↔∀ i,i < l.n→lo≤l.get i∧l.get i≤hi):=by
 obtain ⟨e,x',h1,h2⟩:=dp (step:=j8) (x:=⟨lo,hi,false,l,((l.n:Nat):Int),(0:Int)⟩)
  (fun j x=>x=⟨lo,hi,false,l,((l.n:Nat):Int),(j:Int)⟩∧j≤l.n∧∀ i,i < j→lo≤l.get i∧l.get i≤hi)
  (fun e x=>(e = .exit 0∧∀ i,i < l.n→lo≤l.get i∧l.get i≤hi)∨(e = .ret∧x.t6=false∧¬ ∀ i,i < l.n→lo≤l.get i∧l.get i≤hi)) l.n (by have:mm=1000000000000:=rfl; omega)
  (fun j x hj ⟨hx,hle,hI⟩=>by
   subst hx
   unfold j8
   by_cases bV:j < l.n
   ·have e1:decide ((j:Int) < ((l.n:Nat):Int))=true:=decide_eq_true (by omega)
    have e2:decide ((0:Int)≤(j:Int))=true:=decide_eq_true (by omega)
    simp only [e1,e2,cond_true,Bool.and_self,Int.toNat_natCast]
    cases ha:decide (l.get j < lo) with
    | true=>
     right
     refine ⟨_,_,rfl,rfl,.inr ⟨rfl,rfl,fun h=>?_⟩⟩
     have:=h j bV; have:=of_decide_eq_true ha; omega
    | false=>
     cases hb:decide (l.get j > hi) with
     | true=>
      right
      refine ⟨_,_,rfl,rfl,.inr ⟨rfl,rfl,fun h=>?_⟩⟩
      have:=h j bV; have:=of_decide_eq_true hb; omega
     | false=>
      left
      refine ⟨_,rfl,by omega,?_,by omega,fun i OM=>?_⟩
      ·rw [bx (by omega) (by omega)]; rfl
      ·by_cases CI:i=j
       ·subst CI
        have:=of_decide_eq_false ha; have:=of_decide_eq_false hb; omega
       ·exact hI i (by omega)
   ·have e1:decide ((j:Int) < ((l.n:Nat):Int))=false:=decide_eq_false (by omega)
    simp only [e1,cond_false]
    right
    exact ⟨_,_,rfl,rfl,.inl ⟨rfl,fun i OM=>hI i (by omega)⟩⟩)
  ⟨rfl,by omega,fun i OM=>by omega⟩
 have h0:vt lo hi l = .out e x':=h1
 unfold nR
 rw [h0,aI.jR,aI.jR,aI.kA]
 rcases h2 with ⟨rfl,h2⟩ | ⟨rfl,h3,h2⟩
 ·exact ⟨true,rfl,by simpa using h2⟩
 ·exact ⟨false,by simp [fB,h3],by simpa using h2⟩
theorem af5 (mL:Int) (l:Sl Int) (hn:l.n≤1000) (hm:0≤mL∧mL≤1000000):∃ b,ym mL l=some b∧(b=true↔∀ i,i < l.n→-mL≤l.get i∧l.get i≤mL):=by
 have hw:au (0 - mL) = -mL:=by rw [bx (by omega) (by omega)]; omega
 obtain ⟨e,x',h1,h2⟩:=dp (step:=oh) (x:=⟨mL,false,l,((l.n:Nat):Int),(0:Int)⟩)
  (fun j x=>x=⟨mL,false,l,((l.n:Nat):Int),(j:Int)⟩∧j≤l.n∧∀ i,i < j→-mL≤l.get i∧l.get i≤mL)
  (fun e x=>(e = .exit 0∧∀ i,i < l.n→-mL≤l.get i∧l.get i≤mL)∨(e = .ret∧x.t4=false∧¬ ∀ i,i < l.n→-mL≤l.get i∧l.get i≤mL)) l.n (by have:mm=1000000000000:=rfl; omega)
  (fun j x hj ⟨hx,hle,hI⟩=>by
   subst hx
   unfold oh
   by_cases bV:j < l.n
   ·have e1:decide ((j:Int) < ((l.n:Nat):Int))=true:=decide_eq_true (by omega)
    have e2:decide ((0:Int)≤(j:Int))=true:=decide_eq_true (by omega)
    simp only [e1,e2,cond_true,Bool.and_self,Int.toNat_natCast,hw]
    cases ha:decide (l.get j < -mL) with
    | true=>
     right
     refine ⟨_,_,rfl,rfl,.inr ⟨rfl,rfl,fun h=>?_⟩⟩
     have:=h j bV; have:=of_decide_eq_true ha; omega
    | false=>
     cases hb:decide (l.get j > mL) with
     | true=>
      right
      refine ⟨_,_,rfl,rfl,.inr ⟨rfl,rfl,fun h=>?_⟩⟩
      have:=h j bV; have:=of_decide_eq_true hb; omega
     | false=>
      left
      refine ⟨_,rfl,by omega,?_,by omega,fun i OM=>?_⟩
      ·rw [bx (by omega) (by omega)]; rfl
      ·by_cases CI:i=j
       ·subst CI
        have:=of_decide_eq_false ha; have:=of_decide_eq_false hb; omega
       ·exact hI i (by omega)
   ·have e1:decide ((j:Int) < ((l.n:Nat):Int))=false:=decide_eq_false (by omega)
    simp only [e1,cond_false]
    right
    exact ⟨_,_,rfl,rfl,.inl ⟨rfl,fun i OM=>hI i (by omega)⟩⟩)
  ⟨rfl,by omega,fun i OM=>by omega⟩
 have h0:Ez mL l = .out e x':=h1
 unfold ym
 rw [h0,aI.jR,aI.jR,aI.kA]
 rcases h2 with ⟨rfl,h2⟩ | ⟨rfl,h3,h2⟩
 ·exact ⟨true,rfl,by simpa using h2⟩
 ·exact ⟨false,by simp [fB,h3],by simpa using h2⟩
def ad9 (v:dY):Prop:=-4096≤v.x∧v.x≤4096∧-4096≤v.y∧v.y≤4096∧-4096≤v.z∧v.z≤4096
theorem anJ {p:Int→Prop} (a b c:Int):(∀ i,i < (Sl.lit [a,b,c]).n→p ((Sl.lit [a,b,c]).get i))↔p a∧p b∧p c:=by
 constructor
 ·intro h
  exact ⟨h 0 (show 0 < 3 by omega),h 1 (show 1 < 3 by omega),h 2 (show 2 < 3 by omega)⟩
 ·rintro ⟨h1,h2,h3⟩ i hi
  have hi:i < 3:=hi
  match i,hi with
  | 0,_=>exact h1
  | 1,_=>exact h2
  | 2,_=>exact h3
theorem amg {p:Int→Prop} (a b:Int):(∀ i,i < (Sl.lit [a,b]).n→p ((Sl.lit [a,b]).get i))↔p a∧p b:=by
 constructor
 ·intro h
  exact ⟨h 0 (show 0 < 2 by omega),h 1 (show 1 < 2 by omega)⟩
 ·rintro ⟨h1,h2⟩ i hi
  have hi:i < 2:=hi
  match i,hi with
  | 0,_=>exact h1
  | 1,_=>exact h2
theorem anK {p:Int→Prop} (a:Int):(∀ i,i < (Sl.lit [a]).n→p ((Sl.lit [a]).get i))↔p a:=by
 constructor
 ·intro h
  exact h 0 (show 0 < 1 by omega)
 ·intro h1 i hi
  have hi:i < 1:=hi
  match i,hi with
  | 0,_=>exact h1
theorem LS (v:dY):∃ e,oJ v=some e∧(e=0↔ad9 v):=by
 obtain ⟨b,h1,h2⟩:=af5 4096 (Sl.lit [v.x,v.y,v.z]) (show 3≤1000 by omega) (by omega)
 rw [anJ (p:=fun n=>-4096≤n∧n≤4096)] at h2
 unfold oJ zd
 rw [h1]
 cases b with
 | true=>exact ⟨0,rfl,by simpa [ad9,and_assoc] using h2⟩
 | false=>exact ⟨20,rfl,by simp only [Bool.false_eq_true,false_iff] at h2; simp only [ad9]; omega⟩
def SN (s:fX):Prop:=(-131072≤s.x∧s.x≤131072)∧(-131072≤s.y∧s.y≤131072)∧(1≤s.d∧s.d≤65536)∧(0≤s.u∧s.u≤255)∧0≤s.v∧s.v≤255
theorem B6 (s:fX):∃ e,oQ s=some e∧(e=0↔SN s):=by
 obtain ⟨b,h1,h2⟩:=I6 (-131072) 131072 (Sl.lit [s.x,s.y]) (show 2≤1000 by omega)
 rw [amg (p:=fun n=>-131072≤n∧n≤131072)] at h2
 obtain ⟨c,h3,h4⟩:=I6 1 65536 (Sl.lit [s.d]) (show 1≤1000 by omega)
 rw [anK (p:=fun n=>1≤n∧n≤65536)] at h4
 obtain ⟨d,h5,h6⟩:=I6 0 255 (Sl.lit [s.u,s.v]) (show 2≤1000 by omega)
 rw [amg (p:=fun n=>0≤n∧n≤255)] at h6
 unfold oQ xj xk xl
 rw [h1,h3,h5]
 unfold SN
 cases b with
 | false=>exact ⟨8,rfl,by simp only [Bool.false_eq_true,false_iff] at h2; omega⟩
 | true=>
  simp only [true_iff] at h2
  cases c with
  | false=>exact ⟨8,rfl,by simp only [Bool.false_eq_true,false_iff] at h4; omega⟩
  | true=>
   simp only [true_iff] at h4
   cases d with
   | false=>exact ⟨8,rfl,by simp only [Bool.false_eq_true,false_iff] at h6; omega⟩
   | true=>
    simp only [true_iff] at h6
    exact ⟨0,rfl,by simp only [true_iff]; exact ⟨h2.1,h2.2,h4,h6.1,h6.2⟩⟩
def aea (t:bg):Prop:=SN t.e0∧SN t.e1∧SN t.e2
def af6 (t:bg):Int:=(t.e1.x - t.e0.x) * (t.e2.y - t.e0.y) - (t.e2.x - t.e0.x) * (t.e1.y - t.e0.y)
theorem I7 {a b c d:Int} (hc:0≤c) (h1 : -c≤a∧a≤c) (h2 : -d≤b∧b≤d) : -(c * d)≤a * b∧a * b≤c * d:=by
 have hd:0≤d:=by omega
 have h3:a.natAbs * b.natAbs≤c.natAbs * d.natAbs:=Nat.mul_le_mul (by omega) (by omega)
 have h4:(a * b).natAbs=a.natAbs * b.natAbs:=Int.natAbs_mul a b
 have h5:(c * d).natAbs=c.natAbs * d.natAbs:=Int.natAbs_mul c d
 have h6:0≤c * d:=Int.mul_nonneg hc hd
 omega
theorem LU (t:bg):(aea t∧nH t=some (af6 t,0))∨(¬ aea t∧∃ e,nH t=some (0,e)∧e≠0):=by
 obtain ⟨e0,h1,h2⟩:=B6 t.e0
 obtain ⟨e1,h3,h4⟩:=B6 t.e1
 obtain ⟨e2,h5,h6⟩:=B6 t.e2
 unfold nH y9 za zb
 rw [h1,h3,h5]
 unfold aea
 by_cases Ik:e0=0
 ·by_cases M5:e1=0
  ·by_cases BL:e2=0
   ·left
    have g0:=h2.1 Ik; have g1:=h4.1 M5; have g2:=h6.1 BL
    refine ⟨⟨g0,g1,g2⟩,?_⟩
    subst Ik M5 BL
    obtain ⟨a1,a2,_⟩:=g0
    obtain ⟨b1,b2,_⟩:=g1
    obtain ⟨c1,c2,_⟩:=g2
    have m1:=I7 (a:=t.e1.x - t.e0.x) (b:=t.e2.y - t.e0.y) (c:=262144) (d:=262144) (by omega) (by omega) (by omega)
    have m2:=I7 (a:=t.e2.x - t.e0.x) (b:=t.e1.y - t.e0.y) (c:=262144) (d:=262144) (by omega) (by omega) (by omega)
    show some (au (au (au (t.e1.x - t.e0.x) * au (t.e2.y - t.e0.y)) - au (au (t.e2.x - t.e0.x) * au (t.e1.y - t.e0.y))),(0:Int))=some (af6 t,0)
    rw [bx (n:=t.e1.x - t.e0.x) (by omega) (by omega),bx (n:=t.e2.y - t.e0.y) (by omega) (by omega),bx (n:=t.e2.x - t.e0.x) (by omega) (by omega),bx (n:=t.e1.y - t.e0.y) (by omega) (by omega),
     bx (n:=(t.e1.x - t.e0.x) * (t.e2.y - t.e0.y)) (by omega) (by omega),bx (n:=(t.e2.x - t.e0.x) * (t.e1.y - t.e0.y)) (by omega) (by omega)]
    rw [bx (by omega) (by omega)]
    rfl
   ·right
    refine ⟨fun h=>BL (h6.2 h.2.2),e2,?_,BL⟩
    subst Ik M5
    have:(e2 != (0:Int))=true:=by simpa using BL
    simp [this]
  ·right
   refine ⟨fun h=>M5 (h4.2 h.2.1),e1,?_,M5⟩
   subst Ik
   have:(e1 != (0:Int))=true:=by simpa using M5
   simp [this]
 ·right
  refine ⟨fun h=>Ik (h2.2 h.1),e0,?_,Ik⟩
  have:(e0 != (0:Int))=true:=by simpa using Ik
  simp [this]
theorem EW (a b:Int):∃ r,eB a b=some r:=by
 unfold eB
 cases h1:decide (b < 1) with
 | true=>exact ⟨_,rfl⟩
 | false=>
  have h1:=of_decide_eq_false h1
  have h2:decide (b=0)=false:=decide_eq_false (by omega)
  simp only [h2,cond_false,Bool.not_false,cond_true]
  cases decide (Int.tmod a b < 0) <;> exact ⟨_,rfl⟩
end Go.Proofs.Ytahhdndhkgbcjaa.b
end
section
namespace Go.Proofs.Ytahhdndhkgbcjaa.b
open Go.K
def Ve (t:bg):Prop:=aea t∧0 < af6 t
theorem af7 (t:bg):∃ e,pr t=some e∧(e=0↔Ve t):=by
 unfold pr o4 Ve
 rcases LU t with ⟨h1,h2⟩ | ⟨h1,e,h2,h3⟩
 ·rw [h2]
  cases hb:decide (af6 t≤0) with
  | true=>
   have:=of_decide_eq_true hb
   refine ⟨6,by simp [hb],by simp; omega⟩
  | false=>
   have:=of_decide_eq_false hb
   exact ⟨0,by simp [hb],by simp [h1]; omega⟩
 ·rw [h2]
  have:(e==(0:Int))=false:=by simpa using h3
  exact ⟨e,by simp [this],by simp [h1,h3]⟩
def Pix (x y:Int):Prop:=(0≤x∧x < 64)∧0≤y∧y < 64
theorem af8 (x y:Int):∃ b,nT x y=some b∧(b=true↔Pix x y):=by
 unfold nT Pix
 cases hb:decide (min x y ≥ 0) with
 | true=>
  have:=of_decide_eq_true hb
  refine ⟨decide (max x y < 64),rfl,?_⟩
  rw [decide_eq_true_eq]
  omega
 | false=>
  have:=of_decide_eq_false hb
  refine ⟨false,rfl,?_⟩
  simp only [Bool.false_eq_true,false_iff]
  omega
def W0 (t:bg) (p q:Int):Int:=(t.e2.x - t.e1.x) * (q - t.e1.y) - (p - t.e1.x) * (t.e2.y - t.e1.y)
def W1 (t:bg) (p q:Int):Int:=(t.e0.x - t.e2.x) * (q - t.e2.y) - (p - t.e2.x) * (t.e0.y - t.e2.y)
def W2 (t:bg) (p q:Int):Int:=(t.e1.x - t.e0.x) * (q - t.e0.y) - (p - t.e0.x) * (t.e1.y - t.e0.y)
theorem ahm {a b c d p q:Int} (ha : -131072≤a∧a≤131072) (hb : -131072≤b∧b≤131072) (hc : -131072≤c∧c≤131072) (hd : -131072≤d∧d≤131072) (hp:0≤p∧p≤1000) (hq:0≤q∧q≤1000) :
  au (au (au (c - a) * au (q - b)) - au (au (p - a) * au (d - b)))=(c - a) * (q - b) - (p - a) * (d - b):=by
 have m1:=I7 (a:=c - a) (b:=q - b) (c:=262144) (d:=262144) (by omega) (by omega) (by omega)
 have m2:=I7 (a:=p - a) (b:=d - b) (c:=262144) (d:=262144) (by omega) (by omega) (by omega)
 rw [bx (n:=c - a) (by omega) (by omega),bx (n:=q - b) (by omega) (by omega),bx (n:=p - a) (by omega) (by omega),bx (n:=d - b) (by omega) (by omega),bx (n:=(c - a) * (q - b)) (by omega) (by omega),bx (n:=(p - a) * (d - b)) (by omega) (by omega),bx (by omega) (by omega)]
theorem Wr (t:bg) (x y:Int):(Ve t∧Pix x y∧mM t x y=some (⟨W0 t (8 * x+4) (8 * y+4),W1 t (8 * x+4) (8 * y+4),W2 t (8 * x+4) (8 * y+4)⟩,0))∨∃ w e,mM t x y=some (w,e)∧e≠0:=by
 obtain ⟨e,h1,h2⟩:=af7 t
 obtain ⟨b,h3,h4⟩:=af8 x y
 unfold mM vz Ay
 rw [h1,h3]
 by_cases he:e=0
 ·have hf:=h2.1 he
  subst he
  cases b with
  | true=>
   have hp:=h4.1 rfl
   left
   refine ⟨hf,hp,?_⟩
   obtain ⟨hp1,hp2⟩:=hp
   have e2:vA t x y=some (8 * y+4):=by
    show some (au (au (8 * y)+4))=_
    rw [bx (n:=8 * y) (by omega) (by omega),bx (by omega) (by omega)]
   have e3:vB t x y=some (8 * x+4):=by
    show some (au (au (8 * x)+4))=_
    rw [bx (n:=8 * x) (by omega) (by omega),bx (by omega) (by omega)]
   obtain ⟨⟨⟨a1,a2,_⟩,⟨b1,b2,_⟩,c1,c2,_⟩,_⟩:=hf
   rw [e2,e3]
   simp only [Option.isSome_some,cond_true,Option.getD_some,Bool.not_true,cond_false,bne_self_eq_false]
   rw [ahm b1 b2 c1 c2 (by omega) (by omega),ahm c1 c2 a1 a2 (by omega) (by omega),ahm a1 a2 b1 b2 (by omega) (by omega)]
   rfl
  | false=>right; exact ⟨_,2,rfl,by omega⟩
 ·right
  have:(e != (0:Int))=true:=by simpa using he
  simp only [Option.isSome_some,cond_true,Option.getD_some]
  rw [this]
  exact ⟨_,e,rfl,he⟩
def acR (u v w:Int) (r:Option (Bool×Int)):Prop:=r=some (false,0)∨(r=some (true,0)∧0≤u∧0≤v∧0≤w)
theorem acR.ite {u v w:Int} {c:Prop} [Decidable c] {a b:Option (Bool×Int)} (h1:c→acR u v w a) (h2 : ¬ c→acR u v w b):acR u v w (if c then a else b):=by
 by_cases h:c
 ·rw [if_pos h]; exact h1 h
 ·rw [if_neg h]; exact h2 h
theorem aeb (t:bg) (x y:Int):∃ c e,qe t x y=some (c,e)∧(c=true→e=0→Ve t∧Pix x y∧0≤W0 t (8 * x+4) (8 * y+4)∧0≤W1 t (8 * x+4) (8 * y+4)∧0≤W2 t (8 * x+4) (8 * y+4)):=by
 unfold qe ai
 rcases Wr t x y with ⟨h1,h2,h3⟩ | ⟨w,e,h3,h4⟩
 ·rw [h3]
  simp only [Option.isSome_some,cond_true,Option.getD_some,bne_self_eq_false,cond_false]
  generalize W0 t (8 * x+4) (8 * y+4)=u
  generalize W1 t (8 * x+4) (8 * y+4)=v
  generalize W2 t (8 * x+4) (8 * y+4)=w
  simp only [h1,h2,true_and]
  simp only [Bool.cond_eq_ite,Bool.not_eq_true',decide_eq_true_eq,decide_eq_false_iff_not,beq_iff_eq]
  have key:∀ r:Option (Bool×Int),acR u v w r→∃ c e,r=some (c,e)∧(c=true→e=0→0≤u∧0≤v∧0≤w):=by
   rintro r (rfl | ⟨rfl,h⟩)
   ·exact ⟨false,0,rfl,fun h=>by simp at h⟩
   ·exact ⟨true,0,rfl,fun _ _=>h⟩
  apply key
  repeat' (refine acR.ite (fun _=>?_) (fun _=>?_))
  all_goals first | exact .inl rfl | exact .inr ⟨rfl,by omega⟩
 ·rw [h3]
  have:(e != (0:Int))=true:=by simpa using h4
  exact ⟨false,e,by simp [this],fun h=>by simp at h⟩
theorem akT (a b c d e f x y:Int):((e-c)*(y-d)-(x-c)*(f-d))+((a-e)*(y-f)-(x-e)*(b-f))+((c-a)*(y-b)-(x-a)*(d-b))=(c-a)*(f-b)-(e-a)*(d-b):=by grind
theorem amM (a b c d e f x y:Int):((e-c)*(y-d)-(x-c)*(f-d))*(a-x)+((a-e)*(y-f)-(x-e)*(b-f))*(c-x)+((c-a)*(y-b)-(x-a)*(d-b))*(e-x)=0:=by grind
theorem amN (a b c d e f x y:Int):((e-c)*(y-d)-(x-c)*(f-d))*(b-y)+((a-e)*(y-f)-(x-e)*(b-f))*(d-y)+((c-a)*(y-b)-(x-a)*(d-b))*(f-y)=0:=by grind
theorem aa0 (p q r u v w:Int) (hp:0≤p) (hq:0≤q) (hr:0≤r) (hs:0 < p+q+r) (h:p * u+q * v+r * w=0):u≤0∨v≤0∨w≤0:=by
 by_cases h1:u≤0
 ·exact .inl h1
 by_cases h2:v≤0
 ·exact .inr (.inl h2)
 by_cases h3:w≤0
 ·exact .inr (.inr h3)
 exfalso
 have a1:p * 1≤p * u:=Int.mul_le_mul_of_nonneg_left (by omega) hp
 have a2:q * 1≤q * v:=Int.mul_le_mul_of_nonneg_left (by omega) hq
 have a3:r * 1≤r * w:=Int.mul_le_mul_of_nonneg_left (by omega) hr
 omega
theorem af9 (p q r u v w:Int) (hp:0≤p) (hq:0≤q) (hr:0≤r) (hs:0 < p+q+r) (h:p * u+q * v+r * w=0):0≤u∨0≤v∨0≤w:=by
 have:=aa0 p q r (-u) (-v) (-w) hp hq hr hs (by rw [Int.mul_neg,Int.mul_neg,Int.mul_neg]; omega)
 omega
theorem between (t:bg) (p q:Int) (hf:Ve t) (h0:0≤W0 t p q) (h1:0≤W1 t p q) (h2:0≤W2 t p q) :
  (min (min t.e0.x t.e1.x) t.e2.x≤p∧p≤max (max t.e0.x t.e1.x) t.e2.x)∧min (min t.e0.y t.e1.y) t.e2.y≤q∧q≤max (max t.e0.y t.e1.y) t.e2.y:=by
 have hs:0 < W0 t p q+W1 t p q+W2 t p q:=by
  have:=akT t.e0.x t.e0.y t.e1.x t.e1.y t.e2.x t.e2.y p q
  have h:=hf.2
  unfold af6 at h
  unfold W0 W1 W2
  omega
 have hx:=amM t.e0.x t.e0.y t.e1.x t.e1.y t.e2.x t.e2.y p q
 have hy:=amN t.e0.x t.e0.y t.e1.x t.e1.y t.e2.x t.e2.y p q
 have a1:=aa0 _ _ _ _ _ _ h0 h1 h2 hs hx
 have a2:=af9 _ _ _ _ _ _ h0 h1 h2 hs hx
 have a3:=aa0 _ _ _ _ _ _ h0 h1 h2 hs hy
 have a4:=af9 _ _ _ _ _ _ h0 h1 h2 hs hy
 omega
theorem aga (t:bg) (x y:Int):∃ s e,nU t x y=some (s,e)∧(e=0→Ve t∧Pix x y∧0≤W0 t (8 * x+4) (8 * y+4)∧0≤W1 t (8 * x+4) (8 * y+4)∧0≤W2 t (8 * x+4) (8 * y+4)):=by
 obtain ⟨c,e,h1,h2⟩:=aeb t x y
 have hE:∃ w e,mM t x y=some (w,e):=by
  rcases Wr t x y with ⟨_,_,h⟩ | ⟨w,e,h,_⟩
  ·exact ⟨_,_,h⟩
  ·exact ⟨_,_,h⟩
 obtain ⟨w,e',h3⟩:=hE
 unfold nU
 have e0:wZ t x y=some (c,e):=h1
 have e1:dU t x y=some (w,e'):=h3
 rw [e0,e1]
 simp only [Option.isSome_some,cond_true,Option.getD_some]
 by_cases he:e=0
 ·subst he
  cases c with
  | true=>
   simp only [bne_self_eq_false,cond_false,Bool.not_true]
   obtain ⟨r2,g2⟩:∃ r,FL t x y=some r:=EW _ _
   obtain ⟨r3,g3⟩:∃ r,FM t x y=some r:=EW _ _
   obtain ⟨r4,g4⟩:∃ r,FN t x y=some r:=EW _ _
   rw [g2,g3,g4]
   cases hb:(e' != (0:Int)) with
   | true=>exact ⟨_,_,rfl,fun _=>h2 rfl rfl⟩
   | false=>exact ⟨_,_,rfl,fun _=>h2 rfl rfl⟩
  | false=>exact ⟨_,6,rfl,fun h=>by omega⟩
 ·have:(e != (0:Int))=true:=by simpa using he
  rw [this]
  exact ⟨_,e,rfl,fun h=>absurd h he⟩
end Go.Proofs.Ytahhdndhkgbcjaa.b
end
section
namespace Go.Proofs.Ytahhdndhkgbcjaa.b
open Go.K
open Go.aE (ak)
theorem kL {α:Type} {c:Bool} {a b:Option α} (ha:c=true→a.isSome=true) (hb:c=false→b.isSome=true):(cond c a b).isSome=true:=by
 cases c with
 | true=>exact ha rfl
 | false=>exact hb rfl
theorem amO {α:Type} {a:Option α} (h:∃ r,a=some r):a.isSome=true:=by obtain ⟨r,h⟩:=h; rw [h]; rfl
theorem PT {α:Type} {a:Option α} (h:a.isSome=true):∃ r,a=some r:=Option.isSome_iff_exists.1 h
theorem FU (p:bX):(lu p).isSome=true:=by
 unfold lu
 repeat' (refine kL (fun _=>?_) (fun _=>?_))
 all_goals rfl
theorem ai7 (aO:Int) (l:Sl bX) (hn:l.n≤1000):(tF aO l).isSome=true:=by
 obtain ⟨e,x',h1,h2⟩:=dp (step:=kP) (x:=⟨0,l,((l.n:Nat):Int),(0:Int)⟩)
  (fun j x=>x=⟨0,l,((l.n:Nat):Int),(j:Int)⟩∧j≤l.n)
  (fun e _=>e = .exit 0∨e = .ret) l.n (by have:mm=1000000000000:=rfl; omega)
  (fun j x hj ⟨hx,hle⟩=>by
   subst hx
   unfold kP
   by_cases bV:j < l.n
   ·have e1:decide ((j:Int) < ((l.n:Nat):Int))=true:=decide_eq_true (by omega)
    have e2:decide ((0:Int)≤(j:Int))=true:=decide_eq_true (by omega)
    obtain ⟨r,hr⟩:=PT (FU (l.get j))
    have e3:sP ⟨0,l,((l.n:Nat):Int),(j:Int)⟩=some r:=hr
    simp only [e1,e2,e3,cond_true,Bool.and_self,Option.isSome_some,Option.getD_some]
    cases (r != (0:Int)) with
    | true=>right; exact ⟨_,_,rfl,rfl,.inr rfl⟩
    | false=>
     left
     refine ⟨_,rfl,by omega,?_,by omega⟩
     rw [bx (by omega) (by omega)]; rfl
   ·have e1:decide ((j:Int) < ((l.n:Nat):Int))=false:=decide_eq_false (by omega)
    simp only [e1,cond_false]
    right
    exact ⟨_,_,rfl,rfl,.inl rfl⟩)
  ⟨rfl,by omega⟩
 have h0:xn aO l = .out e x':=h1
 unfold tF
 rw [h0,aI.jR,aI.jR,aI.kA]
 refine kL (fun _=>rfl) (fun _=>kL (fun _=>rfl) (fun _=>?_))
 rcases h2 with rfl | rfl <;> rfl
theorem vM (a b:Int):(eB a b).isSome=true:=amO (EW a b)
theorem alN (aO:Int) (a b:bX):(eM aO a b).isSome=true:=by
 have e0:(wY aO a b).isSome=true:=ai7 _ _ (show 2≤1000 by omega)
 have e1:(FG aO a b).isSome=true:=vM _ _
 have e2:(FH aO a b).isSome=true:=vM _ _
 have e3:(FJ aO a b).isSome=true:=vM _ _
 have e4:(FK aO a b).isSome=true:=vM _ _
 unfold eM
 simp only [e0,e1,e2,e3,e4,cond_true]
 repeat' (refine kL (fun _=>?_) (fun _=>?_))
 all_goals rfl
theorem akU (m:gN):(yo m).isSome=true:=by
 unfold yo
 repeat' (refine kL (fun _=>?_) (fun _=>?_))
 all_goals rfl
theorem akV (m:gN) (v:eL):(yp m v).isSome=true:=by
 have e0:(FC m v).isSome=true:=vM _ _
 have e1:(FD m v).isSome=true:=vM _ _
 have e2:(FE m v).isSome=true:=vM _ _
 unfold yp
 simp only [e0,e1,e2,cond_true]
 rfl
theorem amP (mL:Int) (l:Sl Int) (hn:l.n≤1000) (hm:0≤mL∧mL≤1000000):(ym mL l).isSome=true:=by
 obtain ⟨b,h,_⟩:=af5 mL l hn hm
 rw [h]; rfl
theorem akW (m:gN) (v:dY):(yq m v).isSome=true:=by
 have e0:(FF m v).isSome=true:=akU _
 have e1:(A7 m v).isSome=true:=amP _ _ (show 3≤1000 by omega) (by omega)
 have e2:(wX m v).isSome=true:=akV _ _
 unfold yq
 simp only [e0,e1,e2,cond_true]
 repeat' (refine kL (fun _=>?_) (fun _=>?_))
 all_goals rfl
theorem SP (v:dY):(oJ v).isSome=true:=by obtain ⟨e,h,_⟩:=LS v; rw [h]; rfl
theorem ahn (n a b:Int):dK n a b=some (decide (a≤n∧n≤b)):=by
 unfold dK
 by_cases h:n ≥ a
 ·simp only [decide_eq_true h,cond_true]
  congr 1
  by_cases h2:n≤b
  ·rw [decide_eq_true h2,decide_eq_true ⟨h,h2⟩]
  ·rw [decide_eq_false h2,decide_eq_false (fun q=>h2 q.2)]
 ·simp only [decide_eq_false h,cond_false]
  rw [decide_eq_false (fun q=>h q.1)]
def PU (c:aP):Prop:=ad9 c.pos∧(1≤c.UH∧c.UH≤64)∧(256≤c.aO∧c.aO≤4096)∧(1≤c.w∧c.w≤64)∧1≤c.h∧c.h≤64
theorem qH (c:aP):∃ e,kf c=some e∧(e=0→PU c):=by
 obtain ⟨e,h1,h2⟩:=LS c.pos
 unfold kf ze zf zg zh zi zj zk zl zm zn xK xL xM xN
 simp only [ahn,h1,Option.isSome_some,Option.getD_some,cond_true]
 have key:∀ (b:Bool) (r:Option Int),(b=true→∃ e,r=some e∧(e=0→PU c))→∃ e,cond b r (some 150)=some e∧(e=0→PU c):=by
  intro b r h
  cases b with
  | true=>exact h rfl
  | false=>exact ⟨150,rfl,fun h=>by omega⟩
 refine key _ _ fun g0=>key _ _ fun g1=>key _ _ fun g2=>key _ _ fun g3=>key _ _ fun g4=>?_
 have b9:PU c:=by
  simp only [decide_eq_true_eq] at g1 g2 g3 g4
  exact ⟨h2.1 (by simpa using g0),g1,g2,g3,g4⟩
 repeat' (refine key _ _ fun _=>?_)
 cases (!decide (-256≤c.m.e2.e2∧c.m.e2.e2≤256)) with
 | true=>exact ⟨150,rfl,fun h=>by omega⟩
 | false=>exact ⟨0,rfl,fun _=>b9⟩
theorem Xx (c:aP):(kf c).isSome=true:=by obtain ⟨e,h,_⟩:=qH c; rw [h]; rfl
theorem aa1 (c:aP) (v:dY):(nS c v).isSome=true:=by
 have e0:(vv c v).isSome=true:=Xx _
 have e1:(vw c v).isSome=true:=SP _
 have e2:(vx c v).isSome=true:=akW _ _
 unfold nS
 simp only [e0,e1,e2,cond_true]
 repeat' (refine kL (fun _=>?_) (fun _=>?_))
 all_goals rfl
theorem agb (t:bg):(nH t).isSome=true:=by
 rcases LU t with ⟨_,h⟩ | ⟨_,e,h,_⟩ <;> rw [h] <;> rfl
theorem ai8 (t:bg) (k:Int):(tD t k).isSome=true:=by
 have e0:(og t k).isSome=true:=agb t
 unfold tD
 simp only [e0,cond_true]
 repeat' (refine kL (fun _=>?_) (fun _=>?_))
 all_goals rfl
theorem ai9 (t:bg):(tE t).isSome=true:=by
 have e0:(qd t).isSome=true:=agb t
 unfold tE
 simp only [e0,cond_true]
 repeat' (refine kL (fun _=>?_) (fun _=>?_))
 all_goals rfl
end Go.Proofs.Ytahhdndhkgbcjaa.b
end
section
namespace Go.Proofs.Ytahhdndhkgbcjaa.b
open Go.K
open Go.aE (ak)
theorem DS {b n m:Nat} (hb:b≤1000) (hn:n≤1000000) (hm:0 < m∧m≤1000):fe b n m=true:=I5 (by omega) (by omega) (by omega) (.inl hm.1)
def NQ (j:Nat) (x:aA) (r:aI aA):Prop:=∃ x',r = .next x'∧x'.t23=((j+1:Nat):Int)∧x'.l.n≤x.l.n+2∧x'.out=x.out∧x'.aO=x.aO
theorem NQ.cond {j:Nat} {x:aA} {c:Bool} {a b:aI aA} (h1:c=true→NQ j x a) (h2:c=false→NQ j x b):NQ j x (_root_.cond c a b):=by
 cases c with
 | true=>exact h1 rfl
 | false=>exact h2 rfl
theorem aho (j:Nat) (hj:j < 3) (x:aA) (hx:x.t23=(j:Int)) (hl:x.l.n≤10):NQ j x (ij x):=by
 have c:∀ (aO:Int) (a b:bX),(eM aO a b).isSome=true:=alN
 have e0:(xP x).isSome=true:=c _ _ _
 have e1:(xQ x).isSome=true:=c _ _ _
 have e2:(xR x).isSome=true:=c _ _ _
 have e3:(xS x).isSome=true:=c _ _ _
 have e4:(xT x).isSome=true:=c _ _ _
 have e5:(xU x).isSome=true:=c _ _ _
 have e6:(xV x).isSome=true:=c _ _ _
 have e7:(xW x).isSome=true:=c _ _ _
 have e8:(xX x).isSome=true:=c _ _ _
 have e9:(xY x).isSome=true:=c _ _ _
 have e10:(wi x).isSome=true:=c _ _ _
 have e11:(wj x).isSome=true:=c _ _ _
 have e12:(wk x).isSome=true:=c _ _ _
 have e13:(wm x).isSome=true:=c _ _ _
 have e14:(wo x).isSome=true:=c _ _ _
 have e15:(wq x).isSome=true:=c _ _ _
 have e16:(wu x).isSome=true:=c _ _ _
 have e17:(wx x).isSome=true:=c _ _ _
 have a1:fe 40 x.l.n 1=true:=DS (by omega) (by omega) (by omega)
 have a2:fe 40 (x.l.n+1) 1=true:=DS (by omega) (by omega) (by omega)
 have hw:au ((j:Int)+1)=((j+1:Nat):Int):=by rw [bx (by omega) (by omega)]; rfl
 unfold ij
 simp only [e0,e1,e2,e3,e4,e5,e6,e7,e8,e9,e10,e11,e12,e13,e14,e15,e16,e17,a1,a2,aZ,cond_true,Bool.and_self,hx,hw]
 match j,hj with
 | 0,_=>
  have d1:decide (((0:Nat):Int) < 3)=true:=by decide
  have d2:decide (((0:Nat):Int)=0)=true:=by decide
  have d3:decide (Int.tmod ((0+1:Nat):Int) 3=0)=false:=by decide
  have d4:decide (Int.tmod ((0+1:Nat):Int) 3=1)=true:=by decide
  simp only [d1,d2,d3,d4,cond_true,cond_false]
  repeat' (refine NQ.cond (fun _=>?_) (fun _=>?_))
  all_goals exact ⟨_,rfl,rfl,by first | (simp only [Sl.CN]; omega) | omega,rfl,rfl⟩
 | 1,_=>
  have d1:decide (((1:Nat):Int) < 3)=true:=by decide
  have d2:decide (((1:Nat):Int)=0)=false:=by decide
  have d5:decide (((1:Nat):Int)=1)=true:=by decide
  have d3:decide (Int.tmod ((1+1:Nat):Int) 3=0)=false:=by decide
  have d4:decide (Int.tmod ((1+1:Nat):Int) 3=1)=false:=by decide
  have d6:decide (Int.tmod ((1+1:Nat):Int) 3=2)=true:=by decide
  simp only [d1,d2,d3,d4,d5,d6,cond_true,cond_false]
  repeat' (refine NQ.cond (fun _=>?_) (fun _=>?_))
  all_goals exact ⟨_,rfl,rfl,by first | (simp only [Sl.CN]; omega) | omega,rfl,rfl⟩
 | 2,_=>
  have d1:decide (((2:Nat):Int) < 3)=true:=by decide
  have d2:decide (((2:Nat):Int)=0)=false:=by decide
  have d5:decide (((2:Nat):Int)=1)=false:=by decide
  have d7:decide (((2:Nat):Int)=2)=true:=by decide
  have d3:decide (Int.tmod ((2+1:Nat):Int) 3=0)=true:=by decide
  simp only [d1,d2,d3,d5,d7,cond_true,cond_false]
  repeat' (refine NQ.cond (fun _=>?_) (fun _=>?_))
  all_goals exact ⟨_,rfl,rfl,by first | (simp only [Sl.CN]; omega) | omega,rfl,rfl⟩
theorem acS (aO:Int) (t:dL):∃ x',cN aO t = .out (.exit 0) x'∧x'.l.n≤6∧x'.out.n=0:=by
 have key:∀ x:aA,_→_:=fun x h0=>dp (x:=x) (h0:=h0) (step:=ij) (fun j x=>x.t23=(j:Int)∧x.l.n≤2 * j∧x.out.n=0) (fun e x=>e = .exit 0∧x.l.n≤6∧x.out.n=0) 3 (by decide)
  (fun j x hj ⟨hx,hl,ho⟩=>by
   by_cases h:j < 3
   ·obtain ⟨x',h1,h2,h3,h4,_⟩:=aho j h x hx (by omega)
    exact .inl ⟨x',h1,h,h2,by omega,by rw [h4]; exact ho⟩
   ·have h3:j=3:=by omega
    subst h3
    refine .inr ⟨.exit 0,x,?_,rfl,rfl,by omega,ho⟩
    unfold ij
    simp only [hx,aZ,cond_true,show decide (((3:Nat):Int) < 3)=false from by decide,cond_false])
 have fin:∃ e x',cN aO t = .out e x'∧(e = .exit 0∧x'.l.n≤6∧x'.out.n=0):=by
  unfold cN
  exact key _ ⟨rfl,Nat.le_refl _,rfl⟩
 obtain ⟨e,x',h1,rfl,h2,h3⟩:=fin
 exact ⟨x',h1,h2,h3⟩
theorem aja (aO:Int) (t:dL):∃ x',iz aO t = .out (.exit 2) x'∧x'.out.n≤6:=by
 obtain ⟨y,hy,hl,ho⟩:=acS aO t
 have key:∀ x:iy,_→_:=fun x h0=>dp (x:=x) (h0:=h0) (step:=kQ) (fun j x=>x.i=((2+j:Nat):Int)∧x.l.n≤6∧x.out.n=j∧(x.i≤(x.l.n:Int)∨j=0)) (fun e x=>e = .exit 2∧x.out.n≤6) 6 (by decide)
  (fun j x hj ⟨hx,hl,ho,hi⟩=>by
   unfold kQ
   by_cases h:x.i < ((x.l.n:Nat):Int)
   ·have w1:au (x.i - 1)=x.i - 1:=bx (by omega) (by omega)
    have w2:au (x.i+1)=x.i+1:=bx (by omega) (by omega)
    have a1:fe 120 x.out.n 1=true:=DS (by omega) (by omega) (by omega)
    refine .inl ⟨⟨(x.out.push (⟨(x.l.get 0),(x.l.get (Int.toNat (au (x.i - (1:Int))))),(x.l.get (Int.toNat x.i))⟩:dL)),x.l,(au (x.i+(1:Int)))⟩,?_,by omega,?_,hl,?_,?_⟩
    ·simp only [w1,w2,a1,aZ,cond_true,Bool.and_self,decide_eq_true h,decide_eq_true (show (0:Int) < ((x.l.n:Nat):Int) by omega),decide_eq_true (show (0:Int)≤x.i - 1 by omega),decide_eq_true (show x.i - 1 < ((x.l.n:Nat):Int) by omega),decide_eq_true (show (0:Int)≤x.i by omega)]
    ·show au (x.i+1)=_
     omega
    ·simp only [Sl.CN]; omega
    ·exact .inl (by show au (x.i+1)≤((x.l.n:Nat):Int); omega)
   ·refine .inr ⟨.exit 2,x,?_,rfl,rfl,by omega⟩
    simp only [aZ,cond_true,cond_false,decide_eq_false h])
 have fin:∃ e x',iz aO t = .out e x'∧(e = .exit 2∧x'.out.n≤6):=by
  unfold iz
  rw [hy]
  exact key _ ⟨rfl,hl,ho,.inr rfl⟩
 obtain ⟨e,x',h1,rfl,h2⟩:=fin
 exact ⟨x',h1,h2⟩
theorem akX (aO:Int) (t:dL):∃ r,vD aO t=some r∧r.1.n≤6:=by
 obtain ⟨y,hy,hl,ho⟩:=acS aO t
 obtain ⟨z,hz,hn⟩:=aja aO t
 have c:∀ (p:bX),(lu p).isSome=true:=FU
 have e0:(uW aO t).isSome=true:=c _
 have e3:(uX aO t).isSome=true:=c _
 have e4:(uY aO t).isSome=true:=c _
 unfold vD
 have b1:(cN aO t).by (.exit 0)=true:=by rw [hy]; rfl
 have b2:(iz aO t).by (.exit 2)=true:=by rw [hz]; rfl
 have s2:(iz aO t).st=z:=by rw [hz]; rfl
 simp only [e0,e3,e4,b1,b2,s2,aZ,cond_true]
 have q:∀ {c:Bool} {a b:Option (Sl dL×Int)},(∃ r,a=some r∧r.1.n≤6)→(∃ r,b=some r∧r.1.n≤6)→∃ r,_root_.cond c a b=some r∧r.1.n≤6:=fun {c} {a} {b} h1 h2=>by
  cases c with
  | true=>exact h1
  | false=>exact h2
 repeat' (refine q ?_ ?_)
 all_goals first | exact ⟨_,rfl,Nat.zero_le _⟩ | exact ⟨(z.out,0),rfl,hn⟩
end Go.Proofs.Ytahhdndhkgbcjaa.b
end
section
namespace Go.Proofs.Ytahhdndhkgbcjaa.b
open Go.K
open Go.aE (ak)
theorem Vf (c:aP) (p:bX):(oS c p).isSome=true:=by
 obtain ⟨e,h1,h2⟩:=qH c
 have e0:xo c p=some e:=h1
 have e1:(xp c p).isSome=true:=FU _
 have e2:(BZ c p).isSome=true:=vM _ _
 have e3:(B4 c p).isSome=true:=vM _ _
 unfold oS
 simp only [e0,e1,e2,e3,cond_true,Option.isSome_some,Option.getD_some]
 refine kL (fun _=>rfl) (fun he=>kL (fun _=>rfl) (fun _=>kL (fun _=>rfl) (fun hz=>?_)))
 have Dd:e=0:=by simpa using he
 obtain ⟨_,_,hn,_⟩:=h2 Dd
 have hz' : ¬ p.p.z < c.aO:=of_decide_eq_false hz
 have q:decide (p.p.z=(0:Int))=false:=decide_eq_false (by omega)
 rw [q]
 rfl
def JV (x:Item):Prop:=x.uV.n=x.gJ.n∧∀ i,i < x.fS.n→(0≤(x.fS.get i).e0∧(x.fS.get i).e0 < (x.gJ.n:Int))∧(0≤(x.fS.get i).e1∧(x.fS.get i).e1 < (x.gJ.n:Int))∧0≤(x.fS.get i).e2∧(x.fS.get i).e2 < (x.gJ.n:Int)
theorem ahp (x:dn) (h0:x.t74=0) (h1:x.t73=(x.t72.n:Int)) (h2:x.t72.n≤6) (h3:x.out.n=0):∃ x',goN ib x = .out (.exit 2) x'∧x'.out.n≤6:=by
 have key:=dp (step:=ib) (x:=x) (fun j x=>x.t74=(j:Int)∧x.t73=(x.t72.n:Int)∧x.t72.n≤6∧x.out.n≤j∧j≤x.t72.n) (fun e x=>e = .exit 2∧x.out.n≤6) 6 (by decide)
  (fun j x hj ⟨hx,ht,hn,ho,hjn⟩=>by
   have e0:(qA x).isSome=true:=Vf _ _
   have e1:(qB x).isSome=true:=Vf _ _
   have e2:(qC x).isSome=true:=Vf _ _
   have e3:(qD x).isSome=true:=ai8 _ _
   have e4:(u4 x).isSome=true:=ai9 _
   have w1:au (x.t74+1)=x.t74+1:=bx (by omega) (by omega)
   have a1:fe 120 x.out.n 1=true:=DS (by omega) (by omega) (by omega)
   unfold ib
   by_cases h:x.t74 < x.t73
   ·simp only [e0,e1,e2,e3,e4,w1,a1,aZ,cond_true,Bool.and_self,decide_eq_true h,decide_eq_true (show (0:Int)≤x.t74 by omega),decide_eq_true (show x.t74 < ((x.t72.n:Nat):Int) by omega)]
    left
    cases ((qD x).getD default).fst with
    | true=>exact ⟨_,rfl,by omega,by show x.t74+1=_; omega,ht,hn,by simp only [Sl.CN]; omega,by show j+1≤x.t72.n; omega⟩
    | false=>exact ⟨_,rfl,by omega,by show x.t74+1=_; omega,ht,hn,by show x.out.n≤_; omega,by show j+1≤x.t72.n; omega⟩
   ·simp only [aZ,cond_true,cond_false,decide_eq_false h]
    exact .inr ⟨_,_,rfl,rfl,rfl,by omega⟩)
  ⟨h0,h1,h2,by omega,Nat.zero_le _⟩
 obtain ⟨e,x',h1,rfl,h2⟩:=key
 exact ⟨x',h1,h2⟩
theorem agc (s:Show) (c:aP) (i j:Nat) (hi:i < s.items.n) (hj:j < (s.items.get i).fS.n) (ok:JV (s.items.get i)):∃ r,lx s c (i:Int) (j:Int)=some r∧r.n≤6:=by
 obtain ⟨hu,hv⟩:=ok
 obtain ⟨⟨v1,v2⟩,⟨v3,v4⟩,v5,v6⟩:=hv j hj
 have e0:(o5 s c i j).isSome=true:=aa1 _ _
 have e1:(o6 s c i j).isSome=true:=aa1 _ _
 have e2:(o7 s c i j).isSome=true:=aa1 _ _
 obtain ⟨r,hr,hn⟩:∃ r,nv s c i j=some r∧r.1.n≤6:=akX _ _
 obtain ⟨z,hz,Ii⟩:∃ x',kz s c i j = .out (.exit 2) x'∧x'.out.n≤6:=by
  unfold kz
  rw [hr]
  exact ahp _ rfl rfl hn rfl
 have b1:(kz s c i j).by (.exit 2)=true:=by rw [hz]; rfl
 have b2:(kz s c i j).st=z:=by rw [hz]; rfl
 refine ⟨z.out,?_,Ii⟩
 unfold lx
 simp only [e0,e1,e2,hr,b1,b2,hu,Int.toNat_natCast,Option.isSome_some,cond_true,Bool.and_self,decide_eq_true v1,decide_eq_true v2,decide_eq_true v3,decide_eq_true v4,decide_eq_true v5,decide_eq_true v6,decide_eq_true (show (0:Int)≤(i:Int) by omega),decide_eq_true (show (0:Int)≤(j:Int) by omega),decide_eq_true (show (i:Int) < ((s.items.n:Nat):Int) by omega),decide_eq_true (show (j:Int) < (((s.items.get i).fS.n:Nat):Int) by omega)]
end Go.Proofs.Ytahhdndhkgbcjaa.b
end
section
namespace Go.Proofs.Ytahhdndhkgbcjaa.b
open Go.K
open Go.aE (ak)
theorem Vg (n:Int):(yr n).isSome=true:=by
 unfold yr
 exact kL (fun _=>rfl) (fun _=>rfl)
theorem alO (l:Sl dY) (hn:l.n≤4096):∃ e x',gF l = .out e x'∧(e = .ret∨e = .exit 0∧x'.l=l):=by
 unfold gF
 refine dp (step:=oi) (fun j x=>x.l=l∧x.t17=l∧x.t18=(l.n:Int)∧x.t19=(j:Int)∧j≤l.n) (fun e x'=>e = .ret∨e = .exit 0∧x'.l=l) l.n (by have:mm=1000000000000:=rfl; omega) (fun j x hj ⟨h1,h2,h3,h4,h5⟩=>?_) ⟨rfl,rfl,rfl,rfl,Nat.zero_le _⟩
 have e0:(zq x).isSome=true:=Vg _
 have e1:(zr x).isSome=true:=Vg _
 have e2:(zt x).isSome=true:=Vg _
 have w1:au (x.t19+1)=x.t19+1:=bx (by omega) (by omega)
 unfold oi
 by_cases h:x.t19 < x.t18
 ·simp only [e0,e1,e2,w1,cond_true,Bool.and_self,decide_eq_true h,decide_eq_true (show (0:Int)≤x.t19 by omega),decide_eq_true (show x.t19 < ((x.t17.n:Nat):Int) by rw [h2]; omega)]
  cases (!((zq x).getD default)) with
  | true=>exact .inr ⟨_,_,rfl,rfl,.inl rfl⟩
  | false=>
   cases (!((zr x).getD default)) with
   | true=>exact .inr ⟨_,_,rfl,rfl,.inl rfl⟩
   | false=>
    cases (!((zt x).getD default)) with
    | true=>exact .inr ⟨_,_,rfl,rfl,.inl rfl⟩
    | false=>exact .inl ⟨_,rfl,by omega,h1,h2,h3,by show x.t19+1=_; omega,by omega⟩
 ·simp only [cond_false,decide_eq_false h]
  exact .inr ⟨_,_,rfl,rfl,.inr ⟨rfl,h1⟩⟩
theorem akY (x:lv) (hn:x.t49.n≤4096) (h0:x.t50=(x.t49.n:Int)) (h1:x.t51=0):∃ x',goN l8 x = .out (.exit 2) x':=by
 obtain ⟨e,x',h,rfl⟩:=dp (step:=l8) (x:=x) (fun j y=>y.t49=x.t49∧y.t50=(x.t49.n:Int)∧y.t51=(j:Int)∧j≤x.t49.n) (fun e _=>e = .exit 2) x.t49.n (by have:mm=1000000000000:=rfl; omega) (fun j y hj ⟨h2,h3,h4,h5⟩=>by
  have w1:au (y.t51+1)=y.t51+1:=bx (by omega) (by omega)
  unfold l8
  by_cases h:y.t51 < y.t50
  ·simp only [w1,cond_true,Bool.and_self,decide_eq_true h,decide_eq_true (show (0:Int)≤y.t51 by omega),decide_eq_true (show y.t51 < ((y.t49.n:Nat):Int) by rw [h2]; omega)]
   exact .inl ⟨_,rfl,by omega,h2,h3,by show y.t51+1=_; omega,by omega⟩
  ·simp only [cond_false,decide_eq_false h]
   exact .inr ⟨_,_,rfl,rfl,rfl⟩) ⟨rfl,h0,h1,Nat.zero_le _⟩
 exact ⟨x',h⟩
theorem ajb (l:Sl dY):(CZ l).isSome=true:=by
 unfold CZ
 refine kL (fun _=>rfl) (fun h0=>kL (fun _=>rfl) (fun h1=>?_))
 have hz:l.n≠0:=fun h=>by
  rw [h] at h0
  exact absurd h0 (by decide)
 have hn:l.n≤4096:=by
  have:=of_decide_eq_false h1
  omega
 obtain ⟨e,x',hx,h⟩:=alO l hn
 rcases h with rfl | ⟨rfl,hl⟩
 ·have b1:(gF l).by (.exit 0)=false:=by rw [hx]; rfl
  have b2:(gF l).by .ret=true:=by rw [hx]; rfl
  simp only [b1,b2,cond_true,cond_false]
  rfl
 ·have b1:(gF l).by (.exit 0)=true:=by rw [hx]; rfl
  have b2:(gF l).st.l=l:=by rw [hx]; exact hl
  obtain ⟨y,hy⟩:∃ y,Bv l = .out (.exit 2) y:=by
   unfold Bv
   simp only [b2]
   exact akY _ (by show Int.toNat _ - 1≤4096; omega) rfl rfl
  have b3:(Bv l).by (.exit 2)=true:=by rw [hy]; rfl
  simp only [b1,b2,b3,cond_true,Bool.and_self,decide_eq_true (show (0:Int) < ((l.n:Nat):Int) by omega),decide_eq_true (show (1:Int)≤((l.n:Nat):Int) by omega),decide_eq_true (show ((l.n:Nat):Int)≤((l.n:Nat):Int) by omega)]
  rfl
theorem SQ (n:Int):(lH n).isSome=true:=by
 unfold lH
 exact kL (fun _=>rfl) (fun _=>rfl)
theorem SR (t:ek):(gg t).isSome=true:=by
 have e0:(sQ t).isSome=true:=SQ _
 have e1:(sR t).isSome=true:=SQ _
 unfold gg
 simp only [e0,e1,cond_true]
 repeat' (refine kL (fun _=>?_) (fun _=>?_))
 all_goals rfl
theorem Oz (l:Sl ek):(gk l).isSome=true:=by
 unfold gk
 refine kL (fun _=>rfl) (fun h0=>?_)
 have hn:l.n≤16:=by
  have:=of_decide_eq_false h0
  omega
 obtain ⟨e,x',h1,h2⟩:∃ e x',eE l = .out e x'∧(e = .ret∨e = .exit 0):=by
  unfold eE
  refine dp (step:=fC) (fun j x=>x.t9=l∧x.t10=(l.n:Int)∧x.t11=(j:Int)∧j≤l.n) (fun e _=>e = .ret∨e = .exit 0) l.n (by have:mm=1000000000000:=rfl; omega) (fun j x hj ⟨h2,h3,h4,h5⟩=>?_) ⟨rfl,rfl,rfl,Nat.zero_le _⟩
  have e0:(ky x).isSome=true:=SR _
  have w1:au (x.t11+1)=x.t11+1:=bx (by omega) (by omega)
  unfold fC
  by_cases h:x.t11 < x.t10
  ·simp only [e0,w1,cond_true,Bool.and_self,decide_eq_true h,decide_eq_true (show (0:Int)≤x.t11 by omega),decide_eq_true (show x.t11 < ((x.t9.n:Nat):Int) by rw [h2]; omega)]
   cases (((ky x).getD default) != (0:Int)) with
   | true=>exact .inr ⟨_,_,rfl,rfl,.inl rfl⟩
   | false=>exact .inl ⟨_,rfl,by omega,h2,h3,by show x.t11+1=_; omega,by omega⟩
  ·simp only [cond_false,decide_eq_false h]
   exact .inr ⟨_,_,rfl,rfl,.inr rfl⟩
 rcases h2 with rfl | rfl
 ·have b1:(eE l).by (.exit 0)=false:=by rw [h1]; rfl
  have b2:(eE l).by .ret=true:=by rw [h1]; rfl
  simp only [b1,b2,cond_true,cond_false]
  rfl
 ·have b1:(eE l).by (.exit 0)=true:=by rw [h1]; rfl
  simp only [b1,cond_true]
  rfl
theorem agd (l:tt) (t:Int):(fJ l t).isSome=true:=by
 unfold fJ
 repeat' (refine kL (fun _=>?_) (fun _=>?_))
 all_goals rfl
end Go.Proofs.Ytahhdndhkgbcjaa.b
end
section
namespace Go.Proofs.Ytahhdndhkgbcjaa.b
open Go.K
open Go.aE (ak)
theorem akZ (x:Item) (t:Int) (hn:x.gJ.n≤64) (hu:x.uV.n=x.gJ.n):∃ e x',gv x t = .out e x'∧(e = .ret∧x'.t4=false∨e = .exit 0∧x'.n=(x.gJ.n:Int)∧x'.x=x∧x'.t4=false):=by
 unfold gv
 refine dp (step:=kR) (fun j y=>y.x=x∧y.t38=x.gJ∧y.t39=(x.gJ.n:Int)∧y.t40=(j:Int)∧j≤x.gJ.n∧y.n=(x.gJ.n:Int)∧y.t4=false) (fun e y=>e = .ret∧y.t4=false∨e = .exit 0∧y.n=(x.gJ.n:Int)∧y.x=x∧y.t4=false) x.gJ.n (by have:mm=1000000000000:=rfl; omega) (fun j y hj ⟨h1,h2,h3,h4,h5,h6,h7⟩=>?_) ⟨rfl,rfl,rfl,rfl,Nat.zero_le _,rfl,rfl⟩
 have e0:(sS y).isSome=true:=SP _
 have w1:au (y.t40+1)=y.t40+1:=bx (by omega) (by omega)
 unfold kR
 by_cases h:y.t40 < y.t39
 ·simp only [e0,w1,cond_true,Bool.and_self,decide_eq_true h,decide_eq_true (show (0:Int)≤y.t40 by omega),decide_eq_true (show y.t40 < ((y.t38.n:Nat):Int) by rw [h2]; omega),decide_eq_true (show y.t40 < ((y.x.uV.n:Nat):Int) by rw [h1]; omega)]
  cases (((sS y).getD default) != (0:Int)) with
  | true=>exact .inr ⟨_,_,rfl,rfl,.inl ⟨rfl,rfl⟩⟩
  | false=>
   cases (decide ((min (y.x.uV.get (Int.toNat y.t40)).e0 (y.x.uV.get (Int.toNat y.t40)).e1) < (0:Int))) with
   | true=>exact .inr ⟨_,_,rfl,rfl,.inl ⟨rfl,rfl⟩⟩
   | false=>
    cases (decide ((max (y.x.uV.get (Int.toNat y.t40)).e0 (y.x.uV.get (Int.toNat y.t40)).e1) > (255:Int))) with
    | true=>exact .inr ⟨_,_,rfl,rfl,.inl ⟨rfl,rfl⟩⟩
    | false=>exact .inl ⟨_,rfl,by omega,h1,h2,h3,by show y.t40+1=_; omega,by omega,h6,h7⟩
 ·simp only [cond_false,decide_eq_false h]
  exact .inr ⟨_,_,rfl,rfl,.inr ⟨rfl,h6,h1,h7⟩⟩
def aa2 (l:Sl eL) (n:Int) (i:Nat):Prop:=(0≤(l.get i).e0∧(l.get i).e0 < n)∧(0≤(l.get i).e1∧(l.get i).e1 < n)∧0≤(l.get i).e2∧(l.get i).e2 < n
theorem ak0 (x:gh) (hn:x.t82.n≤64) (h0:x.t83=(x.t82.n:Int)) (h1:x.t84=0) (h2:x.t4=false):∃ e x',goN jB x = .out e x'∧(e = .ret∧x'.t4=false∨e = .exit 2∧x'.n=x.n∧x'.x=x.x∧∀ i,i < x.t82.n→aa2 x.t82 x.n i):=by
 refine dp (step:=jB) (fun j y=>y.x=x.x∧y.t82=x.t82∧y.t83=(x.t82.n:Int)∧y.t84=(j:Int)∧j≤x.t82.n∧y.n=x.n∧y.t4=false∧∀ i,i < j→aa2 x.t82 x.n i) (fun e y=>e = .ret∧y.t4=false∨e = .exit 2∧y.n=x.n∧y.x=x.x∧∀ i,i < x.t82.n→aa2 x.t82 x.n i) x.t82.n (by have:mm=1000000000000:=rfl; omega) (fun j y hj ⟨h1,h2,h3,h4,h5,h6,h7,h8⟩=>?_) ⟨rfl,rfl,h0,h1,Nat.zero_le _,rfl,h2,fun i h=>absurd h (Nat.not_lt_zero _)⟩
 have w1:au (y.t84+1)=y.t84+1:=bx (by omega) (by omega)
 unfold jB
 by_cases h:y.t84 < y.t83
 ·simp only [w1,cond_true,Bool.and_self,decide_eq_true h,decide_eq_true (show (0:Int)≤y.t84 by omega),decide_eq_true (show y.t84 < ((y.t82.n:Nat):Int) by rw [h2]; omega)]
  cases g1:decide ((min (min (y.t82.get (Int.toNat y.t84)).e0 (y.t82.get (Int.toNat y.t84)).e1) (y.t82.get (Int.toNat y.t84)).e2) < (0:Int)) with
  | true=>exact .inr ⟨_,_,rfl,rfl,.inl ⟨rfl,rfl⟩⟩
  | false=>
   cases g2:decide ((max (max (y.t82.get (Int.toNat y.t84)).e0 (y.t82.get (Int.toNat y.t84)).e1) (y.t82.get (Int.toNat y.t84)).e2) ≥ y.n) with
   | true=>exact .inr ⟨_,_,rfl,rfl,.inl ⟨rfl,rfl⟩⟩
   | false=>
    refine .inl ⟨_,rfl,by omega,h1,h2,h3,by show y.t84+1=_; omega,by omega,h6,h7,fun i hi=>?_⟩
    by_cases CI:i < j
    ·exact h8 i CI
    ·have e:i=j:=by omega
     subst e
     have g1':=of_decide_eq_false g1
     have g2':=of_decide_eq_false g2
     rw [h2,h4,Int.toNat_natCast] at g1' g2'
     rw [h6] at g2'
     unfold aa2
     omega
 ·simp only [cond_false,decide_eq_false h]
  exact .inr ⟨_,_,rfl,rfl,.inr ⟨rfl,h6,h1,fun i hi=>h8 i (by omega)⟩⟩
theorem acT (x:Item) (t:Int):∃ b,nI x t=some b∧(b=true→x.gJ.n≤64∧x.fS.n≤64∧JV x):=by
 have no:∃ b,(some false:Option Bool)=some b∧(b=true→x.gJ.n≤64∧x.fS.n≤64∧JV x):=⟨false,rfl,fun h=>absurd h (by decide)⟩
 unfold nI
 cases g1:decide (((x.gJ.n:Nat):Int) > (64:Int)) with
 | true=>exact no
 | false=>
 cases g2:(((x.uV.n:Nat):Int) != ((x.gJ.n:Nat):Int)) with
 | true=>exact no
 | false=>
 cases g3:decide (((x.fS.n:Nat):Int) > (64:Int)) with
 | true=>exact no
 | false=>
 have e0:(u3 x t).isSome=true:=agd _ _
 simp only [cond_false,cond_true,e0]
 cases (((u3 x t).getD default) != (0:Int)) with
 | true=>exact no
 | false=>
 have hv:x.gJ.n≤64:=by
  have:=of_decide_eq_false g1
  omega
 have ht:x.fS.n≤64:=by
  have:=of_decide_eq_false g3
  omega
 have hu:x.uV.n=x.gJ.n:=by
  have:((x.uV.n:Nat):Int)=((x.gJ.n:Nat):Int):=by simpa using g2
  omega
 obtain ⟨e,y,hy,h⟩:=akZ x t hv hu
 rcases h with ⟨rfl,hf⟩ | ⟨rfl,hn,hx,hf⟩
 ·have b1:(gv x t).by (.exit 0)=false:=by rw [hy]; rfl
  have b2:(gv x t).by .ret=true:=by rw [hy]; rfl
  have b3:(gv x t).st.t4=false:=by rw [hy]; exact hf
  simp only [b1,b2,b3,cond_true,cond_false]
  exact no
 ·have b1:(gv x t).by (.exit 0)=true:=by rw [hy]; rfl
  have s1:(gv x t).st=y:=by rw [hy]; rfl
  obtain ⟨e,z,hz,h⟩:∃ e z,fg x t = .out e z∧(e = .ret∧z.t4=false∨e = .exit 2∧z.n=(x.gJ.n:Int)∧z.x=x∧∀ i,i < x.fS.n→aa2 x.fS (x.gJ.n:Int) i):=by
   unfold fg
   rw [s1,hn,hx]
   exact ak0 _ ht rfl rfl hf
  rcases h with ⟨rfl,hf'⟩ | ⟨rfl,_,hx',pg⟩
  ·have b2:(fg x t).by (.exit 2)=false:=by rw [hz]; rfl
   have b3:(fg x t).by .ret=true:=by rw [hz]; rfl
   have b4:(fg x t).st.t4=false:=by rw [hz]; exact hf'
   simp only [b1,b2,b3,b4,cond_true,cond_false]
   exact no
  ·have b2:(fg x t).by (.exit 2)=true:=by rw [hz]; rfl
   have e3:(mN x t).isSome=true:=ajb _
   simp only [b1,b2,e3,cond_true]
   have ok:x.gJ.n≤64∧x.fS.n≤64∧JV x:=⟨hv,ht,hu,pg⟩
   have q:∀ {c:Bool} {a b:Option Bool},(∃ r,a=some r∧(r=true→x.gJ.n≤64∧x.fS.n≤64∧JV x))→(∃ r,b=some r∧(r=true→x.gJ.n≤64∧x.fS.n≤64∧JV x))→∃ r,_root_.cond c a b=some r∧(r=true→x.gJ.n≤64∧x.fS.n≤64∧JV x):=fun {c} {a} {b} h1 h2=>by
    cases c with
    | true=>exact h1
    | false=>exact h2
   repeat' (refine q ?_ ?_)
   all_goals first | exact no | exact ⟨_,rfl,fun _=>ok⟩
def I8 (s:Show):Prop:=s.items.n≤256∧∀ i,i < s.items.n→(s.items.get i).gJ.n≤64∧(s.items.get i).fS.n≤64∧JV (s.items.get i)
theorem JW (s:Show):∃ e,iA s=some e∧(e=0→I8 s):=by
 have no:∀ k:Int,k≠0→∃ e,(some k:Option Int)=some e∧(e=0→I8 s):=fun k hk=>⟨k,rfl,fun h=>absurd h hk⟩
 unfold iA
 cases g1:decide (((s.items.n:Nat):Int) > (256:Int)) with
 | true=>exact no 4 (by decide)
 | false=>
 cases decide (((s.aL.n:Nat):Int) > (16:Int)) with
 | true=>exact no 4 (by decide)
 | false=>
 have hn:s.items.n≤256:=by
  have:=of_decide_eq_false g1
  omega
 have e0:(rW s).isSome=true:=Oz _
 simp only [e0,cond_true,cond_false]
 cases (((rW s).getD default) != (0:Int)) with
 | true=>exact no 8 (by decide)
 | false=>
 obtain ⟨e,x',hx,h⟩:∃ e x',eQ s = .out e x'∧(e = .ret∧x'.t4 ≥ 0∨e = .exit 0∧∀ i,i < s.items.n→(s.items.get i).gJ.n≤64∧(s.items.get i).fS.n≤64∧JV (s.items.get i)):=by
  unfold eQ
  refine dp (step:=bF) (fun j y=>y.s=s.items∧y.t7=(s.items.n:Int)∧y.t8=(j:Int)∧j≤s.items.n∧∀ i,i < j→(s.items.get i).gJ.n≤64∧(s.items.get i).fS.n≤64∧JV (s.items.get i)) (fun e x'=>e = .ret∧x'.t4 ≥ 0∨e = .exit 0∧∀ i,i < s.items.n→(s.items.get i).gJ.n≤64∧(s.items.get i).fS.n≤64∧JV (s.items.get i)) s.items.n (by have:mm=1000000000000:=rfl; omega) (fun j y hj ⟨h1,h2,h3,h4,h5⟩=>?_) ⟨rfl,rfl,rfl,Nat.zero_le _,fun i h=>absurd h (Nat.not_lt_zero _)⟩
  obtain ⟨b,hb,b9⟩:=acT (y.s.get (Int.toNat y.t8)) ((y.aaL.aL.n:Nat):Int)
  have e0:fM y=some b:=hb
  have w1:au (y.t8+1)=y.t8+1:=bx (by omega) (by omega)
  unfold bF
  by_cases h:y.t8 < y.t7
  ·simp only [e0,w1,cond_true,Bool.and_self,Option.isSome_some,Option.getD_some,decide_eq_true h,decide_eq_true (show (0:Int)≤y.t8 by omega),decide_eq_true (show y.t8 < ((y.s.n:Nat):Int) by rw [h1]; omega)]
   cases b with
   | false=>exact .inr ⟨_,_,rfl,rfl,.inl ⟨rfl,by show y.t8 ≥ 0; omega⟩⟩
   | true=>
    refine .inl ⟨_,rfl,by omega,h1,h2,by show y.t8+1=_; omega,by omega,fun i hi=>?_⟩
    by_cases CI:i < j
    ·exact h5 i CI
    ·have e:i=j:=by omega
     subst e
     have:=b9 rfl
     rw [h1,h3,Int.toNat_natCast] at this
     exact this
  ·simp only [cond_false,decide_eq_false h]
   exact .inr ⟨_,_,rfl,rfl,.inr ⟨rfl,fun i hi=>h5 i (by omega)⟩⟩
 rcases h with ⟨rfl,hp⟩ | ⟨rfl,pg⟩
 ·have b1:(eQ s).by (.exit 0)=false:=by rw [hx]; rfl
  have b2:(eQ s).by .ret=true:=by rw [hx]; rfl
  have b3:decide ((eQ s).st.t4 ≥ (0:Int))=true:=by rw [hx]; exact decide_eq_true hp
  simp only [b1,b2,b3,cond_true,cond_false]
  exact no 8 (by decide)
 ·have b1:(eQ s).by (.exit 0)=true:=by rw [hx]; rfl
  simp only [b1,cond_true]
  exact ⟨0,rfl,fun _=>⟨hn,pg⟩⟩
end Go.Proofs.Ytahhdndhkgbcjaa.b
end
section
namespace Go.Proofs.Ytahhdndhkgbcjaa.b
open Go.K
open Go.aE (ak)
theorem Ws (s:Show) (c:aP):∃ e,gU s c=some e∧(e=0→I8 s∧PU c):=by
 obtain ⟨e,h1,h2⟩:=JW s
 obtain ⟨f,h3,h4⟩:=qH c
 have e0:o8 s c=some e:=h1
 have e1:rX s c=some f:=h3
 unfold gU
 simp only [e0,e1,Option.isSome_some,Option.getD_some,cond_true]
 by_cases he:e=0
 ·subst he
  exact ⟨f,rfl,fun hf=>⟨h2 rfl,h4 hf⟩⟩
 ·have:(e != (0:Int))=true:=by simpa using he
  rw [this]
  exact ⟨e,rfl,fun h=>absurd h he⟩
end Go.Proofs.Ytahhdndhkgbcjaa.b
end
section
namespace Go.Proofs.Ytahhdndhkgbcjaa.b
open Go.K
open Go.aE (ak)
def seen (t:bg) (w:Bt):Bool:=((W8 t w).getD default).2.1
def eX {α:Type} (l:Sl α):List α:=(List.range l.n).map l.get
theorem MT {α:Type} [Inhabited α] (l:Sl α) (v:α):eX (l.push v)=eX l++[v]:=by
 unfold eX
 rw [Sl.CN,List.range_succ,List.map_append]
 congr 1
 ·exact List.map_congr_left fun i hi=>Sl.acP (List.mem_range.1 hi)
 ·exact congrArg (fun a=>[a]) Sl.acQ
theorem kV {α:Type} (l:Sl α):(eX l).length=l.n:=by simp [eX]
theorem acU {α:Type} (l:Sl α) (j:Nat) (h:j < l.n):(eX l).take (j+1)=(eX l).take j++[l.get j]:=by
 rw [List.take_add_one]
 congr 1
 unfold eX
 simp [h]
end Go.Proofs.Ytahhdndhkgbcjaa.b
end
section
namespace Go.Proofs.Ytahhdndhkgbcjaa.b
open Go.K
open Go.aE (ak)
def Vh (s:Show) (c:aP) (i k:Nat):Sl bg:=(lx s c (i:Int) (k:Int)).getD default
def partAt (s:Show) (c:aP) (i k n:Nat):cH:=⟨(Vh s c i k).get n,⟨(s.items.get i).look.LI,(i:Int),(k:Int),(n:Int),0,0⟩⟩
def LV (s:Show) (c:aP) (i k:Nat):List cH:=(List.range (Vh s c i k).n).map (partAt s c i k)
def xZ (s:Show) (c:aP) (i:Nat):List cH:=(List.range (s.items.get i).fS.n).flatMap (LV s c i)
def iI (s:Show) (c:aP):List cH:=(List.range s.items.n).flatMap (xZ s c)
theorem Wt {α:Type} (f:Nat→List α) (n:Nat):(List.range (n+1)).flatMap f=(List.range n).flatMap f++f n:=by
 rw [List.range_succ,List.flatMap_append]; simp
theorem alP (s:Show) (c:aP) (i k:Nat) (x:fT) (hi:x.i=(i:Int)) (hk:x.k=(k:Int)) (hr:x.t31=Vh s c i k) (hb:x.x=s.items.get i) (hn:x.t31.n≤6) (h2:x.t32=(x.t31.n:Int)) (h3:x.t33=0) (hs:x.out.parts.n≤200000) :
  ∃ e y,goN gV x = .out e y∧(e = .exit 4∧y.i=x.i∧y.t14=x.t14∧y.t15=x.t15∧y.t16=x.t16∧y.t23=x.t23∧y.t24=x.t24∧y.s=x.s∧y.c=x.c∧y.t4=x.t4∧y.x=x.x∧y.out.cT=x.out.cT∧eX y.out.parts=eX x.out.parts++LV s c i k∧y.out.parts.n≤x.out.parts.n+6):=by
 refine dp (step:=gV) (fun j y=>(y.i=x.i∧y.t14=x.t14∧y.t15=x.t15∧y.t16=x.t16∧y.t23=x.t23∧y.t24=x.t24∧y.s=x.s∧y.c=x.c∧y.t4=x.t4∧y.x=x.x∧y.out.cT=x.out.cT)∧y.k=x.k∧y.t31=x.t31∧y.t32=(x.t31.n:Int)∧y.t33=(j:Int)∧j≤x.t31.n∧eX y.out.parts=eX x.out.parts++(List.range j).map (partAt s c i k)∧y.out.parts.n≤x.out.parts.n+j) (fun e y=>e = .exit 4∧y.i=x.i∧y.t14=x.t14∧y.t15=x.t15∧y.t16=x.t16∧y.t23=x.t23∧y.t24=x.t24∧y.s=x.s∧y.c=x.c∧y.t4=x.t4∧y.x=x.x∧y.out.cT=x.out.cT∧eX y.out.parts=eX x.out.parts++LV s c i k∧y.out.parts.n≤x.out.parts.n+6) x.t31.n (by have:mm=1000000000000:=rfl; omega) (fun j y hj ⟨hf,te,h4,h5,h6,h7,h8,h9⟩=>?_) ⟨⟨rfl,rfl,rfl,rfl,rfl,rfl,rfl,rfl,rfl,rfl,rfl⟩,rfl,rfl,h2,h3,Nat.zero_le _,by simp,by omega⟩
 have w1:au (y.t33+1)=y.t33+1:=bx (by omega) (by omega)
 have a1:fe 168 y.out.parts.n 1=true:=I5 (by omega) (by omega) (by omega) (.inl (by omega))
 obtain ⟨f1,f2,f3,f4,f5,f6,f7,f8,f9,f10,f11⟩:=hf
 unfold gV
 by_cases h:y.t33 < y.t32
 ·simp only [w1,a1,aZ,cond_true,Bool.and_self,decide_eq_true h,decide_eq_true (show (0:Int)≤y.t33 by omega),decide_eq_true (show y.t33 < ((y.t31.n:Nat):Int) by rw [h4]; omega)]
  refine .inl ⟨_,rfl,by omega,⟨f1,f2,f3,f4,f5,f6,f7,f8,f9,f10,f11⟩,te,h4,h5,by show y.t33+1=_; omega,by omega,?_,by simp only [Sl.CN]; omega⟩
  show eX (Sl.push _ _)=_
  rw [MT,h8,List.range_succ,List.map_append,← List.append_assoc]
  have e1:(⟨(y.t31.get (Int.toNat y.t33)),(⟨y.x.look.LI,y.i,y.k,y.t33,(0:Int),(0:Int)⟩:aK)⟩:cH)=partAt s c i k j:=by
   unfold partAt
   rw [h4,h6,Int.toNat_natCast,hr,f10,hb,f1,te,hi,hk]
  rw [e1]
  rfl
 ·simp only [aZ,cond_true,cond_false,decide_eq_false h]
  refine .inr ⟨_,_,rfl,rfl,rfl,f1,f2,f3,f4,f5,f6,f7,f8,f9,f10,f11,?_,by omega⟩
  rw [h8,show j=x.t31.n by omega,hr]
  rfl
theorem ak1 (s:Show) (c:aP) (n:Nat) (hn:n < s.items.n) (b9:JV (s.items.get n)) (ht:(s.items.get n).fS.n≤64) (x:fE) (hs:x.s=s) (hc:x.c=c) (hx:x.x=s.items.get n) (hi:x.i=(n:Int)) (h2:x.t23=((s.items.get n).fS.n:Int)) (h3:x.t24=0) (fv:x.out.parts.n≤150000) :
  ∃ e y,goN iZ x = .out e y∧(e = .exit 2∧y.t14=x.t14∧y.t15=x.t15∧y.t16=x.t16∧y.s=s∧y.c=c∧y.t4=x.t4∧y.out.cT=x.out.cT∧eX y.out.parts=eX x.out.parts++xZ s c n∧y.out.parts.n≤x.out.parts.n+384):=by
 refine dp (step:=iZ) (fun j y=>(y.i=x.i∧y.t14=x.t14∧y.t15=x.t15∧y.t16=x.t16∧y.t23=x.t23∧y.s=s∧y.c=c∧y.t4=x.t4∧y.x=x.x∧y.out.cT=x.out.cT)∧y.t24=(j:Int)∧j≤(s.items.get n).fS.n∧eX y.out.parts=eX x.out.parts++(List.range j).flatMap (LV s c n)∧y.out.parts.n≤x.out.parts.n+6 * j) (fun e y=>e = .exit 2∧y.t14=x.t14∧y.t15=x.t15∧y.t16=x.t16∧y.s=s∧y.c=c∧y.t4=x.t4∧y.out.cT=x.out.cT∧eX y.out.parts=eX x.out.parts++xZ s c n∧y.out.parts.n≤x.out.parts.n+384) (s.items.get n).fS.n (by have:mm=1000000000000:=rfl; omega) (fun j y hj ⟨⟨f1,f2,f3,f4,f5,f6,f7,f8,f9,f10⟩,h4,h5,h6,h7⟩=>?_) ⟨⟨rfl,rfl,rfl,rfl,rfl,hs,hc,rfl,rfl,rfl⟩,h3,Nat.zero_le _,by simp,by omega⟩
 unfold iZ
 by_cases h:y.t24 < y.t23
 ·obtain ⟨r,hr,hrn⟩:=agc s c n j hn (by omega) b9
  have e0:ow y=some r:=by
   unfold ow
   rw [f6,f7,f1,hi,h4]
   exact hr
  have ep:Vh s c n j=r:=by unfold Vh; rw [hr]; rfl
  obtain ⟨e,z,hz,rfl,g1,g2,g3,g4,g5,g6,g7,g8,g9,g10,anL,g11,g12⟩:∃ e z,ck y = .out e z∧(e = .exit 4∧z.i=y.i∧z.t14=y.t14∧z.t15=y.t15∧z.t16=y.t16∧z.t23=y.t23∧z.t24=y.t24∧z.s=y.s∧z.c=y.c∧z.t4=y.t4∧z.x=y.x∧z.out.cT=y.out.cT∧eX z.out.parts=eX y.out.parts++LV s c n j∧z.out.parts.n≤y.out.parts.n+6):=by
   unfold ck
   rw [e0]
   exact alP s c n j _ (by show y.i=_; rw [f1,hi]) h4 ep.symm (by show y.x=_; rw [f9,hx]) hrn rfl rfl (by show y.out.parts.n≤200000; omega)
  have b1:(ck y).by (.exit 4)=true:=by rw [hz]; rfl
  have b2:(ck y).st=z:=by rw [hz]; rfl
  have w1:au (z.t24+1)=z.t24+1:=bx (by omega) (by omega)
  simp only [e0,b1,b2,w1,aZ,cond_true,Option.isSome_some,decide_eq_true h]
  refine .inl ⟨_,rfl,by omega,⟨g1.trans f1,g2.trans f2,g3.trans f3,g4.trans f4,g5.trans f5,g7.trans f6,g8.trans f7,g9.trans f8,g10.trans f9,anL.trans f10⟩,by show z.t24+1=_; omega,by omega,?_,by show z.out.parts.n≤_; omega⟩
  show eX z.out.parts=_
  rw [g11,h6,Wt,List.append_assoc]
 ·simp only [aZ,cond_true,cond_false,decide_eq_false h]
  refine .inr ⟨_,_,rfl,rfl,rfl,f2,f3,f4,f6,f7,f8,f10,?_,by omega⟩
  rw [h6,show j=(s.items.get n).fS.n by omega]
  rfl
theorem ak2 (s:Show) (c:aP) (hs:I8 s) (x:js) (h14:x.t14=s.items) (h15:x.t15=(s.items.n:Int)) (h16:x.t16=0) (hxs:x.s=s) (hxc:x.c=c) (h0:x.out.parts.n=0) :
  ∃ e y,goN kU x = .out e y∧(e = .exit 0∧y.out.cT=x.out.cT∧eX y.out.parts=iI s c∧y.out.parts.n≤98304):=by
 obtain ⟨hs1,kO⟩:=hs
 refine dp (step:=kU) (fun j y=>y.t14=s.items∧y.t15=(s.items.n:Int)∧y.t16=(j:Int)∧y.s=s∧y.c=c∧y.out.cT=x.out.cT∧j≤s.items.n∧eX y.out.parts=(List.range j).flatMap (xZ s c)∧y.out.parts.n≤384 * j) (fun e y=>e = .exit 0∧y.out.cT=x.out.cT∧eX y.out.parts=iI s c∧y.out.parts.n≤98304) s.items.n (by have:mm=1000000000000:=rfl; omega) (fun j y hj ⟨f1,f2,f3,f4,f5,f5',f6,f7,f8⟩=>?_) ⟨h14,h15,h16,hxs,hxc,rfl,Nat.zero_le _,by simp only [List.range_zero,List.flatMap_nil]; exact List.length_eq_zero_iff.1 (by rw [kV,h0]),by omega⟩
 unfold kU
 by_cases h:y.t16 < y.t15
 ·have mr:j < s.items.n:=by omega
  obtain ⟨_,ht,b9⟩:=kO j mr
  have hg:y.t14.get (Int.toNat y.t16)=s.items.get j:=by rw [f1,f3,Int.toNat_natCast]
  obtain ⟨e,z,hz,rfl,g1,g2,g3,g4,g5,_,g6,g7,g8⟩:∃ e z,eF y = .out e z∧(e = .exit 2∧z.t14=y.t14∧z.t15=y.t15∧z.t16=y.t16∧z.s=s∧z.c=c∧z.t4=y.t4∧z.out.cT=y.out.cT∧eX z.out.parts=eX y.out.parts++xZ s c j∧z.out.parts.n≤y.out.parts.n+384):=by
   unfold eF
   exact ak1 s c j mr b9 ht _ f4 f5 hg f3 (by show (((y.t14.get (Int.toNat y.t16)).fS.n:Nat):Int)=_; rw [hg]) rfl (by show y.out.parts.n≤150000; omega)
  have b1:(eF y).by (.exit 2)=true:=by rw [hz]; rfl
  have b2:(eF y).st=z:=by rw [hz]; rfl
  have w1:au (z.t16+1)=z.t16+1:=bx (by omega) (by omega)
  simp only [b1,b2,w1,aZ,cond_true,Bool.and_self,decide_eq_true h,decide_eq_true (show (0:Int)≤y.t16 by omega),decide_eq_true (show y.t16 < ((y.t14.n:Nat):Int) by rw [f1]; omega)]
  refine .inl ⟨_,rfl,mr,g1.trans f1,g2.trans f2,by show z.t16+1=_; omega,g4,g5,g6.trans f5',by omega,?_,by show z.out.parts.n≤_; omega⟩
  show eX z.out.parts=_
  rw [g7,f7,Wt]
 ·simp only [aZ,cond_true,cond_false,decide_eq_false h]
  refine .inr ⟨_,_,rfl,rfl,rfl,f5',?_,by omega⟩
  rw [f7,show j=s.items.n by omega]
  rfl
theorem acV (s:Show) (c:aP) (hs:I8 s):∃ r,sm s c=some r∧r.cT=s∧eX r.parts=iI s c∧r.parts.n≤98304:=by
 obtain ⟨e,y,hy,rfl,h0,h1,h2⟩:∃ e y,Bb s c = .out e y∧(e = .exit 0∧y.out.cT=s∧eX y.out.parts=iI s c∧y.out.parts.n≤98304):=by
  unfold Bb
  exact ak2 s c hs _ rfl rfl rfl rfl rfl rfl
 refine ⟨y.out,?_,h0,h1,h2⟩
 unfold sm
 rw [hy]
 rfl
end Go.Proofs.Ytahhdndhkgbcjaa.b
end
section
namespace Go.Proofs.Ytahhdndhkgbcjaa.b
open Go.K
set_option linter.unusedVariables false
set_option linter.unusedSimpArgs false
noncomputable section
def Hk:List (Nat×(List KV→KR KV)):=[]
def Hl:List Lp:=[]
theorem PV:ao Try.prog Hk:=ao.nil
theorem PW:az Try.prog Hl:=az.nil
def oj (x:Int):Option (Bool):=
 (some ((x != x)))
theorem SS (x:Int):dm Try.prog (bo Try.prog Hk Hl (fun q=>Nat.beq q 47)) 9 9 71 [(kI .i64) x] = (oj x).map kB:=by
 unfold oj
 kernel_rfl
def JX:List KV→KR KV:=cw Try.prog 71 (cG kB fun vs=>oj (intOf (vs.getD 0 .aw)))
theorem PX (w:Nat→KV):cM Try.prog [3] w 0 = [(kI .i64) (intOf (ay Try.prog (aj Try.prog aq) 3 (w 0)))]:=by kernel_rfl
theorem PY:ca Try.prog 71 JX:=aY funcs mixed PV PW (L:=9) (n:=9) fun w=>by
 have e:aJ Try.prog 71 = [3]:=by kernel_rfl
 rw [e,PX]
 exact (SS (intOf (ay Try.prog (aj Try.prog aq) 3 (w 0)))).trans (by kernel_rfl)
def DT:List (Nat×(List KV→KR KV)):=[(71,JX)]
def DU:List Lp:=[]
theorem LW:ao Try.prog DT:=(ao.cons PY ao.nil)
theorem LX:az Try.prog DU:=az.nil
def wz (x:Int) (y:Int):(Option Bool):=(oj x)
def rz (x:Int) (y:Int):(Option Bool):=(oj y)
def eC (x:Int) (y:Int):Option (Int):=
 (cond ((wz x y).getD default)
 (cond ((rz x y).getD default)
 (some ((0:Int)))
 (some ((-(1:Int)))))
 (cond ((rz x y).getD default)
 (some ((1:Int)))
 (cond (decide (x < y))
 (some ((-(1:Int))))
 (cond (decide (x > y))
 (some ((1:Int)))
 (some ((0:Int)))))))
theorem Nu (x:Int) (y:Int):dm Try.prog (bo Try.prog DT DU (fun q=>Nat.beq q 47)) 9 9 35 [(kI .i64) x,(kI .i64) y] = (eC x y).map (kI .i64):=by
 unfold eC
 try simp only [cc]
 kernel_rfl
def cg:List KV→KR KV:=cw Try.prog 35 (cG (kI .i64) fun vs=>eC (intOf (vs.getD 0 .aw)) (intOf (vs.getD 1 .aw)))
theorem LY (w:Nat→KV):cM Try.prog [3,3] w 0 = [(kI .i64) (intOf (ay Try.prog (aj Try.prog aq) 3 (w 0))),(kI .i64) (intOf (ay Try.prog (aj Try.prog aq) 3 (w 1)))]:=by kernel_rfl
theorem bH:ca Try.prog 35 cg:=aY funcs mixed LW LX (L:=9) (n:=9) fun w=>by
 have e:aJ Try.prog 35 = [3,3]:=by kernel_rfl
 rw [e,LY]
 exact (Nu (intOf (ay Try.prog (aj Try.prog aq) 3 (w 0))) (intOf (ay Try.prog (aj Try.prog aq) 3 (w 1)))).trans (by kernel_rfl)
end
end Go.Proofs.Ytahhdndhkgbcjaa.b
end
section
namespace Go.Proofs.Ytahhdndhkgbcjaa.b
open Go.K
set_option linter.unusedVariables false
set_option linter.unusedSimpArgs false
noncomputable section
structure nW where
 data:(Sl aaM)
 a:Int
 m:Int
 b:Int
 held:Show
instance:Inhabited nW:=⟨⟨default,default,default,default,default⟩⟩
end
end Go.Proofs.Ytahhdndhkgbcjaa.b
end
section
namespace Go.Proofs.Ytahhdndhkgbcjaa.b
open Go.K
set_option linter.unusedVariables false
set_option linter.unusedSimpArgs false
noncomputable section
end
end Go.Proofs.Ytahhdndhkgbcjaa.b
end
section
namespace Go.Proofs.Ytahhdndhkgbcjaa.b
open Go.K
set_option linter.unusedVariables false
set_option linter.unusedSimpArgs false
noncomputable section
end
end Go.Proofs.Ytahhdndhkgbcjaa.b
end
