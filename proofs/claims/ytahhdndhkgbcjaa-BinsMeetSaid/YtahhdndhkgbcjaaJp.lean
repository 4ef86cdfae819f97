/- Part of the proof of BinsMeet: a machine that runs the program's code over open terms, shown to be the model's, and the plain models of its functions. No conditions. -/
import Derived.Test.YtahhdndhkgbcjaaIp
section
namespace Go.Proofs.Ytahhdndhkgbcjaa.b
open Go.K
set_option linter.unusedVariables false
set_option linter.unusedSimpArgs false
noncomputable section
structure bZ where
  e0:bg
  e1:bg
  e2:bg
instance:Inhabited bZ:=⟨⟨default,default,default⟩⟩
def U9 (x:bZ):List KV:=[.int .i64 x.e0.p.x,.int .i64 x.e0.p.y,.int .i64 x.e0.p.z,.int .i64 x.e0.u,.int .i64 x.e0.v,.int .i64 x.e1.p.x,.int .i64 x.e1.p.y,.int .i64 x.e1.p.z,.int .i64 x.e1.u,.int .i64 x.e1.v,.int .i64 x.e2.p.x,.int .i64 x.e2.p.y,.int .i64 x.e2.p.z,.int .i64 x.e2.u,.int .i64 x.e2.v]
def kC (x:bZ):KV:=.agg (U9 x)
def Va (c:Nat→KV):bZ:=⟨⟨⟨intOf (c 0),intOf (c 1),intOf (c 2)⟩,intOf (c 3),intOf (c 4)⟩,⟨⟨intOf (c 5),intOf (c 6),intOf (c 7)⟩,intOf (c 8),intOf (c 9)⟩,⟨⟨intOf (c 10),intOf (c 11),intOf (c 12)⟩,intOf (c 13),intOf (c 14)⟩⟩
def lM (v:KV):bZ:=Va fun k=>v.cells.getD k .av
theorem Y8 (x:bZ):lM (kC x)=x:=rfl
theorem Y9:lM .av=default:=rfl
theorem Vb (s:Sl bZ) (v:bZ):s.push v=gg lM (s.n+1) (cM s.n (fun i=>kC (s.get i)) (l7 [kC v])):=(sB Y8 Y9 s v).symm
structure aj where
  aA:Int
  out:(Sl bZ)
  l:(Sl bg)
  t22:bZ
  t23:Int
  t:bZ
instance:Inhabited aj:=⟨⟨default,default,default,default,default,default⟩⟩
def oo (x:aj):List KV:=[.int .i64 x.aA,fQ 181 kC x.out,fQ 180 iM x.l,kC x.t22,.int .i64 x.t23]
def oq (x:aj):List (List KV):=[U9 x.t]
def zk (vs:List KV) (rs:List (List KV)):aj:=⟨intOf (vs.getD 0 .av),gh lM (vs.getD 1 .av),gh fq (vs.getD 2 .av),lM (vs.getD 3 .av),intOf (vs.getD 4 .av),Va (fun k=>(rs.getD 0 []).getD k .av)⟩
def BP:ba:=⟨[(0,⟨false,[.k (.int .i64)]⟩),(4,⟨false,[.aJ 181]⟩),(7,⟨false,[.aJ 180]⟩),(22,⟨true,[.k (.int .i64),.k (.int .i64),.k (.int .i64),.k (.int .i64),.k (.int .i64),.k (.int .i64),.k (.int .i64),.k (.int .i64),.k (.int .i64),.k (.int .i64),.k (.int .i64),.k (.int .i64),.k (.int .i64),.k (.int .i64),.k (.int .i64)]⟩),(23,⟨false,[.k (.int .i64)]⟩)],[(3,[.k (.int .i64),.k (.int .i64),.k (.int .i64),.k (.int .i64),.k (.int .i64),.k (.int .i64),.k (.int .i64),.k (.int .i64),.k (.int .i64),.k (.int .i64),.k (.int .i64),.k (.int .i64),.k (.int .i64),.k (.int .i64),.k (.int .i64)],5)],[(3,0,0)]⟩
def Na:=eR Try.prog (bx Try.prog [(129,zg),(130,lL)] [] (fun _=>false) false true) 9 9 111 122 (fp Try.prog 111 122) BP
def rU (x:aj):(Option (Prod bg Int)):=(cE x.aA x.t.e0 x.t22.e0)
def rV (x:aj):(Option (Prod bg Int)):=(cE x.aA x.t22.e0 x.t.e0)
def rW (x:aj):(Option (Prod bg Int)):=(cE x.aA x.t.e1 x.t22.e0)
def rX (x:aj):(Option (Prod bg Int)):=(cE x.aA x.t22.e0 x.t.e1)
def rY (x:aj):(Option (Prod bg Int)):=(cE x.aA x.t.e2 x.t22.e0)
def rZ (x:aj):(Option (Prod bg Int)):=(cE x.aA x.t22.e0 x.t.e2)
def r5 (x:aj):(Option (Prod bg Int)):=(cE x.aA x.t.e0 x.t22.e1)
def r6 (x:aj):(Option (Prod bg Int)):=(cE x.aA x.t22.e1 x.t.e0)
def r7 (x:aj):(Option (Prod bg Int)):=(cE x.aA x.t.e1 x.t22.e1)
def r8 (x:aj):(Option (Prod bg Int)):=(cE x.aA x.t22.e1 x.t.e1)
def qi (x:aj):(Option (Prod bg Int)):=(cE x.aA x.t.e2 x.t22.e1)
def qj (x:aj):(Option (Prod bg Int)):=(cE x.aA x.t22.e1 x.t.e2)
def qk (x:aj):(Option (Prod bg Int)):=(cE x.aA x.t.e0 x.t22.e2)
def ql (x:aj):(Option (Prod bg Int)):=(cE x.aA x.t22.e2 x.t.e0)
def qm (x:aj):(Option (Prod bg Int)):=(cE x.aA x.t.e1 x.t22.e2)
def qn (x:aj):(Option (Prod bg Int)):=(cE x.aA x.t22.e2 x.t.e1)
def qo (x:aj):(Option (Prod bg Int)):=(cE x.aA x.t.e2 x.t22.e2)
def qp (x:aj):(Option (Prod bg Int)):=(cE x.aA x.t22.e2 x.t.e2)
def dW (x:aj):bK aj:=
  (cond (decide (x.t23 < (3:Int)))
   (cond (decide (x.t23=(0:Int)))
    (cond (decide ((Int.tmod (aH (x.t23+(1:Int))) (3:Int))=(0:Int)))
     (cond (decide (x.t22.e0.p.z ≥ x.aA))
      (cond (decide (x.t.e0.p.z ≥ x.aA))
       (cond ((aB x.l.n x.l.n) && (cL 40 x.l.n 1))
        (cond (cond (aB (x.l.n+1) (x.l.n+1)) (aB x.out.n x.out.n) false)
         (.next (⟨x.aA,x.out,(x.l.push x.t22.e0),x.t22,(aH (x.t23+(1:Int))),x.t⟩:aj))
         .fail)
        .fail)
       (cond ((aB x.l.n x.l.n) && (cL 40 x.l.n 1))
        (cond (rU x).isSome
         (cond ((aB (x.l.n+1) (x.l.n+1)) && (cL 40 (x.l.n+1) 1))
          (cond (cond (aB ((x.l.n+1)+1) ((x.l.n+1)+1)) (aB x.out.n x.out.n) false)
           (.next (⟨x.aA,x.out,((x.l.push x.t22.e0).push ((rU x).getD default).fst),x.t22,(aH (x.t23+(1:Int))),x.t⟩:aj))
           .fail)
          .fail)
         .fail)
        .fail))
      (cond (decide (x.t.e0.p.z ≥ x.aA))
       (cond (rV x).isSome
        (cond ((aB x.l.n x.l.n) && (cL 40 x.l.n 1))
         (cond (cond (aB (x.l.n+1) (x.l.n+1)) (aB x.out.n x.out.n) false)
          (.next (⟨x.aA,x.out,(x.l.push ((rV x).getD default).fst),x.t22,(aH (x.t23+(1:Int))),x.t⟩:aj))
          .fail)
         .fail)
        .fail)
       (cond (cond (aB x.l.n x.l.n) (aB x.out.n x.out.n) false)
        (.next (⟨x.aA,x.out,x.l,x.t22,(aH (x.t23+(1:Int))),x.t⟩:aj))
        .fail)))
     (cond (decide ((Int.tmod (aH (x.t23+(1:Int))) (3:Int))=(1:Int)))
      (cond (decide (x.t22.e0.p.z ≥ x.aA))
       (cond (decide (x.t.e1.p.z ≥ x.aA))
        (cond ((aB x.l.n x.l.n) && (cL 40 x.l.n 1))
         (cond (cond (aB (x.l.n+1) (x.l.n+1)) (aB x.out.n x.out.n) false)
          (.next (⟨x.aA,x.out,(x.l.push x.t22.e0),x.t22,(aH (x.t23+(1:Int))),x.t⟩:aj))
          .fail)
         .fail)
        (cond ((aB x.l.n x.l.n) && (cL 40 x.l.n 1))
         (cond (rW x).isSome
          (cond ((aB (x.l.n+1) (x.l.n+1)) && (cL 40 (x.l.n+1) 1))
           (cond (cond (aB ((x.l.n+1)+1) ((x.l.n+1)+1)) (aB x.out.n x.out.n) false)
            (.next (⟨x.aA,x.out,((x.l.push x.t22.e0).push ((rW x).getD default).fst),x.t22,(aH (x.t23+(1:Int))),x.t⟩:aj))
            .fail)
           .fail)
          .fail)
         .fail))
       (cond (decide (x.t.e1.p.z ≥ x.aA))
        (cond (rX x).isSome
         (cond ((aB x.l.n x.l.n) && (cL 40 x.l.n 1))
          (cond (cond (aB (x.l.n+1) (x.l.n+1)) (aB x.out.n x.out.n) false)
           (.next (⟨x.aA,x.out,(x.l.push ((rX x).getD default).fst),x.t22,(aH (x.t23+(1:Int))),x.t⟩:aj))
           .fail)
          .fail)
         .fail)
        (cond (cond (aB x.l.n x.l.n) (aB x.out.n x.out.n) false)
         (.next (⟨x.aA,x.out,x.l,x.t22,(aH (x.t23+(1:Int))),x.t⟩:aj))
         .fail)))
      (cond (decide ((Int.tmod (aH (x.t23+(1:Int))) (3:Int))=(2:Int)))
       (cond (decide (x.t22.e0.p.z ≥ x.aA))
        (cond (decide (x.t.e2.p.z ≥ x.aA))
         (cond ((aB x.l.n x.l.n) && (cL 40 x.l.n 1))
          (cond (cond (aB (x.l.n+1) (x.l.n+1)) (aB x.out.n x.out.n) false)
           (.next (⟨x.aA,x.out,(x.l.push x.t22.e0),x.t22,(aH (x.t23+(1:Int))),x.t⟩:aj))
           .fail)
          .fail)
         (cond ((aB x.l.n x.l.n) && (cL 40 x.l.n 1))
          (cond (rY x).isSome
           (cond ((aB (x.l.n+1) (x.l.n+1)) && (cL 40 (x.l.n+1) 1))
            (cond (cond (aB ((x.l.n+1)+1) ((x.l.n+1)+1)) (aB x.out.n x.out.n) false)
             (.next (⟨x.aA,x.out,((x.l.push x.t22.e0).push ((rY x).getD default).fst),x.t22,(aH (x.t23+(1:Int))),x.t⟩:aj))
             .fail)
            .fail)
           .fail)
          .fail))
        (cond (decide (x.t.e2.p.z ≥ x.aA))
         (cond (rZ x).isSome
          (cond ((aB x.l.n x.l.n) && (cL 40 x.l.n 1))
           (cond (cond (aB (x.l.n+1) (x.l.n+1)) (aB x.out.n x.out.n) false)
            (.next (⟨x.aA,x.out,(x.l.push ((rZ x).getD default).fst),x.t22,(aH (x.t23+(1:Int))),x.t⟩:aj))
            .fail)
           .fail)
          .fail)
         (cond (cond (aB x.l.n x.l.n) (aB x.out.n x.out.n) false)
          (.next (⟨x.aA,x.out,x.l,x.t22,(aH (x.t23+(1:Int))),x.t⟩:aj))
          .fail)))
       .fail)))
    (cond (decide (x.t23=(1:Int)))
     (cond (decide ((Int.tmod (aH (x.t23+(1:Int))) (3:Int))=(0:Int)))
      (cond (decide (x.t22.e1.p.z ≥ x.aA))
       (cond (decide (x.t.e0.p.z ≥ x.aA))
        (cond ((aB x.l.n x.l.n) && (cL 40 x.l.n 1))
         (cond (cond (aB (x.l.n+1) (x.l.n+1)) (aB x.out.n x.out.n) false)
          (.next (⟨x.aA,x.out,(x.l.push x.t22.e1),x.t22,(aH (x.t23+(1:Int))),x.t⟩:aj))
          .fail)
         .fail)
        (cond ((aB x.l.n x.l.n) && (cL 40 x.l.n 1))
         (cond (r5 x).isSome
          (cond ((aB (x.l.n+1) (x.l.n+1)) && (cL 40 (x.l.n+1) 1))
           (cond (cond (aB ((x.l.n+1)+1) ((x.l.n+1)+1)) (aB x.out.n x.out.n) false)
            (.next (⟨x.aA,x.out,((x.l.push x.t22.e1).push ((r5 x).getD default).fst),x.t22,(aH (x.t23+(1:Int))),x.t⟩:aj))
            .fail)
           .fail)
          .fail)
         .fail))
       (cond (decide (x.t.e0.p.z ≥ x.aA))
        (cond (r6 x).isSome
         (cond ((aB x.l.n x.l.n) && (cL 40 x.l.n 1))
          (cond (cond (aB (x.l.n+1) (x.l.n+1)) (aB x.out.n x.out.n) false)
           (.next (⟨x.aA,x.out,(x.l.push ((r6 x).getD default).fst),x.t22,(aH (x.t23+(1:Int))),x.t⟩:aj))
           .fail)
          .fail)
         .fail)
        (cond (cond (aB x.l.n x.l.n) (aB x.out.n x.out.n) false)
         (.next (⟨x.aA,x.out,x.l,x.t22,(aH (x.t23+(1:Int))),x.t⟩:aj))
         .fail)))
      (cond (decide ((Int.tmod (aH (x.t23+(1:Int))) (3:Int))=(1:Int)))
       (cond (decide (x.t22.e1.p.z ≥ x.aA))
        (cond (decide (x.t.e1.p.z ≥ x.aA))
         (cond ((aB x.l.n x.l.n) && (cL 40 x.l.n 1))
          (cond (cond (aB (x.l.n+1) (x.l.n+1)) (aB x.out.n x.out.n) false)
           (.next (⟨x.aA,x.out,(x.l.push x.t22.e1),x.t22,(aH (x.t23+(1:Int))),x.t⟩:aj))
           .fail)
          .fail)
         (cond ((aB x.l.n x.l.n) && (cL 40 x.l.n 1))
          (cond (r7 x).isSome
           (cond ((aB (x.l.n+1) (x.l.n+1)) && (cL 40 (x.l.n+1) 1))
            (cond (cond (aB ((x.l.n+1)+1) ((x.l.n+1)+1)) (aB x.out.n x.out.n) false)
             (.next (⟨x.aA,x.out,((x.l.push x.t22.e1).push ((r7 x).getD default).fst),x.t22,(aH (x.t23+(1:Int))),x.t⟩:aj))
             .fail)
            .fail)
           .fail)
          .fail))
        (cond (decide (x.t.e1.p.z ≥ x.aA))
         (cond (r8 x).isSome
          (cond ((aB x.l.n x.l.n) && (cL 40 x.l.n 1))
           (cond (cond (aB (x.l.n+1) (x.l.n+1)) (aB x.out.n x.out.n) false)
            (.next (⟨x.aA,x.out,(x.l.push ((r8 x).getD default).fst),x.t22,(aH (x.t23+(1:Int))),x.t⟩:aj))
            .fail)
           .fail)
          .fail)
         (cond (cond (aB x.l.n x.l.n) (aB x.out.n x.out.n) false)
          (.next (⟨x.aA,x.out,x.l,x.t22,(aH (x.t23+(1:Int))),x.t⟩:aj))
          .fail)))
       (cond (decide ((Int.tmod (aH (x.t23+(1:Int))) (3:Int))=(2:Int)))
        (cond (decide (x.t22.e1.p.z ≥ x.aA))
         (cond (decide (x.t.e2.p.z ≥ x.aA))
          (cond ((aB x.l.n x.l.n) && (cL 40 x.l.n 1))
           (cond (cond (aB (x.l.n+1) (x.l.n+1)) (aB x.out.n x.out.n) false)
            (.next (⟨x.aA,x.out,(x.l.push x.t22.e1),x.t22,(aH (x.t23+(1:Int))),x.t⟩:aj))
            .fail)
           .fail)
          (cond ((aB x.l.n x.l.n) && (cL 40 x.l.n 1))
           (cond (qi x).isSome
            (cond ((aB (x.l.n+1) (x.l.n+1)) && (cL 40 (x.l.n+1) 1))
             (cond (cond (aB ((x.l.n+1)+1) ((x.l.n+1)+1)) (aB x.out.n x.out.n) false)
              (.next (⟨x.aA,x.out,((x.l.push x.t22.e1).push ((qi x).getD default).fst),x.t22,(aH (x.t23+(1:Int))),x.t⟩:aj))
              .fail)
             .fail)
            .fail)
           .fail))
         (cond (decide (x.t.e2.p.z ≥ x.aA))
          (cond (qj x).isSome
           (cond ((aB x.l.n x.l.n) && (cL 40 x.l.n 1))
            (cond (cond (aB (x.l.n+1) (x.l.n+1)) (aB x.out.n x.out.n) false)
             (.next (⟨x.aA,x.out,(x.l.push ((qj x).getD default).fst),x.t22,(aH (x.t23+(1:Int))),x.t⟩:aj))
             .fail)
            .fail)
           .fail)
          (cond (cond (aB x.l.n x.l.n) (aB x.out.n x.out.n) false)
           (.next (⟨x.aA,x.out,x.l,x.t22,(aH (x.t23+(1:Int))),x.t⟩:aj))
           .fail)))
        .fail)))
     (cond (decide (x.t23=(2:Int)))
      (cond (decide ((Int.tmod (aH (x.t23+(1:Int))) (3:Int))=(0:Int)))
       (cond (decide (x.t22.e2.p.z ≥ x.aA))
        (cond (decide (x.t.e0.p.z ≥ x.aA))
         (cond ((aB x.l.n x.l.n) && (cL 40 x.l.n 1))
          (cond (cond (aB (x.l.n+1) (x.l.n+1)) (aB x.out.n x.out.n) false)
           (.next (⟨x.aA,x.out,(x.l.push x.t22.e2),x.t22,(aH (x.t23+(1:Int))),x.t⟩:aj))
           .fail)
          .fail)
         (cond ((aB x.l.n x.l.n) && (cL 40 x.l.n 1))
          (cond (qk x).isSome
           (cond ((aB (x.l.n+1) (x.l.n+1)) && (cL 40 (x.l.n+1) 1))
            (cond (cond (aB ((x.l.n+1)+1) ((x.l.n+1)+1)) (aB x.out.n x.out.n) false)
             (.next (⟨x.aA,x.out,((x.l.push x.t22.e2).push ((qk x).getD default).fst),x.t22,(aH (x.t23+(1:Int))),x.t⟩:aj))
             .fail)
            .fail)
           .fail)
          .fail))
        (cond (decide (x.t.e0.p.z ≥ x.aA))
         (cond (ql x).isSome
          (cond ((aB x.l.n x.l.n) && (cL 40 x.l.n 1))
           (cond (cond (aB (x.l.n+1) (x.l.n+1)) (aB x.out.n x.out.n) false)
            (.next (⟨x.aA,x.out,(x.l.push ((ql x).getD default).fst),x.t22,(aH (x.t23+(1:Int))),x.t⟩:aj))
            .fail)
           .fail)
          .fail)
         (cond (cond (aB x.l.n x.l.n) (aB x.out.n x.out.n) false)
          (.next (⟨x.aA,x.out,x.l,x.t22,(aH (x.t23+(1:Int))),x.t⟩:aj))
          .fail)))
       (cond (decide ((Int.tmod (aH (x.t23+(1:Int))) (3:Int))=(1:Int)))
        (cond (decide (x.t22.e2.p.z ≥ x.aA))
         (cond (decide (x.t.e1.p.z ≥ x.aA))
          (cond ((aB x.l.n x.l.n) && (cL 40 x.l.n 1))
           (cond (cond (aB (x.l.n+1) (x.l.n+1)) (aB x.out.n x.out.n) false)
            (.next (⟨x.aA,x.out,(x.l.push x.t22.e2),x.t22,(aH (x.t23+(1:Int))),x.t⟩:aj))
            .fail)
           .fail)
          (cond ((aB x.l.n x.l.n) && (cL 40 x.l.n 1))
           (cond (qm x).isSome
            (cond ((aB (x.l.n+1) (x.l.n+1)) && (cL 40 (x.l.n+1) 1))
             (cond (cond (aB ((x.l.n+1)+1) ((x.l.n+1)+1)) (aB x.out.n x.out.n) false)
              (.next (⟨x.aA,x.out,((x.l.push x.t22.e2).push ((qm x).getD default).fst),x.t22,(aH (x.t23+(1:Int))),x.t⟩:aj))
              .fail)
             .fail)
            .fail)
           .fail))
         (cond (decide (x.t.e1.p.z ≥ x.aA))
          (cond (qn x).isSome
           (cond ((aB x.l.n x.l.n) && (cL 40 x.l.n 1))
            (cond (cond (aB (x.l.n+1) (x.l.n+1)) (aB x.out.n x.out.n) false)
             (.next (⟨x.aA,x.out,(x.l.push ((qn x).getD default).fst),x.t22,(aH (x.t23+(1:Int))),x.t⟩:aj))
             .fail)
            .fail)
           .fail)
          (cond (cond (aB x.l.n x.l.n) (aB x.out.n x.out.n) false)
           (.next (⟨x.aA,x.out,x.l,x.t22,(aH (x.t23+(1:Int))),x.t⟩:aj))
           .fail)))
        (cond (decide ((Int.tmod (aH (x.t23+(1:Int))) (3:Int))=(2:Int)))
         (cond (decide (x.t22.e2.p.z ≥ x.aA))
          (cond (decide (x.t.e2.p.z ≥ x.aA))
           (cond ((aB x.l.n x.l.n) && (cL 40 x.l.n 1))
            (cond (cond (aB (x.l.n+1) (x.l.n+1)) (aB x.out.n x.out.n) false)
             (.next (⟨x.aA,x.out,(x.l.push x.t22.e2),x.t22,(aH (x.t23+(1:Int))),x.t⟩:aj))
             .fail)
            .fail)
           (cond ((aB x.l.n x.l.n) && (cL 40 x.l.n 1))
            (cond (qo x).isSome
             (cond ((aB (x.l.n+1) (x.l.n+1)) && (cL 40 (x.l.n+1) 1))
              (cond (cond (aB ((x.l.n+1)+1) ((x.l.n+1)+1)) (aB x.out.n x.out.n) false)
               (.next (⟨x.aA,x.out,((x.l.push x.t22.e2).push ((qo x).getD default).fst),x.t22,(aH (x.t23+(1:Int))),x.t⟩:aj))
               .fail)
              .fail)
             .fail)
            .fail))
          (cond (decide (x.t.e2.p.z ≥ x.aA))
           (cond (qp x).isSome
            (cond ((aB x.l.n x.l.n) && (cL 40 x.l.n 1))
             (cond (cond (aB (x.l.n+1) (x.l.n+1)) (aB x.out.n x.out.n) false)
              (.next (⟨x.aA,x.out,(x.l.push ((qp x).getD default).fst),x.t22,(aH (x.t23+(1:Int))),x.t⟩:aj))
              .fail)
             .fail)
            .fail)
           (cond (cond (aB x.l.n x.l.n) (aB x.out.n x.out.n) false)
            (.next (⟨x.aA,x.out,x.l,x.t22,(aH (x.t23+(1:Int))),x.t⟩:aj))
            .fail)))
         .fail)))
      .fail)))
   (cond (cond (aB x.l.n x.l.n) (aB x.out.n x.out.n) false)
    (.out (aV.au.exit 0) x)
    .fail))
theorem HV (x:aj):Na (oo x) (oq x)=bK.enc oo oq (dW x):=by
  unfold dW
  try simp only [bK.ej,abi,acK]
  kernel_rfl
def mA:Lp:=⟨111,122,BP,fun vs rs=>fg oo oq (goN dW (zk vs rs)) [aV.au.exit 0]⟩
theorem zl:mA.Ok Try.prog:=cN funcs mixed (ai.cons yp (ai.cons ke ai.nil)) ay.nil (L:=9) (n:=9) (step:=dW) (ev:=oo) (er:=oq) (pa:=zk) rfl (fun wv wr=>⟨by kernel_rfl,by kernel_rfl⟩) HV
theorem wm:cB Try.prog mA.f mA.p=true:=by kernel_rfl
structure ek where
  out:(Sl bZ)
  l:(Sl bg)
  i:Int
instance:Inhabited ek:=⟨⟨default,default,default⟩⟩
def ot (x:ek):List KV:=[fQ 181 kC x.out,fQ 180 iM x.l,.int .i64 x.i]
def ou (x:ek):List (List KV):=[]
def zm (vs:List KV) (rs:List (List KV)):ek:=⟨gh lM (vs.getD 0 .av),gh fq (vs.getD 1 .av),intOf (vs.getD 2 .av)⟩
def BQ:ba:=⟨[(4,⟨false,[.aJ 181]⟩),(7,⟨false,[.aJ 180]⟩),(15,⟨false,[.k (.int .i64)]⟩)],[],[]⟩
def Nb:=eR Try.prog (bx Try.prog [(129,zg),(130,lL)] [mA] (fun _=>false) false true) 9 9 111 250 (fp Try.prog 111 250) BQ
def fY (x:ek):bK ek:=
  (cond (decide (x.i < ((x.l.n:Nat):Int)))
   (cond (decide ((0:Int) < ((x.l.n:Nat):Int)))
    (cond ((decide ((0:Int)≤(aH (x.i - (1:Int))))) && (decide ((aH (x.i - (1:Int))) < ((x.l.n:Nat):Int))))
     (cond ((decide ((0:Int)≤x.i)) && (decide (x.i < ((x.l.n:Nat):Int))))
      (cond ((aB x.out.n x.out.n) && (cL 120 x.out.n 1))
       (cond (cond (aB x.l.n x.l.n) (aB (x.out.n+1) (x.out.n+1)) false)
        (.next (⟨(x.out.push (⟨(x.l.get 0),(x.l.get (Int.toNat (aH (x.i - (1:Int))))),(x.l.get (Int.toNat x.i))⟩:bZ)),x.l,(aH (x.i+(1:Int)))⟩:ek))
        .fail)
       .fail)
      .fail)
     .fail)
    .fail)
   (cond (cond (aB x.l.n x.l.n) (aB x.out.n x.out.n) false)
    (.out (aV.au.exit 2) x)
    .fail))
theorem HW (x:ek):Nb (ot x) (ou x)=bK.enc ot ou (fY x):=by
  unfold fY
  try simp only [bK.ej,Vb]
  kernel_rfl
def pQ:Lp:=⟨111,250,BQ,fun vs rs=>fg ot ou (goN fY (zm vs rs)) [aV.au.exit 2]⟩
theorem Nc:pQ.Ok Try.prog:=cN funcs mixed (ai.cons yp (ai.cons ke ai.nil)) (ay.cons zl wm ay.nil) (L:=9) (n:=9) (step:=fY) (ev:=ot) (er:=ou) (pa:=zm) rfl (fun wv wr=>⟨by kernel_rfl,by kernel_rfl⟩) HW
theorem Gv:cB Try.prog pQ.f pQ.p=true:=by kernel_rfl
def I3:List (Nat×(List KV→KR KV)):=[(129,zg),(130,lL)]
def I4:List Lp:=[mA,pQ]
theorem Rx:ai Try.prog I3:=(ai.cons yp (ai.cons ke ai.nil))
theorem Ry:ay Try.prog I4:=(ay.cons zl wm (ay.cons Nc Gv ay.nil))
def o6 (aA:Int) (t:bZ):(Option Int):=(gA t.e0)
def bC (aA:Int) (t:bZ):(bK aj):=(goN dW (⟨aA,(⟨0,(fun i=>(⟨(⟨(⟨(0:Int),(0:Int),(0:Int)⟩:ct),(0:Int),(0:Int)⟩:bg),(⟨(⟨(0:Int),(0:Int),(0:Int)⟩:ct),(0:Int),(0:Int)⟩:bg),(⟨(⟨(0:Int),(0:Int),(0:Int)⟩:ct),(0:Int),(0:Int)⟩:bg)⟩:bZ))⟩:Sl _),(⟨0,(fun i=>(⟨(⟨(0:Int),(0:Int),(0:Int)⟩:ct),(0:Int),(0:Int)⟩:bg))⟩:Sl _),t,(0:Int),t⟩:aj))
def en (aA:Int) (t:bZ):(bK ek):=(goN fY (⟨(bC aA t).st.out,(bC aA t).st.l,(2:Int)⟩:ek))
def o7 (aA:Int) (t:bZ):(Option Int):=(gA t.e1)
def o8 (aA:Int) (t:bZ):(Option Int):=(gA t.e2)
def pR (aA:Int) (t:bZ):Option ((Sl bZ)×Int):=
  (cond (decide (aA < (256:Int)))
   (some ((⟨0,(fun i=>(⟨(⟨(⟨(0:Int),(0:Int),(0:Int)⟩:ct),(0:Int),(0:Int)⟩:bg),(⟨(⟨(0:Int),(0:Int),(0:Int)⟩:ct),(0:Int),(0:Int)⟩:bg),(⟨(⟨(0:Int),(0:Int),(0:Int)⟩:ct),(0:Int),(0:Int)⟩:bg)⟩:bZ))⟩:Sl _),(2:Int)))
   (cond (decide (aA > (4096:Int)))
    (some ((⟨0,(fun i=>(⟨(⟨(⟨(0:Int),(0:Int),(0:Int)⟩:ct),(0:Int),(0:Int)⟩:bg),(⟨(⟨(0:Int),(0:Int),(0:Int)⟩:ct),(0:Int),(0:Int)⟩:bg),(⟨(⟨(0:Int),(0:Int),(0:Int)⟩:ct),(0:Int),(0:Int)⟩:bg)⟩:bZ))⟩:Sl _),(2:Int)))
    (cond (o6 aA t).isSome
     (cond (((o6 aA t).getD default) != (0:Int))
      (cond (((o6 aA t).getD default) != (0:Int))
       (some ((⟨0,(fun i=>(⟨(⟨(⟨(0:Int),(0:Int),(0:Int)⟩:ct),(0:Int),(0:Int)⟩:bg),(⟨(⟨(0:Int),(0:Int),(0:Int)⟩:ct),(0:Int),(0:Int)⟩:bg),(⟨(⟨(0:Int),(0:Int),(0:Int)⟩:ct),(0:Int),(0:Int)⟩:bg)⟩:bZ))⟩:Sl _),((o6 aA t).getD default)))
       (cond ((bC aA t).by (aV.au.exit 0))
        (cond (cond (aB (bC aA t).st.l.n (bC aA t).st.l.n) (aB (bC aA t).st.out.n (bC aA t).st.out.n) false)
         (cond ((en aA t).by (aV.au.exit 2))
          (some ((en aA t).st.out,(0:Int)))
          none)
         none)
        none))
      (cond (o7 aA t).isSome
       (cond (((o7 aA t).getD default) != (0:Int))
        (cond (((o7 aA t).getD default) != (0:Int))
         (some ((⟨0,(fun i=>(⟨(⟨(⟨(0:Int),(0:Int),(0:Int)⟩:ct),(0:Int),(0:Int)⟩:bg),(⟨(⟨(0:Int),(0:Int),(0:Int)⟩:ct),(0:Int),(0:Int)⟩:bg),(⟨(⟨(0:Int),(0:Int),(0:Int)⟩:ct),(0:Int),(0:Int)⟩:bg)⟩:bZ))⟩:Sl _),((o7 aA t).getD default)))
         (cond ((bC aA t).by (aV.au.exit 0))
          (cond (cond (aB (bC aA t).st.l.n (bC aA t).st.l.n) (aB (bC aA t).st.out.n (bC aA t).st.out.n) false)
           (cond ((en aA t).by (aV.au.exit 2))
            (some ((en aA t).st.out,(0:Int)))
            none)
           none)
          none))
        (cond (o8 aA t).isSome
         (cond (((o8 aA t).getD default) != (0:Int))
          (cond (((o8 aA t).getD default) != (0:Int))
           (some ((⟨0,(fun i=>(⟨(⟨(⟨(0:Int),(0:Int),(0:Int)⟩:ct),(0:Int),(0:Int)⟩:bg),(⟨(⟨(0:Int),(0:Int),(0:Int)⟩:ct),(0:Int),(0:Int)⟩:bg),(⟨(⟨(0:Int),(0:Int),(0:Int)⟩:ct),(0:Int),(0:Int)⟩:bg)⟩:bZ))⟩:Sl _),((o8 aA t).getD default)))
           (cond ((bC aA t).by (aV.au.exit 0))
            (cond (cond (aB (bC aA t).st.l.n (bC aA t).st.l.n) (aB (bC aA t).st.out.n (bC aA t).st.out.n) false)
             (cond ((en aA t).by (aV.au.exit 2))
              (some ((en aA t).st.out,(0:Int)))
              none)
             none)
            none))
          (cond ((bC aA t).by (aV.au.exit 0))
           (cond (cond (aB (bC aA t).st.l.n (bC aA t).st.l.n) (aB (bC aA t).st.out.n (bC aA t).st.out.n) false)
            (cond ((en aA t).by (aV.au.exit 2))
             (some ((en aA t).st.out,(0:Int)))
             none)
            none)
           none))
         none))
       none))
     none)))
theorem Vc (aA:Int) (t:bZ):cm Try.prog (bx Try.prog I3 I4 (fun _=>false) false true) 9 9 111 [(kI .i64) aA,kC t] = (pR aA t).map (fun (r:(Sl bZ)×Int)=>KV.fI [(fQ 181 kC) r.1,(kI .i64) r.2]):=by
  unfold pR
  try simp only [bu]
  kernel_rfl
def De:List KV→KR KV:=bQ Try.prog 111 (bV (fun (r:(Sl bZ)×Int)=>KV.fI [(fQ 181 kC) r.1,(kI .i64) r.2]) fun vs=>pR (intOf (vs.getD 0 .av)) (lM (vs.getD 1 .av)))
theorem Rz (w:Nat→KV):bU Try.prog [3,181] w 0 = [(kI .i64) (intOf (ao Try.prog (ae Try.prog ah) 3 (w 0))),kC (lM (ao Try.prog (ae Try.prog ah) 181 (w 1)))]:=by kernel_rfl
theorem DZ:bD Try.prog 111 De:=aR funcs mixed Rx Ry (L:=9) (n:=9) fun w=>by
  have e:aC Try.prog 111 = [3,181]:=by kernel_rfl
  rw [e,Rz]
  exact (Vc (intOf (ao Try.prog (ae Try.prog ah) 3 (w 0))) (lM (ao Try.prog (ae Try.prog ah) 181 (w 1)))).trans (by kernel_rfl)
end
end Go.Proofs.Ytahhdndhkgbcjaa.b
end
section
namespace Go.Proofs.Ytahhdndhkgbcjaa.b
open Go.K
set_option linter.unusedVariables false
set_option linter.unusedSimpArgs false
noncomputable section
def Vd:List (Nat×(List KV→KR KV)):=[]
def Ve:List Lp:=[]
theorem Za:ai Try.prog Vd:=ai.nil
theorem Zb:ay Try.prog Ve:=ay.nil
def sI (n:Int):Option (Bool):=
  (cond (decide (n ≥ (-(32768:Int))))
   (some ((decide (n≤(32768:Int)))))
   (some (false)))
theorem abp (n:Int):cm Try.prog (bx Try.prog Vd Ve (fun _=>false)) 9 9 125 [(kI .i64) n] = (sI n).map kB:=by
  unfold sI
  try simp only [bu]
  kernel_rfl
def HB:List KV→KR KV:=bQ Try.prog 125 (bV kB fun vs=>sI (intOf (vs.getD 0 .av)))
theorem Zc (w:Nat→KV):bU Try.prog [3] w 0 = [(kI .i64) (intOf (ao Try.prog (ae Try.prog ah) 3 (w 0)))]:=by kernel_rfl
theorem Df:bD Try.prog 125 HB:=aR funcs mixed Za Zb (L:=9) (n:=9) fun w=>by
  have e:aC Try.prog 125 = [3]:=by kernel_rfl
  rw [e,Zc]
  exact (abp (intOf (ao Try.prog (ae Try.prog ah) 3 (w 0)))).trans (by kernel_rfl)
structure oD where
  low:ct
  high:ct
instance:Inhabited oD:=⟨⟨default,default⟩⟩
def agI (x:oD):List KV:=[.int .i64 x.low.x,.int .i64 x.low.y,.int .i64 x.low.z,.int .i64 x.high.x,.int .i64 x.high.y,.int .i64 x.high.z]
def uu (x:oD):KV:=.agg (agI x)
def agJ (c:Nat→KV):oD:=⟨⟨intOf (c 0),intOf (c 1),intOf (c 2)⟩,⟨intOf (c 3),intOf (c 4),intOf (c 5)⟩⟩
def Nd (v:KV):oD:=agJ fun k=>v.cells.getD k .av
structure Span where
  low:Int
  high:Int
instance:Inhabited Span:=⟨⟨default,default⟩⟩
def ajj (x:Span):List KV:=[.int .i64 x.low,.int .i64 x.high]
def kSpan (x:Span):KV:=.agg (ajj x)
structure tN where
  e0:Span
  e1:Span
  e2:Span
instance:Inhabited tN:=⟨⟨default,default,default⟩⟩
def aeN (x:tN):List KV:=[.int .i64 x.e0.low,.int .i64 x.e0.high,.int .i64 x.e1.low,.int .i64 x.e1.high,.int .i64 x.e2.low,.int .i64 x.e2.high]
def HC (x:tN):KV:=.agg (aeN x)
def aeO (c:Nat→KV):tN:=⟨⟨intOf (c 0),intOf (c 1)⟩,⟨intOf (c 2),intOf (c 3)⟩,⟨intOf (c 4),intOf (c 5)⟩⟩
def Px (v:KV):tN:=aeO fun k=>v.cells.getD k .av
def I5:List (Nat×(List KV→KR KV)):=[]
def I6:List Lp:=[]
theorem RA:ai Try.prog I5:=ai.nil
theorem RB:ay Try.prog I6:=ay.nil
def Dg (b:oD):Option (tN):=
  (some ((⟨(⟨b.low.x,b.high.x⟩:Span),(⟨b.low.y,b.high.y⟩:Span),(⟨b.low.z,b.high.z⟩:Span)⟩:tN)))
theorem Vf (b:oD):cm Try.prog (bx Try.prog I5 I6 (fun _=>false)) 9 9 136 [uu b] = (Dg b).map HC:=by
  unfold Dg
  kernel_rfl
def Nf:List KV→KR KV:=bQ Try.prog 136 (bV HC fun vs=>Dg (Nd (vs.getD 0 .av)))
theorem RC (w:Nat→KV):bU Try.prog [43] w 0 = [uu (Nd (ao Try.prog (ae Try.prog ah) 43 (w 0)))]:=by kernel_rfl
theorem RD:bD Try.prog 136 Nf:=aR funcs mixed RA RB (L:=9) (n:=9) fun w=>by
  have e:aC Try.prog 136 = [43]:=by kernel_rfl
  rw [e,RC]
  exact (Vf (Nd (ao Try.prog (ae Try.prog ah) 43 (w 0)))).trans (by kernel_rfl)
def I7:List (Nat×(List KV→KR KV)):=[]
def I8:List Lp:=[]
theorem RE:ai Try.prog I7:=ai.nil
theorem RF:ay Try.prog I8:=ay.nil
def Dh (s:tN):Option (oD):=
  (some ((⟨(⟨s.e0.low,s.e1.low,s.e2.low⟩:ct),(⟨s.e0.high,s.e1.high,s.e2.high⟩:ct)⟩:oD)))
theorem Vg (s:tN):cm Try.prog (bx Try.prog I7 I8 (fun _=>false)) 9 9 137 [HC s] = (Dh s).map uu:=by
  unfold Dh
  kernel_rfl
def Ng:List KV→KR KV:=bQ Try.prog 137 (bV uu fun vs=>Dh (Px (vs.getD 0 .av)))
theorem RG (w:Nat→KV):bU Try.prog [217] w 0 = [HC (Px (ao Try.prog (ae Try.prog ah) 217 (w 0)))]:=by kernel_rfl
theorem RH:bD Try.prog 137 Ng:=aR funcs mixed RE RF (L:=9) (n:=9) fun w=>by
  have e:aC Try.prog 137 = [217]:=by kernel_rfl
  rw [e,RG]
  exact (Vg (Px (ao Try.prog (ae Try.prog ah) 217 (w 0)))).trans (by kernel_rfl)
def Nh:List (Nat×(List KV→KR KV)):=[(137,Ng),(136,Nf)]
def Ni:List Lp:=[]
theorem Vh:ai Try.prog Nh:=(ai.cons RH (ai.cons RD ai.nil))
theorem Vi:ay Try.prog Ni:=ay.nil
def Gw (a:oD) (b:oD):Option (oD):=
  (some ((⟨(⟨(min a.low.x b.low.x),(min a.low.y b.low.y),(min a.low.z b.low.z)⟩:ct),(⟨(max a.high.x b.high.x),(max a.high.y b.high.y),(max a.high.z b.high.z)⟩:ct)⟩:oD)))
theorem Wq (a:oD) (b:oD):cm Try.prog (bx Try.prog Nh Ni (fun _=>false)) 9 9 126 [uu a,uu b] = (Gw a b).map uu:=by
  unfold Gw
  kernel_rfl
def zn:List KV→KR KV:=bQ Try.prog 126 (bV uu fun vs=>Gw (Nd (vs.getD 0 .av)) (Nd (vs.getD 1 .av)))
theorem Vj (w:Nat→KV):bU Try.prog [43,43] w 0 = [uu (Nd (ao Try.prog (ae Try.prog ah) 43 (w 0))),uu (Nd (ao Try.prog (ae Try.prog ah) 43 (w 1)))]:=by kernel_rfl
theorem yv:bD Try.prog 126 zn:=aR funcs mixed Vh Vi (L:=9) (n:=9) fun w=>by
  have e:aC Try.prog 126 = [43,43]:=by kernel_rfl
  rw [e,Vj]
  exact (Wq (Nd (ao Try.prog (ae Try.prog ah) 43 (w 0))) (Nd (ao Try.prog (ae Try.prog ah) 43 (w 1)))).trans (by kernel_rfl)
structure dX where
  l:(Sl ct)
  e:Int
  t17:(Sl ct)
  t18:Int
  t19:Int
  b:oD
instance:Inhabited dX:=⟨⟨default,default,default,default,default,default⟩⟩
def vH (x:dX):List KV:=[fQ 41 qI x.l,.int .i64 x.e,fQ 41 qI x.t17,.int .i64 x.t18,.int .i64 x.t19]
def vI (x:dX):List (List KV):=[agI x.b]
def I9 (vs:List KV) (rs:List (List KV)):dX:=⟨gh sC (vs.getD 0 .av),intOf (vs.getD 1 .av),gh sC (vs.getD 2 .av),intOf (vs.getD 3 .av),intOf (vs.getD 4 .av),agJ (fun k=>(rs.getD 0 []).getD k .av)⟩
def Nj:ba:=⟨[(0,⟨false,[.k (.slice 41)]⟩),(3,⟨false,[.k (.int .i64)]⟩),(17,⟨false,[.k (.slice 41)]⟩),(18,⟨false,[.k (.int .i64)]⟩),(19,⟨false,[.k (.int .i64)]⟩)],[(2,[.k (.int .i64),.k (.int .i64),.k (.int .i64),.k (.int .i64),.k (.int .i64),.k (.int .i64)],1)],[(2,0,0)]⟩
def Wr:=eR Try.prog (bx Try.prog [(126,zn),(125,HB)] [] (fun _=>false)) 9 9 109 58 (fp Try.prog 109 58) Nj
def tP (x:dX):(Option Bool):=(sI (x.t17.get (Int.toNat x.t19)).x)
def tQ (x:dX):(Option Bool):=(sI (x.t17.get (Int.toNat x.t19)).y)
def tR (x:dX):(Option Bool):=(sI (x.t17.get (Int.toNat x.t19)).z)
def jM (x:dX):bK dX:=
  (cond (decide (x.t19 < x.t18))
   (cond ((decide ((0:Int)≤x.t19)) && (decide (x.t19 < ((x.t17.n:Nat):Int))))
    (cond (tP x).isSome
     (cond (!((tP x).getD default))
      (.out aV.au.ret (⟨x.l,(20:Int),x.t17,x.t18,x.t19,(⟨(⟨(0:Int),(0:Int),(0:Int)⟩:ct),(⟨(0:Int),(0:Int),(0:Int)⟩:ct)⟩:oD)⟩:dX))
      (cond (tQ x).isSome
       (cond (!((tQ x).getD default))
        (.out aV.au.ret (⟨x.l,(20:Int),x.t17,x.t18,x.t19,(⟨(⟨(0:Int),(0:Int),(0:Int)⟩:ct),(⟨(0:Int),(0:Int),(0:Int)⟩:ct)⟩:oD)⟩:dX))
        (cond (tR x).isSome
         (cond (!((tR x).getD default))
          (.out aV.au.ret (⟨x.l,(20:Int),x.t17,x.t18,x.t19,(⟨(⟨(0:Int),(0:Int),(0:Int)⟩:ct),(⟨(0:Int),(0:Int),(0:Int)⟩:ct)⟩:oD)⟩:dX))
          (.next (⟨x.l,x.e,x.t17,x.t18,(aH (x.t19+(1:Int))),x.b⟩:dX)))
         .fail))
       .fail))
     .fail)
    .fail)
   (.out (aV.au.exit 0) x))
theorem RI (x:dX):Wr (vH x) (vI x)=bK.enc vH vI (jM x):=by
  unfold jM
  try simp only [bK.ej]
  kernel_rfl
def tS:Lp:=⟨109,58,Nj,fun vs rs=>fg vH vI (goN jM (I9 vs rs)) [aV.au.exit 0,aV.au.ret]⟩
theorem Ja:tS.Ok Try.prog:=cN funcs mixed (ai.cons yv (ai.cons Df ai.nil)) ay.nil (L:=9) (n:=9) (step:=jM) (ev:=vH) (er:=vI) (pa:=I9) rfl (fun wv wr=>⟨by kernel_rfl,by kernel_rfl⟩) RI
theorem BR:cB Try.prog tS.f tS.p=true:=by kernel_rfl
structure gC where
  t49:(Sl ct)
  t50:Int
  t51:Int
  b:oD
instance:Inhabited gC:=⟨⟨default,default,default,default⟩⟩
def tT (x:gC):List KV:=[fQ 41 qI x.t49,.int .i64 x.t50,.int .i64 x.t51]
def tU (x:gC):List (List KV):=[agI x.b]
def Gx (vs:List KV) (rs:List (List KV)):gC:=⟨gh sC (vs.getD 0 .av),intOf (vs.getD 1 .av),intOf (vs.getD 2 .av),agJ (fun k=>(rs.getD 0 []).getD k .av)⟩
def Jb:ba:=⟨[(49,⟨false,[.k (.slice 41)]⟩),(50,⟨false,[.k (.int .i64)]⟩),(51,⟨false,[.k (.int .i64)]⟩)],[(2,[.k (.int .i64),.k (.int .i64),.k (.int .i64),.k (.int .i64),.k (.int .i64),.k (.int .i64)],1)],[(2,0,0)]⟩
def Vk:=eR Try.prog (bx Try.prog [(126,zn),(125,HB)] [tS] (fun _=>false)) 9 9 109 250 (fp Try.prog 109 250) Jb
def gZ (x:gC):bK gC:=
  (cond (decide (x.t51 < x.t50))
   (cond ((decide ((0:Int)≤x.t51)) && (decide (x.t51 < ((x.t49.n:Nat):Int))))
    (.next (⟨x.t49,x.t50,(aH (x.t51+(1:Int))),(⟨(⟨(min x.b.low.x (x.t49.get (Int.toNat x.t51)).x),(min x.b.low.y (x.t49.get (Int.toNat x.t51)).y),(min x.b.low.z (x.t49.get (Int.toNat x.t51)).z)⟩:ct),(⟨(max x.b.high.x (x.t49.get (Int.toNat x.t51)).x),(max x.b.high.y (x.t49.get (Int.toNat x.t51)).y),(max x.b.high.z (x.t49.get (Int.toNat x.t51)).z)⟩:ct)⟩:oD)⟩:gC))
    .fail)
   (.out (aV.au.exit 2) x))
theorem Py (x:gC):Vk (tT x) (tU x)=bK.enc tT tU (gZ x):=by
  unfold gZ
  try simp only [bK.ej]
  kernel_rfl
def vJ:Lp:=⟨109,250,Jb,fun vs rs=>fg tT tU (goN gZ (Gx vs rs)) [aV.au.exit 2]⟩
theorem Vl:vJ.Ok Try.prog:=cN funcs mixed (ai.cons yv (ai.cons Df ai.nil)) (ay.cons Ja BR ay.nil) (L:=9) (n:=9) (step:=gZ) (ev:=tT) (er:=tU) (pa:=Gx) rfl (fun wv wr=>⟨by kernel_rfl,by kernel_rfl⟩) Py
theorem Nk:cB Try.prog vJ.f vJ.p=true:=by kernel_rfl
def Vm:List (Nat×(List KV→KR KV)):=[(126,zn),(125,HB)]
def Vn:List Lp:=[tS,vJ]
theorem Zd:ai Try.prog Vm:=(ai.cons yv (ai.cons Df ai.nil))
theorem Ze:ay Try.prog Vn:=(ay.cons Ja BR (ay.cons Vl Nk ay.nil))
def dw (l:(Sl ct)):(bK dX):=(goN jM (⟨l,(0:Int),l,((l.n:Nat):Int),(0:Int),(⟨(⟨(0:Int),(0:Int),(0:Int)⟩:ct),(⟨(0:Int),(0:Int),(0:Int)⟩:ct)⟩:oD)⟩:dX))
def wo (l:(Sl ct)):(bK gC):=(goN gZ (⟨(⟨((Int.toNat (((dw l).st.l.n:Nat):Int)) - 1),(fun i=>((dw l).st.l.get (1+i)))⟩:Sl _),((((Int.toNat (((dw l).st.l.n:Nat):Int)) - 1):Nat):Int),(0:Int),(⟨((dw l).st.l.get 0),((dw l).st.l.get 0)⟩:oD)⟩:gC))
def xJ (l:(Sl ct)):Option (oD×Int):=
  (cond (((l.n:Nat):Int) == (0:Int))
   (some ((⟨(⟨(0:Int),(0:Int),(0:Int)⟩:ct),(⟨(0:Int),(0:Int),(0:Int)⟩:ct)⟩:oD),(4:Int)))
   (cond (decide (((l.n:Nat):Int) > (4096:Int)))
    (some ((⟨(⟨(0:Int),(0:Int),(0:Int)⟩:ct),(⟨(0:Int),(0:Int),(0:Int)⟩:ct)⟩:oD),(4:Int)))
    (cond ((dw l).by (aV.au.exit 0))
     (cond (decide ((0:Int) < (((dw l).st.l.n:Nat):Int)))
      (cond (decide ((0:Int) < (((dw l).st.l.n:Nat):Int)))
       (cond ((decide ((1:Int)≤(((dw l).st.l.n:Nat):Int))) && (decide ((((dw l).st.l.n:Nat):Int)≤(((dw l).st.l.n:Nat):Int))))
        (cond ((wo l).by (aV.au.exit 2))
         (some ((wo l).st.b,(0:Int)))
         none)
        none)
       none)
      none)
     (cond ((dw l).by aV.au.ret)
      (some ((dw l).st.b,(dw l).st.e))
      none))))
theorem abq (l:(Sl ct)):cm Try.prog (bx Try.prog Vm Vn (fun _=>false)) 9 9 109 [(fQ 41 qI) l] = (xJ l).map (fun (r:oD×Int)=>KV.fI [uu r.1,(kI .i64) r.2]):=by
  unfold xJ
  try simp only [bu]
  kernel_rfl
def HD:List KV→KR KV:=bQ Try.prog 109 (bV (fun (r:oD×Int)=>KV.fI [uu r.1,(kI .i64) r.2]) fun vs=>xJ ((gh sC) (vs.getD 0 .av)))
theorem Zf (w:Nat→KV):bU Try.prog [33] w 0 = [(fQ 41 qI) ((gh sC) (ao Try.prog (ae Try.prog ah) 33 (w 0)))]:=by kernel_rfl
theorem Di:bD Try.prog 109 HD:=aR funcs mixed Zd Ze (L:=9) (n:=9) fun w=>by
  have e:aC Try.prog 109 = [33]:=by kernel_rfl
  rw [e,Zf]
  exact (abq ((gh sC) (ao Try.prog (ae Try.prog ah) 33 (w 0)))).trans (by kernel_rfl)
def BS:List (Nat×(List KV→KR KV)):=[]
def BT:List Lp:=[]
theorem Kr:ai Try.prog BS:=ai.nil
theorem Ks:ay Try.prog BT:=ay.nil
def jN (n:Int):Option (Bool):=
  (cond (decide (n > (0:Int)))
   (some ((decide (n≤(16:Int)))))
   (some (false)))
theorem Nl (n:Int):cm Try.prog (bx Try.prog BS BT (fun _=>false)) 9 9 106 [(kI .i64) n] = (jN n).map kB:=by
  unfold jN
  try simp only [bu]
  kernel_rfl
def D0:List KV→KR KV:=bQ Try.prog 106 (bV kB fun vs=>jN (intOf (vs.getD 0 .av)))
theorem Kt (w:Nat→KV):bU Try.prog [3] w 0 = [(kI .i64) (intOf (ao Try.prog (ae Try.prog ah) 3 (w 0)))]:=by kernel_rfl
theorem Ku:bD Try.prog 106 D0:=aR funcs mixed Kr Ks (L:=9) (n:=9) fun w=>by
  have e:aC Try.prog 106 = [3]:=by kernel_rfl
  rw [e,Kt]
  exact (Nl (intOf (ao Try.prog (ae Try.prog ah) 3 (w 0)))).trans (by kernel_rfl)
structure Color where
  e0:Int
  e1:Int
  e2:Int
  e3:Int
instance:Inhabited Color:=⟨⟨default,default,default,default⟩⟩
def ah1 (x:Color):List KV:=[.int .u8 x.e0,.int .u8 x.e1,.int .u8 x.e2,.int .u8 x.e3]
def ah2 (x:Color):KV:=.agg (ah1 x)
def ah3 (c:Nat→KV):Color:=⟨intOf (c 0),intOf (c 1),intOf (c 2),intOf (c 3)⟩
def ah4 (v:KV):Color:=ah3 fun k=>v.cells.getD k .av
structure eo where
  w:Int
  h:Int
  Zg:(Sl Color)
instance:Inhabited eo:=⟨⟨default,default,default⟩⟩
def aeP (x:eo):List KV:=[.int .i64 x.w,.int .i64 x.h,fQ 37 ah2 x.Zg]
def nT (x:eo):KV:=.agg (aeP x)
def aeQ (c:Nat→KV):eo:=⟨intOf (c 0),intOf (c 1),gh ah4 (c 2)⟩
def ki (v:KV):eo:=aeQ fun k=>v.cells.getD k .av
def zo:List (Nat×(List KV→KR KV)):=[(106,D0)]
def zp:List Lp:=[]
theorem HX:ai Try.prog zo:=(ai.cons Ku ai.nil)
theorem HY:ay Try.prog zp:=ay.nil
def r9 (t:eo):(Option Bool):=(jN t.w)
def sa (t:eo):(Option Bool):=(jN t.h)
def kk (t:eo):Option (Int):=
  (cond (r9 t).isSome
   (cond (!((r9 t).getD default))
    (some ((8:Int)))
    (cond (sa t).isSome
     (cond (!((sa t).getD default))
      (some ((8:Int)))
      (cond (((t.Zg.n:Nat):Int) != (aH (t.w * t.h)))
       (some ((8:Int)))
       (some ((0:Int)))))
     none))
   none)
theorem Kv (t:eo):cm Try.prog (bx Try.prog zo zp (fun _=>false)) 9 9 78 [nT t] = (kk t).map (kI .i64):=by
  unfold kk
  try simp only [bu]
  kernel_rfl
def vc:List KV→KR KV:=bQ Try.prog 78 (bV (kI .i64) fun vs=>kk (ki (vs.getD 0 .av)))
theorem HZ (w:Nat→KV):bU Try.prog [108] w 0 = [nT (ki (ao Try.prog (ae Try.prog ah) 108 (w 0)))]:=by kernel_rfl
theorem xb:bD Try.prog 78 vc:=aR funcs mixed HX HY (L:=9) (n:=9) fun w=>by
  have e:aC Try.prog 78 = [108]:=by kernel_rfl
  rw [e,HZ]
  exact (Kv (ki (ao Try.prog (ae Try.prog ah) 108 (w 0)))).trans (by kernel_rfl)
structure cv where
  t2:Int
  t9:(Sl eo)
  t10:Int
  t11:Int
instance:Inhabited cv:=⟨⟨default,default,default,default⟩⟩
def kH (x:cv):List KV:=[.int .i64 x.t2,fQ 108 nT x.t9,.int .i64 x.t10,.int .i64 x.t11]
def kJ (x:cv):List (List KV):=[]
def ux (vs:List KV) (rs:List (List KV)):cv:=⟨intOf (vs.getD 0 .av),gh ki (vs.getD 1 .av),intOf (vs.getD 2 .av),intOf (vs.getD 3 .av)⟩
def wq:ba:=⟨[(2,⟨false,[.k (.int .i64)]⟩),(9,⟨false,[.k (.slice 108)]⟩),(10,⟨false,[.k (.int .i64)]⟩),(11,⟨false,[.k (.int .i64)]⟩)],[],[]⟩
def Ey:=eR Try.prog (bx Try.prog [(78,vc)] [] (fun _=>false)) 9 9 45 58 (fp Try.prog 45 58) wq
def iA (x:cv):(Option Int):=(kk (x.t9.get (Int.toNat x.t11)))
def ep (x:cv):bK cv:=
  (cond (decide (x.t11 < x.t10))
   (cond ((decide ((0:Int)≤x.t11)) && (decide (x.t11 < ((x.t9.n:Nat):Int))))
    (cond (iA x).isSome
     (cond (((iA x).getD default) != (0:Int))
      (.out aV.au.ret (⟨((iA x).getD default),x.t9,x.t10,x.t11⟩:cv))
      (.next (⟨x.t2,x.t9,x.t10,(aH (x.t11+(1:Int)))⟩:cv)))
     .fail)
    .fail)
   (.out (aV.au.exit 0) x))
theorem BU (x:cv):Ey (kH x) (kJ x)=bK.enc kH kJ (ep x):=by
  unfold ep
  try simp only [bK.ej]
  kernel_rfl
def lr:Lp:=⟨45,58,wq,fun vs rs=>fg kH kJ (goN ep (ux vs rs)) [aV.au.exit 0,aV.au.ret]⟩
theorem Ez:lr.Ok Try.prog:=cN funcs mixed (ai.cons xb ai.nil) ay.nil (L:=9) (n:=9) (step:=ep) (ev:=kH) (er:=kJ) (pa:=ux) rfl (fun wv wr=>⟨by kernel_rfl,by kernel_rfl⟩) BU
theorem Ar:cB Try.prog lr.f lr.p=true:=by kernel_rfl
def yw:List (Nat×(List KV→KR KV)):=[(78,vc)]
def yx:List Lp:=[lr]
theorem Gy:ai Try.prog yw:=(ai.cons xb ai.nil)
theorem Gz:ay Try.prog yx:=(ay.cons Ez Ar ay.nil)
def eV (l:(Sl eo)):(bK cv):=(goN ep (⟨(0:Int),l,((l.n:Nat):Int),(0:Int)⟩:cv))
def jD (l:(Sl eo)):Option (Int):=
  (cond (decide (((l.n:Nat):Int) > (16:Int)))
   (some ((4:Int)))
   (cond ((eV l).by (aV.au.exit 0))
    (some ((0:Int)))
    (cond ((eV l).by aV.au.ret)
     (some ((eV l).st.t2))
     none)))
theorem H0 (l:(Sl eo)):cm Try.prog (bx Try.prog yw yx (fun _=>false)) 9 9 45 [(fQ 108 nT) l] = (jD l).map (kI .i64):=by
  unfold jD
  try simp only [bu]
  kernel_rfl
def tV:List KV→KR KV:=bQ Try.prog 45 (bV (kI .i64) fun vs=>jD ((gh ki) (vs.getD 0 .av)))
theorem GA (w:Nat→KV):bU Try.prog [23] w 0 = [(fQ 108 nT) ((gh ki) (ao Try.prog (ae Try.prog ah) 23 (w 0)))]:=by kernel_rfl
theorem wu:bD Try.prog 45 tV:=aR funcs mixed Gy Gz (L:=9) (n:=9) fun w=>by
  have e:aC Try.prog 45 = [23]:=by kernel_rfl
  rw [e,GA]
  exact (H0 ((gh ki) (ao Try.prog (ae Try.prog ah) 23 (w 0)))).trans (by kernel_rfl)
structure yy where
  color:Color
  Nm:Int
  uw:Int
  abr:Int
  agK:Bool
  bin:Int
instance:Inhabited yy:=⟨⟨default,default,default,default,default,default⟩⟩
def ajk (x:yy):List KV:=[.int .u8 x.color.e0,.int .u8 x.color.e1,.int .u8 x.color.e2,.int .u8 x.color.e3,.int .i64 x.Nm,.int .u8 x.uw,.int .i64 x.abr,.bool x.agK,.int .i64 x.bin]
def agL (x:yy):KV:=.agg (ajk x)
def ajl (c:Nat→KV):yy:=⟨⟨intOf (c 0),intOf (c 1),intOf (c 2),intOf (c 3)⟩,intOf (c 4),intOf (c 5),intOf (c 6),lZ (c 7),intOf (c 8)⟩
def acM (v:KV):yy:=ajl fun k=>v.cells.getD k .av
def xc:List (Nat×(List KV→KR KV)):=[]
def xd:List Lp:=[]
theorem EA:ai Try.prog xc:=ai.nil
theorem EB:ay Try.prog xd:=ay.nil
def ja (l:yy) (bj:Int):Option (Int):=
  (cond (decide (bj < (0:Int)))
   (some ((2:Int)))
   (cond (decide (bj > (16:Int)))
    (some ((2:Int)))
    (cond (decide (l.Nm < (-(1:Int))))
     (some ((8:Int)))
     (cond (decide (l.Nm ≥ bj))
      (some ((8:Int)))
      (cond (decide (l.uw > (2:Int)))
       (some ((8:Int)))
       (cond (decide (l.abr < (-(1024:Int))))
        (some ((8:Int)))
        (cond (decide (l.abr > (1024:Int)))
         (some ((8:Int)))
         (cond (decide (l.bin < (0:Int)))
          (some ((8:Int)))
          (cond (decide (l.bin > (15:Int)))
           (some ((8:Int)))
           (some ((0:Int))))))))))))
theorem GB (l:yy) (bj:Int):cm Try.prog (bx Try.prog xc xd (fun _=>false)) 9 9 46 [agL l,(kI .i64) bj] = (ja l bj).map (kI .i64):=by
  unfold ja
  try simp only [bu]
  kernel_rfl
def nf:List KV→KR KV:=bQ Try.prog 46 (bV (kI .i64) fun vs=>ja (acM (vs.getD 0 .av)) (intOf (vs.getD 1 .av)))
theorem EC (w:Nat→KV):bU Try.prog [39,3] w 0 = [agL (acM (ao Try.prog (ae Try.prog ah) 39 (w 0))),(kI .i64) (intOf (ao Try.prog (ae Try.prog ah) 3 (w 1)))]:=by kernel_rfl
theorem nZ:bD Try.prog 46 nf:=aR funcs mixed EA EB (L:=9) (n:=9) fun w=>by
  have e:aC Try.prog 46 = [39,3]:=by kernel_rfl
  rw [e,EC]
  exact (GB (acM (ao Try.prog (ae Try.prog ah) 39 (w 0))) (intOf (ao Try.prog (ae Try.prog ah) 3 (w 1)))).trans (by kernel_rfl)
structure re where
  e0:Int
  e1:Int
instance:Inhabited re:=⟨⟨default,default⟩⟩
def agM (x:re):List KV:=[.int .i64 x.e0,.int .i64 x.e1]
def agN (x:re):KV:=.agg (agM x)
def agO (c:Nat→KV):re:=⟨intOf (c 0),intOf (c 1)⟩
def agP (v:KV):re:=agO fun k=>v.cells.getD k .av
structure Item where
  dH:(Sl ct)
  uV:(Sl re)
  cZ:(Sl dc)
  look:yy
  box:oD
instance:Inhabited Item:=⟨⟨default,default,default,default,default⟩⟩
def Pz (x:Item):List KV:=[fQ 41 qI x.dH,fQ 176 agN x.uV,fQ 50 nH x.cZ,.int .u8 x.look.color.e0,.int .u8 x.look.color.e1,.int .u8 x.look.color.e2,.int .u8 x.look.color.e3,.int .i64 x.look.Nm,.int .u8 x.look.uw,.int .i64 x.look.abr,.bool x.look.agK,.int .i64 x.look.bin,.int .i64 x.box.low.x,.int .i64 x.box.low.y,.int .i64 x.box.low.z,.int .i64 x.box.high.x,.int .i64 x.box.high.y,.int .i64 x.box.high.z]
def GC (x:Item):KV:=.agg (Pz x)
def PA (c:Nat→KV):Item:=⟨gh sC (c 0),gh agP (c 1),gh wk (c 2),⟨⟨intOf (c 3),intOf (c 4),intOf (c 5),intOf (c 6)⟩,intOf (c 7),intOf (c 8),intOf (c 9),lZ (c 10),intOf (c 11)⟩,⟨⟨intOf (c 12),intOf (c 13),intOf (c 14)⟩,⟨intOf (c 15),intOf (c 16),intOf (c 17)⟩⟩⟩
def Dj (v:KV):Item:=PA fun k=>v.cells.getD k .av
structure cT where
  t4:Bool
  n:Int
  t38:(Sl ct)
  t39:Int
  t40:Int
  x:Item
instance:Inhabited cT:=⟨⟨default,default,default,default,default,default⟩⟩
def ov (x:cT):List KV:=[.bool x.t4,.int .i64 x.n,fQ 41 qI x.t38,.int .i64 x.t39,.int .i64 x.t40]
def ow (x:cT):List (List KV):=[Pz x.x]
def zq (vs:List KV) (rs:List (List KV)):cT:=⟨lZ (vs.getD 0 .av),intOf (vs.getD 1 .av),gh sC (vs.getD 2 .av),intOf (vs.getD 3 .av),intOf (vs.getD 4 .av),PA (fun k=>(rs.getD 0 []).getD k .av)⟩
def BV:ba:=⟨[(4,⟨false,[.k .bool]⟩),(5,⟨false,[.k (.int .i64)]⟩),(38,⟨false,[.k (.slice 41)]⟩),(39,⟨false,[.k (.int .i64)]⟩),(40,⟨false,[.k (.int .i64)]⟩)],[(2,[.k (.slice 41),.k (.slice 176),.k (.slice 50),.k (.int .u8),.k (.int .u8),.k (.int .u8),.k (.int .u8),.k (.int .i64),.k (.int .u8),.k (.int .i64),.k .bool,.k (.int .i64),.k (.int .i64),.k (.int .i64),.k (.int .i64),.k (.int .i64),.k (.int .i64),.k (.int .i64)],1)],[(2,0,0)]⟩
def Nn:=eR Try.prog (bx Try.prog [(109,HD),(108,pH),(46,nf)] [] (fun _=>false)) 9 9 81 122 (fp Try.prog 81 122) BV
def ng (x:cT):(Option Int):=(j5 (x.t38.get (Int.toNat x.t40)))
def fZ (x:cT):bK cT:=
  (cond (decide (x.t40 < x.t39))
   (cond ((decide ((0:Int)≤x.t40)) && (decide (x.t40 < ((x.t38.n:Nat):Int))))
    (cond (ng x).isSome
     (cond (((ng x).getD default) != (0:Int))
      (.out aV.au.ret (⟨false,x.n,x.t38,x.t39,x.t40,x.x⟩:cT))
      (cond ((decide ((0:Int)≤x.t40)) && (decide (x.t40 < ((x.x.uV.n:Nat):Int))))
       (cond ((decide ((0:Int)≤x.t40)) && (decide (x.t40 < ((x.x.uV.n:Nat):Int))))
        (cond (decide ((min (x.x.uV.get (Int.toNat x.t40)).e0 (x.x.uV.get (Int.toNat x.t40)).e1) < (0:Int)))
         (.out aV.au.ret (⟨false,x.n,x.t38,x.t39,x.t40,x.x⟩:cT))
         (cond ((decide ((0:Int)≤x.t40)) && (decide (x.t40 < ((x.x.uV.n:Nat):Int))))
          (cond ((decide ((0:Int)≤x.t40)) && (decide (x.t40 < ((x.x.uV.n:Nat):Int))))
           (cond (decide ((max (x.x.uV.get (Int.toNat x.t40)).e0 (x.x.uV.get (Int.toNat x.t40)).e1) > (255:Int)))
            (.out aV.au.ret (⟨false,x.n,x.t38,x.t39,x.t40,x.x⟩:cT))
            (.next (⟨x.t4,x.n,x.t38,x.t39,(aH (x.t40+(1:Int))),x.x⟩:cT)))
           .fail)
          .fail))
        .fail)
       .fail))
     .fail)
    .fail)
   (.out (aV.au.exit 0) x))
theorem H2 (x:cT):Nn (ov x) (ow x)=bK.enc ov ow (fZ x):=by
  unfold fZ
  try simp only [bK.ej]
  kernel_rfl
def mB:Lp:=⟨81,122,BV,fun vs rs=>fg ov ow (goN fZ (zq vs rs)) [aV.au.exit 0,aV.au.ret]⟩
theorem zr:mB.Ok Try.prog:=cN funcs mixed (ai.cons Di (ai.cons nG (ai.cons nZ ai.nil))) ay.nil (L:=9) (n:=9) (step:=fZ) (ev:=ov) (er:=ow) (pa:=zq) rfl (fun wv wr=>⟨by kernel_rfl,by kernel_rfl⟩) H2
theorem wx:cB Try.prog mB.f mB.p=true:=by kernel_rfl
structure di where
  t4:Bool
  n:Int
  t82:(Sl dc)
  t83:Int
  t84:Int
  x:Item
instance:Inhabited di:=⟨⟨default,default,default,default,default,default⟩⟩
def oy (x:di):List KV:=[.bool x.t4,.int .i64 x.n,fQ 50 nH x.t82,.int .i64 x.t83,.int .i64 x.t84]
def oz (x:di):List (List KV):=[Pz x.x]
def zt (vs:List KV) (rs:List (List KV)):di:=⟨lZ (vs.getD 0 .av),intOf (vs.getD 1 .av),gh wk (vs.getD 2 .av),intOf (vs.getD 3 .av),intOf (vs.getD 4 .av),PA (fun k=>(rs.getD 0 []).getD k .av)⟩
def BW:ba:=⟨[(4,⟨false,[.k .bool]⟩),(5,⟨false,[.k (.int .i64)]⟩),(82,⟨false,[.k (.slice 50)]⟩),(83,⟨false,[.k (.int .i64)]⟩),(84,⟨false,[.k (.int .i64)]⟩)],[(2,[.k (.slice 41),.k (.slice 176),.k (.slice 50),.k (.int .u8),.k (.int .u8),.k (.int .u8),.k (.int .u8),.k (.int .i64),.k (.int .u8),.k (.int .i64),.k .bool,.k (.int .i64),.k (.int .i64),.k (.int .i64),.k (.int .i64),.k (.int .i64),.k (.int .i64),.k (.int .i64)],1)],[(2,0,0)]⟩
def Np:=eR Try.prog (bx Try.prog [(109,HD),(108,pH),(46,nf)] [mB] (fun _=>false)) 9 9 81 250 (fp Try.prog 81 250) BW
def eW (x:di):bK di:=
  (cond (decide (x.t84 < x.t83))
   (cond ((decide ((0:Int)≤x.t84)) && (decide (x.t84 < ((x.t82.n:Nat):Int))))
    (cond (decide ((min (min (x.t82.get (Int.toNat x.t84)).e0 (x.t82.get (Int.toNat x.t84)).e1) (x.t82.get (Int.toNat x.t84)).e2) < (0:Int)))
     (.out aV.au.ret (⟨false,x.n,x.t82,x.t83,x.t84,x.x⟩:di))
     (cond (decide ((max (max (x.t82.get (Int.toNat x.t84)).e0 (x.t82.get (Int.toNat x.t84)).e1) (x.t82.get (Int.toNat x.t84)).e2) ≥ x.n))
      (.out aV.au.ret (⟨false,x.n,x.t82,x.t83,x.t84,x.x⟩:di))
      (.next (⟨x.t4,x.n,x.t82,x.t83,(aH (x.t84+(1:Int))),x.x⟩:di))))
    .fail)
   (.out (aV.au.exit 2) x))
theorem H3 (x:di):Np (oy x) (oz x)=bK.enc oy oz (eW x):=by
  unfold eW
  try simp only [bK.ej]
  kernel_rfl
def pS:Lp:=⟨81,250,BW,fun vs rs=>fg oy oz (goN eW (zt vs rs)) [aV.au.exit 2,aV.au.ret]⟩
theorem Nq:pS.Ok Try.prog:=cN funcs mixed (ai.cons Di (ai.cons nG (ai.cons nZ ai.nil))) (ay.cons zr wx ay.nil) (L:=9) (n:=9) (step:=eW) (ev:=oy) (er:=oz) (pa:=zt) rfl (fun wv wr=>⟨by kernel_rfl,by kernel_rfl⟩) H3
theorem GD:cB Try.prog pS.f pS.p=true:=by kernel_rfl
def Jc:List (Nat×(List KV→KR KV)):=[(109,HD),(108,pH),(46,nf)]
def Jd:List Lp:=[mB,pS]
theorem RJ:ai Try.prog Jc:=(ai.cons Di (ai.cons nG (ai.cons nZ ai.nil)))
theorem RK:ay Try.prog Jd:=(ay.cons zr wx (ay.cons Nq GD ay.nil))
def tW (x:Item) (bj:Int):(Option Int):=(ja x.look bj)
def dq (x:Item) (bj:Int):(bK cT):=(goN fZ (⟨false,((x.dH.n:Nat):Int),x.dH,((x.dH.n:Nat):Int),(0:Int),x⟩:cT))
def cO (x:Item) (bj:Int):(bK di):=(goN eW (⟨(dq x bj).st.t4,(dq x bj).st.n,(dq x bj).st.x.cZ,(((dq x bj).st.x.cZ.n:Nat):Int),(0:Int),(dq x bj).st.x⟩:di))
def iB (x:Item) (bj:Int):(Option (Prod oD Int)):=(xJ (cO x bj).st.x.dH)
def pT (x:Item) (bj:Int):Option (Bool):=
  (cond (decide (((x.dH.n:Nat):Int) > (64:Int)))
   (some (false))
   (cond (((x.uV.n:Nat):Int) != ((x.dH.n:Nat):Int))
    (some (false))
    (cond (decide (((x.cZ.n:Nat):Int) > (64:Int)))
     (some (false))
     (cond (tW x bj).isSome
      (cond (((tW x bj).getD default) != (0:Int))
       (some (false))
       (cond ((dq x bj).by (aV.au.exit 0))
        (cond ((cO x bj).by (aV.au.exit 2))
         (cond (iB x bj).isSome
          (cond ((((iB x bj).getD default).fst.low.x == (cO x bj).st.x.box.low.x) && ((((iB x bj).getD default).fst.low.y == (cO x bj).st.x.box.low.y) && ((((iB x bj).getD default).fst.low.z == (cO x bj).st.x.box.low.z) && ((((iB x bj).getD default).fst.high.x == (cO x bj).st.x.box.high.x) && ((((iB x bj).getD default).fst.high.y == (cO x bj).st.x.box.high.y) && ((((iB x bj).getD default).fst.high.z == (cO x bj).st.x.box.high.z) && true))))))
           (cond (((iB x bj).getD default).snd == (0:Int))
            (some (true))
            (some (((cO x bj).st.n == (0:Int)))))
           (some (false)))
          none)
         (cond ((cO x bj).by aV.au.ret)
          (some ((cO x bj).st.t4))
          none))
        (cond ((dq x bj).by aV.au.ret)
         (some ((dq x bj).st.t4))
         none)))
      none))))
theorem Vo (x:Item) (bj:Int):cm Try.prog (bx Try.prog Jc Jd (fun _=>false)) 9 9 81 [GC x,(kI .i64) bj] = (pT x bj).map kB:=by
  unfold pT
  try simp only [bu]
  kernel_rfl
def Dk:List KV→KR KV:=bQ Try.prog 81 (bV kB fun vs=>pT (Dj (vs.getD 0 .av)) (intOf (vs.getD 1 .av)))
theorem RL (w:Nat→KV):bU Try.prog [45,3] w 0 = [GC (Dj (ao Try.prog (ae Try.prog ah) 45 (w 0))),(kI .i64) (intOf (ao Try.prog (ae Try.prog ah) 3 (w 1)))]:=by kernel_rfl
theorem D3:bD Try.prog 81 Dk:=aR funcs mixed RJ RK (L:=9) (n:=9) fun w=>by
  have e:aC Try.prog 81 = [45,3]:=by kernel_rfl
  rw [e,RL]
  exact (Vo (Dj (ao Try.prog (ae Try.prog ah) 45 (w 0))) (intOf (ao Try.prog (ae Try.prog ah) 3 (w 1)))).trans (by kernel_rfl)
structure Show where
  items:(Sl Item)
  bj:(Sl eo)
instance:Inhabited Show:=⟨⟨default,default⟩⟩
def GF (x:Show):List KV:=[fQ 45 GC x.items,fQ 108 nT x.bj]
def mC (x:Show):KV:=.agg (GF x)
def GG (c:Nat→KV):Show:=⟨gh Dj (c 0),gh ki (c 1)⟩
def iL (v:KV):Show:=GG fun k=>v.cells.getD k .av
structure aP where
  s:(Sl Item)
  t4:Int
  t7:Int
  t8:Int
  lV:Show
instance:Inhabited aP:=⟨⟨default,default,default,default,default⟩⟩
def de (x:aP):List KV:=[fQ 45 GC x.s,.fn (.func 80) [] [.ptr 0 0],.int .i64 x.t4,.int .i64 x.t7,.int .i64 x.t8]
def df (x:aP):List (List KV):=[GF x.lV]
def iC (vs:List KV) (rs:List (List KV)):aP:=⟨gh Dj (vs.getD 0 .av),intOf (vs.getD 2 .av),intOf (vs.getD 3 .av),intOf (vs.getD 4 .av),GG (fun k=>(rs.getD 0 []).getD k .av)⟩
def iH:ba:=⟨[(0,⟨false,[.k (.slice 45)]⟩),(1,⟨false,[.ref (.fn (.func 80) [] [.ptr 0 0])]⟩),(4,⟨false,[.k (.int .i64)]⟩),(7,⟨false,[.k (.int .i64)]⟩),(8,⟨false,[.k (.int .i64)]⟩)],[(100001,[.k (.slice 45),.k (.slice 108)],1)],[]⟩
def nh:=eR Try.prog (bx Try.prog [(81,Dk),(45,tV)] [] (fun _=>false)) 9 9 107 26 (fp Try.prog 107 26) iH
def eE (x:aP):(Option Bool):=(pT (x.s.get (Int.toNat x.t8)) ((x.lV.bj.n:Nat):Int))
def bw (x:aP):bK aP:=
  (cond (decide (x.t8 < x.t7))
   (cond ((decide ((0:Int)≤x.t8)) && (decide (x.t8 < ((x.s.n:Nat):Int))))
    (cond (eE x).isSome
     (cond (!((eE x).getD default))
      (.out aV.au.ret (⟨x.s,x.t8,x.t7,x.t8,x.lV⟩:aP))
      (.next (⟨x.s,x.t4,x.t7,(aH (x.t8+(1:Int))),x.lV⟩:aP)))
     .fail)
    .fail)
   (.out (aV.au.exit 0) x))
theorem mD (x:aP):nh (de x) (df x)=bK.enc de df (bw x):=by
  unfold bw
  try simp only [bK.ej]
  kernel_rfl
def dm:Lp:=⟨107,26,iH,fun vs rs=>fg de df (goN bw (iC vs rs)) [aV.au.exit 0,aV.au.ret]⟩
theorem ni:dm.Ok Try.prog:=cN funcs mixed (ai.cons D3 (ai.cons wu ai.nil)) ay.nil (L:=9) (n:=9) (step:=bw) (ev:=de) (er:=df) (pa:=iC) rfl (fun wv wr=>⟨by kernel_rfl,by kernel_rfl⟩) mD
theorem lY:cB Try.prog dm.f dm.p=true:=by kernel_rfl
def D5:List (Nat×(List KV→KR KV)):=[(81,Dk),(45,tV)]
def D6:List Lp:=[dm]
theorem Nr:ai Try.prog D5:=(ai.cons D3 (ai.cons wu ai.nil))
theorem Ns:ay Try.prog D6:=(ay.cons ni lY ay.nil)
def pU (s:Show):(Option Int):=(jD s.bj)
def fR (s:Show):(bK aP):=(goN bw (⟨s.items,(0:Int),((s.items.n:Nat):Int),(0:Int),s⟩:aP))
def kD (s:Show):Option (Int):=
  (cond (decide (((s.items.n:Nat):Int) > (256:Int)))
   (some ((4:Int)))
   (cond (decide (((s.bj.n:Nat):Int) > (16:Int)))
    (some ((4:Int)))
    (cond (pU s).isSome
     (cond (((pU s).getD default) != (0:Int))
      (some ((8:Int)))
      (cond ((fR s).by (aV.au.exit 0))
       (some ((0:Int)))
       (cond ((fR s).by aV.au.ret)
        (cond (decide ((fR s).st.t4 ≥ (0:Int)))
         (some ((8:Int)))
         (some ((0:Int))))
        none)))
     none)))
theorem PB (s:Show):cm Try.prog (bx Try.prog D5 D6 (fun _=>false)) 9 9 50 [mC s] = (kD s).map (kI .i64):=by
  unfold kD
  try simp only [bu]
  kernel_rfl
def o9:List KV→KR KV:=bQ Try.prog 50 (bV (kI .i64) fun vs=>kD (iL (vs.getD 0 .av)))
theorem Nt (w:Nat→KV):bU Try.prog [25] w 0 = [mC (iL (ao Try.prog (ae Try.prog ah) 25 (w 0)))]:=by kernel_rfl
theorem oA:bD Try.prog 50 o9:=aR funcs mixed Nr Ns (L:=9) (n:=9) fun w=>by
  have e:aC Try.prog 50 = [25]:=by kernel_rfl
  rw [e,Nt]
  exact (PB (iL (ao Try.prog (ae Try.prog ah) 25 (w 0)))).trans (by kernel_rfl)
end
end Go.Proofs.Ytahhdndhkgbcjaa.b
end
section
namespace Go.Proofs.Ytahhdndhkgbcjaa.b
open Go.K
set_option linter.unusedVariables false
set_option linter.unusedSimpArgs false
noncomputable section
def GH:List (Nat×(List KV→KR KV)):=[(99,mz),(130,lL),(82,nI)]
def GI:List Lp:=[]
theorem PC:ai Try.prog GH:=(ai.cons ll (ai.cons ke (ai.cons na ai.nil)))
theorem PD:ay Try.prog GI:=ay.nil
def rf (c:aI) (p:bg):(Option Int):=(eP c)
def rh (c:aI) (p:bg):(Option Int):=(gA p)
def wW (c:aI) (p:bg):(Option (Prod Int Int)):=(b6 (aH ((aH ((8:Int) * c.Pm)) * p.p.x)) p.p.z)
def wX (c:aI) (p:bg):(Option (Prod Int Int)):=(b6 (aH ((aH ((8:Int) * c.Pm)) * p.p.y)) p.p.z)
def kc (c:aI) (p:bg):Option (cr×Int):=
  (cond (rf c p).isSome
   (cond (((rf c p).getD default) != (0:Int))
    (some ((⟨(0:Int),(0:Int),(0:Int),(0:Int),(0:Int)⟩:cr),((rf c p).getD default)))
    (cond (rh c p).isSome
     (cond (((rh c p).getD default) != (0:Int))
      (some ((⟨(0:Int),(0:Int),(0:Int),(0:Int),(0:Int)⟩:cr),((rh c p).getD default)))
      (cond (decide (p.p.z < c.aA))
       (some ((⟨(0:Int),(0:Int),(0:Int),(0:Int),(0:Int)⟩:cr),(6:Int)))
       (cond (wW c p).isSome
        (cond (wX c p).isSome
         (cond (!(decide (p.p.z=(0:Int))))
          (some ((⟨(aH (((wW c p).getD default).fst+(aH ((4:Int) * c.w)))),(aH ((aH ((4:Int) * c.h)) - ((wX c p).getD default).fst)),(aH (Int.tdiv (16777216:Int) p.p.z)),p.u,p.v⟩:cr),(0:Int)))
          none)
         none)
        none)))
     none))
   none)
theorem RM (c:aI) (p:bg):cm Try.prog (bx Try.prog GH GI (fun _=>false)) 9 9 112 [fh c,iM p] = (kc c p).map (fun (r:cr×Int)=>KV.fI [O8 r.1,(kI .i64) r.2]):=by
  unfold kc
  try simp only [bu]
  kernel_rfl
def Au:List KV→KR KV:=bQ Try.prog 112 (bV (fun (r:cr×Int)=>KV.fI [O8 r.1,(kI .i64) r.2]) fun vs=>kc (cS (vs.getD 0 .av)) (fq (vs.getD 1 .av)))
theorem PE (w:Nat→KV):bU Try.prog [53,180] w 0 = [fh (cS (ao Try.prog (ae Try.prog ah) 53 (w 0))),iM (fq (ao Try.prog (ae Try.prog ah) 180 (w 1)))]:=by kernel_rfl
theorem BX:bD Try.prog 112 Au:=aR funcs mixed PC PD (L:=9) (n:=9) fun w=>by
  have e:aC Try.prog 112 = [53,180]:=by kernel_rfl
  rw [e,PE]
  exact (RM (cS (ao Try.prog (ae Try.prog ah) 53 (w 0))) (fq (ao Try.prog (ae Try.prog ah) 180 (w 1)))).trans (by kernel_rfl)
structure bP where
  out:(Sl aF)
  t72:(Sl bZ)
  t73:Int
  t74:Int
  c:aI
  x:Item
instance:Inhabited bP:=⟨⟨default,default,default,default,default,default⟩⟩
def l9 (x:bP):List KV:=[fQ 118 c8 x.out,fQ 181 kC x.t72,.int .i64 x.t73,.int .i64 x.t74]
def ma (x:bP):List (List KV):=[yl x.c,Pz x.x]
def xe (vs:List KV) (rs:List (List KV)):bP:=⟨gh cK (vs.getD 0 .av),gh lM (vs.getD 1 .av),intOf (vs.getD 2 .av),intOf (vs.getD 3 .av),ym (fun k=>(rs.getD 0 []).getD k .av),PA (fun k=>(rs.getD 1 []).getD k .av)⟩
def yz:ba:=⟨[(8,⟨false,[.aJ 118]⟩),(72,⟨false,[.k (.slice 181)]⟩),(73,⟨false,[.k (.int .i64)]⟩),(74,⟨false,[.k (.int .i64)]⟩)],[(5,[.k (.int .i64),.k (.int .i64),.k (.int .i64),.k (.int .i64),.k (.int .i64),.k (.int .i64),.k (.int .i64),.k (.int .i64),.k (.int .i64),.k (.int .i64),.k (.int .i64),.k (.int .i64),.k (.int .i64),.k (.int .i64),.k (.int .i64),.k (.int .i64)],1),(9,[.k (.slice 41),.k (.slice 176),.k (.slice 50),.k (.int .u8),.k (.int .u8),.k (.int .u8),.k (.int .u8),.k (.int .i64),.k (.int .u8),.k (.int .i64),.k .bool,.k (.int .i64),.k (.int .i64),.k (.int .i64),.k (.int .i64),.k (.int .i64),.k (.int .i64),.k (.int .i64)],1)],[(5,0,0),(9,1,0)]⟩
def H4:=eR Try.prog (bx Try.prog [(114,Ab),(113,Aa),(112,Au),(111,De),(110,yn)] [] (fun _=>false)) 9 9 84 506 (fp Try.prog 84 506) yz
def lu (x:bP):(Option (Prod cr Int)):=(kc x.c (x.t72.get (Int.toNat x.t74)).e0)
def lv (x:bP):(Option (Prod cr Int)):=(kc x.c (x.t72.get (Int.toNat x.t74)).e1)
def ly (x:bP):(Option (Prod cr Int)):=(kc x.c (x.t72.get (Int.toNat x.t74)).e2)
def lz (x:bP):(Option (Prod Bool Int)):=(nQ (⟨((lu x).getD default).fst,((lv x).getD default).fst,((ly x).getD default).fst⟩:aF) x.x.look.uw)
def pb (x:bP):(Option (Prod aF Int)):=(nR (⟨((lu x).getD default).fst,((lv x).getD default).fst,((ly x).getD default).fst⟩:aF))
def dS (x:bP):bK bP:=
  (cond (decide (x.t74 < x.t73))
   (cond ((decide ((0:Int)≤x.t74)) && (decide (x.t74 < ((x.t72.n:Nat):Int))))
    (cond (lu x).isSome
     (cond (lv x).isSome
      (cond (ly x).isSome
       (cond (lz x).isSome
        (cond ((lz x).getD default).fst
         (cond (pb x).isSome
          (cond ((aB x.out.n x.out.n) && (cL 120 x.out.n 1))
           (cond (aB (x.out.n+1) (x.out.n+1))
            (.next (⟨(x.out.push ((pb x).getD default).fst),x.t72,x.t73,(aH (x.t74+(1:Int))),x.c,x.x⟩:bP))
            .fail)
           .fail)
          .fail)
         (cond (aB x.out.n x.out.n)
          (.next (⟨x.out,x.t72,x.t73,(aH (x.t74+(1:Int))),x.c,x.x⟩:bP))
          .fail))
        .fail)
       .fail)
      .fail)
     .fail)
    .fail)
   (cond (aB x.out.n x.out.n)
    (.out (aV.au.exit 2) x)
    .fail))
theorem ED (x:bP):H4 (l9 x) (ma x)=bK.enc l9 ma (dS x):=by
  unfold dS
  try simp only [bK.ej,Wg]
  kernel_rfl
def nj:Lp:=⟨84,506,yz,fun vs rs=>fg l9 ma (goN dS (xe vs rs)) [aV.au.exit 2]⟩
theorem H5:nj.Ok Try.prog:=cN funcs mixed (ai.cons BB (ai.cons BA (ai.cons BX (ai.cons DZ (ai.cons ze ai.nil))))) ay.nil (L:=9) (n:=9) (step:=dS) (ev:=l9) (er:=ma) (pa:=xe) rfl (fun wv wr=>⟨by kernel_rfl,by kernel_rfl⟩) ED
theorem Dl:cB Try.prog nj.f nj.p=true:=by kernel_rfl
def D7:List (Nat×(List KV→KR KV)):=[(114,Ab),(113,Aa),(112,Au),(111,De),(110,yn)]
def D8:List Lp:=[nj]
theorem Nu:ai Try.prog D7:=(ai.cons BB (ai.cons BA (ai.cons BX (ai.cons DZ (ai.cons ze ai.nil)))))
theorem Nv:ay Try.prog D8:=(ay.cons H5 Dl ay.nil)
def vd (s:Show) (c:aI) (item:Int) (dt:Int):(Option (Prod ct Int)):=(jw c ((s.items.get (Int.toNat item)).dH.get (Int.toNat ((s.items.get (Int.toNat item)).cZ.get (Int.toNat dt)).e0)))
def ve (s:Show) (c:aI) (item:Int) (dt:Int):(Option (Prod ct Int)):=(jw c ((s.items.get (Int.toNat item)).dH.get (Int.toNat ((s.items.get (Int.toNat item)).cZ.get (Int.toNat dt)).e1)))
def vf (s:Show) (c:aI) (item:Int) (dt:Int):(Option (Prod ct Int)):=(jw c ((s.items.get (Int.toNat item)).dH.get (Int.toNat ((s.items.get (Int.toNat item)).cZ.get (Int.toNat dt)).e2)))
def pV (s:Show) (c:aI) (item:Int) (dt:Int):(Option (Prod (Sl bZ) Int)):=(pR c.aA (⟨(⟨((vd s c item dt).getD default).fst,((s.items.get (Int.toNat item)).uV.get (Int.toNat ((s.items.get (Int.toNat item)).cZ.get (Int.toNat dt)).e0)).e0,((s.items.get (Int.toNat item)).uV.get (Int.toNat ((s.items.get (Int.toNat item)).cZ.get (Int.toNat dt)).e0)).e1⟩:bg),(⟨((ve s c item dt).getD default).fst,((s.items.get (Int.toNat item)).uV.get (Int.toNat ((s.items.get (Int.toNat item)).cZ.get (Int.toNat dt)).e1)).e0,((s.items.get (Int.toNat item)).uV.get (Int.toNat ((s.items.get (Int.toNat item)).cZ.get (Int.toNat dt)).e1)).e1⟩:bg),(⟨((vf s c item dt).getD default).fst,((s.items.get (Int.toNat item)).uV.get (Int.toNat ((s.items.get (Int.toNat item)).cZ.get (Int.toNat dt)).e2)).e0,((s.items.get (Int.toNat item)).uV.get (Int.toNat ((s.items.get (Int.toNat item)).cZ.get (Int.toNat dt)).e2)).e1⟩:bg)⟩:bZ))
def kl (s:Show) (c:aI) (item:Int) (dt:Int):(bK bP):=(goN dS (⟨(⟨0,(fun i=>(⟨(⟨(0:Int),(0:Int),(0:Int),(0:Int),(0:Int)⟩:cr),(⟨(0:Int),(0:Int),(0:Int),(0:Int),(0:Int)⟩:cr),(⟨(0:Int),(0:Int),(0:Int),(0:Int),(0:Int)⟩:cr)⟩:aF))⟩:Sl _),((pV s c item dt).getD default).fst,((((pV s c item dt).getD default).fst.n:Nat):Int),(0:Int),c,(s.items.get (Int.toNat item))⟩:bP))
def c6 (s:Show) (c:aI) (item:Int) (dt:Int):Option ((Sl aF)):=
  (cond ((decide ((0:Int)≤item)) && (decide (item < ((s.items.n:Nat):Int))))
   (cond ((decide ((0:Int)≤dt)) && (decide (dt < (((s.items.get (Int.toNat item)).cZ.n:Nat):Int))))
    (cond ((decide ((0:Int)≤((s.items.get (Int.toNat item)).cZ.get (Int.toNat dt)).e0)) && (decide (((s.items.get (Int.toNat item)).cZ.get (Int.toNat dt)).e0 < (((s.items.get (Int.toNat item)).dH.n:Nat):Int))))
     (cond (vd s c item dt).isSome
      (cond ((decide ((0:Int)≤((s.items.get (Int.toNat item)).cZ.get (Int.toNat dt)).e0)) && (decide (((s.items.get (Int.toNat item)).cZ.get (Int.toNat dt)).e0 < (((s.items.get (Int.toNat item)).uV.n:Nat):Int))))
       (cond ((decide ((0:Int)≤((s.items.get (Int.toNat item)).cZ.get (Int.toNat dt)).e0)) && (decide (((s.items.get (Int.toNat item)).cZ.get (Int.toNat dt)).e0 < (((s.items.get (Int.toNat item)).uV.n:Nat):Int))))
        (cond ((decide ((0:Int)≤((s.items.get (Int.toNat item)).cZ.get (Int.toNat dt)).e1)) && (decide (((s.items.get (Int.toNat item)).cZ.get (Int.toNat dt)).e1 < (((s.items.get (Int.toNat item)).dH.n:Nat):Int))))
         (cond (ve s c item dt).isSome
          (cond ((decide ((0:Int)≤((s.items.get (Int.toNat item)).cZ.get (Int.toNat dt)).e1)) && (decide (((s.items.get (Int.toNat item)).cZ.get (Int.toNat dt)).e1 < (((s.items.get (Int.toNat item)).uV.n:Nat):Int))))
           (cond ((decide ((0:Int)≤((s.items.get (Int.toNat item)).cZ.get (Int.toNat dt)).e1)) && (decide (((s.items.get (Int.toNat item)).cZ.get (Int.toNat dt)).e1 < (((s.items.get (Int.toNat item)).uV.n:Nat):Int))))
            (cond ((decide ((0:Int)≤((s.items.get (Int.toNat item)).cZ.get (Int.toNat dt)).e2)) && (decide (((s.items.get (Int.toNat item)).cZ.get (Int.toNat dt)).e2 < (((s.items.get (Int.toNat item)).dH.n:Nat):Int))))
             (cond (vf s c item dt).isSome
              (cond ((decide ((0:Int)≤((s.items.get (Int.toNat item)).cZ.get (Int.toNat dt)).e2)) && (decide (((s.items.get (Int.toNat item)).cZ.get (Int.toNat dt)).e2 < (((s.items.get (Int.toNat item)).uV.n:Nat):Int))))
               (cond ((decide ((0:Int)≤((s.items.get (Int.toNat item)).cZ.get (Int.toNat dt)).e2)) && (decide (((s.items.get (Int.toNat item)).cZ.get (Int.toNat dt)).e2 < (((s.items.get (Int.toNat item)).uV.n:Nat):Int))))
                (cond (pV s c item dt).isSome
                 (cond ((kl s c item dt).by (aV.au.exit 2))
                  (some ((kl s c item dt).st.out))
                  none)
                 none)
                none)
               none)
              none)
             none)
            none)
           none)
          none)
         none)
        none)
       none)
      none)
     none)
    none)
   none)
theorem PF (s:Show) (c:aI) (item:Int) (dt:Int):cm Try.prog (bx Try.prog D7 D8 (fun _=>false)) 9 9 84 [mC s,fh c,(kI .i64) item,(kI .i64) dt] = (c6 s c item dt).map (fQ 118 c8):=by
  unfold c6
  try simp only [bu]
  kernel_rfl
def mF:List KV→KR KV:=bQ Try.prog 84 (bV (fQ 118 c8) fun vs=>c6 (iL (vs.getD 0 .av)) (cS (vs.getD 1 .av)) (intOf (vs.getD 2 .av)) (intOf (vs.getD 3 .av)))
theorem Nw (w:Nat→KV):bU Try.prog [25,53,3,3] w 0 = [mC (iL (ao Try.prog (ae Try.prog ah) 25 (w 0))),fh (cS (ao Try.prog (ae Try.prog ah) 53 (w 1))),(kI .i64) (intOf (ao Try.prog (ae Try.prog ah) 3 (w 2))),(kI .i64) (intOf (ao Try.prog (ae Try.prog ah) 3 (w 3)))]:=by kernel_rfl
theorem lA:bD Try.prog 84 mF:=aR funcs mixed Nu Nv (L:=9) (n:=9) fun w=>by
  have e:aC Try.prog 84 = [25,53,3,3]:=by kernel_rfl
  rw [e,Nw]
  exact (PF (iL (ao Try.prog (ae Try.prog ah) 25 (w 0))) (cS (ao Try.prog (ae Try.prog ah) 53 (w 1))) (intOf (ao Try.prog (ae Try.prog ah) 3 (w 2))) (intOf (ao Try.prog (ae Try.prog ah) 3 (w 3)))).trans (by kernel_rfl)
def D9:List (Nat×(List KV→KR KV)):=[(82,nI),(50,o9)]
def Ea:List Lp:=[]
theorem Nx:ai Try.prog D9:=(ai.cons na (ai.cons oA ai.nil))
theorem Ny:ay Try.prog Ea:=ay.nil
def mG (s:Show) (c:aI):(Option Int):=(kD s)
def pW (s:Show) (c:aI):(Option Int):=(eP c)
def dI (s:Show) (c:aI):Option (Int):=
  (cond (mG s c).isSome
   (cond (((mG s c).getD default) != (0:Int))
    (some (((mG s c).getD default)))
    (cond (pW s c).isSome
     (some (((pW s c).getD default)))
     none))
   none)
theorem PG (s:Show) (c:aI):cm Try.prog (bx Try.prog D9 Ea (fun _=>false)) 9 9 56 [mC s,fh c] = (dI s c).map (kI .i64):=by
  unfold dI
  try simp only [bu]
  kernel_rfl
def yA:List KV→KR KV:=bQ Try.prog 56 (bV (kI .i64) fun vs=>dI (iL (vs.getD 0 .av)) (cS (vs.getD 1 .av)))
theorem Nz (w:Nat→KV):bU Try.prog [25,53] w 0 = [mC (iL (ao Try.prog (ae Try.prog ah) 25 (w 0))),fh (cS (ao Try.prog (ae Try.prog ah) 53 (w 1)))]:=by kernel_rfl
theorem zu:bD Try.prog 56 yA:=aR funcs mixed Nx Ny (L:=9) (n:=9) fun w=>by
  have e:aC Try.prog 56 = [25,53]:=by kernel_rfl
  rw [e,Nz]
  exact (PG (iL (ao Try.prog (ae Try.prog ah) 25 (w 0))) (cS (ao Try.prog (ae Try.prog ah) 53 (w 1)))).trans (by kernel_rfl)
def Eb:List (Nat×(List KV→KR KV)):=[(84,mF),(56,yA)]
def Ec:List Lp:=[]
theorem NA:ai Try.prog Eb:=(ai.cons lA (ai.cons zu ai.nil))
theorem NB:ay Try.prog Ec:=ay.nil
def ko (s:Show) (c:aI) (item:Int) (dt:Int):(Option Int):=(dI s c)
def vg (s:Show) (c:aI) (item:Int) (dt:Int):(Option (Sl aF)):=(c6 s c item dt)
def iD (s:Show) (c:aI) (item:Int) (dt:Int):Option ((Sl aF)×Int):=
  (cond (ko s c item dt).isSome
   (cond (((ko s c item dt).getD default) != (0:Int))
    (some ((⟨0,(fun i=>(⟨(⟨(0:Int),(0:Int),(0:Int),(0:Int),(0:Int)⟩:cr),(⟨(0:Int),(0:Int),(0:Int),(0:Int),(0:Int)⟩:cr),(⟨(0:Int),(0:Int),(0:Int),(0:Int),(0:Int)⟩:cr)⟩:aF))⟩:Sl _),((ko s c item dt).getD default)))
    (cond (decide (item < (0:Int)))
     (some ((⟨0,(fun i=>(⟨(⟨(0:Int),(0:Int),(0:Int),(0:Int),(0:Int)⟩:cr),(⟨(0:Int),(0:Int),(0:Int),(0:Int),(0:Int)⟩:cr),(⟨(0:Int),(0:Int),(0:Int),(0:Int),(0:Int)⟩:cr)⟩:aF))⟩:Sl _),(2:Int)))
     (cond (decide (item ≥ ((s.items.n:Nat):Int)))
      (some ((⟨0,(fun i=>(⟨(⟨(0:Int),(0:Int),(0:Int),(0:Int),(0:Int)⟩:cr),(⟨(0:Int),(0:Int),(0:Int),(0:Int),(0:Int)⟩:cr),(⟨(0:Int),(0:Int),(0:Int),(0:Int),(0:Int)⟩:cr)⟩:aF))⟩:Sl _),(2:Int)))
      (cond (decide (dt < (0:Int)))
       (some ((⟨0,(fun i=>(⟨(⟨(0:Int),(0:Int),(0:Int),(0:Int),(0:Int)⟩:cr),(⟨(0:Int),(0:Int),(0:Int),(0:Int),(0:Int)⟩:cr),(⟨(0:Int),(0:Int),(0:Int),(0:Int),(0:Int)⟩:cr)⟩:aF))⟩:Sl _),(2:Int)))
       (cond ((decide ((0:Int)≤item)) && (decide (item < ((s.items.n:Nat):Int))))
        (cond (decide (dt ≥ (((s.items.get (Int.toNat item)).cZ.n:Nat):Int)))
         (some ((⟨0,(fun i=>(⟨(⟨(0:Int),(0:Int),(0:Int),(0:Int),(0:Int)⟩:cr),(⟨(0:Int),(0:Int),(0:Int),(0:Int),(0:Int)⟩:cr),(⟨(0:Int),(0:Int),(0:Int),(0:Int),(0:Int)⟩:cr)⟩:aF))⟩:Sl _),(2:Int)))
         (cond (vg s c item dt).isSome
          (some (((vg s c item dt).getD default),(0:Int)))
          none))
        none)))))
   none)
theorem PH (s:Show) (c:aI) (item:Int) (dt:Int):cm Try.prog (bx Try.prog Eb Ec (fun _=>false)) 9 9 52 [mC s,fh c,(kI .i64) item,(kI .i64) dt] = (iD s c item dt).map (fun (r:(Sl aF)×Int)=>KV.fI [(fQ 118 c8) r.1,(kI .i64) r.2]):=by
  unfold iD
  try simp only [bu]
  kernel_rfl
def tX:List KV→KR KV:=bQ Try.prog 52 (bV (fun (r:(Sl aF)×Int)=>KV.fI [(fQ 118 c8) r.1,(kI .i64) r.2]) fun vs=>iD (iL (vs.getD 0 .av)) (cS (vs.getD 1 .av)) (intOf (vs.getD 2 .av)) (intOf (vs.getD 3 .av)))
theorem NC (w:Nat→KV):bU Try.prog [25,53,3,3] w 0 = [mC (iL (ao Try.prog (ae Try.prog ah) 25 (w 0))),fh (cS (ao Try.prog (ae Try.prog ah) 53 (w 1))),(kI .i64) (intOf (ao Try.prog (ae Try.prog ah) 3 (w 2))),(kI .i64) (intOf (ao Try.prog (ae Try.prog ah) 3 (w 3)))]:=by kernel_rfl
theorem tY:bD Try.prog 52 tX:=aR funcs mixed NA NB (L:=9) (n:=9) fun w=>by
  have e:aC Try.prog 52 = [25,53,3,3]:=by kernel_rfl
  rw [e,NC]
  exact (PH (iL (ao Try.prog (ae Try.prog ah) 25 (w 0))) (cS (ao Try.prog (ae Try.prog ah) 53 (w 1))) (intOf (ao Try.prog (ae Try.prog ah) 3 (w 2))) (intOf (ao Try.prog (ae Try.prog ah) 3 (w 3)))).trans (by kernel_rfl)
end
end Go.Proofs.Ytahhdndhkgbcjaa.b
end
section
namespace Go.Proofs.Ytahhdndhkgbcjaa.b
open Go.K
set_option linter.unusedVariables false
set_option linter.unusedSimpArgs false
noncomputable section
structure dJ where
  item:Int
  dt:Int
instance:Inhabited dJ:=⟨⟨default,default⟩⟩
def agQ (x:dJ):List KV:=[.int .i64 x.item,.int .i64 x.dt]
def mH (x:dJ):KV:=.agg (agQ x)
def agR (c:Nat→KV):dJ:=⟨intOf (c 0),intOf (c 1)⟩
def mI (v:KV):dJ:=agR fun k=>v.cells.getD k .av
theorem agS (x:dJ):mI (mH x)=x:=rfl
theorem agT:mI .av=default:=rfl
theorem acN (s:Sl dJ) (v:dJ):s.push v=gg mI (s.n+1) (cM s.n (fun i=>mH (s.get i)) (l7 [mH v])):=(sB agS agT s v).symm
structure aK where
  s:(Sl aF)
  t4:Int
  t7:Int
  t8:Int
  lV:dR
instance:Inhabited aK:=⟨⟨default,default,default,default,default⟩⟩
def du (x:aK):List KV:=[fQ 118 c8 x.s,.fn (.func 54) [] [.ptr 0 0],.int .i64 x.t4,.int .i64 x.t7,.int .i64 x.t8]
def dv (x:aK):List (List KV):=[Y6 x.lV]
def iW (vs:List KV) (rs:List (List KV)):aK:=⟨gh cK (vs.getD 0 .av),intOf (vs.getD 2 .av),intOf (vs.getD 3 .av),intOf (vs.getD 4 .av),Y7 (fun k=>(rs.getD 0 []).getD k .av)⟩
def je:ba:=⟨[(0,⟨false,[.k (.slice 118)]⟩),(1,⟨false,[.ref (.fn (.func 54) [] [.ptr 0 0])]⟩),(4,⟨false,[.k (.int .i64)]⟩),(7,⟨false,[.k (.int .i64)]⟩),(8,⟨false,[.k (.int .i64)]⟩)],[(100001,[.k (.int .i64),.k (.int .i64),.k (.int .i64),.k (.int .i64)],1)],[]⟩
def n3:=eR Try.prog (bx Try.prog [(55,rb),(52,tX),(51,pI),(50,o9)] [] (fun _=>false)) 9 9 85 26 (fp Try.prog 85 26) je
def cw (x:aK):(Option (Prod dR (Prod Bool Int))):=(gK (x.s.get (Int.toNat x.t8)) x.lV)
def bm (x:aK):bK aK:=
  (cond (decide (x.t8 < x.t7))
   (cond ((decide ((0:Int)≤x.t8)) && (decide (x.t8 < ((x.s.n:Nat):Int))))
    (cond (cw x).isSome
     (cond ((cw x).getD default).snd.fst
      (.out aV.au.ret (⟨x.s,x.t8,x.t7,x.t8,x.lV⟩:aK))
      (.next (⟨x.s,x.t4,x.t7,(aH (x.t8+(1:Int))),x.lV⟩:aK)))
     .fail)
    .fail)
   (.out (aV.au.exit 0) x))
theorem nk (x:aK):n3 (du x) (dv x)=bK.enc du dv (bm x):=by
  unfold bm
  try simp only [bK.ej]
  kernel_rfl
def cH:Lp:=⟨85,26,je,fun vs rs=>fg du dv (goN bm (iW vs rs)) [aV.au.exit 0,aV.au.ret]⟩
theorem iX:cH.Ok Try.prog:=cN funcs mixed (ai.cons rT (ai.cons tY (ai.cons qh (ai.cons oA ai.nil)))) ay.nil (L:=9) (n:=9) (step:=bm) (ev:=du) (er:=dv) (pa:=iW) rfl (fun wv wr=>⟨by kernel_rfl,by kernel_rfl⟩) nk
theorem hQ:cB Try.prog cH.f cH.p=true:=by kernel_rfl
structure b8 where
  out:(Sl dJ)
  e:Int
  t30:(Sl dJ)
  t31:Int
  t32:Int
  s:Show
  c:aI
  w:dR
instance:Inhabited b8:=⟨⟨default,default,default,default,default,default,default,default⟩⟩
def np (x:b8):List KV:=[fQ 47 mH x.out,.int .i64 x.e,fQ 47 mH x.t30,.int .i64 x.t31,.int .i64 x.t32]
def nq (x:b8):List (List KV):=[GF x.s,yl x.c,Y6 x.w]
def yC (vs:List KV) (rs:List (List KV)):b8:=⟨gh mI (vs.getD 0 .av),intOf (vs.getD 1 .av),gh mI (vs.getD 2 .av),intOf (vs.getD 3 .av),intOf (vs.getD 4 .av),GG (fun k=>(rs.getD 0 []).getD k .av),ym (fun k=>(rs.getD 1 []).getD k .av),Y7 (fun k=>(rs.getD 2 []).getD k .av)⟩
def zv:ba:=⟨[(8,⟨false,[.aJ 47]⟩),(9,⟨false,[.k (.int .i64)]⟩),(30,⟨false,[.k (.slice 47)]⟩),(31,⟨false,[.k (.int .i64)]⟩),(32,⟨false,[.k (.int .i64)]⟩)],[(4,[.k (.slice 45),.k (.slice 108)],1),(5,[.k (.int .i64),.k (.int .i64),.k (.int .i64),.k (.int .i64),.k (.int .i64),.k (.int .i64),.k (.int .i64),.k (.int .i64),.k (.int .i64),.k (.int .i64),.k (.int .i64),.k (.int .i64),.k (.int .i64),.k (.int .i64),.k (.int .i64),.k (.int .i64)],1),(7,[.k (.int .i64),.k (.int .i64),.k (.int .i64),.k (.int .i64)],1)],[(4,0,0),(5,1,0),(7,2,0)]⟩
def Kw:=eR Try.prog (bx Try.prog [(55,rb),(52,tX),(51,pI),(50,o9)] [cH] (fun _=>false)) 9 9 22 250 (fp Try.prog 22 250) zv
def gd (x:b8):(Option (Prod (Sl aF) Int)):=(iD x.s x.c (x.t30.get (Int.toNat x.t32)).item (x.t30.get (Int.toNat x.t32)).dt)
def cp (x:b8):(bK aK):=(goN bm (⟨((gd x).getD default).fst,(0:Int),((((gd x).getD default).fst.n:Nat):Int),(0:Int),x.w⟩:aK))
def fE (x:b8):bK b8:=
  (cond (decide (x.t32 < x.t31))
   (cond ((decide ((0:Int)≤x.t32)) && (decide (x.t32 < ((x.t30.n:Nat):Int))))
    (cond (gd x).isSome
     (cond (((gd x).getD default).snd != (0:Int))
      (.out aV.au.ret (⟨(⟨0,(fun i=>(⟨(0:Int),(0:Int)⟩:dJ))⟩:Sl _),((gd x).getD default).snd,x.t30,x.t31,x.t32,x.s,x.c,x.w⟩:b8))
      (cond ((cp x).by (aV.au.exit 0))
       (cond (aB x.out.n x.out.n)
        (.next (⟨x.out,x.e,x.t30,x.t31,(aH (x.t32+(1:Int))),x.s,x.c,(cp x).st.lV⟩:b8))
        .fail)
       (cond ((cp x).by aV.au.ret)
        (cond (decide ((cp x).st.t4 ≥ (0:Int)))
         (cond ((aB x.out.n x.out.n) && (cL 16 x.out.n 1))
          (cond (aB (x.out.n+1) (x.out.n+1))
           (.next (⟨(x.out.push (x.t30.get (Int.toNat x.t32))),x.e,x.t30,x.t31,(aH (x.t32+(1:Int))),x.s,x.c,(cp x).st.lV⟩:b8))
           .fail)
          .fail)
         (cond (aB x.out.n x.out.n)
          (.next (⟨x.out,x.e,x.t30,x.t31,(aH (x.t32+(1:Int))),x.s,x.c,(cp x).st.lV⟩:b8))
          .fail))
        .fail)))
     .fail)
    .fail)
   (cond (aB x.out.n x.out.n)
    (.out (aV.au.exit 0) x)
    .fail))
theorem GJ (x:b8):Kw (np x) (nq x)=bK.enc np nq (fE x):=by
  unfold fE
  try simp only [bK.ej,acN]
  kernel_rfl
def oB:Lp:=⟨22,250,zv,fun vs rs=>fg np nq (goN fE (yC vs rs)) [aV.au.exit 0,aV.au.ret]⟩
theorem Kx:oB.Ok Try.prog:=cN funcs mixed (ai.cons rT (ai.cons tY (ai.cons qh (ai.cons oA ai.nil)))) (ay.cons iX hQ ay.nil) (L:=9) (n:=9) (step:=fE) (ev:=np) (er:=nq) (pa:=yC) rfl (fun wv wr=>⟨by kernel_rfl,by kernel_rfl⟩) GJ
theorem EE:cB Try.prog oB.f oB.p=true:=by kernel_rfl
def GK:List (Nat×(List KV→KR KV)):=[(55,rb),(52,tX),(51,pI),(50,o9)]
def GL:List Lp:=[oB,cH]
theorem PI:ai Try.prog GK:=(ai.cons rT (ai.cons tY (ai.cons qh (ai.cons oA ai.nil))))
theorem PJ:ay Try.prog GL:=(ay.cons Kx EE (ay.cons iX hQ ay.nil))
def ri (s:Show) (c:aI) (l:(Sl dJ)) (w:dR):(Option Int):=(kD s)
def rj (s:Show) (c:aI) (l:(Sl dJ)) (w:dR):(Option Int):=(kf c w)
def dY (s:Show) (c:aI) (l:(Sl dJ)) (w:dR):(bK b8):=(goN fE (⟨(⟨0,(fun i=>(⟨(0:Int),(0:Int)⟩:dJ))⟩:Sl _),(0:Int),l,((l.n:Nat):Int),(0:Int),s,c,w⟩:b8))
def nU (s:Show) (c:aI) (l:(Sl dJ)) (w:dR):Option ((Sl dJ)×Int):=
  (cond (ri s c l w).isSome
   (cond (((ri s c l w).getD default) != (0:Int))
    (some ((⟨0,(fun i=>(⟨(0:Int),(0:Int)⟩:dJ))⟩:Sl _),((ri s c l w).getD default)))
    (cond (rj s c l w).isSome
     (cond (((rj s c l w).getD default) != (0:Int))
      (some ((⟨0,(fun i=>(⟨(0:Int),(0:Int)⟩:dJ))⟩:Sl _),((rj s c l w).getD default)))
      (cond (decide (((l.n:Nat):Int) > (16384:Int)))
       (some ((⟨0,(fun i=>(⟨(0:Int),(0:Int)⟩:dJ))⟩:Sl _),(4:Int)))
       (cond ((dY s c l w).by (aV.au.exit 0))
        (some ((dY s c l w).st.out,(0:Int)))
        (cond ((dY s c l w).by aV.au.ret)
         (some ((dY s c l w).st.out,(dY s c l w).st.e))
         none))))
     none))
   none)
theorem RN (s:Show) (c:aI) (l:(Sl dJ)) (w:dR):cm Try.prog (bx Try.prog GK GL (fun _=>false)) 9 9 22 [mC s,fh c,(fQ 47 mH) l,Ac w] = (nU s c l w).map (fun (r:(Sl dJ)×Int)=>KV.fI [(fQ 47 mH) r.1,(kI .i64) r.2]):=by
  unfold nU
  try simp only [bu]
  kernel_rfl
def vK:List KV→KR KV:=bQ Try.prog 22 (bV (fun (r:(Sl dJ)×Int)=>KV.fI [(fQ 47 mH) r.1,(kI .i64) r.2]) fun vs=>nU (iL (vs.getD 0 .av)) (cS (vs.getD 1 .av)) ((gh mI) (vs.getD 2 .av)) (Ad (vs.getD 3 .av)))
theorem PK (w:Nat→KV):bU Try.prog [25,53,29,70] w 0 = [mC (iL (ao Try.prog (ae Try.prog ah) 25 (w 0))),fh (cS (ao Try.prog (ae Try.prog ah) 53 (w 1))),(fQ 47 mH) ((gh mI) (ao Try.prog (ae Try.prog ah) 29 (w 2))),Ac (Ad (ao Try.prog (ae Try.prog ah) 70 (w 3)))]:=by kernel_rfl
theorem vh:bD Try.prog 22 vK:=aR funcs mixed PI PJ (L:=9) (n:=9) fun w=>by
  have e:aC Try.prog 22 = [25,53,29,70]:=by kernel_rfl
  rw [e,PK]
  exact (RN (iL (ao Try.prog (ae Try.prog ah) 25 (w 0))) (cS (ao Try.prog (ae Try.prog ah) 53 (w 1))) ((gh mI) (ao Try.prog (ae Try.prog ah) 29 (w 2))) (Ad (ao Try.prog (ae Try.prog ah) 70 (w 3)))).trans (by kernel_rfl)
structure lW where
  d:Int
  item:Int
  dt:Int
  part:Int
  u:Int
  v:Int
instance:Inhabited lW:=⟨⟨default,default,default,default,default,default⟩⟩
def ajm (x:lW):List KV:=[.int .i64 x.d,.int .i64 x.item,.int .i64 x.dt,.int .i64 x.part,.int .i64 x.u,.int .i64 x.v]
def Ky (x:lW):KV:=.agg (ajm x)
def ajn (c:Nat→KV):lW:=⟨intOf (c 0),intOf (c 1),intOf (c 2),intOf (c 3),intOf (c 4),intOf (c 5)⟩
def Vp (v:KV):lW:=ajn fun k=>v.cells.getD k .av
theorem agU (x:lW):Vp (Ky x)=x:=rfl
theorem agV:Vp .av=default:=rfl
theorem acO (s:Sl lW) (v:lW):s.push v=gg Vp (s.n+1) (cM s.n (fun i=>Ky (s.get i)) (l7 [Ky v])):=(sB agU agV s v).symm
structure cV where
  t:aF
  zw:lW
instance:Inhabited cV:=⟨⟨default,default⟩⟩
def Zh (x:cV):List KV:=[.int .i64 x.t.e0.x,.int .i64 x.t.e0.y,.int .i64 x.t.e0.d,.int .i64 x.t.e0.u,.int .i64 x.t.e0.v,.int .i64 x.t.e1.x,.int .i64 x.t.e1.y,.int .i64 x.t.e1.d,.int .i64 x.t.e1.u,.int .i64 x.t.e1.v,.int .i64 x.t.e2.x,.int .i64 x.t.e2.y,.int .i64 x.t.e2.d,.int .i64 x.t.e2.u,.int .i64 x.t.e2.v,.int .i64 x.zw.d,.int .i64 x.zw.item,.int .i64 x.zw.dt,.int .i64 x.zw.part,.int .i64 x.zw.u,.int .i64 x.zw.v]
def tZ (x:cV):KV:=.agg (Zh x)
def Zi (c:Nat→KV):cV:=⟨⟨⟨intOf (c 0),intOf (c 1),intOf (c 2),intOf (c 3),intOf (c 4)⟩,⟨intOf (c 5),intOf (c 6),intOf (c 7),intOf (c 8),intOf (c 9)⟩,⟨intOf (c 10),intOf (c 11),intOf (c 12),intOf (c 13),intOf (c 14)⟩⟩,⟨intOf (c 15),intOf (c 16),intOf (c 17),intOf (c 18),intOf (c 19),intOf (c 20)⟩⟩
def ua (v:KV):cV:=Zi fun k=>v.cells.getD k .av
theorem Vq (x:cV):ua (tZ x)=x:=rfl
theorem Vr:ua .av=default:=rfl
theorem PL (s:Sl cV) (v:cV):s.push v=gg ua (s.n+1) (cM s.n (fun i=>tZ (s.get i)) (l7 [tZ v])):=(sB Vq Vr s v).symm
structure cc where
  acP:Show
  parts:(Sl cV)
instance:Inhabited cc:=⟨⟨default,default⟩⟩
def lN (x:cc):List KV:=[fQ 45 GC x.acP.items,fQ 108 nT x.acP.bj,fQ 139 tZ x.parts]
def vL (x:cc):KV:=.agg (lN x)
def nV (c:Nat→KV):cc:=⟨⟨gh Dj (c 0),gh ki (c 1)⟩,gh ua (c 2)⟩
structure eQ where
  t14:(Sl Item)
  t15:Int
  t16:Int
  s:Show
  c:aI
  t4:cc
  out:cc
instance:Inhabited eQ:=⟨⟨default,default,default,default,default,default,default⟩⟩
def rl (x:eQ):List KV:=[fQ 45 GC x.t14,.int .i64 x.t15,.int .i64 x.t16]
def rm (x:eQ):List (List KV):=[GF x.s,yl x.c,lN x.t4,lN x.out]
def Ed (vs:List KV) (rs:List (List KV)):eQ:=⟨gh Dj (vs.getD 0 .av),intOf (vs.getD 1 .av),intOf (vs.getD 2 .av),GG (fun k=>(rs.getD 0 []).getD k .av),ym (fun k=>(rs.getD 1 []).getD k .av),nV (fun k=>(rs.getD 2 []).getD k .av),nV (fun k=>(rs.getD 3 []).getD k .av)⟩
def GM:ba:=⟨[(14,⟨false,[.k (.slice 45)]⟩),(15,⟨false,[.k (.int .i64)]⟩),(16,⟨false,[.k (.int .i64)]⟩)],[(2,[.k (.slice 45),.k (.slice 108)],1),(3,[.k (.int .i64),.k (.int .i64),.k (.int .i64),.k (.int .i64),.k (.int .i64),.k (.int .i64),.k (.int .i64),.k (.int .i64),.k (.int .i64),.k (.int .i64),.k (.int .i64),.k (.int .i64),.k (.int .i64),.k (.int .i64),.k (.int .i64),.k (.int .i64)],1),(4,[.k (.slice 45),.k (.slice 108),.aJ 139],1),(5,[.k (.slice 45),.k (.slice 108),.aJ 139],1)],[(2,0,0),(3,1,0),(4,2,0),(5,3,0)]⟩
structure cU where
  i:Int
  t14:(Sl Item)
  t15:Int
  t16:Int
  t23:Int
  t24:Int
  s:Show
  c:aI
  t4:cc
  out:cc
  x:Item
instance:Inhabited cU:=⟨⟨default,default,default,default,default,default,default,default,default,default,default⟩⟩
def ns (x:cU):List KV:=[.int .i64 x.i,fQ 45 GC x.t14,.int .i64 x.t15,.int .i64 x.t16,.int .i64 x.t23,.int .i64 x.t24]
def nt (x:cU):List (List KV):=[GF x.s,yl x.c,lN x.t4,lN x.out,Pz x.x]
def yD (vs:List KV) (rs:List (List KV)):cU:=⟨intOf (vs.getD 0 .av),gh Dj (vs.getD 1 .av),intOf (vs.getD 2 .av),intOf (vs.getD 3 .av),intOf (vs.getD 4 .av),intOf (vs.getD 5 .av),GG (fun k=>(rs.getD 0 []).getD k .av),ym (fun k=>(rs.getD 1 []).getD k .av),nV (fun k=>(rs.getD 2 []).getD k .av),nV (fun k=>(rs.getD 3 []).getD k .av),PA (fun k=>(rs.getD 4 []).getD k .av)⟩
def zx:ba:=⟨[(6,⟨false,[.k (.int .i64)]⟩),(14,⟨false,[.k (.slice 45)]⟩),(15,⟨false,[.k (.int .i64)]⟩),(16,⟨false,[.k (.int .i64)]⟩),(23,⟨false,[.k (.int .i64)]⟩),(24,⟨false,[.k (.int .i64)]⟩)],[(2,[.k (.slice 45),.k (.slice 108)],1),(3,[.k (.int .i64),.k (.int .i64),.k (.int .i64),.k (.int .i64),.k (.int .i64),.k (.int .i64),.k (.int .i64),.k (.int .i64),.k (.int .i64),.k (.int .i64),.k (.int .i64),.k (.int .i64),.k (.int .i64),.k (.int .i64),.k (.int .i64),.k (.int .i64)],1),(4,[.k (.slice 45),.k (.slice 108),.aJ 139],1),(5,[.k (.slice 45),.k (.slice 108),.aJ 139],1),(7,[.k (.slice 41),.k (.slice 176),.k (.slice 50),.k (.int .u8),.k (.int .u8),.k (.int .u8),.k (.int .u8),.k (.int .i64),.k (.int .u8),.k (.int .i64),.k .bool,.k (.int .i64),.k (.int .i64),.k (.int .i64),.k (.int .i64),.k (.int .i64),.k (.int .i64),.k (.int .i64)],1)],[(2,0,0),(3,1,0),(4,2,0),(5,3,0),(7,4,0)]⟩
structure c7 where
  i:Int
  k:Int
  t14:(Sl Item)
  t15:Int
  t16:Int
  t23:Int
  t24:Int
  t31:(Sl aF)
  t32:Int
  t33:Int
  s:Show
  c:aI
  t4:cc
  out:cc
  x:Item
instance:Inhabited c7:=⟨⟨default,default,default,default,default,default,default,default,default,default,default,default,default,default,default⟩⟩
def lB (x:c7):List KV:=[.int .i64 x.i,.int .i64 x.k,fQ 45 GC x.t14,.int .i64 x.t15,.int .i64 x.t16,.int .i64 x.t23,.int .i64 x.t24,fQ 118 c8 x.t31,.int .i64 x.t32,.int .i64 x.t33]
def lC (x:c7):List (List KV):=[GF x.s,yl x.c,lN x.t4,lN x.out,Pz x.x]
def wy (vs:List KV) (rs:List (List KV)):c7:=⟨intOf (vs.getD 0 .av),intOf (vs.getD 1 .av),gh Dj (vs.getD 2 .av),intOf (vs.getD 3 .av),intOf (vs.getD 4 .av),intOf (vs.getD 5 .av),intOf (vs.getD 6 .av),gh cK (vs.getD 7 .av),intOf (vs.getD 8 .av),intOf (vs.getD 9 .av),GG (fun k=>(rs.getD 0 []).getD k .av),ym (fun k=>(rs.getD 1 []).getD k .av),nV (fun k=>(rs.getD 2 []).getD k .av),nV (fun k=>(rs.getD 3 []).getD k .av),PA (fun k=>(rs.getD 4 []).getD k .av)⟩
def xf:ba:=⟨[(6,⟨false,[.k (.int .i64)]⟩),(8,⟨false,[.k (.int .i64)]⟩),(14,⟨false,[.k (.slice 45)]⟩),(15,⟨false,[.k (.int .i64)]⟩),(16,⟨false,[.k (.int .i64)]⟩),(23,⟨false,[.k (.int .i64)]⟩),(24,⟨false,[.k (.int .i64)]⟩),(31,⟨false,[.k (.slice 118)]⟩),(32,⟨false,[.k (.int .i64)]⟩),(33,⟨false,[.k (.int .i64)]⟩)],[(2,[.k (.slice 45),.k (.slice 108)],1),(3,[.k (.int .i64),.k (.int .i64),.k (.int .i64),.k (.int .i64),.k (.int .i64),.k (.int .i64),.k (.int .i64),.k (.int .i64),.k (.int .i64),.k (.int .i64),.k (.int .i64),.k (.int .i64),.k (.int .i64),.k (.int .i64),.k (.int .i64),.k (.int .i64)],1),(4,[.k (.slice 45),.k (.slice 108),.aJ 139],1),(5,[.k (.slice 45),.k (.slice 108),.aJ 139],1),(7,[.k (.slice 41),.k (.slice 176),.k (.slice 50),.k (.int .u8),.k (.int .u8),.k (.int .u8),.k (.int .u8),.k (.int .i64),.k (.int .u8),.k (.int .i64),.k .bool,.k (.int .i64),.k (.int .i64),.k (.int .i64),.k (.int .i64),.k (.int .i64),.k (.int .i64),.k (.int .i64)],1)],[(2,0,0),(3,1,0),(4,2,0),(5,3,0),(7,4,0)]⟩
def GN:=eR Try.prog (bx Try.prog [(84,mF)] [] (fun _=>false)) 9 9 57 3827302 (fp Try.prog 57 3827302) xf
def dK (x:c7):bK c7:=
  (cond (decide (x.t33 < x.t32))
   (cond ((decide ((0:Int)≤x.t33)) && (decide (x.t33 < ((x.t31.n:Nat):Int))))
    (cond ((aB x.out.parts.n x.out.parts.n) && (cL 168 x.out.parts.n 1))
     (cond (cond (aB (x.out.parts.n+1) (x.out.parts.n+1)) (aB x.t4.parts.n x.t4.parts.n) false)
      (.next (⟨x.i,x.k,x.t14,x.t15,x.t16,x.t23,x.t24,x.t31,x.t32,(aH (x.t33+(1:Int))),x.s,x.c,x.t4,(⟨x.out.acP,(x.out.parts.push (⟨(x.t31.get (Int.toNat x.t33)),(⟨x.x.look.abr,x.i,x.k,x.t33,(0:Int),(0:Int)⟩:lW)⟩:cV))⟩:cc),x.x⟩:c7))
      .fail)
     .fail)
    .fail)
   (cond (cond (aB x.out.parts.n x.out.parts.n) (aB x.t4.parts.n x.t4.parts.n) false)
    (.out (aV.au.exit 4) x)
    .fail))
theorem Dm (x:c7):GN (lB x) (lC x)=bK.enc lB lC (dK x):=by
  unfold dK
  try simp only [bK.ej,PL]
  kernel_rfl
def iE:Lp:=⟨57,3827302,xf,fun vs rs=>fg lB lC (goN dK (wy vs rs)) [aV.au.exit 4]⟩
theorem pd:iE.Ok Try.prog:=cN funcs mixed (ai.cons lA ai.nil) ay.nil (L:=9) (n:=9) (step:=dK) (ev:=lB) (er:=lC) (pa:=wy) rfl (fun wv wr=>⟨by kernel_rfl,by kernel_rfl⟩) Dm
theorem mJ:cB Try.prog iE.f iE.p=true:=by kernel_rfl
def Kz:=eR Try.prog (bx Try.prog [(84,mF)] [iE] (fun _=>false)) 9 9 57 14950 (fp Try.prog 57 14950) zx
def jS (x:cU):(Option (Sl aF)):=(c6 x.s x.c x.i x.t24)
def bn (x:cU):(bK c7):=(goN dK (⟨x.i,x.t24,x.t14,x.t15,x.t16,x.t23,x.t24,((jS x).getD default),((((jS x).getD default).n:Nat):Int),(0:Int),x.s,x.c,x.t4,x.out,x.x⟩:c7))
def eH (x:cU):bK cU:=
  (cond (decide (x.t24 < x.t23))
   (cond (jS x).isSome
    (cond (cond (aB x.out.parts.n x.out.parts.n) (aB x.t4.parts.n x.t4.parts.n) false)
     (cond ((bn x).by (aV.au.exit 4))
      (cond (cond (aB (bn x).st.out.parts.n (bn x).st.out.parts.n) (aB (bn x).st.t4.parts.n (bn x).st.t4.parts.n) false)
       (.next (⟨(bn x).st.i,(bn x).st.t14,(bn x).st.t15,(bn x).st.t16,(bn x).st.t23,(aH ((bn x).st.t24+(1:Int))),(bn x).st.s,(bn x).st.c,(bn x).st.t4,(bn x).st.out,(bn x).st.x⟩:cU))
       .fail)
      .fail)
     .fail)
    .fail)
   (cond (cond (aB x.out.parts.n x.out.parts.n) (aB x.t4.parts.n x.t4.parts.n) false)
    (.out (aV.au.exit 2) x)
    .fail))
theorem GP (x:cU):Kz (ns x) (nt x)=bK.enc ns nt (eH x):=by
  unfold eH
  try simp only [bK.ej]
  kernel_rfl
def lD:Lp:=⟨57,14950,zx,fun vs rs=>fg ns nt (goN eH (yD vs rs)) [aV.au.exit 2]⟩
theorem yE:lD.Ok Try.prog:=cN funcs mixed (ai.cons lA ai.nil) (ay.cons pd mJ ay.nil) (L:=9) (n:=9) (step:=eH) (ev:=ns) (er:=nt) (pa:=yD) rfl (fun wv wr=>⟨by kernel_rfl,by kernel_rfl⟩) GP
theorem uy:cB Try.prog lD.f lD.p=true:=by kernel_rfl
def RO:=eR Try.prog (bx Try.prog [(84,mF)] [iE,lD] (fun _=>false)) 9 9 57 58 (fp Try.prog 57 58) GM
def cq (x:eQ):(bK cU):=(goN eH (⟨x.t16,x.t14,x.t15,x.t16,(((x.t14.get (Int.toNat x.t16)).cZ.n:Nat):Int),(0:Int),x.s,x.c,x.t4,x.out,(x.t14.get (Int.toNat x.t16))⟩:cU))
def gf (x:eQ):bK eQ:=
  (cond (decide (x.t16 < x.t15))
   (cond ((decide ((0:Int)≤x.t16)) && (decide (x.t16 < ((x.t14.n:Nat):Int))))
    (cond (cond (aB x.out.parts.n x.out.parts.n) (aB x.t4.parts.n x.t4.parts.n) false)
     (cond ((cq x).by (aV.au.exit 2))
      (cond (cond (aB (cq x).st.out.parts.n (cq x).st.out.parts.n) (aB (cq x).st.t4.parts.n (cq x).st.t4.parts.n) false)
       (.next (⟨(cq x).st.t14,(cq x).st.t15,(aH ((cq x).st.t16+(1:Int))),(cq x).st.s,(cq x).st.c,(cq x).st.t4,(cq x).st.out⟩:eQ))
       .fail)
      .fail)
     .fail)
    .fail)
   (cond (cond (aB x.out.parts.n x.out.parts.n) (aB x.t4.parts.n x.t4.parts.n) false)
    (.out (aV.au.exit 0) x)
    .fail))
theorem ND (x:eQ):RO (rl x) (rm x)=bK.enc rl rm (gf x):=by
  unfold gf
  try simp only [bK.ej]
  kernel_rfl
def ub:Lp:=⟨57,58,GM,fun vs rs=>fg rl rm (goN gf (Ed vs rs)) [aV.au.exit 0]⟩
theorem RP:ub.Ok Try.prog:=cN funcs mixed (ai.cons lA ai.nil) (ay.cons pd mJ (ay.cons yE uy ay.nil)) (L:=9) (n:=9) (step:=gf) (ev:=rl) (er:=rm) (pa:=Ed) rfl (fun wv wr=>⟨by kernel_rfl,by kernel_rfl⟩) ND
theorem KA:cB Try.prog ub.f ub.p=true:=by kernel_rfl
def NF:List (Nat×(List KV→KR KV)):=[(84,mF)]
def NG:List Lp:=[iE,lD,ub]
theorem Vs:ai Try.prog NF:=(ai.cons lA ai.nil)
theorem Vt:ay Try.prog NG:=(ay.cons pd mJ (ay.cons yE uy (ay.cons RP KA ay.nil)))
def vM (s:Show) (c:aI):(bK eQ):=(goN gf (⟨s.items,((s.items.n:Nat):Int),(0:Int),s,c,(⟨(⟨(⟨0,(fun i=>(⟨(⟨0,(fun i=>(⟨(0:Int),(0:Int),(0:Int)⟩:ct))⟩:Sl _),(⟨0,(fun i=>(⟨(0:Int),(0:Int)⟩:re))⟩:Sl _),(⟨0,(fun i=>(⟨(0:Int),(0:Int),(0:Int)⟩:dc))⟩:Sl _),(⟨(⟨(0:Int),(0:Int),(0:Int),(0:Int)⟩:Color),(0:Int),(0:Int),(0:Int),false,(0:Int)⟩:yy),(⟨(⟨(0:Int),(0:Int),(0:Int)⟩:ct),(⟨(0:Int),(0:Int),(0:Int)⟩:ct)⟩:oD)⟩:Item))⟩:Sl _),(⟨0,(fun i=>(⟨(0:Int),(0:Int),(⟨0,(fun i=>(⟨(0:Int),(0:Int),(0:Int),(0:Int)⟩:Color))⟩:Sl _)⟩:eo))⟩:Sl _)⟩:Show),(⟨0,(fun i=>(⟨(⟨(⟨(0:Int),(0:Int),(0:Int),(0:Int),(0:Int)⟩:cr),(⟨(0:Int),(0:Int),(0:Int),(0:Int),(0:Int)⟩:cr),(⟨(0:Int),(0:Int),(0:Int),(0:Int),(0:Int)⟩:cr)⟩:aF),(⟨(0:Int),(0:Int),(0:Int),(0:Int),(0:Int),(0:Int)⟩:lW)⟩:cV))⟩:Sl _)⟩:cc),(⟨s,(⟨0,(fun i=>(⟨(⟨(⟨(0:Int),(0:Int),(0:Int),(0:Int),(0:Int)⟩:cr),(⟨(0:Int),(0:Int),(0:Int),(0:Int),(0:Int)⟩:cr),(⟨(0:Int),(0:Int),(0:Int),(0:Int),(0:Int)⟩:cr)⟩:aF),(⟨(0:Int),(0:Int),(0:Int),(0:Int),(0:Int),(0:Int)⟩:lW)⟩:cV))⟩:Sl _)⟩:cc)⟩:eQ))
def sJ (s:Show) (c:aI):Option (cc):=
  (cond ((vM s c).by (aV.au.exit 0))
   (some ((vM s c).st.out))
   none)
theorem Ws (s:Show) (c:aI):cm Try.prog (bx Try.prog NF NG (fun _=>false)) 9 9 57 [mC s,fh c] = (sJ s c).map vL:=by
  unfold sJ
  try simp only [bu]
  kernel_rfl
def QY:List KV→KR KV:=bQ Try.prog 57 (bV vL fun vs=>sJ (iL (vs.getD 0 .av)) (cS (vs.getD 1 .av)))
theorem Vu (w:Nat→KV):bU Try.prog [25,53] w 0 = [mC (iL (ao Try.prog (ae Try.prog ah) 25 (w 0))),fh (cS (ao Try.prog (ae Try.prog ah) 53 (w 1)))]:=by kernel_rfl
theorem Vv:bD Try.prog 57 QY:=aR funcs mixed Vs Vt (L:=9) (n:=9) fun w=>by
  have e:aC Try.prog 57 = [25,53]:=by kernel_rfl
  rw [e,Vu]
  exact (Ws (iL (ao Try.prog (ae Try.prog ah) 25 (w 0))) (cS (ao Try.prog (ae Try.prog ah) 53 (w 1)))).trans (by kernel_rfl)
def NH:List (Nat×(List KV→KR KV)):=[(57,QY),(56,yA)]
def NI:List Lp:=[]
theorem Vw:ai Try.prog NH:=(ai.cons Vv (ai.cons zu ai.nil))
theorem Vx:ay Try.prog NI:=ay.nil
def vN (s:Show) (c:aI) (x:Int) (y:Int):(Option Int):=(dI s c)
def Av (s:Show) (c:aI) (x:Int) (y:Int):(Option cc):=(sJ s c)
def sK (s:Show) (c:aI) (x:Int) (y:Int):Option (cc×Int):=
  (cond (vN s c x y).isSome
   (cond (((vN s c x y).getD default) != (0:Int))
    (some ((⟨(⟨(⟨0,(fun i=>(⟨(⟨0,(fun i=>(⟨(0:Int),(0:Int),(0:Int)⟩:ct))⟩:Sl _),(⟨0,(fun i=>(⟨(0:Int),(0:Int)⟩:re))⟩:Sl _),(⟨0,(fun i=>(⟨(0:Int),(0:Int),(0:Int)⟩:dc))⟩:Sl _),(⟨(⟨(0:Int),(0:Int),(0:Int),(0:Int)⟩:Color),(0:Int),(0:Int),(0:Int),false,(0:Int)⟩:yy),(⟨(⟨(0:Int),(0:Int),(0:Int)⟩:ct),(⟨(0:Int),(0:Int),(0:Int)⟩:ct)⟩:oD)⟩:Item))⟩:Sl _),(⟨0,(fun i=>(⟨(0:Int),(0:Int),(⟨0,(fun i=>(⟨(0:Int),(0:Int),(0:Int),(0:Int)⟩:Color))⟩:Sl _)⟩:eo))⟩:Sl _)⟩:Show),(⟨0,(fun i=>(⟨(⟨(⟨(0:Int),(0:Int),(0:Int),(0:Int),(0:Int)⟩:cr),(⟨(0:Int),(0:Int),(0:Int),(0:Int),(0:Int)⟩:cr),(⟨(0:Int),(0:Int),(0:Int),(0:Int),(0:Int)⟩:cr)⟩:aF),(⟨(0:Int),(0:Int),(0:Int),(0:Int),(0:Int),(0:Int)⟩:lW)⟩:cV))⟩:Sl _)⟩:cc),((vN s c x y).getD default)))
    (cond (decide (x < (0:Int)))
     (some ((⟨(⟨(⟨0,(fun i=>(⟨(⟨0,(fun i=>(⟨(0:Int),(0:Int),(0:Int)⟩:ct))⟩:Sl _),(⟨0,(fun i=>(⟨(0:Int),(0:Int)⟩:re))⟩:Sl _),(⟨0,(fun i=>(⟨(0:Int),(0:Int),(0:Int)⟩:dc))⟩:Sl _),(⟨(⟨(0:Int),(0:Int),(0:Int),(0:Int)⟩:Color),(0:Int),(0:Int),(0:Int),false,(0:Int)⟩:yy),(⟨(⟨(0:Int),(0:Int),(0:Int)⟩:ct),(⟨(0:Int),(0:Int),(0:Int)⟩:ct)⟩:oD)⟩:Item))⟩:Sl _),(⟨0,(fun i=>(⟨(0:Int),(0:Int),(⟨0,(fun i=>(⟨(0:Int),(0:Int),(0:Int),(0:Int)⟩:Color))⟩:Sl _)⟩:eo))⟩:Sl _)⟩:Show),(⟨0,(fun i=>(⟨(⟨(⟨(0:Int),(0:Int),(0:Int),(0:Int),(0:Int)⟩:cr),(⟨(0:Int),(0:Int),(0:Int),(0:Int),(0:Int)⟩:cr),(⟨(0:Int),(0:Int),(0:Int),(0:Int),(0:Int)⟩:cr)⟩:aF),(⟨(0:Int),(0:Int),(0:Int),(0:Int),(0:Int),(0:Int)⟩:lW)⟩:cV))⟩:Sl _)⟩:cc),(2:Int)))
     (cond (decide (x ≥ c.w))
      (some ((⟨(⟨(⟨0,(fun i=>(⟨(⟨0,(fun i=>(⟨(0:Int),(0:Int),(0:Int)⟩:ct))⟩:Sl _),(⟨0,(fun i=>(⟨(0:Int),(0:Int)⟩:re))⟩:Sl _),(⟨0,(fun i=>(⟨(0:Int),(0:Int),(0:Int)⟩:dc))⟩:Sl _),(⟨(⟨(0:Int),(0:Int),(0:Int),(0:Int)⟩:Color),(0:Int),(0:Int),(0:Int),false,(0:Int)⟩:yy),(⟨(⟨(0:Int),(0:Int),(0:Int)⟩:ct),(⟨(0:Int),(0:Int),(0:Int)⟩:ct)⟩:oD)⟩:Item))⟩:Sl _),(⟨0,(fun i=>(⟨(0:Int),(0:Int),(⟨0,(fun i=>(⟨(0:Int),(0:Int),(0:Int),(0:Int)⟩:Color))⟩:Sl _)⟩:eo))⟩:Sl _)⟩:Show),(⟨0,(fun i=>(⟨(⟨(⟨(0:Int),(0:Int),(0:Int),(0:Int),(0:Int)⟩:cr),(⟨(0:Int),(0:Int),(0:Int),(0:Int),(0:Int)⟩:cr),(⟨(0:Int),(0:Int),(0:Int),(0:Int),(0:Int)⟩:cr)⟩:aF),(⟨(0:Int),(0:Int),(0:Int),(0:Int),(0:Int),(0:Int)⟩:lW)⟩:cV))⟩:Sl _)⟩:cc),(2:Int)))
      (cond (decide (y < (0:Int)))
       (some ((⟨(⟨(⟨0,(fun i=>(⟨(⟨0,(fun i=>(⟨(0:Int),(0:Int),(0:Int)⟩:ct))⟩:Sl _),(⟨0,(fun i=>(⟨(0:Int),(0:Int)⟩:re))⟩:Sl _),(⟨0,(fun i=>(⟨(0:Int),(0:Int),(0:Int)⟩:dc))⟩:Sl _),(⟨(⟨(0:Int),(0:Int),(0:Int),(0:Int)⟩:Color),(0:Int),(0:Int),(0:Int),false,(0:Int)⟩:yy),(⟨(⟨(0:Int),(0:Int),(0:Int)⟩:ct),(⟨(0:Int),(0:Int),(0:Int)⟩:ct)⟩:oD)⟩:Item))⟩:Sl _),(⟨0,(fun i=>(⟨(0:Int),(0:Int),(⟨0,(fun i=>(⟨(0:Int),(0:Int),(0:Int),(0:Int)⟩:Color))⟩:Sl _)⟩:eo))⟩:Sl _)⟩:Show),(⟨0,(fun i=>(⟨(⟨(⟨(0:Int),(0:Int),(0:Int),(0:Int),(0:Int)⟩:cr),(⟨(0:Int),(0:Int),(0:Int),(0:Int),(0:Int)⟩:cr),(⟨(0:Int),(0:Int),(0:Int),(0:Int),(0:Int)⟩:cr)⟩:aF),(⟨(0:Int),(0:Int),(0:Int),(0:Int),(0:Int),(0:Int)⟩:lW)⟩:cV))⟩:Sl _)⟩:cc),(2:Int)))
       (cond (decide (y ≥ c.h))
        (some ((⟨(⟨(⟨0,(fun i=>(⟨(⟨0,(fun i=>(⟨(0:Int),(0:Int),(0:Int)⟩:ct))⟩:Sl _),(⟨0,(fun i=>(⟨(0:Int),(0:Int)⟩:re))⟩:Sl _),(⟨0,(fun i=>(⟨(0:Int),(0:Int),(0:Int)⟩:dc))⟩:Sl _),(⟨(⟨(0:Int),(0:Int),(0:Int),(0:Int)⟩:Color),(0:Int),(0:Int),(0:Int),false,(0:Int)⟩:yy),(⟨(⟨(0:Int),(0:Int),(0:Int)⟩:ct),(⟨(0:Int),(0:Int),(0:Int)⟩:ct)⟩:oD)⟩:Item))⟩:Sl _),(⟨0,(fun i=>(⟨(0:Int),(0:Int),(⟨0,(fun i=>(⟨(0:Int),(0:Int),(0:Int),(0:Int)⟩:Color))⟩:Sl _)⟩:eo))⟩:Sl _)⟩:Show),(⟨0,(fun i=>(⟨(⟨(⟨(0:Int),(0:Int),(0:Int),(0:Int),(0:Int)⟩:cr),(⟨(0:Int),(0:Int),(0:Int),(0:Int),(0:Int)⟩:cr),(⟨(0:Int),(0:Int),(0:Int),(0:Int),(0:Int)⟩:cr)⟩:aF),(⟨(0:Int),(0:Int),(0:Int),(0:Int),(0:Int),(0:Int)⟩:lW)⟩:cV))⟩:Sl _)⟩:cc),(2:Int)))
        (cond (Av s c x y).isSome
         (some (((Av s c x y).getD default),(0:Int)))
         none))))))
   none)
theorem Wt (s:Show) (c:aI) (x:Int) (y:Int):cm Try.prog (bx Try.prog NH NI (fun _=>false)) 9 9 40 [mC s,fh c,(kI .i64) x,(kI .i64) y] = (sK s c x y).map (fun (r:cc×Int)=>KV.fI [vL r.1,(kI .i64) r.2]):=by
  unfold sK
  try simp only [bu]
  kernel_rfl
def GQ:List KV→KR KV:=bQ Try.prog 40 (bV (fun (r:cc×Int)=>KV.fI [vL r.1,(kI .i64) r.2]) fun vs=>sK (iL (vs.getD 0 .av)) (cS (vs.getD 1 .av)) (intOf (vs.getD 2 .av)) (intOf (vs.getD 3 .av)))
theorem Vy (w:Nat→KV):bU Try.prog [25,53,3,3] w 0 = [mC (iL (ao Try.prog (ae Try.prog ah) 25 (w 0))),fh (cS (ao Try.prog (ae Try.prog ah) 53 (w 1))),(kI .i64) (intOf (ao Try.prog (ae Try.prog ah) 3 (w 2))),(kI .i64) (intOf (ao Try.prog (ae Try.prog ah) 3 (w 3)))]:=by kernel_rfl
theorem GS:bD Try.prog 40 GQ:=aR funcs mixed Vw Vx (L:=9) (n:=9) fun w=>by
  have e:aC Try.prog 40 = [25,53,3,3]:=by kernel_rfl
  rw [e,Vy]
  exact (Wt (iL (ao Try.prog (ae Try.prog ah) 25 (w 0))) (cS (ao Try.prog (ae Try.prog ah) 53 (w 1))) (intOf (ao Try.prog (ae Try.prog ah) 3 (w 2))) (intOf (ao Try.prog (ae Try.prog ah) 3 (w 3)))).trans (by kernel_rfl)
structure aQ where
  x:Int
  y:Int
  t14:(Sl cV)
  t15:Int
  t16:Int
  kE:(Sl lW)
instance:Inhabited aQ:=⟨⟨default,default,default,default,default,default⟩⟩
def dA (x:aQ):List KV:=[.int .i64 x.x,.int .i64 x.y,.fn (.func 42) [] [.ptr 0 0],fQ 139 tZ x.t14,.int .i64 x.t15,.int .i64 x.t16]
def dB (x:aQ):List (List KV):=[[fQ 58 Ky x.kE]]
def jf (vs:List KV) (rs:List (List KV)):aQ:=⟨intOf (vs.getD 0 .av),intOf (vs.getD 1 .av),gh ua (vs.getD 3 .av),intOf (vs.getD 4 .av),intOf (vs.getD 5 .av),gh Vp ((rs.getD 0 []).getD 0 .av)⟩
def jy:ba:=⟨[(1,⟨false,[.k (.int .i64)]⟩),(2,⟨false,[.k (.int .i64)]⟩),(3,⟨false,[.ref (.fn (.func 42) [] [.ptr 0 0])]⟩),(14,⟨false,[.k (.slice 139)]⟩),(15,⟨false,[.k (.int .i64)]⟩),(16,⟨false,[.k (.int .i64)]⟩)],[(100003,[.aJ 58],1)],[]⟩
def oE:=eR Try.prog (bx Try.prog [(66,Gs),(40,GQ)] [] (fun _=>false)) 9 9 41 14 (fp Try.prog 41 14) jy
def bI (x:aQ):(Option (Prod cr Int)):=(o5 (x.t14.get (Int.toNat x.t16)).t x.x x.y)
def bp (x:aQ):bK aQ:=
  (cond (decide (x.t16 < x.t15))
   (cond ((decide ((0:Int)≤x.t16)) && (decide (x.t16 < ((x.t14.n:Nat):Int))))
    (cond (bI x).isSome
     (cond (((bI x).getD default).snd == (0:Int))
      (cond ((aB x.kE.n x.kE.n) && (cL 48 x.kE.n 1))
       (cond (aB x.kE.n x.kE.n)
        (.next (⟨x.x,x.y,x.t14,x.t15,(aH (x.t16+(1:Int))),(x.kE.push (⟨(aH ((x.t14.get (Int.toNat x.t16)).zw.d+((bI x).getD default).fst.d)),(x.t14.get (Int.toNat x.t16)).zw.item,(x.t14.get (Int.toNat x.t16)).zw.dt,(x.t14.get (Int.toNat x.t16)).zw.part,((bI x).getD default).fst.u,((bI x).getD default).fst.v⟩:lW))⟩:aQ))
        .fail)
       .fail)
      (cond (aB x.kE.n x.kE.n)
       (.next (⟨x.x,x.y,x.t14,x.t15,(aH (x.t16+(1:Int))),x.kE⟩:aQ))
       .fail))
     .fail)
    .fail)
   (cond (aB x.kE.n x.kE.n)
    (.out (aV.au.exit 0) x)
    .fail))
theorem nK (x:aQ):oE (dA x) (dB x)=bK.enc dA dB (bp x):=by
  unfold bp
  try simp only [bK.ej,acO]
  kernel_rfl
def dL:Lp:=⟨41,14,jy,fun vs rs=>fg dA dB (goN bp (jf vs rs)) [aV.au.exit 0]⟩
theorem oG:dL.Ok Try.prog:=cN funcs mixed (ai.cons Gu (ai.cons GS ai.nil)) ay.nil (L:=9) (n:=9) (step:=bp) (ev:=dA) (er:=dB) (pa:=jf) rfl (fun wv wr=>⟨by kernel_rfl,by kernel_rfl⟩) nK
theorem nu:cB Try.prog dL.f dL.p=true:=by kernel_rfl
def Ee:List (Nat×(List KV→KR KV)):=[(66,Gs),(40,GQ)]
def Ef:List Lp:=[dL]
theorem NJ:ai Try.prog Ee:=(ai.cons Gu (ai.cons GS ai.nil))
theorem NK:ay Try.prog Ef:=(ay.cons oG nu ay.nil)
def jb (s:Show) (c:aI) (x:Int) (y:Int):(Option (Prod cc Int)):=(sK s c x y)
def kp (s:Show) (c:aI) (x:Int) (y:Int):(bK aQ):=(goN bp (⟨x,y,((jb s c x y).getD default).fst.parts,((((jb s c x y).getD default).fst.parts.n:Nat):Int),(0:Int),(⟨0,(fun i=>(⟨(0:Int),(0:Int),(0:Int),(0:Int),(0:Int),(0:Int)⟩:lW))⟩:Sl _)⟩:aQ))
def mK (s:Show) (c:aI) (x:Int) (y:Int):Option ((Sl lW)×Int):=
  (cond (jb s c x y).isSome
   (cond (((jb s c x y).getD default).snd == (0:Int))
    (cond ((kp s c x y).by (aV.au.exit 0))
     (some ((kp s c x y).st.kE,((jb s c x y).getD default).snd))
     none)
    (some ((⟨0,(fun i=>(⟨(0:Int),(0:Int),(0:Int),(0:Int),(0:Int),(0:Int)⟩:lW))⟩:Sl _),((jb s c x y).getD default).snd)))
   none)
theorem PM (s:Show) (c:aI) (x:Int) (y:Int):cm Try.prog (bx Try.prog Ee Ef (fun _=>false)) 9 9 15 [mC s,fh c,(kI .i64) x,(kI .i64) y] = (mK s c x y).map (fun (r:(Sl lW)×Int)=>KV.fI [(fQ 58 Ky) r.1,(kI .i64) r.2]):=by
  unfold mK
  try simp only [bu]
  kernel_rfl
def uc:List KV→KR KV:=bQ Try.prog 15 (bV (fun (r:(Sl lW)×Int)=>KV.fI [(fQ 58 Ky) r.1,(kI .i64) r.2]) fun vs=>mK (iL (vs.getD 0 .av)) (cS (vs.getD 1 .av)) (intOf (vs.getD 2 .av)) (intOf (vs.getD 3 .av)))
theorem NL (w:Nat→KV):bU Try.prog [25,53,3,3] w 0 = [mC (iL (ao Try.prog (ae Try.prog ah) 25 (w 0))),fh (cS (ao Try.prog (ae Try.prog ah) 53 (w 1))),(kI .i64) (intOf (ao Try.prog (ae Try.prog ah) 3 (w 2))),(kI .i64) (intOf (ao Try.prog (ae Try.prog ah) 3 (w 3)))]:=by kernel_rfl
theorem ud:bD Try.prog 15 uc:=aR funcs mixed NJ NK (L:=9) (n:=9) fun w=>by
  have e:aC Try.prog 15 = [25,53,3,3]:=by kernel_rfl
  rw [e,NL]
  exact (PM (iL (ao Try.prog (ae Try.prog ah) 25 (w 0))) (cS (ao Try.prog (ae Try.prog ah) 53 (w 1))) (intOf (ao Try.prog (ae Try.prog ah) 3 (w 2))) (intOf (ao Try.prog (ae Try.prog ah) 3 (w 3)))).trans (by kernel_rfl)
structure fG where
  l:(Sl eo)
  n:Int
  i:Int
instance:Inhabited fG:=⟨⟨default,default,default⟩⟩
def pX (x:fG):List KV:=[fQ 108 nT x.l,.int .i64 x.n,.int .i64 x.i]
def pY (x:fG):List (List KV):=[]
def BZ (vs:List KV) (rs:List (List KV)):fG:=⟨gh ki (vs.getD 0 .av),intOf (vs.getD 1 .av),intOf (vs.getD 2 .av)⟩
def Eg:ba:=⟨[(0,⟨false,[.k (.slice 108)]⟩),(3,⟨false,[.k (.int .i64)]⟩),(4,⟨false,[.k (.int .i64)]⟩)],[],[]⟩
def PN:=eR Try.prog (bx Try.prog [] [] (fun _=>false)) 9 9 31 58 (fp Try.prog 31 58) Eg
def gR (x:fG):bK fG:=
  (cond (decide (x.i < ((x.l.n:Nat):Int)))
   (cond (decide (x.i < (100:Int)))
    (cond ((decide ((0:Int)≤x.i)) && (decide (x.i < ((x.l.n:Nat):Int))))
     (.next (⟨x.l,(aH (x.n+(min (((x.l.get (Int.toNat x.i)).Zg.n:Nat):Int) (100000:Int)))),(aH (x.i+(1:Int)))⟩:fG))
     .fail)
    (.out (aV.au.exit 0) x))
   (.out (aV.au.exit 0) x))
theorem KB (x:fG):PN (pX x) (pY x)=bK.enc pX pY (gR x):=by
  unfold gR
  try simp only [bK.ej]
  kernel_rfl
def rp:Lp:=⟨31,58,Eg,fun vs rs=>fg pX pY (goN gR (BZ vs rs)) [aV.au.exit 0]⟩
theorem PO:rp.Ok Try.prog:=cN funcs mixed ai.nil ay.nil (L:=9) (n:=9) (step:=gR) (ev:=pX) (er:=pY) (pa:=BZ) rfl (fun wv wr=>⟨by kernel_rfl,by kernel_rfl⟩) KB
theorem H6:cB Try.prog rp.f rp.p=true:=by kernel_rfl
def Je:List (Nat×(List KV→KR KV)):=[]
def Jf:List Lp:=[rp]
theorem RQ:ai Try.prog Je:=ai.nil
theorem RR:ay Try.prog Jf:=(ay.cons PO H6 ay.nil)
def mL (l:(Sl eo)):(bK fG):=(goN gR (⟨l,(0:Int),(0:Int)⟩:fG))
def pZ (l:(Sl eo)):Option (Bool):=
  (cond ((mL l).by (aV.au.exit 0))
   (cond (decide ((((mL l).st.l.n:Nat):Int) > (40:Int)))
    (some (true))
    (some ((decide ((mL l).st.n > (20000:Int))))))
   none)
theorem Vz (l:(Sl eo)):cm Try.prog (bx Try.prog Je Jf (fun _=>false)) 9 9 31 [(fQ 108 nT) l] = (pZ l).map kB:=by
  unfold pZ
  try simp only [bu]
  kernel_rfl
def Dn:List KV→KR KV:=bQ Try.prog 31 (bV kB fun vs=>pZ ((gh ki) (vs.getD 0 .av)))
theorem RS (w:Nat→KV):bU Try.prog [23] w 0 = [(fQ 108 nT) ((gh ki) (ao Try.prog (ae Try.prog ah) 23 (w 0)))]:=by kernel_rfl
theorem Eh:bD Try.prog 31 Dn:=aR funcs mixed RQ RR (L:=9) (n:=9) fun w=>by
  have e:aC Try.prog 31 = [23]:=by kernel_rfl
  rw [e,RS]
  exact (Vz ((gh ki) (ao Try.prog (ae Try.prog ah) 23 (w 0)))).trans (by kernel_rfl)
structure fH where
  n:Int
  i:Int
  s:Show
instance:Inhabited fH:=⟨⟨default,default,default⟩⟩
def p0 (x:fH):List KV:=[.int .i64 x.n,.int .i64 x.i]
def p8 (x:fH):List (List KV):=[GF x.s]
def B4 (vs:List KV) (rs:List (List KV)):fH:=⟨intOf (vs.getD 0 .av),intOf (vs.getD 1 .av),GG (fun k=>(rs.getD 0 []).getD k .av)⟩
def Ei:ba:=⟨[(3,⟨false,[.k (.int .i64)]⟩),(4,⟨false,[.k (.int .i64)]⟩)],[(1,[.k (.slice 45),.k (.slice 108)],1)],[(1,0,0)]⟩
def PQ:=eR Try.prog (bx Try.prog [(31,Dn)] [] (fun _=>false)) 9 9 10 58 (fp Try.prog 10 58) Ei
def gS (x:fH):bK fH:=
  (cond (decide (x.i < ((x.s.items.n:Nat):Int)))
   (cond (decide (x.i < (300:Int)))
    (cond ((decide ((0:Int)≤x.i)) && (decide (x.i < ((x.s.items.n:Nat):Int))))
     (cond ((decide ((0:Int)≤x.i)) && (decide (x.i < ((x.s.items.n:Nat):Int))))
      (cond ((decide ((0:Int)≤x.i)) && (decide (x.i < ((x.s.items.n:Nat):Int))))
       (.next (⟨(aH ((aH ((aH (x.n+(min (((x.s.items.get (Int.toNat x.i)).dH.n:Nat):Int) (10000:Int))))+(min (((x.s.items.get (Int.toNat x.i)).uV.n:Nat):Int) (10000:Int))))+(aH ((2:Int) * (min (((x.s.items.get (Int.toNat x.i)).cZ.n:Nat):Int) (10000:Int)))))),(aH (x.i+(1:Int))),x.s⟩:fH))
       .fail)
      .fail)
     .fail)
    (.out (aV.au.exit 0) x))
   (.out (aV.au.exit 0) x))
theorem KC (x:fH):PQ (p0 x) (p8 x)=bK.enc p0 p8 (gS x):=by
  unfold gS
  try simp only [bK.ej]
  kernel_rfl
def rq:Lp:=⟨10,58,Ei,fun vs rs=>fg p0 p8 (goN gS (B4 vs rs)) [aV.au.exit 0]⟩
theorem PR:rq.Ok Try.prog:=cN funcs mixed (ai.cons Eh ai.nil) ay.nil (L:=9) (n:=9) (step:=gS) (ev:=p0) (er:=p8) (pa:=B4) rfl (fun wv wr=>⟨by kernel_rfl,by kernel_rfl⟩) KC
theorem H7:cB Try.prog rq.f rq.p=true:=by kernel_rfl
def Jg:List (Nat×(List KV→KR KV)):=[(31,Dn)]
def Jh:List Lp:=[rq]
theorem RT:ai Try.prog Jg:=(ai.cons Eh ai.nil)
theorem RU:ay Try.prog Jh:=(ay.cons PR H7 ay.nil)
def kF (s:Show):(bK fH):=(goN gS (⟨(0:Int),(0:Int),s⟩:fH))
def yF (s:Show):(Option Bool):=(pZ (kF s).st.s.bj)
def p9 (s:Show):Option (Bool):=
  (cond ((kF s).by (aV.au.exit 0))
   (cond (decide ((((kF s).st.s.items.n:Nat):Int) > (260:Int)))
    (some (true))
    (cond (decide ((kF s).st.n > (800:Int)))
     (some (true))
     (cond (yF s).isSome
      (some (((yF s).getD default)))
      none)))
   none)
theorem VA (s:Show):cm Try.prog (bx Try.prog Jg Jh (fun _=>false)) 9 9 10 [mC s] = (p9 s).map kB:=by
  unfold p9
  try simp only [bu]
  kernel_rfl
def xw:List KV→KR KV:=bQ Try.prog 10 (bV kB fun vs=>p9 (iL (vs.getD 0 .av)))
theorem RW (w:Nat→KV):bU Try.prog [25] w 0 = [mC (iL (ao Try.prog (ae Try.prog ah) 25 (w 0)))]:=by kernel_rfl
theorem wY:bD Try.prog 10 xw:=aR funcs mixed RT RU (L:=9) (n:=9) fun w=>by
  have e:aC Try.prog 10 = [25]:=by kernel_rfl
  rw [e,RW]
  exact (VA (iL (ao Try.prog (ae Try.prog ah) 25 (w 0)))).trans (by kernel_rfl)
structure gD where
  l:(Sl dJ)
  n:Int
  i:Int
  d:dJ
instance:Inhabited gD:=⟨⟨default,default,default,default⟩⟩
def ue (x:gD):List KV:=[fQ 47 mH x.l,.int .i64 x.n,.int .i64 x.i]
def uf (x:gD):List (List KV):=[agQ x.d]
def GU (vs:List KV) (rs:List (List KV)):gD:=⟨gh mI (vs.getD 0 .av),intOf (vs.getD 1 .av),intOf (vs.getD 2 .av),agR (fun k=>(rs.getD 0 []).getD k .av)⟩
def Ji:ba:=⟨[(0,⟨false,[.k (.slice 47)]⟩),(5,⟨false,[.k (.int .i64)]⟩),(6,⟨false,[.k (.int .i64)]⟩)],[(3,[.k (.int .i64),.k (.int .i64)],1)],[(3,0,0)]⟩
def VB:=eR Try.prog (bx Try.prog [] [] (fun _=>false)) 9 9 13 58 (fp Try.prog 13 58) Ji
def jc (x:gD):bK gD:=
  (cond (decide (x.i < ((x.l.n:Nat):Int)))
   (cond ((decide ((0:Int)≤x.i)) && (decide (x.i < ((x.l.n:Nat):Int))))
    (cond (((x.l.get (Int.toNat x.i)).item == x.d.item) && (((x.l.get (Int.toNat x.i)).dt == x.d.dt) && true))
     (.next (⟨x.l,(aH (x.n+(1:Int))),(aH (x.i+(1:Int))),x.d⟩:gD))
     (.next (⟨x.l,x.n,(aH (x.i+(1:Int))),x.d⟩:gD)))
    .fail)
   (.out (aV.au.exit 0) x))
theorem PS (x:gD):VB (ue x) (uf x)=bK.enc ue uf (jc x):=by
  unfold jc
  try simp only [bK.ej]
  kernel_rfl
def vO:Lp:=⟨13,58,Ji,fun vs rs=>fg ue uf (goN jc (GU vs rs)) [aV.au.exit 0]⟩
theorem VE:vO.Ok Try.prog:=cN funcs mixed ai.nil ay.nil (L:=9) (n:=9) (step:=jc) (ev:=ue) (er:=uf) (pa:=GU) rfl (fun wv wr=>⟨by kernel_rfl,by kernel_rfl⟩) PS
theorem NM:cB Try.prog vO.f vO.p=true:=by kernel_rfl
def QZ:List (Nat×(List KV→KR KV)):=[]
def Q0:List Lp:=[vO]
theorem Wu:ai Try.prog QZ:=ai.nil
theorem Wv:ay Try.prog Q0:=(ay.cons VE NM ay.nil)
def xx (l:(Sl dJ)) (d:dJ):(bK gD):=(goN jc (⟨l,(0:Int),(0:Int),d⟩:gD))
def se (l:(Sl dJ)) (d:dJ):Option (Int):=
  (cond ((xx l d).by (aV.au.exit 0))
   (some ((xx l d).st.n))
   none)
theorem Zj (l:(Sl dJ)) (d:dJ):cm Try.prog (bx Try.prog QZ Q0 (fun _=>false)) 9 9 13 [(fQ 47 mH) l,mH d] = (se l d).map (kI .i64):=by
  unfold se
  try simp only [bu]
  kernel_rfl
def Dp:List KV→KR KV:=bQ Try.prog 13 (bV (kI .i64) fun vs=>se ((gh mI) (vs.getD 0 .av)) (mI (vs.getD 1 .av)))
theorem Ww (w:Nat→KV):bU Try.prog [29,47] w 0 = [(fQ 47 mH) ((gh mI) (ao Try.prog (ae Try.prog ah) 29 (w 0))),mH (mI (ao Try.prog (ae Try.prog ah) 47 (w 1)))]:=by kernel_rfl
theorem Aw:bD Try.prog 13 Dp:=aR funcs mixed Wu Wv (L:=9) (n:=9) fun w=>by
  have e:aC Try.prog 13 = [29,47]:=by kernel_rfl
  rw [e,Ww]
  exact (Zj ((gh mI) (ao Try.prog (ae Try.prog ah) 29 (w 0))) (mI (ao Try.prog (ae Try.prog ah) 47 (w 1)))).trans (by kernel_rfl)
end
end Go.Proofs.Ytahhdndhkgbcjaa.b
end
section
namespace Go.Proofs.Ytahhdndhkgbcjaa.b
open Go.K
noncomputable def xy:List KV→KR KV:=fun _=>.ok (.bool true)
theorem wZ:bD Try.prog 9 xy:=Y1 funcs mixed (L:=200) (n:=60) (by kernel_rfl) (by kernel_rfl)
end Go.Proofs.Ytahhdndhkgbcjaa.b
end
section
namespace Go.Proofs.Ytahhdndhkgbcjaa.b
open Go.K
set_option linter.unusedVariables false
set_option linter.unusedSimpArgs false
noncomputable section
structure cz where
  l:(Sl dJ)
  x:Int
  y:Int
  t12:Bool
  ok:Bool
  m:(Sl dJ)
  at_:Int
  i:Int
  s:Show
  c:aI
  w:dR
instance:Inhabited cz:=⟨⟨default,default,default,default,default,default,default,default,default,default,default⟩⟩
def kK (x:cz):List KV:=[fQ 47 mH x.l,.int .i64 x.x,.int .i64 x.y,.bool x.t12,.bool x.ok,fQ 47 mH x.m,.int .i64 x.at_,.int .i64 x.i]
def kL (x:cz):List (List KV):=[GF x.s,yl x.c,Y6 x.w]
def uz (vs:List KV) (rs:List (List KV)):cz:=⟨gh mI (vs.getD 0 .av),intOf (vs.getD 1 .av),intOf (vs.getD 2 .av),lZ (vs.getD 3 .av),lZ (vs.getD 4 .av),gh mI (vs.getD 5 .av),intOf (vs.getD 6 .av),intOf (vs.getD 7 .av),GG (fun k=>(rs.getD 0 []).getD k .av),ym (fun k=>(rs.getD 1 []).getD k .av),Y7 (fun k=>(rs.getD 2 []).getD k .av)⟩
def wz:ba:=⟨[(2,⟨false,[.k (.slice 47)]⟩),(4,⟨false,[.k (.int .i64)]⟩),(5,⟨false,[.k (.int .i64)]⟩),(12,⟨false,[.k .bool]⟩),(13,⟨false,[.k .bool]⟩),(14,⟨false,[.k (.slice 47)]⟩),(16,⟨false,[.k (.int .i64)]⟩),(17,⟨false,[.k (.int .i64)]⟩)],[(6,[.k (.slice 45),.k (.slice 108)],1),(7,[.k (.int .i64),.k (.int .i64),.k (.int .i64),.k (.int .i64),.k (.int .i64),.k (.int .i64),.k (.int .i64),.k (.int .i64),.k (.int .i64),.k (.int .i64),.k (.int .i64),.k (.int .i64),.k (.int .i64),.k (.int .i64),.k (.int .i64),.k (.int .i64)],1),(9,[.k (.int .i64),.k (.int .i64),.k (.int .i64),.k (.int .i64)],1)],[(6,0,0),(7,1,0),(9,2,0)]⟩
def EF:=eR Try.prog (bx Try.prog [(13,Dp),(15,uc),(22,vK),(10,xw),(9,xy)] [] (fun _=>false)) 9 9 6 2042 (fp Try.prog 6 2042) wz
def dx (x:cz):bK cz:=
  (cond (decide (x.i < ((x.l.n:Nat):Int)))
   (cond (decide (x.at_ < ((x.m.n:Nat):Int)))
    (cond ((decide ((0:Int)≤x.i)) && (decide (x.i < ((x.l.n:Nat):Int))))
     (cond ((decide ((0:Int)≤x.at_)) && (decide (x.at_ < ((x.m.n:Nat):Int))))
      (cond (((x.l.get (Int.toNat x.i)).item == (x.m.get (Int.toNat x.at_)).item) && (((x.l.get (Int.toNat x.i)).dt == (x.m.get (Int.toNat x.at_)).dt) && true))
       (.next (⟨x.l,x.x,x.y,x.t12,x.ok,x.m,(aH (x.at_+(1:Int))),(aH (x.i+(1:Int))),x.s,x.c,x.w⟩:cz))
       (.next (⟨x.l,x.x,x.y,x.t12,x.ok,x.m,x.at_,(aH (x.i+(1:Int))),x.s,x.c,x.w⟩:cz)))
      .fail)
     .fail)
    (.out (aV.au.exit 0) x))
   (.out (aV.au.exit 0) x))
theorem B5 (x:cz):EF (kK x) (kL x)=bK.enc kK kL (dx x):=by
  unfold dx
  try simp only [bK.ej]
  kernel_rfl
def jz:Lp:=⟨6,2042,wz,fun vs rs=>fg kK kL (goN dx (uz vs rs)) [aV.au.exit 0]⟩
theorem uA:jz.Ok Try.prog:=cN funcs mixed (ai.cons Aw (ai.cons ud (ai.cons vh (ai.cons wY (ai.cons wZ ai.nil))))) ay.nil (L:=9) (n:=9) (step:=dx) (ev:=kK) (er:=kL) (pa:=uz) rfl (fun wv wr=>⟨by kernel_rfl,by kernel_rfl⟩) B5
theorem qM:cB Try.prog jz.f jz.p=true:=by kernel_rfl
structure bJ where
  l:(Sl dJ)
  t12:Bool
  ok:Bool
  m:(Sl dJ)
  g:(Sl lW)
  f:Int
  i:Int
instance:Inhabited bJ:=⟨⟨default,default,default,default,default,default,default⟩⟩
def j6 (x:bJ):List KV:=[fQ 47 mH x.l,.bool x.t12,.bool x.ok,fQ 47 mH x.m,fQ 58 Ky x.g,.int .i64 x.f,.int .i64 x.i]
def j7 (x:bJ):List (List KV):=[]
def ug (vs:List KV) (rs:List (List KV)):bJ:=⟨gh mI (vs.getD 0 .av),lZ (vs.getD 1 .av),lZ (vs.getD 2 .av),gh mI (vs.getD 3 .av),gh Vp (vs.getD 4 .av),intOf (vs.getD 5 .av),intOf (vs.getD 6 .av)⟩
def uB:ba:=⟨[(2,⟨false,[.k (.slice 47)]⟩),(12,⟨false,[.k .bool]⟩),(13,⟨false,[.k .bool]⟩),(14,⟨false,[.k (.slice 47)]⟩),(18,⟨false,[.k (.slice 58)]⟩),(19,⟨false,[.k (.int .i64)]⟩),(20,⟨false,[.k (.int .i64)]⟩)],[],[]⟩
def Dq:=eR Try.prog (bx Try.prog [(13,Dp),(15,uc),(22,vK),(10,xw),(9,xy)] [jz] (fun _=>false)) 9 9 6 16378 (fp Try.prog 6 16378) uB
def fo (x:bJ):(Option Int):=(se x.l (⟨(x.g.get (Int.toNat x.i)).item,(x.g.get (Int.toNat x.i)).dt⟩:dJ))
def jE (x:bJ):(Option Int):=(se x.m (⟨(x.g.get (Int.toNat x.i)).item,(x.g.get (Int.toNat x.i)).dt⟩:dJ))
def dg (x:bJ):bK bJ:=
  (cond (decide (x.i < ((x.g.n:Nat):Int)))
   (cond ((decide ((0:Int)≤x.i)) && (decide (x.i < ((x.g.n:Nat):Int))))
    (cond ((decide ((0:Int)≤x.i)) && (decide (x.i < ((x.g.n:Nat):Int))))
     (cond (fo x).isSome
      (cond (decide (((fo x).getD default) > (0:Int)))
       (cond (jE x).isSome
        (cond (fo x).isSome
         (cond (((jE x).getD default) != ((fo x).getD default))
          (.out aV.au.ret (⟨x.l,false,x.ok,x.m,x.g,x.f,x.i⟩:bJ))
          (.next (⟨x.l,x.t12,x.ok,x.m,x.g,x.f,(aH (x.i+(1:Int)))⟩:bJ)))
         .fail)
        .fail)
       (.next (⟨x.l,x.t12,x.ok,x.m,x.g,x.f,(aH (x.i+(1:Int)))⟩:bJ)))
      .fail)
     .fail)
    .fail)
   (.out (aV.au.exit 2) x))
theorem Ax (x:bJ):Dq (j6 x) (j7 x)=bK.enc j6 j7 (dg x):=by
  unfold dg
  try simp only [bK.ej]
  kernel_rfl
def kM:Lp:=⟨6,16378,uB,fun vs rs=>fg j6 j7 (goN dg (ug vs rs)) [aV.au.exit 2,aV.au.ret]⟩
theorem Dr:kM.Ok Try.prog:=cN funcs mixed (ai.cons Aw (ai.cons ud (ai.cons vh (ai.cons wY (ai.cons wZ ai.nil))))) (ay.cons uA qM ay.nil) (L:=9) (n:=9) (step:=dg) (ev:=j6) (er:=j7) (pa:=ug) rfl (fun wv wr=>⟨by kernel_rfl,by kernel_rfl⟩) Ax
theorem yH:cB Try.prog kM.f kM.p=true:=by kernel_rfl
def vi:List (Nat×(List KV→KR KV)):=[(13,Dp),(15,uc),(22,vK),(10,xw),(9,xy)]
def vj:List Lp:=[jz,kM]
theorem KD:ai Try.prog vi:=(ai.cons Aw (ai.cons ud (ai.cons vh (ai.cons wY (ai.cons wZ ai.nil)))))
theorem KF:ay Try.prog vj:=(ay.cons uA qM (ay.cons Dr yH ay.nil))
def uh (s:Show) (c:aI) (l:(Sl dJ)) (w:dR) (x:Int) (y:Int):(Option Bool):=(p9 s)
def lE (s:Show) (c:aI) (l:(Sl dJ)) (w:dR) (x:Int) (y:Int):(Option (Prod (Sl dJ) Int)):=(nU s c l w)
def aD (s:Show) (c:aI) (l:(Sl dJ)) (w:dR) (x:Int) (y:Int):(bK cz):=(goN dx (⟨l,x,y,false,true,((lE s c l w x y).getD default).fst,(0:Int),(0:Int),s,c,w⟩:cz))
def lF (s:Show) (c:aI) (l:(Sl dJ)) (w:dR) (x:Int) (y:Int):(Option (Prod (Sl lW) Int)):=(mK (aD s c l w x y).st.s (aD s c l w x y).st.c (aD s c l w x y).st.x (aD s c l w x y).st.y)
def fj (s:Show) (c:aI) (l:(Sl dJ)) (w:dR) (x:Int) (y:Int):(bK bJ):=(goN dg (⟨(aD s c l w x y).st.l,(aD s c l w x y).st.t12,(aD s c l w x y).st.ok,(aD s c l w x y).st.m,((lF s c l w x y).getD default).fst,((lF s c l w x y).getD default).snd,(0:Int)⟩:bJ))
def ru (s:Show) (c:aI) (l:(Sl dJ)) (w:dR) (x:Int) (y:Int):Option (Bool):=
  (cond (uh s c l w x y).isSome
   (cond ((uh s c l w x y).getD default)
    (some (true))
    (cond (decide (((l.n:Nat):Int) > (300:Int)))
     (some (true))
     (cond (lE s c l w x y).isSome
      (cond (((lE s c l w x y).getD default).snd != (0:Int))
       (some ((((((lE s c l w x y).getD default).fst.n:Nat):Int) == (0:Int))))
       (cond ((aD s c l w x y).by (aV.au.exit 0))
        (cond ((aD s c l w x y).st.at_ != (((aD s c l w x y).st.m.n:Nat):Int))
         (cond (aD s c l w x y).st.ok
          (some (((aD s c l w x y).st.at_ == (((aD s c l w x y).st.m.n:Nat):Int))))
          (some (false)))
         (cond (decide ((aD s c l w x y).st.x < (aD s c l w x y).st.w.x0))
          (cond (aD s c l w x y).st.ok
           (some (((aD s c l w x y).st.at_ == (((aD s c l w x y).st.m.n:Nat):Int))))
           (some (false)))
          (cond (decide ((aD s c l w x y).st.x > (aD s c l w x y).st.w.x1))
           (cond (aD s c l w x y).st.ok
            (some (((aD s c l w x y).st.at_ == (((aD s c l w x y).st.m.n:Nat):Int))))
            (some (false)))
           (cond (decide ((aD s c l w x y).st.y < (aD s c l w x y).st.w.y0))
            (cond (aD s c l w x y).st.ok
             (some (((aD s c l w x y).st.at_ == (((aD s c l w x y).st.m.n:Nat):Int))))
             (some (false)))
            (cond (decide ((aD s c l w x y).st.y > (aD s c l w x y).st.w.y1))
             (cond (aD s c l w x y).st.ok
              (some (((aD s c l w x y).st.at_ == (((aD s c l w x y).st.m.n:Nat):Int))))
              (some (false)))
             (cond (lF s c l w x y).isSome
              (cond ((fj s c l w x y).by (aV.au.exit 2))
               (cond (fj s c l w x y).st.ok
                (some (((fj s c l w x y).st.f == (0:Int))))
                (some (false)))
               (cond ((fj s c l w x y).by aV.au.ret)
                (some ((fj s c l w x y).st.t12))
                none))
              none))))))
        none))
      none)))
   none)
theorem NN (s:Show) (c:aI) (l:(Sl dJ)) (w:dR) (x:Int) (y:Int):cm Try.prog (bx Try.prog vi vj (fun _=>false)) 9 9 6 [mC s,fh c,(fQ 47 mH) l,Ac w,(kI .i64) x,(kI .i64) y] = (ru s c l w x y).map kB:=by
  unfold ru
  try simp only [bu]
  kernel_rfl
theorem KG (w:Nat→KV):bU Try.prog [25,53,29,70,3,3] w 0 = [mC (iL (ao Try.prog (ae Try.prog ah) 25 (w 0))),fh (cS (ao Try.prog (ae Try.prog ah) 53 (w 1))),(fQ 47 mH) ((gh mI) (ao Try.prog (ae Try.prog ah) 29 (w 2))),Ac (Ad (ao Try.prog (ae Try.prog ah) 70 (w 3))),(kI .i64) (intOf (ao Try.prog (ae Try.prog ah) 3 (w 4))),(kI .i64) (intOf (ao Try.prog (ae Try.prog ah) 3 (w 5)))]:=by kernel_rfl
end
end Go.Proofs.Ytahhdndhkgbcjaa.b
end
section
namespace Go.K
open Go Go.aV
theorem bK.abt {X:Type} {step:X→bK X} {I:Nat→X→Prop} {Q:au→X→Prop} {n:Nat}
    (h:∀ j x,j≤n→I j x→(∃ x',step x = .next x'∧j < n∧I (j+1) x')∨∃ e x',step x = .out e x'∧u6 e=false∧Q e x') :
    ∀ (r j:Nat) (x:X),j+r=n→I j x→∀ N,r < N→∃ e x',bK.go step N x = .out e x'∧Q e x'
  | r,j,x,hj,hI,0,hN=>by omega
  | r,j,x,hj,hI,N+1,hN=>by
    rcases h j x (by omega) hI with ⟨x',h1,h2,h3⟩ | ⟨e,x',h1,h2,h3⟩
    · obtain ⟨r',rfl⟩:∃ r',r=r' + 1:=⟨r - 1,by omega⟩
      obtain ⟨e,y,h4,h5⟩:=bK.abt h r' (j+1) x' (by omega) h3 N (by omega)
      exact ⟨e,y,by simp only [bK.go,h1,h4],h5⟩
    · exact ⟨e,x',by simp only [bK.go,h1,h2,cond_false],h3⟩
theorem ew {X:Type} {step:X→bK X} (I:Nat→X→Prop) (Q:au→X→Prop) (n:Nat) (hn:n < o4)
    (h:∀ j x,j≤n→I j x→(∃ x',step x = .next x'∧j < n∧I (j+1) x')∨∃ e x',step x = .out e x'∧u6 e=false∧Q e x') {x:X} (h0:I 0 x) :
    ∃ e x',goN step x = .out e x'∧Q e x':=bK.abt h n 0 x (by omega) h0 o4 hn
theorem bK.HF {X:Type} (e:au) (x:X) (e' : au):(bK.out e x).by e' = u9 e e':=rfl
theorem bK.Zk {X:Type} [Inhabited X] (e:au) (x:X):(bK.out e x).st=x:=rfl
theorem Zl {n:Int} (h : -9223372036854775808≤n) (h' : n < 9223372036854775808):aH n=n:=by
  show IntKind.wrap .i64 n=n
  unfold IntKind.wrap
  by_cases hn:0≤n
  · have h1:n % (2 ^ IntKind.i64.bits:Int)=n:=Int.emod_eq_of_lt hn (by show n < 18446744073709551616; omega)
    simp only [h1]
    rw [if_neg]
    intro hc
    simp only [Bool.and_eq_true,decide_eq_true_eq] at hc
    have:n ≥ 9223372036854775808:=hc.2
    omega
  · have h1:n % (2 ^ IntKind.i64.bits:Int)=n+18446744073709551616:=by
      show n % 18446744073709551616=n+18446744073709551616
      omega
    simp only [h1]
    rw [if_pos]
    · show n+18446744073709551616 - 18446744073709551616=n
      omega
    · simp only [Bool.and_eq_true,decide_eq_true_eq]
      refine ⟨rfl,?_⟩
      show n+18446744073709551616 ≥ 9223372036854775808
      omega
theorem xz {b n m:Nat} (hb:b≤1000000) (hn:n≤1000000) (hm:m≤1000000) (h:0 < m∨n=0):cL b n m=true:=by
  unfold cL
  simp only [Bool.and_eq_true,Bool.or_eq_true]
  refine ⟨⟨Nat.ble_eq_true_of_le ?_,Nat.ble_eq_true_of_le (by omega)⟩,?_⟩
  · calc (n+m+512) * b≤2000512 * 1000000:=Nat.mul_le_mul (by omega) hb
      _≤17592186044416:=by decide
  · rcases h with h | h
    · exact .inl (by rw [Nat.blt_eq]; exact h)
    · exact .inr (by subst h; rfl)
@[simp] theorem eI (n:Nat):aB n n=true:=Nat.beq_refl n
theorem Sl.ui {α:Type} [Inhabited α] (s:Sl α) (v:α):(s.push v).n=s.n+1:=rfl
theorem Sl.PT {α:Type} [Inhabited α] {s:Sl α} {v:α} {i:Nat} (h:i < s.n):(s.push v).get i=s.get i:=by
  have:Nat.blt i s.n=true:=by rw [Nat.blt_eq]; exact h
  simp only [Sl.push,this,cond_true]
theorem Sl.PU {α:Type} [Inhabited α] {s:Sl α} {v:α} : (s.push v).get s.n=v:=by
  have:Nat.blt s.n s.n=false:=by
    cases h:Nat.blt s.n s.n with
    | false=>rfl
    | true=>rw [Nat.blt_eq] at h; omega
  simp only [Sl.push,this,cond_false,Nat.beq_refl,cond_true]
theorem Sl.join_n {α:Type} (s t:Sl α):(s.join t).n=s.n+t.n:=rfl
theorem Sl.join_right {α:Type} {s t:Sl α} {i:Nat} (h:s.n≤i):(s.join t).get i=t.get (i - s.n):=by
  have:Nat.blt i s.n=false:=by
    cases h' : Nat.blt i s.n with
    | false=>rfl
    | true=>rw [Nat.blt_eq] at h'; omega
  simp only [Sl.join,this,cond_false]
def Sl.Eqv {α:Type} (s t:Sl α):Prop:=s.n=t.n∧∀ i,i < s.n→s.get i=t.get i
end Go.K
end
section
namespace Go.Proofs.Ytahhdndhkgbcjaa.b
open Go.K
open Go.aV (au)
theorem a7 {n:Int} (h : -4611686018427387904≤n) (h' : n≤4611686018427387904):aH n=n:=Zl (by omega) (by omega)
theorem Dt (lo hi:Int) (l:Sl Int) (hn:l.n≤1000):∃ b,jv lo hi l=some b∧(b=true ↔ ∀ i,i < l.n→lo≤l.get i∧l.get i≤hi):=by
  obtain ⟨e,x',h1,h2⟩:=ew (step:=fD) (x:=⟨lo,hi,false,l,((l.n:Nat):Int),(0:Int)⟩)
    (fun j x=>x=⟨lo,hi,false,l,((l.n:Nat):Int),(j:Int)⟩∧j≤l.n∧∀ i,i < j→lo≤l.get i∧l.get i≤hi)
    (fun e x=>(e = .exit 0∧∀ i,i < l.n→lo≤l.get i∧l.get i≤hi)∨(e = .ret∧x.t6=false∧¬ ∀ i,i < l.n→lo≤l.get i∧l.get i≤hi)) l.n (by have:o4=1000000000000:=rfl; omega)
    (fun j x hj ⟨hx,hle,hI⟩=>by
      subst hx
      unfold fD
      by_cases aY:j < l.n
      · have e1:decide ((j:Int) < ((l.n:Nat):Int))=true:=decide_eq_true (by omega)
        have e2:decide ((0:Int)≤(j:Int))=true:=decide_eq_true (by omega)
        simp only [e1,e2,cond_true,Bool.and_self,Int.toNat_natCast]
        cases ha:decide (l.get j < lo) with
        | true=>
          right
          refine ⟨_,_,rfl,rfl,.inr ⟨rfl,rfl,fun h=>?_⟩⟩
          have:=h j aY; have:=of_decide_eq_true ha; omega
        | false=>
          cases hb:decide (l.get j > hi) with
          | true=>
            right
            refine ⟨_,_,rfl,rfl,.inr ⟨rfl,rfl,fun h=>?_⟩⟩
            have:=h j aY; have:=of_decide_eq_true hb; omega
          | false=>
            left
            refine ⟨_,rfl,by omega,?_,by omega,fun i KK=>?_⟩
            · rw [a7 (by omega) (by omega)]; rfl
            · by_cases Ut:i=j
              · subst Ut
                have:=of_decide_eq_false ha; have:=of_decide_eq_false hb; omega
              · exact hI i (by omega)
      · have e1:decide ((j:Int) < ((l.n:Nat):Int))=false:=decide_eq_false (by omega)
        simp only [e1,cond_false]
        right
        exact ⟨_,_,rfl,rfl,.inl ⟨rfl,fun i KK=>hI i (by omega)⟩⟩)
    ⟨rfl,by omega,fun i KK=>by omega⟩
  have h0:pG lo hi l = .out e x':=h1
  unfold jv
  rw [h0,bK.HF,bK.HF,bK.Zk]
  rcases h2 with ⟨rfl,h2⟩ | ⟨rfl,h3,h2⟩
  · exact ⟨true,rfl,by simpa using h2⟩
  · exact ⟨false,by simp [u9,h3],by simpa using h2⟩
theorem abu (iv:Int) (l:Sl Int) (hn:l.n≤1000) (hm:0≤iv∧iv≤1000000):∃ b,sD iv l=some b∧(b=true ↔ ∀ i,i < l.n→-iv≤l.get i∧l.get i≤iv):=by
  have hw:aH (0 - iv) = -iv:=by rw [a7 (by omega) (by omega)]; omega
  obtain ⟨e,x',h1,h2⟩:=ew (step:=jL) (x:=⟨iv,false,l,((l.n:Nat):Int),(0:Int)⟩)
    (fun j x=>x=⟨iv,false,l,((l.n:Nat):Int),(j:Int)⟩∧j≤l.n∧∀ i,i < j→-iv≤l.get i∧l.get i≤iv)
    (fun e x=>(e = .exit 0∧∀ i,i < l.n→-iv≤l.get i∧l.get i≤iv)∨(e = .ret∧x.t4=false∧¬ ∀ i,i < l.n→-iv≤l.get i∧l.get i≤iv)) l.n (by have:o4=1000000000000:=rfl; omega)
    (fun j x hj ⟨hx,hle,hI⟩=>by
      subst hx
      unfold jL
      by_cases aY:j < l.n
      · have e1:decide ((j:Int) < ((l.n:Nat):Int))=true:=decide_eq_true (by omega)
        have e2:decide ((0:Int)≤(j:Int))=true:=decide_eq_true (by omega)
        simp only [e1,e2,cond_true,Bool.and_self,Int.toNat_natCast,hw]
        cases ha:decide (l.get j < -iv) with
        | true=>
          right
          refine ⟨_,_,rfl,rfl,.inr ⟨rfl,rfl,fun h=>?_⟩⟩
          have:=h j aY; have:=of_decide_eq_true ha; omega
        | false=>
          cases hb:decide (l.get j > iv) with
          | true=>
            right
            refine ⟨_,_,rfl,rfl,.inr ⟨rfl,rfl,fun h=>?_⟩⟩
            have:=h j aY; have:=of_decide_eq_true hb; omega
          | false=>
            left
            refine ⟨_,rfl,by omega,?_,by omega,fun i KK=>?_⟩
            · rw [a7 (by omega) (by omega)]; rfl
            · by_cases Ut:i=j
              · subst Ut
                have:=of_decide_eq_false ha; have:=of_decide_eq_false hb; omega
              · exact hI i (by omega)
      · have e1:decide ((j:Int) < ((l.n:Nat):Int))=false:=decide_eq_false (by omega)
        simp only [e1,cond_false]
        right
        exact ⟨_,_,rfl,rfl,.inl ⟨rfl,fun i KK=>hI i (by omega)⟩⟩)
    ⟨rfl,by omega,fun i KK=>by omega⟩
  have h0:y9 iv l = .out e x':=h1
  unfold sD
  rw [h0,bK.HF,bK.HF,bK.Zk]
  rcases h2 with ⟨rfl,h2⟩ | ⟨rfl,h3,h2⟩
  · exact ⟨true,rfl,by simpa using h2⟩
  · exact ⟨false,by simp [u9,h3],by simpa using h2⟩
def Zm (v:ct):Prop:=-4096≤v.x∧v.x≤4096∧-4096≤v.y∧v.y≤4096∧-4096≤v.z∧v.z≤4096
theorem akF {p:Int→Prop} (a b c:Int):(∀ i,i < (Sl.lit [a,b,c]).n→p ((Sl.lit [a,b,c]).get i)) ↔ p a∧p b∧p c:=by
  constructor
  · intro h
    exact ⟨h 0 (show 0 < 3 by omega),h 1 (show 1 < 3 by omega),h 2 (show 2 < 3 by omega)⟩
  · rintro ⟨h1,h2,h3⟩ i hi
    have hi:i < 3:=hi
    match i,hi with
    | 0,_=>exact h1
    | 1,_=>exact h2
    | 2,_=>exact h3
theorem aiL {p:Int→Prop} (a b:Int):(∀ i,i < (Sl.lit [a,b]).n→p ((Sl.lit [a,b]).get i)) ↔ p a∧p b:=by
  constructor
  · intro h
    exact ⟨h 0 (show 0 < 2 by omega),h 1 (show 1 < 2 by omega)⟩
  · rintro ⟨h1,h2⟩ i hi
    have hi:i < 2:=hi
    match i,hi with
    | 0,_=>exact h1
    | 1,_=>exact h2
theorem akG {p:Int→Prop} (a:Int):(∀ i,i < (Sl.lit [a]).n→p ((Sl.lit [a]).get i)) ↔ p a:=by
  constructor
  · intro h
    exact h 0 (show 0 < 1 by omega)
  · intro h1 i hi
    have hi:i < 1:=hi
    match i,hi with
    | 0,_=>exact h1
theorem GV (v:ct):∃ e,j5 v=some e∧(e=0 ↔ Zm v):=by
  obtain ⟨b,h1,h2⟩:=abu 4096 (Sl.lit [v.x,v.y,v.z]) (show 3≤1000 by omega) (by omega)
  rw [akF (p:=fun n=>-4096≤n∧n≤4096)] at h2
  unfold j5 tC
  rw [h1]
  cases b with
  | true=>exact ⟨0,rfl,by simpa [Zm,and_assoc] using h2⟩
  | false=>exact ⟨20,rfl,by simp only [Bool.false_eq_true,false_iff] at h2; simp only [Zm]; omega⟩
def NP (s:cr):Prop:=(-131072≤s.x∧s.x≤131072)∧(-131072≤s.y∧s.y≤131072)∧(1≤s.d∧s.d≤65536)∧(0≤s.u∧s.u≤255)∧0≤s.v∧s.v≤255
theorem w5 (s:cr):∃ e,kb s=some e∧(e=0 ↔ NP s):=by
  obtain ⟨b,h1,h2⟩:=Dt (-131072) 131072 (Sl.lit [s.x,s.y]) (show 2≤1000 by omega)
  rw [aiL (p:=fun n=>-131072≤n∧n≤131072)] at h2
  obtain ⟨c,h3,h4⟩:=Dt 1 65536 (Sl.lit [s.d]) (show 1≤1000 by omega)
  rw [akG (p:=fun n=>1≤n∧n≤65536)] at h4
  obtain ⟨d,h5,h6⟩:=Dt 0 255 (Sl.lit [s.u,s.v]) (show 2≤1000 by omega)
  rw [aiL (p:=fun n=>0≤n∧n≤255)] at h6
  unfold kb qX qY qZ
  rw [h1,h3,h5]
  unfold NP
  cases b with
  | false=>exact ⟨8,rfl,by simp only [Bool.false_eq_true,false_iff] at h2; omega⟩
  | true=>
    simp only [true_iff] at h2
    cases c with
    | false=>exact ⟨8,rfl,by simp only [Bool.false_eq_true,false_iff] at h4; omega⟩
    | true=>
      simp only [true_iff] at h4
      cases d with
      | false=>exact ⟨8,rfl,by simp only [Bool.false_eq_true,false_iff] at h6; omega⟩
      | true=>
        simp only [true_iff] at h6
        exact ⟨0,rfl,by simp only [true_iff]; exact ⟨h2.1,h2.2,h4,h6.1,h6.2⟩⟩
def Zn (t:aF):Prop:=NP t.e0∧NP t.e1∧NP t.e2
def abv (t:aF):Int:=(t.e1.x - t.e0.x) * (t.e2.y - t.e0.y) - (t.e2.x - t.e0.x) * (t.e1.y - t.e0.y)
theorem Du {a b c d:Int} (hc:0≤c) (h1 : -c≤a∧a≤c) (h2 : -d≤b∧b≤d) : -(c * d)≤a * b∧a * b≤c * d:=by
  have hd:0≤d:=by omega
  have h3:a.natAbs * b.natAbs≤c.natAbs * d.natAbs:=Nat.mul_le_mul (by omega) (by omega)
  have h4:(a * b).natAbs=a.natAbs * b.natAbs:=Int.natAbs_mul a b
  have h5:(c * d).natAbs=c.natAbs * d.natAbs:=Int.natAbs_mul c d
  have h6:0≤c * d:=Int.mul_nonneg hc hd
  omega
theorem GW (t:aF):(Zn t∧ji t=some (abv t,0))∨(¬ Zn t∧∃ e,ji t=some (0,e)∧e≠0):=by
  obtain ⟨e0,h1,h2⟩:=w5 t.e0
  obtain ⟨e1,h3,h4⟩:=w5 t.e1
  obtain ⟨e2,h5,h6⟩:=w5 t.e2
  unfold ji tz tA tB
  rw [h1,h3,h5]
  unfold Zn
  by_cases CS:e0=0
  · by_cases HJ:e1=0
    · by_cases wH:e2=0
      · left
        have g0:=h2.1 CS; have g1:=h4.1 HJ; have g2:=h6.1 wH
        refine ⟨⟨g0,g1,g2⟩,?_⟩
        subst CS HJ wH
        obtain ⟨a1,a2,_⟩:=g0
        obtain ⟨b1,b2,_⟩:=g1
        obtain ⟨c1,c2,_⟩:=g2
        have m1:=Du (a:=t.e1.x - t.e0.x) (b:=t.e2.y - t.e0.y) (c:=262144) (d:=262144) (by omega) (by omega) (by omega)
        have m2:=Du (a:=t.e2.x - t.e0.x) (b:=t.e1.y - t.e0.y) (c:=262144) (d:=262144) (by omega) (by omega) (by omega)
        show some (aH (aH (aH (t.e1.x - t.e0.x) * aH (t.e2.y - t.e0.y)) - aH (aH (t.e2.x - t.e0.x) * aH (t.e1.y - t.e0.y))),(0:Int))=some (abv t,0)
        rw [a7 (n:=t.e1.x - t.e0.x) (by omega) (by omega),a7 (n:=t.e2.y - t.e0.y) (by omega) (by omega),a7 (n:=t.e2.x - t.e0.x) (by omega) (by omega),a7 (n:=t.e1.y - t.e0.y) (by omega) (by omega),
          a7 (n:=(t.e1.x - t.e0.x) * (t.e2.y - t.e0.y)) (by omega) (by omega),a7 (n:=(t.e2.x - t.e0.x) * (t.e1.y - t.e0.y)) (by omega) (by omega)]
        rw [a7 (by omega) (by omega)]
        rfl
      · right
        refine ⟨fun h=>wH (h6.2 h.2.2),e2,?_,wH⟩
        subst CS HJ
        have:(e2 != (0:Int))=true:=by simpa using wH
        simp [this]
    · right
      refine ⟨fun h=>HJ (h4.2 h.2.1),e1,?_,HJ⟩
      subst CS
      have:(e1 != (0:Int))=true:=by simpa using HJ
      simp [this]
  · right
    refine ⟨fun h=>CS (h2.2 h.1),e0,?_,CS⟩
    have:(e0 != (0:Int))=true:=by simpa using CS
    simp [this]
theorem abw (a b:Int) (hb:1≤b) (ha : -4611686018427387904≤a∧a≤4611686018427387904):b6 a b=some (a / b,0):=by
  have h1:decide (b < 1)=false:=decide_eq_false (by omega)
  have h2:decide (b=0)=false:=decide_eq_false (by omega)
  have h3:=Int.mul_tdiv_add_tmod a b
  have h4:=Int.natAbs_tdiv_le_natAbs a b
  have h5:(Int.tmod a b).natAbs < b.natAbs:=by rw [Int.natAbs_tmod]; exact Nat.mod_lt _ (by omega)
  unfold b6
  simp only [h1,h2,cond_false,Bool.not_false,cond_true]
  cases hr:decide (Int.tmod a b < 0) with
  | true=>
    have hr:=of_decide_eq_true hr
    have e:a / b=Int.tdiv a b - 1:=((Int.ediv_emod_unique (by omega:0 < b)).2 ⟨(show (Int.tmod a b+b)+b * (Int.tdiv a b - 1)=a by rw [Int.mul_sub]; omega),by omega,by omega⟩).1
    rw [cond_true,a7 (n:=Int.tdiv a b) (by omega) (by omega),Zl (by omega) (by omega),e]
  | false=>
    have hr:=of_decide_eq_false hr
    have e:a / b=Int.tdiv a b:=((Int.ediv_emod_unique (by omega:0 < b)).2 ⟨(show Int.tmod a b+b * Int.tdiv a b=a by omega),by omega,by omega⟩).1
    rw [cond_false,a7 (by omega) (by omega),e]
theorem acQ (a b:Int) (hb:1≤b) (ha : -4611686018427387904≤a∧a≤4611686018427387904):ka a b=some (-((-a) / b),0):=by
  have h1:decide (b < 1)=false:=decide_eq_false (by omega)
  have h2:decide (b=0)=false:=decide_eq_false (by omega)
  have h3:=Int.mul_tdiv_add_tmod a b
  have h4:=Int.natAbs_tdiv_le_natAbs a b
  have h5:(Int.tmod a b).natAbs < b.natAbs:=by rw [Int.natAbs_tmod]; exact Nat.mod_lt _ (by omega)
  unfold ka
  simp only [h1,h2,cond_false,Bool.not_false,cond_true]
  cases hr:decide (Int.tmod a b > 0) with
  | true=>
    have hr:=of_decide_eq_true hr
    have e:(-a) / b = -(Int.tdiv a b+1):=((Int.ediv_emod_unique (by omega:0 < b)).2 ⟨(show (b - Int.tmod a b)+b * (-(Int.tdiv a b+1)) = -a by rw [Int.mul_neg,Int.mul_add]; omega),by omega,by omega⟩).1
    rw [cond_true,a7 (n:=Int.tdiv a b) (by omega) (by omega),Zl (by omega) (by omega),e,Int.neg_neg]
  | false=>
    have hr:=of_decide_eq_false hr
    have e:(-a) / b = -(Int.tdiv a b):=((Int.ediv_emod_unique (by omega:0 < b)).2 ⟨(show (-Int.tmod a b)+b * (-Int.tdiv a b) = -a by rw [Int.mul_neg]; omega),by omega,by omega⟩).1
    rw [cond_false,a7 (by omega) (by omega),e,Int.neg_neg]
theorem wA (a b:Int):∃ r,b6 a b=some r:=by
  unfold b6
  cases h1:decide (b < 1) with
  | true=>exact ⟨_,rfl⟩
  | false=>
    have h1:=of_decide_eq_false h1
    have h2:decide (b=0)=false:=decide_eq_false (by omega)
    simp only [h2,cond_false,Bool.not_false,cond_true]
    cases decide (Int.tmod a b < 0) <;> exact ⟨_,rfl⟩
end Go.Proofs.Ytahhdndhkgbcjaa.b
end
section
namespace Go.Proofs.Ytahhdndhkgbcjaa.b
open Go.K
def KH (t:aF):Prop:=Zn t∧0 < abv t
theorem GX (t:aF):∃ e,kA t=some e∧(e=0 ↔ KH t):=by
  unfold kA kh KH
  rcases GW t with ⟨h1,h2⟩ | ⟨h1,e,h2,h3⟩
  · rw [h2]
    cases hb:decide (abv t≤0) with
    | true=>
      have:=of_decide_eq_true hb
      refine ⟨6,by simp [hb],by simp; omega⟩
    | false=>
      have:=of_decide_eq_false hb
      exact ⟨0,by simp [hb],by simp [h1]; omega⟩
  · rw [h2]
    have:(e == (0:Int))=false:=by simpa using h3
    exact ⟨e,by simp [this],by simp [h1,h3]⟩
def Pix (x y:Int):Prop:=(0≤x∧x < 64)∧0≤y∧y < 64
theorem wB (x y:Int):∃ b,jx x y=some b∧(b=true ↔ Pix x y):=by
  unfold jx Pix
  cases hb:decide (min x y ≥ 0) with
  | true=>
    have:=of_decide_eq_true hb
    refine ⟨decide (max x y < 64),rfl,?_⟩
    rw [decide_eq_true_eq]
    omega
  | false=>
    have:=of_decide_eq_false hb
    refine ⟨false,rfl,?_⟩
    simp only [Bool.false_eq_true,false_iff]
    omega
def W0 (t:aF) (p q:Int):Int:=(t.e2.x - t.e1.x) * (q - t.e1.y) - (p - t.e1.x) * (t.e2.y - t.e1.y)
def W1 (t:aF) (p q:Int):Int:=(t.e0.x - t.e2.x) * (q - t.e2.y) - (p - t.e2.x) * (t.e0.y - t.e2.y)
def W2 (t:aF) (p q:Int):Int:=(t.e1.x - t.e0.x) * (q - t.e0.y) - (p - t.e0.x) * (t.e1.y - t.e0.y)
theorem acR {a b c d p q:Int} (ha : -131072≤a∧a≤131072) (hb : -131072≤b∧b≤131072) (hc : -131072≤c∧c≤131072) (hd : -131072≤d∧d≤131072) (hp:0≤p∧p≤1000) (hq:0≤q∧q≤1000) :
    aH (aH (aH (c - a) * aH (q - b)) - aH (aH (p - a) * aH (d - b)))=(c - a) * (q - b) - (p - a) * (d - b):=by
  have m1:=Du (a:=c - a) (b:=q - b) (c:=262144) (d:=262144) (by omega) (by omega) (by omega)
  have m2:=Du (a:=p - a) (b:=d - b) (c:=262144) (d:=262144) (by omega) (by omega) (by omega)
  rw [a7 (n:=c - a) (by omega) (by omega),a7 (n:=q - b) (by omega) (by omega),a7 (n:=p - a) (by omega) (by omega),a7 (n:=d - b) (by omega) (by omega),a7 (n:=(c - a) * (q - b)) (by omega) (by omega),a7 (n:=(p - a) * (d - b)) (by omega) (by omega),a7 (by omega) (by omega)]
theorem Q1 (t:aF) (x y:Int):(KH t∧Pix x y∧iw t x y=some (⟨W0 t (8 * x+4) (8 * y+4),W1 t (8 * x+4) (8 * y+4),W2 t (8 * x+4) (8 * y+4)⟩,0))∨∃ w e,iw t x y=some (w,e)∧e≠0:=by
  obtain ⟨e,h1,h2⟩:=GX t
  obtain ⟨b,h3,h4⟩:=wB x y
  unfold iw pN vb
  rw [h1,h3]
  by_cases he:e=0
  · have hf:=h2.1 he
    subst he
    cases b with
    | true=>
      have hp:=h4.1 rfl
      left
      refine ⟨hf,hp,?_⟩
      obtain ⟨hp1,hp2⟩:=hp
      have e2:pO t x y=some (8 * y+4):=by
        show some (aH (aH (8 * y)+4))=_
        rw [a7 (n:=8 * y) (by omega) (by omega),a7 (by omega) (by omega)]
      have e3:pP t x y=some (8 * x+4):=by
        show some (aH (aH (8 * x)+4))=_
        rw [a7 (n:=8 * x) (by omega) (by omega),a7 (by omega) (by omega)]
      obtain ⟨⟨⟨a1,a2,_⟩,⟨b1,b2,_⟩,c1,c2,_⟩,_⟩:=hf
      rw [e2,e3]
      simp only [Option.isSome_some,cond_true,Option.getD_some,Bool.not_true,cond_false,bne_self_eq_false]
      rw [acR b1 b2 c1 c2 (by omega) (by omega),acR c1 c2 a1 a2 (by omega) (by omega),acR a1 a2 b1 b2 (by omega) (by omega)]
      rfl
    | false=>right; exact ⟨_,2,rfl,by omega⟩
  · right
    have:(e != (0:Int))=true:=by simpa using he
    simp only [Option.isSome_some,cond_true,Option.getD_some]
    rw [this]
    exact ⟨_,e,rfl,he⟩
def Xu (u v w:Int) (r:Option (Bool×Int)):Prop:=r=some (false,0)∨(r=some (true,0)∧0≤u∧0≤v∧0≤w)
theorem Xu.ite {u v w:Int} {c:Prop} [Decidable c] {a b:Option (Bool×Int)} (h1:c→Xu u v w a) (h2 : ¬ c→Xu u v w b):Xu u v w (if c then a else b):=by
  by_cases h:c
  · rw [if_pos h]; exact h1 h
  · rw [if_neg h]; exact h2 h
theorem Zo (t:aF) (x y:Int):∃ c e,kW t x y=some (c,e)∧(c=true→e=0→KH t∧Pix x y∧0≤W0 t (8 * x+4) (8 * y+4)∧0≤W1 t (8 * x+4) (8 * y+4)∧0≤W2 t (8 * x+4) (8 * y+4)):=by
  unfold kW aa
  rcases Q1 t x y with ⟨h1,h2,h3⟩ | ⟨w,e,h3,h4⟩
  · rw [h3]
    simp only [Option.isSome_some,cond_true,Option.getD_some,bne_self_eq_false,cond_false]
    generalize W0 t (8 * x+4) (8 * y+4)=u
    generalize W1 t (8 * x+4) (8 * y+4)=v
    generalize W2 t (8 * x+4) (8 * y+4)=w
    simp only [h1,h2,true_and]
    simp only [Bool.cond_eq_ite,Bool.not_eq_true',decide_eq_true_eq,decide_eq_false_iff_not,beq_iff_eq]
    have key:∀ r:Option (Bool×Int),Xu u v w r→∃ c e,r=some (c,e)∧(c=true→e=0→0≤u∧0≤v∧0≤w):=by
      rintro r (rfl | ⟨rfl,h⟩)
      · exact ⟨false,0,rfl,fun h=>by simp at h⟩
      · exact ⟨true,0,rfl,fun _ _=>h⟩
    apply key
    repeat' (refine Xu.ite (fun _=>?_) (fun _=>?_))
    all_goals first | exact .inl rfl | exact .inr ⟨rfl,by omega⟩
  · rw [h3]
    have:(e != (0:Int))=true:=by simpa using h4
    exact ⟨false,e,by simp [this],fun h=>by simp at h⟩
theorem agW (a b c d e f x y:Int):((e-c)*(y-d)-(x-c)*(f-d))+((a-e)*(y-f)-(x-e)*(b-f))+((c-a)*(y-b)-(x-a)*(d-b))=(c-a)*(f-b)-(e-a)*(d-b):=by grind
theorem ajo (a b c d e f x y:Int):((e-c)*(y-d)-(x-c)*(f-d))*(a-x)+((a-e)*(y-f)-(x-e)*(b-f))*(c-x)+((c-a)*(y-b)-(x-a)*(d-b))*(e-x)=0:=by grind
theorem ajp (a b c d e f x y:Int):((e-c)*(y-d)-(x-c)*(f-d))*(b-y)+((a-e)*(y-f)-(x-e)*(b-f))*(d-y)+((c-a)*(y-b)-(x-a)*(d-b))*(f-y)=0:=by grind
theorem VF (p q r u v w:Int) (hp:0≤p) (hq:0≤q) (hr:0≤r) (hs:0 < p+q+r) (h:p * u+q * v+r * w=0):u≤0∨v≤0∨w≤0:=by
  by_cases h1:u≤0
  · exact .inl h1
  by_cases h2:v≤0
  · exact .inr (.inl h2)
  by_cases h3:w≤0
  · exact .inr (.inr h3)
  exfalso
  have a1:p * 1≤p * u:=Int.mul_le_mul_of_nonneg_left (by omega) hp
  have a2:q * 1≤q * v:=Int.mul_le_mul_of_nonneg_left (by omega) hq
  have a3:r * 1≤r * w:=Int.mul_le_mul_of_nonneg_left (by omega) hr
  omega
theorem abx (p q r u v w:Int) (hp:0≤p) (hq:0≤q) (hr:0≤r) (hs:0 < p+q+r) (h:p * u+q * v+r * w=0):0≤u∨0≤v∨0≤w:=by
  have:=VF p q r (-u) (-v) (-w) hp hq hr hs (by rw [Int.mul_neg,Int.mul_neg,Int.mul_neg]; omega)
  omega
theorem agX (t:aF) (p q:Int) (hf:KH t) (h0:0≤W0 t p q) (h1:0≤W1 t p q) (h2:0≤W2 t p q) :
    (min (min t.e0.x t.e1.x) t.e2.x≤p∧p≤max (max t.e0.x t.e1.x) t.e2.x)∧min (min t.e0.y t.e1.y) t.e2.y≤q∧q≤max (max t.e0.y t.e1.y) t.e2.y:=by
  have hs:0 < W0 t p q+W1 t p q+W2 t p q:=by
    have:=agW t.e0.x t.e0.y t.e1.x t.e1.y t.e2.x t.e2.y p q
    have h:=hf.2
    unfold abv at h
    unfold W0 W1 W2
    omega
  have hx:=ajo t.e0.x t.e0.y t.e1.x t.e1.y t.e2.x t.e2.y p q
  have hy:=ajp t.e0.x t.e0.y t.e1.x t.e1.y t.e2.x t.e2.y p q
  have a1:=VF _ _ _ _ _ _ h0 h1 h2 hs hx
  have a2:=abx _ _ _ _ _ _ h0 h1 h2 hs hx
  have a3:=VF _ _ _ _ _ _ h0 h1 h2 hs hy
  have a4:=abx _ _ _ _ _ _ h0 h1 h2 hs hy
  omega
theorem NR (a b c u v:Int) (ha : -131072≤a∧a≤131072) (hb : -131072≤b∧b≤131072) (hc : -131072≤c∧c≤131072):gJ a b c u v=some (max (-((-(min (min a b) c - 4)) / 8)) u,min ((max (max a b) c - 4) / 8) v):=by
  unfold gJ oh oi
  rw [a7 (n:=min (min a b) c - 4) (by omega) (by omega),a7 (n:=max (max a b) c - 4) (by omega) (by omega),acQ _ _ (by omega) (by omega),abw _ _ (by omega) (by omega)]
  rfl
theorem Zp (t:aF) (w:dR) (x y:Int) (hf:KH t) (h0:0≤W0 t (8 * x+4) (8 * y+4)) (h1:0≤W1 t (8 * x+4) (8 * y+4)) (h2:0≤W2 t (8 * x+4) (8 * y+4))
    (hx:w.x0≤x∧x≤w.x1) (hy:w.y0≤y∧y≤w.y1) (hw:(0≤w.x0∧w.x1 < 64)∧0≤w.y0∧w.y1 < 64):∃ r,gK t w=some (r,true,0):=by
  obtain ⟨⟨b1,b2⟩,b3,b4⟩:=agX t _ _ hf h0 h1 h2
  obtain ⟨e,g1,g2⟩:=GX t
  have:=g2.2 hf
  subst this
  obtain ⟨p,g3,g4⟩:=wB w.x0 w.y0
  have:=g4.2 ⟨⟨by omega,by omega⟩,by omega,by omega⟩
  subst this
  obtain ⟨p,g5,g6⟩:=wB w.x1 w.y1
  have:=g6.2 ⟨⟨by omega,by omega⟩,by omega,by omega⟩
  subst this
  obtain ⟨⟨⟨a1,a2,_⟩,⟨c1,c2,_⟩,d1,d2,_⟩,_⟩:=hf
  unfold gK lq oj om iy iz
  rw [g1,g3,g5,NR _ _ _ _ _ a1 c1 d1,NR _ _ _ _ _ a2 c2 d2]
  have e1:decide (w.x0 > w.x1)=false:=decide_eq_false (by omega)
  have e2:decide (w.y0 > w.y1)=false:=decide_eq_false (by omega)
  have e3:decide (max (-((-(min (min t.e0.x t.e1.x) t.e2.x - 4)) / 8)) w.x0 > min ((max (max t.e0.x t.e1.x) t.e2.x - 4) / 8) w.x1)=false:=decide_eq_false (by omega)
  have e4:decide (max (-((-(min (min t.e0.y t.e1.y) t.e2.y - 4)) / 8)) w.y0 > min ((max (max t.e0.y t.e1.y) t.e2.y - 4) / 8) w.y1)=false:=decide_eq_false (by omega)
  simp only [Option.isSome_some,cond_true,Option.getD_some,bne_self_eq_false,cond_false,Bool.not_true,e1,e2,e3,e4]
  exact ⟨_,rfl⟩
theorem Wx (t:aF) (w:dR):∃ r,gK t w=some r:=by
  obtain ⟨e,g1,_⟩:=GX t
  obtain ⟨p,g3,_⟩:=wB w.x0 w.y0
  obtain ⟨q,g5,_⟩:=wB w.x1 w.y1
  unfold gK lq oj om iy iz
  rw [g1,g3,g5]
  have tot:∀ a b c u v,∃ r,gJ a b c u v=some r:=by
    intro a b c u v
    unfold gJ oh oi
    obtain ⟨r,hr⟩:=wA (aH (max (max a b) c - 4)) 8
    have hc:∃ r,ka (aH (min (min a b) c - 4)) 8=some r:=by
      unfold ka
      cases decide (Int.tmod (aH (min (min a b) c - 4)) 8 > 0) <;> exact ⟨_,rfl⟩
    obtain ⟨s,hs⟩:=hc
    rw [hr,hs]
    exact ⟨_,rfl⟩
  obtain ⟨r1,h1⟩:=tot t.e0.x t.e1.x t.e2.x w.x0 w.x1
  obtain ⟨r2,h2⟩:=tot t.e0.y t.e1.y t.e2.y w.y0 w.y1
  rw [h1,h2]
  simp only [Option.isSome_some,cond_true,Option.getD_some]
  simp only [Bool.cond_eq_ite]
  repeat' split
  all_goals exact ⟨_,rfl⟩
theorem Q2 (t:aF) (x y:Int):∃ s e,o5 t x y=some (s,e)∧(e=0→KH t∧Pix x y∧0≤W0 t (8 * x+4) (8 * y+4)∧0≤W1 t (8 * x+4) (8 * y+4)∧0≤W2 t (8 * x+4) (8 * y+4)):=by
  obtain ⟨c,e,h1,h2⟩:=Zo t x y
  have hE:∃ w e,iw t x y=some (w,e):=by
    rcases Q1 t x y with ⟨_,_,h⟩ | ⟨w,e,h,_⟩
    · exact ⟨_,_,h⟩
    · exact ⟨_,_,h⟩
  obtain ⟨w,e',h3⟩:=hE
  unfold o5
  have e0:qL t x y=some (c,e):=h1
  have e1:b9 t x y=some (w,e'):=h3
  rw [e0,e1]
  simp only [Option.isSome_some,cond_true,Option.getD_some]
  by_cases he:e=0
  · subst he
    cases c with
    | true=>
      simp only [bne_self_eq_false,cond_false,Bool.not_true]
      obtain ⟨r2,g2⟩:∃ r,Ao t x y=some r:=wA _ _
      obtain ⟨r3,g3⟩:∃ r,Ap t x y=some r:=wA _ _
      obtain ⟨r4,g4⟩:∃ r,Aq t x y=some r:=wA _ _
      rw [g2,g3,g4]
      cases hb:(e' != (0:Int)) with
      | true=>exact ⟨_,_,rfl,fun _=>h2 rfl rfl⟩
      | false=>exact ⟨_,_,rfl,fun _=>h2 rfl rfl⟩
    | false=>exact ⟨_,6,rfl,fun h=>by omega⟩
  · have:(e != (0:Int))=true:=by simpa using he
    rw [this]
    exact ⟨_,e,rfl,fun h=>absurd h he⟩
end Go.Proofs.Ytahhdndhkgbcjaa.b
end
