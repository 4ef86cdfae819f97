/- Part of the proof of PathsOne: the machine, shown to be the model's, and plain models. No conditions. -/
import Derived.Test.YtckbdndhmcoihaaGreatHp
import Derived.Test.YtckbdndhmcoihaaGreatGp
set_option linter.unusedSimpArgs false
set_option linter.unusedVariables false
section
namespace Go.Proofs.YtckbdndhmcoihaaGreat.b
open Go.K
noncomputable section
structure Path where
 nodes:(Sl Handle)
 kids:(Sl Int)
instance:Inhabited Path:=⟨⟨default,default⟩⟩
def Qf (x:Path):List KV:=[dc 32 fE x.nodes,dc 3 (kI .i64) x.kids]
def qX (x:Path):KV:=.agg (Qf x)
def Qg (c:Nat->KV):Path:=⟨cT dW (c 0),cT av (c 1)⟩
def pX (v:KV):Path:=Qg fun k=>v.cells.getD k .bA
structure gh where
 t5:Bool
 t19:(Sl Int)
 t20:Int
 t21:Int
 s:aw
 t4:Path
 p:Path
 h:Handle
instance:Inhabited gh:=⟨by constructor<;>exact default⟩
def ur (x:gh):List KV:=[.bool x.t5,dc 3 (kI .i64) x.t19,.int .i64 x.t20,.int .i64 x.t21]
def uu (x:gh):List (List KV):=[iE x.s,Qf x.t4,Qf x.p,acQ x.h]
def Du (vs:List KV) (rs:List (List KV)):gh:=⟨cK (v9 vs 0),cT av (v9 vs 1),av (v9 vs 2),av (v9 vs 3),iH (r9 rs 0),Qg (r9 rs 1),Qg (r9 rs 2),acR (r9 rs 3)⟩
def Fg:aB:=⟨[(5,w9 b9),(19,w9 (n9 3)),(20,w9 i9),(21,w9 i9)],[(2,[n9 111,n9 35,n9 77,n9 88,n9 91,i9,i9],1),(4,[.aQ 32,n9 3],1),(6,[.aQ 32,n9 3],1),(7,[i9,i9],1)],[(2,0,0),(4,1,0),(6,2,0),(7,3,0)]⟩
def Qh:=JL [(98,xN)] [] 51 122 Fg
def lW (x:gh):ax gh:=(cond (cond (aC x.p.nodes.n x.p.nodes.n) true false) (.out aq.ae.ret ⟨false,x.t19,x.t20,x.t21,x.s,⟨⟨0,(fun i=>⟨0,0⟩)⟩,⟨0,(fun i=>0)⟩⟩,x.p,x.h⟩) .fail)
def jo (x:gh):ax gh:=(cond (decide (x.t21 < x.t20)) (cond ((decide (0<=x.t21))&&(decide (x.t21 < (x.t19.n:Int)))) (cond ((decide (0<=x.h.slot))&&(decide (x.h.slot < (x.s.graph.kids.n:Int)))) (cond (decide ((x.t19.get (Int.toNat x.t21)) < 0))
   (lW x) (cond (decide ((x.t19.get (Int.toNat x.t21)) >= ((x.s.graph.kids.get (Int.toNat x.h.slot)).n:Int)))
    (lW x) (cond ((decide (0<=(x.t19.get (Int.toNat x.t21))))&&(decide ((x.t19.get (Int.toNat x.t21)) < ((x.s.graph.kids.get (Int.toNat x.h.slot)).n:Int)))) (cond ((aC x.p.nodes.n x.p.nodes.n)&&(fC 16 x.p.nodes.n 1)) (cond (cond (aC (x.p.nodes.n+1) (x.p.nodes.n+1)) (aC x.t4.nodes.n x.t4.nodes.n) false) (.next ⟨x.t5,x.t19,x.t20,(aV (x.t21+1)),x.s,x.t4,⟨(x.p.nodes.push ((x.s.graph.kids.get (Int.toNat x.h.slot)).get (Int.toNat (x.t19.get (Int.toNat x.t21))))),x.p.kids⟩,((x.s.graph.kids.get (Int.toNat x.h.slot)).get (Int.toNat (x.t19.get (Int.toNat x.t21))))⟩) .fail) .fail) .fail))) .fail) .fail) (cond (cond (aC x.p.nodes.n x.p.nodes.n) (aC x.t4.nodes.n x.t4.nodes.n) false) (.out (aq.ae.exit 0) x) .fail))
theorem Ns (x:gh):Qh (ur x) (uu x)=ax.enc ur uu (jo x):=by
 unfold jo lW
 try simp only [ax.aO,FL]
 kernel_rfl
def Fh:Lp:=⟨51,122,Fg,fun vs rs=>bU ur uu (goN jo (Du vs rs)) [aq.ae.exit 0,aq.ae.ret],false⟩
theorem Qi:Fh.Ok PG:=kv (ah.cons AU ah.nil) aD.nil (pa:=Du) Ns
def tA (s:aw) (kids:(Sl Int)):=rW kids
def kX (s:aw) (kids:(Sl Int)):=goN jo ⟨false,kids,(kids.n:Int),1,s,⟨⟨0,(fun i=>⟨0,0⟩)⟩,⟨0,(fun i=>0)⟩⟩,⟨((Sl.lit [s.root]).push ((s.graph.kids.get (Int.toNat s.root.slot)).get (Int.toNat (kids.get 0)))),((tA s kids).getD default)⟩,((s.graph.kids.get (Int.toNat s.root.slot)).get (Int.toNat (kids.get 0)))⟩
def rX (s:aw) (kids:(Sl Int)):Option (Path×Bool):=(some (⟨⟨0,(fun i=>⟨0,0⟩)⟩,⟨0,(fun i=>0)⟩⟩,false))
def nB (s:aw) (kids:(Sl Int)):Option (Path×Bool):=(cond (tA s kids).isSome (cond (decide (0 < (kids.n:Int))) (cond (decide (0 < (kids.n:Int))) (cond ((decide (0<=s.root.slot))&&(decide (s.root.slot < (s.graph.kids.n:Int)))) (cond (decide ((kids.get 0) < 0))
    (rX s kids) (cond (decide ((kids.get 0) >= ((s.graph.kids.get (Int.toNat s.root.slot)).n:Int)))
    (rX s kids) (cond ((decide (0<=(kids.get 0)))&&(decide ((kids.get 0) < ((s.graph.kids.get (Int.toNat s.root.slot)).n:Int)))) (cond ((kX s kids).by (aq.ae.exit 0)) (some ((kX s kids).st.p,true)) (cond ((kX s kids).by aq.ae.ret) (some ((kX s kids).st.t4,(kX s kids).st.t5)) none)) none))) none) none) (some (⟨(Sl.lit [s.root]),((tA s kids).getD default)⟩,true))) none)
theorem WD (s:aw) (kids:(Sl Int)):Bs [(98,xN)] [Fh] 51 [iG s,(dc 3 (kI .i64)) kids] = (nB s kids).map (fun (r:Path×Bool)=>KV.jV [qX r.1,kB r.2]):=by
 unfold nB rX
 try simp only [aL,kX,FL,ZP,ZQ]
 kernel_rfl
def Eh:List KV->KR KV:=aZ PG 51 (bd (fun (r:Path×Bool)=>KV.jV [qX r.1,kB r.2]) fun vs=>nB (de (v9 vs 0)) ((cT av) (v9 vs 1)))
theorem Hy:aY PG 51 Eh:=b8 (ah.cons AU ah.nil) (fv Qi aD.nil) fun w=>WD (de (g0 34 (w 0))) ((cT av) (g0 36 (w 1)))
structure fT where
 s1:(Sl Handle)
 s2:(Sl Handle)
 t4:Bool
 t12:Int
 t13:Int
instance:Inhabited fT:=⟨⟨default,default,default,default,default⟩⟩
def rY (x:fT):List KV:=[dc 32 fE x.s1,dc 32 fE x.s2,.bool x.t4,.int .i64 x.t12,.int .i64 x.t13]
def rZ (x:fT):List (List KV):=[]
def Ae (vs:List KV) (rs:List (List KV)):fT:=⟨cT dW (v9 vs 0),cT dW (v9 vs 1),cK (v9 vs 2),av (v9 vs 3),av (v9 vs 4)⟩
def AV:aB:=⟨[(0,w9 (n9 32)),(1,w9 (n9 32)),(4,w9 b9),(12,w9 i9),(13,w9 i9)],[],[]⟩
def Nt:=JL [] [] 99 58 AV
def dS (x:fT):ax fT:=(cond (decide (x.t13 < x.t12)) (cond ((decide (0<=x.t13))&&(decide (x.t13 < (x.s1.n:Int)))) (cond ((decide (0<=x.t13))&&(decide (x.t13 < (x.s2.n:Int)))) (cond (!(((x.s1.get (Int.toNat x.t13)).slot==(x.s2.get (Int.toNat x.t13)).slot)&&(((x.s1.get (Int.toNat x.t13)).gen==(x.s2.get (Int.toNat x.t13)).gen)&&true))) (.out aq.ae.ret ⟨x.s1,x.s2,false,x.t12,x.t13⟩) (.next ⟨x.s1,x.s2,x.t4,x.t12,(aV (x.t13+1))⟩)) .fail) .fail) (.out (aq.ae.exit 0) x))
theorem J8 (x:fT):Nt (rY x) (rZ x)=ax.enc rY rZ (dS x):=by
 unfold dS
 try simp only [ax.aO]
 kernel_rfl
def AW:Lp:=⟨99,58,AV,fun vs rs=>bU rY rZ (goN dS (Ae vs rs)) [aq.ae.exit 0,aq.ae.ret],false⟩
theorem Nu:AW.Ok PG:=kv ah.nil aD.nil (pa:=Ae) J8
def pH (s1:(Sl Handle)) (s2:(Sl Handle)):=goN dS ⟨s1,s2,false,(s1.n:Int),0⟩
def mu (s1:(Sl Handle)) (s2:(Sl Handle)):Option (Bool):=(cond ((s1.n:Int) != (s2.n:Int)) (some (false)) (cond ((pH s1 s2).by (aq.ae.exit 0)) (some (true)) (cond ((pH s1 s2).by aq.ae.ret) (some ((pH s1 s2).st.t4)) none)))
theorem Qj (s1:(Sl Handle)) (s2:(Sl Handle)):Bs [] [AW] 99 [(dc 32 fE) s1,(dc 32 fE) s2] = (mu s1 s2).map kB:=by
 unfold mu
 try simp only [aL]
 kernel_rfl
def Hz:List KV->KR KV:=aZ PG 99 (bd kB fun vs=>mu ((cT dW) (v9 vs 0)) ((cT dW) (v9 vs 1)))
theorem OJ:aY PG 99 Hz:=b8 ah.nil (fv Nu aD.nil) fun w=>Qj ((cT dW) (g0 35 (w 0))) ((cT dW) (g0 35 (w 1)))
def vp (s:aw) (p:Path):=pW s
def vq (s:aw) (p:Path):=nB s p.kids
def B8 (s:aw) (p:Path):=mu ((vq s p).getD default).fst.nodes p.nodes
def oD (s:aw) (p:Path):Option (Int):=(cond (vp s p).isSome (cond (((vp s p).getD default) != 0) (some (((vp s p).getD default))) (cond ((s.root.slot==0)&&((s.root.gen==0)&&true)) (some (8)) (cond (vq s p).isSome (cond (!((vq s p).getD default).snd) (some (8)) (cond (B8 s p).isSome (cond (!((B8 s p).getD default)) (some (8)) (some (0))) none)) none))) none)
theorem YF (s:aw) (p:Path):Bs [(99,Hz),(51,Eh),(25,J7)] [] 54 [iG s,qX p] = (oD s p).map (kI .i64):=by
 unfold oD
 try simp only [aL]
 kernel_rfl
def uv:List KV->KR KV:=aZ PG 54 (bd (kI .i64) fun vs=>oD (de (v9 vs 0)) (pX (v9 vs 1)))
theorem tB:aY PG 54 uv:=b8 (ah.cons OJ (ah.cons Hy (ah.cons LH ah.nil))) aD.nil fun w=>YF (de (g0 34 (w 0))) (pX (g0 38 (w 1)))
structure mP where
 t4:Bool
 t5:Int
 t17:(Sl Int)
 t18:Int
 t19:Int
 s:aw
 p:Path
instance:Inhabited mP:=⟨by constructor<;>exact default⟩
def Ei (x:mP):List KV:=[.bool x.t4,.int .i64 x.t5,dc 3 (kI .i64) x.t17,.int .i64 x.t18,.int .i64 x.t19]
def Ej (x:mP):List (List KV):=[iE x.s,Qf x.p]
def N3 (vs:List KV) (rs:List (List KV)):mP:=⟨cK (v9 vs 0),av (v9 vs 1),cT av (v9 vs 2),av (v9 vs 3),av (v9 vs 4),iH (r9 rs 0),Qg (r9 rs 1)⟩
def Qk:aB:=⟨[(4,w9 b9),(5,w9 i9),(17,w9 (n9 3)),(18,w9 i9),(19,w9 i9)],[(2,[n9 111,n9 35,n9 77,n9 88,n9 91,i9,i9],1),(3,[n9 32,n9 3],1)],[(2,0,0),(3,1,0)]⟩
def aas:=JL [(54,uv)] [] 20 58 Qk
def iJ (x:mP):ax mP:=(cond (decide (x.t19 < x.t18)) (cond ((decide (0<=x.t19))&&(decide (x.t19 < (x.t17.n:Int)))) (cond ((decide (0<=x.t19))&&(decide (x.t19 < (x.p.nodes.n:Int)))) (cond ((decide (0<=(x.p.nodes.get (Int.toNat x.t19)).slot))&&(decide ((x.p.nodes.get (Int.toNat x.t19)).slot < (x.s.nodes.n:Int)))) (cond ((x.s.nodes.get (Int.toNat (x.p.nodes.get (Int.toNat x.t19)).slot)).kind==3) (cond (!(decide ((x.t17.get (Int.toNat x.t19)) < 0))) (cond ((w16 (((E5 IntKind.u16 (Int.fdiv (x.s.nodes.get (Int.toNat (x.p.nodes.get (Int.toNat x.t19)).slot)).s6 (2 ^ (min (Int.toNat (x.t17.get (Int.toNat x.t19))) 16))) 1):Nat):Int))==0) (.out aq.ae.ret ⟨false,0,x.t17,x.t18,x.t19,x.s,x.p⟩) (.next ⟨x.t4,x.t5,x.t17,x.t18,(aV (x.t19+1)),x.s,x.p⟩)) .fail) (.next ⟨x.t4,x.t5,x.t17,x.t18,(aV (x.t19+1)),x.s,x.p⟩)) .fail) .fail) .fail) (.out (aq.ae.exit 0) x))
theorem WG (x:mP):aas (Ei x) (Ej x)=ax.enc Ei Ej (iJ x):=by
 unfold iJ
 try simp only [ax.aO]
 kernel_rfl
def Ql:Lp:=⟨20,58,Qk,fun vs rs=>bU Ei Ej (goN iJ (N3 vs rs)) [aq.ae.exit 0,aq.ae.ret],false⟩
theorem aat:Ql.Ok PG:=kv (ah.cons tB ah.nil) aD.nil (pa:=N3) WG
def CN (s:aw) (p:Path):=oD s p
def wu (s:aw) (p:Path):=goN iJ ⟨false,0,p.kids,(p.kids.n:Int),0,s,p⟩
def yv (s:aw) (p:Path):Option (Bool×Int):=(cond (CN s p).isSome (cond (((CN s p).getD default) != 0) (some (false,((CN s p).getD default))) (cond ((wu s p).by (aq.ae.exit 0)) (some (true,0)) (cond ((wu s p).by aq.ae.ret) (some ((wu s p).st.t4,(wu s p).st.t5)) none))) none)
theorem aet (s:aw) (p:Path):Bs [(54,uv)] [Ql] 20 [iG s,qX p] = (yv s p).map (fun (r:Bool×Int)=>KV.jV [kB r.1,(kI .i64) r.2]):=by
 unfold yv
 try simp only [aL]
 kernel_rfl
def Z1:List KV->KR KV:=aZ PG 20 (bd (fun (r:Bool×Int)=>KV.jV [kB r.1,(kI .i64) r.2]) fun vs=>yv (de (v9 vs 0)) (pX (v9 vs 1)))
theorem adx:aY PG 20 Z1:=b8 (ah.cons tB ah.nil) (fv aat aD.nil) fun w=>aet (de (g0 34 (w 0))) (pX (g0 38 (w 1)))
def uw (s:aw):Option (Bool):=(some (((s.root.slot==0)&&((s.root.gen==0)&&true))))
theorem aeu (s:aw):lu [] [] 52 [iG s] = (uw s).map kB:=by
 unfold uw
 kernel_rfl
def Qm:List KV->KR KV:=aZ PG 52 (bd kB fun vs=>uw (de (v9 vs 0)))
theorem Qn:aY PG 52 Qm:=b8 ah.nil aD.nil fun w=>aeu (de (g0 34 (w 0)))
structure kY where
 kids:(Sl Int)
 t5:Bool
 i:Int
 s:aw
 t4:Path
 p:Path
 h:Handle
instance:Inhabited kY:=⟨by constructor<;>exact default⟩
def Ek (x:kY):List KV:=[dc 3 (kI .i64) x.kids,.bool x.t5,.int .i64 x.i]
def El (x:kY):List (List KV):=[iE x.s,Qf x.t4,Qf x.p,acQ x.h]
def N4 (vs:List KV) (rs:List (List KV)):kY:=⟨cT av (v9 vs 0),cK (v9 vs 1),av (v9 vs 2),iH (r9 rs 0),Qg (r9 rs 1),Qg (r9 rs 2),acR (r9 rs 3)⟩
def Qo:aB:=⟨[(1,w9 (n9 3)),(5,w9 b9),(8,w9 i9)],[(2,[n9 111,n9 35,n9 77,n9 88,n9 91,i9,i9],1),(4,[.aQ 32,.aQ 3],1),(6,[.aQ 32,.aQ 3],1),(7,[i9,i9],1)],[(2,0,0),(4,1,0),(6,2,0),(7,3,0)]⟩
def aau:=sm [] [] 53 122 Qo
def pI (x:kY):ax kY:=(cond (cond (cond (cond (aC x.p.kids.n x.p.kids.n) (aC x.p.nodes.n x.p.nodes.n) false) true false) true false) (.out aq.ae.ret ⟨x.kids,false,x.i,x.s,⟨⟨0,(fun i=>⟨0,0⟩)⟩,⟨0,(fun i=>0)⟩⟩,x.p,x.h⟩) .fail)
def np (x:kY):ax kY:=(cond (decide (x.i < (x.kids.n:Int))) (cond ((decide (0<=x.h.slot))&&(decide (x.h.slot < (x.s.graph.kids.n:Int)))) (cond ((decide (0<=x.i))&&(decide (x.i < (x.kids.n:Int)))) (cond (decide ((x.kids.get (Int.toNat x.i)) < 0))
   (pI x) (cond ((decide (0<=x.i))&&(decide (x.i < (x.kids.n:Int)))) (cond (decide ((x.kids.get (Int.toNat x.i)) >= ((x.s.graph.kids.get (Int.toNat x.h.slot)).n:Int)))
    (pI x) (cond ((decide (0<=x.i))&&(decide (x.i < (x.kids.n:Int)))) (cond ((decide (0<=(x.kids.get (Int.toNat x.i))))&&(decide ((x.kids.get (Int.toNat x.i)) < ((x.s.graph.kids.get (Int.toNat x.h.slot)).n:Int)))) (cond ((aC x.p.nodes.n x.p.nodes.n)&&(fC 16 x.p.nodes.n 1)) (cond ((decide (0<=x.i))&&(decide (x.i < (x.kids.n:Int)))) (cond ((aC x.p.kids.n x.p.kids.n)&&(fC 8 x.p.kids.n 1)) (cond (cond (cond (cond (aC (x.p.kids.n+1) (x.p.kids.n+1)) (aC (x.p.nodes.n+1) (x.p.nodes.n+1)) false) (aC x.t4.kids.n x.t4.kids.n) false) (aC x.t4.nodes.n x.t4.nodes.n) false) (.next ⟨x.kids,x.t5,(aV (x.i+1)),x.s,x.t4,⟨(x.p.nodes.push ((x.s.graph.kids.get (Int.toNat x.h.slot)).get (Int.toNat (x.kids.get (Int.toNat x.i))))),(x.p.kids.push (x.kids.get (Int.toNat x.i)))⟩,((x.s.graph.kids.get (Int.toNat x.h.slot)).get (Int.toNat (x.kids.get (Int.toNat x.i))))⟩) .fail) .fail) .fail) .fail) .fail) .fail)) .fail)) .fail) .fail) (cond (cond (cond (cond (aC x.p.kids.n x.p.kids.n) (aC x.p.nodes.n x.p.nodes.n) false) (aC x.t4.kids.n x.t4.kids.n) false) (aC x.t4.nodes.n x.t4.nodes.n) false) (.out (aq.ae.exit 0) x) .fail))
theorem WH (x:kY):aau (Ek x) (El x)=ax.enc Ek El (np x):=by
 unfold np pI
 try simp only [ax.aO,FL,aft]
 kernel_rfl
def Qp:Lp:=⟨53,122,Qo,fun vs rs=>bU Ek El (goN np (N4 vs rs)) [aq.ae.exit 0,aq.ae.ret],false⟩
theorem aav:Qp.Ok PG:=kv ah.nil aD.nil (pa:=N4) WH
def r5 (s:aw) (kids:(Sl Int)):=goN np ⟨kids,false,1,s,⟨⟨0,(fun i=>⟨0,0⟩)⟩,⟨0,(fun i=>0)⟩⟩,⟨((Sl.lit [s.root]).push ((s.graph.kids.get (Int.toNat s.root.slot)).get (Int.toNat (kids.get 0)))),((⟨0,(fun i=>0)⟩:Sl _).push (kids.get 0))⟩,((s.graph.kids.get (Int.toNat s.root.slot)).get (Int.toNat (kids.get 0)))⟩
def CO (s:aw) (kids:(Sl Int)):Option (Path×Bool):=(some (⟨⟨0,(fun i=>⟨0,0⟩)⟩,⟨0,(fun i=>0)⟩⟩,false))
def xO (s:aw) (kids:(Sl Int)):Option (Path×Bool):=(cond (decide (0 < (kids.n:Int))) (cond ((decide (0<=s.root.slot))&&(decide (s.root.slot < (s.graph.kids.n:Int)))) (cond (decide (0 < (kids.n:Int))) (cond (decide ((kids.get 0) < 0))
   (CO s kids) (cond (decide (0 < (kids.n:Int))) (cond (decide ((kids.get 0) >= ((s.graph.kids.get (Int.toNat s.root.slot)).n:Int)))
    (CO s kids) (cond (decide (0 < (kids.n:Int))) (cond ((decide (0<=(kids.get 0)))&&(decide ((kids.get 0) < ((s.graph.kids.get (Int.toNat s.root.slot)).n:Int)))) (cond (decide (0 < (kids.n:Int))) (cond ((r5 s kids).by (aq.ae.exit 0)) (some ((r5 s kids).st.p,true)) (cond ((r5 s kids).by aq.ae.ret) (some ((r5 s kids).st.t4,(r5 s kids).st.t5)) none)) none) none) none)) none)) none) none) (some (⟨(Sl.lit [s.root]),⟨0,(fun i=>0)⟩⟩,true)))
theorem agP (s:aw) (kids:(Sl Int)):lu [] [Qp] 53 [iG s,(dc 3 (kI .i64)) kids] = (xO s kids).map (fun (r:Path×Bool)=>KV.jV [qX r.1,kB r.2]):=by
 unfold xO CO
 try simp only [aL,r5,FL,ZP,ZQ,aft]
 kernel_rfl
def Um:List KV->KR KV:=aZ PG 53 (bd (fun (r:Path×Bool)=>KV.jV [qX r.1,kB r.2]) fun vs=>xO (de (v9 vs 0)) ((cT av) (v9 vs 1)))
theorem SQ:aY PG 53 Um:=b8 ah.nil (fv aav aD.nil) fun w=>agP (de (g0 34 (w 0))) ((cT av) (g0 36 (w 1)))
structure fU where
 a:(Sl Handle)
 b:(Sl Handle)
 t4:Bool
 i:Int
instance:Inhabited fU:=⟨⟨default,default,default,default⟩⟩
def r6 (x:fU):List KV:=[dc 32 fE x.a,dc 32 fE x.b,.bool x.t4,.int .i64 x.i]
def r7 (x:fU):List (List KV):=[]
def Af (vs:List KV) (rs:List (List KV)):fU:=⟨cT dW (v9 vs 0),cT dW (v9 vs 1),cK (v9 vs 2),av (v9 vs 3)⟩
def AX:aB:=⟨[(0,w9 (n9 32)),(1,w9 (n9 32)),(4,w9 b9),(5,w9 i9)],[],[]⟩
def Nv:=sm [] [] 60 58 AX
def dT (x:fU):ax fU:=(cond (decide (x.i < (x.a.n:Int))) (cond ((decide (0<=x.i))&&(decide (x.i < (x.a.n:Int)))) (cond ((decide (0<=x.i))&&(decide (x.i < (x.b.n:Int)))) (cond (!(((x.a.get (Int.toNat x.i)).slot==(x.b.get (Int.toNat x.i)).slot)&&(((x.a.get (Int.toNat x.i)).gen==(x.b.get (Int.toNat x.i)).gen)&&true))) (.out aq.ae.ret ⟨x.a,x.b,false,x.i⟩) (.next ⟨x.a,x.b,x.t4,(aV (x.i+1))⟩)) .fail) .fail) (.out (aq.ae.exit 0) x))
theorem J9 (x:fU):Nv (r6 x) (r7 x)=ax.enc r6 r7 (dT x):=by
 unfold dT
 try simp only [ax.aO]
 kernel_rfl
def AY:Lp:=⟨60,58,AX,fun vs rs=>bU r6 r7 (goN dT (Af vs rs)) [aq.ae.exit 0,aq.ae.ret],false⟩
theorem Nw:AY.Ok PG:=kv ah.nil aD.nil (pa:=Af) J9
def pJ (a:(Sl Handle)) (b:(Sl Handle)):=goN dT ⟨a,b,false,0⟩
def fP (a:(Sl Handle)) (b:(Sl Handle)):Option (Bool):=(cond ((a.n:Int) != (b.n:Int)) (some (false)) (cond ((pJ a b).by (aq.ae.exit 0)) (some (true)) (cond ((pJ a b).by aq.ae.ret) (some ((pJ a b).st.t4)) none)))
theorem Qq (a:(Sl Handle)) (b:(Sl Handle)):lu [] [AY] 60 [(dc 32 fE) a,(dc 32 fE) b] = (fP a b).map kB:=by
 unfold fP
 try simp only [aL]
 kernel_rfl
def oE:List KV->KR KV:=aZ PG 60 (bd kB fun vs=>fP ((cT dW) (v9 vs 0)) ((cT dW) (v9 vs 1)))
theorem oT:aY PG 60 oE:=b8 ah.nil (fv Nw aD.nil) fun w=>Qq ((cT dW) (g0 35 (w 0))) ((cT dW) (g0 35 (w 1)))
def Ag (s:aw) (p:Path):=rT s
def HA (s:aw) (p:Path):=uw s
def Ah (s:aw) (p:Path):=xO s p.kids
def HB (s:aw) (p:Path):=fP ((Ah s p).getD default).fst.nodes p.nodes
def r8 (s:aw) (p:Path):Option (Int):=(cond (Ag s p).isSome (cond (((Ag s p).getD default) != 0) (some (((Ag s p).getD default))) (cond (HA s p).isSome (cond ((HA s p).getD default) (some (8)) (cond (Ah s p).isSome (cond (!((Ah s p).getD default).snd) (some (8)) (cond (HB s p).isSome (cond (!((HB s p).getD default)) (some (8)) (some (0))) none)) none)) none)) none)
theorem ady (s:aw) (p:Path):lu [(60,oE),(53,Um),(52,Qm),(26,Nl)] [] 56 [iG s,qX p] = (r8 s p).map (kI .i64):=by
 unfold r8
 try simp only [aL]
 kernel_rfl
def Nx:List KV->KR KV:=aZ PG 56 (bd (kI .i64) fun vs=>r8 (de (v9 vs 0)) (pX (v9 vs 1)))
theorem N5:aY PG 56 Nx:=b8 (ah.cons oT (ah.cons SQ (ah.cons Qn (ah.cons NT ah.nil)))) aD.nil fun w=>ady (de (g0 34 (w 0))) (pX (g0 38 (w 1)))
structure pY where
 s6:Int
 place:Int
 t4:Bool
 i:Int
instance:Inhabited pY:=⟨⟨default,default,default,default⟩⟩
def HC (x:pY):List KV:=[.int .u16 x.s6,.int .i64 x.place,.bool x.t4,.int .i64 x.i]
def HD (x:pY):List (List KV):=[]
def Qr (vs:List KV) (rs:List (List KV)):pY:=⟨av (v9 vs 0),av (v9 vs 1),cK (v9 vs 2),av (v9 vs 3)⟩
def SR:aB:=⟨[(0,⟨false,[.k (.int .u16)]⟩),(1,w9 i9),(4,w9 b9),(5,w9 i9)],[],[]⟩
def adz:=sm [] [] 105 26 SR
def ou (x:pY):ax pY:=(cond (decide (x.i < x.place)) (.next ⟨(w16 (Int.tdiv x.s6 2)),x.place,x.t4,(aV (x.i+1))⟩) (.out (aq.ae.exit 0) x))
theorem YG (x:pY):adz (HC x) (HD x)=ax.enc HC HD (ou x):=by
 unfold ou
 try simp only [ax.aO]
 kernel_rfl
def SS:Lp:=⟨105,26,SR,fun vs rs=>bU HC HD (goN ou (Qr vs rs)) [aq.ae.exit 0],false⟩
theorem adA:SS.Ok PG:=kv ah.nil aD.nil (pa:=Qr) YG
def Ny (s6:Int) (place:Int):=goN ou ⟨s6,place,false,0⟩
def B9 (s6:Int) (place:Int):Option (Bool):=(cond ((Ny s6 place).by (aq.ae.exit 0)) (some (((Int.tmod (Ny s6 place).st.s6 2)==1))) none)
theorem agQ (s6:Int) (place:Int):lu [] [SS] 105 [(kI .u16) s6,(kI .i64) place] = (B9 s6 place).map kB:=by
 unfold B9
 try simp only [aL]
 kernel_rfl
def Un:List KV->KR KV:=aZ PG 105 (bd kB fun vs=>B9 (av (v9 vs 0)) (av (v9 vs 1)))
theorem SU:aY PG 105 Un:=b8 ah.nil (fv adA aD.nil) fun w=>agQ (av (g0 72 (w 0))) (av (g0 3 (w 1)))
structure iK where
 t4:Bool
 i:Int
 s:aw
 p:Path
instance:Inhabited iK:=⟨⟨default,default,default,default⟩⟩
def xP (x:iK):List KV:=[.bool x.t4,.int .i64 x.i]
def xQ (x:iK):List (List KV):=[iE x.s,Qf x.p]
def HF (vs:List KV) (rs:List (List KV)):iK:=⟨cK (v9 vs 0),av (v9 vs 1),iH (r9 rs 0),Qg (r9 rs 1)⟩
def I4:aB:=⟨[(4,w9 b9),(5,w9 i9)],[(2,[n9 111,n9 35,n9 77,n9 88,n9 91,i9,i9],1),(3,[n9 32,n9 3],1)],[(2,0,0),(3,1,0)]⟩
def Uo:=sm [(105,Un)] [] 59 26 I4
def vO (x:iK):=B9 (x.s.nodes.get (Int.toNat (x.p.nodes.get (Int.toNat x.i)).slot)).s6 (x.p.kids.get (Int.toNat x.i))
def fM (x:iK):ax iK:=(cond (decide (x.i < (x.p.kids.n:Int))) (cond ((decide (0<=x.i))&&(decide (x.i < (x.p.nodes.n:Int)))) (cond ((decide (0<=(x.p.nodes.get (Int.toNat x.i)).slot))&&(decide ((x.p.nodes.get (Int.toNat x.i)).slot < (x.s.nodes.n:Int)))) (cond ((x.s.nodes.get (Int.toNat (x.p.nodes.get (Int.toNat x.i)).slot)).kind==3) (cond ((decide (0<=x.i))&&(decide (x.i < (x.p.kids.n:Int)))) (cond (vO x).isSome (cond (!((vO x).getD default)) (.out aq.ae.ret ⟨false,x.i,x.s,x.p⟩) (.next ⟨x.t4,(aV (x.i+1)),x.s,x.p⟩)) .fail) .fail) (.next ⟨x.t4,(aV (x.i+1)),x.s,x.p⟩)) .fail) .fail) (.out (aq.ae.exit 0) x))
theorem Qs (x:iK):Uo (xP x) (xQ x)=ax.enc xP xQ (fM x):=by
 unfold fM
 try simp only [ax.aO]
 kernel_rfl
def I5:Lp:=⟨59,26,I4,fun vs rs=>bU xP xQ (goN fM (HF vs rs)) [aq.ae.exit 0,aq.ae.ret],false⟩
theorem Uq:I5.Ok PG:=kv (ah.cons SU ah.nil) aD.nil (pa:=HF) Qs
def vr (s:aw) (p:Path):=goN fM ⟨false,0,s,p⟩
def qY (s:aw) (p:Path):Option (Bool):=(cond ((vr s p).by (aq.ae.exit 0)) (some (true)) (cond ((vr s p).by aq.ae.ret) (some ((vr s p).st.t4)) none))
theorem YH (s:aw) (p:Path):lu [(105,Un)] [I5] 59 [iG s,qX p] = (qY s p).map kB:=by
 unfold qY
 try simp only [aL]
 kernel_rfl
def Qt:List KV->KR KV:=aZ PG 59 (bd kB fun vs=>qY (de (v9 vs 0)) (pX (v9 vs 1)))
theorem WI:aY PG 59 Qt:=b8 (ah.cons SU ah.nil) (fv Uq aD.nil) fun w=>YH (de (g0 34 (w 0))) (pX (g0 38 (w 1)))
def I6 (s:aw) (p:Path):=r8 s p
def Qu (s:aw) (p:Path):=qY s p
def Ge (s:aw) (p:Path):Option (Bool×Int):=(cond (I6 s p).isSome (cond (((I6 s p).getD default) != 0) (some (false,((I6 s p).getD default))) (cond (Qu s p).isSome (some (((Qu s p).getD default),0)) none)) none)
theorem aiY (s:aw) (p:Path):lu [(59,Qt),(56,Nx)] [] 21 [iG s,qX p] = (Ge s p).map (fun (r:Bool×Int)=>KV.jV [kB r.1,(kI .i64) r.2]):=by
 unfold Ge
 try simp only [aL]
 kernel_rfl
def afy:List KV->KR KV:=aZ PG 21 (bd (fun (r:Bool×Int)=>KV.jV [kB r.1,(kI .i64) r.2]) fun vs=>Ge (de (v9 vs 0)) (pX (v9 vs 1)))
theorem agR:aY PG 21 afy:=b8 (ah.cons WI (ah.cons N5 ah.nil)) aD.nil fun w=>aiY (de (g0 34 (w 0))) (pX (g0 38 (w 1)))
theorem adB {α:Type} [Inhabited α] {p:KV->α} {k:α->KV} (h:∀ x,p (k x)=x) (hd:p .bA=default) (s:Sl α) (v:α) (w:KV) (hw:p w=v):s.push v=rb p (s.n+1) (dw s.n (fun i=>k (s.get i)) (lU [w])):=by
 rw [<- hw,(yk h hd s (p w)).symm];unfold rb;congr 1;funext i;unfold dw;cases Nat.blt i s.n with
 | true=>rfl
 | false=>
  show p ((lU [k (p w)]) (i - s.n))=p ((lU [w]) (i - s.n));cases i - s.n with
  | zero=>exact h (p w)
  | succ _=>rfl
theorem aaw (s:Sl (Sl Handle)) (f:Nat->Handle) (t:Sl Handle):s.push ((⟨0,f⟩:Sl Handle).join t)=rb (fun e=>cT dW (eE Tryz.prog (bI Tryz.prog 5) 35 e)) (s.n+1) (dw s.n (fun i=>dc 32 fE (s.get i)) (lU [.ts 32 .any (0+t.n) ([]++(List.range t.n).map fun i=>fE (t.get i)) (dw 0 l7 (fun i=>fE (t.get i)))])):=adB (p:=fun e=>cT dW (eE Tryz.prog (bI Tryz.prog 5) 35 e)) (fun x=>by kernel_rfl) (by kernel_rfl) s _ _ (by kernel_rfl)
theorem aiZ (s:Sl Prim) (k:Int) (f:Nat->Int) (t:Sl Int):s.push ⟨k,(⟨0,f⟩:Sl Int).join t⟩=rb (fun e=>Bx (eE Tryz.prog (bI Tryz.prog 5) 172 e)) (s.n+1) (dw s.n (fun i=>TZ (s.get i)) (lU [.agg [.int .u8 k,.ts 3 .any (0+t.n) ([]++(List.range t.n).map fun i=>.int .i64 (t.get i)) (dw 0 l7 (fun i=>.int .i64 (t.get i)))]])):=adB (p:=fun e=>Bx (eE Tryz.prog (bI Tryz.prog 5) 172 e)) (fun x=>by kernel_rfl) (by kernel_rfl) s _ _ (by kernel_rfl)
theorem ai0 (s:Sl Node) (v:Node):s.push v=rb (fun e=>nV (eE Tryz.prog (bI Tryz.prog 5) 77 e)) (s.n+1) (dw s.n (fun i=>uh (s.get i)) (lU [uh v])):=(yk (p:=fun e=>nV (eE Tryz.prog (bI Tryz.prog 5) 77 e)) (fun x=>by kernel_rfl) (by kernel_rfl) s v).symm
theorem ai1 (s:Sl dm) (v:dm):s.push v=rb (fun e=>nW (eE Tryz.prog (bI Tryz.prog 5) 88 e)) (s.n+1) (dw s.n (fun i=>xw (s.get i)) (lU [xw v])):=(yk (p:=fun e=>nW (eE Tryz.prog (bI Tryz.prog 5) 88 e)) (fun x=>by kernel_rfl) (by kernel_rfl) s v).symm
def tC (s:aw) (kids:(Sl Int)):=pW s
def tD (s:aw) (kids:(Sl Int)):=nB s kids
def pb (s:aw) (kids:(Sl Int)):Option (Path×Int):=(cond (tC s kids).isSome (cond (((tC s kids).getD default) != 0) (some (⟨⟨0,(fun i=>⟨0,0⟩)⟩,⟨0,(fun i=>0)⟩⟩,((tC s kids).getD default))) (cond ((s.root.slot==0)&&((s.root.gen==0)&&true)) (some (⟨⟨0,(fun i=>⟨0,0⟩)⟩,⟨0,(fun i=>0)⟩⟩,6)) (cond (tD s kids).isSome (cond (!((tD s kids).getD default).snd) (some (⟨⟨0,(fun i=>⟨0,0⟩)⟩,⟨0,(fun i=>0)⟩⟩,2)) (some (((tD s kids).getD default).fst,0))) none))) none)
theorem WJ (s:aw) (kids:(Sl Int)):lu [(51,Eh),(25,J7)] [] 16 [iG s,(dc 3 (kI .i64)) kids] = (pb s kids).map (fun (r:Path×Int)=>KV.jV [qX r.1,(kI .i64) r.2]):=by
 unfold pb
 try simp only [aL]
 kernel_rfl
def N6:List KV->KR KV:=aZ PG 16 (bd (fun (r:Path×Int)=>KV.jV [qX r.1,(kI .i64) r.2]) fun vs=>pb (de (v9 vs 0)) ((cT av) (v9 vs 1)))
theorem Ur:aY PG 16 N6:=b8 (ah.cons Hy (ah.cons LH ah.nil)) aD.nil fun w=>WJ (de (g0 34 (w 0))) ((cT av) (g0 36 (w 1)))
def wY  : Option (cf):=(some ((⟨(⟨(⟨(255:Int),(255:Int),(255:Int),(255:Int)⟩:Color),(-(1:Int)),(0:Int),(0:Int),false,(0:Int)⟩:gY),(⟨false,false,false,false,false⟩:Wd)⟩:cf)))
theorem WK  : lu [] [] 100 [] = (wY ).map sJ:=by
 unfold wY
 kernel_rfl
def Em:List KV->KR KV:=aZ PG 100 (bd sJ fun vs=>wY )
theorem HG:aY PG 100 Em:=b8 ah.nil aD.nil fun w=>WK
structure gi where
 t3:Int
 t13:(Sl bR)
 t14:Int
 t15:Int
 t2:gY
 i:cf
instance:Inhabited gi:=⟨by constructor<;>exact default⟩
def ux (x:gi):List KV:=[.int .i64 x.t3,dc 75 qk x.t13,.int .i64 x.t14,.int .i64 x.t15]
def uy (x:gi):List (List KV):=[ac0 x.t2,BH x.i]
def Dv (vs:List KV) (rs:List (List KV)):gi:=⟨av (v9 vs 0),cT nh (v9 vs 1),av (v9 vs 2),av (v9 vs 3),ac1 (r9 rs 0),BI (r9 rs 1)⟩
def Fi:aB:=⟨[(3,w9 i9),(13,w9 (n9 75)),(14,w9 i9),(15,w9 i9)],[(2,[u9,u9,u9,u9,i9,u9,i9,b9,i9],1),(4,[u9,u9,u9,u9,i9,u9,i9,b9,i9,b9,b9,b9,b9,b9],1)],[(2,0,0),(4,1,0)]⟩
def Qv:=sm [(101,DY),(80,wO),(100,Em)] [] 55 122 Fi
def oU (x:gi):=ny (x.t13.get (Int.toNat x.t15))
def te (x:gi):=o7 x.i (x.t13.get (Int.toNat x.t15))
def gU (x:gi):ax gi:=(cond (decide (x.t15 < x.t14)) (cond ((decide (0<=x.t15))&&(decide (x.t15 < (x.t13.n:Int)))) (cond (oU x).isSome (cond (((oU x).getD default) != 0) (.out aq.ae.ret ⟨((oU x).getD default),x.t13,x.t14,x.t15,⟨⟨0,0,0,0⟩,0,0,0,false,0⟩,x.i⟩) (cond (te x).isSome (.next ⟨x.t3,x.t13,x.t14,(aV (x.t15+1)),x.t2,((te x).getD default)⟩) .fail)) .fail) .fail) (.out (aq.ae.exit 0) x))
theorem Nz (x:gi):Qv (ux x) (uy x)=ax.enc ux uy (gU x):=by
 unfold gU
 try simp only [ax.aO]
 kernel_rfl
def Fj:Lp:=⟨55,122,Fi,fun vs rs=>bU ux uy (goN gU (Dv vs rs)) [aq.ae.exit 0,aq.ae.ret],false⟩
theorem Qw:Fj.Ok PG:=kv (ah.cons Hb (ah.cons xA (ah.cons HG ah.nil))) aD.nil (pa:=Dv) Nz
def Ai (l:(Sl bR)):=wY
def iL (l:(Sl bR)):=goN gU ⟨0,l,(l.n:Int),0,⟨⟨0,0,0,0⟩,0,0,0,false,0⟩,((Ai l).getD default)⟩
def pd (l:(Sl bR)):Option (gY×Int):=(cond (decide ((l.n:Int) > 128)) (some (⟨⟨0,0,0,0⟩,0,0,0,false,0⟩,4)) (cond (Ai l).isSome (cond ((iL l).by (aq.ae.exit 0)) (some ((iL l).st.i.look,0)) (cond ((iL l).by aq.ae.ret) (some ((iL l).st.t2,(iL l).st.t3)) none)) none))
theorem WL (l:(Sl bR)):lu [(101,DY),(80,wO),(100,Em)] [Fj] 55 [(dc 75 qk) l] = (pd l).map (fun (r:gY×Int)=>KV.jV [JN r.1,(kI .i64) r.2]):=by
 unfold pd
 try simp only [aL]
 kernel_rfl
def En:List KV->KR KV:=aZ PG 55 (bd (fun (r:gY×Int)=>KV.jV [JN r.1,(kI .i64) r.2]) fun vs=>pd ((cT nh) (v9 vs 0)))
theorem HH:aY PG 55 En:=b8 (ah.cons Hb (ah.cons xA (ah.cons HG ah.nil))) (fv Qw aD.nil) fun w=>WL ((cT nh) (g0 130 (w 0)))
structure kZ where
 t5:Int
 l:(Sl bR)
 t18:(Sl Handle)
 t19:Int
 t20:Int
 s:aw
 t4:gY
instance:Inhabited kZ:=⟨by constructor<;>exact default⟩
def xR (x:kZ):List KV:=[.int .i64 x.t5,dc 75 qk x.l,dc 32 fE x.t18,.int .i64 x.t19,.int .i64 x.t20]
def xS (x:kZ):List (List KV):=[iE x.s,ac0 x.t4]
def HI (vs:List KV) (rs:List (List KV)):kZ:=⟨av (v9 vs 0),cT nh (v9 vs 1),cT dW (v9 vs 2),av (v9 vs 3),av (v9 vs 4),iH (r9 rs 0),ac1 (r9 rs 1)⟩
def I7:aB:=⟨[(5,w9 i9),(7,⟨false,[.aQ 75]⟩),(18,w9 (n9 32)),(19,w9 i9),(20,w9 i9)],[(2,[n9 111,n9 35,n9 77,n9 88,n9 91,i9,i9],1),(4,[u9,u9,u9,u9,i9,u9,i9,b9,i9],1)],[(2,0,0),(4,1,0)]⟩
def Ut:=sm [(55,En),(54,uv)] [] 18 122 I7
def jc (x:kZ):ax kZ:=(cond (decide (x.t20 < x.t19)) (cond ((decide (0<=x.t20))&&(decide (x.t20 < (x.t18.n:Int)))) (cond ((decide (0<=(x.t18.get (Int.toNat x.t20)).slot))&&(decide ((x.t18.get (Int.toNat x.t20)).slot < (x.s.nodes.n:Int)))) (cond ((aC x.l.n x.l.n)&&(fC 56 x.l.n 1)) (cond (aC (x.l.n+1) (x.l.n+1)) (.next ⟨x.t5,(x.l.push (x.s.nodes.get (Int.toNat (x.t18.get (Int.toNat x.t20)).slot)).bB),x.t18,x.t19,(aV (x.t20+1)),x.s,x.t4⟩) .fail) .fail) .fail) .fail) (cond (aC x.l.n x.l.n) (.out (aq.ae.exit 0) x) .fail))
theorem Qx (x:kZ):Ut (xR x) (xS x)=ax.enc xR xS (jc x):=by
 unfold jc
 try simp only [ax.aO,ZT]
 kernel_rfl
def I8:Lp:=⟨18,122,I7,fun vs rs=>bU xR xS (goN jc (HI vs rs)) [aq.ae.exit 0],false⟩
theorem Uu:I8.Ok PG:=kv (ah.cons HH (ah.cons tB ah.nil)) aD.nil (pa:=HI) Qx
def wZ (s:aw) (p:Path):=oD s p
def Eo (s:aw) (p:Path):=goN jc ⟨0,⟨0,(fun i=>⟨⟨0,0,0,0,0⟩,⟨⟨0,0,0,0⟩,0,0,0,false,0⟩⟩)⟩,p.nodes,(p.nodes.n:Int),0,s,⟨⟨0,0,0,0⟩,0,0,0,false,0⟩⟩
def sE (s:aw) (p:Path):=pd (Eo s p).st.l
def sN (s:aw) (p:Path):Option (gY×Int):=(cond (wZ s p).isSome (cond (((wZ s p).getD default) != 0) (some (⟨⟨0,0,0,0⟩,0,0,0,false,0⟩,((wZ s p).getD default))) (cond ((Eo s p).by (aq.ae.exit 0)) (cond (sE s p).isSome (some (((sE s p).getD default).fst,((sE s p).getD default).snd)) none) none)) none)
theorem aax (s:aw) (p:Path):lu [(55,En),(54,uv)] [I8] 18 [iG s,qX p] = (sN s p).map (fun (r:gY×Int)=>KV.jV [JN r.1,(kI .i64) r.2]):=by
 unfold sN
 try simp only [aL]
 kernel_rfl
def SV:List KV->KR KV:=aZ PG 18 (bd (fun (r:gY×Int)=>KV.jV [JN r.1,(kI .i64) r.2]) fun vs=>sN (de (v9 vs 0)) (pX (v9 vs 1)))
theorem YI:aY PG 18 SV:=b8 (ah.cons HH (ah.cons tB ah.nil)) (fv Uu aD.nil) fun w=>aax (de (g0 34 (w 0))) (pX (g0 38 (w 1)))
def Aj (a:Path) (b:Path):=fP a.nodes b.nodes
def Ak (a:Path) (b:Path):=mN a.kids b.kids
def pe (a:Path) (b:Path):Option (Bool):=(cond (Aj a b).isSome (cond ((Aj a b).getD default) (cond (Ak a b).isSome (some (((Ak a b).getD default))) none) (some (false))) none)
theorem WM (a:Path) (b:Path):lu [(61,oC),(60,oE)] [] 22 [qX a,qX b] = (pe a b).map kB:=by
 unfold pe
 try simp only [aL]
 kernel_rfl
def N7:List KV->KR KV:=aZ PG 22 (bd kB fun vs=>pe (pX (v9 vs 0)) (pX (v9 vs 1)))
theorem Uv:aY PG 22 N7:=b8 (ah.cons nj (ah.cons oT ah.nil)) aD.nil fun w=>WM (pX (g0 38 (w 0))) (pX (g0 38 (w 1)))
structure oG where
 t4:Bool
 i:Int
 a:fo
 b:fo
instance:Inhabited oG:=⟨⟨default,default,default,default⟩⟩
def Ep (x:oG):List KV:=[.bool x.t4,.int .i64 x.i]
def Er (x:oG):List (List KV):=[aba x.a,aba x.b]
def N8 (vs:List KV) (rs:List (List KV)):oG:=⟨cK (v9 vs 0),av (v9 vs 1),abb (r9 rs 0),abb (r9 rs 1)⟩
def Qy:aB:=⟨[(4,w9 b9),(5,w9 i9)],[(2,[n9 111],1),(3,[n9 111],1)],[(2,0,0),(3,1,0)]⟩
def aay:=sm [] [] 106 58 Qy
def pK (x:oG):ax oG:=(cond (decide (x.i < (x.a.aP.n:Int))) (cond ((decide (0<=x.i))&&(decide (x.i < (x.a.aP.n:Int)))) (cond ((decide (0<=x.i))&&(decide (x.i < (x.b.aP.n:Int)))) (cond (!(((x.a.aP.get (Int.toNat x.i)).gen==(x.b.aP.get (Int.toNat x.i)).gen)&&(((x.a.aP.get (Int.toNat x.i)).live==(x.b.aP.get (Int.toNat x.i)).live)&&true))) (.out aq.ae.ret ⟨false,x.i,x.a,x.b⟩) (.next ⟨x.t4,(aV (x.i+1)),x.a,x.b⟩)) .fail) .fail) (.out (aq.ae.exit 0) x))
theorem WN (x:oG):aay (Ep x) (Er x)=ax.enc Ep Er (pK x):=by
 unfold pK
 try simp only [ax.aO]
 kernel_rfl
def Qz:Lp:=⟨106,58,Qy,fun vs rs=>bU Ep Er (goN pK (N8 vs rs)) [aq.ae.exit 0,aq.ae.ret],false⟩
theorem aaz:Qz.Ok PG:=kv ah.nil aD.nil (pa:=N8) WN
def CP (a:fo) (b:fo):=goN pK ⟨false,0,a,b⟩
def yw (a:fo) (b:fo):Option (Bool):=(cond ((a.aP.n:Int) != (b.aP.n:Int)) (some (false)) (cond ((CP a b).by (aq.ae.exit 0)) (some (true)) (cond ((CP a b).by aq.ae.ret) (some ((CP a b).st.t4)) none)))
theorem aev (a:fo) (b:fo):lu [] [Qz] 106 [mC a,mC b] = (yw a b).map kB:=by
 unfold yw
 try simp only [aL]
 kernel_rfl
def QA:List KV->KR KV:=aZ PG 106 (bd kB fun vs=>yw (qh (v9 vs 0)) (qh (v9 vs 1)))
theorem QB:aY PG 106 QA:=b8 ah.nil (fv aaz aD.nil) fun w=>aev (qh (g0 24 (w 0))) (qh (g0 24 (w 1)))
structure mQ where
 t4:Bool
 i:Int
 a:cA
 b:cA
instance:Inhabited mQ:=⟨⟨default,default,default,default⟩⟩
def Es (x:mQ):List KV:=[.bool x.t4,.int .i64 x.i]
def Et (x:mQ):List (List KV):=[wM x.a,wM x.b]
def N9 (vs:List KV) (rs:List (List KV)):mQ:=⟨cK (v9 vs 0),av (v9 vs 1),wN (r9 rs 0),wN (r9 rs 1)⟩
def QC:aB:=⟨[(4,w9 b9),(5,w9 i9)],[(2,[n9 111,n9 35],1),(3,[n9 111,n9 35],1)],[(2,0,0),(3,1,0)]⟩
def aaA:=sm [(60,oE),(106,QA)] [] 62 58 QC
def LI (x:mQ):=fP (x.a.kids.get (Int.toNat x.i)) (x.b.kids.get (Int.toNat x.i))
def pL (x:mQ):ax mQ:=(cond (decide (x.i < (x.a.kids.n:Int))) (cond ((decide (0<=x.i))&&(decide (x.i < (x.a.kids.n:Int)))) (cond ((decide (0<=x.i))&&(decide (x.i < (x.b.kids.n:Int)))) (cond (LI x).isSome (cond (!((LI x).getD default)) (.out aq.ae.ret ⟨false,x.i,x.a,x.b⟩) (.next ⟨x.t4,(aV (x.i+1)),x.a,x.b⟩)) .fail) .fail) .fail) (.out (aq.ae.exit 0) x))
theorem WO (x:mQ):aaA (Es x) (Et x)=ax.enc Es Et (pL x):=by
 unfold pL
 try simp only [ax.aO]
 kernel_rfl
def QD:Lp:=⟨62,58,QC,fun vs rs=>bU Es Et (goN pL (N9 vs rs)) [aq.ae.exit 0,aq.ae.ret],false⟩
theorem aaB:QD.Ok PG:=kv (ah.cons oT (ah.cons QB ah.nil)) aD.nil (pa:=N9) WO
def Ka (a:cA) (b:cA):=yw a.bu b.bu
def CQ (a:cA) (b:cA):=goN pL ⟨false,0,a,b⟩
def yx (a:cA) (b:cA):Option (Bool):=(cond (Ka a b).isSome (cond (!((Ka a b).getD default)) (some (false)) (cond ((a.kids.n:Int) != (b.kids.n:Int)) (some (false)) (cond ((CQ a b).by (aq.ae.exit 0)) (some (true)) (cond ((CQ a b).by aq.ae.ret) (some ((CQ a b).st.t4)) none)))) none)
theorem aew (a:cA) (b:cA):lu [(60,oE),(106,QA)] [QD] 62 [CF a,CF b] = (yx a b).map kB:=by
 unfold yx
 try simp only [aL]
 kernel_rfl
def I9:List KV->KR KV:=aZ PG 62 (bd kB fun vs=>yx (qi (v9 vs 0)) (qi (v9 vs 1)))
theorem HJ:aY PG 62 I9:=b8 (ah.cons oT (ah.cons QB ah.nil)) (fv aaB aD.nil) fun w=>aew (qi (g0 27 (w 0))) (qi (g0 27 (w 1)))
structure oH where
 t4:Bool
 i:Int
 a:cN
 b:cN
instance:Inhabited oH:=⟨⟨default,default,default,default⟩⟩
def Eu (x:oH):List KV:=[.bool x.t4,.int .i64 x.i]
def Ew (x:oH):List (List KV):=[Yg x.a,Yg x.b]
def Oa (vs:List KV) (rs:List (List KV)):oH:=⟨cK (v9 vs 0),av (v9 vs 1),Yh (r9 rs 0),Yh (r9 rs 1)⟩
def QE:aB:=⟨[(4,w9 b9),(5,w9 i9)],[(2,[i9,i9,n9 58],1),(3,[i9,i9,n9 58],1)],[(2,0,0),(3,1,0)]⟩
def aaC:=sm [] [] 107 58 QE
def pM (x:oH):ax oH:=(cond (decide (x.i < (x.a.dt.n:Int))) (cond ((decide (0<=x.i))&&(decide (x.i < (x.a.dt.n:Int)))) (cond ((decide (0<=x.i))&&(decide (x.i < (x.b.dt.n:Int)))) (cond (!(((x.a.dt.get (Int.toNat x.i)).e0==(x.b.dt.get (Int.toNat x.i)).e0)&&(((x.a.dt.get (Int.toNat x.i)).e1==(x.b.dt.get (Int.toNat x.i)).e1)&&(((x.a.dt.get (Int.toNat x.i)).e2==(x.b.dt.get (Int.toNat x.i)).e2)&&(((x.a.dt.get (Int.toNat x.i)).e3==(x.b.dt.get (Int.toNat x.i)).e3)&&true))))) (.out aq.ae.ret ⟨false,x.i,x.a,x.b⟩) (.next ⟨x.t4,(aV (x.i+1)),x.a,x.b⟩)) .fail) .fail) (.out (aq.ae.exit 0) x))
theorem WQ (x:oH):aaC (Eu x) (Ew x)=ax.enc Eu Ew (pM x):=by
 unfold pM
 try simp only [ax.aO]
 kernel_rfl
def QF:Lp:=⟨107,58,QE,fun vs rs=>bU Eu Ew (goN pM (Oa vs rs)) [aq.ae.exit 0,aq.ae.ret],false⟩
theorem aaD:QF.Ok PG:=kv ah.nil aD.nil (pa:=Oa) WQ
def CR (a:cN) (b:cN):=goN pM ⟨false,0,a,b⟩
def rv (a:cN) (b:cN):Option (Bool):=(cond (a.w != b.w) (some (false)) (cond (a.h != b.h) (some (false)) (cond ((a.dt.n:Int) != (b.dt.n:Int)) (some (false)) (cond ((CR a b).by (aq.ae.exit 0)) (some (true)) (cond ((CR a b).by aq.ae.ret) (some ((CR a b).st.t4)) none)))))
theorem aex (a:cN) (b:cN):lu [] [QF] 107 [jN a,jN b] = (rv a b).map kB:=by
 unfold rv
 try simp only [aL]
 kernel_rfl
def QG:List KV->KR KV:=aZ PG 107 (bd kB fun vs=>rv (fj (v9 vs 0)) (fj (v9 vs 1)))
theorem QH:aY PG 107 QG:=b8 ah.nil (fv aaD aD.nil) fun w=>aex (fj (g0 91 (w 0))) (fj (g0 91 (w 1)))
structure jJ where
 a:(Sl cN)
 b:(Sl cN)
 t4:Bool
 i:Int
instance:Inhabited jJ:=⟨⟨default,default,default,default⟩⟩
def xT (x:jJ):List KV:=[dc 91 jN x.a,dc 91 jN x.b,.bool x.t4,.int .i64 x.i]
def xU (x:jJ):List (List KV):=[]
def HK (vs:List KV) (rs:List (List KV)):jJ:=⟨cT fj (v9 vs 0),cT fj (v9 vs 1),cK (v9 vs 2),av (v9 vs 3)⟩
def Ja:aB:=⟨[(0,w9 (n9 91)),(1,w9 (n9 91)),(4,w9 b9),(5,w9 i9)],[],[]⟩
def Uw:=sm [(107,QG)] [] 63 58 Ja
def Fk (x:jJ):=rv (x.a.get (Int.toNat x.i)) (x.b.get (Int.toNat x.i))
def mR (x:jJ):ax jJ:=(cond (decide (x.i < (x.a.n:Int))) (cond ((decide (0<=x.i))&&(decide (x.i < (x.a.n:Int)))) (cond ((decide (0<=x.i))&&(decide (x.i < (x.b.n:Int)))) (cond (Fk x).isSome (cond (!((Fk x).getD default)) (.out aq.ae.ret ⟨x.a,x.b,false,x.i⟩) (.next ⟨x.a,x.b,x.t4,(aV (x.i+1))⟩)) .fail) .fail) .fail) (.out (aq.ae.exit 0) x))
theorem QI (x:jJ):Uw (xT x) (xU x)=ax.enc xT xU (mR x):=by
 unfold mR
 try simp only [ax.aO]
 kernel_rfl
def Jb:Lp:=⟨63,58,Ja,fun vs rs=>bU xT xU (goN mR (HK vs rs)) [aq.ae.exit 0,aq.ae.ret],false⟩
theorem Ux:Jb.Ok PG:=kv (ah.cons QH ah.nil) aD.nil (pa:=HK) QI
def vt (a:(Sl cN)) (b:(Sl cN)):=goN mR ⟨a,b,false,0⟩
def qZ (a:(Sl cN)) (b:(Sl cN)):Option (Bool):=(cond ((a.n:Int) != (b.n:Int)) (some (false)) (cond ((vt a b).by (aq.ae.exit 0)) (some (true)) (cond ((vt a b).by aq.ae.ret) (some ((vt a b).st.t4)) none)))
theorem YJ (a:(Sl cN)) (b:(Sl cN)):lu [(107,QG)] [Jb] 63 [(dc 91 jN) a,(dc 91 jN) b] = (qZ a b).map kB:=by
 unfold qZ
 try simp only [aL]
 kernel_rfl
def Al:List KV->KR KV:=aZ PG 63 (bd kB fun vs=>qZ ((cT fj) (v9 vs 0)) ((cT fj) (v9 vs 1)))
theorem Ao:aY PG 63 Al:=b8 (ah.cons QH ah.nil) (fv Ux aD.nil) fun w=>YJ ((cT fj) (g0 30 (w 0))) ((cT fj) (g0 30 (w 1)))
structure oI where
 t4:Bool
 i:Int
 a:dm
 b:dm
instance:Inhabited oI:=⟨⟨default,default,default,default⟩⟩
def Ex (x:oI):List KV:=[.bool x.t4,.int .i64 x.i]
def Ey (x:oI):List (List KV):=[vE x.a,vE x.b]
def Ob (vs:List KV) (rs:List (List KV)):oI:=⟨cK (v9 vs 0),av (v9 vs 1),vF (r9 rs 0),vF (r9 rs 1)⟩
def QJ:aB:=⟨[(4,w9 b9),(5,w9 i9)],[(2,[n9 43,n9 185,n9 172],1),(3,[n9 43,n9 185,n9 172],1)],[(2,0,0),(3,1,0)]⟩
def aaE:=sm [(61,oC)] [] 64 58 QJ
def pN (x:oI):ax oI:=(cond (decide (x.i < (x.a.bN.n:Int))) (cond ((decide (0<=x.i))&&(decide (x.i < (x.a.bN.n:Int)))) (cond ((decide (0<=x.i))&&(decide (x.i < (x.b.bN.n:Int)))) (cond (!(((x.a.bN.get (Int.toNat x.i)).x==(x.b.bN.get (Int.toNat x.i)).x)&&(((x.a.bN.get (Int.toNat x.i)).y==(x.b.bN.get (Int.toNat x.i)).y)&&(((x.a.bN.get (Int.toNat x.i)).z==(x.b.bN.get (Int.toNat x.i)).z)&&true)))) (.out aq.ae.ret ⟨false,x.i,x.a,x.b⟩) (.next ⟨x.t4,(aV (x.i+1)),x.a,x.b⟩)) .fail) .fail) (.out (aq.ae.exit 0) x))
theorem WR (x:oI):aaE (Ex x) (Ey x)=ax.enc Ex Ey (pN x):=by
 unfold pN
 try simp only [ax.aO]
 kernel_rfl
def Ap:Lp:=⟨64,58,QJ,fun vs rs=>bU Ex Ey (goN pN (Ob vs rs)) [aq.ae.exit 0,aq.ae.ret],false⟩
theorem Ez:Ap.Ok PG:=kv (ah.cons nj ah.nil) aD.nil (pa:=Ob) WR
structure nC where
 t4:Bool
 i:Int
 a:dm
 b:dm
instance:Inhabited nC:=⟨⟨default,default,default,default⟩⟩
def Ca (x:nC):List KV:=[.bool x.t4,.int .i64 x.i]
def Cb (x:nC):List (List KV):=[vE x.a,vE x.b]
def LJ (vs:List KV) (rs:List (List KV)):nC:=⟨cK (v9 vs 0),av (v9 vs 1),vF (r9 rs 0),vF (r9 rs 1)⟩
def Oc:aB:=⟨[(4,w9 b9),(6,w9 i9)],[(2,[n9 43,n9 185,n9 172],1),(3,[n9 43,n9 185,n9 172],1)],[(2,0,0),(3,1,0)]⟩
def YK:=sm [(61,oC)] [Ap] 64 122 Oc
def oJ (x:nC):ax nC:=(cond (decide (x.i < (x.a.uV.n:Int))) (cond ((decide (0<=x.i))&&(decide (x.i < (x.a.uV.n:Int)))) (cond ((decide (0<=x.i))&&(decide (x.i < (x.b.uV.n:Int)))) (cond (!(((x.a.uV.get (Int.toNat x.i)).e0==(x.b.uV.get (Int.toNat x.i)).e0)&&(((x.a.uV.get (Int.toNat x.i)).e1==(x.b.uV.get (Int.toNat x.i)).e1)&&true))) (.out aq.ae.ret ⟨false,x.i,x.a,x.b⟩) (.next ⟨x.t4,(aV (x.i+1)),x.a,x.b⟩)) .fail) .fail) (.out (aq.ae.exit 2) x))
theorem Uy (x:nC):YK (Ca x) (Cb x)=ax.enc Ca Cb (oJ x):=by
 unfold oJ
 try simp only [ax.aO]
 kernel_rfl
def EB:Lp:=⟨64,122,Oc,fun vs rs=>bU Ca Cb (goN oJ (LJ vs rs)) [aq.ae.exit 2,aq.ae.ret],false⟩
theorem LK:EB.Ok PG:=kv (ah.cons nj ah.nil) (fv Ez aD.nil) (pa:=LJ) Uy
structure je where
 t4:Bool
 i:Int
 a:dm
 b:dm
instance:Inhabited je:=⟨⟨default,default,default,default⟩⟩
def Cc (x:je):List KV:=[.bool x.t4,.int .i64 x.i]
def Cd (x:je):List (List KV):=[vE x.a,vE x.b]
def LL (vs:List KV) (rs:List (List KV)):je:=⟨cK (v9 vs 0),av (v9 vs 1),vF (r9 rs 0),vF (r9 rs 1)⟩
def Od:aB:=⟨[(4,w9 b9),(7,w9 i9)],[(2,[n9 43,n9 185,n9 172],1),(3,[n9 43,n9 185,n9 172],1)],[(2,0,0),(3,1,0)]⟩
def YL:=sm [(61,oC)] [Ap,EB] 64 250 Od
def Aq (x:je):=mN (x.a.aG.get (Int.toNat x.i)).index (x.b.aG.get (Int.toNat x.i)).index
def gV (x:je):ax je:=(cond (decide (x.i < (x.a.aG.n:Int))) (cond ((decide (0<=x.i))&&(decide (x.i < (x.a.aG.n:Int)))) (cond ((decide (0<=x.i))&&(decide (x.i < (x.b.aG.n:Int)))) (cond ((x.a.aG.get (Int.toNat x.i)).kind != (x.b.aG.get (Int.toNat x.i)).kind) (.out aq.ae.ret ⟨false,x.i,x.a,x.b⟩) (cond ((decide (0<=x.i))&&(decide (x.i < (x.a.aG.n:Int)))) (cond ((decide (0<=x.i))&&(decide (x.i < (x.b.aG.n:Int)))) (cond (Aq x).isSome (cond (!((Aq x).getD default)) (.out aq.ae.ret ⟨false,x.i,x.a,x.b⟩) (.next ⟨x.t4,(aV (x.i+1)),x.a,x.b⟩)) .fail) .fail) .fail)) .fail) .fail) (.out (aq.ae.exit 4) x))
theorem Uz (x:je):YL (Cc x) (Cd x)=ax.enc Cc Cd (gV x):=by
 unfold gV
 try simp only [ax.aO]
 kernel_rfl
def Oe:Lp:=⟨64,250,Od,fun vs rs=>bU Cc Cd (goN gV (LL vs rs)) [aq.ae.exit 4,aq.ae.ret],false⟩
theorem YM:Oe.Ok PG:=kv (ah.cons nj ah.nil) (fv Ez (fv LK aD.nil)) (pa:=LL) Uz
def oh (a:dm) (b:dm):=goN pN ⟨false,0,a,b⟩
def kE (a:dm) (b:dm):=goN oJ ⟨(oh a b).st.t4,0,(oh a b).st.a,(oh a b).st.b⟩
def pZ (a:dm) (b:dm):=goN gV ⟨(kE a b).st.t4,0,(kE a b).st.a,(kE a b).st.b⟩
def rz (a:dm) (b:dm):Option (Bool):=(cond ((a.bN.n:Int) != (b.bN.n:Int)) (some (false)) (cond ((a.uV.n:Int) != (b.uV.n:Int)) (some (false)) (cond ((a.aG.n:Int) != (b.aG.n:Int)) (some (false)) (cond ((oh a b).by (aq.ae.exit 0)) (cond ((kE a b).by (aq.ae.exit 2)) (cond ((pZ a b).by (aq.ae.exit 4)) (some (true)) (cond ((pZ a b).by aq.ae.ret) (some ((pZ a b).st.t4)) none)) (cond ((kE a b).by aq.ae.ret) (some ((kE a b).st.t4)) none)) (cond ((oh a b).by aq.ae.ret) (some ((oh a b).st.t4)) none)))))
theorem aey (a:dm) (b:dm):lu [(61,oC)] [Ap,EB,Oe] 64 [xw a,xw b] = (rz a b).map kB:=by
 unfold rz
 try simp only [aL]
 kernel_rfl
def Jc:List KV->KR KV:=aZ PG 64 (bd kB fun vs=>rz (nW (v9 vs 0)) (nW (v9 vs 1)))
theorem HL:aY PG 64 Jc:=b8 (ah.cons nj ah.nil) (fv Ez (fv LK (fv YM aD.nil))) fun w=>aey (nW (g0 88 (w 0))) (nW (g0 88 (w 1)))
structure mS where
 t4:Bool
 i:Int
 a:aw
 b:aw
instance:Inhabited mS:=⟨⟨default,default,default,default⟩⟩
def ED (x:mS):List KV:=[.bool x.t4,.int .i64 x.i]
def EE (x:mS):List (List KV):=[iE x.a,iE x.b]
def Og (vs:List KV) (rs:List (List KV)):mS:=⟨cK (v9 vs 0),av (v9 vs 1),iH (r9 rs 0),iH (r9 rs 1)⟩
def QK:aB:=⟨[(4,w9 b9),(5,w9 i9)],[(2,[n9 111,n9 35,n9 77,n9 88,n9 91,i9,i9],1),(3,[n9 111,n9 35,n9 77,n9 88,n9 91,i9,i9],1)],[(2,0,0),(3,1,0)]⟩
def aaF:=sm [(64,Jc),(38,ss),(63,Al),(62,I9)] [] 23 58 QK
def LM (x:mS):=jd (x.a.nodes.get (Int.toNat x.i)) (x.b.nodes.get (Int.toNat x.i))
def pO (x:mS):ax mS:=(cond (decide (x.i < (x.a.nodes.n:Int))) (cond ((decide (0<=x.i))&&(decide (x.i < (x.a.nodes.n:Int)))) (cond ((decide (0<=x.i))&&(decide (x.i < (x.b.nodes.n:Int)))) (cond (LM x).isSome (cond (!((LM x).getD default)) (.out aq.ae.ret ⟨false,x.i,x.a,x.b⟩) (.next ⟨x.t4,(aV (x.i+1)),x.a,x.b⟩)) .fail) .fail) .fail) (.out (aq.ae.exit 0) x))
theorem WS (x:mS):aaF (ED x) (EE x)=ax.enc ED EE (pO x):=by
 unfold pO
 try simp only [ax.aO]
 kernel_rfl
def HM:Lp:=⟨23,58,QK,fun vs rs=>bU ED EE (goN pO (Og vs rs)) [aq.ae.exit 0,aq.ae.ret],false⟩
theorem Oh:HM.Ok PG:=kv (ah.cons HL (ah.cons rS (ah.cons Ao (ah.cons HJ ah.nil)))) aD.nil (pa:=Og) WS
structure lJ where
 t4:Bool
 i:Int
 a:aw
 b:aw
instance:Inhabited lJ:=⟨⟨default,default,default,default⟩⟩
def Ce (x:lJ):List KV:=[.bool x.t4,.int .i64 x.i]
def Cf (x:lJ):List (List KV):=[iE x.a,iE x.b]
def LN (vs:List KV) (rs:List (List KV)):lJ:=⟨cK (v9 vs 0),av (v9 vs 1),iH (r9 rs 0),iH (r9 rs 1)⟩
def Oi:aB:=⟨[(4,w9 b9),(6,w9 i9)],[(2,[n9 111,n9 35,n9 77,n9 88,n9 91,i9,i9],1),(3,[n9 111,n9 35,n9 77,n9 88,n9 91,i9,i9],1)],[(2,0,0),(3,1,0)]⟩
def YN:=sm [(64,Jc),(38,ss),(63,Al),(62,I9)] [HM] 23 122 Oi
def Jd (x:lJ):=rz (x.a.ay.get (Int.toNat x.i)) (x.b.ay.get (Int.toNat x.i))
def oK (x:lJ):ax lJ:=(cond (decide (x.i < (x.a.ay.n:Int))) (cond ((decide (0<=x.i))&&(decide (x.i < (x.a.ay.n:Int)))) (cond ((decide (0<=x.i))&&(decide (x.i < (x.b.ay.n:Int)))) (cond (Jd x).isSome (cond (!((Jd x).getD default)) (.out aq.ae.ret ⟨false,x.i,x.a,x.b⟩) (.next ⟨x.t4,(aV (x.i+1)),x.a,x.b⟩)) .fail) .fail) .fail) (.out (aq.ae.exit 2) x))
theorem UA (x:lJ):YN (Ce x) (Cf x)=ax.enc Ce Cf (oK x):=by
 unfold oK
 try simp only [ax.aO]
 kernel_rfl
def Oj:Lp:=⟨23,122,Oi,fun vs rs=>bU Ce Cf (goN oK (LN vs rs)) [aq.ae.exit 2,aq.ae.ret],false⟩
theorem YO:Oj.Ok PG:=kv (ah.cons HL (ah.cons rS (ah.cons Ao (ah.cons HJ ah.nil)))) (fv Oh aD.nil) (pa:=LN) UA
def Kb (a:aw) (b:aw):=yx a.graph b.graph
def Kc (a:aw) (b:aw):=qZ a.az b.az
def oi (a:aw) (b:aw):=goN pO ⟨false,0,a,b⟩
def p0 (a:aw) (b:aw):=goN oK ⟨(oi a b).st.t4,0,(oi a b).st.a,(oi a b).st.b⟩
def uz (a:aw) (b:aw):Option (Bool):=(cond (Kb a b).isSome (cond (!((Kb a b).getD default)) (some (false)) (cond ((a.nodes.n:Int) != (b.nodes.n:Int)) (some (false)) (cond ((a.ay.n:Int) != (b.ay.n:Int)) (some (false)) (cond (Kc a b).isSome (cond (!((Kc a b).getD default)) (some (false)) (cond (!((a.root.slot==b.root.slot)&&((a.root.gen==b.root.gen)&&true))) (some (false)) (cond ((oi a b).by (aq.ae.exit 0)) (cond ((p0 a b).by (aq.ae.exit 2)) (some (true)) (cond ((p0 a b).by aq.ae.ret) (some ((p0 a b).st.t4)) none)) (cond ((oi a b).by aq.ae.ret) (some ((oi a b).st.t4)) none)))) none)))) none)
theorem aez (a:aw) (b:aw):lu [(64,Jc),(38,ss),(63,Al),(62,I9)] [HM,Oj] 23 [iG a,iG b] = (uz a b).map kB:=by
 unfold uz
 try simp only [aL]
 kernel_rfl
def Z2:List KV->KR KV:=aZ PG 23 (bd kB fun vs=>uz (de (v9 vs 0)) (de (v9 vs 1)))
theorem adC:aY PG 23 Z2:=b8 (ah.cons HL (ah.cons rS (ah.cons Ao (ah.cons HJ ah.nil)))) (fv Oh (fv YO aD.nil)) fun w=>aez (de (g0 34 (w 0))) (de (g0 34 (w 1)))
def Dw (a:fo):Option (fo):=(cond (fC 16 0 a.aP.n) (some (⟨((⟨0,(fun i=>⟨0,false⟩)⟩:Sl _).join a.aP)⟩)) none)
theorem aeA (a:fo):lu [] [] 97 [mC a] = (Dw a).map mC:=by
 unfold Dw
 try simp only [aL,aku]
 kernel_rfl
def QL:List KV->KR KV:=aZ PG 97 (bd mC fun vs=>Dw (qh (v9 vs 0)))
theorem QM:aY PG 97 QL:=b8 ah.nil aD.nil fun w=>aeA (qh (g0 24 (w 0)))
structure oL where
 i:Int
 g:cA
 t2:cA
 out:cA
instance:Inhabited oL:=⟨⟨default,default,default,default⟩⟩
def EL (x:oL):List KV:=[.int .i64 x.i]
def EM (x:oL):List (List KV):=[wM x.g,wM x.t2,wM x.out]
def Ol (vs:List KV) (rs:List (List KV)):oL:=⟨av (v9 vs 0),wN (r9 rs 0),wN (r9 rs 1),wN (r9 rs 2)⟩
def QN:aB:=⟨[(4,w9 i9)],[(1,[n9 111,n9 35],1),(2,[n9 111,.aQ 35],1),(3,[n9 111,.aQ 35],1)],[(1,0,0),(2,1,0),(3,2,0)]⟩
def aaG:=sm [(97,QL)] [] 47 58 QN
def la (x:oL):ax oL:=(cond (decide (x.i < (x.g.kids.n:Int))) (cond ((decide (0<=x.i))&&(decide (x.i < (x.g.kids.n:Int)))) (cond (fC 16 0 (x.g.kids.get (Int.toNat x.i)).n) (cond ((aC x.out.kids.n x.out.kids.n)&&(fC 24 x.out.kids.n 1)) (cond (cond (aC (x.out.kids.n+1) (x.out.kids.n+1)) (aC x.t2.kids.n x.t2.kids.n) false) (.next ⟨(aV (x.i+1)),x.g,x.t2,⟨x.out.bu,(x.out.kids.push ((⟨0,(fun i=>⟨0,0⟩)⟩:Sl _).join (x.g.kids.get (Int.toNat x.i))))⟩⟩) .fail) .fail) .fail) .fail) (cond (cond (aC x.out.kids.n x.out.kids.n) (aC x.t2.kids.n x.t2.kids.n) false) (.out (aq.ae.exit 0) x) .fail))
theorem WT (x:oL):aaG (EL x) (EM x)=ax.enc EL EM (la x):=by
 unfold la
 try simp only [ax.aO,↓aaw]
 kernel_rfl
def QO:Lp:=⟨47,58,QN,fun vs rs=>bU EL EM (goN la (Ol vs rs)) [aq.ae.exit 0],false⟩
theorem aaH:QO.Ok PG:=kv (ah.cons QM ah.nil) aD.nil (pa:=Ol) WT
def CS (g:cA):=Dw g.bu
def CT (g:cA):=goN la ⟨0,g,⟨⟨⟨0,(fun i=>⟨0,false⟩)⟩⟩,⟨0,(fun i=>⟨0,(fun i=>⟨0,0⟩)⟩)⟩⟩,⟨((CS g).getD default),⟨0,(fun i=>⟨0,(fun i=>⟨0,0⟩)⟩)⟩⟩⟩
def yy (g:cA):Option (cA):=(cond (CS g).isSome (cond ((CT g).by (aq.ae.exit 0)) (some ((CT g).st.out)) none) none)
theorem aeB (g:cA):lu [(97,QL)] [QO] 47 [CF g] = (yy g).map CF:=by
 unfold yy
 try simp only [aL]
 kernel_rfl
def Dx:List KV->KR KV:=aZ PG 47 (bd CF fun vs=>yy (qi (v9 vs 0)))
theorem Ar:aY PG 47 Dx:=b8 (ah.cons QM ah.nil) (fv aaH aD.nil) fun w=>aeB (qi (g0 27 (w 0)))
def yz (n:Node):Option (Node):=(cond (fC 8 0 n.lO.n) (some (⟨n.kind,n.fG,n.s6,n.fH,((⟨0,(fun i=>0)⟩:Sl _).join n.lO),n.sq,n.bB⟩)) none)
theorem aeC (n:Node):lu [] [] 48 [uh n] = (yz n).map uh:=by
 unfold yz
 try simp only [aL,afu]
 kernel_rfl
def Dy:List KV->KR KV:=aZ PG 48 (bd uh fun vs=>yz (nV (v9 vs 0)))
theorem Au:aY PG 48 Dy:=b8 ah.nil aD.nil fun w=>aeC (nV (g0 77 (w 0)))
structure nD where
 i:Int
 m:dm
 t2:dm
 out:dm
instance:Inhabited nD:=⟨⟨default,default,default,default⟩⟩
def Cg (x:nD):List KV:=[.int .i64 x.i]
def Ch (x:nD):List (List KV):=[vE x.m,vE x.t2,vE x.out]
def LO (vs:List KV) (rs:List (List KV)):nD:=⟨av (v9 vs 0),vF (r9 rs 0),vF (r9 rs 1),vF (r9 rs 2)⟩
def Om:aB:=⟨[(4,w9 i9)],[(1,[n9 43,n9 185,n9 172],1),(2,[.aQ 43,.aQ 185,.aQ 172],1),(3,[.aQ 43,.aQ 185,.aQ 172],1)],[(1,0,0),(2,1,0),(3,2,0)]⟩
def YP:=sm [] [] 49 250 Om
def j9 (x:nD):ax nD:=(cond (decide (x.i < (x.m.aG.n:Int))) (cond ((decide (0<=x.i))&&(decide (x.i < (x.m.aG.n:Int)))) (cond ((decide (0<=x.i))&&(decide (x.i < (x.m.aG.n:Int)))) (cond (fC 8 0 (x.m.aG.get (Int.toNat x.i)).index.n) (cond ((aC x.out.aG.n x.out.aG.n)&&(fC 32 x.out.aG.n 1)) (cond (cond (cond (cond (cond (cond (aC (x.out.aG.n+1) (x.out.aG.n+1)) (aC x.out.uV.n x.out.uV.n) false) (aC x.out.bN.n x.out.bN.n) false) (aC x.t2.aG.n x.t2.aG.n) false) (aC x.t2.uV.n x.t2.uV.n) false) (aC x.t2.bN.n x.t2.bN.n) false) (.next ⟨(aV (x.i+1)),x.m,x.t2,⟨x.out.bN,x.out.uV,(x.out.aG.push ⟨(x.m.aG.get (Int.toNat x.i)).kind,((⟨0,(fun i=>0)⟩:Sl _).join (x.m.aG.get (Int.toNat x.i)).index)⟩)⟩⟩) .fail) .fail) .fail) .fail) .fail) (cond (cond (cond (cond (cond (cond (aC x.out.aG.n x.out.aG.n) (aC x.out.uV.n x.out.uV.n) false) (aC x.out.bN.n x.out.bN.n) false) (aC x.t2.aG.n x.t2.aG.n) false) (aC x.t2.uV.n x.t2.uV.n) false) (aC x.t2.bN.n x.t2.bN.n) false) (.out (aq.ae.exit 0) x) .fail))
theorem UB (x:nD):YP (Cg x) (Ch x)=ax.enc Cg Ch (j9 x):=by
 unfold j9
 try simp only [ax.aO,↓aiZ]
 kernel_rfl
def Oo:Lp:=⟨49,250,Om,fun vs rs=>bU Cg Ch (goN j9 (LO vs rs)) [aq.ae.exit 0],false⟩
theorem YQ:Oo.Ok PG:=kv ah.nil aD.nil (pa:=LO) UB
def wx (m:dm):=goN j9 ⟨0,m,⟨⟨0,(fun i=>⟨0,0,0⟩)⟩,⟨0,(fun i=>⟨0,0⟩)⟩,⟨0,(fun i=>⟨0,⟨0,(fun i=>0)⟩⟩)⟩⟩,⟨((⟨0,(fun i=>⟨0,0,0⟩)⟩:Sl _).join m.bN),((⟨0,(fun i=>⟨0,0⟩)⟩:Sl _).join m.uV),⟨0,(fun i=>⟨0,⟨0,(fun i=>0)⟩⟩)⟩⟩⟩
def yA (m:dm):Option (dm):=(cond (fC 24 0 m.bN.n) (cond (fC 16 0 m.uV.n) (cond (cond (cond (cond (cond (aC (0+m.uV.n) (0+m.uV.n)) (aC (0+m.bN.n) (0+m.bN.n)) false) true false) true false) true false) (cond ((wx m).by (aq.ae.exit 0)) (some ((wx m).st.out)) none) none) none) none)
theorem aeD (m:dm):lu [] [Oo] 49 [xw m] = (yA m).map xw:=by
 unfold yA
 try simp only [aL,wx,agC,amZ]
 kernel_rfl
def Dz:List KV->KR KV:=aZ PG 49 (bd xw fun vs=>yA (nW (v9 vs 0)))
theorem Av:aY PG 49 Dz:=b8 ah.nil (fv YQ aD.nil) fun w=>aeD (nW (g0 88 (w 0)))
def yC (t:cN):Option (cN):=(cond (fC 4 0 t.dt.n) (some (⟨t.w,t.h,((⟨0,(fun i=>⟨0,0,0,0⟩)⟩:Sl _).join t.dt)⟩)) none)
theorem aeE (t:cN):lu [] [] 50 [jN t] = (yC t).map jN:=by
 unfold yC
 try simp only [aL,aiH]
 kernel_rfl
def DA:List KV->KR KV:=aZ PG 50 (bd jN fun vs=>yC (fj (v9 vs 0)))
theorem Aw:aY PG 50 DA:=b8 ah.nil aD.nil fun w=>aeE (fj (g0 91 (w 0)))
structure mT where
 i:Int
 s:aw
 t2:aw
 out:aw
instance:Inhabited mT:=⟨⟨default,default,default,default⟩⟩
def EO (x:mT):List KV:=[.int .i64 x.i]
def ER (x:mT):List (List KV):=[iE x.s,iE x.t2,iE x.out]
def Oq (vs:List KV) (rs:List (List KV)):mT:=⟨av (v9 vs 0),iH (r9 rs 0),iH (r9 rs 1),iH (r9 rs 2)⟩
def QP:aB:=⟨[(4,w9 i9)],[(1,[n9 111,n9 35,n9 77,n9 88,n9 91,i9,i9],1),(2,[n9 111,n9 35,.aQ 77,.aQ 88,.aQ 91,i9,i9],1),(3,[n9 111,n9 35,.aQ 77,.aQ 88,.aQ 91,i9,i9],1)],[(1,0,0),(2,1,0),(3,2,0)]⟩
def aaI:=sm [(50,DA),(49,Dz),(48,Dy),(47,Dx)] [] 15 58 QP
def Ci (x:mT):=yz (x.s.nodes.get (Int.toNat x.i))
def lh (x:mT):ax mT:=(cond (decide (x.i < (x.s.nodes.n:Int))) (cond ((decide (0<=x.i))&&(decide (x.i < (x.s.nodes.n:Int)))) (cond (Ci x).isSome (cond ((aC x.out.nodes.n x.out.nodes.n)&&(fC 224 x.out.nodes.n 1)) (cond (cond (cond (cond (cond (cond (aC x.out.az.n x.out.az.n) (aC x.out.ay.n x.out.ay.n) false) (aC (x.out.nodes.n+1) (x.out.nodes.n+1)) false) (aC x.t2.az.n x.t2.az.n) false) (aC x.t2.ay.n x.t2.ay.n) false) (aC x.t2.nodes.n x.t2.nodes.n) false) (.next ⟨(aV (x.i+1)),x.s,x.t2,⟨x.out.graph,(x.out.nodes.push ((Ci x).getD default)),x.out.ay,x.out.az,x.out.root⟩⟩) .fail) .fail) .fail) .fail) (cond (cond (cond (cond (cond (cond (aC x.out.az.n x.out.az.n) (aC x.out.ay.n x.out.ay.n) false) (aC x.out.nodes.n x.out.nodes.n) false) (aC x.t2.az.n x.t2.az.n) false) (aC x.t2.ay.n x.t2.ay.n) false) (aC x.t2.nodes.n x.t2.nodes.n) false) (.out (aq.ae.exit 0) x) .fail))
theorem WU (x:mT):aaI (EO x) (ER x)=ax.enc EO ER (lh x):=by
 unfold lh
 try simp only [ax.aO,ai0]
 kernel_rfl
def Ax:Lp:=⟨15,58,QP,fun vs rs=>bU EO ER (goN lh (Oq vs rs)) [aq.ae.exit 0],false⟩
theorem ET:Ax.Ok PG:=kv (ah.cons Aw (ah.cons Av (ah.cons Au (ah.cons Ar ah.nil)))) aD.nil (pa:=Oq) WU
structure lK where
 i:Int
 s:aw
 t2:aw
 out:aw
instance:Inhabited lK:=⟨⟨default,default,default,default⟩⟩
def Cj (x:lK):List KV:=[.int .i64 x.i]
def Ck (x:lK):List (List KV):=[iE x.s,iE x.t2,iE x.out]
def LQ (vs:List KV) (rs:List (List KV)):lK:=⟨av (v9 vs 0),iH (r9 rs 0),iH (r9 rs 1),iH (r9 rs 2)⟩
def Ot:aB:=⟨[(5,w9 i9)],[(1,[n9 111,n9 35,n9 77,n9 88,n9 91,i9,i9],1),(2,[n9 111,n9 35,.aQ 77,.aQ 88,.aQ 91,i9,i9],1),(3,[n9 111,n9 35,.aQ 77,.aQ 88,.aQ 91,i9,i9],1)],[(1,0,0),(2,1,0),(3,2,0)]⟩
def YR:=sm [(50,DA),(49,Dz),(48,Dy),(47,Dx)] [Ax] 15 122 Ot
def Ay (x:lK):=yA (x.s.ay.get (Int.toNat x.i))
def kb (x:lK):ax lK:=(cond (decide (x.i < (x.s.ay.n:Int))) (cond ((decide (0<=x.i))&&(decide (x.i < (x.s.ay.n:Int)))) (cond (Ay x).isSome (cond ((aC x.out.ay.n x.out.ay.n)&&(fC 72 x.out.ay.n 1)) (cond (cond (cond (cond (cond (cond (aC x.out.az.n x.out.az.n) (aC (x.out.ay.n+1) (x.out.ay.n+1)) false) (aC x.out.nodes.n x.out.nodes.n) false) (aC x.t2.az.n x.t2.az.n) false) (aC x.t2.ay.n x.t2.ay.n) false) (aC x.t2.nodes.n x.t2.nodes.n) false) (.next ⟨(aV (x.i+1)),x.s,x.t2,⟨x.out.graph,x.out.nodes,(x.out.ay.push ((Ay x).getD default)),x.out.az,x.out.root⟩⟩) .fail) .fail) .fail) .fail) (cond (cond (cond (cond (cond (cond (aC x.out.az.n x.out.az.n) (aC x.out.ay.n x.out.ay.n) false) (aC x.out.nodes.n x.out.nodes.n) false) (aC x.t2.az.n x.t2.az.n) false) (aC x.t2.ay.n x.t2.ay.n) false) (aC x.t2.nodes.n x.t2.nodes.n) false) (.out (aq.ae.exit 2) x) .fail))
theorem UC (x:lK):YR (Cj x) (Ck x)=ax.enc Cj Ck (kb x):=by
 unfold kb
 try simp only [ax.aO,ai1]
 kernel_rfl
def EU:Lp:=⟨15,122,Ot,fun vs rs=>bU Cj Ck (goN kb (LQ vs rs)) [aq.ae.exit 2],false⟩
theorem LR:EU.Ok PG:=kv (ah.cons Aw (ah.cons Av (ah.cons Au (ah.cons Ar ah.nil)))) (fv ET aD.nil) (pa:=LQ) UC
structure lL where
 i:Int
 s:aw
 t2:aw
 out:aw
instance:Inhabited lL:=⟨⟨default,default,default,default⟩⟩
def Cl (x:lL):List KV:=[.int .i64 x.i]
def Cm (x:lL):List (List KV):=[iE x.s,iE x.t2,iE x.out]
def LS (vs:List KV) (rs:List (List KV)):lL:=⟨av (v9 vs 0),iH (r9 rs 0),iH (r9 rs 1),iH (r9 rs 2)⟩
def Ou:aB:=⟨[(6,w9 i9)],[(1,[n9 111,n9 35,n9 77,n9 88,n9 91,i9,i9],1),(2,[n9 111,n9 35,.aQ 77,.aQ 88,.aQ 91,i9,i9],1),(3,[n9 111,n9 35,.aQ 77,.aQ 88,.aQ 91,i9,i9],1)],[(1,0,0),(2,1,0),(3,2,0)]⟩
def YS:=sm [(50,DA),(49,Dz),(48,Dy),(47,Dx)] [Ax,EU] 15 250 Ou
def Az (x:lL):=yC (x.s.az.get (Int.toNat x.i))
def kd (x:lL):ax lL:=(cond (decide (x.i < (x.s.az.n:Int))) (cond ((decide (0<=x.i))&&(decide (x.i < (x.s.az.n:Int)))) (cond (Az x).isSome (cond ((aC x.out.az.n x.out.az.n)&&(fC 40 x.out.az.n 1)) (cond (cond (cond (cond (cond (cond (aC (x.out.az.n+1) (x.out.az.n+1)) (aC x.out.ay.n x.out.ay.n) false) (aC x.out.nodes.n x.out.nodes.n) false) (aC x.t2.az.n x.t2.az.n) false) (aC x.t2.ay.n x.t2.ay.n) false) (aC x.t2.nodes.n x.t2.nodes.n) false) (.next ⟨(aV (x.i+1)),x.s,x.t2,⟨x.out.graph,x.out.nodes,x.out.ay,(x.out.az.push ((Az x).getD default)),x.out.root⟩⟩) .fail) .fail) .fail) .fail) (cond (cond (cond (cond (cond (cond (aC x.out.az.n x.out.az.n) (aC x.out.ay.n x.out.ay.n) false) (aC x.out.nodes.n x.out.nodes.n) false) (aC x.t2.az.n x.t2.az.n) false) (aC x.t2.ay.n x.t2.ay.n) false) (aC x.t2.nodes.n x.t2.nodes.n) false) (.out (aq.ae.exit 4) x) .fail))
theorem UD (x:lL):YS (Cl x) (Cm x)=ax.enc Cl Cm (kd x):=by
 unfold kd
 try simp only [ax.aO,aee]
 kernel_rfl
def Ov:Lp:=⟨15,250,Ou,fun vs rs=>bU Cl Cm (goN kd (LS vs rs)) [aq.ae.exit 4],false⟩
theorem YT:Ov.Ok PG:=kv (ah.cons Aw (ah.cons Av (ah.cons Au (ah.cons Ar ah.nil)))) (fv ET (fv LR aD.nil)) (pa:=LS) UD
def Kd (s:aw):=yy s.graph
def eC (s:aw):=goN lh ⟨0,s,⟨⟨⟨⟨0,(fun i=>⟨0,false⟩)⟩⟩,⟨0,(fun i=>⟨0,(fun i=>⟨0,0⟩)⟩)⟩⟩,⟨0,(fun i=>⟨0,⟨⟨⟨0,0,0⟩,⟨0,0,0⟩,⟨0,0,0⟩⟩,⟨0,0,0⟩⟩,0,⟨0,0,0⟩,⟨0,(fun i=>0)⟩,0,⟨⟨0,0,0,0,0⟩,⟨⟨0,0,0,0⟩,0,0,0,false,0⟩⟩⟩)⟩,⟨0,(fun i=>⟨⟨0,(fun i=>⟨0,0,0⟩)⟩,⟨0,(fun i=>⟨0,0⟩)⟩,⟨0,(fun i=>⟨0,⟨0,(fun i=>0)⟩⟩)⟩⟩)⟩,⟨0,(fun i=>⟨0,0,⟨0,(fun i=>⟨0,0,0,0⟩)⟩⟩)⟩,⟨0,0⟩⟩,⟨((Kd s).getD default),⟨0,(fun i=>⟨0,⟨⟨⟨0,0,0⟩,⟨0,0,0⟩,⟨0,0,0⟩⟩,⟨0,0,0⟩⟩,0,⟨0,0,0⟩,⟨0,(fun i=>0)⟩,0,⟨⟨0,0,0,0,0⟩,⟨⟨0,0,0,0⟩,0,0,0,false,0⟩⟩⟩)⟩,⟨0,(fun i=>⟨⟨0,(fun i=>⟨0,0,0⟩)⟩,⟨0,(fun i=>⟨0,0⟩)⟩,⟨0,(fun i=>⟨0,⟨0,(fun i=>0)⟩⟩)⟩⟩)⟩,⟨0,(fun i=>⟨0,0,⟨0,(fun i=>⟨0,0,0,0⟩)⟩⟩)⟩,s.root⟩⟩
def eD (s:aw):=goN kb ⟨0,(eC s).st.s,(eC s).st.t2,(eC s).st.out⟩
def CU (s:aw):=goN kd ⟨0,(eD s).st.s,(eD s).st.t2,(eD s).st.out⟩
def yD (s:aw):Option (aw):=(cond (Kd s).isSome (cond ((eC s).by (aq.ae.exit 0)) (cond (cond (cond (cond (cond (cond (aC (eC s).st.out.az.n (eC s).st.out.az.n) (aC (eC s).st.out.ay.n (eC s).st.out.ay.n) false) (aC (eC s).st.out.nodes.n (eC s).st.out.nodes.n) false) (aC (eC s).st.t2.az.n (eC s).st.t2.az.n) false) (aC (eC s).st.t2.ay.n (eC s).st.t2.ay.n) false) (aC (eC s).st.t2.nodes.n (eC s).st.t2.nodes.n) false) (cond ((eD s).by (aq.ae.exit 2)) (cond (cond (cond (cond (cond (cond (aC (eD s).st.out.az.n (eD s).st.out.az.n) (aC (eD s).st.out.ay.n (eD s).st.out.ay.n) false) (aC (eD s).st.out.nodes.n (eD s).st.out.nodes.n) false) (aC (eD s).st.t2.az.n (eD s).st.t2.az.n) false) (aC (eD s).st.t2.ay.n (eD s).st.t2.ay.n) false) (aC (eD s).st.t2.nodes.n (eD s).st.t2.nodes.n) false) (cond ((CU s).by (aq.ae.exit 4)) (some ((CU s).st.out)) none) none) none) none) none) none)
theorem aeF (s:aw):lu [(50,DA),(49,Dz),(48,Dy),(47,Dx)] [Ax,EU,Ov] 15 [iG s] = (yD s).map iG:=by
 unfold yD
 try simp only [aL]
 kernel_rfl
def Z3:List KV->KR KV:=aZ PG 15 (bd iG fun vs=>yD (de (v9 vs 0)))
theorem adD:aY PG 15 Z3:=b8 (ah.cons Aw (ah.cons Av (ah.cons Au (ah.cons Ar ah.nil)))) (fv ET (fv LR (fv YT aD.nil))) fun w=>aeF (de (g0 34 (w 0)))
def w4 (s:aw) (kids:(Sl Int)):=rT s
def EV (s:aw) (kids:(Sl Int)):=uw s
def w5 (s:aw) (kids:(Sl Int)):=xO s kids
def sP (s:aw) (kids:(Sl Int)):Option (Path×Int):=(cond (w4 s kids).isSome (cond (((w4 s kids).getD default) != 0) (some (⟨⟨0,(fun i=>⟨0,0⟩)⟩,⟨0,(fun i=>0)⟩⟩,((w4 s kids).getD default))) (cond (EV s kids).isSome (cond ((EV s kids).getD default) (some (⟨⟨0,(fun i=>⟨0,0⟩)⟩,⟨0,(fun i=>0)⟩⟩,6)) (cond (w5 s kids).isSome (cond (!((w5 s kids).getD default).snd) (some (⟨⟨0,(fun i=>⟨0,0⟩)⟩,⟨0,(fun i=>0)⟩⟩,2)) (some (((w5 s kids).getD default).fst,0))) none)) none)) none)
theorem aaJ (s:aw) (kids:(Sl Int)):lu [(53,Um),(52,Qm),(26,Nl)] [] 17 [iG s,(dc 3 (kI .i64)) kids] = (sP s kids).map (fun (r:Path×Int)=>KV.jV [qX r.1,(kI .i64) r.2]):=by
 unfold sP
 try simp only [aL]
 kernel_rfl
def SW:List KV->KR KV:=aZ PG 17 (bd (fun (r:Path×Int)=>KV.jV [qX r.1,(kI .i64) r.2]) fun vs=>sP (de (v9 vs 0)) ((cT av) (v9 vs 1)))
theorem YU:aY PG 17 SW:=b8 (ah.cons SQ (ah.cons Qn (ah.cons NT ah.nil))) aD.nil fun w=>aaJ (de (g0 34 (w 0))) ((cT av) (g0 36 (w 1)))
structure mv where
 t4:(Sl bR)
 out:(Sl bR)
 i:Int
 s:aw
 p:Path
instance:Inhabited mv:=⟨⟨default,default,default,default,default⟩⟩
def AA (x:mv):List KV:=[dc 75 qk x.t4,dc 75 qk x.out,.int .i64 x.i]
def AB (x:mv):List (List KV):=[iE x.s,Qf x.p]
def Je (vs:List KV) (rs:List (List KV)):mv:=⟨cT nh (v9 vs 0),cT nh (v9 vs 1),av (v9 vs 2),iH (r9 rs 0),Qg (r9 rs 1)⟩
def LU:aB:=⟨[(4,w9 (n9 75)),(5,⟨false,[.aQ 75]⟩),(6,w9 i9)],[(2,[n9 111,n9 35,n9 77,n9 88,n9 91,i9,i9],1),(3,[n9 32,n9 3],1)],[(2,0,0),(3,1,0)]⟩
def WV:=sm [] [] 58 58 LU
def jE (x:mv):ax mv:=(cond (decide (x.i < (x.p.nodes.n:Int))) (cond ((decide (0<=x.i))&&(decide (x.i < (x.p.nodes.n:Int)))) (cond ((decide (0<=(x.p.nodes.get (Int.toNat x.i)).slot))&&(decide ((x.p.nodes.get (Int.toNat x.i)).slot < (x.s.nodes.n:Int)))) (cond ((aC x.out.n x.out.n)&&(fC 56 x.out.n 1)) (cond (aC (x.out.n+1) (x.out.n+1)) (.next ⟨x.t4,(x.out.push (x.s.nodes.get (Int.toNat (x.p.nodes.get (Int.toNat x.i)).slot)).bB),(aV (x.i+1)),x.s,x.p⟩) .fail) .fail) .fail) .fail) (cond (aC x.out.n x.out.n) (.out (aq.ae.exit 0) x) .fail))
theorem R0 (x:mv):WV (AA x) (AB x)=ax.enc AA AB (jE x):=by
 unfold jE
 try simp only [ax.aO,ZT]
 kernel_rfl
def LV:Lp:=⟨58,58,LU,fun vs rs=>bU AA AB (goN jE (Je vs rs)) [aq.ae.exit 0],false⟩
theorem WW:LV.Ok PG:=kv ah.nil aD.nil (pa:=Je) R0
def EW (s:aw) (p:Path):=goN jE ⟨⟨0,(fun i=>⟨⟨0,0,0,0,0⟩,⟨⟨0,0,0,0⟩,0,0,0,false,0⟩⟩)⟩,⟨0,(fun i=>⟨⟨0,0,0,0,0⟩,⟨⟨0,0,0,0⟩,0,0,0,false,0⟩⟩)⟩,0,s,p⟩
def wy (s:aw) (p:Path):Option ((Sl bR)):=(cond ((EW s p).by (aq.ae.exit 0)) (some ((EW s p).st.out)) none)
theorem aaK (s:aw) (p:Path):lu [] [LV] 58 [iG s,qX p] = (wy s p).map (dc 75 qk):=by
 unfold wy
 try simp only [aL]
 kernel_rfl
def SX:List KV->KR KV:=aZ PG 58 (bd (dc 75 qk) fun vs=>wy (de (v9 vs 0)) (pX (v9 vs 1)))
theorem YV:aY PG 58 SX:=b8 ah.nil (fv WW aD.nil) fun w=>aaK (de (g0 34 (w 0))) (pX (g0 38 (w 1)))
def FZ  : Option (cf):=(some ((⟨(⟨(⟨(255:Int),(255:Int),(255:Int),(255:Int)⟩:Color),(-(1:Int)),(0:Int),(0:Int),false,(0:Int)⟩:gY),(⟨false,false,false,false,false⟩:Wd)⟩:cf)))
theorem adE  : lu [] [] 102 [] = (FZ ).map sJ:=by
 unfold FZ
 kernel_rfl
def NA:List KV->KR KV:=aZ PG 102 (bd sJ fun vs=>FZ )
theorem Ow:aY PG 102 NA:=b8 ah.nil aD.nil fun w=>adE
structure jq where
 l:(Sl bR)
 t3:Int
 k:Int
 t2:gY
 i:cf
instance:Inhabited jq:=⟨⟨default,default,default,default,default⟩⟩
def AD (x:jq):List KV:=[dc 75 qk x.l,.int .i64 x.t3,.int .i64 x.k]
def AE (x:jq):List (List KV):=[ac0 x.t2,BH x.i]
def Jf (vs:List KV) (rs:List (List KV)):jq:=⟨cT nh (v9 vs 0),av (v9 vs 1),av (v9 vs 2),ac1 (r9 rs 0),BI (r9 rs 1)⟩
def LW:aB:=⟨[(0,w9 (n9 75)),(3,w9 i9),(5,w9 i9)],[(2,[u9,u9,u9,u9,i9,u9,i9,b9,i9],1),(4,[u9,u9,u9,u9,i9,u9,i9,b9,i9,b9,b9,b9,b9,b9],1)],[(2,0,0),(4,1,0)]⟩
def WX:=sm [(104,PV),(103,M9),(102,NA)] [] 57 122 LW
def xV (x:jq):=xB (x.l.get (Int.toNat x.k))
def xW (x:jq):=ym x.i (x.l.get (Int.toNat x.k))
def jF (x:jq):ax jq:=(cond (decide (x.k < (x.l.n:Int))) (cond ((decide (0<=x.k))&&(decide (x.k < (x.l.n:Int)))) (cond (xV x).isSome (cond (!((xV x).getD default)) (.out aq.ae.ret ⟨x.l,8,x.k,⟨⟨0,0,0,0⟩,0,0,0,false,0⟩,x.i⟩) (cond ((decide (0<=x.k))&&(decide (x.k < (x.l.n:Int)))) (cond (xW x).isSome (.next ⟨x.l,x.t3,(aV (x.k+1)),x.t2,((xW x).getD default)⟩) .fail) .fail)) .fail) .fail) (.out (aq.ae.exit 0) x))
theorem R1 (x:jq):WX (AD x) (AE x)=ax.enc AD AE (jF x):=by
 unfold jF
 try simp only [ax.aO]
 kernel_rfl
def LX:Lp:=⟨57,122,LW,fun vs rs=>bU AD AE (goN jF (Jf vs rs)) [aq.ae.exit 0,aq.ae.ret],false⟩
theorem WY:LX.Ok PG:=kv (ah.cons PW (ah.cons JO (ah.cons Ow ah.nil))) aD.nil (pa:=Jf) R1
def HN (l:(Sl bR)):=FZ
def lj (l:(Sl bR)):=goN jF ⟨l,0,0,⟨⟨0,0,0,0⟩,0,0,0,false,0⟩,((HN l).getD default)⟩
def vu (l:(Sl bR)):Option (gY×Int):=(cond (decide ((l.n:Int) > 128)) (some (⟨⟨0,0,0,0⟩,0,0,0,false,0⟩,4)) (cond (HN l).isSome (cond ((lj l).by (aq.ae.exit 0)) (some ((lj l).st.i.look,0)) (cond ((lj l).by aq.ae.ret) (some ((lj l).st.t2,(lj l).st.t3)) none)) none))
theorem adF (l:(Sl bR)):lu [(104,PV),(103,M9),(102,NA)] [LX] 57 [(dc 75 qk) l] = (vu l).map (fun (r:gY×Int)=>KV.jV [JN r.1,(kI .i64) r.2]):=by
 unfold vu
 try simp only [aL]
 kernel_rfl
def WZ:List KV->KR KV:=aZ PG 57 (bd (fun (r:gY×Int)=>KV.jV [JN r.1,(kI .i64) r.2]) fun vs=>vu ((cT nh) (v9 vs 0)))
theorem aaL:aY PG 57 WZ:=b8 (ah.cons PW (ah.cons JO (ah.cons Ow ah.nil))) (fv WY aD.nil) fun w=>adF ((cT nh) (g0 130 (w 0)))
def CV (s:aw) (p:Path):=r8 s p
def CW (s:aw) (p:Path):=wy s p
def wz (s:aw) (p:Path):=vu ((CW s p).getD default)
def yE (s:aw) (p:Path):Option (gY×Int):=(cond (CV s p).isSome (cond (((CV s p).getD default) != 0) (some (⟨⟨0,0,0,0⟩,0,0,0,false,0⟩,((CV s p).getD default))) (cond (CW s p).isSome (cond (wz s p).isSome (some (((wz s p).getD default).fst,((wz s p).getD default).snd)) none) none)) none)
theorem aeG (s:aw) (p:Path):lu [(57,WZ),(58,SX),(56,Nx)] [] 19 [iG s,qX p] = (yE s p).map (fun (r:gY×Int)=>KV.jV [JN r.1,(kI .i64) r.2]):=by
 unfold yE
 try simp only [aL]
 kernel_rfl
def Z4:List KV->KR KV:=aZ PG 19 (bd (fun (r:gY×Int)=>KV.jV [JN r.1,(kI .i64) r.2]) fun vs=>yE (de (v9 vs 0)) (pX (v9 vs 1)))
theorem adG:aY PG 19 Z4:=b8 (ah.cons aaL (ah.cons YV (ah.cons N5 ah.nil))) aD.nil fun w=>aeG (de (g0 34 (w 0))) (pX (g0 38 (w 1)))
def Cn:List (Nat×(List KV->KR KV)):=[(23,Z2),(22,N7),(21,afy),(20,Z1),(19,Z4),(18,SV),(17,SW),(16,N6),(15,Z3),(12,Wb)]
def Cp:List Lp:=[]
theorem UE:ah PG Cn:=(ah.cons adC (ah.cons Uv (ah.cons agR (ah.cons adx (ah.cons adG (ah.cons YI (ah.cons YU (ah.cons Ur (ah.cons adD (ah.cons aai ah.nil))))))))))
theorem UF:aD PG Cp:=aD.nil
def AG (s:aw) (p:Path) (kids:(Sl Int)):=u5 s
def ns (s:aw) (p:Path) (kids:(Sl Int)):=yD s
def pP (s:aw) (p:Path) (kids:(Sl Int)):=pb ((ns s p kids).getD default) kids
def tE (s:aw) (p:Path) (kids:(Sl Int)):=sP s kids
def eA (s:aw) (p:Path) (kids:(Sl Int)):=sN ((ns s p kids).getD default) p
def fc (s:aw) (p:Path) (kids:(Sl Int)):=yE s p
def pQ (s:aw) (p:Path) (kids:(Sl Int)):=yv ((ns s p kids).getD default) p
def tF (s:aw) (p:Path) (kids:(Sl Int)):=Ge s p
def tG (s:aw) (p:Path) (kids:(Sl Int)):=pe ((pP s p kids).getD default).fst ((tE s p kids).getD default).fst
def tH (s:aw) (p:Path) (kids:(Sl Int)):=uz ((ns s p kids).getD default) s
def w6 (s:aw) (p:Path) (kids:(Sl Int)):Option (Bool):=(cond (AG s p kids).isSome (cond ((AG s p kids).getD default) (some (true)) (cond (decide ((p.nodes.n:Int) > 400)) (some (true)) (cond (decide ((p.kids.n:Int) > 400)) (some (true)) (cond (decide ((kids.n:Int) > 400)) (some (true)) (cond (ns s p kids).isSome (cond (pP s p kids).isSome (cond (tE s p kids).isSome (cond (eA s p kids).isSome (cond (fc s p kids).isSome (cond (pQ s p kids).isSome (cond (tF s p kids).isSome (cond (tG s p kids).isSome (cond ((tG s p kids).getD default) (cond (((pP s p kids).getD default).snd==((tE s p kids).getD default).snd) (cond ((((eA s p kids).getD default).fst.color.e0==((fc s p kids).getD default).fst.color.e0)&&((((eA s p kids).getD default).fst.color.e1==((fc s p kids).getD default).fst.color.e1)&&((((eA s p kids).getD default).fst.color.e2==((fc s p kids).getD default).fst.color.e2)&&((((eA s p kids).getD default).fst.color.e3==((fc s p kids).getD default).fst.color.e3)&&((((eA s p kids).getD default).fst.ca==((fc s p kids).getD default).fst.ca)&&((((eA s p kids).getD default).fst.gW==((fc s p kids).getD default).fst.gW)&&((((eA s p kids).getD default).fst.gq==((fc s p kids).getD default).fst.gq)&&((((eA s p kids).getD default).fst.eH==((fc s p kids).getD default).fst.eH)&&((((eA s p kids).getD default).fst.bin==((fc s p kids).getD default).fst.bin)&&true))))))))) (cond (((eA s p kids).getD default).snd==((fc s p kids).getD default).snd) (cond (((pQ s p kids).getD default).fst==((tF s p kids).getD default).fst) (cond (((pQ s p kids).getD default).snd==((tF s p kids).getD default).snd) (cond (tH s p kids).isSome (some (((tH s p kids).getD default))) none) (some (false))) (some (false))) (some (false))) (some (false))) (some (false))) (some (false))) none) none) none) none) none) none) none) none))))) none)
theorem W0 (s:aw) (p:Path) (kids:(Sl Int)):xh PG (mn PG Cn Cp) 9 9 4 [iG s,qX p,(dc 3 (kI .i64)) kids] = (w6 s p kids).map kB:=by
 unfold w6
 try simp only [aL]
 kernel_rfl
theorem UG (w:Nat->KV):rO PG [34,38,36] w 0 = [iG (de (g0 34 (w 0))),qX (pX (g0 38 (w 1))),(dc 3 (kI .i64)) ((cT av) (g0 36 (w 2)))]:=by kernel_rfl
end
end Go.Proofs.YtckbdndhmcoihaaGreat.b
end
section
namespace Go.K
open Go Go.aq
theorem ax.go_rule {X:Type} {step:X->ax X} {I:Nat->X->Prop} {Q:ae->X->Prop} {n:Nat}
  (h:∀ j x,j<=n->I j x->(∃ x',step x = .next x'/\j < n/\I (j+1) x')\/∃ e x',step x = .out e x'/\ku e=false/\Q e x') :
  ∀ (r j:Nat) (x:X),j+r=n->I j x->∀ N,r < N->∃ e x',ax.go step N x = .out e x'/\Q e x'
 | r,j,x,hj,hI,0,hN=>by omega
 | r,j,x,hj,hI,N+1,hN=>by
  rcases h j x (by omega) hI with ⟨x',h1,h2,h3⟩ | ⟨e,x',h1,h2,h3⟩
  ·obtain ⟨r',rfl⟩:∃ r',r=r' + 1:=⟨r - 1,by omega⟩
   obtain ⟨e,y,h4,h5⟩:=ax.go_rule h r' (j+1) x' (by omega) h3 N (by omega);exact ⟨e,y,by simp only [ax.go,h1,h4],h5⟩
  ·exact ⟨e,x',by simp only [ax.go,h1,h2,aF],h3⟩
theorem eW {X:Type} {step:X->ax X} (I:Nat->X->Prop) (Q:ae->X->Prop) (n:Nat) (hn:n < dZ)
  (h:∀ j x,j<=n->I j x->(∃ x',step x = .next x'/\j < n/\I (j+1) x')\/∃ e x',step x = .out e x'/\ku e=false/\Q e x') {x:X} (h0:I 0 x) :
  ∃ e x',goN step x = .out e x'/\Q e x':=ax.go_rule h n 0 x (by omega) h0 dZ hn
theorem eJ {X:Type} {step:X->ax X} (n:Nat) (hn:n < dZ) (st:Nat->X) (C:Nat->Prop) {e0 er:ae} (h0:ku e0=false) (hr:ku er=false) (R:X->Prop) {xe:X}
  (uA:∀ j,j < n->(C j->step (st j) = .next (st (j+1)))/\(¬ C j->∃ x',step (st j) = .out er x'/\R x')) (ae5:step (st n) = .out e0 xe) :
  (goN step (st 0) = .out e0 xe/\∀ j,j < n->C j)\/∃ x',goN step (st 0) = .out er x'/\R x'/\∃ j,j < n/\¬ C j:=by
 obtain ⟨e,x',h1,h2⟩:=eW (step:=step) (fun j x=>x=st j/\∀ i,i < j->C i) (fun e x'=>(e=e0/\x' = xe/\∀ j,j < n->C j)\/(e=er/\R x'/\∃ j,j < n/\¬ C j)) n hn (fun j x hj ⟨hx,cQ⟩=>by
  subst hx;by_cases bh:j < n
  ·obtain ⟨q1,q2⟩:=uA j bh
   by_cases hc:C j
   ·exact .inl ⟨_,q1 hc,bh,rfl,fun i hi=>by
     by_cases e:i=j
     ·subst e; exact hc
     ·exact cQ i (by omega)⟩
   ·obtain ⟨x',h3,h4⟩:=q2 hc
    exact .inr ⟨_,_,h3,hr,.inr ⟨rfl,h4,j,bh,hc⟩⟩
  ·have:j=n:=by omega
   subst this;exact .inr ⟨_,_,ae5,h0,.inl ⟨rfl,rfl,cQ⟩⟩) (x:=st 0) ⟨rfl,fun i hi=>absurd hi (kA _)⟩
 rcases h2 with ⟨rfl,rfl,h2⟩ | ⟨rfl,h2,h3⟩
 ·exact .inl ⟨h1,h2⟩
 ·exact .inr ⟨x',h1,h2,h3⟩
theorem ax.iM {X:Type} (e:ae) (x:X) (e' : ae):(ax.out e x).by e' = nf e e':=rfl
theorem ax.iP {X:Type} [Inhabited X] (e:ae) (x:X):(ax.out e x).st=x:=rfl
theorem cv {n:Int} (h : -9223372036854775808<=n) (h' : n < 9223372036854775808):aV n=n:=by
 show IntKind.wrap .i64 n=n;unfold IntKind.wrap;by_cases hn:0<=n
 ·have h1:n % (2 ^ IntKind.i64.bits:Int)=n:=Int.emod_eq_of_lt hn (by show n < 18446744073709551616; omega)
  simp only [h1];rw [ak];intro hc;simp only [au,lR] at hc;have:n >= 9223372036854775808:=hc.2;omega
 ·have h1:n % (2 ^ IntKind.i64.bits:Int)=n+18446744073709551616:=by
   show n % 18446744073709551616=n+18446744073709551616;omega
  simp only [h1];rw [aI]
  ·show n+18446744073709551616 - 18446744073709551616=n
   omega
  ·simp only [au,lR]
   refine ⟨rfl,?_⟩;show n+18446744073709551616 >= 9223372036854775808;omega
theorem afz {b n m:Nat} (h:(n+m) * b<=140737488355328) (h2:n+m<=17592186044416):fC b n m=true:=by
 unfold fC;rw [au];exact ⟨Nat.ble_eq_true_of_le h,Nat.ble_eq_true_of_le h2⟩
theorem appOk_small {b n m:Nat} (hb:b<=1000000) (hn:n<=1000000) (hm:m<=1000000) (_:0 < m\/n=0):fC b n m=true:=
 afz (kH (Nat.mul_le_mul (by omega:n+m<=2000000) hb) (by decide)) (by omega)
theorem eQ {b n m:Nat} (hb:b<=1000000:=by omega) (hn:n<=1000000:=by omega) (hm:m<=1000000:=by omega):fC b n m=true:=
 afz (kH (Nat.mul_le_mul (by omega:n+m<=2000000) hb) (by decide)) (by omega)
@[simp] theorem bj (n:Nat):aC n n=true:=tf n
theorem Sl.Jg {α:Type} [Inhabited α] (s:Sl α) (v:α):(s.push v).n=s.n+1:=rfl
theorem Sl.YW {α:Type} [Inhabited α] {s:Sl α} {v:α} {i:Nat} (h:i < s.n):(s.push v).get i=s.get i:=by
 have:Nat.blt i s.n=true:=by rw [bO]; exact h
 simp only [Sl.push,this,aj]
theorem Sl.YX {α:Type} [Inhabited α] {s:Sl α} {v:α} : (s.push v).get s.n=v:=by
 have:Nat.blt s.n s.n=false:=by
  cases h:Nat.blt s.n s.n with
  | false=>rfl
  | true=>rw [bO] at h; omega
 simp only [Sl.push,this,aF,tf,aj]
end Go.K
end
section
namespace Go.Proofs.YtckbdndhmcoihaaGreat.sc
open Go Go.K
def uB (n b6:Int):Prop:=-b6<=n/\n<=b6
instance (n b6:Int):Decidable (uB n b6):=by unfold uB; exact inferInstance
def o4 (v:b.wg) (k:Int):Prop:=uB v.x k/\uB v.y k/\uB v.z k
instance (v:b.wg) (k:Int):Decidable (o4 v k):=by unfold o4; exact inferInstance
def adH (r:b.cL):Prop:=uB r.e0 1024/\uB r.e1 1024/\uB r.e2 1024
def RowsIn (m:b.fw):Prop:=adH m.e0/\adH m.e1/\adH m.e2
def QQ (m:b.Le):Prop:=RowsIn m.m/\o4 m.t 4096
theorem bin {x:Option Bool} {P:Prop} (h:∃ r,x=some r/\(r=true↔P)) [Decidable P] : x=some (decide P):=by
 obtain ⟨r,h1,h2⟩:=h;rw [h1];congr 1;rw [Bool.eq_iff_iff,h2,decide_eq_true_iff]
theorem chain {p:Prop} [Decidable p] {x:Option Bool} {Q:Prop} (h1:p->¬ Q) (h2 : ¬ p->∃ r,x=some r/\(r=true↔Q)):∃ r,cond (decide p) (some false) x=some r/\(r=true↔Q):=by
 by_cases h:p
 ·rw [ai h]
  exact ⟨false,rfl,⟨fun k=>by simp at k,fun k=>absurd k (h1 h)⟩⟩
 ·rw [aE h]
  exact h2 h
theorem W6 (n b6:Int) (h:0<=b6) (h' : b6<=1000000):b.ky n b6=some (decide (uB n b6)):=by
 unfold b.ky;rw [cv (by omega) (by omega)];by_cases h1:n >= 0 - b6
 ·rw [ai h1,aj]
  by_cases h2:n<=b6
  ·rw [ai h2,ai (show uB n b6 from ⟨by omega,h2⟩)]
  ·rw [aE h2,aE (show ¬ uB n b6 from fun k=>h2 k.2)]
 ·rw [aE h1,aF,aE (show ¬ uB n b6 from fun k=>h1 (by have:=k.1; omega))]
theorem afA (v:b.wg) (b6:Int) (h:0<=b6) (h' : b6<=1000000):b.xF v b6=some (decide (o4 v b6)):=by
 refine bin ?_;unfold b.xF b.Nb b.Nc b.Nd o4;rw [W6 _ _ h h',W6 _ _ h h',W6 _ _ h h'];simp only [dB,db,aj];by_cases h1:uB v.x b6 <;> by_cases h2:uB v.y b6 <;> by_cases h3:uB v.z b6 <;> simp [h1,h2,h3]
theorem akE (m:b.fw):∃ r,b.yo m 1024=some r/\(r=true↔RowsIn m):=by
 have e:=fun n=>W6 n 1024 (by omega) (by omega);unfold b.yo b.JU b.JV b.JW b.JX b.JY b.JZ b.J0 b.J1 b.J2 RowsIn adH;simp only [e,dB,db,aj];by_cases h1:uB m.e0.e0 1024
 ·by_cases h2:uB m.e0.e1 1024
  ·by_cases h3:uB m.e0.e2 1024
   ·by_cases h4:uB m.e1.e0 1024
    ·by_cases h5:uB m.e1.e1 1024
     ·by_cases h6:uB m.e1.e2 1024
      ·by_cases h7:uB m.e2.e0 1024
       ·by_cases h8:uB m.e2.e1 1024
        ·by_cases h9:uB m.e2.e2 1024 <;> simp [h1,h2,h3,h4,h5,h6,h7,h8,h9]
        ·simp [h1,h2,h3,h4,h5,h6,h7,h8]
       ·simp [h1,h2,h3,h4,h5,h6,h7]
      ·simp [h1,h2,h3,h4,h5,h6]
     ·simp [h1,h2,h3,h4,h5]
    ·simp [h1,h2,h3,h4]
   ·simp [h1,h2,h3]
  ·simp [h1,h2]
 ·simp [h1]
theorem am8 (m:b.Le):∃ r,b.BR m=some r/\(r=true↔QQ m):=by
 unfold b.BR b.Nf b.Ng QQ;obtain ⟨r,h1,h2⟩:=akE m.m;rw [h1,afA _ _ (by omega) (by omega)];simp only [dB,db,aj];cases r with
 | true=>
  refine ⟨_,rfl,?_⟩;rw [decide_eq_true_iff];exact ⟨fun h=>⟨h2.1 rfl,h⟩,fun h=>h.2⟩
 | false=>exact ⟨false,rfl,⟨fun h=>by simp at h,fun h=>h2.2 h.1⟩⟩
theorem am9 (b6:Int) (l:Sl Int) (h:0<=b6) (h' : b6<=1000000) (hn:l.n < 1000000):∃ r,b.Gd b6 l=some r/\(r=true↔∀ i,i < l.n->uB (l.get i) b6):=by
 unfold b.Gd b.IZ;obtain ⟨e,x',h1,h2⟩:∃ e x',goN b.o8 (⟨b6,false,l,((l.n:Nat):Int),(0:Int)⟩:b.n5) = .out e x'/\((e = .exit 0/\∀ i,i < l.n->uB (l.get i) b6)\/(e = .ret/\x'.t4=false/\∃ i,i < l.n/\¬ uB (l.get i) b6)):=by
  refine eW (X:=b.n5) (fun j x=>x=⟨b6,false,l,((l.n:Nat):Int),(j:Int)⟩/\∀ i,i < j->uB (l.get i) b6) (fun e x'=>(e = .exit 0/\∀ i,i < l.n->uB (l.get i) b6)\/(e = .ret/\x'.t4=false/\∃ i,i < l.n/\¬ uB (l.get i) b6)) l.n (by unfold dZ; omega) ?_ ⟨rfl,fun i hi=>absurd hi (kA _)⟩;rintro j _ hj ⟨rfl,cQ⟩;unfold b.o8
  dsimp only
  by_cases bh:(j:Int) < (l.n:Int)
  ·have h0:(0:Int)<=(j:Int):=by omega
   rw [ai bh,ai h0,cv (n:=0 - b6) (by omega) (by omega)];simp only [iY,aj];have ej:Int.toNat (j:Int)=j:=rfl;rw [ej];by_cases q1:l.get j < 0 - b6
   ·rw [ai q1]
    exact .inr ⟨_,_,rfl,rfl,.inr ⟨rfl,rfl,j,by omega,fun k=>by have:=k.1; omega⟩⟩
   ·rw [aE q1,aF]
    by_cases q2:l.get j > b6
    ·rw [ai q2]
     exact .inr ⟨_,_,rfl,rfl,.inr ⟨rfl,rfl,j,by omega,fun k=>by have:=k.2; omega⟩⟩
    ·rw [aE q2,aF,cv (by omega) (by omega)]
     refine .inl ⟨_,rfl,by omega,by congr 1,fun i hi=>?_⟩;by_cases e:i=j
     ·subst e; exact ⟨by omega,by omega⟩
     ·exact cQ i (by omega)
  ·rw [aE bh,aF]
   exact .inr ⟨_,_,rfl,rfl,.inl ⟨rfl,fun i hi=>cQ i (by omega)⟩⟩
 rw [h1];rcases h2 with ⟨rfl,h2⟩ | ⟨rfl,h2,i,h3,h4⟩
 ·exact ⟨true,rfl,⟨fun _=>h2,fun _=>rfl⟩⟩
 ·exact ⟨x'.t4,rfl,⟨fun k=>by rw [h2] at k; simp at k,fun k=>absurd (k i h3) h4⟩⟩
theorem ar1 {P:Int->Prop} {x y z:Int} : (∀ i,i < (Sl.lit [x,y,z]).n->P ((Sl.lit [x,y,z]).get i))↔P x/\P y/\P z:=by
 constructor
 ·exact fun h=>⟨h 0 (show 0 < 3 by omega),h 1 (show 1 < 3 by omega),h 2 (show 2 < 3 by omega)⟩
 ·rintro ⟨h1,h2,h3⟩ i hi
  have hi:i < 3:=hi;rcases (by omega:i=0\/i=1\/i=2) with rfl | rfl | rfl
  ·exact h1
  ·exact h2
  ·exact h3
theorem Z5 (v:b.wg):b.rU v=some (if o4 v 4096 then 0 else 20):=by
 unfold b.rU b.z8;obtain ⟨r,h1,h2⟩:=am9 4096 (Sl.lit [v.x,v.y,v.z]) (by omega) (by omega) (by show 3 < 1000000; omega);have h2:r=true↔o4 v 4096:=h2.trans (ar1 (P:=fun n=>uB n 4096));rw [h1];cases r with
 | true=>rw [aI (h2.1 rfl)]; rfl
 | false=>rw [ak fun k=>by have:=h2.2 k; simp at this]; rfl
theorem akF (m:b.fw):∃ r,b.yq m=some r/\(r=true↔RowsIn m):=by
 unfold b.yq RowsIn adH uB
 iterate 18 refine chain (fun h k=>by omega) fun _=>?_
 exact ⟨true,rfl,⟨fun _=>by omega,fun _=>rfl⟩⟩
theorem adI (m:b.Le):(∃ e,b.o9 m=some e/\(e=0/\QQ m\/e=20/\¬ QQ m)):=by
 unfold b.o9 b.Aa b.Ab QQ;obtain ⟨r,h1,h2⟩:=akF m.m;rw [h1,Z5];cases r with
 | false=>exact ⟨20,rfl,.inr ⟨rfl,fun k=>by have:=h2.2 k.1; simp at this⟩⟩
 | true=>
  by_cases h3:o4 m.t 4096
  ·rw [aI h3]; exact ⟨0,rfl,.inl ⟨rfl,h2.1 rfl,h3⟩⟩
  ·rw [ak h3]; exact ⟨20,rfl,.inr ⟨rfl,fun k=>h3 k.2⟩⟩
def EX (t:b.cN):Prop:=0 < t.w/\t.w<=16/\0 < t.h/\t.h<=16/\((t.dt.n:Nat):Int)=aV (t.w * t.h)
theorem adJ (n:Int):∃ r,b.nA n=some r/\(r=true↔0 < n/\n<=16):=by
 unfold b.nA;by_cases h1:n > 0
 ·rw [ai h1]
  exact ⟨_,rfl,by rw [decide_eq_true_iff]; omega⟩
 ·rw [aE h1]
  exact ⟨false,rfl,⟨fun k=>by simp at k,fun k=>absurd k.1 h1⟩⟩
theorem ana (t:b.cN):∃ e,b.ot t=some e/\(e=0/\EX t\/e=8/\¬ EX t):=by
 unfold b.ot b.xJ b.xK EX;obtain ⟨r,h1,h2⟩:=adJ t.w;obtain ⟨q,h3,h4⟩:=adJ t.h;rw [h1,h3];simp only [dB,db,aj];cases r with
 | false=>exact ⟨8,rfl,.inr ⟨rfl,fun k=>by have:=h2.2 ⟨k.1,k.2.1⟩; simp at this⟩⟩
 | true=>
  have h2:=h2.1 rfl;cases q with
  | false=>exact ⟨8,rfl,.inr ⟨rfl,fun k=>by have:=h4.2 ⟨k.2.2.1,k.2.2.2.1⟩; simp at this⟩⟩
  | true=>
   have h4:=h4.1 rfl;by_cases h5:((t.dt.n:Nat):Int)=aV (t.w * t.h)
   ·rw [bne_eq_false_iff_eq.2 h5]
    exact ⟨0,rfl,.inl ⟨rfl,h2.1,h2.2,h4.1,h4.2,h5⟩⟩
   ·rw [bne_iff_ne.2 h5]
    exact ⟨8,rfl,.inr ⟨rfl,fun k=>h5 k.2.2.2.2⟩⟩
theorem akG (t:b.cN):∃ r,b.BP t=some r/\(r=true↔EX t):=by
 have one:∀ {p:Prop} [Decidable p] {x:Option Bool} {Q:Prop},(¬ p->¬ Q)->(p->∃ r,x=some r/\(r=true↔Q))->∃ r,cond (decide p) x (some false)=some r/\(r=true↔Q):=by
  intro p _ x Q h1 h2;by_cases h:p
  ·rw [ai h]; exact h2 h
  ·rw [aE h]; exact ⟨false,rfl,⟨fun k=>by simp at k,fun k=>absurd k (h1 h)⟩⟩
 unfold b.BP EX;refine one (fun h k=>by omega) fun h1=>one (fun h k=>by omega) fun h2=>one (fun h k=>by omega) fun h3=>one (fun h k=>by omega) fun h4=>⟨_,rfl,?_⟩
 rw [iX];exact ⟨fun h=>⟨by omega,h2,by omega,h4,h⟩,fun h=>h.2.2.2.2⟩
def Rr (p:b.Prim):Prop:=p.kind<=2/\p.index.n<=200/\(p.kind=0->p.index.n % 3=0)/\(p.kind > 0->p.index.n=0\/3<=p.index.n)
def EY (k:Int) (j:Nat):Nat:=if k=0 then (j+2) / 3 else j
def KM (p:b.Prim):Nat:=EY p.kind (p.index.n - 2)
theorem akH (p:b.Prim) (h0:0<=p.kind) (h2:p.kind<=2) (hn:p.index.n<=200) (z:Sl b.cL) (t:Int) :
  ∃ x',goN b.jD (⟨z,t,⟨0,fun _=>⟨0,0,0⟩⟩,p.index,(0:Int),p⟩:b.dF) = .out (.exit 1) x'/\x'.out.n=KM p:=by
 have vU:=fun uA=>eW (X:=b.dF) (step:=b.jD) (fun j x=>∃ o:Sl b.cL,x=⟨z,t,o,p.index,(j:Int),p⟩/\o.n=EY p.kind j) (fun e x'=>e = .exit 1/\x'.out.n=KM p) (p.index.n - 2) (by unfold dZ; omega) uA (x:=⟨z,t,⟨0,fun _=>⟨0,0,0⟩⟩,p.index,(0:Int),p⟩) ⟨_,rfl,by unfold EY; split <;> rfl⟩;refine Exists.elim (vU ?_) fun e ⟨x,h1,he,h3⟩=>?_
 rotate_left
 ·subst he; exact ⟨x,h1,h3⟩
 rintro j _ hj ⟨o,rfl,ho⟩;have ho200:o.n<=200:=by rw [ho]; unfold EY; split <;> omega
 unfold b.jD b.nZ b.nY b.nX
 dsimp only
 have e1:aV ((j:Int)+1)=((j+1:Nat):Int):=by rw [cv (by omega) (by omega)]; omega
 have e2:aV ((j:Int)+2)=((j+2:Nat):Int):=by rw [cv (by omega) (by omega)]; omega
 rw [e1,e2];by_cases bh:((j+2:Nat):Int) < (p.index.n:Int)
 ·have d1:decide ((0:Int)<=(j:Int))=true:=ai (by omega)
  have d2:decide ((j:Int) < (p.index.n:Int))=true:=ai (by omega);have d3:decide ((0:Int)<=((j+1:Nat):Int))=true:=ai (by omega);have d4:decide (((j+1:Nat):Int) < (p.index.n:Int))=true:=ai (by omega);have d5:decide ((0:Int)<=((j+2:Nat):Int))=true:=ai (by omega);have d6:decide (((j+2:Nat):Int) < (p.index.n:Int))=true:=ai bh;have d7:decide ((0:Int) < (p.index.n:Int))=true:=ai (by omega);have da:fC 24 o.n 1=true:=eQ;rw [d1,d2,d3,d4,d5,d6,d7,da];simp only [bj,iY,cg,aj];have hjn:j < p.index.n - 2:=by omega
  rcases (by omega:p.kind=0\/p.kind=1\/p.kind=2) with hk | hk | hk
  ·rw [hk]
   by_cases h3:Int.tmod (j:Int) 3=0
   ·rw [iX.2 h3]
    refine .inl ⟨_,rfl,hjn,_,rfl,?_⟩;rw [Sl.Jg,ho,hk];have:Int.tmod (j:Int) 3=((j % 3:Nat):Int):=rfl;unfold EY;rw [aI rfl,aI rfl];omega
   ·rw [beq_eq_false_iff_ne.2 h3]
    refine .inl ⟨_,rfl,hjn,_,rfl,?_⟩;rw [ho,hk];have:Int.tmod (j:Int) 3=((j % 3:Nat):Int):=rfl;unfold EY;rw [aI rfl,aI rfl];omega
  ·rw [hk]
   have hc:∀ j,EY 1 j=j:=fun j=>rfl;by_cases h3:Int.tmod (j:Int) 2=0
   ·rw [iX.2 h3]
    exact .inl ⟨_,rfl,hjn,_,rfl,by rw [Sl.Jg,ho,hk,hc,hc]⟩
   ·rw [beq_eq_false_iff_ne.2 h3]
    exact .inl ⟨_,rfl,hjn,_,rfl,by rw [Sl.Jg,ho,hk,hc,hc]⟩
  ·rw [hk]
   have hc:∀ j,EY 2 j=j:=fun j=>rfl;exact .inl ⟨_,rfl,hjn,_,rfl,by rw [Sl.Jg,ho,hk,hc,hc]⟩
 ·rw [aE bh,aF]
  simp only [bj,aj];refine .inr ⟨_,_,rfl,rfl,rfl,?_⟩;show o.n=_;rw [ho];have:j=p.index.n - 2:=by omega
  subst this;rfl
theorem akI (p:b.Prim) (h0:0<=p.kind) (h2:p.kind<=2):∃ r,b.ve p=some r/\(r=true↔(p.kind=0->p.index.n % 3=0)/\(p.kind > 0->p.index.n=0\/3<=p.index.n)):=by
 unfold b.ve b.wT;have key:∀ {k:Int},(p.kind=k->k > 0)->∃ r,cond (((p.index.n:Nat):Int)==(0:Int)) (some true) (some (decide (((p.index.n:Nat):Int) >= (3:Int))))=some r/\(r=true↔(p.index.n=0\/3<=p.index.n)):=by
  intro k _;by_cases h:((p.index.n:Nat):Int)=0
  ·rw [iX.2 h]
   exact ⟨true,rfl,⟨fun _=>.inl (by omega),fun _=>rfl⟩⟩
  ·rw [beq_eq_false_iff_ne.2 h]
   exact ⟨_,rfl,by rw [decide_eq_true_iff]; omega⟩
 rcases (by omega:p.kind=0\/p.kind=1\/p.kind=2) with hk | hk | hk
 ·rw [hk]
  refine ⟨_,rfl,?_⟩;rw [iX];have:Int.tmod ((p.index.n:Nat):Int) 3=((p.index.n % 3:Nat):Int):=rfl;rw [this];exact ⟨fun h=>⟨fun _=>by omega,fun h=>absurd h (by omega)⟩,fun h=>by have:=h.1 rfl; omega⟩
 ·rw [hk]
  obtain ⟨r,h1,h3⟩:=key (k:=1) (fun _=>by omega);exact ⟨r,h1,h3.trans ⟨fun h=>⟨fun k=>absurd k (by omega),fun _=>h⟩,fun h=>h.2 (by omega)⟩⟩
 ·rw [hk]
  obtain ⟨r,h1,h3⟩:=key (k:=2) (fun _=>by omega);exact ⟨r,h1,h3.trans ⟨fun h=>⟨fun k=>absurd k (by omega),fun _=>h⟩,fun h=>h.2 (by omega)⟩⟩
theorem akJ (p:b.Prim) (h0:0<=p.kind):∃ l e,b.vf p=some (l,e)/\(e=0/\Rr p/\l.n=KM p\/e≠0/\¬ Rr p/\l.n=0):=by
 unfold b.vf;by_cases h1:p.kind > 2
 ·rw [ai h1]
  exact ⟨_,_,rfl,.inr ⟨by decide,fun k=>by have:=k.1; omega,rfl⟩⟩
 ·rw [aE h1,aF]
  by_cases h2:((p.index.n:Nat):Int) > 200
  ·rw [ai h2]
   exact ⟨_,_,rfl,.inr ⟨by decide,fun k=>by have:=k.2.1; omega,rfl⟩⟩
  ·rw [aE h2,aF]
   unfold b.Hu b.Hv;obtain ⟨r,h3,h4⟩:=akI p h0 (by omega);rw [h3];cases r with
   | false=>
    exact ⟨_,_,rfl,.inr ⟨by decide,fun k=>by have:=h4.2 k.2.2; simp at this,rfl⟩⟩
   | true=>
    obtain ⟨x',h5,h6⟩:=akH p h0 (by omega) (by omega) ⟨0,fun _=>⟨0,0,0⟩⟩ 0;rw [h5];exact ⟨_,_,rfl,.inl ⟨rfl,⟨by omega,by omega,h4.1 rfl⟩,h6⟩⟩
theorem ai2 (p:b.Prim) (h3:p.index.n % 3=0) (hn:p.index.n<=200) (z:Sl b.cL) (t:Int) (o:Sl b.cL) (ho:o.n=0) :
  ∃ o' i',goN b.jC (⟨z,t,((p.index.n:Nat):Int),o,(0:Int),p⟩:b.jk) = .out (.exit 0) ⟨z,t,((p.index.n:Nat):Int),o',i',p⟩/\o'.n=p.index.n / 3:=by
 have vU:=fun uA=>eW (X:=b.jk) (step:=b.jC) (fun j x=>∃ o:Sl b.cL,x=⟨z,t,((p.index.n:Nat):Int),o,((3 * j:Nat):Int),p⟩/\o.n=j) (fun e x'=>e = .exit 0/\∃ o' i',x' = ⟨z,t,((p.index.n:Nat):Int),o',i',p⟩/\o'.n=p.index.n / 3) (p.index.n / 3) (by unfold dZ; omega) uA (x:=⟨z,t,((p.index.n:Nat):Int),o,(0:Int),p⟩) ⟨o,rfl,ho⟩;refine Exists.elim (vU ?_) fun e ⟨x,h1,he,o',i',hx,h2⟩=>?_
 rotate_left
 ·subst he hx; exact ⟨o',i',h1,h2⟩
 rintro j _ hj ⟨o,rfl,ho⟩;unfold b.jC
 dsimp only
 have e1:aV (((3 * j:Nat):Int)+1)=((3 * j+1:Nat):Int):=by rw [cv (by omega) (by omega)]; omega
 have e2:aV (((3 * j:Nat):Int)+2)=((3 * j+2:Nat):Int):=by rw [cv (by omega) (by omega)]; omega
 have e3:aV (((3 * j:Nat):Int)+3)=((3 * (j+1):Nat):Int):=by rw [cv (by omega) (by omega)]; omega
 rw [e1,e2,e3];by_cases bh:((3 * j:Nat):Int) < ((p.index.n:Nat):Int)
 ·have d1:decide ((0:Int)<=((3 * j:Nat):Int))=true:=ai (by omega)
  have d2:decide (((3 * j:Nat):Int) < ((p.index.n:Nat):Int))=true:=ai bh;have d3:decide ((0:Int)<=((3 * j+1:Nat):Int))=true:=ai (by omega);have d4:decide (((3 * j+1:Nat):Int) < ((p.index.n:Nat):Int))=true:=ai (by omega);have d5:decide ((0:Int)<=((3 * j+2:Nat):Int))=true:=ai (by omega);have d6:decide (((3 * j+2:Nat):Int) < ((p.index.n:Nat):Int))=true:=ai (by omega);have da:fC 24 o.n 1=true:=eQ;rw [d1,d2,d3,d4,d5,d6,da];simp only [bj,iY,cg,aj];exact .inl ⟨_,rfl,by omega,_,rfl,by rw [Sl.Jg,ho]⟩
 ·rw [aE bh,aF]
  simp only [bj,aj];exact .inr ⟨_,_,rfl,rfl,rfl,o,_,rfl,by omega⟩
theorem W7 (p:b.Prim) (hq:p.index.n=0\/3<=p.index.n\/p.kind≠1) (hn:p.index.n<=200) (z:Sl b.cL) (t:Int) (o:Sl b.cL) (ho:o.n<=200) :
  ∃ o' i',goN b.ir (⟨z,t,((p.index.n:Nat):Int),o,(0:Int),p⟩:b.ji) = .out (.exit 2) ⟨z,t,((p.index.n:Nat):Int),o',i',p⟩/\o'.n=o.n+if p.kind=1 then p.index.n - 2 else 0:=by
 have vU:=fun uA=>eW (X:=b.ji) (step:=b.ir) (fun j x=>∃ o1:Sl b.cL,x=⟨z,t,((p.index.n:Nat):Int),o1,(j:Int),p⟩/\o1.n=o.n+j/\(p.kind≠1->j=0)) (fun e x'=>e = .exit 2/\∃ o' i',x' = ⟨z,t,((p.index.n:Nat):Int),o',i',p⟩/\o'.n=o.n+if p.kind=1 then p.index.n - 2 else 0) (p.index.n - 2) (by unfold dZ; omega) uA (x:=⟨z,t,((p.index.n:Nat):Int),o,(0:Int),p⟩) ⟨o,rfl,rfl,fun _=>rfl⟩;refine Exists.elim (vU ?_) fun e ⟨x,h1,he,o',i',hx,h2⟩=>?_
 rotate_left
 ·subst he hx; exact ⟨o',i',h1,h2⟩
 rintro j _ hj ⟨o1,rfl,U7,AK⟩;unfold b.ir
 dsimp only
 have e1:aV ((j:Int)+1)=((j+1:Nat):Int):=by rw [cv (by omega) (by omega)]; omega
 have e2:aV ((j:Int)+2)=((j+2:Nat):Int):=by rw [cv (by omega) (by omega)]; omega
 have e3:aV (((p.index.n:Nat):Int) - 3)=((p.index.n:Nat):Int) - 3:=cv (by omega) (by omega);rw [e1,e2,e3];by_cases bh:(j:Int)<=((p.index.n:Nat):Int) - 3
 ·rw [ai bh]
  by_cases hk:p.kind=1
  ·have d1:decide ((0:Int)<=(j:Int))=true:=ai (by omega)
   have d2:decide ((j:Int) < ((p.index.n:Nat):Int))=true:=ai (by omega);have d3:decide ((0:Int)<=((j+1:Nat):Int))=true:=ai (by omega);have d4:decide (((j+1:Nat):Int) < ((p.index.n:Nat):Int))=true:=ai (by omega);have d5:decide ((0:Int)<=((j+2:Nat):Int))=true:=ai (by omega);have d6:decide (((j+2:Nat):Int) < ((p.index.n:Nat):Int))=true:=ai (by omega);have da:fC 24 o1.n 1=true:=eQ;rw [iX.2 hk,d1,d2,d3,d4,d5,d6,da];simp only [bj,iY,cg,aj];cases hm:(Int.tmod (j:Int) 2==(1:Int)) with
   | true=>exact .inl ⟨_,rfl,by omega,_,rfl,by rw [Sl.Jg,U7]; omega,fun h=>absurd hk h⟩
   | false=>exact .inl ⟨_,rfl,by omega,_,rfl,by rw [Sl.Jg,U7]; omega,fun h=>absurd hk h⟩
  ·rw [beq_eq_false_iff_ne.2 hk]
   simp only [bj,aj,aF];exact .inr ⟨_,_,rfl,rfl,rfl,o1,_,rfl,by rw [U7,AK hk,ak hk]⟩
 ·rw [aE bh,aF]
  simp only [bj,aj];refine .inr ⟨_,_,rfl,rfl,rfl,o1,_,rfl,?_⟩;by_cases hk:p.kind=1
  ·rw [U7,aI hk]; omega
  ·rw [U7,AK hk,ak hk]
theorem adK (p:b.Prim) (hq:p.index.n=0\/3<=p.index.n\/p.kind≠2) (hn:p.index.n<=200) (z:Sl b.cL) (t:Int) (o:Sl b.cL) (ho:o.n<=200) :
  ∃ o' i',goN b.iu (⟨z,t,((p.index.n:Nat):Int),o,(1:Int),p⟩:b.jl) = .out (.exit 4) ⟨z,t,((p.index.n:Nat):Int),o',i',p⟩/\o'.n=o.n+if p.kind=2 then p.index.n - 2 else 0:=by
 have vU:=fun uA=>eW (X:=b.jl) (step:=b.iu) (fun j x=>∃ o1:Sl b.cL,x=⟨z,t,((p.index.n:Nat):Int),o1,((j+1:Nat):Int),p⟩/\o1.n=o.n+j/\(p.kind≠2->j=0)) (fun e x'=>e = .exit 4/\∃ o' i',x' = ⟨z,t,((p.index.n:Nat):Int),o',i',p⟩/\o'.n=o.n+if p.kind=2 then p.index.n - 2 else 0) (p.index.n - 2) (by unfold dZ; omega) uA (x:=⟨z,t,((p.index.n:Nat):Int),o,(1:Int),p⟩) ⟨o,rfl,rfl,fun _=>rfl⟩;refine Exists.elim (vU ?_) fun e ⟨x,h1,he,o',i',hx,h2⟩=>?_
 rotate_left
 ·subst he hx; exact ⟨o',i',h1,h2⟩
 rintro j _ hj ⟨o1,rfl,U7,AK⟩;unfold b.iu
 dsimp only
 have e1:aV (((j+1:Nat):Int)+1)=((j+1+1:Nat):Int):=by rw [cv (by omega) (by omega)]; omega
 have e3:aV (((p.index.n:Nat):Int) - 2)=((p.index.n:Nat):Int) - 2:=cv (by omega) (by omega);rw [e1,e3];by_cases bh:((j+1:Nat):Int)<=((p.index.n:Nat):Int) - 2
 ·rw [ai bh]
  by_cases hk:p.kind=2
  ·have d1:decide ((0:Int) < ((p.index.n:Nat):Int))=true:=ai (by omega)
   have d2:decide ((0:Int)<=((j+1:Nat):Int))=true:=ai (by omega);have d3:decide (((j+1:Nat):Int) < ((p.index.n:Nat):Int))=true:=ai (by omega);have d4:decide ((0:Int)<=((j+1+1:Nat):Int))=true:=ai (by omega);have d5:decide (((j+1+1:Nat):Int) < ((p.index.n:Nat):Int))=true:=ai (by omega);have da:fC 24 o1.n 1=true:=eQ;rw [iX.2 hk,d1,d2,d3,d4,d5,da];simp only [bj,iY,cg,aj];exact .inl ⟨_,rfl,by omega,_,rfl,by rw [Sl.Jg,U7]; omega,fun h=>absurd hk h⟩
  ·rw [beq_eq_false_iff_ne.2 hk]
   simp only [bj,aj,aF];exact .inr ⟨_,_,rfl,rfl,rfl,o1,_,rfl,by rw [U7,AK hk,ak hk]⟩
 ·rw [aE bh,aF]
  simp only [bj,aj];refine .inr ⟨_,_,rfl,rfl,rfl,o1,_,rfl,?_⟩;by_cases hk:p.kind=2
  ·rw [U7,aI hk]; omega
  ·rw [U7,AK hk,ak hk]
theorem ai3 (p:b.Prim) (h0:0<=p.kind):∃ l e,b.yn p=some (l,e)/\(e=0/\Rr p/\l.n=KM p\/e≠0/\¬ Rr p/\l.n=0):=by
 unfold b.yn b.zR b.zQ;by_cases h1:p.kind > 2
 ·rw [ai h1]
  exact ⟨_,_,rfl,.inr ⟨by decide,fun k=>by have:=k.1; omega,rfl⟩⟩
 rw [aE h1,aF];by_cases h2:((p.index.n:Nat):Int) > 200
 ·rw [ai h2]
  exact ⟨_,_,rfl,.inr ⟨by decide,fun k=>by have:=k.2.1; omega,rfl⟩⟩
 rw [aE h2,aF];have hm:Int.tmod ((p.index.n:Nat):Int) 3=((p.index.n % 3:Nat):Int):=rfl;unfold b.JR b.mI b.JQ b.mH b.mG;rcases (by omega:p.kind=0\/p.kind > 0) with hk | hk
 ·rw [iX.2 hk,aE (show ¬ p.kind > 0 by omega)]
  simp only [aj,aF];by_cases h3:p.index.n % 3=0
  ·rw [hm,h3]
   obtain ⟨o1,i1,q1,q2⟩:=ai2 p h3 (by omega) ⟨0,fun _=>⟨0,0,0⟩⟩ 0 ⟨0,fun _=>⟨0,0,0⟩⟩ rfl;obtain ⟨o2,i2,q3,q4⟩:=W7 p (.inr (.inr (by omega))) (by omega) ⟨0,fun _=>⟨0,0,0⟩⟩ 0 o1 (by omega);rw [ak (by omega)] at q4;obtain ⟨o3,i3,q5,q6⟩:=adK p (.inr (.inr (by omega))) (by omega) ⟨0,fun _=>⟨0,0,0⟩⟩ 0 o2 (by omega);rw [ak (by omega)] at q6;rw [q1];simp only [ax.iM,ax.iP,bj];rw [q3];simp only [ax.iM,ax.iP,bj];rw [q5];refine ⟨_,_,rfl,.inl ⟨rfl,⟨by omega,by omega,fun _=>h3,fun k=>absurd k (by omega)⟩,?_⟩⟩;show o3.n=KM p;unfold KM EY;rw [aI hk];omega
  ·have cH:(Int.tmod ((p.index.n:Nat):Int) 3 != (0:Int))=true:=by rw [hm,bne_iff_ne]; omega
   rw [cH];exact ⟨_,_,rfl,.inr ⟨by decide,fun k=>h3 (k.2.2.1 hk),rfl⟩⟩
 ·rw [beq_eq_false_iff_ne.2 (show p.kind≠0 by omega),ai hk]
  simp only [aj,aF];by_cases h3:((p.index.n:Nat):Int)=1
  ·rw [iX.2 h3]
   exact ⟨_,_,rfl,.inr ⟨by decide,fun k=>by have:=k.2.2.2 hk; omega,rfl⟩⟩
  rw [beq_eq_false_iff_ne.2 h3];by_cases h4:((p.index.n:Nat):Int)=2
  ·rw [iX.2 h4]
   exact ⟨_,_,rfl,.inr ⟨by decide,fun k=>by have:=k.2.2.2 hk; omega,rfl⟩⟩
  rw [beq_eq_false_iff_ne.2 h4];obtain ⟨o2,i2,q3,q4⟩:=W7 p (by omega) (by omega) ⟨0,fun _=>⟨0,0,0⟩⟩ 0 ⟨0,fun _=>⟨0,0,0⟩⟩ (by show 0<=200; omega);obtain ⟨o3,i3,q5,q6⟩:=adK p (by omega) (by omega) ⟨0,fun _=>⟨0,0,0⟩⟩ 0 o2 (by rw [q4]; show 0+_<=200; split <;> omega);rw [q3];simp only [aF,ax.iM,ax.iP,bj];rw [q5];refine ⟨_,_,rfl,.inl ⟨rfl,⟨by omega,by omega,fun k=>absurd k (by omega),fun _=>by omega⟩,?_⟩⟩;show o3.n=KM p;rw [q6,q4];unfold KM EY;rw [ak (show p.kind≠0 by omega)];show 0+_+_=_;split <;> split <;> omega
def QR (m:b.dm):Nat->Nat
 | 0=>0
 | k+1=>QR m k+KM (m.aG.get k)
theorem anb (m:b.dm) {i j:Nat} (h:i<=j):QR m i<=QR m j:=by
 induction j with
 | zero=>have:i=0:=by omega
         subst this; exact aH _
 | succ j ih=>
  by_cases e:i=j+1
  ·subst e; exact aH _
  ·have:=ih (by omega)
   show QR m i<=QR m j+_;omega
def F1 (m:b.dm) (k:Nat):Prop:=Rr (m.aG.get k)/\∀ i,i < (m.aG.get k).index.n->0<=(m.aG.get k).index.get i/\(m.aG.get k).index.get i < (m.bN.n:Int)
def Rs (m:b.dm):Prop:=(∀ k,k < m.aG.n->F1 m k)/\QR m m.aG.n<=64
def wA (m:b.dm):Prop:=∀ k,k < m.aG.n->0<=(m.aG.get k).kind
theorem ai4 (z o:Sl b.cL) (t:Bool) (q:Sl b.Prim) (a c:Int) (l:Sl Int) (hl:l.n<=1000) (m:b.dm) :
  (∃ k,goN b.eP (⟨z,t,o,q,a,c,l,((l.n:Nat):Int),(0:Int),m⟩:b.eI) = .out (.exit 2) ⟨z,t,o,q,a,c,l,((l.n:Nat):Int),k,m⟩/\∀ i,i < l.n->0<=l.get i/\l.get i < (m.bN.n:Int))\/
  ∃ x',goN b.eP (⟨z,t,o,q,a,c,l,((l.n:Nat):Int),(0:Int),m⟩:b.eI) = .out .ret x'/\x'.t3=false/\∃ i,i < l.n/\¬ (0<=l.get i/\l.get i < (m.bN.n:Int)):=by
 have key:=eJ (step:=b.eP) l.n (by unfold dZ; omega) (fun j=>⟨z,t,o,q,a,c,l,((l.n:Nat):Int),(j:Int),m⟩) (fun i=>0<=l.get i/\l.get i < (m.bN.n:Int)) (e0:=.exit 2) (er:=.ret) rfl rfl (fun x'=>x'.t3=false) (xe:=⟨z,t,o,q,a,c,l,((l.n:Nat):Int),((l.n:Nat):Int),m⟩) (fun j hj=>by
  have e1:aV ((j:Int)+1)=((j+1:Nat):Int):=by rw [cv (by omega) (by omega)]; omega
  have d1:decide ((j:Int) < ((l.n:Nat):Int))=true:=ai (by omega);have d2:decide ((0:Int)<=(j:Int))=true:=ai (by omega);have ej:Int.toNat (j:Int)=j:=rfl;unfold b.eP b.jv
  dsimp only
  rw [d1,d2,ej,e1];simp only [bj,cg,aj];constructor
  ·rintro ⟨h1,h2⟩
   rw [aE (show ¬ l.get j < 0 by omega),aE (show ¬ l.get j >= (m.bN.n:Int) by omega)];rfl
  ·intro h
   by_cases h1:l.get j < 0
   ·rw [ai h1]
    exact ⟨_,rfl,rfl⟩
   ·rw [aE h1,ai (show l.get j >= (m.bN.n:Int) by omega)]
    exact ⟨_,rfl,rfl⟩) (by
  unfold b.eP b.jv
  dsimp only
  rw [aE (Int.lt_irrefl _)];simp only [bj,aj,aF])
 rcases key with ⟨h1,h2⟩ | ⟨x',h1,h2,h3⟩
 ·exact .inl ⟨_,h1,h2⟩
 ·exact .inr ⟨x',h1,h2,h3⟩
theorem akK (m:b.dm) (hk:wA m) (hp:m.aG.n < 1000000):∃ l r,b.vg m=some (l,r)/\(r=true↔Rs m):=by
 unfold b.vg b.qT;obtain ⟨e,x',h1,h2⟩:∃ e x',goN b.mr (⟨⟨0,fun _=>⟨0,0,0⟩⟩,false,⟨0,fun _=>⟨0,0,0⟩⟩,m.aG,((m.aG.n:Nat):Int),(0:Int),m⟩:b.fA) = .out e x'/\((e = .exit 0/\Rs m)\/(e = .ret/\x'.t3=false/\¬ Rs m)):=by
  refine eW (X:=b.fA) (fun j x=>∃ o:Sl b.cL,x=⟨⟨0,fun _=>⟨0,0,0⟩⟩,false,o,m.aG,((m.aG.n:Nat):Int),(j:Int),m⟩/\o.n=QR m j/\QR m j<=64/\∀ k,k < j->F1 m k) (fun e x'=>(e = .exit 0/\Rs m)\/(e = .ret/\x'.t3=false/\¬ Rs m)) m.aG.n (by unfold dZ; omega) ?_ ⟨_,rfl,rfl,by show 0<=64; omega,fun k hk=>absurd hk (kA _)⟩;rintro j _ hj ⟨o,rfl,ho,ht,kh⟩;unfold b.mr b.oQ b.cm b.fJ
  dsimp only
  by_cases bh:(j:Int) < ((m.aG.n:Nat):Int)
  ·have d1:decide ((j:Int) < ((m.aG.n:Nat):Int))=true:=ai bh
   have d2:decide ((0:Int)<=(j:Int))=true:=ai (by omega);have ej:Int.toNat (j:Int)=j:=rfl;obtain ⟨l,e,h1,h2⟩:=akJ (m.aG.get j) (hk j (by omega));have hln:l.n<=200:=by
    rcases h2 with ⟨_,q,h⟩ | ⟨_,_,h⟩
    ·rw [h]; have:=q.2.1; unfold KM EY; split <;> omega
    ·omega
   have da:fC 24 o.n l.n=true:=eQ;rw [d1,d2,ej,h1];simp only [dB,db,aj,cg,bj,da];rcases h2 with ⟨rfl,hpo,hn⟩ | ⟨he,hpo,hn⟩
   ·have cH:((0:Int) != 0)=false:=rfl
    rw [cH,aF];have hs:QR m (j+1)=o.n+l.n:=by show QR m j+KM _=_; rw [ho,hn]
    by_cases h64:(((o.n+l.n:Nat)):Int) > 64
    ·rw [ai h64]
     exact .inr ⟨_,_,rfl,rfl,.inr ⟨rfl,rfl,fun k=>by have:=anb m (show j+1<=m.aG.n by omega); have:=k.2; omega⟩⟩
    ·rw [aE h64,aF]
     have e1:aV ((j:Int)+1)=((j+1:Nat):Int):=by rw [cv (by omega) (by omega)]; omega
     rcases ai4 ⟨0,fun _=>⟨0,0,0⟩⟩ (o.join l) false m.aG ((m.aG.n:Nat):Int) (j:Int) (m.aG.get j).index (by have:=hpo.2.1; omega) m with ⟨k,q1,q2⟩ | ⟨x',q1,q2,i,q3,q4⟩
     ·rw [q1]
      simp only [ax.iM,ax.iP,bj,aj];rw [e1];refine .inl ⟨_,rfl,by omega,o.join l,rfl,by rw [hs]; rfl,by omega,fun k' tJ=>?_⟩;by_cases e:k' = j
      ·subst e; exact ⟨hpo,q2⟩
      ·exact kh k' (by omega)
     ·rw [q1]
      simp only [ax.iM,ax.iP,bj,aj];exact .inr ⟨_,_,rfl,rfl,.inr ⟨rfl,q2,fun k=>q4 ((k.1 j (by omega)).2 i q3)⟩⟩
   ·have cH:(e != (0:Int))=true:=by rw [bne_iff_ne]; exact he
    rw [cH];exact .inr ⟨_,_,rfl,rfl,.inr ⟨rfl,rfl,fun k=>hpo (k.1 j (by omega)).1⟩⟩
  ·rw [aE bh,aF]
   simp only [bj,aj];have:j=m.aG.n:=by omega
   subst this;exact .inr ⟨_,_,rfl,rfl,.inl ⟨rfl,kh,ht⟩⟩
 rw [h1];rcases h2 with ⟨rfl,h2⟩ | ⟨rfl,h2,h3⟩
 ·exact ⟨_,true,rfl,⟨fun _=>h2,fun _=>rfl⟩⟩
 ·exact ⟨_,x'.t3,rfl,⟨fun k=>by rw [h2] at k; simp at k,fun k=>absurd k h3⟩⟩
theorem Gf (n low high:Int):b.qP n low high=some (decide (low<=n/\n<=high)):=by
 refine bin ?_;unfold b.qP;by_cases h:n >= low
 ·rw [ai h]
  exact ⟨_,rfl,by rw [decide_eq_true_iff]; omega⟩
 ·rw [aE h]
  exact ⟨false,rfl,⟨fun k=>by simp at k,fun k=>absurd k.1 h⟩⟩
theorem agS (z o:Sl b.cL) (t:Bool) (i:Nat) (l:Sl b.cL) (m:b.dm) (hi:i < m.aG.n) (hl:(m.aG.get i).index.n<=1000) (hv:m.bN.n<=1000) :
  (∃ k,goN b.gb (⟨z,t,o,(i:Int),l,(0:Int),m⟩:b.ie) = .out (.exit 2) ⟨z,t,o,(i:Int),l,k,m⟩/\∀ k,k < (m.aG.get i).index.n->0<=(m.aG.get i).index.get k/\(m.aG.get i).index.get k < (m.bN.n:Int))\/
  ∃ x',goN b.gb (⟨z,t,o,(i:Int),l,(0:Int),m⟩:b.ie) = .out .ret x'/\x'.t3=false/\∃ k,k < (m.aG.get i).index.n/\¬ (0<=(m.aG.get i).index.get k/\(m.aG.get i).index.get k < (m.bN.n:Int)):=by
 have g1:decide ((0:Int)<=(i:Int))=true:=ai (by omega);have g2:decide ((i:Int) < ((m.aG.n:Nat):Int))=true:=ai (by omega);have ei:Int.toNat (i:Int)=i:=rfl;have ev:aV (((m.bN.n:Nat):Int) - 1)=((m.bN.n:Nat):Int) - 1:=cv (by omega) (by omega);have key:=eJ (step:=b.gb) (m.aG.get i).index.n (by unfold dZ; omega) (fun j=>⟨z,t,o,(i:Int),l,(j:Int),m⟩) (fun k=>0<=(m.aG.get i).index.get k/\(m.aG.get i).index.get k < (m.bN.n:Int)) (e0:=.exit 2) (er:=.ret) rfl rfl (fun x'=>x'.t3=false) (xe:=⟨z,t,o,(i:Int),l,(((m.aG.get i).index.n:Nat):Int),m⟩) (fun j hj=>by
  have e1:aV ((j:Int)+1)=((j+1:Nat):Int):=by rw [cv (by omega) (by omega)]; omega
  have d1:decide ((j:Int) < (((m.aG.get i).index.n:Nat):Int))=true:=ai (by omega);have d2:decide ((0:Int)<=(j:Int))=true:=ai (by omega);have ej:Int.toNat (j:Int)=j:=rfl;unfold b.gb b.xC
  dsimp only
  rw [g1,g2,ei,d1,d2,ej,e1,ev,Gf];simp only [bj,cg,aj,dB,db];constructor
  ·rintro ⟨h1,h2⟩
   rw [ai (show 0<=(m.aG.get i).index.get j/\(m.aG.get i).index.get j<=((m.bN.n:Nat):Int) - 1 by omega)];rfl
  ·intro h
   rw [aE (show ¬ (0<=(m.aG.get i).index.get j/\(m.aG.get i).index.get j<=((m.bN.n:Nat):Int) - 1) by omega)];exact ⟨_,rfl,rfl⟩) (by
  unfold b.gb
  dsimp only
  rw [g1,g2,ei,aE (Int.lt_irrefl _)];simp only [bj,aj,aF,cg])
 rcases key with ⟨h1,h2⟩ | ⟨x',h1,h2,h3⟩
 ·exact .inl ⟨_,h1,h2⟩
 ·exact .inr ⟨x',h1,h2,h3⟩
theorem apz {p:b.Prim} (h:Rr p):KM p<=200:=by
 have:=h.2.1;unfold KM EY;split <;> omega
theorem akL (m:b.dm) (hk:wA m) (hp:m.aG.n<=16) (hv:m.bN.n<=1000):∃ l r,b.BN m=some (l,r)/\(r=true/\(∀ k,k < m.aG.n->F1 m k)/\l.n=QR m m.aG.n\/r=false/\¬ ∀ k,k < m.aG.n->F1 m k):=by
 unfold b.BN b.u7;obtain ⟨e,x',h1,h2⟩:∃ e x',goN b.oo (⟨⟨0,fun _=>⟨0,0,0⟩⟩,false,⟨0,fun _=>⟨0,0,0⟩⟩,(0:Int),m⟩:b.jS) = .out e x'/\((e = .exit 0/\(∀ k,k < m.aG.n->F1 m k)/\x'.out.n=QR m m.aG.n)\/(e = .ret/\x'.t3=false/\¬ ∀ k,k < m.aG.n->F1 m k)):=by
  refine eW (X:=b.jS) (fun j x=>∃ o:Sl b.cL,x=⟨⟨0,fun _=>⟨0,0,0⟩⟩,false,o,(j:Int),m⟩/\o.n=QR m j/\QR m j<=200 * j/\∀ k,k < j->F1 m k) (fun e x'=>(e = .exit 0/\(∀ k,k < m.aG.n->F1 m k)/\x'.out.n=QR m m.aG.n)\/(e = .ret/\x'.t3=false/\¬ ∀ k,k < m.aG.n->F1 m k)) m.aG.n (by unfold dZ; omega) ?_ ⟨_,rfl,rfl,aH _,fun k hk=>absurd hk (kA _)⟩;rintro j _ hj ⟨o,rfl,ho,ht,kh⟩;unfold b.oo b.cz b.wR
  dsimp only
  by_cases bh:(j:Int) < ((m.aG.n:Nat):Int)
  ·have d1:decide ((j:Int) < ((m.aG.n:Nat):Int))=true:=ai bh
   have d2:decide ((0:Int)<=(j:Int))=true:=ai (by omega);have ej:Int.toNat (j:Int)=j:=rfl;obtain ⟨l,e,h1,h2⟩:=ai3 (m.aG.get j) (hk j (by omega));rw [d1,d2,ej,h1];simp only [dB,db,aj,cg,bj];rcases h2 with ⟨rfl,hpo,hn⟩ | ⟨he,hpo,hn⟩
   ·have cH:((0:Int) != 0)=false:=rfl
    rw [cH,aF];have hc:=apz hpo;have hs:QR m (j+1)=o.n+l.n:=by show QR m j+KM _=_; rw [ho,hn]
    have e1:aV ((j:Int)+1)=((j+1:Nat):Int):=by rw [cv (by omega) (by omega)]; omega
    have da:fC 24 o.n l.n=true:=eQ;rcases agS ⟨0,fun _=>⟨0,0,0⟩⟩ o false j l m (by omega) (by have:=hpo.2.1; omega) hv with ⟨k,q1,q2⟩ | ⟨x',q1,q2,i,q3,q4⟩
    ·rw [q1]
     simp only [ax.iM,ax.iP,bj,aj];rw [e1,da];refine .inl ⟨_,rfl,by omega,o.join l,rfl,by rw [hs]; rfl,by omega,fun k' tJ=>?_⟩;by_cases e:k' = j
     ·subst e; exact ⟨hpo,q2⟩
     ·exact kh k' (by omega)
    ·rw [q1]
     simp only [ax.iM,ax.iP,bj,aj];exact .inr ⟨_,_,rfl,rfl,.inr ⟨rfl,q2,fun k=>q4 ((k j (by omega)).2 i q3)⟩⟩
   ·have cH:(e != (0:Int))=true:=by rw [bne_iff_ne]; exact he
    rw [cH];exact .inr ⟨_,_,rfl,rfl,.inr ⟨rfl,rfl,fun k=>hpo (k j (by omega)).1⟩⟩
  ·rw [aE bh,aF]
   simp only [bj,aj];have:j=m.aG.n:=by omega
   subst this;exact .inr ⟨_,_,rfl,rfl,.inl ⟨rfl,kh,ho⟩⟩
 rw [h1];rcases h2 with ⟨rfl,h2,h3⟩ | ⟨rfl,h2,h3⟩
 ·exact ⟨_,true,rfl,.inl ⟨rfl,h2,h3⟩⟩
 ·exact ⟨_,x'.t3,rfl,.inr ⟨h2,h3⟩⟩
def W8 (q:b.tt):Prop:=0<=q.e0/\q.e0<=255/\0<=q.e1/\q.e1<=255
def YY (m:b.dm):Prop:=m.bN.n<=64/\m.uV.n<=64/\m.aG.n<=16
def AH (m:b.dm):Prop:=YY m/\m.uV.n=m.bN.n/\(∀ i,i < m.bN.n->o4 (m.bN.get i) 1024)/\(∀ i,i < m.uV.n->W8 (m.uV.get i))/\Rs m
theorem ai5 (s:Sl b.wg) (hs:s.n<=64):(∃ x',goN b.bJ (⟨s,(0:Int),((s.n:Nat):Int),(0:Int)⟩:b.bS) = .out (.exit 0) x'/\∀ i,i < s.n->o4 (s.get i) 1024)\/
  ∃ x',goN b.bJ (⟨s,(0:Int),((s.n:Nat):Int),(0:Int)⟩:b.bS) = .out .ret x'/\x'.t4 >= 0/\∃ i,i < s.n/\¬ o4 (s.get i) 1024:=by
 have key:=eJ (step:=b.bJ) s.n (by unfold dZ; omega) (fun j=>⟨s,(0:Int),((s.n:Nat):Int),(j:Int)⟩) (fun k=>o4 (s.get k) 1024) (e0:=.exit 0) (er:=.ret) rfl rfl (fun x'=>x'.t4 >= 0) (xe:=⟨s,(0:Int),((s.n:Nat):Int),((s.n:Nat):Int)⟩) (fun j hj=>by
  have e1:aV ((j:Int)+1)=((j+1:Nat):Int):=by rw [cv (by omega) (by omega)]; omega
  have d1:decide ((j:Int) < ((s.n:Nat):Int))=true:=ai (by omega);have d2:decide ((0:Int)<=(j:Int))=true:=ai (by omega);have ej:Int.toNat (j:Int)=j:=rfl;unfold b.bJ o4 uB
  dsimp only
  rw [d1,d2,ej,e1];simp only [cg,aj];generalize s.get j=v;have AK:(j:Int) >= 0:=by omega
  by_cases h1:v.x >= -1024
  ·by_cases h2:v.x<=1024
   ·by_cases h3:v.y >= -1024
    ·by_cases h4:v.y<=1024
     ·by_cases h5:v.z >= -1024
      ·by_cases h6:v.z<=1024
       ·rw [ai h1,ai h2,ai h3,ai h4,ai h5,ai h6]
        exact ⟨fun _=>rfl,fun h=>absurd ⟨⟨h1,h2⟩,⟨h3,h4⟩,h5,h6⟩ h⟩
       ·rw [ai h1,ai h2,ai h3,ai h4,ai h5,aE h6]
        exact ⟨fun h=>absurd h.2.2.2 h6,fun h=>⟨_,rfl,AK⟩⟩
      ·rw [ai h1,ai h2,ai h3,ai h4,aE h5]
       exact ⟨fun h=>absurd h.2.2.1 h5,fun h=>⟨_,rfl,AK⟩⟩
     ·rw [ai h1,ai h2,ai h3,aE h4]
      exact ⟨fun h=>absurd h.2.1.2 h4,fun h=>⟨_,rfl,AK⟩⟩
    ·rw [ai h1,ai h2,aE h3]
     exact ⟨fun h=>absurd h.2.1.1 h3,fun h=>⟨_,rfl,AK⟩⟩
   ·rw [ai h1,aE h2]
    exact ⟨fun h=>absurd h.1.2 h2,fun h=>⟨_,rfl,AK⟩⟩
  ·rw [aE h1]
   exact ⟨fun h=>absurd h.1.1 h1,fun h=>⟨_,rfl,AK⟩⟩) (by
  unfold b.bJ
  dsimp only
  rw [aE (Int.lt_irrefl _)];rfl)
 rcases key with ⟨h1,h2⟩ | ⟨x',h1,h2,h3⟩
 ·exact .inl ⟨_,h1,h2⟩
 ·exact .inr ⟨x',h1,h2,h3⟩
theorem anc (s:Sl b.tt) (hs:s.n<=64):(∃ x',goN b.bK (⟨s,(0:Int),((s.n:Nat):Int),(0:Int)⟩:b.bT) = .out (.exit 0) x'/\∀ i,i < s.n->W8 (s.get i))\/
  ∃ x',goN b.bK (⟨s,(0:Int),((s.n:Nat):Int),(0:Int)⟩:b.bT) = .out .ret x'/\x'.t4 >= 0/\∃ i,i < s.n/\¬ W8 (s.get i):=by
 have key:=eJ (step:=b.bK) s.n (by unfold dZ; omega) (fun j=>⟨s,(0:Int),((s.n:Nat):Int),(j:Int)⟩) (fun k=>W8 (s.get k)) (e0:=.exit 0) (er:=.ret) rfl rfl (fun x'=>x'.t4 >= 0) (xe:=⟨s,(0:Int),((s.n:Nat):Int),((s.n:Nat):Int)⟩) (fun j hj=>by
  have e1:aV ((j:Int)+1)=((j+1:Nat):Int):=by rw [cv (by omega) (by omega)]; omega
  have d1:decide ((j:Int) < ((s.n:Nat):Int))=true:=ai (by omega);have d2:decide ((0:Int)<=(j:Int))=true:=ai (by omega);have ej:Int.toNat (j:Int)=j:=rfl;unfold b.bK W8
  dsimp only
  rw [d1,d2,ej,e1];simp only [cg,aj];generalize s.get j=v;have AK:(j:Int) >= 0:=by omega
  by_cases h1:v.e0 < 0
  ·rw [ai h1]
   exact ⟨fun h=>absurd h.1 (by omega),fun h=>⟨_,rfl,AK⟩⟩
  ·by_cases h2:v.e0 > 255
   ·rw [aE h1,ai h2]
    exact ⟨fun h=>absurd h.2.1 (by omega),fun h=>⟨_,rfl,AK⟩⟩
   ·by_cases h3:v.e1 < 0
    ·rw [aE h1,aE h2,ai h3]
     exact ⟨fun h=>absurd h.2.2.1 (by omega),fun h=>⟨_,rfl,AK⟩⟩
    ·by_cases h4:v.e1 > 255
     ·rw [aE h1,aE h2,aE h3,ai h4]
      exact ⟨fun h=>absurd h.2.2.2 (by omega),fun h=>⟨_,rfl,AK⟩⟩
     ·rw [aE h1,aE h2,aE h3,aE h4]
      exact ⟨fun _=>rfl,fun h=>absurd ⟨by omega,by omega,by omega,by omega⟩ h⟩) (by
  unfold b.bK
  dsimp only
  rw [aE (Int.lt_irrefl _)];rfl)
 rcases key with ⟨h1,h2⟩ | ⟨x',h1,h2,h3⟩
 ·exact .inl ⟨_,h1,h2⟩
 ·exact .inr ⟨x',h1,h2,h3⟩
open Classical in
noncomputable def DB (m:b.dm):Int:=if YY m then (if AH m then 0 else 40) else 4
theorem akM (m:b.dm) (hk:wA m):b.sL m=some (DB m):=by
 unfold b.sL b.vi b.vh DB;by_cases h1:((m.bN.n:Nat):Int) > 64
 ·rw [ai h1,ak fun k=>by have:=k.1; omega]; rfl
 rw [aE h1];by_cases h2:((m.uV.n:Nat):Int) > 64
 ·rw [ai h2,ak fun k=>by have:=k.2.1; omega]; rfl
 rw [aE h2];by_cases h3:((m.aG.n:Nat):Int) > 16
 ·rw [ai h3,ak fun k=>by have:=k.2.2; omega]; rfl
 rw [aE h3];have hf:YY m:=⟨by omega,by omega,by omega⟩
 rw [aI hf];simp only [aF];by_cases h4:((m.uV.n:Nat):Int)=((m.bN.n:Nat):Int)
 ·rw [bne_eq_false_iff_eq.2 h4,aF]
  unfold b.wU b.wV b.D9;rcases ai5 m.bN hf.1 with ⟨x',q1,q2⟩ | ⟨x',q1,q2,i,q3,q4⟩
  ·rw [q1]
   rcases anc m.uV hf.2.1 with ⟨y',r1,r2⟩ | ⟨y',r1,r2,i,r3,r4⟩
   ·rw [r1]
    obtain ⟨l,r,s1,s2⟩:=akK m hk (by have:=hf.2.2; omega);rw [s1];cases r with
    | true=>rw [aI ⟨hf,by omega,q2,r2,s2.1 rfl⟩]; rfl
    | false=>rw [ak fun k=>by have:=s2.2 k.2.2.2.2; simp at this]; rfl
   ·rw [r1,ak fun k=>r4 (k.2.2.2.1 i r3)]
    simp only [ax.iM,ax.iP,r2,decide_true];rfl
  ·rw [q1,ak fun k=>q4 (k.2.2.1 i q3)]
   simp only [ax.iM,ax.iP,q2,decide_true];rfl
 ·rw [bne_iff_ne.2 h4,ak fun k=>h4 (by rw [k.2.1])]; rfl
theorem akN (m:b.dm) (hv:m.bN.n<=64) (hu:m.uV.n=m.bN.n):(∃ k,goN b.jm (⟨false,(0:Int),m⟩:b.gD) = .out (.exit 0) ⟨false,k,m⟩/\∀ i,i < m.bN.n->o4 (m.bN.get i) 1024/\W8 (m.uV.get i))\/
  ∃ x',goN b.jm (⟨false,(0:Int),m⟩:b.gD) = .out .ret x'/\x'.t2=false/\∃ i,i < m.bN.n/\¬ (o4 (m.bN.get i) 1024/\W8 (m.uV.get i)):=by
 have key:=eJ (step:=b.jm) m.bN.n (by unfold dZ; omega) (fun j=>⟨false,(j:Int),m⟩) (fun i=>o4 (m.bN.get i) 1024/\W8 (m.uV.get i)) (e0:=.exit 0) (er:=.ret) rfl rfl (fun x'=>x'.t2=false) (xe:=⟨false,((m.bN.n:Nat):Int),m⟩) (fun j hj=>by
  have e1:aV ((j:Int)+1)=((j+1:Nat):Int):=by rw [cv (by omega) (by omega)]; omega
  have d1:decide ((j:Int) < ((m.bN.n:Nat):Int))=true:=ai (by omega);have d2:decide ((0:Int)<=(j:Int))=true:=ai (by omega);have d3:decide ((j:Int) < ((m.uV.n:Nat):Int))=true:=ai (by omega);have ej:Int.toNat (j:Int)=j:=rfl;unfold b.jm b.DZ b.D0 b.D1 b.D2 b.D3 o4 uB W8
  dsimp only
  rw [d1,d2,d3,ej,e1,Gf,Gf,Gf,Gf,Gf];simp only [cg,aj,dB,db];generalize m.bN.get j=v;generalize m.uV.get j=u;by_cases h1 : -1024<=v.x/\v.x<=1024
  ·by_cases h2 : -1024<=v.y/\v.y<=1024
   ·by_cases h3 : -1024<=v.z/\v.z<=1024
    ·by_cases h4:0<=u.e0/\u.e0<=255
     ·by_cases h5:0<=u.e1/\u.e1<=255
      ·rw [ai h1,ai h2,ai h3,ai h4,ai h5]
       exact ⟨fun _=>rfl,fun h=>absurd ⟨⟨h1,h2,h3⟩,h4.1,h4.2,h5⟩ h⟩
      ·rw [ai h1,ai h2,ai h3,ai h4,aE h5]
       exact ⟨fun h=>absurd h.2.2.2 h5,fun h=>⟨_,rfl,rfl⟩⟩
     ·rw [ai h1,ai h2,ai h3,aE h4]
      exact ⟨fun h=>absurd ⟨h.2.1,h.2.2.1⟩ h4,fun h=>⟨_,rfl,rfl⟩⟩
    ·rw [ai h1,ai h2,aE h3]
     exact ⟨fun h=>absurd h.1.2.2 h3,fun h=>⟨_,rfl,rfl⟩⟩
   ·rw [ai h1,aE h2]
    exact ⟨fun h=>absurd h.1.2.1 h2,fun h=>⟨_,rfl,rfl⟩⟩
  ·rw [aE h1]
   exact ⟨fun h=>absurd h.1.1 h1,fun h=>⟨_,rfl,rfl⟩⟩) (by
  unfold b.jm
  dsimp only
  rw [aE (Int.lt_irrefl _)];rfl)
 rcases key with ⟨h1,h2⟩ | ⟨x',h1,h2,h3⟩
 ·exact .inl ⟨_,h1,h2⟩
 ·exact .inr ⟨x',h1,h2,h3⟩
theorem akO (m:b.dm) (hk:wA m) (hf:YY m):∃ r,b.BO m=some r/\(r=true↔AH m):=by
 unfold b.BO;by_cases h4:((m.uV.n:Nat):Int)=((m.bN.n:Nat):Int)
 ·rw [bne_eq_false_iff_eq.2 h4,aF]
  unfold b.FU b.zU;rcases akN m hf.1 (by omega) with ⟨k,q1,q2⟩ | ⟨x',q1,q2,i,q3,q4⟩
  ·rw [q1]
   obtain ⟨l,r,s1,s2⟩:=akL m hk hf.2.2 (by have:=hf.1; omega);simp only [ax.iM,ax.iP,s1,dB,db,aj];rcases s2 with ⟨rfl,s2,s3⟩ | ⟨rfl,s2⟩
   ·refine ⟨_,rfl,?_⟩
    simp only [lR];exact ⟨fun h=>⟨hf,by omega,fun i hi=>(q2 i hi).1,fun i hi=>(q2 i (by omega)).2,s2,by omega⟩,fun h=>by have:=h.2.2.2.2.2; omega⟩
   ·exact ⟨false,rfl,⟨fun h=>by simp at h,fun h=>absurd h.2.2.2.2.1 s2⟩⟩
  ·rw [q1]
   exact ⟨x'.t2,rfl,⟨fun h=>by rw [q2] at h; simp at h,fun h=>absurd ⟨h.2.2.1 i q3,h.2.2.2.1 i (by omega)⟩ q4⟩⟩
 ·rw [bne_iff_ne.2 h4]
  exact ⟨false,rfl,⟨fun h=>by simp at h,fun h=>absurd (by rw [h.2.1]) h4⟩⟩
theorem ai6 (m:b.dm) (hk:wA m):b.va m=some (DB m):=by
 unfold b.va DB;by_cases h1:((m.bN.n:Nat):Int) > 64
 ·rw [ai h1,ak fun k=>by have:=k.1; omega]; rfl
 rw [aE h1];by_cases h2:((m.uV.n:Nat):Int) > 64
 ·rw [ai h2,ak fun k=>by have:=k.2.1; omega]; rfl
 rw [aE h2];by_cases h3:((m.aG.n:Nat):Int) > 16
 ·rw [ai h3,ak fun k=>by have:=k.2.2; omega]; rfl
 rw [aE h3];have hf:YY m:=⟨by omega,by omega,by omega⟩
 rw [aI hf];unfold b.Hj;obtain ⟨r,s1,s2⟩:=akO m hk hf;rw [s1];cases r with
 | true=>rw [aI (s2.1 rfl)]; rfl
 | false=>rw [ak fun k=>by have:=s2.2 k; simp at this]; rfl
def NB (l:b.gY):Prop:=-1<=l.ca/\l.ca < 16/\l.gW<=2/\-1024<=l.gq/\l.gq<=1024/\0<=l.bin/\l.bin<=15
theorem apA {p:Prop} [Decidable p] {x:Option Int} {Q:Prop} (h1:p->¬ Q) (h2 : ¬ p->∃ e,x=some e/\(e=0/\Q\/e=8/\¬ Q)):∃ e,cond (decide p) (some 8) x=some e/\(e=0/\Q\/e=8/\¬ Q):=by
 by_cases h:p
 ·rw [ai h]
  exact ⟨8,rfl,.inr ⟨rfl,h1 h⟩⟩
 ·rw [aE h]
  exact h2 h
theorem apB {p:Prop} [Decidable p] {x:Option Bool} {Q:Prop} (h1 : ¬ p->¬ Q) (h2:p->∃ r,x=some r/\(r=true↔Q)):∃ r,cond (decide p) x (some false)=some r/\(r=true↔Q):=by
 by_cases h:p
 ·rw [ai h]; exact h2 h
 ·rw [aE h]; exact ⟨false,rfl,⟨fun k=>by simp at k,fun k=>absurd k (h1 h)⟩⟩
theorem akP (l:b.gY):∃ e,b.ln l=some e/\(e=0/\NB l\/e=8/\¬ NB l):=by
 unfold b.ln NB
 iterate 7 refine apA (fun h k=>by omega) fun _=>?_
 exact ⟨0,rfl,.inl ⟨rfl,by omega⟩⟩
theorem ai7 (l:b.gY):∃ r,b.qO l=some r/\(r=true↔NB l):=by
 unfold b.qO NB
 iterate 6 refine apB (fun h k=>by omega) fun _=>?_
 exact ⟨_,rfl,by rw [decide_eq_true_iff]; omega⟩
def dG (n:Int):Prop:=n=0\/n=1\/n=3\/n=5\/n=7
def QS (s:b.bR) (l:b.gY):b.gY:=if s.aU.e0=0 then l else ⟨s.look.color,l.ca,l.gW,l.gq,l.eH,l.bin⟩
theorem ar2 (t:Int) (s:b.bR) (l:b.gY):(dG s.aU.e0->b.bx ⟨t,0,s,l⟩ = .next ⟨t,1,s,QS s l⟩)/\(¬ dG s.aU.e0->∃ x',b.bx ⟨t,0,s,l⟩ = .out .ret x'/\x'.t2=8):=by
 unfold b.bx b.dR b.dQ b.dP b.dN b.dM dG QS
 dsimp only
 have e1:aV ((0:Int)+1)=1:=by decide
 rw [e1];constructor
 ·rintro (h | h | h | h | h) <;> rw [h] <;> rfl
 ·intro h
  rw [beq_eq_false_iff_ne.2 (fun k=>h (by omega):s.aU.e0≠0),beq_eq_false_iff_ne.2 (fun k=>h (by omega):s.aU.e0≠1),beq_eq_false_iff_ne.2 (fun k=>h (by omega):s.aU.e0≠3),beq_eq_false_iff_ne.2 (fun k=>h (by omega):s.aU.e0≠5),beq_eq_false_iff_ne.2 (fun k=>h (by omega):s.aU.e0≠7)];exact ⟨_,rfl,rfl⟩
def UH (s:b.bR) (l:b.gY):b.gY:=if s.aU.e1=0 then l else ⟨l.color,s.look.ca,l.gW,l.gq,l.eH,l.bin⟩
theorem ar3 (t:Int) (s:b.bR) (l:b.gY):(dG s.aU.e1->b.bx ⟨t,1,s,l⟩ = .next ⟨t,2,s,UH s l⟩)/\(¬ dG s.aU.e1->∃ x',b.bx ⟨t,1,s,l⟩ = .out .ret x'/\x'.t2=8):=by
 unfold b.bx b.dR b.dQ b.dP b.dN b.dM dG UH
 dsimp only
 have e1:aV ((1:Int)+1)=2:=by decide
 rw [e1];constructor
 ·rintro (h | h | h | h | h) <;> rw [h] <;> rfl
 ·intro h
  rw [beq_eq_false_iff_ne.2 (fun k=>h (by omega):s.aU.e1≠0),beq_eq_false_iff_ne.2 (fun k=>h (by omega):s.aU.e1≠1),beq_eq_false_iff_ne.2 (fun k=>h (by omega):s.aU.e1≠3),beq_eq_false_iff_ne.2 (fun k=>h (by omega):s.aU.e1≠5),beq_eq_false_iff_ne.2 (fun k=>h (by omega):s.aU.e1≠7)];exact ⟨_,rfl,rfl⟩
def YZ (s:b.bR) (l:b.gY):b.gY:=if s.aU.e2=0 then l else ⟨l.color,l.ca,s.look.gW,l.gq,l.eH,l.bin⟩
theorem ar4 (t:Int) (s:b.bR) (l:b.gY):(dG s.aU.e2->b.bx ⟨t,2,s,l⟩ = .next ⟨t,3,s,YZ s l⟩)/\(¬ dG s.aU.e2->∃ x',b.bx ⟨t,2,s,l⟩ = .out .ret x'/\x'.t2=8):=by
 unfold b.bx b.dR b.dQ b.dP b.dN b.dM dG YZ
 dsimp only
 have e1:aV ((2:Int)+1)=3:=by decide
 rw [e1];constructor
 ·rintro (h | h | h | h | h) <;> rw [h] <;> rfl
 ·intro h
  rw [beq_eq_false_iff_ne.2 (fun k=>h (by omega):s.aU.e2≠0),beq_eq_false_iff_ne.2 (fun k=>h (by omega):s.aU.e2≠1),beq_eq_false_iff_ne.2 (fun k=>h (by omega):s.aU.e2≠3),beq_eq_false_iff_ne.2 (fun k=>h (by omega):s.aU.e2≠5),beq_eq_false_iff_ne.2 (fun k=>h (by omega):s.aU.e2≠7)];exact ⟨_,rfl,rfl⟩
def adL (s:b.bR) (l:b.gY):b.gY:=if s.aU.e3=0 then l else ⟨l.color,l.ca,l.gW,s.look.gq,l.eH,l.bin⟩
theorem ar5 (t:Int) (s:b.bR) (l:b.gY):(dG s.aU.e3->b.bx ⟨t,3,s,l⟩ = .next ⟨t,4,s,adL s l⟩)/\(¬ dG s.aU.e3->∃ x',b.bx ⟨t,3,s,l⟩ = .out .ret x'/\x'.t2=8):=by
 unfold b.bx b.dR b.dQ b.dP b.dN b.dM dG adL
 dsimp only
 have e1:aV ((3:Int)+1)=4:=by decide
 rw [e1];constructor
 ·rintro (h | h | h | h | h) <;> rw [h] <;> rfl
 ·intro h
  rw [beq_eq_false_iff_ne.2 (fun k=>h (by omega):s.aU.e3≠0),beq_eq_false_iff_ne.2 (fun k=>h (by omega):s.aU.e3≠1),beq_eq_false_iff_ne.2 (fun k=>h (by omega):s.aU.e3≠3),beq_eq_false_iff_ne.2 (fun k=>h (by omega):s.aU.e3≠5),beq_eq_false_iff_ne.2 (fun k=>h (by omega):s.aU.e3≠7)];exact ⟨_,rfl,rfl⟩
def agT (s:b.bR) (l:b.gY):b.gY:=if s.aU.e4=0 then l else ⟨l.color,l.ca,l.gW,l.gq,s.look.eH,s.look.bin⟩
theorem ar6 (t:Int) (s:b.bR) (l:b.gY):(dG s.aU.e4->b.bx ⟨t,4,s,l⟩ = .next ⟨t,5,s,agT s l⟩)/\(¬ dG s.aU.e4->∃ x',b.bx ⟨t,4,s,l⟩ = .out .ret x'/\x'.t2=8):=by
 unfold b.bx b.dR b.dQ b.dP b.dN b.dM dG agT
 dsimp only
 have e1:aV ((4:Int)+1)=5:=by decide
 rw [e1];constructor
 ·rintro (h | h | h | h | h) <;> rw [h] <;> rfl
 ·intro h
  rw [beq_eq_false_iff_ne.2 (fun k=>h (by omega):s.aU.e4≠0),beq_eq_false_iff_ne.2 (fun k=>h (by omega):s.aU.e4≠1),beq_eq_false_iff_ne.2 (fun k=>h (by omega):s.aU.e4≠3),beq_eq_false_iff_ne.2 (fun k=>h (by omega):s.aU.e4≠5),beq_eq_false_iff_ne.2 (fun k=>h (by omega):s.aU.e4≠7)];exact ⟨_,rfl,rfl⟩
def mU:b.gY:=⟨⟨0,0,0,0⟩,0,0,0,false,0⟩
def said (s:b.bR):b.gY:=agT s (adL s (YZ s (UH s (QS s mU))))
def Jh (s:b.bR):Prop:=dG s.aU.e0/\dG s.aU.e1/\dG s.aU.e2/\dG s.aU.e3/\dG s.aU.e4
def wB (s:b.bR):Prop:=Jh s/\said s=s.look/\NB s.look
theorem akQ (s:b.bR):(goN b.bx (⟨0,0,s,mU⟩:b.cq) = .out (.exit 0) ⟨0,5,s,said s⟩/\Jh s)\/∃ x',goN b.bx (⟨0,0,s,mU⟩:b.cq) = .out .ret x'/\x'.t2=8/\¬ Jh s:=by
 have key:=eJ (step:=b.bx) 5 (by unfold dZ; omega) (fun j=>match j with
  | 0=>⟨0,0,s,mU⟩
  | 1=>⟨0,1,s,QS s mU⟩
  | 2=>⟨0,2,s,UH s (QS s mU)⟩
  | 3=>⟨0,3,s,YZ s (UH s (QS s mU))⟩
  | 4=>⟨0,4,s,adL s (YZ s (UH s (QS s mU)))⟩
  | _=>⟨0,5,s,said s⟩) (fun j=>match j with
  | 0=>dG s.aU.e0
  | 1=>dG s.aU.e1
  | 2=>dG s.aU.e2
  | 3=>dG s.aU.e3
  | _=>dG s.aU.e4) (e0:=.exit 0) (er:=.ret) rfl rfl (fun x'=>x'.t2=8) (xe:=⟨0,5,s,said s⟩) (fun j hj=>by
   rcases (by omega:j=0\/j=1\/j=2\/j=3\/j=4) with rfl | rfl | rfl | rfl | rfl
   ·exact ar2 0 s _
   ·exact ar3 0 s _
   ·exact ar4 0 s _
   ·exact ar5 0 s _
   ·exact ar6 0 s _) rfl
 rcases key with ⟨h1,h2⟩ | ⟨x',h1,h2,j,h3,h4⟩
 ·exact .inl ⟨h1,h2 0 (by omega),h2 1 (by omega),h2 2 (by omega),h2 3 (by omega),h2 4 (by omega)⟩
 ·refine .inr ⟨x',h1,h2,fun k=>h4 ?_⟩
  obtain ⟨k0,k1,k2,k3,k4⟩:=k;rcases (by omega:j=0\/j=1\/j=2\/j=3\/j=4) with rfl | rfl | rfl | rfl | rfl <;> assumption
theorem look_eq (a c:b.gY):((a.color.e0==c.color.e0)&&((a.color.e1==c.color.e1)&&((a.color.e2==c.color.e2)&&((a.color.e3==c.color.e3)&&((a.ca==c.ca)&&((a.gW==c.gW)&&((a.gq==c.gq)&&((a.eH==c.eH)&&((a.bin==c.bin)&&true)))))))))=true↔a=c:=by
 obtain ⟨⟨a0,a1,a2,a3⟩,a4,a5,a6,a7,a8⟩:=a;obtain ⟨⟨c0,c1,c2,c3⟩,c4,c5,c6,c7,c8⟩:=c;simp [au,and_assoc]
theorem Z6 (s:b.bR):∃ e,b.ny s=some e/\(e=0/\wB s\/e=8/\¬ wB s):=by
 unfold b.ny b.zB b.cd;have e0:(⟨0,0,s,⟨⟨0,0,0,0⟩,0,0,0,false,0⟩⟩:b.cq)=⟨0,0,s,mU⟩:=rfl;rw [e0];rcases akQ s with ⟨h1,h2⟩ | ⟨x',h1,h2,h3⟩
 ·rw [h1]
  simp only [ax.iM,ax.iP];by_cases hl:said s=s.look
  ·rw [(look_eq _ _).2 hl]
   obtain ⟨e,q1,q2⟩:=akP s.look;rw [q1];refine ⟨e,rfl,?_⟩;rcases q2 with ⟨rfl,q2⟩ | ⟨rfl,q2⟩
   ·exact .inl ⟨rfl,h2,hl,q2⟩
   ·exact .inr ⟨rfl,fun k=>q2 k.2.2⟩
  ·rw [Bool.eq_false_iff.2 fun k=>hl ((look_eq _ _).1 k)]
   exact ⟨8,rfl,.inr ⟨rfl,fun k=>hl k.2.1⟩⟩
 ·rw [h1]
  exact ⟨x'.t2,rfl,.inr ⟨h2,fun k=>h3 k.1⟩⟩
theorem cc {α:Type} (a c:Bool) (F X:α):cond a (cond c F X) X=cond (a&&c) F X:=by cases a <;> cases c <;> rfl
theorem cc2 {α:Type} (a c d:Bool) (F X:α):cond a (cond c F (cond d F X)) X=cond (a&&(c||d)) F X:=by cases a <;> cases c <;> cases d <;> rfl
def CX (s:b.bR):Prop:=(0<=s.aU.e0/\s.aU.e0<=255)/\(0<=s.aU.e1/\s.aU.e1<=255)/\(0<=s.aU.e2/\s.aU.e2<=255)/\(0<=s.aU.e3/\s.aU.e3<=255)/\(0<=s.aU.e4/\s.aU.e4<=255)
theorem aqT (t:Bool) (s:b.bR) (h0:0<=s.aU.e0):(dG s.aU.e0->b.cr ⟨t,0,s⟩ = .next ⟨t,1,s⟩)/\(¬ dG s.aU.e0->∃ x',b.cr ⟨t,0,s⟩ = .out .ret x'/\x'.t2=false):=by
 unfold b.cr dG
 dsimp only
 have e1:aV ((0:Int)+1)=1:=by decide
 rw [e1];constructor
 ·rintro (h | h | h | h | h) <;> rw [h] <;> rfl
 ·intro h
  by_cases h7:s.aU.e0 > 7
  ·rw [ai h7]
   exact ⟨_,rfl,rfl⟩
  ·rcases (by omega:s.aU.e0=2\/s.aU.e0=4\/s.aU.e0=6) with q | q | q <;> rw [q] <;> exact ⟨_,rfl,rfl⟩
theorem aqU (t:Bool) (s:b.bR) (h0:0<=s.aU.e1):(dG s.aU.e1->b.cr ⟨t,1,s⟩ = .next ⟨t,2,s⟩)/\(¬ dG s.aU.e1->∃ x',b.cr ⟨t,1,s⟩ = .out .ret x'/\x'.t2=false):=by
 unfold b.cr dG
 dsimp only
 have e1:aV ((1:Int)+1)=2:=by decide
 rw [e1];constructor
 ·rintro (h | h | h | h | h) <;> rw [h] <;> rfl
 ·intro h
  by_cases h7:s.aU.e1 > 7
  ·rw [ai h7]
   exact ⟨_,rfl,rfl⟩
  ·rcases (by omega:s.aU.e1=2\/s.aU.e1=4\/s.aU.e1=6) with q | q | q <;> rw [q] <;> exact ⟨_,rfl,rfl⟩
theorem aqV (t:Bool) (s:b.bR) (h0:0<=s.aU.e2):(dG s.aU.e2->b.cr ⟨t,2,s⟩ = .next ⟨t,3,s⟩)/\(¬ dG s.aU.e2->∃ x',b.cr ⟨t,2,s⟩ = .out .ret x'/\x'.t2=false):=by
 unfold b.cr dG
 dsimp only
 have e1:aV ((2:Int)+1)=3:=by decide
 rw [e1];constructor
 ·rintro (h | h | h | h | h) <;> rw [h] <;> rfl
 ·intro h
  by_cases h7:s.aU.e2 > 7
  ·rw [ai h7]
   exact ⟨_,rfl,rfl⟩
  ·rcases (by omega:s.aU.e2=2\/s.aU.e2=4\/s.aU.e2=6) with q | q | q <;> rw [q] <;> exact ⟨_,rfl,rfl⟩
theorem aqW (t:Bool) (s:b.bR) (h0:0<=s.aU.e3):(dG s.aU.e3->b.cr ⟨t,3,s⟩ = .next ⟨t,4,s⟩)/\(¬ dG s.aU.e3->∃ x',b.cr ⟨t,3,s⟩ = .out .ret x'/\x'.t2=false):=by
 unfold b.cr dG
 dsimp only
 have e1:aV ((3:Int)+1)=4:=by decide
 rw [e1];constructor
 ·rintro (h | h | h | h | h) <;> rw [h] <;> rfl
 ·intro h
  by_cases h7:s.aU.e3 > 7
  ·rw [ai h7]
   exact ⟨_,rfl,rfl⟩
  ·rcases (by omega:s.aU.e3=2\/s.aU.e3=4\/s.aU.e3=6) with q | q | q <;> rw [q] <;> exact ⟨_,rfl,rfl⟩
theorem aqX (t:Bool) (s:b.bR) (h0:0<=s.aU.e4):(dG s.aU.e4->b.cr ⟨t,4,s⟩ = .next ⟨t,5,s⟩)/\(¬ dG s.aU.e4->∃ x',b.cr ⟨t,4,s⟩ = .out .ret x'/\x'.t2=false):=by
 unfold b.cr dG
 dsimp only
 have e1:aV ((4:Int)+1)=5:=by decide
 rw [e1];constructor
 ·rintro (h | h | h | h | h) <;> rw [h] <;> rfl
 ·intro h
  by_cases h7:s.aU.e4 > 7
  ·rw [ai h7]
   exact ⟨_,rfl,rfl⟩
  ·rcases (by omega:s.aU.e4=2\/s.aU.e4=4\/s.aU.e4=6) with q | q | q <;> rw [q] <;> exact ⟨_,rfl,rfl⟩
theorem ai8 (s:b.bR) (hs:CX s):(goN b.cr (⟨false,0,s⟩:b.mF) = .out (.exit 0) ⟨false,5,s⟩/\Jh s)\/∃ x',goN b.cr (⟨false,0,s⟩:b.mF) = .out .ret x'/\x'.t2=false/\¬ Jh s:=by
 obtain ⟨⟨s0,_⟩,⟨s1,_⟩,⟨s2,_⟩,⟨s3,_⟩,⟨s4,_⟩⟩:=hs;have key:=eJ (step:=b.cr) 5 (by unfold dZ; omega) (fun j=>match j with
  | 0=>⟨false,0,s⟩
  | 1=>⟨false,1,s⟩
  | 2=>⟨false,2,s⟩
  | 3=>⟨false,3,s⟩
  | 4=>⟨false,4,s⟩
  | _=>⟨false,5,s⟩) (fun j=>match j with
  | 0=>dG s.aU.e0
  | 1=>dG s.aU.e1
  | 2=>dG s.aU.e2
  | 3=>dG s.aU.e3
  | _=>dG s.aU.e4) (e0:=.exit 0) (er:=.ret) rfl rfl (fun x'=>x'.t2=false) (xe:=⟨false,5,s⟩) (fun j hj=>by
   rcases (by omega:j=0\/j=1\/j=2\/j=3\/j=4) with rfl | rfl | rfl | rfl | rfl
   ·exact aqT _ s s0
   ·exact aqU _ s s1
   ·exact aqV _ s s2
   ·exact aqW _ s s3
   ·exact aqX _ s s4) rfl
 rcases key with ⟨h1,h2⟩ | ⟨x',h1,h2,j,h3,h4⟩
 ·exact .inl ⟨h1,h2 0 (by omega),h2 1 (by omega),h2 2 (by omega),h2 3 (by omega),h2 4 (by omega)⟩
 ·refine .inr ⟨x',h1,h2,fun k=>h4 ?_⟩
  obtain ⟨k0,k1,k2,k3,k4⟩:=k;rcases (by omega:j=0\/j=1\/j=2\/j=3\/j=4) with rfl | rfl | rfl | rfl | rfl <;> assumption
theorem ane (s:b.bR):said s=s.look↔(s.aU.e0=0->s.look.color=⟨0,0,0,0⟩)/\(s.aU.e1=0->s.look.ca=0)/\(s.aU.e2=0->s.look.gW=0)/\(s.aU.e3=0->s.look.gq=0)/\(s.aU.e4=0->s.look.eH=false/\s.look.bin=0):=by
 obtain ⟨⟨e0,e1,e2,e3,e4⟩,⟨c,t,u,i,bl,n⟩⟩:=s;unfold said agT adL YZ UH QS mU
 dsimp only
 by_cases h0:e0=0 <;> by_cases h1:e1=0 <;> by_cases h2:e2=0 <;> by_cases h3:e3=0 <;> by_cases h4:e4=0 <;> simp [h0,h1,h2,h3,h4,eq_comm,and_assoc]
theorem ke {p:Prop} {c:Bool} {x:Option Bool} {Q:Prop} (hc:c=true↔p) (h1:p->¬ Q) (h2 : ¬ p->∃ r,x=some r/\(r=true↔Q)):∃ r,cond c (some false) x=some r/\(r=true↔Q):=by
 cases c with
 | true=>exact ⟨false,rfl,⟨fun k=>by simp at k,fun k=>absurd k (h1 (hc.1 rfl))⟩⟩
 | false=>exact h2 fun k=>by have:=hc.2 k; simp at this
theorem W9 (s:b.bR) (hs:CX s):∃ r,b.xB s=some r/\(r=true↔wB s):=by
 unfold b.xB b.CM b.CJ b.CI b.CH b.zG b.eN;rcases ai8 s hs with ⟨h1,h2⟩ | ⟨x',h1,h2,h3⟩
 ·rw [h1]
  obtain ⟨r,q1,q2⟩:=ai7 s.look;simp only [ax.iM,ax.iP,q1,dB,db,aj,cc2,cc];show ∃ r_1,cond _ (some false) _=some r_1/\_;have key:wB s↔Jh s/\said s=s.look/\NB s.look:=Iff.rfl;have Y0:=ane s;have ar7:((s.look.color.e0==0)&&((s.look.color.e1==0)&&((s.look.color.e2==0)&&((s.look.color.e3==0)&&true))))=true↔s.look.color=⟨0,0,0,0⟩:=by
   obtain ⟨a,c,d,e⟩:=s.look.color;simp
  refine ke (p:=s.aU.e0=0/\s.look.color≠⟨0,0,0,0⟩) ?_ (fun h k=>h.2 ((Y0.1 k.2.1).1 h.1)) fun n0=>?_
  ·rw [au,iX,jT,<- Bool.not_eq_true,ar7]
  refine ke (p:=s.aU.e1=0/\s.look.ca≠0) (by simp) (fun h k=>h.2 ((Y0.1 k.2.1).2.1 h.1)) fun n1=>?_;refine ke (p:=s.aU.e2=0/\s.look.gW≠0) (by simp) (fun h k=>h.2 ((Y0.1 k.2.1).2.2.1 h.1)) fun n2=>?_;refine ke (p:=s.aU.e3=0/\s.look.gq≠0) (by simp) (fun h k=>h.2 ((Y0.1 k.2.1).2.2.2.1 h.1)) fun n3=>?_;refine ke (p:=s.aU.e4=0/\(s.look.eH=true\/s.look.bin≠0)) (by simp) (fun h k=>by
   obtain ⟨g1,g2⟩:=(Y0.1 k.2.1).2.2.2.2 h.1;rcases h.2 with h | h
   ·rw [g1] at h; simp at h
   ·exact h g2) fun n4=>?_
  refine ⟨r,rfl,q2.trans ⟨fun h=>⟨h2,Y0.2 ⟨fun k=>Classical.byContradiction fun w=>n0 ⟨k,w⟩,fun k=>Classical.byContradiction fun w=>n1 ⟨k,w⟩,fun k=>Classical.byContradiction fun w=>n2 ⟨k,w⟩,fun k=>Classical.byContradiction fun w=>n3 ⟨k,w⟩,fun k=>⟨?_,Classical.byContradiction fun w=>n4 ⟨k,.inr w⟩⟩⟩,h⟩,fun h=>h.2.2⟩⟩;cases hb:s.look.eH with
  | false=>rfl
  | true=>exact absurd ⟨k,.inl hb⟩ n4
 ·rw [h1]
  exact ⟨x'.t2,rfl,⟨fun k=>by rw [h2] at k; simp at k,fun k=>absurd k.1 h3⟩⟩
def Ji (l:Sl Int):Nat->Int
 | 0=>0
 | k+1=>l.get k
def adM (l:Sl Int):Prop:=(∀ j,j < l.n->Ji l j<=l.get j/\l.get j<=8192)/\l.n<=16
theorem ai9 {l:Sl Int} {n:Nat} (h:∀ j,j < n->Ji l j<=l.get j/\l.get j<=8192):∀ j,j < n->0<=l.get j
 | 0,hj=>(h 0 hj).1
 | k+1,hj=>Int.le_trans (ai9 h k (by omega)) (h (k+1) hj).1
theorem anf (l:Sl Int) (hn:l.n < 1000000):∃ r,b.yr l=some r/\(r=true↔adM l):=by
 unfold b.yr b.wq;have key:=eJ (step:=b.iI) l.n (by unfold dZ; omega) (fun j=>⟨l,false,Ji l j,l,((l.n:Nat):Int),(j:Int)⟩) (fun j=>Ji l j<=l.get j/\l.get j<=8192) (e0:=.exit 0) (er:=.ret) rfl rfl (fun x'=>x'.t2=false) (xe:=⟨l,false,Ji l l.n,l,((l.n:Nat):Int),((l.n:Nat):Int)⟩) (fun j hj=>by
  have e1:aV ((j:Int)+1)=((j+1:Nat):Int):=by rw [cv (by omega) (by omega)]; omega
  have d1:decide ((j:Int) < ((l.n:Nat):Int))=true:=ai (by omega);have d2:decide ((0:Int)<=(j:Int))=true:=ai (by omega);have ej:Int.toNat (j:Int)=j:=rfl;unfold b.iI
  dsimp only
  rw [d1,d2,ej,e1];simp only [cg,aj];by_cases h1:l.get j < Ji l j
  ·rw [ai h1]
   exact ⟨fun h=>absurd h.1 (by omega),fun _=>⟨_,rfl,rfl⟩⟩
  ·by_cases h2:l.get j > 8192
   ·rw [aE h1,ai h2]
    exact ⟨fun h=>absurd h.2 (by omega),fun _=>⟨_,rfl,rfl⟩⟩
   ·rw [aE h1,aE h2]
    exact ⟨fun _=>rfl,fun h=>absurd ⟨by omega,by omega⟩ h⟩) (by
  unfold b.iI
  dsimp only
  rw [aE (Int.lt_irrefl _)];rfl)
 have e0:goN b.iI (⟨l,false,(0:Int),l,((l.n:Nat):Int),(0:Int)⟩:b.mO)=goN b.iI ⟨l,false,Ji l 0,l,((l.n:Nat):Int),((0:Nat):Int)⟩:=rfl;rw [e0];rcases key with ⟨h1,h2⟩ | ⟨x',h1,h2,j,h3,h4⟩
 ·rw [h1]
  refine ⟨decide (((l.n:Nat):Int)<=16),rfl,?_⟩;rw [decide_eq_true_iff];exact ⟨fun h=>⟨h2,by omega⟩,fun h=>by have:=h.2; omega⟩
 ·rw [h1]
  exact ⟨x'.t2,rfl,⟨fun h=>by rw [h2] at h; simp at h,fun h=>absurd (h.1 j h3) h4⟩⟩
theorem akR (l:Sl Int) (hn:l.n < 1000000):∃ r,b.oq l=some r/\(r=true↔adM l):=by
 unfold b.oq b.oB;have hit:∀ j:Nat,Int.toNat (((j+1:Nat):Int) - 1)=j:=fun j=>by omega
 have key:=eJ (step:=b.eO) l.n (by unfold dZ; omega) (fun j=>⟨l,false,(j:Int)⟩) (fun j=>0<=l.get j/\Ji l j<=l.get j/\l.get j<=8192) (e0:=.exit 0) (er:=.ret) rfl rfl (fun x'=>x'.t2=false) (xe:=⟨l,false,((l.n:Nat):Int)⟩) (fun j hj=>by
  have e1:aV ((j:Int)+1)=((j+1:Nat):Int):=by rw [cv (by omega) (by omega)]; omega
  have d1:decide ((j:Int) < ((l.n:Nat):Int))=true:=ai (by omega);have d2:decide ((0:Int)<=(j:Int))=true:=ai (by omega);have ej:Int.toNat (j:Int)=j:=rfl;unfold b.eO
  dsimp only
  rw [d1,d2,ej,e1];simp only [cg,aj];by_cases h1:l.get j < 0
  ·rw [ai h1]
   exact ⟨fun h=>absurd h.1 (by omega),fun _=>⟨_,rfl,rfl⟩⟩
  ·by_cases h2:l.get j > 8192
   ·rw [aE h1,ai h2]
    exact ⟨fun h=>absurd h.2.2 (by omega),fun _=>⟨_,rfl,rfl⟩⟩
   ·rw [aE h1,aE h2]
    cases j with
    | zero=>exact ⟨fun _=>rfl,fun h=>absurd ⟨by omega,show (0:Int)<=l.get 0 by omega,by omega⟩ h⟩
    | succ k=>
     have e3:aV (((k+1:Nat):Int) - 1)=((k:Nat):Int):=by rw [cv (by omega) (by omega)]; omega
     have d3:decide (((k+1:Nat):Int) > 0)=true:=ai (by omega);have d4:decide ((0:Int)<=((k:Nat):Int))=true:=ai (by omega);have d5:decide (((k:Nat):Int) < ((l.n:Nat):Int))=true:=ai (by omega);have ek:Int.toNat ((k:Nat):Int)=k:=rfl;rw [e3,d3,d4,d5,ek];simp only [cg,aj,aF];by_cases h3:l.get (k+1) < l.get k
     ·rw [ai h3]
      exact ⟨fun h=>absurd h.2.1 (by show ¬ l.get k<=l.get (k+1); omega),fun _=>⟨_,rfl,rfl⟩⟩
     ·rw [aE h3]
      exact ⟨fun _=>rfl,fun h=>absurd ⟨by omega,show l.get k<=l.get (k+1) by omega,by omega⟩ h⟩) (by
  unfold b.eO
  dsimp only
  rw [aE (Int.lt_irrefl _)];rfl)
 have e0:goN b.eO (⟨l,false,(0:Int)⟩:b.iv)=goN b.eO ⟨l,false,((0:Nat):Int)⟩:=rfl;rw [e0];rcases key with ⟨h1,h2⟩ | ⟨x',h1,h2,j,h3,h4⟩
 ·rw [h1]
  refine ⟨decide (((l.n:Nat):Int)<=16),rfl,?_⟩;rw [decide_eq_true_iff];exact ⟨fun h=>⟨fun j hj=>(h2 j hj).2,by omega⟩,fun h=>by have:=h.2; omega⟩
 ·rw [h1]
  exact ⟨x'.t2,rfl,⟨fun h=>by rw [h2] at h; simp at h,fun h=>absurd ⟨ai9 h.1 j h3,h.1 j h3⟩ h4⟩⟩
def nJ {α:Type} (a c:Sl α):Prop:=a.n=c.n/\∀ i,i < a.n->a.get i=c.get i
theorem nJ.refl {α:Type} (a:Sl α):nJ a a:=⟨rfl,fun _ _=>rfl⟩
theorem Pa (a c:Sl Int) (hn:a.n < 1000000):∃ r,b.lq a c=some r/\(r=true↔nJ a c):=by
 unfold b.lq b.oS;by_cases hq:a.n=c.n
 ·have cH:(((a.n:Nat):Int) != ((c.n:Nat):Int))=false:=by simp [hq]
  rw [cH,aF];have key:=eJ (step:=b.dA) a.n (by unfold dZ; omega) (fun j=>⟨a,c,false,((a.n:Nat):Int),(j:Int)⟩) (fun j=>a.get j=c.get j) (e0:=.exit 0) (er:=.ret) rfl rfl (fun x'=>x'.t4=false) (xe:=⟨a,c,false,((a.n:Nat):Int),((a.n:Nat):Int)⟩) (fun j hj=>by
   have e1:aV ((j:Int)+1)=((j+1:Nat):Int):=by rw [cv (by omega) (by omega)]; omega
   have d1:decide ((j:Int) < ((a.n:Nat):Int))=true:=ai (by omega);have d2:decide ((0:Int)<=(j:Int))=true:=ai (by omega);have d3:decide ((j:Int) < ((c.n:Nat):Int))=true:=ai (by omega);have ej:Int.toNat (j:Int)=j:=rfl;unfold b.dA
   dsimp only
   rw [d1,d2,d3,ej,e1];simp only [cg,aj];by_cases h1:a.get j=c.get j
   ·have:(a.get j != c.get j)=false:=by simp [h1]
    rw [this];exact ⟨fun _=>rfl,fun h=>absurd h1 h⟩
   ·have:(a.get j != c.get j)=true:=by simp [h1]
    rw [this];exact ⟨fun h=>absurd h h1,fun _=>⟨_,rfl,rfl⟩⟩) (by
   unfold b.dA
   dsimp only
   rw [aE (Int.lt_irrefl _)];rfl)
  have e0:goN b.dA (⟨a,c,false,((a.n:Nat):Int),(0:Int)⟩:b.fK)=goN b.dA ⟨a,c,false,((a.n:Nat):Int),((0:Nat):Int)⟩:=rfl;rw [e0];rcases key with ⟨h1,h2⟩ | ⟨x',h1,h2,j,h3,h4⟩
  ·rw [h1]
   exact ⟨true,rfl,⟨fun _=>⟨hq,h2⟩,fun _=>rfl⟩⟩
  ·rw [h1]
   exact ⟨x'.t4,rfl,⟨fun h=>by rw [h2] at h; simp at h,fun h=>absurd (h.2 j h3) h4⟩⟩
 ·have cH:(((a.n:Nat):Int) != ((c.n:Nat):Int))=true:=by simp; omega
  rw [cH,aj];exact ⟨false,rfl,⟨fun h=>by simp at h,fun h=>absurd h.1 hq⟩⟩
theorem Y1 (a c:Sl Int) (hn:a.n < 1000000):∃ r,b.mN a c=some r/\(r=true↔nJ a c):=by
 unfold b.mN b.vb;by_cases hq:a.n=c.n
 ·have cH:(((a.n:Nat):Int) != ((c.n:Nat):Int))=false:=by simp [hq]
  rw [cH,aF];have key:=eJ (step:=b.fI) a.n (by unfold dZ; omega) (fun j=>⟨a,c,false,(j:Int)⟩) (fun j=>a.get j=c.get j) (e0:=.exit 0) (er:=.ret) rfl rfl (fun x'=>x'.t4=false) (xe:=⟨a,c,false,((a.n:Nat):Int)⟩) (fun j hj=>by
   have e1:aV ((j:Int)+1)=((j+1:Nat):Int):=by rw [cv (by omega) (by omega)]; omega
   have d1:decide ((j:Int) < ((a.n:Nat):Int))=true:=ai (by omega);have d2:decide ((0:Int)<=(j:Int))=true:=ai (by omega);have d3:decide ((j:Int) < ((c.n:Nat):Int))=true:=ai (by omega);have ej:Int.toNat (j:Int)=j:=rfl;unfold b.fI
   dsimp only
   rw [d1,d2,d3,ej,e1];simp only [cg,aj];by_cases h1:a.get j=c.get j
   ·have:(a.get j != c.get j)=false:=by simp [h1]
    rw [this];exact ⟨fun _=>rfl,fun h=>absurd h1 h⟩
   ·have:(a.get j != c.get j)=true:=by simp [h1]
    rw [this];exact ⟨fun h=>absurd h h1,fun _=>⟨_,rfl,rfl⟩⟩) (by
   unfold b.fI
   dsimp only
   rw [aE (Int.lt_irrefl _)];rfl)
  have e0:goN b.fI (⟨a,c,false,(0:Int)⟩:b.jI)=goN b.fI ⟨a,c,false,((0:Nat):Int)⟩:=rfl;rw [e0];rcases key with ⟨h1,h2⟩ | ⟨x',h1,h2,j,h3,h4⟩
  ·rw [h1]
   exact ⟨true,rfl,⟨fun _=>⟨hq,h2⟩,fun _=>rfl⟩⟩
  ·rw [h1]
   exact ⟨x'.t4,rfl,⟨fun h=>by rw [h2] at h; simp at h,fun h=>absurd (h.2 j h3) h4⟩⟩
 ·have cH:(((a.n:Nat):Int) != ((c.n:Nat):Int))=true:=by simp; omega
  rw [cH,aj];exact ⟨false,rfl,⟨fun h=>by simp at h,fun h=>absurd h.1 hq⟩⟩
def sQ (a c:b.Node):Prop:=a.kind=c.kind/\a.fG=c.fG/\a.s6=c.s6/\a.fH=c.fH/\nJ a.lO c.lO/\a.sq=c.sq/\a.bB=c.bB
theorem agU (a c:b.Le):((a.m.e0.e0==c.m.e0.e0)&&((a.m.e0.e1==c.m.e0.e1)&&((a.m.e0.e2==c.m.e0.e2)&&((a.m.e1.e0==c.m.e1.e0)&&((a.m.e1.e1==c.m.e1.e1)&&((a.m.e1.e2==c.m.e1.e2)&&((a.m.e2.e0==c.m.e2.e0)&&((a.m.e2.e1==c.m.e2.e1)&&((a.m.e2.e2==c.m.e2.e2)&&((a.t.x==c.t.x)&&((a.t.y==c.t.y)&&((a.t.z==c.t.z)&&true))))))))))))=true↔a=c:=by
 obtain ⟨⟨⟨a0,a1,a2⟩,⟨a3,a4,a5⟩,⟨a6,a7,a8⟩⟩,⟨a9,a10,a11⟩⟩:=a;obtain ⟨⟨⟨c0,c1,c2⟩,⟨c3,c4,c5⟩,⟨c6,c7,c8⟩⟩,⟨c9,c10,c11⟩⟩:=c;simp [and_assoc]
theorem Xa (a c:b.wg):((a.x==c.x)&&((a.y==c.y)&&((a.z==c.z)&&true)))=true↔a=c:=by
 obtain ⟨a0,a1,a2⟩:=a;obtain ⟨c0,c1,c2⟩:=c;simp
theorem afB (a c:b.bR):((a.aU.e0==c.aU.e0)&&((a.aU.e1==c.aU.e1)&&((a.aU.e2==c.aU.e2)&&((a.aU.e3==c.aU.e3)&&((a.aU.e4==c.aU.e4)&&((a.look.color.e0==c.look.color.e0)&&((a.look.color.e1==c.look.color.e1)&&((a.look.color.e2==c.look.color.e2)&&((a.look.color.e3==c.look.color.e3)&&((a.look.ca==c.look.ca)&&((a.look.gW==c.look.gW)&&((a.look.gq==c.look.gq)&&((a.look.eH==c.look.eH)&&((a.look.bin==c.look.bin)&&true))))))))))))))=true↔a=c:=by
 obtain ⟨⟨a0,a1,a2,a3,a4⟩,⟨⟨a5,a6,a7,a8⟩,a9,a10,a11,a12,a13⟩⟩:=a;obtain ⟨⟨c0,c1,c2,c3,c4⟩,⟨⟨c5,c6,c7,c8⟩,c9,c10,c11,c12,c13⟩⟩:=c;simp [and_assoc]
theorem xX {p:Prop} {c:Bool} {x:Option Bool} {Q:Prop} (hc:c=true↔p) (h1 : ¬ p->¬ Q) (h2:p->∃ r,x=some r/\(r=true↔Q)):∃ r,cond c x (some false)=some r/\(r=true↔Q):=by
 cases c with
 | false=>exact ⟨false,rfl,⟨fun k=>by simp at k,fun k=>absurd k (h1 fun q=>by have:=hc.2 q; simp at this)⟩⟩
 | true=>exact h2 (hc.1 rfl)
theorem adN (a c:b.Node) (hn:a.lO.n < 1000000):∃ r,b.rV a c=some r/\(r=true↔sQ a c):=by
 unfold b.rV b.Hw;obtain ⟨r,q1,q2⟩:=Pa a.lO c.lO hn;rw [q1,dB,db,aj];refine xX iX (fun h k=>h k.1) fun g1=>?_;refine xX (agU _ _) (fun h k=>h k.2.1) fun g2=>?_;refine xX iX (fun h k=>h k.2.2.1) fun g3=>?_;refine xX (Xa _ _) (fun h k=>h k.2.2.2.1) fun g4=>?_;refine xX q2 (fun h k=>h k.2.2.2.2.1) fun g5=>?_;refine xX iX (fun h k=>h k.2.2.2.2.2.1) fun g6=>?_;exact ⟨_,rfl,(afB _ _).trans ⟨fun h=>⟨g1,g2,g3,g4,g5,g6,h⟩,fun h=>h.2.2.2.2.2.2⟩⟩
theorem Z7 (a c:b.Node) (hn:a.lO.n < 1000000):∃ r,b.jd a c=some r/\(r=true↔sQ a c):=by
 unfold b.jd b.zZ;obtain ⟨r,q1,q2⟩:=Y1 a.lO c.lO hn;rw [q1,dB,db,aj];refine xX iX (fun h k=>h k.1) fun g1=>?_;refine xX (agU _ _) (fun h k=>h k.2.1) fun g2=>?_;refine xX iX (fun h k=>h k.2.2.1) fun g3=>?_;refine xX (Xa _ _) (fun h k=>h k.2.2.2.1) fun g4=>?_;refine xX q2 (fun h k=>h k.2.2.2.2.1) fun g5=>?_;refine xX iX (fun h k=>h k.2.2.2.2.2.1) fun g6=>?_;exact ⟨_,rfl,(afB _ _).trans ⟨fun h=>⟨g1,g2,g3,g4,g5,g6,h⟩,fun h=>h.2.2.2.2.2.2⟩⟩
def SY:b.Le:=⟨⟨⟨0,0,0⟩,⟨0,0,0⟩,⟨0,0,0⟩⟩,⟨0,0,0⟩⟩
def Ox:b.wg:=⟨0,0,0⟩
def aja:Sl Int:=⟨0,fun _=>0⟩
def abe (s:b.aw) (n:b.Node):Prop:=(1<=n.kind/\n.kind<=5)/\wB n.bB/\(n.bB.aU.e1=0\/n.bB.look.ca < (s.az.n:Int))/\(n.kind=2->QQ n.fG)/\(n.kind≠2->n.fG=SY)/\(n.kind≠3->n.s6=0)/\(n.kind=4->o4 n.fH 4096/\adM n.lO)/\(n.kind≠4->n.fH=Ox/\n.lO.n=0)/\(n.kind=5->0<=n.sq/\n.sq < (s.ay.n:Int))/\(n.kind≠5->n.sq=0)
theorem DC {c:Bool} {p:Prop} (h:c=true↔p):(!c)=true↔¬ p:=by
 cases c <;> simp at h ⊢ <;> exact h
theorem Z8 {c d:Bool} {p q:Prop} (h:c=true↔p) (k:d=true↔q):(c&&d)=true↔p/\q:=by
 rw [au,h,k]
theorem orI {c d:Bool} {p q:Prop} (h:c=true↔p) (k:d=true↔q):(c||d)=true↔p\/q:=by
 rw [qe,h,k]
theorem AZ {p:Prop} [Decidable p] : decide p=true↔p:=decide_eq_true_iff
theorem Rx {x y:Int} : (x==y)=true↔x=y:=iX
theorem neI {x y:Int} : (x != y)=true↔x≠y:=bne_iff_ne
theorem ar8 (m:b.Le):((m.m.e0.e0==(0:Int))&&((m.m.e0.e1==(0:Int))&&((m.m.e0.e2==(0:Int))&&((m.m.e1.e0==(0:Int))&&((m.m.e1.e1==(0:Int))&&((m.m.e1.e2==(0:Int))&&((m.m.e2.e0==(0:Int))&&((m.m.e2.e1==(0:Int))&&((m.m.e2.e2==(0:Int))&&((m.t.x==(0:Int))&&((m.t.y==(0:Int))&&((m.t.z==(0:Int))&&true))))))))))))=true↔m=SY:=agU m SY
theorem ar9 (v:b.wg):((v.x==(0:Int))&&((v.y==(0:Int))&&((v.z==(0:Int))&&true)))=true↔v=Ox:=Xa v Ox
theorem akS {l:Sl Int} (h:l.n=0):adM l:=⟨fun j hj=>absurd hj (by omega),by omega⟩
theorem aoN:o4 Ox 4096:=by unfold o4 uB Ox; simp
theorem ajb (s:b.aw) (n:b.Node) (hs:CX n.bB) (hn:n.lO.n < 1000000):∃ r,b.qQ s n=some r/\(r=true↔abe s n):=by
 unfold b.qQ b.tw b.tv b.ni b.tu b.BS b.BT b.BU b.BV;obtain ⟨r0,q0,i0⟩:=W9 n.bB hs;obtain ⟨r1,q1,i1⟩:=am8 n.fG;have q2:=afA n.fH 4096 (by omega) (by omega);obtain ⟨r3,q3,i3⟩:=akR n.lO hn;simp only [q0,q1,q2,q3,dB,db,aj,cc2,cc];have hz:=ar8 n.fG;have hv:=ar9 n.fH;have ajc:0<=n.bB.aU.e1:=hs.2.1.1;refine ke AZ (fun h k=>absurd k.1.1 (by omega)) fun k1=>?_;refine ke AZ (fun h k=>absurd k.1.2 (by omega)) fun k2=>?_;refine ke (DC i0) (fun h k=>h k.2.1) fun k3=>?_;refine ke (Z8 AZ AZ) (fun h k=>by rcases k.2.2.1 with g | g <;> omega) fun k4=>?_;refine ke (Z8 neI (DC hz)) (fun h k=>h.2 (k.2.2.2.2.1 h.1)) fun k5=>?_;refine ke (Z8 Rx (DC i1)) (fun h k=>h.2 (k.2.2.2.1 h.1)) fun k6=>?_;refine ke (Z8 neI neI) (fun h k=>h.2 (k.2.2.2.2.2.1 h.1)) fun k7=>?_;refine ke (Z8 neI (orI (DC hv) AZ)) (fun h k=>by
  have:=k.2.2.2.2.2.2.2.1 h.1;rcases h.2 with g | g
  ·exact g this.1
  ·omega) fun k8=>?_
 have c3:wB n.bB:=Classical.byContradiction k3;have c5:n.kind≠2->n.fG=SY:=fun h=>Classical.byContradiction fun g=>k5 ⟨h,g⟩;have c6:n.kind=2->QQ n.fG:=fun h=>Classical.byContradiction fun g=>k6 ⟨h,g⟩;have c7:n.kind≠3->n.s6=0:=fun h=>Classical.byContradiction fun g=>k7 ⟨h,g⟩;have c8:n.kind≠4->n.fH=Ox/\n.lO.n=0:=fun h=>⟨Classical.byContradiction fun g=>k8 ⟨h,.inl g⟩,Classical.byContradiction fun g=>k8 ⟨h,.inr (by omega)⟩⟩
 have c4:n.bB.aU.e1=0\/n.bB.look.ca < (s.az.n:Int):=by omega
 by_cases h5:n.kind=5
 ·have e5:(n.kind==(5:Int))=true:=Rx.2 h5
  rw [e5,aj];refine xX AZ (fun h k=>absurd (k.2.2.2.2.2.2.2.2.1 h5).1 (by omega)) fun k9=>?_;exact ⟨_,rfl,AZ.trans ⟨fun h=>⟨⟨by omega,by omega⟩,c3,c4,c6,c5,c7,fun h=>absurd h (by omega),c8,fun _=>⟨by omega,h⟩,fun h=>absurd h5 h⟩,fun h=>(h.2.2.2.2.2.2.2.2.1 h5).2⟩⟩
 ·have e5:(n.kind==(5:Int))=false:=by
   rw [<- Bool.not_eq_true,Rx]; exact h5
  rw [e5,aF];refine xX (Z8 Rx AZ) (fun h k=>h ⟨k.2.2.2.2.2.2.2.2.2 h5,by
   by_cases h4:n.kind=4
   ·exact (k.2.2.2.2.2.2.1 h4).1
   ·rw [(c8 h4).1]; exact aoN⟩) fun ⟨k9,k10⟩=>?_
  refine ⟨_,rfl,i3.trans ⟨fun h=>⟨⟨by omega,by omega⟩,c3,c4,c6,c5,c7,fun _=>⟨k10,h⟩,c8,fun h=>absurd h h5,fun _=>k9⟩,fun h=>?_⟩⟩;by_cases h4:n.kind=4
  ·exact (h.2.2.2.2.2.2.1 h4).2
  ·exact akS (c8 h4).2
def adO (n:b.Node):Prop:=(1<=n.kind/\n.kind<=5)/\(n.kind=2->QQ n.fG)/\(n.kind=4->o4 n.fH 4096/\adM n.lO)
open Classical in
theorem ajd (n:b.Node) (hn:n.lO.n < 1000000):∃ ok,b.sM n=some (⟨n.kind,if n.kind=2 then n.fG else SY,if n.kind=3 then n.s6 else 0,if n.kind=4 then n.fH else Ox,if n.kind=4 then n.lO else aja,if n.kind=5 then n.sq else 0,n.bB⟩,ok)/\(ok=true↔adO n):=by
 unfold b.sM b.Ec b.Ed b.Ee;obtain ⟨e1,q1,i1⟩:=adI n.fG;have q2:=Z5 n.fH;obtain ⟨r3,q3,i3⟩:=anf n.lO hn;simp only [q1,q2,q3,dB,db,aj];obtain ⟨k,m,o,c,f,x,st⟩:=n
 dsimp only at *
 unfold adO
 dsimp only
 by_cases h1:k=1
 ·subst h1
  exact ⟨true,rfl,by simp⟩
 have g1:(k==(1:Int))=false:=by rw [<- Bool.not_eq_true,Rx]; exact h1
 rw [g1,aF];by_cases h2:k=2
 ·subst h2
  refine ⟨_,rfl,?_⟩;rw [Rx];rcases i1 with ⟨a,c⟩ | ⟨a,c⟩ <;> simp [a,c]
 have g2:(k==(2:Int))=false:=by rw [<- Bool.not_eq_true,Rx]; exact h2
 rw [g2,aF];by_cases h3:k=3
 ·subst h3
  exact ⟨true,rfl,by simp⟩
 have g3:(k==(3:Int))=false:=by rw [<- Bool.not_eq_true,Rx]; exact h3
 rw [g3,aF];by_cases h4:k=4
 ·subst h4
  by_cases hv:o4 c 4096
  ·rw [aI hv]
   exact ⟨r3,rfl,i3.trans (by simp [hv])⟩
  ·rw [ak hv]
   exact ⟨false,rfl,by simp [hv]⟩
 have g4:(k==(4:Int))=false:=by rw [<- Bool.not_eq_true,Rx]; exact h4
 rw [g4,aF];by_cases h5:k=5
 ·subst h5
  exact ⟨true,rfl,by simp⟩
 have g5:(k==(5:Int))=false:=by rw [<- Bool.not_eq_true,Rx]; exact h5
 rw [g5,aF,ak h2,ak h3,ak h4,ak h4,ak h5];exact ⟨false,rfl,by simp; omega⟩
theorem AI {p:Prop} {c:Bool} {x:Option Int} {Q:Prop} (hc:c=true↔p) (h1:p->¬ Q) (h2 : ¬ p->∃ e,x=some e/\(e=0/\Q\/e=8/\¬ Q)):∃ e,cond c (some 8) x=some e/\(e=0/\Q\/e=8/\¬ Q):=by
 cases c with
 | true=>exact ⟨8,rfl,.inr ⟨rfl,h1 (hc.1 rfl)⟩⟩
 | false=>exact h2 fun q=>by have:=hc.2 q; simp at this
theorem akT (s:b.aw) (n:b.Node) (hs:CX n.bB) (hn:n.lO.n < 1000000):∃ e,b.nm s n=some e/\(e=0/\abe s n\/e=8/\¬ abe s n):=by
 unfold b.nm b.pE b.vK b.qq b.vL;obtain ⟨ok,q1,i1⟩:=ajd n hn;simp only [q1,dB,db,aj];obtain ⟨r2,q2,i2⟩:=adN ⟨n.kind,if n.kind=2 then n.fG else SY,if n.kind=3 then n.s6 else 0,if n.kind=4 then n.fH else Ox,if n.kind=4 then n.lO else aja,if n.kind=5 then n.sq else 0,n.bB⟩ n (by
  by_cases h:n.kind=4
  ·simp only [aI h]; exact hn
  ·simp only [ak h]; exact (by decide:(0:Nat) < 1000000))
 obtain ⟨e3,q3,i3⟩:=Z6 n.bB;simp only [q2,q3,dB,db,aj,cc2,cc];have ajc:0<=n.bB.aU.e1:=hs.2.1.1;have i2' : r2=true↔(n.kind≠2->n.fG=SY)/\(n.kind≠3->n.s6=0)/\(n.kind≠4->n.fH=Ox/\n.lO.n=0)/\(n.kind≠5->n.sq=0):=by
  rw [i2];unfold sQ
  dsimp only
  constructor
  ·rintro ⟨_,a2,a3,a4,a5,a6,_⟩
   refine ⟨fun h=>?_,fun h=>?_,fun h=>⟨?_,?_⟩,fun h=>?_⟩
   ·rw [ak h] at a2; exact a2.symm
   ·rw [ak h] at a3; exact a3.symm
   ·rw [ak h] at a4; exact a4.symm
   ·rw [ak h] at a5; exact a5.1.symm
   ·rw [ak h] at a6; exact a6.symm
  ·rintro ⟨a1,a2,a3,a4⟩
   refine ⟨rfl,?_,?_,?_,?_,?_,rfl⟩
   ·by_cases h:n.kind=2
    ·rw [aI h]
    ·rw [ak h]; exact (a1 h).symm
   ·by_cases h:n.kind=3
    ·rw [aI h]
    ·rw [ak h]; exact (a2 h).symm
   ·by_cases h:n.kind=4
    ·rw [aI h]
    ·rw [ak h]; exact (a3 h).1.symm
   ·by_cases h:n.kind=4
    ·rw [aI h]; exact nJ.refl _
    ·rw [ak h]; exact ⟨(a3 h).2.symm,fun i hi=>absurd hi (kA i)⟩
   ·by_cases h:n.kind=5
    ·rw [aI h]
    ·rw [ak h]; exact (a4 h).symm
 refine AI (DC i1) (fun h k=>h ⟨k.1,k.2.2.2.1,k.2.2.2.2.2.2.1⟩) fun k1=>?_;refine AI (DC i2') (fun h k=>h ⟨k.2.2.2.2.1,k.2.2.2.2.2.1,k.2.2.2.2.2.2.2.1,k.2.2.2.2.2.2.2.2.2⟩) fun k2=>?_;refine AI neI (fun h k=>by
  rcases i3 with g | g
  ·exact h g.1
  ·exact g.2 k.2.1) fun k3=>?_
 have c1:adO n:=Classical.byContradiction k1;have c2:=Classical.byContradiction k2;have c3:wB n.bB:=by
  rcases i3 with g | g
  ·exact g.2
  ·exact absurd (fun h=>by rw [g.1] at h; simp at h) k3
 refine AI (Z8 Rx (orI AZ AZ)) (fun h k=>by have:=k.2.2.2.2.2.2.2.2.1 h.1; omega) fun k4=>?_;refine AI (Z8 neI AZ) (fun h k=>by rcases k.2.2.1 with g | g <;> omega) fun k5=>?_;exact ⟨0,rfl,.inl ⟨rfl,c1.1,c3,by omega,c1.2.1,c2.1,c2.2.1,c1.2.2,c2.2.2.1,fun h=>by omega,c2.2.2.2⟩⟩
end Go.Proofs.YtckbdndhmcoihaaGreat.sc
end
section
namespace Go.Proofs.YtckbdndhmcoihaaGreat.nodes
open Go Go.K
def UI (s:b.Slot):Prop:=1<=s.gen/\s.gen<=1073741824
structure uC (a:b.fo):Prop where
 few:a.aP.n<=128
 amk:∀ i,i < a.aP.n->UI (a.aP.get i)
theorem QT (a:b.fo):∃ n,b.dC a=some n/\(n=0/\uC a\/n=8/\¬ uC a):=by
 unfold b.dC;by_cases h:((a.aP.n:Nat):Int) > 128
 ·rw [ai h,aj]
  exact ⟨8,rfl,.inr ⟨rfl,fun k=>by have:=k.few; omega⟩⟩
 ·rw [aE h,aF]
  obtain ⟨e,x',h1,h2⟩:∃ e x',b.qI a = .out e x'/\((e = .exit 0/\∀ i,i < a.aP.n->UI (a.aP.get i))\/(e = .ret/\0<=x'.t4/\¬ uC a)):=by
   unfold b.qI;refine eW (X:=b.cj) (fun j x=>x.s=a.aP/\x.t7=(a.aP.n:Int)/\x.t8=(j:Int)/\∀ i,i < j->UI (a.aP.get i)) (fun e x'=>(e = .exit 0/\∀ i,i < a.aP.n->UI (a.aP.get i))\/(e = .ret/\0<=x'.t4/\¬ uC a)) a.aP.n (by unfold dZ; omega) ?_ ⟨rfl,rfl,rfl,fun i hi=>absurd hi (kA _)⟩;rintro j ⟨s,t4,t7,t8⟩ hj ⟨rfl,rfl,rfl,cQ⟩;unfold b.dq
   dsimp only
   by_cases bh:(j:Int) < (a.aP.n:Int)
   ·have h0:(0:Int)<=(j:Int):=by omega
    rw [ai bh,ai h0,aj,iY,aj];have ej:Int.toNat (j:Int)=j:=rfl;rw [ej];by_cases g1:(a.aP.get j).gen < 1
    ·rw [ai g1,aj]
     exact .inr ⟨_,_,rfl,rfl,.inr ⟨rfl,h0,fun k=>by have:=(k.amk j (by omega)).1; omega⟩⟩
    ·rw [aE g1,aF]
     by_cases g2:(a.aP.get j).gen > 1073741824
     ·rw [ai g2,aj]
      exact .inr ⟨_,_,rfl,rfl,.inr ⟨rfl,h0,fun k=>by have:=(k.amk j (by omega)).2; omega⟩⟩
     ·rw [aE g2,aF]
      refine .inl ⟨_,rfl,by omega,rfl,rfl,?_,fun i hi=>?_⟩
      ·show aV ((j:Int)+1)=_
       rw [cv (by omega) (by omega)];omega
      ·by_cases e:i=j
       ·subst e; exact ⟨by omega,by omega⟩
       ·exact cQ i (by omega)
   ·rw [aE bh,aF]
    exact .inr ⟨_,_,rfl,rfl,.inl ⟨rfl,fun i hi=>cQ i (by omega)⟩⟩
  rw [h1];rcases h2 with ⟨rfl,h2⟩ | ⟨rfl,h2,h3⟩
  ·exact ⟨0,rfl,.inl ⟨rfl,by omega,h2⟩⟩
  ·refine ⟨8,?_,.inr ⟨rfl,h3⟩⟩
   show cond false _ (cond true (cond (decide (x'.t4 >= 0)) _ _) _)=_;rw [ai (show x'.t4 >= 0 from h2)];rfl
def lX (a:b.fo) (h:b.Handle):Prop:=0<=h.slot/\h.slot < (a.aP.n:Int)/\(a.aP.get h.slot.toNat).gen=h.gen/\(a.aP.get h.slot.toNat).live=true
theorem akU (a:b.fo) (h:b.Handle):∃ r,b.kD a h=some r/\(r=true↔lX a h):=by
 unfold b.kD lX;by_cases h1:h.slot >= 0
 ·by_cases h2:h.slot < (a.aP.n:Int)
  ·rw [ai h1,ai h2,aj,aj]
   refine ⟨_,rfl,?_⟩;simp only [au,iX,iY];exact ⟨fun k=>⟨h1,h2,k.1,k.2⟩,fun k=>⟨k.2.2.1,k.2.2.2⟩⟩
  ·rw [ai h1,aE h2,aj,aF]
   exact ⟨false,rfl,⟨fun k=>by simp at k,fun k=>absurd k.2.1 h2⟩⟩
 ·rw [aE h1,aF]
  exact ⟨false,rfl,⟨fun k=>by simp at k,fun k=>absurd k.1 h1⟩⟩
theorem Z9 (a:b.fo) (h:b.Handle):∃ r,b.dr a h=some r/\(r=true↔uC a/\lX a h):=by
 obtain ⟨n,hn,hs⟩:=QT a;obtain ⟨r,hr,hh⟩:=akU a h;unfold b.dr b.qJ b.qK;rw [hn,hr];rcases hs with ⟨rfl,ha⟩ | ⟨rfl,ha⟩
 ·exact ⟨r,rfl,hh.trans ⟨fun k=>⟨ha,k⟩,fun k=>k.2⟩⟩
 ·exact ⟨false,rfl,⟨fun k=>by simp at k,fun k=>absurd k.1 ha⟩⟩
end Go.Proofs.YtckbdndhmcoihaaGreat.nodes
end
