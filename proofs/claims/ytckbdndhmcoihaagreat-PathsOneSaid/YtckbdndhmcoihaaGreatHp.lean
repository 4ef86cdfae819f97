/- Part of the proof of PathsOne: the machine, shown to be the model's, and plain models. No conditions. -/
import Derived.Test.YtckbdndhmcoihaaGreatGp
import Derived.Test.YtckbdndhmcoihaaGreatProg
import Derived.WalkKit
import Derived.Lib.Walk
import Derived.Lib.SliceRun
import Derived.Shelf.SlicesQ.Load
import Derived.Shelf.GgClosure.Gives
import Derived.MapKept
import Derived.Deep.RegionWith
import Derived.Laws.EntriesVeiled
set_option linter.unusedSimpArgs false
set_option linter.unusedVariables false
section
namespace Go.Proofs.YtckbdndhmcoihaaGreat.b
open Go.K
noncomputable section
def qP (n:Int) (low:Int) (high:Int):Option (Bool):=(cond (decide (n >= low)) (some ((decide (n<=high)))) (some (false)))
theorem aiK (n:Int) (low:Int) (high:Int):lu [] [] 221 [(kI .i64) n,(kI .i64) low,(kI .i64) high] = (qP n low high).map kB:=by
 unfold qP
 try simp only [aL]
 kernel_rfl
def Gc:List KV->KR KV:=aZ PG 221 (bd kB fun vs=>qP (av (v9 vs 0)) (av (v9 vs 1)) (av (v9 vs 2)))
theorem zH:aY PG 221 Gc:=b8 ah.nil aD.nil fun w=>aiK (av (g0 3 (w 0))) (av (g0 3 (w 1))) (av (g0 3 (w 2)))
structure ji where
 t2:(Sl cL)
 t3:Int
 n:Int
 out:(Sl cL)
 i:Int
 p:Prim
instance:Inhabited ji:=⟨by constructor<;>exact default⟩
def zI (x:ji):List KV:=[dc 40 fq x.t2,.int .i64 x.t3,.int .i64 x.n,dc 40 fq x.out,.int .i64 x.i]
def zJ (x:ji):List (List KV):=[ac2 x.p]
def ID (vs:List KV) (rs:List (List KV)):ji:=⟨cT jR (v9 vs 0),av (v9 vs 1),av (v9 vs 2),cT jR (v9 vs 3),av (v9 vs 4),ac3 (r9 rs 0)⟩
def Lq:aB:=⟨[(2,w9 (n9 40)),(3,w9 i9),(4,w9 i9),(5,⟨false,[.aQ 40]⟩),(7,w9 i9)],[(1,[u9,n9 3],1)],[(1,0,0)]⟩
def Wh:=sm [] [] 226 2042 Lq
def ir (x:ji):ax ji:=(cond (decide (x.i<=(aV (x.n - 3)))) (cond (x.p.kind==1) (cond ((decide (0<=x.i))&&(decide (x.i < (x.p.index.n:Int)))) (cond ((decide (0<=(aV (x.i+1))))&&(decide ((aV (x.i+1)) < (x.p.index.n:Int)))) (cond ((Int.tmod x.i 2)==1) (cond ((decide (0<=(aV (x.i+1))))&&(decide ((aV (x.i+1)) < (x.p.index.n:Int)))) (cond ((decide (0<=x.i))&&(decide (x.i < (x.p.index.n:Int)))) (cond ((decide (0<=(aV (x.i+2))))&&(decide ((aV (x.i+2)) < (x.p.index.n:Int)))) (cond ((aC x.out.n x.out.n)&&(fC 24 x.out.n 1)) (cond (aC (x.out.n+1) (x.out.n+1)) (.next ⟨x.t2,x.t3,x.n,(x.out.push ⟨(x.p.index.get (Int.toNat (aV (x.i+1)))),(x.p.index.get (Int.toNat x.i)),(x.p.index.get (Int.toNat (aV (x.i+2))))⟩),(aV (x.i+1)),x.p⟩) .fail) .fail) .fail) .fail) .fail) (cond ((decide (0<=(aV (x.i+2))))&&(decide ((aV (x.i+2)) < (x.p.index.n:Int)))) (cond ((aC x.out.n x.out.n)&&(fC 24 x.out.n 1)) (cond (aC (x.out.n+1) (x.out.n+1)) (.next ⟨x.t2,x.t3,x.n,(x.out.push ⟨(x.p.index.get (Int.toNat x.i)),(x.p.index.get (Int.toNat (aV (x.i+1)))),(x.p.index.get (Int.toNat (aV (x.i+2))))⟩),(aV (x.i+1)),x.p⟩) .fail) .fail) .fail)) .fail) .fail) (cond (aC x.out.n x.out.n) (.out (aq.ae.exit 2) x) .fail)) (cond (aC x.out.n x.out.n) (.out (aq.ae.exit 2) x) .fail))
theorem RO (x:ji):Wh (zI x) (zJ x)=ax.enc zI zJ (ir x):=by
 unfold ir
 try simp only [ax.aO,FO]
 kernel_rfl
def u6:Lp:=⟨226,2042,Lq,fun vs rs=>bU zI zJ (goN ir (ID vs rs)) [aq.ae.exit 2],false⟩
theorem zL:u6.Ok PG:=kv ah.nil aD.nil (pa:=ID) RO
structure jk where
 t2:(Sl cL)
 t3:Int
 n:Int
 out:(Sl cL)
 i:Int
 p:Prim
instance:Inhabited jk:=⟨by constructor<;>exact default⟩
def zM (x:jk):List KV:=[dc 40 fq x.t2,.int .i64 x.t3,.int .i64 x.n,dc 40 fq x.out,.int .i64 x.i]
def zN (x:jk):List (List KV):=[ac2 x.p]
def IE (vs:List KV) (rs:List (List KV)):jk:=⟨cT jR (v9 vs 0),av (v9 vs 1),av (v9 vs 2),cT jR (v9 vs 3),av (v9 vs 4),ac3 (r9 rs 0)⟩
def Lr:aB:=⟨[(2,w9 (n9 40)),(3,w9 i9),(4,w9 i9),(5,⟨false,[.aQ 40]⟩),(6,w9 i9)],[(1,[u9,n9 3],1)],[(1,0,0)]⟩
def Wi:=sm [] [u6] 226 4074 Lr
def jC (x:jk):ax jk:=(cond (decide (x.i < x.n)) (cond ((decide (0<=x.i))&&(decide (x.i < (x.p.index.n:Int)))) (cond ((decide (0<=(aV (x.i+1))))&&(decide ((aV (x.i+1)) < (x.p.index.n:Int)))) (cond ((decide (0<=(aV (x.i+2))))&&(decide ((aV (x.i+2)) < (x.p.index.n:Int)))) (cond ((aC x.out.n x.out.n)&&(fC 24 x.out.n 1)) (cond (aC (x.out.n+1) (x.out.n+1)) (.next ⟨x.t2,x.t3,x.n,(x.out.push ⟨(x.p.index.get (Int.toNat x.i)),(x.p.index.get (Int.toNat (aV (x.i+1)))),(x.p.index.get (Int.toNat (aV (x.i+2))))⟩),(aV (x.i+3)),x.p⟩) .fail) .fail) .fail) .fail) .fail) (cond (aC x.out.n x.out.n) (.out (aq.ae.exit 0) x) .fail))
theorem RP (x:jk):Wi (zM x) (zN x)=ax.enc zM zN (jC x):=by
 unfold jC
 try simp only [ax.aO,FO]
 kernel_rfl
def BL:Lp:=⟨226,4074,Lr,fun vs rs=>bU zM zN (goN jC (IE vs rs)) [aq.ae.exit 0],false⟩
theorem IG:BL.Ok PG:=kv ah.nil (fv zL aD.nil) (pa:=IE) RP
structure jl where
 t2:(Sl cL)
 t3:Int
 n:Int
 out:(Sl cL)
 i:Int
 p:Prim
instance:Inhabited jl:=⟨by constructor<;>exact default⟩
def zO (x:jl):List KV:=[dc 40 fq x.t2,.int .i64 x.t3,.int .i64 x.n,dc 40 fq x.out,.int .i64 x.i]
def zP (x:jl):List (List KV):=[ac2 x.p]
def II (vs:List KV) (rs:List (List KV)):jl:=⟨cT jR (v9 vs 0),av (v9 vs 1),av (v9 vs 2),cT jR (v9 vs 3),av (v9 vs 4),ac3 (r9 rs 0)⟩
def Ls:aB:=⟨[(2,w9 (n9 40)),(3,w9 i9),(4,w9 i9),(5,⟨false,[.aQ 40]⟩),(10,w9 i9)],[(1,[u9,n9 3],1)],[(1,0,0)]⟩
def Wj:=sm [] [u6,BL] 226 4090 Ls
def iu (x:jl):ax jl:=(cond (decide (x.i<=(aV (x.n - 2)))) (cond (x.p.kind==2) (cond (decide (0 < (x.p.index.n:Int))) (cond ((decide (0<=x.i))&&(decide (x.i < (x.p.index.n:Int)))) (cond ((decide (0<=(aV (x.i+1))))&&(decide ((aV (x.i+1)) < (x.p.index.n:Int)))) (cond ((aC x.out.n x.out.n)&&(fC 24 x.out.n 1)) (cond (aC (x.out.n+1) (x.out.n+1)) (.next ⟨x.t2,x.t3,x.n,(x.out.push ⟨(x.p.index.get 0),(x.p.index.get (Int.toNat x.i)),(x.p.index.get (Int.toNat (aV (x.i+1))))⟩),(aV (x.i+1)),x.p⟩) .fail) .fail) .fail) .fail) .fail) (cond (aC x.out.n x.out.n) (.out (aq.ae.exit 4) x) .fail)) (cond (aC x.out.n x.out.n) (.out (aq.ae.exit 4) x) .fail))
theorem RQ (x:jl):Wj (zO x) (zP x)=ax.enc zO zP (iu x):=by
 unfold iu
 try simp only [ax.aO,FO]
 kernel_rfl
def Lt:Lp:=⟨226,4090,Ls,fun vs rs=>bU zO zP (goN iu (II vs rs)) [aq.ae.exit 4],false⟩
theorem Wk:Lt.Ok PG:=kv ah.nil (fv zL (fv IG aD.nil)) (pa:=II) RQ
def mG (p:Prim):=goN jC ⟨⟨0,(fun i=>⟨0,0,0⟩)⟩,0,(p.index.n:Int),⟨0,(fun i=>⟨0,0,0⟩)⟩,0,p⟩
def mH (p:Prim):=goN ir ⟨(mG p).st.t2,(mG p).st.t3,(mG p).st.n,(mG p).st.out,0,(mG p).st.p⟩
def JQ (p:Prim):=goN iu ⟨(mH p).st.t2,(mH p).st.t3,(mH p).st.n,(mH p).st.out,1,(mH p).st.p⟩
def mI (p:Prim):=goN ir ⟨⟨0,(fun i=>⟨0,0,0⟩)⟩,0,(p.index.n:Int),⟨0,(fun i=>⟨0,0,0⟩)⟩,0,p⟩
def JR (p:Prim):=goN iu ⟨(mI p).st.t2,(mI p).st.t3,(mI p).st.n,(mI p).st.out,1,(mI p).st.p⟩
def zQ (p:Prim):Option ((Sl cL)×Int):=(cond (p.kind==0) (cond ((mG p).by (aq.ae.exit 0)) (cond (aC (mG p).st.out.n (mG p).st.out.n) (cond ((mH p).by (aq.ae.exit 2)) (cond (aC (mH p).st.out.n (mH p).st.out.n) (cond ((JQ p).by (aq.ae.exit 4)) (some ((JQ p).st.out,0)) none) none) none) none) none) (cond ((mI p).by (aq.ae.exit 2)) (cond (aC (mI p).st.out.n (mI p).st.out.n) (cond ((JR p).by (aq.ae.exit 4)) (some ((JR p).st.out,0)) none) none) none))
def zR (p:Prim):Option ((Sl cL)×Int):=(cond (decide (p.kind > 0)) (cond ((p.index.n:Int)==1) (some (⟨0,(fun i=>⟨0,0,0⟩)⟩,40)) (cond ((p.index.n:Int)==2) (some (⟨0,(fun i=>⟨0,0,0⟩)⟩,40))
   (zQ p)))
  (zQ p))
def yn (p:Prim):Option ((Sl cL)×Int):=(cond (decide (p.kind > 2)) (some (⟨0,(fun i=>⟨0,0,0⟩)⟩,2)) (cond (decide ((p.index.n:Int) > 200)) (some (⟨0,(fun i=>⟨0,0,0⟩)⟩,4)) (cond (p.kind==0) (cond ((Int.tmod (p.index.n:Int) 3) != 0) (some (⟨0,(fun i=>⟨0,0,0⟩)⟩,40))
   (zR p))
   (zR p))))
theorem aeh (p:Prim):lu [] [u6,BL,Lt] 226 [TZ p] = (yn p).map (fun (r:(Sl cL)×Int)=>KV.jV [(dc 40 fq) r.1,(kI .i64) r.2]):=by
 unfold yn zR zQ
 try simp only [aL]
 kernel_rfl
def IJ:List KV->KR KV:=aZ PG 226 (bd (fun (r:(Sl cL)×Int)=>KV.jV [(dc 40 fq) r.1,(kI .i64) r.2]) fun vs=>yn (Bx (v9 vs 0)))
theorem Hd:aY PG 226 IJ:=b8 ah.nil (fv zL (fv IG (fv Wk aD.nil))) fun w=>aeh (Bx (g0 172 (w 0)))
structure jS where
 t2:(Sl cL)
 t3:Bool
 out:(Sl cL)
 i:Int
 m:dm
instance:Inhabited jS:=⟨⟨default,default,default,default,default⟩⟩
def Hf (x:jS):List KV:=[dc 40 fq x.t2,.bool x.t3,dc 40 fq x.out,.int .i64 x.i]
def Hg (x:jS):List (List KV):=[vE x.m]
def PX (vs:List KV) (rs:List (List KV)):jS:=⟨cT jR (v9 vs 0),cK (v9 vs 1),cT jR (v9 vs 2),av (v9 vs 3),vF (r9 rs 0)⟩
def SF:aB:=⟨[(2,w9 (n9 40)),(3,w9 b9),(4,⟨false,[.aQ 40]⟩),(5,w9 i9)],[(1,[n9 43,n9 185,n9 172],1)],[(1,0,0)]⟩
structure ie where
 t2:(Sl cL)
 t3:Bool
 out:(Sl cL)
 i:Int
 l:(Sl cL)
 k:Int
 m:dm
instance:Inhabited ie:=⟨by constructor<;>exact default⟩
def zS (x:ie):List KV:=[dc 40 fq x.t2,.bool x.t3,dc 40 fq x.out,.int .i64 x.i,dc 40 fq x.l,.int .i64 x.k]
def zT (x:ie):List (List KV):=[vE x.m]
def IK (vs:List KV) (rs:List (List KV)):ie:=⟨cT jR (v9 vs 0),cK (v9 vs 1),cT jR (v9 vs 2),av (v9 vs 3),cT jR (v9 vs 4),av (v9 vs 5),vF (r9 rs 0)⟩
def Lu:aB:=⟨[(2,w9 (n9 40)),(3,w9 b9),(4,⟨false,[.aQ 40]⟩),(5,w9 i9),(6,w9 (n9 40)),(8,w9 i9)],[(1,[n9 43,n9 185,n9 172],1)],[(1,0,0)]⟩
def Wl:=sm [(221,Gc),(226,IJ)] [] 222 29850 Lu
def xC (x:ie):=qP ((x.m.aG.get (Int.toNat x.i)).index.get (Int.toNat x.k)) 0 (aV ((x.m.bN.n:Int) - 1))
def gb (x:ie):ax ie:=(cond ((decide (0<=x.i))&&(decide (x.i < (x.m.aG.n:Int)))) (cond (decide (x.k < ((x.m.aG.get (Int.toNat x.i)).index.n:Int))) (cond ((decide (0<=x.i))&&(decide (x.i < (x.m.aG.n:Int)))) (cond ((decide (0<=x.k))&&(decide (x.k < ((x.m.aG.get (Int.toNat x.i)).index.n:Int)))) (cond (xC x).isSome (cond (!((xC x).getD default)) (cond (aC x.out.n x.out.n) (.out aq.ae.ret ⟨⟨0,(fun i=>⟨0,0,0⟩)⟩,false,x.out,x.i,x.l,x.k,x.m⟩) .fail) (cond (aC x.out.n x.out.n) (.next ⟨x.t2,x.t3,x.out,x.i,x.l,(aV (x.k+1)),x.m⟩) .fail)) .fail) .fail) .fail) (cond (aC x.out.n x.out.n) (.out (aq.ae.exit 2) x) .fail)) .fail)
theorem RR (x:ie):Wl (zS x) (zT x)=ax.enc zS zT (gb x):=by
 unfold gb
 try simp only [ax.aO]
 kernel_rfl
def BM:Lp:=⟨222,29850,Lu,fun vs rs=>bU zS zT (goN gb (IK vs rs)) [aq.ae.exit 2,aq.ae.ret],false⟩
theorem IL:BM.Ok PG:=kv (ah.cons zH (ah.cons Hd ah.nil)) aD.nil (pa:=IK) RR
def ac9:=sm [(221,Gc),(226,IJ)] [BM] 222 58 SF
def wR (x:jS):=yn (x.m.aG.get (Int.toNat x.i))
def cz (x:jS):=goN gb ⟨x.t2,x.t3,x.out,x.i,((wR x).getD default).fst,0,x.m⟩
def oo (x:jS):ax jS:=(cond (decide (x.i < (x.m.aG.n:Int))) (cond ((decide (0<=x.i))&&(decide (x.i < (x.m.aG.n:Int)))) (cond (wR x).isSome (cond (((wR x).getD default).snd != 0) (cond (aC x.out.n x.out.n) (.out aq.ae.ret ⟨⟨0,(fun i=>⟨0,0,0⟩)⟩,false,x.out,x.i,x.m⟩) .fail) (cond (aC x.out.n x.out.n) (cond ((cz x).by (aq.ae.exit 2)) (cond ((aC (cz x).st.out.n (cz x).st.out.n)&&(fC 24 (cz x).st.out.n (cz x).st.l.n)) (cond (aC ((cz x).st.out.n+(cz x).st.l.n) ((cz x).st.out.n+(cz x).st.l.n)) (.next ⟨(cz x).st.t2,(cz x).st.t3,((cz x).st.out.join (cz x).st.l),(aV ((cz x).st.i+1)),(cz x).st.m⟩) .fail) .fail) (cond ((cz x).by aq.ae.ret) (cond (aC (cz x).st.out.n (cz x).st.out.n) (.out aq.ae.ret ⟨(cz x).st.t2,(cz x).st.t3,(cz x).st.out,(cz x).st.i,(cz x).st.m⟩) .fail) .fail)) .fail)) .fail) .fail) (cond (aC x.out.n x.out.n) (.out (aq.ae.exit 0) x) .fail))
theorem Yq (x:jS):ac9 (Hf x) (Hg x)=ax.enc Hf Hg (oo x):=by
 unfold oo
 try simp only [ax.aO,V5]
 kernel_rfl
def SG:Lp:=⟨222,58,SF,fun vs rs=>bU Hf Hg (goN oo (PX vs rs)) [aq.ae.exit 0,aq.ae.ret],false⟩
theorem ada:SG.Ok PG:=kv (ah.cons zH (ah.cons Hd ah.nil)) (fv IL aD.nil) (pa:=PX) Yq
def u7 (m:dm):=goN oo ⟨⟨0,(fun i=>⟨0,0,0⟩)⟩,false,⟨0,(fun i=>⟨0,0,0⟩)⟩,0,m⟩
def BN (m:dm):Option ((Sl cL)×Bool):=(cond ((u7 m).by (aq.ae.exit 0)) (some ((u7 m).st.out,true)) (cond ((u7 m).by aq.ae.ret) (some ((u7 m).st.t2,(u7 m).st.t3)) none))
theorem agE (m:dm):lu [(221,Gc),(226,IJ)] [BM,SG] 222 [xw m] = (BN m).map (fun (r:(Sl cL)×Bool)=>KV.jV [(dc 40 fq) r.1,kB r.2]):=by
 unfold BN
 try simp only [aL]
 kernel_rfl
def T6:List KV->KR KV:=aZ PG 222 (bd (fun (r:(Sl cL)×Bool)=>KV.jV [(dc 40 fq) r.1,kB r.2]) fun vs=>BN (nW (v9 vs 0)))
theorem SH:aY PG 222 T6:=b8 (ah.cons zH (ah.cons Hd ah.nil)) (fv IL (fv ada aD.nil)) fun w=>agE (nW (g0 88 (w 0)))
structure gD where
 t2:Bool
 i:Int
 m:dm
instance:Inhabited gD:=⟨⟨default,default,default⟩⟩
def Hh (x:gD):List KV:=[.bool x.t2,.int .i64 x.i]
def Hi (x:gD):List (List KV):=[vE x.m]
def PY (vs:List KV) (rs:List (List KV)):gD:=⟨cK (v9 vs 0),av (v9 vs 1),vF (r9 rs 0)⟩
def SI:aB:=⟨[(2,w9 b9),(3,w9 i9)],[(1,[n9 43,n9 185,n9 172],1)],[(1,0,0)]⟩
def adb:=sm [(222,T6),(221,Gc)] [] 211 58 SI
def DZ (x:gD):=qP (x.m.bN.get (Int.toNat x.i)).x (-(1024:Int)) 1024
def D0 (x:gD):=qP (x.m.bN.get (Int.toNat x.i)).y (-(1024:Int)) 1024
def D1 (x:gD):=qP (x.m.bN.get (Int.toNat x.i)).z (-(1024:Int)) 1024
def D2 (x:gD):=qP (x.m.uV.get (Int.toNat x.i)).e0 0 255
def D3 (x:gD):=qP (x.m.uV.get (Int.toNat x.i)).e1 0 255
def jm (x:gD):ax gD:=(cond (decide (x.i < (x.m.bN.n:Int))) (cond ((decide (0<=x.i))&&(decide (x.i < (x.m.bN.n:Int)))) (cond (DZ x).isSome (cond (!((DZ x).getD default)) (.out aq.ae.ret ⟨false,x.i,x.m⟩) (cond (D0 x).isSome (cond (!((D0 x).getD default)) (.out aq.ae.ret ⟨false,x.i,x.m⟩) (cond (D1 x).isSome (cond (!((D1 x).getD default)) (.out aq.ae.ret ⟨false,x.i,x.m⟩) (cond ((decide (0<=x.i))&&(decide (x.i < (x.m.uV.n:Int)))) (cond (D2 x).isSome (cond (!((D2 x).getD default)) (.out aq.ae.ret ⟨false,x.i,x.m⟩) (cond ((decide (0<=x.i))&&(decide (x.i < (x.m.uV.n:Int)))) (cond (D3 x).isSome (cond (!((D3 x).getD default)) (.out aq.ae.ret ⟨false,x.i,x.m⟩) (.next ⟨x.t2,(aV (x.i+1)),x.m⟩)) .fail) .fail)) .fail) .fail)) .fail)) .fail)) .fail) .fail) (.out (aq.ae.exit 0) x))
theorem Yr (x:gD):adb (Hh x) (Hi x)=ax.enc Hh Hi (jm x):=by
 unfold jm
 try simp only [ax.aO]
 kernel_rfl
def SJ:Lp:=⟨211,58,SI,fun vs rs=>bU Hh Hi (goN jm (PY vs rs)) [aq.ae.exit 0,aq.ae.ret],false⟩
theorem ade:SJ.Ok PG:=kv (ah.cons SH (ah.cons zH ah.nil)) aD.nil (pa:=PY) Yr
def zU (m:dm):=goN jm ⟨false,0,m⟩
def FU (m:dm):=BN (zU m).st.m
def BO (m:dm):Option (Bool):=(cond ((m.uV.n:Int) != (m.bN.n:Int)) (some (false)) (cond ((zU m).by (aq.ae.exit 0)) (cond (FU m).isSome (cond ((FU m).getD default).snd (some ((decide ((((FU m).getD default).fst.n:Int)<=64)))) (some (false))) none) (cond ((zU m).by aq.ae.ret) (some ((zU m).st.t2)) none)))
theorem agF (m:dm):lu [(222,T6),(221,Gc)] [SJ] 211 [xw m] = (BO m).map kB:=by
 unfold BO
 try simp only [aL]
 kernel_rfl
def adf:List KV->KR KV:=aZ PG 211 (bd kB fun vs=>BO (nW (v9 vs 0)))
theorem aei:aY PG 211 adf:=b8 (ah.cons SH (ah.cons zH ah.nil)) (fv ade aD.nil) fun w=>agF (nW (g0 88 (w 0)))
def Hj (m:dm):=BO m
def va (m:dm):Option (Int):=(cond (decide ((m.bN.n:Int) > 64)) (some (4)) (cond (decide ((m.uV.n:Int) > 64)) (some (4)) (cond (decide ((m.aG.n:Int) > 16)) (some (4)) (cond (Hj m).isSome (cond (!((Hj m).getD default)) (some (40)) (some (0))) none))))
theorem adg (m:dm):lu [(211,adf)] [] 179 [xw m] = (va m).map (kI .i64):=by
 unfold va
 try simp only [aL]
 kernel_rfl
def FV:List KV->KR KV:=aZ PG 179 (bd (kI .i64) fun vs=>va (nW (v9 vs 0)))
theorem D4:aY PG 179 FV:=b8 (ah.cons aei ah.nil) aD.nil fun w=>adg (nW (g0 88 (w 0)))
def BP (t:cN):Option (Bool):=(cond (decide (t.w >= 1)) (cond (decide (t.w<=16)) (cond (decide (t.h >= 1)) (cond (decide (t.h<=16)) (some (((t.dt.n:Int)==(aV (t.w * t.h))))) (some (false))) (some (false))) (some (false))) (some (false)))
theorem agG (t:cN):lu [] [] 180 [jN t] = (BP t).map kB:=by
 unfold BP
 try simp only [aL]
 kernel_rfl
def Na:List KV->KR KV:=aZ PG 180 (bd kB fun vs=>BP (fj (v9 vs 0)))
theorem JS:aY PG 180 Na:=b8 ah.nil aD.nil fun w=>agG (fj (g0 91 (w 0)))
structure ig where
 t2:Bool
 i:Int
 s:aw
instance:Inhabited ig:=⟨⟨default,default,default⟩⟩
def zV (x:ig):List KV:=[.bool x.t2,.int .i64 x.i]
def zW (x:ig):List (List KV):=[iE x.s]
def IM (vs:List KV) (rs:List (List KV)):ig:=⟨cK (v9 vs 0),av (v9 vs 1),iH (r9 rs 0)⟩
def Lv:aB:=⟨[(2,w9 b9),(3,w9 i9)],[(1,[n9 111,n9 35,n9 77,n9 88,n9 91,i9,i9],1)],[(1,0,0)]⟩
def Wm:=sm [(180,Na),(179,FV)] [] 130 26 Lv
def xD (x:ig):=va (x.s.ay.get (Int.toNat x.i))
def gd (x:ig):ax ig:=(cond (decide (x.i < (x.s.ay.n:Int))) (cond ((decide (0<=x.i))&&(decide (x.i < (x.s.ay.n:Int)))) (cond (xD x).isSome (cond (((xD x).getD default) != 0) (.out aq.ae.ret ⟨false,x.i,x.s⟩) (.next ⟨x.t2,(aV (x.i+1)),x.s⟩)) .fail) .fail) (.out (aq.ae.exit 0) x))
theorem RS (x:ig):Wm (zV x) (zW x)=ax.enc zV zW (gd x):=by
 unfold gd
 try simp only [ax.aO]
 kernel_rfl
def BQ:Lp:=⟨130,26,Lv,fun vs rs=>bU zV zW (goN gd (IM vs rs)) [aq.ae.exit 0,aq.ae.ret],false⟩
theorem IP:BQ.Ok PG:=kv (ah.cons JS (ah.cons D4 ah.nil)) aD.nil (pa:=IM) RS
structure ij where
 t2:Bool
 i:Int
 s:aw
instance:Inhabited ij:=⟨⟨default,default,default⟩⟩
def zX (x:ij):List KV:=[.bool x.t2,.int .i64 x.i]
def zY (x:ij):List (List KV):=[iE x.s]
def IQ (vs:List KV) (rs:List (List KV)):ij:=⟨cK (v9 vs 0),av (v9 vs 1),iH (r9 rs 0)⟩
def Lw:aB:=⟨[(2,w9 b9),(4,w9 i9)],[(1,[n9 111,n9 35,n9 77,n9 88,n9 91,i9,i9],1)],[(1,0,0)]⟩
def Wn:=sm [(180,Na),(179,FV)] [BQ] 130 58 Lw
def xE (x:ij):=BP (x.s.az.get (Int.toNat x.i))
def gf (x:ij):ax ij:=(cond (decide (x.i < (x.s.az.n:Int))) (cond ((decide (0<=x.i))&&(decide (x.i < (x.s.az.n:Int)))) (cond (xE x).isSome (cond (!((xE x).getD default)) (.out aq.ae.ret ⟨false,x.i,x.s⟩) (.next ⟨x.t2,(aV (x.i+1)),x.s⟩)) .fail) .fail) (.out (aq.ae.exit 2) x))
theorem RT (x:ij):Wn (zX x) (zY x)=ax.enc zX zY (gf x):=by
 unfold gf
 try simp only [ax.aO]
 kernel_rfl
def Lx:Lp:=⟨130,58,Lw,fun vs rs=>bU zX zY (goN gf (IQ vs rs)) [aq.ae.exit 2,aq.ae.ret],false⟩
theorem Wo:Lx.Ok PG:=kv (ah.cons JS (ah.cons D4 ah.nil)) (fv IP aD.nil) (pa:=IQ) RT
def nz (s:aw):=goN gd ⟨false,0,s⟩
def j4 (s:aw):=goN gf ⟨(nz s).st.t2,0,(nz s).st.s⟩
def sK (s:aw):Option (Bool):=(cond ((nz s).by (aq.ae.exit 0)) (cond ((j4 s).by (aq.ae.exit 2)) (cond (decide (((j4 s).st.s.ay.n:Int)<=32)) (some ((decide (((j4 s).st.s.az.n:Int)<=16)))) (some (false))) (cond ((j4 s).by aq.ae.ret) (some ((j4 s).st.t2)) none)) (cond ((nz s).by aq.ae.ret) (some ((nz s).st.t2)) none))
theorem aal (s:aw):lu [(180,Na),(179,FV)] [BQ,Lx] 130 [iG s] = (sK s).map kB:=by
 unfold sK
 try simp only [aL]
 kernel_rfl
def JT:List KV->KR KV:=aZ PG 130 (bd kB fun vs=>sK (de (v9 vs 0)))
theorem Ly:aY PG 130 JT:=b8 (ah.cons JS (ah.cons D4 ah.nil)) (fv IP (fv Wo aD.nil)) fun w=>aal (de (g0 34 (w 0)))
def ky (n:Int) (b6:Int):Option (Bool):=(cond (decide (n >= (aV (0 - b6)))) (some ((decide (n<=b6)))) (some (false)))
theorem aiL (n:Int) (b6:Int):lu [] [] 189 [(kI .i64) n,(kI .i64) b6] = (ky n b6).map kB:=by
 unfold ky
 try simp only [aL]
 kernel_rfl
def Ys:List KV->KR KV:=aZ PG 189 (bd kB fun vs=>ky (av (v9 vs 0)) (av (v9 vs 1)))
theorem Wp:aY PG 189 Ys:=b8 ah.nil aD.nil fun w=>aiL (av (g0 3 (w 0))) (av (g0 3 (w 1)))
def JU (m:fw) (b6:Int):=ky m.e0.e0 b6
def JV (m:fw) (b6:Int):=ky m.e0.e1 b6
def JW (m:fw) (b6:Int):=ky m.e0.e2 b6
def JX (m:fw) (b6:Int):=ky m.e1.e0 b6
def JY (m:fw) (b6:Int):=ky m.e1.e1 b6
def JZ (m:fw) (b6:Int):=ky m.e1.e2 b6
def J0 (m:fw) (b6:Int):=ky m.e2.e0 b6
def J1 (m:fw) (b6:Int):=ky m.e2.e1 b6
def J2 (m:fw) (b6:Int):=ky m.e2.e2 b6
def yo (m:fw) (b6:Int):Option (Bool):=(cond (JU m b6).isSome (cond (!((JU m b6).getD default)) (some (false)) (cond (JV m b6).isSome (cond (!((JV m b6).getD default)) (some (false)) (cond (JW m b6).isSome (cond (!((JW m b6).getD default)) (some (false)) (cond (JX m b6).isSome (cond (!((JX m b6).getD default)) (some (false)) (cond (JY m b6).isSome (cond (!((JY m b6).getD default)) (some (false)) (cond (JZ m b6).isSome (cond (!((JZ m b6).getD default)) (some (false)) (cond (J0 m b6).isSome (cond (!((J0 m b6).getD default)) (some (false)) (cond (J1 m b6).isSome (cond (!((J1 m b6).getD default)) (some (false)) (cond (J2 m b6).isSome (cond (!((J2 m b6).getD default)) (some (false)) (some (true))) none)) none)) none)) none)) none)) none)) none)) none)) none)
theorem aej (m:fw) (b6:Int):lu [(189,Ys)] [] 188 [ZR m,(kI .i64) b6] = (yo m b6).map kB:=by
 unfold yo
 try simp only [aL]
 kernel_rfl
def ZU:List KV->KR KV:=aZ PG 188 (bd kB fun vs=>yo (Iw (v9 vs 0)) (av (v9 vs 1)))
theorem adh:aY PG 188 ZU:=b8 (ah.cons Wp ah.nil) aD.nil fun w=>aej (Iw (g0 41 (w 0))) (av (g0 3 (w 1)))
def Nb (v:wg) (b6:Int):=ky v.x b6
def Nc (v:wg) (b6:Int):=ky v.y b6
def Nd (v:wg) (b6:Int):=ky v.z b6
def xF (v:wg) (b6:Int):Option (Bool):=(cond (Nb v b6).isSome (cond ((Nb v b6).getD default) (cond (Nc v b6).isSome (cond ((Nc v b6).getD default) (cond (Nd v b6).isSome (some (((Nd v b6).getD default))) none) (some (false))) none) (some (false))) none)
theorem agH (v:wg) (b6:Int):lu [(189,Ys)] [] 139 [ZS v,(kI .i64) b6] = (xF v b6).map kB:=by
 unfold xF
 try simp only [aL]
 kernel_rfl
def T7:List KV->KR KV:=aZ PG 139 (bd kB fun vs=>xF (SC (v9 vs 0)) (av (v9 vs 1)))
theorem SK:aY PG 139 T7:=b8 (ah.cons Wp ah.nil) aD.nil fun w=>agH (SC (g0 43 (w 0))) (av (g0 3 (w 1)))
def Nf (m:Le):=yo m.m 1024
def Ng (m:Le):=xF m.t 4096
def BR (m:Le):Option (Bool):=(cond (Nf m).isSome (cond ((Nf m).getD default) (cond (Ng m).isSome (some (((Ng m).getD default))) none) (some (false))) none)
theorem agI (m:Le):lu [(139,T7),(188,ZU)] [] 138 [aqd m] = (BR m).map kB:=by
 unfold BR
 try simp only [aL]
 kernel_rfl
def adi:List KV->KR KV:=aZ PG 138 (bd kB fun vs=>BR (ame (v9 vs 0)))
theorem aek:aY PG 138 adi:=b8 (ah.cons SK (ah.cons adh ah.nil)) aD.nil fun w=>agI (ame (g0 45 (w 0)))
structure iv where
 l:(Sl Int)
 t2:Bool
 i:Int
instance:Inhabited iv:=⟨⟨default,default,default⟩⟩
def uj (x:iv):List KV:=[dc 3 (kI .i64) x.l,.bool x.t2,.int .i64 x.i]
def uk (x:iv):List (List KV):=[]
def Dn (vs:List KV) (rs:List (List KV)):iv:=⟨cT av (v9 vs 0),cK (v9 vs 1),av (v9 vs 2)⟩
def E9:aB:=⟨[(0,w9 (n9 3)),(2,w9 b9),(3,w9 i9)],[],[]⟩
def PZ:=sm [] [] 140 26 E9
def eO (x:iv):ax iv:=(cond (decide (x.i < (x.l.n:Int))) (cond ((decide (0<=x.i))&&(decide (x.i < (x.l.n:Int)))) (cond (decide ((x.l.get (Int.toNat x.i)) < 0)) (.out aq.ae.ret ⟨x.l,false,x.i⟩) (cond ((decide (0<=x.i))&&(decide (x.i < (x.l.n:Int)))) (cond (decide ((x.l.get (Int.toNat x.i)) > 8192)) (.out aq.ae.ret ⟨x.l,false,x.i⟩) (cond (decide (x.i > 0)) (cond ((decide (0<=x.i))&&(decide (x.i < (x.l.n:Int)))) (cond ((decide (0<=(aV (x.i - 1))))&&(decide ((aV (x.i - 1)) < (x.l.n:Int)))) (cond (decide ((x.l.get (Int.toNat x.i)) < (x.l.get (Int.toNat (aV (x.i - 1)))))) (.out aq.ae.ret ⟨x.l,false,x.i⟩) (.next ⟨x.l,x.t2,(aV (x.i+1))⟩)) .fail) .fail) (.next ⟨x.l,x.t2,(aV (x.i+1))⟩))) .fail)) .fail) (.out (aq.ae.exit 0) x))
theorem Nh (x:iv):PZ (uj x) (uk x)=ax.enc uj uk (eO x):=by
 unfold eO
 try simp only [ax.aO]
 kernel_rfl
def Fa:Lp:=⟨140,26,E9,fun vs rs=>bU uj uk (goN eO (Dn vs rs)) [aq.ae.exit 0,aq.ae.ret],false⟩
theorem P0:Fa.Ok PG:=kv ah.nil aD.nil (pa:=Dn) Nh
def oB (l:(Sl Int)):=goN eO ⟨l,false,0⟩
def oq (l:(Sl Int)):Option (Bool):=(cond ((oB l).by (aq.ae.exit 0)) (some ((decide (((oB l).st.l.n:Int)<=16)))) (cond ((oB l).by aq.ae.ret) (some ((oB l).st.t2)) none))
theorem T8 (l:(Sl Int)):lu [] [Fa] 140 [(dc 3 (kI .i64)) l] = (oq l).map kB:=by
 unfold oq
 try simp only [aL]
 kernel_rfl
def Lz:List KV->KR KV:=aZ PG 140 (bd kB fun vs=>oq ((cT av) (v9 vs 0)))
theorem RU:aY PG 140 Lz:=b8 ah.nil (fv P0 aD.nil) fun w=>T8 ((cT av) (g0 36 (w 0)))
def BS (s:aw) (n:Node):=xB n.bB
def BT (s:aw) (n:Node):=BR n.fG
def BU (s:aw) (n:Node):=xF n.fH 4096
def BV (s:aw) (n:Node):=oq n.lO
def tu (s:aw) (n:Node):Option (Bool):=(cond (n.kind==5) (cond (decide (n.sq >= 0)) (some ((decide (n.sq < (s.ay.n:Int))))) (some (false))) (cond (n.sq==0) (cond (BU s n).isSome (cond ((BU s n).getD default) (cond (BV s n).isSome (some (((BV s n).getD default))) none) (some (false))) none) (some (false))))
def ni (s:aw) (n:Node):Option (Bool):=(cond (n.kind != 4) (cond (!((n.fH.x==0)&&((n.fH.y==0)&&((n.fH.z==0)&&true)))) (some (false)) (cond (decide ((n.lO.n:Int) > 0)) (some (false))
   (tu s n)))
  (tu s n))
def tv (s:aw) (n:Node):Option (Bool):=(cond (n.kind==2) (cond (BT s n).isSome (cond (!((BT s n).getD default)) (some (false)) (cond (n.kind != 3) (cond (n.s6 != 0) (some (false))
    (ni s n))
   (ni s n))) none) (cond (n.kind != 3) (cond (n.s6 != 0) (some (false))
   (ni s n))
  (ni s n)))
def tw (s:aw) (n:Node):Option (Bool):=(cond (n.kind != 2) (cond (!((n.fG.m.e0.e0==0)&&((n.fG.m.e0.e1==0)&&((n.fG.m.e0.e2==0)&&((n.fG.m.e1.e0==0)&&((n.fG.m.e1.e1==0)&&((n.fG.m.e1.e2==0)&&((n.fG.m.e2.e0==0)&&((n.fG.m.e2.e1==0)&&((n.fG.m.e2.e2==0)&&((n.fG.t.x==0)&&((n.fG.t.y==0)&&((n.fG.t.z==0)&&true))))))))))))) (some (false))
  (tv s n))
  (tv s n))
def qQ (s:aw) (n:Node):Option (Bool):=(cond (decide (n.kind < 1)) (some (false)) (cond (decide (n.kind > 5)) (some (false)) (cond (BS s n).isSome (cond (!((BS s n).getD default)) (some (false)) (cond (decide (n.bB.aU.e1 > 0)) (cond (decide (n.bB.look.ca >= (s.az.n:Int))) (some (false))
    (tw s n))
    (tw s n))) none)))
theorem Yt (s:aw) (n:Node):lu [(140,Lz),(139,T7),(138,adi),(103,M9)] [] 81 [iG s,uh n] = (qQ s n).map kB:=by
 unfold qQ tw tv ni tu
 try simp only [aL]
 kernel_rfl
def Hk:List KV->KR KV:=aZ PG 81 (bd kB fun vs=>qQ (de (v9 vs 0)) (nV (v9 vs 1)))
theorem IU:aY PG 81 Hk:=b8 (ah.cons RU (ah.cons SK (ah.cons aek (ah.cons JO ah.nil)))) aD.nil fun w=>Yt (de (g0 34 (w 0))) (nV (g0 77 (w 1)))
structure jI where
 a:(Sl Int)
 b:(Sl Int)
 t4:Bool
 i:Int
instance:Inhabited jI:=⟨⟨default,default,default,default⟩⟩
def xG (x:jI):List KV:=[dc 3 (kI .i64) x.a,dc 3 (kI .i64) x.b,.bool x.t4,.int .i64 x.i]
def xH (x:jI):List (List KV):=[]
def Hl (vs:List KV) (rs:List (List KV)):jI:=⟨cT av (v9 vs 0),cT av (v9 vs 1),cK (v9 vs 2),av (v9 vs 3)⟩
def IV:aB:=⟨[(0,w9 (n9 3)),(1,w9 (n9 3)),(4,w9 b9),(5,w9 i9)],[],[]⟩
def T9:=sm [] [] 61 58 IV
def fI (x:jI):ax jI:=(cond (decide (x.i < (x.a.n:Int))) (cond ((decide (0<=x.i))&&(decide (x.i < (x.a.n:Int)))) (cond ((decide (0<=x.i))&&(decide (x.i < (x.b.n:Int)))) (cond ((x.a.get (Int.toNat x.i)) != (x.b.get (Int.toNat x.i))) (.out aq.ae.ret ⟨x.a,x.b,false,x.i⟩) (.next ⟨x.a,x.b,x.t4,(aV (x.i+1))⟩)) .fail) .fail) (.out (aq.ae.exit 0) x))
theorem P1 (x:jI):T9 (xG x) (xH x)=ax.enc xG xH (fI x):=by
 unfold fI
 try simp only [ax.aO]
 kernel_rfl
def IW:Lp:=⟨61,58,IV,fun vs rs=>bU xG xH (goN fI (Hl vs rs)) [aq.ae.exit 0,aq.ae.ret],false⟩
theorem Ua:IW.Ok PG:=kv ah.nil aD.nil (pa:=Hl) P1
def vb (a:(Sl Int)) (b:(Sl Int)):=goN fI ⟨a,b,false,0⟩
def mN (a:(Sl Int)) (b:(Sl Int)):Option (Bool):=(cond ((a.n:Int) != (b.n:Int)) (some (false)) (cond ((vb a b).by (aq.ae.exit 0)) (some (true)) (cond ((vb a b).by aq.ae.ret) (some ((vb a b).st.t4)) none)))
theorem Yu (a:(Sl Int)) (b:(Sl Int)):lu [] [IW] 61 [(dc 3 (kI .i64)) a,(dc 3 (kI .i64)) b] = (mN a b).map kB:=by
 unfold mN
 try simp only [aL]
 kernel_rfl
def oC:List KV->KR KV:=aZ PG 61 (bd kB fun vs=>mN ((cT av) (v9 vs 0)) ((cT av) (v9 vs 1)))
theorem nj:aY PG 61 oC:=b8 ah.nil (fv Ua aD.nil) fun w=>Yu ((cT av) (g0 36 (w 0))) ((cT av) (g0 36 (w 1)))
def zZ (a:Node) (b:Node):=mN a.lO b.lO
def jd (a:Node) (b:Node):Option (Bool):=(cond (a.kind==b.kind) (cond ((a.fG.m.e0.e0==b.fG.m.e0.e0)&&((a.fG.m.e0.e1==b.fG.m.e0.e1)&&((a.fG.m.e0.e2==b.fG.m.e0.e2)&&((a.fG.m.e1.e0==b.fG.m.e1.e0)&&((a.fG.m.e1.e1==b.fG.m.e1.e1)&&((a.fG.m.e1.e2==b.fG.m.e1.e2)&&((a.fG.m.e2.e0==b.fG.m.e2.e0)&&((a.fG.m.e2.e1==b.fG.m.e2.e1)&&((a.fG.m.e2.e2==b.fG.m.e2.e2)&&((a.fG.t.x==b.fG.t.x)&&((a.fG.t.y==b.fG.t.y)&&((a.fG.t.z==b.fG.t.z)&&true)))))))))))) (cond (a.s6==b.s6) (cond ((a.fH.x==b.fH.x)&&((a.fH.y==b.fH.y)&&((a.fH.z==b.fH.z)&&true))) (cond (zZ a b).isSome (cond ((zZ a b).getD default) (cond (a.sq==b.sq) (some (((a.bB.aU.e0==b.bB.aU.e0)&&((a.bB.aU.e1==b.bB.aU.e1)&&((a.bB.aU.e2==b.bB.aU.e2)&&((a.bB.aU.e3==b.bB.aU.e3)&&((a.bB.aU.e4==b.bB.aU.e4)&&((a.bB.look.color.e0==b.bB.look.color.e0)&&((a.bB.look.color.e1==b.bB.look.color.e1)&&((a.bB.look.color.e2==b.bB.look.color.e2)&&((a.bB.look.color.e3==b.bB.look.color.e3)&&((a.bB.look.ca==b.bB.look.ca)&&((a.bB.look.gW==b.bB.look.gW)&&((a.bB.look.gq==b.bB.look.gq)&&((a.bB.look.eH==b.bB.look.eH)&&((a.bB.look.bin==b.bB.look.bin)&&true)))))))))))))))) (some (false))) (some (false))) none) (some (false))) (some (false))) (some (false))) (some (false)))
theorem Wq (a:Node) (b:Node):lu [(61,oC)] [] 38 [uh a,uh b] = (jd a b).map kB:=by
 unfold jd
 try simp only [aL]
 kernel_rfl
def ss:List KV->KR KV:=aZ PG 38 (bd kB fun vs=>jd (nV (v9 vs 0)) (nV (v9 vs 1)))
theorem rS:aY PG 38 ss:=b8 (ah.cons nj ah.nil) aD.nil fun w=>Wq (nV (g0 77 (w 0))) (nV (g0 77 (w 1)))
def J3 (n:Node):=jd n ⟨0,⟨⟨⟨0,0,0⟩,⟨0,0,0⟩,⟨0,0,0⟩⟩,⟨0,0,0⟩⟩,0,⟨0,0,0⟩,⟨0,(fun i=>0)⟩,0,⟨⟨0,0,0,0,0⟩,⟨⟨0,0,0,0⟩,0,0,0,false,0⟩⟩⟩
def yp (n:Node):Option (Bool):=(cond (J3 n).isSome (some (((J3 n).getD default))) none)
theorem ael (n:Node):lu [(38,ss)] [] 131 [uh n] = (yp n).map kB:=by
 unfold yp
 try simp only [aL]
 kernel_rfl
def P2:List KV->KR KV:=aZ PG 131 (bd kB fun vs=>yp (nV (v9 vs 0)))
theorem P3:aY PG 131 P2:=b8 (ah.cons rS ah.nil) aD.nil fun w=>ael (nV (g0 77 (w 0)))
def J4 (s:aw) (h:Handle):=ug s.graph.bu h
def Dp (s:aw) (h:Handle):Option (Bool):=(cond (J4 s h).isSome (some (((J4 s h).getD default))) none)
theorem aem (s:aw) (h:Handle):lu [(177,Da)] [] 132 [iG s,fE h] = (Dp s h).map kB:=by
 unfold Dp
 try simp only [aL]
 kernel_rfl
def P4:List KV->KR KV:=aZ PG 132 (bd kB fun vs=>Dp (de (v9 vs 0)) (dW (v9 vs 1)))
theorem P5:aY PG 132 P4:=b8 (ah.cons zm ah.nil) aD.nil fun w=>aem (de (g0 34 (w 0))) (dW (g0 32 (w 1)))
structure fO where
 t2:Bool
 i:Int
 s:aw
instance:Inhabited fO:=⟨⟨default,default,default⟩⟩
def Hm (x:fO):List KV:=[.bool x.t2,.int .i64 x.i]
def Hn (x:fO):List (List KV):=[iE x.s]
def P6 (vs:List KV) (rs:List (List KV)):fO:=⟨cK (v9 vs 0),av (v9 vs 1),iH (r9 rs 0)⟩
def SL:aB:=⟨[(2,w9 b9),(3,w9 i9)],[(1,[n9 111,n9 35,n9 77,n9 88,n9 91,i9,i9],1)],[(1,0,0)]⟩
def adj:=sm [(132,P4),(131,P2),(81,Hk),(130,JT),(129,TY)] [] 78 58 SL
def D5 (x:fO):=qQ x.s (x.s.nodes.get (Int.toNat x.i))
def D6 (x:fO):=yp (x.s.nodes.get (Int.toNat x.i))
def nH (x:fO):ax fO:=(cond ((decide (0<=x.i))&&(decide (x.i < (x.s.nodes.n:Int)))) (cond ((x.s.nodes.get (Int.toNat x.i)).kind==5) (cond ((decide (0<=x.i))&&(decide (x.i < (x.s.graph.kids.n:Int)))) (cond (decide (((x.s.graph.kids.get (Int.toNat x.i)).n:Int) > 0)) (.out aq.ae.ret ⟨false,x.i,x.s⟩) (.next ⟨x.t2,(aV (x.i+1)),x.s⟩)) .fail) (.next ⟨x.t2,(aV (x.i+1)),x.s⟩)) .fail)
def nI (x:fO):ax fO:=(cond (!(x.s.graph.bu.aP.get (Int.toNat x.i)).live) (cond ((decide (0<=x.i))&&(decide (x.i < (x.s.nodes.n:Int)))) (cond (D6 x).isSome (cond (!((D6 x).getD default)) (.out aq.ae.ret ⟨false,x.i,x.s⟩)
   (nH x)) .fail) .fail)
  (nH x))
def jn (x:fO):ax fO:=(cond (decide (x.i < (x.s.nodes.n:Int))) (cond ((decide (0<=x.i))&&(decide (x.i < (x.s.graph.bu.aP.n:Int)))) (cond (x.s.graph.bu.aP.get (Int.toNat x.i)).live (cond ((decide (0<=x.i))&&(decide (x.i < (x.s.nodes.n:Int)))) (cond (D5 x).isSome (cond (!((D5 x).getD default)) (.out aq.ae.ret ⟨false,x.i,x.s⟩)
    (nI x)) .fail) .fail)
   (nI x)) .fail) (.out (aq.ae.exit 0) x))
theorem Yv (x:fO):adj (Hm x) (Hn x)=ax.enc Hm Hn (jn x):=by
 unfold jn nI nH
 try simp only [ax.aO]
 kernel_rfl
def SM:Lp:=⟨78,58,SL,fun vs rs=>bU Hm Hn (goN jn (P6 vs rs)) [aq.ae.exit 0,aq.ae.ret],false⟩
theorem adk:SM.Ok PG:=kv (ah.cons P5 (ah.cons P3 (ah.cons IU (ah.cons Ly (ah.cons SB ah.nil))))) aD.nil (pa:=P6) Yv
def Ni (s:aw):=Bw s.graph
def Nj (s:aw):=sK s
def pD (s:aw):=goN jn ⟨false,0,s⟩
def Nk (s:aw):=Dp (pD s).st.s (pD s).st.s.root
def BX (s:aw):Option (Bool):=(cond (Ni s).isSome (cond (!((Ni s).getD default)) (some (false)) (cond ((s.nodes.n:Int) != (s.graph.kids.n:Int)) (some (false)) (cond (Nj s).isSome (cond (!((Nj s).getD default)) (some (false)) (cond ((pD s).by (aq.ae.exit 0)) (cond (((pD s).st.s.root.slot==0)&&(((pD s).st.s.root.gen==0)&&true)) (some (true)) (cond (Nk s).isSome (some (((Nk s).getD default))) none)) (cond ((pD s).by aq.ae.ret) (some ((pD s).st.t2)) none))) none))) none)
theorem agJ (s:aw):lu [(132,P4),(131,P2),(81,Hk),(130,JT),(129,TY)] [SM] 78 [iG s] = (BX s).map kB:=by
 unfold BX
 try simp only [aL]
 kernel_rfl
def adl:List KV->KR KV:=aZ PG 78 (bd kB fun vs=>BX (de (v9 vs 0)))
theorem aen:aY PG 78 adl:=b8 (ah.cons P5 (ah.cons P3 (ah.cons IU (ah.cons Ly (ah.cons SB ah.nil))))) (fv adk aD.nil) fun w=>agJ (de (g0 34 (w 0)))
def Ho (s:aw):=BX s
def rT (s:aw):Option (Int):=(cond (Ho s).isSome (cond (!((Ho s).getD default)) (some (8)) (some (0))) none)
theorem adm (s:aw):lu [(78,adl)] [] 26 [iG s] = (rT s).map (kI .i64):=by
 unfold rT
 try simp only [aL]
 kernel_rfl
def Nl:List KV->KR KV:=aZ PG 26 (bd (kI .i64) fun vs=>rT (de (v9 vs 0)))
theorem NT:aY PG 26 Nl:=b8 (ah.cons aen ah.nil) aD.nil fun w=>adm (de (g0 34 (w 0)))
end
end Go.Proofs.YtckbdndhmcoihaaGreat.b
end
section
set_option maxRecDepth 20000
namespace Go.Proofs.YtckbdndhmcoihaaGreat.nodes
open Go Go.RowKit Go.Lib
abbrev hv (x:Int×Int):Value:=.agg #[.int .i64 x.1,.int .i64 x.2]
theorem FW:Tryz.prog.follows .mixedOrders=true:=by kernel_rfl
theorem aqN (x y:Int×Int) (w:World):(Op.equal 32 (hv x) (hv y)).run Tryz.prog w = .ok (decide (x=y)) w:=by
 obtain ⟨s,g⟩:=x;obtain ⟨s',g'⟩:=y;have e:decide ((s,g)=(s',g'))=(s==s'&&g==g'):=by
  rw [Bool.eq_iff_iff];simp
 rw [e];have h:=K.Pa (P:=Tryz.prog) (E:=⟨fun _=>none,fun _=>none,fun _=>none,fun _=>none⟩) 12 10000 32 ⟨true,[.int .i64,.int .i64]⟩ [.int .i64 s,.int .i64 g] [.int .i64 s',.int .i64 g'] [.int .i64 s,.int .i64 g] [.int .i64 s',.int .i64 g'] ((s==s')&&((g==g')&&true))
  (by kernel_rfl) (by kernel_rfl) (by omega) (.cons .mkInt (.cons .mkInt .nil)) (.cons .mkInt (.cons .mkInt .nil)) rfl rfl rfl
 rw [iY] at h;exact aq.fg h w
def Wr (es:Array MapEntry) (S:List (Int×Int)):Prop:=es.toList.map (·.key)=S.map hv/\∀ e∈es.toList,e.val = .bool true
theorem aiM (k:Int×Int) (w:World):∀ (l:List MapEntry) (S:List (Int×Int)) (i:Nat),l.map (·.key)=S.map hv->(∀ e∈l,e.val = .bool true)->
  ∃ r,(Instr.findAsking 32 (hv k) l i).run Tryz.prog w = .ok r w/\(k∈S->∃ j,r=some (i+j,.bool true)/\j < l.length/\l[j]?.map (·.key)=some (hv k))/\(k ∉ S->r=none)
 | [],[],i,_,_=>⟨none,rfl,fun h=>by simp at h,fun _=>rfl⟩
 | [],_::_,_,h,_=>by simp at h
 | _::_,[],_,h,_=>by simp at h
 | e::l,x::S,i,h,hb=>by
  simp only [List.map_cons,List.cons.injEq] at h;obtain ⟨r,h1,h2,h3⟩:=aiM k w l S (i+1) h.2 (fun e' he=>hb e' (uF _ he));have he:=aqN k x w;rw [<- h.1] at he;by_cases hx:k=x
  ·rw [ai hx] at he
   refine ⟨some (i,.bool true),?_,fun _=>⟨0,rfl,by simp,by simp [h.1,hx]⟩,fun hn=>absurd (by rw [hx]; exact List.mem_cons_self ..) hn⟩;have Ry:=hb e (List.mem_cons_self ..);simp [Instr.findAsking,he,Ry]
  ·rw [aE hx] at he
   refine ⟨r,?_,fun hm=>?_,fun hn=>h3 fun q=>hn (uF _ q)⟩
   ·simp only [Instr.findAsking,Sem.run_bind,he,gJ]
    exact h1
   ·obtain ⟨j,q1,q2,q3⟩:=h2 ((dv.1 hm).resolve_left hx)
    exact ⟨j+1,by rw [q1]; congr 2; omega,by simp; omega,by simpa using q3⟩
theorem afv (b:Bool) (k:Int×Int) (w:World):(Instr.checkKey b 10000 32 (hv k)).run Tryz.prog w = .ok () w:=by
 have h:aq.cR Tryz.prog (Instr.checkKey b 10000 32 (hv k))=some ():=by cases b <;> kernel_rfl
 exact aq.fg h w
theorem ZV (k:Int×Int) (w:World) {es:Array MapEntry} {S:List (Int×Int)} (h:Wr es S) :
  ∃ r,(Instr.findKey 32 (hv k) es.toList).run Tryz.prog w = .ok r w/\(k∈S->∃ j,r=some (j,.bool true))/\(k ∉ S->r=none):=by
 obtain ⟨r,h1,h2,h3⟩:=aiM k w es.toList S 0 h.1 h.2;have u32:=run_underlying Tryz.underlying32;unfold Instr.findKey;cases hl:es.toList with
 | nil=>
  rw [hl] at h1;refine ⟨none,?_,fun hk=>?_,fun _=>rfl⟩
  ·simp only [Sem.run_bind,u32,gJ,Instr.findNow]
   rfl
  ·have:=h.1
   rw [hl] at this;have:S = []:=by simpa using this.symm
   rw [this] at hk;simp at hk
 | cons e l=>
  rw [hl] at h1;refine ⟨r,?_,fun hk=>?_,h3⟩
  ·have hn:∀ fs i,Instr.findNow (.struct fs) (hv k) (e::l) i=none:=fun fs i=>by
    unfold Instr.findNow;have:∀ v,Instr.sameNow (.struct fs) (hv k) v=none:=fun v=>by cases v <;> rfl
    rw [this]
   simp only [Sem.run_bind,u32,gJ,hn];exact h1
  ·obtain ⟨j,q,_⟩:=h2 hk
   exact ⟨0+j,q⟩
theorem am3 {W:World} {mb:Nat} {es:Array MapEntry} {clock:Nat} {S:List (Int×Int)} (hm:W.heap[mb]? = some (.map es clock)) (h:Wr es S) (k:Int×Int) :
  (Instr.lookup 202 (.map (some mb)) (hv k) false).run Tryz.prog W = .ok (.bool (decide (k∈S))) W:=by
 obtain ⟨r,h1,h2,h3⟩:=ZV k W h;have P7:=run_underlying Tryz.underlying202;have v4:=Tryz.zeroValue4;unfold Instr.lookup;simp only [Sem.run_bind,P7,gJ,MapKept.run_getObj_map hm,Sem.run_pure,afv,h1];by_cases hk:k∈S
 ·obtain ⟨j,rfl⟩:=h2 hk
  rw [ai hk];rfl
 ·rw [h3 hk,aE hk]
  simp only [Sem.run_bind,v4,gJ,Sem.run_pure];rfl
def put (W:World) (mb:Nat) (o:Obj):World:={ W with heap:=W.heap.setIfInBounds mb o }
theorem aoE {W:World} {mb:Nat} {es:Array MapEntry} {clock:Nat} {S:List (Int×Int)} (hm:W.heap[mb]? = some (.map es clock)) (h:Wr es S) (k:Int×Int) (hk:k ∉ S) :
  (Instr.mapUpdate 202 (.map (some mb)) (hv k) (.bool true)).run Tryz.prog W = .ok () (put W mb (.map (es.push ⟨hv k,.bool true,clock⟩) (clock+1))):=by
 obtain ⟨r,h1,h2,h3⟩:=ZV k W h;have P7:=run_underlying Tryz.underlying202;unfold Instr.mapUpdate;simp only [Sem.run_bind,P7,gJ,MapKept.run_getObj_map hm,Sem.run_pure,afv,h1,h3 hk];exact MapKept.run_setObj_map _ hm
theorem akx {es:Array MapEntry} {S:List (Int×Int)} (h:Wr es S) (k:Int×Int) (c:Nat):Wr (es.push ⟨hv k,.bool true,c⟩) (S++[k]):=by
 refine ⟨?_,fun e he=>?_⟩
 ·rw [Array.toList_push,List.map_append,List.map_append,h.1]; rfl
 ·rw [Array.toList_push] at he
  rcases iW.1 he with he | he
  ·exact h.2 e he
  ·rw [List.mem_singleton.1 he]
theorem Yw:Wr #[] []:=⟨rfl,fun e he=>by simp at he⟩
theorem aa1 {W:World} {mb:Nat} {o o' : Obj} (h:W.heap[mb]? = some o'):(put W mb o).heap[mb]? = some o:=by
 have bh:mb < W.heap.size:=(rA.1 h).1;unfold put;simp [Array.getElem?_setIfInBounds,bh]
theorem aa2 {W:World} {mb k:Nat} {o:Obj} (h:k≠mb):(put W mb o).heap[k]? = W.heap[k]?:=by
 unfold put;simp [Array.getElem?_setIfInBounds,Ne.symm h]
theorem Yx {W:World} {mb:Nat} {o:Obj} : (put W mb o).heap.size=W.heap.size:=by
 unfold put;simp
end Go.Proofs.YtckbdndhmcoihaaGreat.nodes
end
section
set_option maxRecDepth 20000
namespace Go.Proofs.YtckbdndhmcoihaaGreat.nodes
open Go Go.RowKit Go.Lib Go.Shelf
set_option maxHeartbeats 4000000 in
theorem apu (g:Nat) (lb:Array Value) (eg:∀ args w,(callFunc g args).run Tryz.prog w = .ok (.enter g args) w) (a:Option Addr) (n c:Nat) (x:Nat->Int×Int) (I:Nat->World->Prop) (T:World->Prop) (Ws:n<=1000000)
  (eS:∀ W kk,kk < n->I kk W->∃ b off,a=some ⟨b,off,none⟩/\W.cell? ⟨b,off+kk * 2,none⟩=some (.int .i64 (x kk).1)/\W.cell? ⟨b,off+kk * 2+1,none⟩=some (.int .i64 (x kk).2))
  (agK:∀ kk W,kk < n->I kk W->Calls Tryz.prog g (#[hv (x kk)]++lb) W fun e W'=>e = .returned (.bool true)/\T W'\/e = .returned (.bool false)/\I (kk+1) W')
  (w:World) (h0:I 0 w):Calls Tryz.prog 174 #[.slice a n c,.func (.func g) #[] lb] w fun e W'=>(∃ kk:Nat,kk < n/\e = .returned (.int .i64 kk)/\T W')\/e = .returned (.int .i64 (-1))/\I n W':=by
 have mixed:=FW;have t32:=Tryz.underlying32; have a32:=Tryz.isAgg32; have z32:=Tryz.sizeOf32; have v32:=Tryz.zeroValue32; have u32:=run_underlying Tryz.underlying32;have t35:=Tryz.underlying35; have a35:=Tryz.isAgg35; have z35:=Tryz.sizeOf35; have v35:=Tryz.zeroValue35; have u35:=run_underlying Tryz.underlying35;have t3:=Tryz.underlying3; have a3:=Tryz.isAgg3; have z3:=Tryz.sizeOf3; have v3:=Tryz.zeroValue3; have u3:=run_underlying Tryz.underlying3
 go_enter Tryz.func174,Tryz.ntmps174
 go_wp2
 go_loopg [5,8] n (fun gg _ s8 wr=>∃ kk:Nat,kk<=n/\n - kk<=gg/\s8 = .int .i64 kk/\Aside (I kk wr))
 case atStart=>exact ⟨0,yK _,by omega,rfl,h0⟩
 case round=>
  obtain ⟨kk,hkk,hg,rfl,BW⟩:=hrel;by_cases bh:kk < n
  ·have aoF:(kk:Int) < (n:Int):=by omega
   obtain ⟨b,off,ea,l1,l2⟩:=eS wr kk bh BW.out;subst ea;have hc:=agK kk wr bh BW.out;clear eS agK;generalize hy:x kk=y at l1 l2 hc;clear hy
   go_wp2_with (go_at_fn g; refine hc.mono ?_; rintro e w' (⟨rfl,hb'⟩ | ⟨rfl,hb'⟩))
   ·go_wp2
    go_ret
    exact .inl ⟨kk,bh,rfl,hb'⟩
   ·go_wp2
    go_roundg (n - (kk+1))
    case measure=>omega
    case rel=>exact ⟨kk+1,by omega,by omega,by go_num,hb'⟩
  ·have aoF : ¬ (kk:Int) < (n:Int):=by omega
   have:kk=n:=by omega
   subst this
   go_wp2
   go_ret
   exact .inr ⟨rfl,BW.out⟩
set_option maxHeartbeats 4000000 in
theorem Ub (g:Nat) (lb:Array Value) (eg:∀ args w,(callFunc g args).run Tryz.prog w = .ok (.enter g args) w) (a:Option Addr) (n c:Nat) (x:Nat->Int×Int) (I:Nat->World->Prop) (T:World->Prop) (Ws:n<=1000000)
  (eS:∀ W kk,kk < n->I kk W->∃ b off,a=some ⟨b,off,none⟩/\W.cell? ⟨b,off+kk * 2,none⟩=some (.int .i64 (x kk).1)/\W.cell? ⟨b,off+kk * 2+1,none⟩=some (.int .i64 (x kk).2))
  (agK:∀ kk W,kk < n->I kk W->Calls Tryz.prog g (#[hv (x kk)]++lb) W fun e W'=>e = .returned (.bool true)/\T W'\/e = .returned (.bool false)/\I (kk+1) W')
  (w:World) (h0:I 0 w):Calls Tryz.prog 122 #[.slice a n c,.func (.func g) #[] lb] w fun e W'=>∃ r,e = .returned (.bool r)/\(r=true/\T W'\/r=false/\I n W'):=by
 have mixed:=FW;have t35:=Tryz.underlying35; have a35:=Tryz.isAgg35; have z35:=Tryz.sizeOf35; have v35:=Tryz.zeroValue35; have u35:=run_underlying Tryz.underlying35;have t3:=Tryz.underlying3; have a3:=Tryz.isAgg3; have z3:=Tryz.sizeOf3; have v3:=Tryz.zeroValue3; have u3:=run_underlying Tryz.underlying3;have hI:=apu g lb eg a n c x I T Ws eS agK w h0
 go_enter Tryz.func122,Tryz.ntmps122
 go_wp2_with (go_at_call 174; refine hI.mono ?_; rintro e w' (⟨kk,hk,rfl,hb'⟩ | ⟨rfl,hb'⟩))
 ·go_wp2
  go_ret
  exact ⟨true,by congr 2,.inl ⟨rfl,hb'⟩⟩
 ·go_wp2
  go_ret
  exact ⟨false,by congr 2,.inr ⟨rfl,hb'⟩⟩
structure G where
 sa:Option Addr
 sn:Nat
 sc:Nat
 ka:Option Addr
 kn:Nat
 kc:Nat
 ia:Nat->Option Addr
 im:Nat->Nat
 ic:Nat->Nat
 lQ:Nat->Nat->Int×Int
structure GAt (q:G) (B:Nat) (W:World):Prop where
 kids:∀ i,i < q.kn->∃ b off,q.ka=some ⟨b,off,none⟩/\b < B/\W.cell? ⟨b,off+i,none⟩=some (.slice (q.ia i) (q.im i) (q.ic i))
 small:∀ i,i < q.kn->q.im i<=1000000
 row:∀ i,i < q.kn->∀ k,k < q.im i->∃ b off,q.ia i=some ⟨b,off,none⟩/\b < B/\W.cell? ⟨b,off+k * 2,none⟩=some (.int .i64 (q.lQ i k).1)/\W.cell? ⟨b,off+k * 2+1,none⟩=some (.int .i64 (q.lQ i k).2)
structure Kp (mb:Nat) (W W' : World):Prop where
 os:W'.os=W.os
 tape:W'.tape=W.tape
 output:W'.output=W.output
 size:W.heap.size<=W'.heap.size
 block:∀ k,k < W.heap.size->k≠mb->W'.heap[k]? = W.heap[k]?
theorem Kp.refl (mb:Nat) (W:World):Kp mb W W:=⟨rfl,rfl,rfl,aH _,fun _ _ _=>rfl⟩
theorem Kp.trans {mb:Nat} {W W' W2:World} (h:Kp mb W W') (k:Kp mb W' W2):Kp mb W W2:=
 ⟨k.os.trans h.os,k.tape.trans h.tape,k.output.trans h.output,kH h.size k.size,fun j hj hn=>(k.block j (kJ hj h.size) hn).trans (h.block j hj hn)⟩
theorem Kp.below {mb B:Nat} {W W' : World} (h:Kp mb W W') (hB:B<=W.heap.size) (hm:B<=mb):Below B W W':=
 ⟨h.os,h.tape,h.output,h.size,fun k hk=>h.block k (by omega) (by omega)⟩
theorem Kp.cell {mb:Nat} {W W' : World} (h:Kp mb W W') {b j:Nat} (hb:b < W.heap.size) (hm:b≠mb):W'.cell? ⟨b,j,none⟩=W.cell? ⟨b,j,none⟩:=by
 have:=h.block b hb hm;unfold World.cell?;simp only [this]
theorem Kp.alloc {mb:Nat} (W:World) (o:Obj):Kp mb W (W.alloc o):=⟨rfl,rfl,rfl,by simp,fun k hk _=>Below.heap_alloc W o k hk⟩
theorem Kp.drew (mb:Nat) (W:World):Kp mb W W.drew:=⟨rfl,rfl,rfl,aH _,fun _ _ _=>rfl⟩
theorem Kp.put {mb:Nat} (W:World) (o:Obj):Kp mb W (put W mb o):=⟨rfl,rfl,rfl,by rw [Yx]; exact aH _,fun k _ hn=>aa2 hn⟩
theorem GAt.eY {q:G} {B mb:Nat} {W W' : World} (h:GAt q B W) (k:Kp mb W W') (hB:B<=W.heap.size) (hm:B<=mb):GAt q B W':=by
 refine ⟨fun i hi=>?_,h.small,fun i hi j hj=>?_⟩
 ·obtain ⟨b,off,h1,h2,h3⟩:=h.kids i hi
  exact ⟨b,off,h1,h2,by rw [k.cell (by omega) (by omega)]; exact h3⟩
 ·obtain ⟨b,off,h1,h2,h3,h4⟩:=h.row i hi j hj
  exact ⟨b,off,h1,h2,by rw [k.cell (by omega) (by omega)]; exact h3,by rw [k.cell (by omega) (by omega)]; exact h4⟩
structure wS (q:G) (B b1 b2 b3 b4 mb:Nat) (to:Int×Int) (W:World) (S:List (Int×Int)):Prop where
 g:GAt q B W
 fk:B<=W.heap.size
 l1:b1 < W.heap.size/\b1≠mb
 l2:b2 < W.heap.size/\b2≠mb
 l3:b3 < W.heap.size/\b3≠mb
 l4:b4 < W.heap.size/\b4≠mb
 m:B<=mb
 c1:W.cell? ⟨b1,0,none⟩=some (.int .i64 to.1)
 d1:W.cell? ⟨b1,1,none⟩=some (.int .i64 to.2)
 c2:W.cell? ⟨b2,0,none⟩=some (.map (some mb))
 c3:W.cell? ⟨b3,0,none⟩=some (.slice q.sa q.sn q.sc)
 d3:W.cell? ⟨b3,1,none⟩=some (.slice q.ka q.kn q.kc)
 c4:W.cell? ⟨b4,0,none⟩=some (.func (.func 175) #[] #[.pointer (some ⟨b1,0,none⟩),.pointer (some ⟨b2,0,none⟩),.pointer (some ⟨b3,0,none⟩),.pointer (some ⟨b4,0,none⟩)])
 map:∃ es clock,W.heap[mb]? = some (.map es clock)/\Wr es S
 to:to ∉ S
theorem wS.eY {q:G} {B b1 b2 b3 b4 mb:Nat} {to:Int×Int} {W W' : World} {S S' : List (Int×Int)} (h:wS q B b1 b2 b3 b4 mb to W S) (k:Kp mb W W') (hm:∃ es clock,W'.heap[mb]? = some (.map es clock)/\Wr es S') (ht:to ∉ S') :
  wS q B b1 b2 b3 b4 mb to W' S' where
 g:=h.g.eY k h.fk h.m
 fk:=kH h.fk k.size
 l1:=⟨kJ h.l1.1 k.size,h.l1.2⟩
 l2:=⟨kJ h.l2.1 k.size,h.l2.2⟩
 l3:=⟨kJ h.l3.1 k.size,h.l3.2⟩
 l4:=⟨kJ h.l4.1 k.size,h.l4.2⟩
 m:=h.m
 c1:=(k.cell h.l1.1 h.l1.2).trans h.c1
 d1:=(k.cell h.l1.1 h.l1.2).trans h.d1
 c2:=(k.cell h.l2.1 h.l2.2).trans h.c2
 c3:=(k.cell h.l3.1 h.l3.2).trans h.c3
 d3:=(k.cell h.l3.1 h.l3.2).trans h.d3
 c4:=(k.cell h.l4.1 h.l4.2).trans h.c4
 map:=hm
 to:=ht
inductive Reach (q:G) (to:Int×Int):Int×Int->Prop where
 | here:Reach q to to
 | lQ (h:Int×Int) (k:Nat) (hk:k < q.im h.1.toNat) (r:Reach q to (q.lQ h.1.toNat k)):Reach q to h
structure Grow (q:G) (S:List (Int×Int)) (h:Int×Int) (S' : List (Int×Int)):Prop where
 sub:∀ x∈S,x∈S'
 is:h∈S'
 new:∀ x∈S',x∈S\/∀ k,k < q.im x.1.toNat->q.lQ x.1.toNat k∈S'
theorem filter_le {S S1:List (Int×Int)} (h:∀ x∈S,x∈S1):∀ U:List (Int×Int),(U.filter fun u=>!decide (u∈S1)).length<=(U.filter fun u=>!decide (u∈S)).length
 | []=>aH _
 | u::U=>by
  have ih:=filter_le h U;by_cases h1:u∈S
  ·rw [List.filter_cons_of_neg (by simp [h u h1]),List.filter_cons_of_neg (by simp [h1])]; exact ih
  ·rw [List.filter_cons_of_pos (p:=fun u=>!decide (u∈S)) (by simp [h1])]
   by_cases h2:u∈S1
   ·rw [List.filter_cons_of_neg (by simp [h2])]; exact Nat.le_succ_of_le ih
   ·rw [List.filter_cons_of_pos (by simp [h2])]; exact Nat.succ_le_succ ih
theorem filter_lt {S S1:List (Int×Int)} (h:∀ x∈S,x∈S1) {k:Int×Int} (hk:k ∉ S) (yJ:k∈S1):∀ U:List (Int×Int),k∈U->(U.filter fun u=>!decide (u∈S1)).length < (U.filter fun u=>!decide (u∈S)).length
 | [],hm=>by simp at hm
 | u::U,hm=>by
  by_cases e:k=u
  ·subst e
   rw [List.filter_cons_of_neg (by simp [yJ]),List.filter_cons_of_pos (p:=fun u=>!decide (u∈S)) (by simp [hk])];exact Nat.lt_succ_of_le (filter_le h U)
  ·have ih:=filter_lt h hk yJ U ((dv.1 hm).resolve_left e)
   by_cases h1:u∈S
   ·rw [List.filter_cons_of_neg (by simp [h u h1]),List.filter_cons_of_neg (by simp [h1])]; exact ih
   ·rw [List.filter_cons_of_pos (p:=fun u=>!decide (u∈S)) (by simp [h1])]
    by_cases h2:u∈S1
    ·rw [List.filter_cons_of_neg (by simp [h2])]; exact Nat.lt_succ_of_lt ih
    ·rw [List.filter_cons_of_pos (by simp [h2])]; exact Nat.succ_lt_succ ih
set_option maxHeartbeats 4000000 in
theorem look (q:G) (B b1 b2 b3 b4 mb:Nat) (to:Int×Int) (U:List (Int×Int)) (hU:∀ u∈U,(0<=u.1/\u.1 < (q.kn:Int))/\∀ k,k < q.im u.1.toNat->q.lQ u.1.toNat k∈U) :
  ∀ (fuel:Nat) (S:List (Int×Int)) (W:World) (h:Int×Int),h∈U->(U.filter fun u=>!decide (u∈S)).length < fuel->wS q B b1 b2 b3 b4 mb to W S->
   Calls Tryz.prog 175 #[hv h,.pointer (some ⟨b1,0,none⟩),.pointer (some ⟨b2,0,none⟩),.pointer (some ⟨b3,0,none⟩),.pointer (some ⟨b4,0,none⟩)] W fun e W'=>
    ∃ S',wS q B b1 b2 b3 b4 mb to W' S'/\Kp mb W W'/\(e = .returned (.bool true)/\Reach q to h\/e = .returned (.bool false)/\Grow q S h S'):=by
 intro fuel
 induction fuel with
 | zero=>exact fun S W h _ hf=>absurd hf (kA _)
 | succ fuel ih=>
  intro S W h hhU hf L;have mixed:=FW;have t32:=Tryz.underlying32; have a32:=Tryz.isAgg32; have z32:=Tryz.sizeOf32; have v32:=Tryz.zeroValue32; have u32:=run_underlying Tryz.underlying32;have t202:=Tryz.underlying202; have amf:=Tryz.isAgg202; have amg:=Tryz.sizeOf202; have amh:=Tryz.zeroValue202; have P7:=run_underlying Tryz.underlying202;have t200:=Tryz.underlying200; have aqe:=Tryz.isAgg200; have aqf:=Tryz.sizeOf200; have aqg:=Tryz.zeroValue200; have aqh:=run_underlying Tryz.underlying200;have t25:=Tryz.underlying25; have a25:=Tryz.isAgg25; have z25:=Tryz.sizeOf25; have v25:=Tryz.zeroValue25; have u25:=run_underlying Tryz.underlying25;have t27:=Tryz.underlying27; have a27:=Tryz.isAgg27; have z27:=Tryz.sizeOf27; have v27:=Tryz.zeroValue27; have u27:=run_underlying Tryz.underlying27;have t35:=Tryz.underlying35; have a35:=Tryz.isAgg35; have z35:=Tryz.sizeOf35; have v35:=Tryz.zeroValue35; have u35:=run_underlying Tryz.underlying35;have t3:=Tryz.underlying3; have a3:=Tryz.isAgg3; have z3:=Tryz.sizeOf3; have v3:=Tryz.zeroValue3; have u3:=run_underlying Tryz.underlying3;have t4:=Tryz.underlying4; have a4:=Tryz.isAgg4; have z4:=Tryz.sizeOf4; have v4:=Tryz.zeroValue4; have u4:=run_underlying Tryz.underlying4;obtain ⟨es,clock,aoG,aiN⟩:=L.map;have aqi:mb < W.heap.size:=(rA.1 aoG).1;by_cases Oz:h=to
  ·subst Oz
   have KA:=Kp.alloc (mb:=mb) W (.cells #[.int .i64 h.1,.int .i64 h.2] 32);have c1:(W.alloc (.cells #[.int .i64 h.1,.int .i64 h.2] 32)).cell? ⟨b1,0,none⟩=some (.int .i64 h.1):=(KA.cell L.l1.1 L.l1.2).trans L.c1;have d1:(W.alloc (.cells #[.int .i64 h.1,.int .i64 h.2] 32)).cell? ⟨b1,1,none⟩=some (.int .i64 h.2):=(KA.cell L.l1.1 L.l1.2).trans L.d1
   go_enter Tryz.func175,Tryz.ntmps175
   go_wp2
   go_ret
   exact ⟨S,L.eY KA ⟨es,clock,by rw [Below.heap_alloc W _ mb aqi]; exact aoG,aiN⟩ L.to,KA,.inl ⟨rfl,.here⟩⟩
  ·have KA:=Kp.alloc (mb:=mb) W (.cells #[.int .i64 h.1,.int .i64 h.2] 32)
   obtain ⟨t1,c1,d1,aqj⟩:∃ t1,(W.alloc (.cells #[.int .i64 h.1,.int .i64 h.2] 32)).cell? ⟨b1,0,none⟩=some (.int .i64 t1)/\(W.alloc (.cells #[.int .i64 h.1,.int .i64 h.2] 32)).cell? ⟨b1,1,none⟩=some (.int .i64 to.2)/\(t1=h.1/\¬ h.2=to.2\/¬ h.1=t1):=by
    refine ⟨to.1,(KA.cell L.l1.1 L.l1.2).trans L.c1,(KA.cell L.l1.1 L.l1.2).trans L.d1,?_⟩;by_cases e1:h.1=to.1
    ·exact .inl ⟨e1.symm,fun e2=>Oz (Prod.ext e1 e2)⟩
    ·exact .inr e1
   have c2:(W.alloc (.cells #[.int .i64 h.1,.int .i64 h.2] 32)).cell? ⟨b2,0,none⟩=some (.map (some mb)):=(KA.cell L.l2.1 L.l2.2).trans L.c2;have agL:(W.alloc (.cells #[.int .i64 h.1,.int .i64 h.2] 32)).heap[mb]? = some (.map es clock):=by rw [Below.heap_alloc W _ mb aqi]; exact aoG
   have hlk:=am3 agL aiN h;by_cases hS:h∈S
   ·rw [ai hS] at hlk
    have fin:∃ S',wS q B b1 b2 b3 b4 mb to (W.alloc (.cells #[.int .i64 h.1,.int .i64 h.2] 32)) S'/\Kp mb W (W.alloc (.cells #[.int .i64 h.1,.int .i64 h.2] 32))/\Grow q S h S':=
     ⟨S,L.eY KA ⟨es,clock,agL,aiN⟩ L.to,KA,⟨fun x hx=>hx,hS,fun x hx=>.inl hx⟩⟩
    obtain ⟨S',f1,f2,f3⟩:=fin;rcases aqj with ⟨rfl,e2⟩ | e1
    ·go_enter Tryz.func175,Tryz.ntmps175
     go_wp2
     go_ret
     exact ⟨S',f1,f2,.inr ⟨rfl,f3⟩⟩
    ·go_enter Tryz.func175,Tryz.ntmps175
     go_wp2
     go_ret
     exact ⟨S',f1,f2,.inr ⟨rfl,f3⟩⟩
   ·rw [aE hS] at hlk
    have Vw:=aoE agL aiN h hS;have aqO:=aa1 (o:=.map (es.push ⟨hv h,.bool true,clock⟩) (clock+1)) agL;have KP:=Kp.put (mb:=mb) (W.alloc (.cells #[.int .i64 h.1,.int .i64 h.2] 32)) (.map (es.push ⟨hv h,.bool true,clock⟩) (clock+1));have LP:=L.eY (KA.trans KP) ⟨_,_,aqO,akx aiN h clock⟩ (by
     rw [iW];rintro (hm | hm)
     ·exact L.to hm
     ·exact Oz (List.mem_singleton.1 hm).symm)
    have cb:(put (W.alloc (.cells #[.int .i64 h.1,.int .i64 h.2] 32)) mb (.map (es.push ⟨hv h,.bool true,clock⟩) (clock+1))).cell? ⟨W.heap.size,0,none⟩=some (.int .i64 h.1):=by
     rw [KP.cell (by simp) (by omega)];simp
    have vU:=LP.g;obtain ⟨hU1,hU2⟩:=hU h hhU;obtain ⟨bk,ok,hka,hbk,eS⟩:=vU.kids h.1.toNat (by omega);have d3:=LP.d3;rw [hka] at d3;have c4:=LP.c4;have TJ:W.heap.size < (put (W.alloc (.cells #[.int .i64 h.1,.int .i64 h.2] 32)) mb (.map (es.push ⟨hv h,.bool true,clock⟩) (clock+1))).heap.size:=by rw [Yx]; simp
    have K2:=KA.trans KP;generalize put (W.alloc (.cells #[.int .i64 h.1,.int .i64 h.2] 32)) mb (.map (es.push ⟨hv h,.bool true,clock⟩) (clock+1))=W2 at *;have eg:∀ args w,(callFunc 175 args).run Tryz.prog w = .ok (.enter 175 args) w:=enters_of Tryz.func175 (by kernel_rfl) rfl;have P8:=Ub 175 #[.pointer (some ⟨b1,0,none⟩),.pointer (some ⟨b2,0,none⟩),.pointer (some ⟨b3,0,none⟩),.pointer (some ⟨b4,0,none⟩)] eg (q.ia h.1.toNat) (q.im h.1.toNat) (q.ic h.1.toNat) (q.lQ h.1.toNat)
     (fun kk W'=>∃ S1,wS q B b1 b2 b3 b4 mb to W' S1/\Kp mb W2 W'/\(∀ x∈S,x∈S1)/\h∈S1/\(∀ j,j < kk->q.lQ h.1.toNat j∈S1)/\∀ x∈S1,x∈S\/x=h\/∀ k,k < q.im x.1.toNat->q.lQ x.1.toNat k∈S1)
     (fun W'=>∃ S1,wS q B b1 b2 b3 b4 mb to W' S1/\Kp mb W2 W'/\Reach q to h)
     (LP.g.small _ (by omega))
     (fun W' kk hk ⟨S1,L1,_⟩=>by
      obtain ⟨b,off,r1,_,r2,r3⟩:=L1.g.row h.1.toNat (by omega) kk hk;exact ⟨b,off,r1,r2,r3⟩)
     (fun kk W' hk ⟨S1,L1,k1,s1,s2,s3,s4⟩=>by
      refine (ih S1 W' (q.lQ h.1.toNat kk) (hU2 kk hk) (kJ (filter_lt s1 hS s2 U hhU) (Nat.le_of_lt_succ hf)) L1).mono ?_;rintro e W3 ⟨S2,L2,k2,⟨rfl,hr⟩ | ⟨rfl,FD⟩⟩
      ·exact .inl ⟨rfl,S2,L2,k1.trans k2,.lQ h kk hk hr⟩
      ·refine .inr ⟨rfl,S2,L2,k1.trans k2,fun x hx=>FD.sub x (s1 x hx),FD.sub h s2,fun j hj=>?_,fun x hx=>?_⟩
       ·by_cases ej:j=kk
        ·subst ej; exact FD.is
        ·exact FD.sub _ (s3 j (by omega))
       ·rcases FD.new x hx with h1 | h1
        ·rcases s4 x h1 with h2 | h2 | h2
         ·exact .inl h2
         ·exact .inr (.inl h2)
         ·exact .inr (.inr fun k hk=>FD.sub _ (h2 k hk))
        ·exact .inr (.inr h1))
     W2.drew ⟨S++[h],LP.eY (Kp.drew mb W2) (by obtain ⟨mV,cl2,q1,q2⟩:=LP.map; exact ⟨mV,cl2,q1,q2⟩) LP.to,Kp.drew mb W2,fun x hx=>List.mem_append_left _ hx,List.mem_append_right _ (List.mem_singleton.2 rfl),fun j hj=>absurd hj (kA _),fun x hx=>(iW.1 hx).imp id fun q=>.inl (List.mem_singleton.1 q)⟩
    have AL:0<=h.1:=hU1.1;have bh:h.1 < (q.kn:Int):=hU1.2;have fin:∀ W' r,(r=true/\(∃ S1,wS q B b1 b2 b3 b4 mb to W' S1/\Kp mb W2 W'/\Reach q to h)\/r=false/\∃ S1,wS q B b1 b2 b3 b4 mb to W' S1/\Kp mb W2 W'/\(∀ x∈S,x∈S1)/\h∈S1/\(∀ j,j < q.im h.1.toNat->q.lQ h.1.toNat j∈S1)/\∀ x∈S1,x∈S\/x=h\/∀ k,k < q.im x.1.toNat->q.lQ x.1.toNat k∈S1)->
      ∃ S',wS q B b1 b2 b3 b4 mb to W' S'/\Kp mb W W'/\((Ending.returned (.bool r) = .returned (.bool true))/\Reach q to h\/(Ending.returned (.bool r) = .returned (.bool false))/\Grow q S h S'):=by
     rintro W' r (⟨rfl,S1,L1,k1,hr⟩ | ⟨rfl,S1,L1,k1,s1,s2,s3,s4⟩)
     ·exact ⟨S1,L1,K2.trans k1,.inl ⟨rfl,hr⟩⟩
     ·refine ⟨S1,L1,K2.trans k1,.inr ⟨rfl,s1,s2,fun x hx=>?_⟩⟩
      rcases s4 x hx with h1 | h1 | h1
      ·exact .inl h1
      ·subst h1; exact .inr s3
      ·exact .inr h1
    clear ih hU2 LP L vU hf;rcases aqj with ⟨rfl,e2⟩ | e1
    ·go_enter Tryz.func175,Tryz.ntmps175
     go_wp2
     go_region_with (go_at_call 122; refine P8.mono ?_; rintro e w' ⟨r,rfl,hr⟩)
     all_goals (go_wp2; go_ret; exact fin _ _ (by assumption))
    ·go_enter Tryz.func175,Tryz.ntmps175
     go_wp2
     go_region_with (go_at_call 122; refine P8.mono ?_; rintro e w' ⟨r,rfl,hr⟩)
     all_goals (go_wp2; go_ret; exact fin _ _ (by assumption))
abbrev gv (q:G):Value:=.agg #[.slice q.sa q.sn q.sc,.slice q.ka q.kn q.kc]
def MapAt (mb:Nat) (W:World) (S:List (Int×Int)):Prop:=∃ es clock,W.heap[mb]? = some (.map es clock)/\Wr es S
theorem IX (V:World) (o:Obj) (n:Nat) (h:n=V.heap.size):(V.alloc o).heap[n]? = some o:=by
 subst h;exact heap_alloc_new V o
theorem xI {W:World} {b:Nat} {c:Array Value} {t:TypeId} (h:W.heap[b]? = some (.cells c t)) (i:Nat):W.cell? ⟨b,i,none⟩=c[i]?:=by
 unfold World.cell?;simp [h]
theorem arT (W:World) (A0 A1 A2 A3 A4:Obj):∃ V,V=((((W.alloc A0).alloc A1).alloc A2).alloc A3).alloc A4/\V.heap[W.heap.size]? = some A0/\V.heap[W.heap.size+1]? = some A1/\V.heap[W.heap.size+1+1]? = some A2/\V.heap[W.heap.size+1+1+1]? = some A3/\V.heap[W.heap.size+1+1+1+1]? = some A4/\V.heap.size=W.heap.size+5/\∀ mb,Kp mb W V:=by
 have s1:(W.alloc A0).heap.size=W.heap.size+1:=by simp
 have s2:((W.alloc A0).alloc A1).heap.size=W.heap.size+2:=by simp
 have s3:(((W.alloc A0).alloc A1).alloc A2).heap.size=W.heap.size+3:=by simp
 have s4:((((W.alloc A0).alloc A1).alloc A2).alloc A3).heap.size=W.heap.size+4:=by simp
 refine ⟨_,rfl,?_,?_,?_,?_,?_,by simp,fun mb=>((((Kp.alloc W A0).trans (Kp.alloc _ A1)).trans (Kp.alloc _ A2)).trans (Kp.alloc _ A3)).trans (Kp.alloc _ A4)⟩
 ·rw [Below.heap_alloc _ _ _ (by omega),Below.heap_alloc _ _ _ (by omega),Below.heap_alloc _ _ _ (by omega),Below.heap_alloc _ _ _ (by omega)]
  exact IX _ _ _ rfl
 ·rw [Below.heap_alloc _ _ _ (by omega),Below.heap_alloc _ _ _ (by omega),Below.heap_alloc _ _ _ (by omega)]
  exact IX _ _ _ (by omega)
 ·rw [Below.heap_alloc _ _ _ (by omega),Below.heap_alloc _ _ _ (by omega)]
  exact IX _ _ _ (by omega)
 ·rw [Below.heap_alloc _ _ _ (by omega)]
  exact IX _ _ _ (by omega)
 ·exact IX _ _ _ (by omega)
set_option maxHeartbeats 4000000 in
theorem below (q:G) (B mb:Nat) (qR to:Int×Int) (U:List (Int×Int)) (hU:∀ u∈U,(0<=u.1/\u.1 < (q.kn:Int))/\∀ k,k < q.im u.1.toNat->q.lQ u.1.toNat k∈U) (S:List (Int×Int)) (W:World)
  (hf:qR∈U) (hg:GAt q B W) (hB:B<=W.heap.size) (hm:B<=mb) (hM:MapAt mb W S) (ht:to ∉ S) :
  Calls Tryz.prog 124 #[gv q,.map (some mb),hv qR,hv to] W fun e W'=>∃ S' r,e = .returned (.bool r)/\MapAt mb W' S'/\Kp mb W W'/\(r=true/\Reach q to qR\/r=false/\Grow q S qR S'/\to ∉ S'):=by
 have Xs:mb < W.heap.size:=by obtain ⟨es,c,h,_⟩:=hM; exact (rA.1 h).1
 have P8:Calls Tryz.prog 175 #[hv qR,.pointer (some ⟨W.heap.size+1+1+1,0,none⟩),.pointer (some ⟨W.heap.size+1,0,none⟩),.pointer (some ⟨W.heap.size,0,none⟩),.pointer (some ⟨W.heap.size+1+1+1+1,0,none⟩)] (((((W.alloc (.cells #[.slice q.sa q.sn q.sc,.slice q.ka q.kn q.kc] 27)).alloc (.cells #[.map (some mb)] 202)).alloc (.cells #[.int .i64 qR.1,.int .i64 qR.2] 32)).alloc (.cells #[.int .i64 to.1,.int .i64 to.2] 32)).alloc (.cells #[.func (.func 175) #[] #[.pointer (some ⟨W.heap.size+1+1+1,0,none⟩),.pointer (some ⟨W.heap.size+1,0,none⟩),.pointer (some ⟨W.heap.size,0,none⟩),.pointer (some ⟨W.heap.size+1+1+1+1,0,none⟩)]] 200))
   fun e W'=>∃ S' r,e = .returned (.bool r)/\MapAt mb W' S'/\Kp mb W W'/\(r=true/\Reach q to qR\/r=false/\Grow q S qR S'/\to ∉ S'):=by
  obtain ⟨V,hV,v0,v1,v2,v3,v4,vs,vk⟩:=arT W (.cells #[.slice q.sa q.sn q.sc,.slice q.ka q.kn q.kc] 27) (.cells #[.map (some mb)] 202) (.cells #[.int .i64 qR.1,.int .i64 qR.2] 32) (.cells #[.int .i64 to.1,.int .i64 to.2] 32) (.cells #[.func (.func 175) #[] #[.pointer (some ⟨W.heap.size+1+1+1,0,none⟩),.pointer (some ⟨W.heap.size+1,0,none⟩),.pointer (some ⟨W.heap.size,0,none⟩),.pointer (some ⟨W.heap.size+1+1+1+1,0,none⟩)]] 200);rw [<- hV];have L:wS q B (W.heap.size+1+1+1) (W.heap.size+1) W.heap.size (W.heap.size+1+1+1+1) mb to V S:=
   ⟨hg.eY (vk mb) hB hm,by omega,by omega,by omega,by omega,by omega,hm,by rw [xI v3]; rfl,by rw [xI v3]; rfl,by rw [xI v1]; rfl,by rw [xI v0]; rfl,by rw [xI v0]; rfl,by rw [xI v4]; rfl,by
    obtain ⟨es,c,h1,h2⟩:=hM;have hk:=vk (mb+1);exact ⟨es,c,by rw [hk.block mb Xs (by omega)]; exact h1,h2⟩,ht⟩
  refine (look q B _ _ _ _ mb to U hU _ S V qR hf (Nat.lt_succ_self _) L).mono ?_;rintro e W' ⟨S',L',k',⟨rfl,hr⟩ | ⟨rfl,FD⟩⟩
  ·exact ⟨S',true,rfl,L'.map,(vk mb).trans k',.inl ⟨rfl,hr⟩⟩
  ·exact ⟨S',false,rfl,L'.map,(vk mb).trans k',.inr ⟨rfl,FD,L'.to⟩⟩
 have mixed:=FW;have t32:=Tryz.underlying32; have a32:=Tryz.isAgg32; have z32:=Tryz.sizeOf32; have v32:=Tryz.zeroValue32; have u32:=run_underlying Tryz.underlying32;have t202:=Tryz.underlying202; have amf:=Tryz.isAgg202; have amg:=Tryz.sizeOf202; have amh:=Tryz.zeroValue202; have P7:=run_underlying Tryz.underlying202;have t200:=Tryz.underlying200; have aqe:=Tryz.isAgg200; have aqf:=Tryz.sizeOf200; have aqg:=Tryz.zeroValue200; have aqh:=run_underlying Tryz.underlying200;have t27:=Tryz.underlying27; have a27:=Tryz.isAgg27; have z27:=Tryz.sizeOf27; have v27:=Tryz.zeroValue27; have u27:=run_underlying Tryz.underlying27;have t4:=Tryz.underlying4; have a4:=Tryz.isAgg4; have z4:=Tryz.sizeOf4; have v4:=Tryz.zeroValue4; have u4:=run_underlying Tryz.underlying4;have cW:(((((W.alloc (.cells #[.slice q.sa q.sn q.sc,.slice q.ka q.kn q.kc] 27)).alloc (.cells #[.map (some mb)] 202)).alloc (.cells #[.int .i64 qR.1,.int .i64 qR.2] 32)).alloc (.cells #[.int .i64 to.1,.int .i64 to.2] 32)).alloc (.cells #[.nilFunc] 200)).cell? ⟨W.heap.size+1+1+1+1,0,none⟩=some .nilFunc:=by rw [World.cell?_alloc_at _ _ _ _ (by simp)]; rfl
 have fW:(((((W.alloc (.cells #[.slice q.sa q.sn q.sc,.slice q.ka q.kn q.kc] 27)).alloc (.cells #[.map (some mb)] 202)).alloc (.cells #[.int .i64 qR.1,.int .i64 qR.2] 32)).alloc (.cells #[.int .i64 to.1,.int .i64 to.2] 32)).alloc (.cells #[.nilFunc] 200)).frozen? ⟨W.heap.size+1+1+1+1,0,none⟩=false:=by rw [World.frozen?_alloc_at _ _ _ _ (by simp)]
 go_enter Tryz.func124,Tryz.ntmps124
 go_wp2_with (go_at_call 175; refine P8.mono ?_; rintro e w' ⟨S',r,rfl,hr⟩)
 go_wp2
 go_ret
 exact ⟨S',r,rfl,hr⟩
end Go.Proofs.YtckbdndhmcoihaaGreat.nodes
end
section
namespace Go.K
open Go Go.aq
variable {P:Program} {E:Env}
theorem VC.apv {ρ:Ren} {cs:List KV} {u:Value} (h:VC P E ρ (.agg cs) u):∃ l,u = .agg ⟨l⟩/\qc P E ρ cs l:=by
 obtain ⟨u',h1,h2⟩:=h;obtain ⟨l,rfl,q⟩:=h1.jP;obtain ⟨l',e,h3⟩:=h2.jP;exact ⟨l'.toList,e,l,q,h3⟩
theorem Yy {A:ao} {B:St} {ρ:Ren} {base:Nat} {w:World} (hj:KJ P E A B ρ base w) {T:TypeId} {m:Mk} {n:Nat} {es:List KV} {acc:Nat->KV} {u:Value} (h:VC P E ρ (.ts T m n es acc) u) :
  ∃ a c,u = .slice a n c/\∀ i,i < n->∃ b off,a=some ⟨b,off,none⟩/\b < w.heap.size/\∀ k c',(acc i).cells[k]? = some c'->∃ z,w.cell? ⟨b,off+i * bf P T+k,none⟩=some z/\VC P E ρ c' z:=by
 obtain ⟨u',hk,hr⟩:=h;obtain ⟨ht,bo,TC,a,cap,rfl,alq,MK,_⟩:=hk.jY;cases a with
 | none=>
  have:=hr.fB;subst this;refine ⟨none,cap,rfl,fun i hi=>?_⟩;rcases MK with ⟨_,h0⟩ | ⟨b,off,r,e,_⟩
  ·omega
  ·simp at e
 | some a=>
  obtain ⟨DG,Fs,lc,a',c',hl,qw,Jq,mK,rfl⟩:=hr.j7;refine ⟨some a',c',rfl,fun i hi=>?_⟩;rcases MK with ⟨e,_⟩ | ⟨b,off,r,e,hz,dK,arU⟩
  ·simp at e
  ·simp only [cJ] at e
   subst e;have eS:=hj.k.z b r hz;obtain ⟨l,qb,ok⟩:=hj.s.rel.row _ _ _ _ _ eS;rw [hl] at qb;have:=Fm qb;subst this;have hi' : i < es.length:=by have:=ht.len; omega
   refine ⟨lc.cb,lc.dn+off,by rw [Jq (by omega)],ok.mw,fun k c1 hc1=>?_⟩;have hg:es[i]? = some (acc i):=by
    rw [ht.acc i (by omega),eX,cM hi'];rfl
   obtain ⟨y,hy,hvy⟩:=TC.get hg;have hkn:=(fN (gM ht.typed hg)).2;obtain ⟨hys,hyc⟩:=arU i y hy;obtain ⟨z,OQ,Gq⟩:=(hvy.cells hkn).get hc1;have:=hyc k z (by simpa using OQ);obtain ⟨z',q1,q2,_⟩:=ok.cells _ z this;exact ⟨z',by rw [show lc.dn+off+i * bf P T+k=lc.dn+(off+i * bf P T+k) by omega]; exact q1,z,Gq,q2⟩
end Go.K
end
section
namespace Go.K
open Go Go.aq
variable {P:Program} {E:Env}
def Trie.aiO {α β:Type} (f:α->β):Trie α->Trie β
 | .leaf=>.leaf
 | .node v l r=>.node (v.map f) (Trie.aiO f l) (Trie.aiO f r)
theorem Trie.Yz {α β:Type} (f:α->β):∀ (t:Trie α) (n:Nat),(Trie.aiO f t).get n=(t.get n).map f
 | .leaf,n=>rfl
 | .node v l r,n=>by
  rw [Trie.get_eq,Trie.get_eq];cases n with
  | zero=>rfl
  | succ m=>
   have hl:=Trie.Yz f l (Nat.div m 2);have hr:=Trie.Yz f r (Nat.div m 2);rw [Trie.get_eq,Trie.get_eq] at hl hr;simp only [Trie.aiO,Trie.yN];cases Nat.beq (Nat.mod m 2) 0 with
   | true=>exact hl
   | false=>exact hr
def cw.still:cw->cw
 | .row cs bH _ _=>.row cs bH false none
 | _=>.dead
def St.still (B:St):St:=⟨Trie.aiO cw.still B.heap,B.next,0,.leaf⟩
theorem St.adn (B:St) (b:Nat):(St.still B).get b=(B.get b).map cw.still:=Trie.Yz _ _ _
theorem St.aky (B:St) (g:Nat):(St.still B).members g = []:=rfl
def Env.still (E:Env):Env:={ κ:=fun _=>Option.none,z:=fun b=>(E.z b).map fun r=>{ r with own:=false,bQ:=Option.none },φ:=fun _=>Option.none,α:=fun _=>Option.none }
theorem Env.am4 (E:Env):ZLe E E.still:=fun b r e=>⟨{ r with own:=false,bQ:=Option.none },by simp [Env.still,e],rfl,rfl⟩
theorem St.Uc {B:St} {b:Nat} {o:cw} (h:(St.still B).get b=some o) (hd:o≠.dead):∃ cs bH own bQ,B.get b=some (.row cs bH own bQ)/\o = .row cs bH false none:=by
 rw [St.adn] at h;cases hb:B.get b with
 | none=>rw [hb] at h; simp at h
 | some x=>
  rw [hb] at h;have h:some (cw.still x)=some o:=h;have h:=Fm h;cases x <;> first
   | exact ⟨_,_,_,_,rfl,h.symm⟩
   | exact absurd h.symm hd
theorem St.ZW {B:St} {b:Nat} {o:cw} (h:(St.still B).get b=some o):o.dX=false:=by
 by_cases hd:o = .dead
 ·subst hd; rfl
 ·obtain ⟨_,_,_,_,_,rfl⟩:=St.Uc h hd
  rfl
theorem St.akz {B:St} {b:Nat} {o:cw} (h:(St.still B).get b=some o):o.kC=none:=by
 by_cases hd:o = .dead
 ·subst hd; rfl
 ·obtain ⟨_,_,_,_,_,rfl⟩:=St.Uc h hd
  rfl
theorem ra.still {ρ:Ren} {B:St} {base:Nat} {w:World} (h:ra ρ B base w):ra ρ (St.still B) w.heap.size w:=by
 refine ⟨.Fq (fun b o hg hd=>?_) (fun b1 b2 o1 o2 l1 l2 _ h1 _ hm=>?_) (fun b o aQ f hg hk=>?_),h.jx,aH _,h.H5⟩
 ·obtain ⟨cs,bH,own,bQ,e,rfl⟩:=St.Uc hg hd
  obtain ⟨l,e2,ok⟩:=h.rel.row _ _ _ _ _ e;refine ⟨l,e2,?_⟩;exact ⟨ok.cells,fun _=>ok.mw,fun e=>by simp at e,fun e=>by simp at e,ok.fits,fun e=>by simp at e,ok.bH,ok.mw,fun e=>by simp at e⟩
 ·rw [St.ZW h1] at hm; simp at hm
 ·rw [St.akz hg] at hk; simp at hk
theorem dU.still {A:ao} {B:St} (h:dU P E A B):dU P E.still .empty (St.still B) where
 row b cs bH hb:=by simp [ao.empty,ao.get] at hb
 aQ b top sz hb:=by simp [ao.empty,ao.get] at hb
 z b r e:=by
  simp only [Env.still,cC] at e;obtain ⟨r0,e,rfl⟩:=e;rw [St.adn,h.z b r0 e];rfl
 apart b x e:=by simp [Env.still] at e
 inj b c x e:=by simp [Env.still] at e
 ib b c g _ _ _ _ _ _ e:=by simp [Env.still] at e
 jx b x e:=by simp [Env.still] at e
 kQ b g e:=by simp [Env.still] at e
 live b o hb:=by simp [ao.empty,ao.get] at hb
 fk b x e:=by simp [Env.still] at e
 kR b r e:=by
  simp only [Env.still,cC] at e;obtain ⟨r0,e,rfl⟩:=e;exact h.kR b r0 e
 iR b g e:=by simp [Env.still] at e
 fresh g _:=rfl
 mem g x hx:=by rw [St.aky] at hx; simp at hx
 ar:=by
  have hn:∀ b v,¬ ao.empty.get b=some (.arr v):=fun b v hb=>by simp [ao.empty,ao.get] at hb
  exact ⟨fun b v hb=>(hn b v hb).elim,fun b v hb=>by simp [ao.empty,ao.get] at hb,fun x ⟨b,v,_,_,hb,_⟩=>(hn b v hb).elim,fun b c v u x L N L' N' hb=>(hn b v hb).elim,fun b c v u x y L N L' N' cs e own g k bV e' od k' hb=>(hn b v hb).elim,fun b x e=>by simp [Env.still] at e,fun b p e=>by simp [Env.still] at e,fun b x L N e=>by simp [Env.still] at e,fun b v x L N cs e own g k hb=>(hn b v hb).elim,fun b v hb=>(hn b v hb).elim⟩
theorem ZX {A:ao} {B:St} {ρ:Ren} {base:Nat} {w W:World} (hj:KJ P E A B ρ base w) (hw:RowKit.Below w.heap.size w W) {g:FuncId} {F:List KV->KR KV} (hpu:aY P g F) {args:List KV} {v:KV} {eV:List Value}
  (hF:aK (F (normArgs P (cn P g) (normArgs P (cn P g) args))) v) (hlen:args.length=(cn P g).length) (hv:qc P E ρ args eV) :
  Calls P g eV.toArray W fun e W'=>∃ v' E' aJ,e = .returned v'/\VC P E' aJ v v'/\RowKit.Below W.heap.size W W':=by
 have hs:=ra.still (jG.below hj.s hw).gX;obtain ⟨m,h1,h2⟩:=hv;have Gn:qc P E.still ρ (normArgs P (cn P g) args) eV:=⟨m,ba.Py (Env.am4 E) h1 hlen,h2⟩
 obtain ⟨_,j5⟩:=hpu _ v hF (KW hlen);refine (j5 E.still .empty (St.still B) ρ W.heap.size W eV Gn ⟨hj.k.still,hs⟩).mono ?_;rintro e W' ⟨v',E',B',aJ,rfl,q1,q2⟩;refine ⟨v',E',aJ,rfl,q1,?_⟩;have k:=q2.eF.kept;refine ⟨k.os,k.tape,k.output,k.size,fun j hj=>k.block j hj ?_⟩;rintro ⟨b,o,l,ho,hm,_⟩;rw [St.ZW ho] at hm;simp at hm
theorem Wt {g:FuncId} {R:Type} [Inhabited R] {k:R->KV} {r:List KV->Option R} {asg:List KV} {x:R} (ha:j2 P (cn P g) asg=true) (hr:r asg=some x):aK (aZ P g (bd k r) asg) (k x):=by
 unfold aZ bd;rw [ha,hr];exact ⟨rfl,rfl⟩
theorem VC.cD {ρ:Ren} {k:IntKind} {n:Int} {v:Value} (h:VC P E ρ (.int k n) v):v = .int k n:=by
 obtain ⟨u,h1,h2⟩:=h;have h1:u = .int k n:=by simpa [VK] using h1
 subst h1;exact h2.cD
theorem qc.Wu {ρ:Ren} {c:KV} {cs:List KV} {l:List Value} (h:qc P E ρ (c::cs) l):∃ x xs,l=x::xs/\VC P E ρ c x/\qc P E ρ cs xs:=by
 obtain ⟨m,h1,h2⟩:=h;obtain ⟨y,ys,rfl,h3,h4⟩:=h1.cons_inv;obtain ⟨z,zs,rfl,h5,h6⟩:=h2.cons_inv;exact ⟨z,zs,rfl,⟨y,h3,h5⟩,⟨ys,h4,h6⟩⟩
theorem qc.agM {ρ:Ren} {l:List Value} (h:qc P E ρ [] l):l = []:=by
 obtain ⟨m,h1,h2⟩:=h;rw [h1.bZ] at h2;exact h2.bZ
theorem qc.LA {ρ:Ren} {c:KV} {cs:List KV} {x:Value} {xs:List Value} (h:VC P E ρ c x) (h' : qc P E ρ cs xs):qc P E ρ (c::cs) (x::xs):=by
 obtain ⟨y,h1,h2⟩:=h;obtain ⟨ys,h3,h4⟩:=h';exact ⟨y::ys,.cons h1 h3,.cons h2 h4⟩
theorem qc.abd {ρ:Ren} : qc P E ρ [] []:=⟨[],.nil,.nil⟩
theorem VC.ami {ρ:Ren} {cs:List KV} {xs:List Value} (h:qc P E ρ cs xs):VC P E ρ (.agg cs) (.agg ⟨xs⟩):=by
 obtain ⟨ys,h3,h4⟩:=h;exact ⟨.agg ⟨ys⟩,by simp only [VK]; exact ⟨ys,rfl,h3⟩,by simp only [VR]; exact ⟨⟨xs⟩,by simpa [qa] using h4,rfl⟩⟩
end Go.K
end
section
set_option maxRecDepth 20000
namespace Go.Proofs.YtckbdndhmcoihaaGreat.nodes
open Go Go.RowKit Go.Lib Go.Shelf Go.K
abbrev hp (h:b.Handle):Int×Int:=(h.slot,h.gen)
structure ado (q:G) (B:Nat) (W:World):Prop where
 kids:∀ i,i < q.kn->∃ b off,q.ka=some ⟨b,off,none⟩/\b < B/\W.cell? ⟨b,off+i,none⟩=some (.slice (q.ia i) (q.im i) (q.ic i))
 row:∀ i,i < q.kn->∀ k,k < q.im i->∃ b off,q.ia i=some ⟨b,off,none⟩/\b < B/\W.cell? ⟨b,off+k * 2,none⟩=some (.int .i64 (q.lQ i k).1)/\W.cell? ⟨b,off+k * 2+1,none⟩=some (.int .i64 (q.lQ i k).2)
theorem ado.with {q:G} {B:Nat} {W:World} (h:ado q B W) (hs:∀ i,i < q.kn->q.im i<=1000000):GAt q B W:=⟨h.kids,hs,h.row⟩
theorem ado.eY {q:G} {B mb:Nat} {W W' : World} (h:ado q B W) (k:Kp mb W W') (hB:B<=W.heap.size) (hm:B<=mb):ado q B W':=by
 refine ⟨fun i hi=>?_,fun i hi j hj=>?_⟩
 ·obtain ⟨b,off,h1,h2,h3⟩:=h.kids i hi
  exact ⟨b,off,h1,h2,by rw [k.cell (by omega) (by omega)]; exact h3⟩
 ·obtain ⟨b,off,h1,h2,h3,h4⟩:=h.row i hi j hj
  exact ⟨b,off,h1,h2,by rw [k.cell (by omega) (by omega)]; exact h3,by rw [k.cell (by omega) (by omega)]; exact h4⟩
structure Of (q:G) (g:b.cA) (B:Nat) (W:World):Prop where
 sn:q.sn=g.bu.aP.n
 kn:q.kn=g.kids.n
 im:∀ i,q.im i=(g.kids.get i).n
 lQ:∀ i k,q.lQ i k=hp ((g.kids.get i).get k)
 slot:∀ i,i < q.sn->∃ b off,q.sa=some ⟨b,off,none⟩/\b < B/\W.cell? ⟨b,off+i * 2,none⟩=some (.int .i64 (g.bu.aP.get i).gen)/\W.cell? ⟨b,off+i * 2+1,none⟩=some (.bool (g.bu.aP.get i).live)
theorem Of.eY {q:G} {g:b.cA} {B mb:Nat} {W W' : World} (h:Of q g B W) (k:Kp mb W W') (hB:B<=W.heap.size) (hm:B<=mb):Of q g B W':=by
 refine ⟨h.sn,h.kn,h.im,h.lQ,fun i hi=>?_⟩;obtain ⟨b,off,h1,h2,h3,h4⟩:=h.slot i hi;exact ⟨b,off,h1,h2,by rw [k.cell (by omega) (by omega)]; exact h3,by rw [k.cell (by omega) (by omega)]; exact h4⟩
theorem arV:bf Tryz.prog 35=1:=by kernel_rfl
theorem arW:bf Tryz.prog 32=2:=by kernel_rfl
theorem aqP:bf Tryz.prog 111=2:=by kernel_rfl
theorem am5 {E:Env} {A:ao} {B:aq.St} {ρ:aq.Ren} {base:Nat} {w:World} {g:b.cA} {u:Value} (hj:KJ Tryz.prog E A B ρ base w) (h:VC Tryz.prog E ρ (b.CF g) u) :
  ∃ q:G,u=gv q/\ado q w.heap.size w/\Of q g w.heap.size w/\VC Tryz.prog E ρ (b.mC g.bu) (.agg #[.slice q.sa q.sn q.sc]):=by
 obtain ⟨l,rfl,hl⟩:=h.apv;obtain ⟨x,xs,rfl,h1,kf⟩:=hl.Wu;obtain ⟨y,ys,rfl,h2,hl3⟩:=kf.Wu;obtain rfl:=hl3.agM;obtain ⟨sa,sc,rfl,H1⟩:=Yy hj h1;obtain ⟨ka,kc,rfl,H2⟩:=Yy hj h2;have H3:∀ i,∃ p:Option Addr×Nat,i < g.kids.n->(∃ b off,ka=some ⟨b,off,none⟩/\b < w.heap.size/\w.cell? ⟨b,off+i,none⟩=some (.slice p.1 (g.kids.get i).n p.2))/\
   ∀ k,k < (g.kids.get i).n->∃ b off,p.1=some ⟨b,off,none⟩/\b < w.heap.size/\w.cell? ⟨b,off+k * 2,none⟩=some (.int .i64 ((g.kids.get i).get k).slot)/\w.cell? ⟨b,off+k * 2+1,none⟩=some (.int .i64 ((g.kids.get i).get k).gen):=by
  intro i;by_cases hi:i < g.kids.n
  ·obtain ⟨bb,off,e1,e2,e3⟩:=H2 i hi
   obtain ⟨z,z1,z2⟩:=e3 0 (dc 32 b.fE (g.kids.get i)) rfl;obtain ⟨a,c,rfl,H⟩:=Yy hj z2;rw [arV] at z1;refine ⟨(a,c),fun _=>⟨⟨bb,off,e1,e2,by rw [show off+i=off+i * 1+0 by omega]; exact z1⟩,fun k hk=>?_⟩⟩;obtain ⟨bc,arX,r1,r2,r3⟩:=H k hk;obtain ⟨z,s1,s2⟩:=r3 0 (.int .i64 ((g.kids.get i).get k).slot) rfl;obtain ⟨z',t1,t2⟩:=r3 1 (.int .i64 ((g.kids.get i).get k).gen) rfl;rw [arW] at s1 t1;rw [s2.cD] at s1;rw [t2.cD] at t1;exact ⟨bc,arX,r1,r2,s1,t1⟩
  ·exact ⟨(none,0),fun h=>absurd h hi⟩
 obtain ⟨f,hf⟩:=Classical.axiomOfChoice H3;refine ⟨⟨sa,g.bu.aP.n,sc,ka,g.kids.n,kc,fun i=>(f i).1,fun i=>(g.kids.get i).n,fun i=>(f i).2,fun i k=>hp ((g.kids.get i).get k)⟩,rfl,⟨fun i hi=>(hf i hi).1,fun i hi k hk=>(hf i hi).2 k hk⟩,⟨rfl,rfl,fun _=>rfl,fun _ _=>rfl,fun i hi=>?_⟩,.ami (.LA h1 .abd)⟩;obtain ⟨bb,off,e1,e2,e3⟩:=H1 i hi;obtain ⟨z,s1,s2⟩:=e3 0 (.int .i64 (g.bu.aP.get i).gen) rfl;obtain ⟨z',t1,t2⟩:=e3 1 (.bool (g.bu.aP.get i).live) rfl;rw [aqP] at s1 t1;rw [s2.cD] at s1;rw [t2.dY] at t1;exact ⟨bb,off,e1,e2,s1,t1⟩
theorem aiP {E:Env} {A:ao} {B:aq.St} {ρ:aq.Ren} {base:Nat} {w W:World} (hj:KJ Tryz.prog E A B ρ base w) (hw:Below w.heap.size w W) {a:b.fo} {x:Value} (hx:VC Tryz.prog E ρ (b.mC a) x) {n:Int} (hn:b.dC a=some n) :
  Calls Tryz.prog 120 #[x] W fun e W'=>e = .returned (.int .i64 n)/\Below W.heap.size W W':=by
 have ep:cn Tryz.prog 120 = [24]:=by kernel_rfl
 have en:normArgs Tryz.prog (cn Tryz.prog 120) (normArgs Tryz.prog (cn Tryz.prog 120) [b.mC a]) = [b.mC a]:=by rw [ep]; kernel_rfl
 refine (ZX hj hw b.Iq (args:=[b.mC a]) (v:=kI .i64 n) (by rw [en]; exact Wt (by rw [ep]; kernel_rfl) hn) (by rw [ep]; rfl) (.LA hx .abd)).mono ?_;rintro e W' ⟨v',E',aJ,rfl,q1,q2⟩;exact ⟨by rw [q1.cD],q2⟩
theorem aiQ {E:Env} {A:ao} {B:aq.St} {ρ:aq.Ren} {base:Nat} {w W:World} (hj:KJ Tryz.prog E A B ρ base w) (hw:Below w.heap.size w W) {a:b.fo} {x:Value} (hx:VC Tryz.prog E ρ (b.mC a) x) {h:Int×Int} {r:Bool} (hn:b.dr a ⟨h.1,h.2⟩=some r) :
  Calls Tryz.prog 77 #[x,hv h] W fun e W'=>e = .returned (.bool r)/\Below W.heap.size W W':=by
 have ep:cn Tryz.prog 77 = [24,32]:=by kernel_rfl
 have en:normArgs Tryz.prog (cn Tryz.prog 77) (normArgs Tryz.prog (cn Tryz.prog 77) [b.mC a,b.fE ⟨h.1,h.2⟩]) = [b.mC a,b.fE ⟨h.1,h.2⟩]:=by rw [ep]; kernel_rfl
 have hh:VC Tryz.prog E ρ (b.fE ⟨h.1,h.2⟩) (hv h):=.ami (.LA ⟨_,.mkInt,by simp [aq.VR]⟩ (.LA ⟨_,.mkInt,by simp [aq.VR]⟩ .abd));refine (ZX hj hw b.pA (args:=[b.mC a,b.fE ⟨h.1,h.2⟩]) (v:=kB r) (by rw [en]; exact Wt (by rw [ep]; kernel_rfl) hn) (by rw [ep]; rfl) (.LA hx (.LA hh .abd))).mono ?_;rintro e W' ⟨v',E',aJ,rfl,q1,q2⟩;exact ⟨by rw [q1.dY],q2⟩
set_option maxHeartbeats 4000000 in
theorem ov {E:Env} {A:ao} {B:aq.St} {ρ:aq.Ren} {base:Nat} {w W:World} (hj:KJ Tryz.prog E A B ρ base w) (hw:Below w.heap.size w W) {a:b.fo} {q:G} (hx:VC Tryz.prog E ρ (b.mC a) (.agg #[.slice q.sa q.sn q.sc])) (h:Int×Int) {r:Bool} (hn:b.dr a ⟨h.1,h.2⟩=some r)
  {bg:Nat} (hbg:bg < W.heap.size) (c0:W.cell? ⟨bg,0,none⟩=some (.slice q.sa q.sn q.sc)) :
  Calls Tryz.prog 121 #[hv h,.pointer (some ⟨bg,0,none⟩)] W fun e W'=>e = .returned (.bool (!r))/\Below W.heap.size W W':=by
 have mixed:=FW;have t32:=Tryz.underlying32; have a32:=Tryz.isAgg32; have z32:=Tryz.sizeOf32; have v32:=Tryz.zeroValue32; have u32:=run_underlying Tryz.underlying32;have t27:=Tryz.underlying27; have a27:=Tryz.isAgg27; have z27:=Tryz.sizeOf27; have v27:=Tryz.zeroValue27; have u27:=run_underlying Tryz.underlying27;have t24:=Tryz.underlying24; have a24:=Tryz.isAgg24; have z24:=Tryz.sizeOf24; have v24:=Tryz.zeroValue24; have u24:=run_underlying Tryz.underlying24;have t22:=Tryz.underlying22; have a22:=Tryz.isAgg22; have z22:=Tryz.sizeOf22; have v22:=Tryz.zeroValue22; have u22:=run_underlying Tryz.underlying22;have t4:=Tryz.underlying4; have a4:=Tryz.isAgg4; have z4:=Tryz.sizeOf4; have v4:=Tryz.zeroValue4; have u4:=run_underlying Tryz.underlying4;have hc:=aiQ hj (W:=W.alloc (.cells #[.int .i64 h.1,.int .i64 h.2] 32)) (hw.alloc hw.size _) hx hn;have c1:(W.alloc (.cells #[.int .i64 h.1,.int .i64 h.2] 32)).cell? ⟨bg,0,none⟩=some (.slice q.sa q.sn q.sc):=((Kp.alloc (mb:=W.heap.size) W _).cell hbg (by omega)).trans c0
 go_enter Tryz.func121,Tryz.ntmps121
 go_wp2_with (go_at_call 77; refine hc.mono ?_; rintro e w' ⟨rfl,hk⟩)
 go_wp2
 go_ret
 exact ⟨rfl,(Below.refl _ _ |>.alloc (aH _) _).trans (hk.mono (by simp))⟩
set_option maxHeartbeats 4000000 in
theorem under (q:G) (B mb:Nat) (qR to:Int×Int) (U:List (Int×Int)) (hU:∀ u∈U,(0<=u.1/\u.1 < (q.kn:Int))/\∀ k,k < q.im u.1.toNat->q.lQ u.1.toNat k∈U) (S:List (Int×Int)) (W:World)
  (hf:qR∈U) (hg:GAt q B W) (hB:B<=W.heap.size) (hm:B<=mb) (hM:MapAt mb W S) (ht:to ∉ S) {bg bs bt:Nat} (lg:bg < W.heap.size/\bg≠mb) (ls:bs < W.heap.size/\bs≠mb) (lt:bt < W.heap.size/\bt≠mb)
  (c0:W.cell? ⟨bg,0,none⟩=some (.slice q.sa q.sn q.sc)) (c1:W.cell? ⟨bg,1,none⟩=some (.slice q.ka q.kn q.kc)) (c2:W.cell? ⟨bs,0,none⟩=some (.map (some mb))) (c3:W.cell? ⟨bt,0,none⟩=some (.int .i64 to.1)) (c4:W.cell? ⟨bt,1,none⟩=some (.int .i64 to.2)) :
  Calls Tryz.prog 123 #[hv qR,.pointer (some ⟨bg,0,none⟩),.pointer (some ⟨bs,0,none⟩),.pointer (some ⟨bt,0,none⟩)] W fun e W'=>∃ S' r,e = .returned (.bool r)/\MapAt mb W' S'/\Kp mb W W'/\(r=true/\Reach q to qR\/r=false/\Grow q S qR S'/\to ∉ S'):=by
 have mixed:=FW;have t32:=Tryz.underlying32; have a32:=Tryz.isAgg32; have z32:=Tryz.sizeOf32; have v32:=Tryz.zeroValue32; have u32:=run_underlying Tryz.underlying32;have t27:=Tryz.underlying27; have a27:=Tryz.isAgg27; have z27:=Tryz.sizeOf27; have v27:=Tryz.zeroValue27; have u27:=run_underlying Tryz.underlying27;have t202:=Tryz.underlying202; have amf:=Tryz.isAgg202; have amg:=Tryz.sizeOf202; have amh:=Tryz.zeroValue202; have P7:=run_underlying Tryz.underlying202;have t4:=Tryz.underlying4; have a4:=Tryz.isAgg4; have z4:=Tryz.sizeOf4; have v4:=Tryz.zeroValue4; have u4:=run_underlying Tryz.underlying4;have Xs:mb < W.heap.size:=by obtain ⟨es,c,h,_⟩:=hM; exact (rA.1 h).1
 have KA:=Kp.alloc (mb:=mb) W (.cells #[.int .i64 qR.1,.int .i64 qR.2] 32);have hM1:MapAt mb (W.alloc (.cells #[.int .i64 qR.1,.int .i64 qR.2] 32)) S:=by
  obtain ⟨es,c,h1,h2⟩:=hM;exact ⟨es,c,by rw [Below.heap_alloc _ _ _ Xs]; exact h1,h2⟩
 have hc:=below q B mb qR to U hU S (W.alloc (.cells #[.int .i64 qR.1,.int .i64 qR.2] 32)) hf (hg.eY KA hB hm) (kH hB KA.size) hm hM1 ht;have d0:=(KA.cell lg.1 lg.2).trans c0;have d1:=(KA.cell lg.1 lg.2).trans c1;have d2:=(KA.cell ls.1 ls.2).trans c2;have d3:=(KA.cell lt.1 lt.2).trans c3;have d4:=(KA.cell lt.1 lt.2).trans c4;obtain ⟨f1,f2⟩:=qR;obtain ⟨t1,t2⟩:=to
 go_enter Tryz.func123,Tryz.ntmps123
 go_wp2_with (go_at_call 124; refine hc.mono ?_; rintro e w' ⟨S',r,rfl,hr⟩)
 go_wp2
 go_ret
 exact ⟨S',r,rfl,hr.1,KA.trans hr.2.1,hr.2.2⟩
theorem P9 {q:G} {to:Int×Int} {S:List (Int×Int)} (hS:∀ x∈S,∀ k,k < q.im x.1.toNat->q.lQ x.1.toNat k∈S) (ht:to ∉ S):∀ {x:Int×Int},Reach q to x->x ∉ S
 | _,.here=>ht
 | _,.lQ h k hk r=>fun hm=>P9 hS ht r (hS h hm k hk)
theorem Grow.closed {q:G} {S S' : List (Int×Int)} {h:Int×Int} (g:Grow q S h S') (hS:∀ x∈S,∀ k,k < q.im x.1.toNat->q.lQ x.1.toNat k∈S):∀ x∈S',∀ k,k < q.im x.1.toNat->q.lQ x.1.toNat k∈S':=fun x hx k hk=>
 (g.new x hx).elim (fun h1=>g.sub _ (hS x h1 k hk)) fun h1=>h1 k hk
theorem akA {W:World} {mb:Nat} {es:Array MapEntry} {clock:Nat} (hm:W.heap[mb]? = some (.map es clock)) :
  (Builtin.clear_ #[202] 0 #[.map (some mb)]).run Tryz.prog W = .ok (.tuple #[]) (put W mb (.map #[] clock)):=by
 have P7:=run_underlying Tryz.underlying202;simp [Builtin.clear_,P7,MapKept.run_getObj_map hm,MapKept.run_setObj_map _ hm,Result.andThen];rfl
theorem run_make (W:World):(Instr.makeMap 202 none).run Tryz.prog W = .ok (.map (some W.heap.size)) (W.alloc (.map #[] 0)):=by
 have P7:=run_underlying Tryz.underlying202;simp [Instr.makeMap,Result.andThen,newObj,Sem.run]
 try rfl
set_option maxHeartbeats 4000000 in
theorem reaches (q:G) (B:Nat) (qR to:Int×Int) (U:List (Int×Int)) (hU:∀ u∈U,(0<=u.1/\u.1 < (q.kn:Int))/\∀ k,k < q.im u.1.toNat->q.lQ u.1.toNat k∈U) (W:World)
  (hf:qR∈U) (hg:GAt q B W) (hB:B<=W.heap.size) :
  Calls Tryz.prog 214 #[gv q,hv qR,hv to] W fun e W'=>∃ r,e = .returned (.bool r)/\Below W.heap.size W W'/\(r=true↔Reach q to qR):=by
 have mixed:=FW;have t32:=Tryz.underlying32; have a32:=Tryz.isAgg32; have z32:=Tryz.sizeOf32; have v32:=Tryz.zeroValue32; have u32:=run_underlying Tryz.underlying32;have t27:=Tryz.underlying27; have a27:=Tryz.isAgg27; have z27:=Tryz.sizeOf27; have v27:=Tryz.zeroValue27; have u27:=run_underlying Tryz.underlying27;have t202:=Tryz.underlying202; have amf:=Tryz.isAgg202; have amg:=Tryz.sizeOf202; have amh:=Tryz.zeroValue202; have P7:=run_underlying Tryz.underlying202;have t4:=Tryz.underlying4; have a4:=Tryz.isAgg4; have z4:=Tryz.sizeOf4; have v4:=Tryz.zeroValue4; have u4:=run_underlying Tryz.underlying4;have Vr:=run_make;have P8:Calls Tryz.prog 124 #[gv q,.map (some (W.heap.size+1+1+1)),hv qR,hv to] ((((W.alloc (.cells #[.slice q.sa q.sn q.sc,.slice q.ka q.kn q.kc] 27)).alloc (.cells #[.int .i64 qR.1,.int .i64 qR.2] 32)).alloc (.cells #[.int .i64 to.1,.int .i64 to.2] 32)).alloc (.map #[] 0))
   fun e W'=>∃ r,e = .returned (.bool r)/\Below W.heap.size W W'/\(r=true↔Reach q to qR):=by
  have K1:=((((Kp.alloc (mb:=W.heap.size+1+1+1) W (.cells #[.slice q.sa q.sn q.sc,.slice q.ka q.kn q.kc] 27)).trans (Kp.alloc _ (.cells #[.int .i64 qR.1,.int .i64 qR.2] 32))).trans (Kp.alloc _ (.cells #[.int .i64 to.1,.int .i64 to.2] 32))).trans (Kp.alloc _ (.map #[] 0)))
  refine (below q B (W.heap.size+1+1+1) qR to U hU [] _ hf (hg.eY K1 hB (by omega)) (kH hB K1.size) (by omega) ⟨#[],0,IX _ _ _ (by simp),Yw⟩ (by simp)).mono ?_;rintro e W' ⟨S',r,rfl,_,k2,hr⟩;refine ⟨r,rfl,(K1.trans k2).below (aH _) (by omega),?_⟩;rcases hr with ⟨rfl,hr⟩ | ⟨rfl,hg,hn⟩
  ·exact ⟨fun _=>hr,fun _=>rfl⟩
  ·exact ⟨fun h=>by simp at h,fun h=>(P9 (hg.closed (by simp)) hn h hg.is).elim⟩
 obtain ⟨f1,f2⟩:=qR;obtain ⟨t1,t2⟩:=to
 go_enter Tryz.func214,Tryz.ntmps214
 go_wp2_with (go_at_call 124; refine P8.mono ?_; rintro e w' ⟨r,rfl,hr⟩)
 go_wp2
 go_ret
 exact ⟨r,rfl,hr⟩
def qOf (g:b.cA):G:=⟨none,0,0,none,g.kids.n,0,fun _=>none,fun i=>(g.kids.get i).n,fun _=>0,fun i k=>hp ((g.kids.get i).get k)⟩
theorem Of.reach {q:G} {g:b.cA} {B:Nat} {W:World} (h:Of q g B W) {to x:Int×Int} : Reach q to x↔Reach (qOf g) to x:=by
 constructor
 ·intro r
  induction r with
  | here=>exact .here
  | lQ h' k hk _ ih=>
   rw [h.im] at hk;rw [h.lQ] at ih;exact .lQ (q:=qOf g) h' k hk ih
 ·intro r
  induction r with
  | here=>exact .here
  | lQ h' k hk _ ih=>exact .lQ h' k (by rw [h.im]; exact hk) (by rw [h.lQ]; exact ih)
def oV (g:b.cA) (i:Nat):Prop:=(g.kids.get i).n<=16/\(0 < (g.kids.get i).n->(g.bu.aP.get i).live=true)/\∀ k,k < (g.kids.get i).n->b.dr g.bu ((g.kids.get i).get k)=some true
def Hp (g:b.cA) (i:Nat):Prop:=∀ k,k < (g.kids.get i).n->¬ Reach (qOf g) ((i:Int),(g.bu.aP.get i).gen) (hp ((g.kids.get i).get k))
structure l9 (g:b.cA):Prop where
 aP:b.dC g.bu=some 0
 len:g.kids.n=g.bu.aP.n
 row:∀ i,i < g.kids.n->oV g i
 free:∀ i,i < g.kids.n->Hp g i
theorem aiR {W W' : World} (h:Below W.heap.size W W') (mb:Nat):Kp mb W W':=⟨h.os,h.tape,h.output,h.size,fun k hk _=>h.block k hk⟩
theorem akB (a:b.fo) (h:b.Handle) {n:Int} (hn:b.dC a=some n):∃ r,b.dr a h=some r:=by
 unfold b.dr b.qJ b.qK;rw [hn];simp only [dB,aj,db];cases n==0 with
 | false=>exact ⟨_,rfl⟩
 | true=>
  have:∃ r,b.kD a h=some r:=by
   unfold b.kD;by_cases h1:h.slot >= 0
   ·by_cases h2:h.slot < (a.aP.n:Int)
    ·simp [h1,h2]
    ·simp [h1,h2]
   ·simp [h1]
  obtain ⟨r,hr⟩:=this;rw [hr];exact ⟨r,rfl⟩
theorem agN {a:b.fo} (hn:b.dC a=some 0):a.aP.n<=128:=by
 unfold b.dC at hn;by_cases h:((a.aP.n:Nat):Int) > 128
 ·rw [ai h,aj] at hn
  simp at hn
 ·omega
theorem aoH {a:b.fo} {h:b.Handle} (hn:b.dr a h=some true):0<=h.slot/\h.slot < (a.aP.n:Int):=by
 unfold b.dr b.qJ b.qK at hn;by_cases h1:h.slot >= 0
 ·by_cases h2:h.slot < (a.aP.n:Int)
  ·exact ⟨h1,h2⟩
  ·exfalso
   revert hn
   cases (b.dC a).isSome with
   | false=>simp
   | true=>
    cases ((b.dC a).getD default==0) with
    | false=>simp
    | true=>simp [b.kD,h1,h2]
 ·exfalso
  revert hn
  cases (b.dC a).isSome with
  | false=>simp
  | true=>
   cases ((b.dC a).getD default==0) with
   | false=>simp
   | true=>simp [b.kD,h1]
set_option maxHeartbeats 8000000 in
theorem check {E:Env} {A:ao} {B:aq.St} {ρ:aq.Ren} {base:Nat} {w:World} (hj:KJ Tryz.prog E A B ρ base w) {g:b.cA} {q:G} (hg:ado q w.heap.size w) (ho:Of q g w.heap.size w) (hx:VC Tryz.prog E ρ (b.mC g.bu) (.agg #[.slice q.sa q.sn q.sc])) {n:Int} (hn:b.dC g.bu=some n) :
  Calls Tryz.prog 73 #[gv q] w fun e w'=>∃ n,e = .returned (.int .i64 n)/\Below w.heap.size w w'/\(n=0/\l9 g\/n=8/\¬ l9 g):=by
 have mixed:=FW;have t46:=Tryz.underlying46; have a46:=Tryz.isAgg46; have z46:=Tryz.sizeOf46; have v46:=Tryz.zeroValue46; have u46:=run_underlying Tryz.underlying46;have t32:=Tryz.underlying32; have a32:=Tryz.isAgg32; have z32:=Tryz.sizeOf32; have v32:=Tryz.zeroValue32; have u32:=run_underlying Tryz.underlying32;have t27:=Tryz.underlying27; have a27:=Tryz.isAgg27; have z27:=Tryz.sizeOf27; have v27:=Tryz.zeroValue27; have u27:=run_underlying Tryz.underlying27;have t24:=Tryz.underlying24; have a24:=Tryz.isAgg24; have z24:=Tryz.sizeOf24; have v24:=Tryz.zeroValue24; have u24:=run_underlying Tryz.underlying24;have t22:=Tryz.underlying22; have a22:=Tryz.isAgg22; have z22:=Tryz.sizeOf22; have v22:=Tryz.zeroValue22; have u22:=run_underlying Tryz.underlying22;have t25:=Tryz.underlying25; have a25:=Tryz.isAgg25; have z25:=Tryz.sizeOf25; have v25:=Tryz.zeroValue25; have u25:=run_underlying Tryz.underlying25;have t35:=Tryz.underlying35; have a35:=Tryz.isAgg35; have z35:=Tryz.sizeOf35; have v35:=Tryz.zeroValue35; have u35:=run_underlying Tryz.underlying35;have t111:=Tryz.underlying111; have a111:=Tryz.isAgg111; have z111:=Tryz.sizeOf111; have v111:=Tryz.zeroValue111; have u111:=run_underlying Tryz.underlying111;have t202:=Tryz.underlying202; have amf:=Tryz.isAgg202; have amg:=Tryz.sizeOf202; have amh:=Tryz.zeroValue202; have P7:=run_underlying Tryz.underlying202;have t200:=Tryz.underlying200; have aqe:=Tryz.isAgg200; have aqf:=Tryz.sizeOf200; have aqg:=Tryz.zeroValue200; have aqh:=run_underlying Tryz.underlying200;have t3:=Tryz.underlying3; have a3:=Tryz.isAgg3; have z3:=Tryz.sizeOf3; have v3:=Tryz.zeroValue3; have u3:=run_underlying Tryz.underlying3;have t4:=Tryz.underlying4; have a4:=Tryz.isAgg4; have z4:=Tryz.sizeOf4; have v4:=Tryz.zeroValue4; have u4:=run_underlying Tryz.underlying4;have bg0:Below w.heap.size w (w.alloc (.cells #[.slice q.sa q.sn q.sc,.slice q.ka q.kn q.kc] 27)):=(Below.refl _ _).alloc (aH _) _;have hac:=aiP hj bg0 hx hn;have cg0:(w.alloc (.cells #[.slice q.sa q.sn q.sc,.slice q.ka q.kn q.kc] 27)).cell? ⟨w.heap.size,0,none⟩=some (.slice q.sa q.sn q.sc):=by simp
 have cg1:(w.alloc (.cells #[.slice q.sa q.sn q.sc,.slice q.ka q.kn q.kc] 27)).cell? ⟨w.heap.size,1,none⟩=some (.slice q.ka q.kn q.kc):=by simp
 have sg:(w.alloc (.cells #[.slice q.sa q.sn q.sc,.slice q.ka q.kn q.kc] 27)).heap.size=w.heap.size+1:=by simp
 generalize hW1:w.alloc (.cells #[.slice q.sa q.sn q.sc,.slice q.ka q.kn q.kc] 27)=W1 at hac bg0 cg0 cg1 sg
 go_enter Tryz.func73,Tryz.ntmps73
 by_cases hn0:n=0
 ·subst hn0
  have hsm:q.sn<=128:=by rw [ho.sn]; exact agN hn
  by_cases hlen:q.kn=q.sn
  ·have XU:((q.kn:Int)==(q.sn:Int))=true:=by rw [hlen]; exact beq_self_eq_true _
   have aqQ:((q.kn:Int) != (q.sn:Int))=false:=by rw [hlen]; exact bne_self_eq_false _
   have akC:q.kn<=q.sn/\q.sn<=q.kn:=by omega
   clear hlen
   go_wp2_with (go_at_call 120; refine hac.mono ?_; rintro e w2 ⟨rfl,hk⟩; have c0:=(hk.cell (p:=⟨w.heap.size,0,none⟩) (by show w.heap.size < _; omega)).trans cg0; have c1:=(hk.cell (p:=⟨w.heap.size,1,none⟩) (by show w.heap.size < _; omega)).trans cg1)
   have bW:Below W1.heap.size W1 w2:=hk
   go_wp2
   go_loopg [27] q.kn (fun gg s27 wr=>∃ kk:Nat,kk<=q.kn/\q.kn - kk<=gg/\s27 = .int .i64 kk/\Aside (Below W1.heap.size W1 wr/\∀ i,i < kk->oV g i))
   case atStart=>exact ⟨0,yK _,by omega,rfl,bW,fun i hi=>absurd hi (kA _)⟩
   case round=>
    obtain ⟨kk,hkk,hgg,rfl,BW⟩:=hrel;clear XU aqQ;by_cases bh:kk < q.kn
    ·have aoF:(kk:Int) < (q.kn:Int):=by omega
     have hltz2:(kk:Int) < (q.sn:Int):=by omega
     have BWw:Below w.heap.size w wr:=bg0.trans (BW.out.1.mono (by omega));have vU:=hg.eY (aiR BWw w.heap.size) (aH _) (aH _);have hoo:=ho.eY (aiR BWw w.heap.size) (aH _) (aH _);have e0:=(BW.out.1.cell (p:=⟨w.heap.size,0,none⟩) (by show w.heap.size < _; omega)).trans cg0;have e1:=(BW.out.1.cell (p:=⟨w.heap.size,1,none⟩) (by show w.heap.size < _; omega)).trans cg1;obtain ⟨bk,ok,hka,hbk,eS⟩:=vU.kids kk bh;obtain ⟨bl,ol,hsa,hbl,aqk,aoI⟩:=hoo.slot kk (by omega);have him:q.im kk<=(g.kids.get kk).n/\(g.kids.get kk).n<=q.im kk:=by rw [ho.im]; exact ⟨aH _,aH _⟩
     have P8:q.im kk<=16->∀ V,Below W1.heap.size W1 V->Calls Tryz.prog 122 #[.slice (q.ia kk) (q.im kk) (q.ic kk),.func (.func 121) #[] #[.pointer (some ⟨w.heap.size,0,none⟩)]] V fun e W'=>∃ r,e = .returned (.bool r)/\Below W1.heap.size W1 W'/\(r=true/\¬ oV g kk\/r=false/\∀ k,k < q.im kk->b.dr g.bu ((g.kids.get kk).get k)=some true):=by
      intro h16 V hV;refine (Ub 121 #[.pointer (some ⟨w.heap.size,0,none⟩)] (enters_of Tryz.func121 (by kernel_rfl) rfl) (q.ia kk) (q.im kk) (q.ic kk) (q.lQ kk)
       (fun j W'=>Below W1.heap.size W1 W'/\∀ k,k < j->b.dr g.bu ((g.kids.get kk).get k)=some true)
       (fun W'=>Below W1.heap.size W1 W'/\¬ oV g kk) (by omega) (fun W' j xc hI=>?_) (fun j W' xc hI=>?_) V ⟨hV,fun k hk=>absurd hk (kA _)⟩).mono ?_
      ·have BW' : Below w.heap.size w W':=bg0.trans (hI.1.mono (by omega))
       obtain ⟨bb,off,r1,_,r2,r3⟩:=(hg.eY (aiR BW' w.heap.size) (aH _) (aH _)).row kk bh j xc;exact ⟨bb,off,r1,r2,r3⟩
      ·have BW' : Below w.heap.size w W':=bg0.trans (hI.1.mono (by omega))
       obtain ⟨r,hr⟩:=akB g.bu ((g.kids.get kk).get j) hn;have aiS:=ho.lQ kk j;refine (ov hj BW' hx (q.lQ kk j) (r:=r) (by rw [aiS]; exact hr) (bg:=w.heap.size) (by have:=hI.1.size; omega) ((hI.1.cell (p:=⟨w.heap.size,0,none⟩) (by show w.heap.size < _; omega)).trans cg0)).mono ?_;rintro e W2 ⟨rfl,hb⟩;have hb' : Below W1.heap.size W1 W2:=hI.1.trans (hb.mono hI.1.size);cases r with
       | true=>
        refine .inr ⟨rfl,hb',fun k hk=>?_⟩;by_cases ek:k=j
        ·subst ek; exact hr
        ·exact hI.2 k (by omega)
       | false=>exact .inl ⟨rfl,hb',fun h=>by have:=h.2.2 j (by omega); rw [hr] at this; simp at this⟩
      ·rintro e W' ⟨r,rfl,⟨rfl,h1⟩ | ⟨rfl,h1⟩⟩
       ·exact ⟨true,rfl,h1.1,.inl ⟨rfl,h1.2⟩⟩
       ·exact ⟨false,rfl,h1.1,.inr ⟨rfl,h1.2⟩⟩
     have eg:∀ args w,(callFunc 122 args).run Tryz.prog w = .ok (.enter 122 args) w:=enters_of Tryz.func122 (by kernel_rfl) rfl;have amj:∀ W',Below W1.heap.size W1 W'->¬ oV g kk->∃ n,Ending.returned (.int .i64 8) = .returned (.int .i64 n)/\Below w.heap.size w W'/\(n=0/\l9 g\/n=8/\¬ l9 g):=fun W' hb hr=>
      ⟨8,rfl,bg0.trans (hb.mono (by omega)),.inr ⟨rfl,fun h=>hr (h.row kk (by rw [<- ho.kn]; exact bh))⟩⟩
     have hBW:=BW.out;have arY:∀ W',Below W1.heap.size W1 W'->oV g kk->Below W1.heap.size W1 W'/\∀ i,i < kk+1->oV g i:=fun W' hb hr=>⟨hb,fun i hi=>by
      by_cases e:i=kk
      ·subst e; exact hr
      ·exact hBW.2 i (by omega)⟩
     clear hg ho hj hac BW;generalize hlv:(g.bu.aP.get kk).live=lv at aoI;by_cases h16:q.im kk<=16
     ·have arZ : ¬ (q.im kk:Int) > 16:=by omega
      have aoJ:=P8 h16;have aoK:=aoJ wr hBW.1;clear P8 aoJ;have aco:∀ W' r,Below W1.heap.size W1 W'->(r=true/\¬ oV g kk\/r=false/\∀ k,k < q.im kk->b.dr g.bu ((g.kids.get kk).get k)=some true)->(0 < q.im kk->lv=true)->r=true/\(Below W1.heap.size W1 W'/\¬ oV g kk)\/r=false/\(Below W1.heap.size W1 W'/\∀ i,i < kk+1->oV g i):=by
       rintro W' r hb (⟨rfl,hr⟩ | ⟨rfl,hr⟩) hl
       ·exact .inl ⟨rfl,hb,hr⟩
       ·exact .inr ⟨rfl,arY _ hb ⟨by omega,fun AL=>by rw [hlv]; exact hl (by omega),fun k hk=>hr k (by omega)⟩⟩
      by_cases h0:0 < q.im kk
      ·have h0z:(q.im kk:Int) > 0:=by omega
       cases lv with
       | true=>
        go_wp2_with (go_at_call 122; refine aoK.mono ?_; rintro e w3 ⟨r,rfl,hb,hr⟩; rcases aco _ _ hb hr (fun _=>rfl) with ⟨rfl,hd⟩ | ⟨rfl,hd⟩)
        ·go_wp2
         go_ret
         exact amj _ hd.1 hd.2
        ·go_wp2
         simp only [<- hka,<- hsa]
         go_roundg (q.kn - (kk+1))
         case measure=>omega
         case rel=>exact ⟨kk+1,by omega,by omega,by go_num,hd⟩
       | false=>
        go_wp2
        go_ret
        exact amj _ hBW.1 fun h=>by have:=h.2.1 (by omega); rw [hlv] at this; simp at this
      ·have h0z : ¬ (q.im kk:Int) > 0:=by omega
       go_wp2_with (go_at_call 122; refine aoK.mono ?_; rintro e w3 ⟨r,rfl,hb,hr⟩; rcases aco _ _ hb hr (fun h=>absurd h h0) with ⟨rfl,hd⟩ | ⟨rfl,hd⟩)
       ·go_wp2
        go_ret
        exact amj _ hd.1 hd.2
       ·go_wp2
        simp only [<- hka,<- hsa]
        go_roundg (q.kn - (kk+1))
        case measure=>omega
        case rel=>exact ⟨kk+1,by omega,by omega,by go_num,hd⟩
     ·have arZ:(q.im kk:Int) > 16:=by omega
      go_wp2
      go_ret
      exact amj _ hBW.1 fun h=>h16 (by have:=h.1; omega)
    ·rename World=>V0
     have aoF : ¬ (kk:Int) < (q.kn:Int):=by omega
     have kh:∀ i,i < q.kn->oV g i:=fun i hi=>BW.out.2 i (by omega);have hB1:=BW.out.1;have BWw:Below w.heap.size w V0:=bg0.trans (hB1.mono (by omega));have vU:=(hg.eY (aiR BWw w.heap.size) (aH _) (aH _)).with fun i hi=>by have:=(kh i hi).1; rw [ho.im]; omega
     have hoo:=ho.eY (aiR BWw w.heap.size) (aH _) (aH _);have e0:=(hB1.cell (p:=⟨w.heap.size,0,none⟩) (by show w.heap.size < _; omega)).trans cg0;have e1:=(hB1.cell (p:=⟨w.heap.size,1,none⟩) (by show w.heap.size < _; omega)).trans cg1;have Vr:=run_make;have sW:w.heap.size < V0.heap.size:=by have:=hB1.size; omega
     have K2:∀ mb,Kp mb V0 ((V0.alloc (.map #[] 0)).alloc (.cells #[.map (some V0.heap.size)] 202)):=fun mb=>(Kp.alloc V0 _).trans (Kp.alloc _ _);have hM2:MapAt V0.heap.size ((V0.alloc (.map #[] 0)).alloc (.cells #[.map (some V0.heap.size)] 202)) []:=⟨#[],0,by rw [Below.heap_alloc _ _ _ (by simp)]; exact IX _ _ _ rfl,Yw⟩
     have iV:((V0.alloc (.map #[] 0)).alloc (.cells #[.map (some V0.heap.size)] 202)).cell? ⟨V0.heap.size+1,0,none⟩=some (.map (some V0.heap.size)):=by
      rw [xI (IX _ _ _ (by simp))]; rfl
     have Gq:((V0.alloc (.map #[] 0)).alloc (.cells #[.map (some V0.heap.size)] 202)).heap.size=V0.heap.size+2:=by simp
     have f0:=((K2 V0.heap.size).cell (b:=w.heap.size) (j:=0) sW (by omega)).trans e0;have f1:=((K2 V0.heap.size).cell (b:=w.heap.size) (j:=1) sW (by omega)).trans e1;generalize hW2:(V0.alloc (.map #[] 0)).alloc (.cells #[.map (some V0.heap.size)] 202)=W2 at K2 hM2 iV Gq f0 f1;have RA:=vU.eY (K2 V0.heap.size) (Nat.le_of_lt sW) (Nat.le_of_lt sW);have ho2:=hoo.eY (K2 V0.heap.size) (Nat.le_of_lt sW) (Nat.le_of_lt sW);have aql:∀ W',Kp V0.heap.size W2 W'->Below w.heap.size w W':=fun W' k=>BWw.trans (((K2 V0.heap.size).trans k).below (Nat.le_of_lt sW) (Nat.le_of_lt sW));clear hac hg vU ho hoo BW
     go_wp2
     go_loopg [61] q.kn (fun gg s61 wr2=>∃ jj:Nat,jj<=q.kn/\q.kn - jj<=gg/\s61 = .int .i64 jj/\Aside (Kp V0.heap.size W2 wr2/\(∃ S,MapAt V0.heap.size wr2 S)/\∀ i,i < jj->Hp g i))
     case atStart=>exact ⟨0,yK _,by omega,rfl,Kp.refl _ _,⟨_,hM2⟩,fun i hi=>absurd hi (kA _)⟩
     case round=>
      obtain ⟨jj,hjj,hgg2,rfl,BJ⟩:=hrel;obtain ⟨kj,⟨S0,es0,ZY,hm0,_⟩,adp⟩:=BJ.out;clear BJ;by_cases aiT:jj < q.kn
      ·have hjz:(jj:Int) < (q.kn:Int):=by omega
       have hjz2:(jj:Int) < (q.sn:Int):=by omega
       have hgj:=RA.eY kj (by omega) (by omega);have hoj:=ho2.eY kj (by omega) (by omega);have sj:=kj.size;have j0:=(kj.cell (b:=w.heap.size) (j:=0) (by omega) (by omega)).trans f0;have j1:=(kj.cell (b:=w.heap.size) (j:=1) (by omega) (by omega)).trans f1;have js:=(kj.cell (b:=V0.heap.size+1) (j:=0) (by omega) (by omega)).trans iV;obtain ⟨bk,ok,hka,hbk,eS⟩:=hgj.kids jj aiT;obtain ⟨bl,ol,hsa,hbl,aqk,aoI⟩:=hoj.slot jj (by omega);have aiS:=hoj.lQ jj;have him:q.im jj<=(g.kids.get jj).n/\(g.kids.get jj).n<=q.im jj:=by rw [hoj.im]; exact ⟨aH _,aH _⟩
       generalize akD:(g.bu.aP.get jj).gen=gj at aqk;have KA:=Kp.alloc (mb:=V0.heap.size) wr (.cells #[.int .i64 jj,.int .i64 gj] 32);have hmA:(wr.alloc (.cells #[.int .i64 jj,.int .i64 gj] 32)).heap[V0.heap.size]? = some (.map es0 ZY):=by rw [Below.heap_alloc _ _ _ (by omega)]; exact hm0
       have ar0:=akA hmA;have KP:=Kp.put (mb:=V0.heap.size) (wr.alloc (.cells #[.int .i64 jj,.int .i64 gj] 32)) (.map #[] ZY);have jA:=(KA.cell (b:=V0.heap.size+1) (j:=0) (by omega) (by omega)).trans js;have K4:=KA.trans KP;have hM4:MapAt V0.heap.size (put (wr.alloc (.cells #[.int .i64 jj,.int .i64 gj] 32)) V0.heap.size (.map #[] ZY)) []:=⟨#[],ZY,aa1 hmA,Yw⟩
       have js4:=(KP.cell (b:=V0.heap.size+1) (j:=0) (by have:=KA.size; omega) (by omega)).trans jA;have jt0:(put (wr.alloc (.cells #[.int .i64 jj,.int .i64 gj] 32)) V0.heap.size (.map #[] ZY)).cell? ⟨wr.heap.size,0,none⟩=some (.int .i64 jj):=by
        rw [KP.cell (by simp) (by omega)]; simp
       have jt1:(put (wr.alloc (.cells #[.int .i64 jj,.int .i64 gj] 32)) V0.heap.size (.map #[] ZY)).cell? ⟨wr.heap.size,1,none⟩=some (.int .i64 gj):=by
        rw [KP.cell (by simp) (by omega)]; simp
       have hz4:wr.heap.size < (put (wr.alloc (.cells #[.int .i64 jj,.int .i64 gj] 32)) V0.heap.size (.map #[] ZY)).heap.size:=by rw [Yx]; simp
       generalize hW4:put (wr.alloc (.cells #[.int .i64 jj,.int .i64 gj] 32)) V0.heap.size (.map #[] ZY)=W4 at ar0 KP K4 hM4 js4 jt0 jt1 hz4;have hU:∀ u∈(List.range q.kn).flatMap (fun i=>(List.range (q.im i)).map fun k=>q.lQ i k),(0<=u.1/\u.1 < (q.kn:Int))/\∀ k,k < q.im u.1.toNat->q.lQ u.1.toNat k∈(List.range q.kn).flatMap (fun i=>(List.range (q.im i)).map fun k=>q.lQ i k):=by
        intro u hu;obtain ⟨i,hi,hu⟩:=List.mem_flatMap.1 hu;obtain ⟨k,hk,rfl⟩:=List.mem_map.1 hu;rw [L5] at hi hk;have hr:=aoH ((kh i hi).2.2 k (by rw [<- hoj.im]; exact hk));rw [<- hoj.sn] at hr;have hh:0<=(q.lQ i k).1/\(q.lQ i k).1 < (q.kn:Int):=by rw [hoj.lQ]; exact ⟨hr.1,by have:=hr.2; show ((g.kids.get i).get k).slot < _; omega⟩
        exact ⟨hh,fun k' tJ=>List.mem_flatMap.2 ⟨(q.lQ i k).1.toNat,L5.2 (by omega),List.mem_map.2 ⟨k',L5.2 tJ,rfl⟩⟩⟩
       have P8:Calls Tryz.prog 122 #[.slice (q.ia jj) (q.im jj) (q.ic jj),.func (.func 123) #[] #[.pointer (some ⟨w.heap.size,0,none⟩),.pointer (some ⟨V0.heap.size+1,0,none⟩),.pointer (some ⟨wr.heap.size,0,none⟩)]] W4 fun e W'=>∃ r,e = .returned (.bool r)/\Kp V0.heap.size W4 W'/\(∃ S,MapAt V0.heap.size W' S)/\(r=true/\¬ Hp g jj\/r=false/\Hp g jj):=by
        refine (Ub 123 #[.pointer (some ⟨w.heap.size,0,none⟩),.pointer (some ⟨V0.heap.size+1,0,none⟩),.pointer (some ⟨wr.heap.size,0,none⟩)] (enters_of Tryz.func123 (by kernel_rfl) rfl) (q.ia jj) (q.im jj) (q.ic jj) (q.lQ jj)
         (fun j W'=>Kp V0.heap.size W4 W'/\∃ S,MapAt V0.heap.size W' S/\((jj:Int),gj) ∉ S/\(∀ x∈S,∀ k,k < q.im x.1.toNat->q.lQ x.1.toNat k∈S)/\∀ k,k < j->q.lQ jj k∈S)
         (fun W'=>Kp V0.heap.size W4 W'/\(∃ S,MapAt V0.heap.size W' S)/\¬ Hp g jj) (RA.small jj aiT) (fun W' j xc hI=>?_) (fun j W' xc hI=>?_) W4 ⟨Kp.refl _ _,[],hM4,by simp,by simp,fun k hk=>absurd hk (kA _)⟩).mono ?_
        ·obtain ⟨bb,off,r1,_,r2,r3⟩:=(hgj.eY (K4.trans hI.1) (by omega) (by omega)).row jj aiT j xc
         exact ⟨bb,off,r1,r2,r3⟩
        ·obtain ⟨yJ,S,hS,Xt,hcl,pT⟩:=hI
         have kk4:=K4.trans yJ;have dK:=yJ.size;refine (under q w.heap.size V0.heap.size (q.lQ jj j) ((jj:Int),gj) _ hU S W' (List.mem_flatMap.2 ⟨jj,L5.2 aiT,List.mem_map.2 ⟨j,L5.2 xc,rfl⟩⟩) (hgj.eY kk4 (by omega) (by omega)) (by omega) (by omega) hS Xt
          (bg:=w.heap.size) (bs:=V0.heap.size+1) (bt:=wr.heap.size) (by omega) (by omega) (by omega)
          ((kk4.cell (b:=w.heap.size) (j:=0) (by omega) (by omega)).trans j0) ((kk4.cell (b:=w.heap.size) (j:=1) (by omega) (by omega)).trans j1) ((yJ.cell (b:=V0.heap.size+1) (j:=0) (by omega) (by omega)).trans js4)
          ((yJ.cell (b:=wr.heap.size) (j:=0) hz4 (by omega)).trans jt0) ((yJ.cell (b:=wr.heap.size) (j:=1) hz4 (by omega)).trans jt1)).mono ?_
         rintro e W5 ⟨S',r,rfl,m5,k5,⟨rfl,hr⟩ | ⟨rfl,FD,hn5⟩⟩
         ·refine .inl ⟨rfl,yJ.trans k5,⟨S',m5⟩,fun hf=>hf j (by omega) ?_⟩
          rw [akD,<- aiS j];exact hoj.reach.1 hr
         ·refine .inr ⟨rfl,yJ.trans k5,S',m5,hn5,FD.closed hcl,fun k hk=>?_⟩
          by_cases ek:k=j
          ·subst ek; exact FD.is
          ·exact FD.sub _ (pT k (by omega))
        ·rintro e W' ⟨r,rfl,⟨rfl,h1⟩ | ⟨rfl,h1,S,h2,h3,h4,h5⟩⟩
         ·exact ⟨true,rfl,h1.1,h1.2.1,.inl ⟨rfl,h1.2.2⟩⟩
         ·refine ⟨false,rfl,h1,⟨S,h2⟩,.inr ⟨rfl,fun k hk hr=>?_⟩⟩
          rw [akD,<- aiS k] at hr;exact P9 h4 h3 (hoj.reach.2 hr) (h5 k (by omega))
       have aqR:∀ W',Kp V0.heap.size W4 W'->¬ Hp g jj->∃ n,Ending.returned (.int .i64 8) = .returned (.int .i64 n)/\Below w.heap.size w W'/\(n=0/\l9 g\/n=8/\¬ l9 g):=fun W' hk hf=>
        ⟨8,rfl,aql _ (kj.trans (K4.trans hk)),.inr ⟨rfl,fun h=>hf (h.free jj (by rw [<- hoj.kn]; exact aiT))⟩⟩
       have gE:∀ W',Kp V0.heap.size W4 W'->(∃ S,MapAt V0.heap.size W' S)->Hp g jj->Kp V0.heap.size W2 W'/\(∃ S,MapAt V0.heap.size W' S)/\∀ i,i < jj+1->Hp g i:=fun W' hk hm hf=>⟨kj.trans (K4.trans hk),hm,fun i hi=>by
        by_cases e:i=jj
        ·subst e; exact hf
        ·exact adp i (by omega)⟩
       clear hU aiS RA ho2 hgj hoj kh hW2 akD adp hm0
       go_wp2_with (go_at_call 122; go_loud (refine P8.mono ?_; rintro e w3 ⟨r,rfl,hb,hm,⟨rfl,hr⟩ | ⟨rfl,hr⟩⟩))
       ·go_wp2
        go_ret
        exact aqR _ hb hr
       ·go_wp2
        simp only [<- hka,<- hsa]
        go_roundg (q.kn - (jj+1))
        case measure=>omega
        case rel=>exact ⟨jj+1,by omega,by omega,by go_num,gE _ hb hm hr⟩
      ·have hjz : ¬ (jj:Int) < (q.kn:Int):=by omega
       have hf:l9 g:=⟨hn,by rw [<- ho2.kn,<- ho2.sn]; omega,fun i hi=>kh i (by rw [ho2.kn]; exact hi),fun i hi=>adp i (by have:=ho2.kn; omega)⟩
       have hb:=aql _ kj;have Tv:∀ W',Below w.heap.size w W'->∃ n,Ending.returned (.int .i64 0) = .returned (.int .i64 n)/\Below w.heap.size w W'/\(n=0/\l9 g\/n=8/\¬ l9 g):=fun W' hb=>⟨0,rfl,hb,.inl ⟨rfl,hf⟩⟩
       clear hm0 RA ho2 kh
       go_wp2
       go_ret
       first | exact Tv _ hb | exact ⟨rfl,hb⟩
  ·have XU:((q.kn:Int)==(q.sn:Int))=false:=beq_eq_false_iff_ne.2 fun h=>hlen (by exact_mod_cast h)
   have aoL : ¬ (q.kn:Int)=(q.sn:Int):=fun h=>hlen (by exact_mod_cast h)
   go_wp2_with (go_at_call 120; refine hac.mono ?_; rintro e w2 ⟨rfl,hk⟩; have c0:=(hk.cell (p:=⟨w.heap.size,0,none⟩) (by show w.heap.size < _; omega)).trans cg0; have c1:=(hk.cell (p:=⟨w.heap.size,1,none⟩) (by show w.heap.size < _; omega)).trans cg1)
   go_wp2
   go_ret
   exact ⟨8,rfl,bg0.trans (hk.mono (by omega)),.inr ⟨rfl,fun h=>hlen (by rw [ho.kn,ho.sn,h.len])⟩⟩
 ·have hn0' : (n==0)=false:=by simpa using hn0
  go_wp2_with (go_at_call 120; refine hac.mono ?_; rintro e w2 ⟨rfl,hk⟩)
  go_wp2
  go_ret
  exact ⟨8,rfl,bg0.trans (hk.mono (by omega)),.inr ⟨rfl,fun h=>by rw [h.aP] at hn; simp only [cJ] at hn; omega⟩⟩
end Go.Proofs.YtckbdndhmcoihaaGreat.nodes
end
section
namespace Go.Proofs.YtckbdndhmcoihaaGreat.nodes
open Go Go.RowKit Go.K
open Classical in
noncomputable def Dq (g:b.cA):Option Int:=(b.dC g.bu).map fun _=>if l9 g then 0 else 8
noncomputable def aiU:List KV->KR KV:=aZ Tryz.prog 73 (bd (kI .i64) fun vs=>Dq (b.qi (vs.getD 0 .bA)))
theorem call73:yf Tryz.prog 73:=by
 refine ⟨by kernel_rfl,_,Tryz.func73,rfl,by kernel_rfl⟩
theorem apx (w:Nat->KV):rO Tryz.prog [27] w 0 = [b.CF (b.qi (eE Tryz.prog (bI Tryz.prog dx) 27 (w 0)))]:=by kernel_rfl
theorem aiV:aY Tryz.prog 73 aiU:=by
 refine aiy call73 fun args v E A B ρ base w eV hF hlen hv hj=>?_;have ep:cn Tryz.prog 73 = [27]:=by kernel_rfl
 unfold aiU aZ at hF;obtain ⟨hb,hF⟩:=aK.cond hF;obtain ⟨ww,hw⟩:=M4 0 hb;have Gn:qc Tryz.prog E ρ (normArgs Tryz.prog (cn Tryz.prog 73) args) eV:=by
  obtain ⟨m,h1,h2⟩:=hv;exact ⟨m,ba.Py (.of rfl) h1 hlen,h2⟩
 rw [hw,ep,apx] at hF Gn;generalize b.qi (eE Tryz.prog (bI Tryz.prog dx) 27 (ww 0))=g at hF Gn;obtain ⟨u,us,rfl,hu,OW⟩:=Gn.Wu;obtain rfl:=OW.agM;obtain ⟨q,rfl,hg,ho,hx⟩:=am5 hj hu;unfold bd at hF;obtain ⟨h1,h2⟩:=aK.jt hF;have h1:(Dq g).isSome=true:=h1;have h2:kI .i64 ((Dq g).getD default)=v:=h2;cases hn:b.dC g.bu with
 | none=>simp [Dq,hn] at h1
 | some n=>
  refine (check hj hg ho hx hn).mono ?_;rintro e w' ⟨m,rfl,hb,hm⟩;refine ⟨.int .i64 m,rfl,?_,hb⟩;have:v=kI .i64 m:=by
   rw [<- h2];simp only [Dq,hn,Option.map_some,db];rcases hm with ⟨rfl,h⟩ | ⟨rfl,h⟩
   ·rw [aI h]
   ·rw [ak h]
  rw [this];exact ⟨_,.mkInt,by simp [aq.VR]⟩
end Go.Proofs.YtckbdndhmcoihaaGreat.nodes
end
section
namespace Go.Proofs.YtckbdndhmcoihaaGreat.b
open Go.K
noncomputable section
def Hq (g:cA):Option Int:=nodes.Dq g
def um:List KV->KR KV:=aZ Tryz.prog 73 (bd (kI .i64) fun vs=>Hq (qi (vs.getD 0 .bA)))
theorem tz:aY Tryz.prog 73 um:=nodes.aiV
def qS (n:Int) (b6:Int):Option (Bool):=(cond (decide (n >= (aV (0 - b6)))) (some ((decide (n<=b6)))) (some (false)))
theorem YA (n:Int) (b6:Int):Bs [] [] 114 [(kI .i64) n,(kI .i64) b6] = (qS n b6).map kB:=by
 unfold qS
 try simp only [aL]
 kernel_rfl
def Qa:List KV->KR KV:=aZ PG 114 (bd kB fun vs=>qS (av (v9 vs 0)) (av (v9 vs 1)))
theorem Wv:aY PG 114 Qa:=b8 ah.nil aD.nil fun w=>YA (av (g0 3 (w 0))) (av (g0 3 (w 1)))
def Hr (v:wg):=qS v.x 1024
def Hs (v:wg):=qS v.y 1024
def Ht (v:wg):=qS v.z 1024
def BZ (v:wg):Option (Bool):=(cond (Hr v).isSome (cond (!((Hr v).getD default)) (some (true)) (cond (Hs v).isSome (cond (!((Hs v).getD default)) (some (true)) (cond (Ht v).isSome (some ((!((Ht v).getD default)))) none)) none)) none)
theorem Ud (v:wg):Bs [(114,Qa)] [] 113 [ZS v] = (BZ v).map kB:=by
 unfold BZ
 try simp only [aL]
 kernel_rfl
def vc:List KV->KR KV:=aZ PG 113 (bd kB fun vs=>BZ (SC (v9 vs 0)))
theorem vH:aY PG 113 vc:=b8 (ah.cons Wv ah.nil) aD.nil fun w=>Ud (SC (g0 43 (w 0)))
def B4 (p:tt):Option (Bool):=(cond (decide (p.e0 < 0)) (some (true)) (cond (decide (p.e0 > 255)) (some (true)) (cond (decide (p.e1 < 0)) (some (true)) (some ((decide (p.e1 > 255)))))))
theorem Ue (p:tt):Bs [] [] 115 [Lf p] = (B4 p).map kB:=by
 unfold B4
 try simp only [aL]
 kernel_rfl
def vd:List KV->KR KV:=aZ PG 115 (bd kB fun vs=>B4 (Lg (v9 vs 0)))
theorem vI:aY PG 115 vd:=b8 ah.nil aD.nil fun w=>Ue (Lg (g0 185 (w 0)))
def wT (p:Prim):Option (Bool):=(cond ((p.index.n:Int)==0) (some (true)) (some ((decide ((p.index.n:Int) >= 3)))))
def ve (p:Prim):Option (Bool):=(cond (p.kind==0) (some (((Int.tmod (p.index.n:Int) 3)==0))) (cond (p.kind==1)
  (wT p) (cond (p.kind==2)
   (wT p) (some (false)))))
theorem adq (p:Prim):Bs [] [] 209 [TZ p] = (ve p).map kB:=by
 unfold ve wT
 try simp only [aL]
 kernel_rfl
def Nn:List KV->KR KV:=aZ PG 209 (bd kB fun vs=>ve (Bx (v9 vs 0)))
theorem NU:aY PG 209 Nn:=b8 ah.nil aD.nil fun w=>adq (Bx (g0 172 (w 0)))
structure dF where
 t2:(Sl cL)
 t3:Int
 out:(Sl cL)
 l:(Sl Int)
 i:Int
 p:Prim
instance:Inhabited dF:=⟨by constructor<;>exact default⟩
def z6 (x:dF):List KV:=[dc 40 fq x.t2,.int .i64 x.t3,dc 40 fq x.out,dc 3 (kI .i64) x.l,.int .i64 x.i]
def z7 (x:dF):List (List KV):=[ac2 x.p]
def IY (vs:List KV) (rs:List (List KV)):dF:=⟨cT jR (v9 vs 0),av (v9 vs 1),cT jR (v9 vs 2),cT av (v9 vs 3),av (v9 vs 4),ac3 (r9 rs 0)⟩
def LB:aB:=⟨[(2,w9 (n9 40)),(3,w9 i9),(4,⟨false,[.aQ 40]⟩),(5,w9 (n9 3)),(6,w9 i9)],[(1,[u9,n9 3],1)],[(1,0,0)]⟩
def Ww:=JL [(209,Nn)] [] 171 250 LB
def nX (x:dF):ax dF:=(cond ((decide (0<=x.i))&&(decide (x.i < (x.l.n:Int)))) (cond ((decide (0<=(aV (x.i+1))))&&(decide ((aV (x.i+1)) < (x.l.n:Int)))) (cond ((decide (0<=(aV (x.i+2))))&&(decide ((aV (x.i+2)) < (x.l.n:Int)))) (cond ((aC x.out.n x.out.n)&&(fC 24 x.out.n 1)) (cond (aC (x.out.n+1) (x.out.n+1)) (.next ⟨x.t2,x.t3,(x.out.push ⟨(x.l.get (Int.toNat x.i)),(x.l.get (Int.toNat (aV (x.i+1)))),(x.l.get (Int.toNat (aV (x.i+2))))⟩),x.l,(aV (x.i+1)),x.p⟩) .fail) .fail) .fail) .fail) .fail)
def nY (x:dF):ax dF:=(cond (x.p.kind==1) (cond ((decide (0<=(aV (x.i+1))))&&(decide ((aV (x.i+1)) < (x.l.n:Int)))) (cond ((decide (0<=x.i))&&(decide (x.i < (x.l.n:Int)))) (cond ((decide (0<=(aV (x.i+2))))&&(decide ((aV (x.i+2)) < (x.l.n:Int)))) (cond ((aC x.out.n x.out.n)&&(fC 24 x.out.n 1)) (cond (aC (x.out.n+1) (x.out.n+1)) (.next ⟨x.t2,x.t3,(x.out.push ⟨(x.l.get (Int.toNat (aV (x.i+1)))),(x.l.get (Int.toNat x.i)),(x.l.get (Int.toNat (aV (x.i+2))))⟩),x.l,(aV (x.i+1)),x.p⟩) .fail) .fail) .fail) .fail) .fail) (cond (x.p.kind==2) (cond (decide (0 < (x.l.n:Int))) (cond ((decide (0<=(aV (x.i+1))))&&(decide ((aV (x.i+1)) < (x.l.n:Int)))) (cond ((decide (0<=(aV (x.i+2))))&&(decide ((aV (x.i+2)) < (x.l.n:Int)))) (cond ((aC x.out.n x.out.n)&&(fC 24 x.out.n 1)) (cond (aC (x.out.n+1) (x.out.n+1)) (.next ⟨x.t2,x.t3,(x.out.push ⟨(x.l.get 0),(x.l.get (Int.toNat (aV (x.i+1)))),(x.l.get (Int.toNat (aV (x.i+2))))⟩),x.l,(aV (x.i+1)),x.p⟩) .fail) .fail) .fail) .fail) .fail) (cond (aC x.out.n x.out.n) (.next ⟨x.t2,x.t3,x.out,x.l,(aV (x.i+1)),x.p⟩) .fail)))
def nZ (x:dF):ax dF:=(cond (x.p.kind==1) (cond ((Int.tmod x.i 2)==0)
  (nX x)
  (nY x))
  (nY x))
def jD (x:dF):ax dF:=(cond (decide ((aV (x.i+2)) < (x.l.n:Int))) (cond (x.p.kind==0) (cond ((Int.tmod x.i 3)==0)
   (nX x)
   (nZ x))
  (nZ x)) (cond (aC x.out.n x.out.n) (.out (aq.ae.exit 1) x) .fail))
theorem RV (x:dF):Ww (z6 x) (z7 x)=ax.enc z6 z7 (jD x):=by
 unfold jD nZ nY nX
 try simp only [ax.aO,FO]
 kernel_rfl
def LC:Lp:=⟨171,250,LB,fun vs rs=>bU z6 z7 (goN jD (IY vs rs)) [aq.ae.exit 1],false⟩
theorem Wx:LC.Ok PG:=kv (ah.cons NU ah.nil) aD.nil (pa:=IY) RV
def Hu (p:Prim):=ve p
def Hv (p:Prim):=goN jD ⟨⟨0,(fun i=>⟨0,0,0⟩)⟩,0,⟨0,(fun i=>⟨0,0,0⟩)⟩,p.index,0,p⟩
def vf (p:Prim):Option ((Sl cL)×Int):=(cond (decide (p.kind > 2)) (some (⟨0,(fun i=>⟨0,0,0⟩)⟩,2)) (cond (decide ((p.index.n:Int) > 200)) (some (⟨0,(fun i=>⟨0,0,0⟩)⟩,4)) (cond (Hu p).isSome (cond (!((Hu p).getD default)) (some (⟨0,(fun i=>⟨0,0,0⟩)⟩,40)) (cond ((Hv p).by (aq.ae.exit 1)) (some ((Hv p).st.out,0)) none)) none)))
theorem adr (p:Prim):Bs [(209,Nn)] [LC] 171 [TZ p] = (vf p).map (fun (r:(Sl cL)×Int)=>KV.jV [(dc 40 fq) r.1,(kI .i64) r.2]):=by
 unfold vf
 try simp only [aL]
 kernel_rfl
def FX:List KV->KR KV:=aZ PG 171 (bd (fun (r:(Sl cL)×Int)=>KV.jV [(dc 40 fq) r.1,(kI .i64) r.2]) fun vs=>vf (Bx (v9 vs 0)))
theorem D7:aY PG 171 FX:=b8 (ah.cons NU ah.nil) (fv Wx aD.nil) fun w=>adr (Bx (g0 172 (w 0)))
structure fA where
 t2:(Sl cL)
 t3:Bool
 out:(Sl cL)
 t12:(Sl Prim)
 t13:Int
 t14:Int
 m:dm
instance:Inhabited fA:=⟨by constructor<;>exact default⟩
def B5 (x:fA):List KV:=[dc 40 fq x.t2,.bool x.t3,dc 40 fq x.out,dc 172 TZ x.t12,.int .i64 x.t13,.int .i64 x.t14]
def B6 (x:fA):List (List KV):=[vE x.m]
def LD (vs:List KV) (rs:List (List KV)):fA:=⟨cT jR (v9 vs 0),cK (v9 vs 1),cT jR (v9 vs 2),cT Bx (v9 vs 3),av (v9 vs 4),av (v9 vs 5),vF (r9 rs 0)⟩
def NV:aB:=⟨[(2,w9 (n9 40)),(3,w9 b9),(4,⟨false,[.aQ 40]⟩),(12,w9 (n9 172)),(13,w9 i9),(14,w9 i9)],[(1,[n9 43,n9 185,n9 172],1)],[(1,0,0)]⟩
structure eI where
 t2:(Sl cL)
 t3:Bool
 out:(Sl cL)
 t12:(Sl Prim)
 t13:Int
 t14:Int
 t34:(Sl Int)
 t35:Int
 t36:Int
 m:dm
instance:Inhabited eI:=⟨by constructor<;>exact default⟩
def uo (x:eI):List KV:=[dc 40 fq x.t2,.bool x.t3,dc 40 fq x.out,dc 172 TZ x.t12,.int .i64 x.t13,.int .i64 x.t14,dc 3 (kI .i64) x.t34,.int .i64 x.t35,.int .i64 x.t36]
def uq (x:eI):List (List KV):=[vE x.m]
def Dr (vs:List KV) (rs:List (List KV)):eI:=⟨cT jR (v9 vs 0),cK (v9 vs 1),cT jR (v9 vs 2),cT Bx (v9 vs 3),av (v9 vs 4),av (v9 vs 5),cT av (v9 vs 6),av (v9 vs 7),av (v9 vs 8),vF (r9 rs 0)⟩
def Fb:aB:=⟨[(2,w9 (n9 40)),(3,w9 b9),(4,⟨false,[.aQ 40]⟩),(12,w9 (n9 172)),(13,w9 i9),(14,w9 i9),(34,w9 (n9 3)),(35,w9 i9),(36,w9 i9)],[(1,[n9 43,n9 185,n9 172],1)],[(1,0,0)]⟩
def Qb:=JL [(171,FX)] [] 118 119614 Fb
def jv (x:eI):ax eI:=(cond (aC x.out.n x.out.n) (.out aq.ae.ret ⟨⟨0,(fun i=>⟨0,0,0⟩)⟩,false,x.out,x.t12,x.t13,x.t14,x.t34,x.t35,x.t36,x.m⟩) .fail)
def eP (x:eI):ax eI:=(cond (decide (x.t36 < x.t35)) (cond ((decide (0<=x.t36))&&(decide (x.t36 < (x.t34.n:Int)))) (cond (decide ((x.t34.get (Int.toNat x.t36)) < 0))
   (jv x) (cond (decide ((x.t34.get (Int.toNat x.t36)) >= (x.m.bN.n:Int)))
   (jv x) (cond (aC x.out.n x.out.n) (.next ⟨x.t2,x.t3,x.out,x.t12,x.t13,x.t14,x.t34,x.t35,(aV (x.t36+1)),x.m⟩) .fail))) .fail) (cond (aC x.out.n x.out.n) (.out (aq.ae.exit 2) x) .fail))
theorem Np (x:eI):Qb (uo x) (uq x)=ax.enc uo uq (eP x):=by
 unfold eP jv
 try simp only [ax.aO]
 kernel_rfl
def vJ:Lp:=⟨118,119614,Fb,fun vs rs=>bU uo uq (goN eP (Dr vs rs)) [aq.ae.exit 2,aq.ae.ret],false⟩
theorem Ds:vJ.Ok PG:=kv (ah.cons D7 ah.nil) aD.nil (pa:=Dr) Np
def YB:=JL [(171,FX)] [vJ] 118 58 NV
def fJ (x:fA):=vf (x.t12.get (Int.toNat x.t14))
def cm (x:fA):=goN eP ⟨x.t2,x.t3,(x.out.join ((fJ x).getD default).fst),x.t12,x.t13,x.t14,(x.t12.get (Int.toNat x.t14)).index,((x.t12.get (Int.toNat x.t14)).index.n:Int),0,x.m⟩
def oQ (x:fA):ax fA:=(cond (aC (x.out.n+((fJ x).getD default).fst.n) (x.out.n+((fJ x).getD default).fst.n)) (.out aq.ae.ret ⟨⟨0,(fun i=>⟨0,0,0⟩)⟩,false,(x.out.join ((fJ x).getD default).fst),x.t12,x.t13,x.t14,x.m⟩) .fail)
def mr (x:fA):ax fA:=(cond (decide (x.t14 < x.t13)) (cond ((decide (0<=x.t14))&&(decide (x.t14 < (x.t12.n:Int)))) (cond (fJ x).isSome (cond ((aC x.out.n x.out.n)&&(fC 24 x.out.n ((fJ x).getD default).fst.n)) (cond (((fJ x).getD default).snd != 0)
    (oQ x) (cond (decide ((((x.out.n+((fJ x).getD default).fst.n):Nat):Int) > 64))
    (oQ x) (cond (aC (x.out.n+((fJ x).getD default).fst.n) (x.out.n+((fJ x).getD default).fst.n)) (cond ((cm x).by (aq.ae.exit 2)) (cond (aC (cm x).st.out.n (cm x).st.out.n) (.next ⟨(cm x).st.t2,(cm x).st.t3,(cm x).st.out,(cm x).st.t12,(cm x).st.t13,(aV ((cm x).st.t14+1)),(cm x).st.m⟩) .fail) (cond ((cm x).by aq.ae.ret) (cond (aC (cm x).st.out.n (cm x).st.out.n) (.out aq.ae.ret ⟨(cm x).st.t2,(cm x).st.t3,(cm x).st.out,(cm x).st.t12,(cm x).st.t13,(cm x).st.t14,(cm x).st.m⟩) .fail) .fail)) .fail))) .fail) .fail) .fail) (cond (aC x.out.n x.out.n) (.out (aq.ae.exit 0) x) .fail))
theorem Uf (x:fA):YB (B5 x) (B6 x)=ax.enc B5 B6 (mr x):=by
 unfold mr oQ
 try simp only [ax.aO,cm,V5]
 kernel_rfl
def NW:Lp:=⟨118,58,NV,fun vs rs=>bU B5 B6 (goN mr (LD vs rs)) [aq.ae.exit 0,aq.ae.ret],false⟩
theorem YC:NW.Ok PG:=kv (ah.cons D7 ah.nil) (fv Ds aD.nil) (pa:=LD) Uf
def qT (m:dm):=goN mr ⟨⟨0,(fun i=>⟨0,0,0⟩)⟩,false,⟨0,(fun i=>⟨0,0,0⟩)⟩,m.aG,(m.aG.n:Int),0,m⟩
def vg (m:dm):Option ((Sl cL)×Bool):=(cond ((qT m).by (aq.ae.exit 0)) (some ((qT m).st.out,true)) (cond ((qT m).by aq.ae.ret) (some ((qT m).st.t2,(qT m).st.t3)) none))
theorem ads (m:dm):Bs [(171,FX)] [vJ,NW] 118 [xw m] = (vg m).map (fun (r:(Sl cL)×Bool)=>KV.jV [(dc 40 fq) r.1,kB r.2]):=by
 unfold vg
 try simp only [aL]
 kernel_rfl
def FY:List KV->KR KV:=aZ PG 118 (bd (fun (r:(Sl cL)×Bool)=>KV.jV [(dc 40 fq) r.1,kB r.2]) fun vs=>vg (nW (v9 vs 0)))
theorem D8:aY PG 118 FY:=b8 (ah.cons D7 ah.nil) (fv Ds (fv YC aD.nil)) fun w=>ads (nW (g0 88 (w 0)))
structure bS where
 s:(Sl wg)
 t4:Int
 t7:Int
 t8:Int
instance:Inhabited bS:=⟨⟨default,default,default,default⟩⟩
def gZ (x:bS):List KV:=[dc 43 ZS x.s,.fn (.func 113) [] [],.int .i64 x.t4,.int .i64 x.t7,.int .i64 x.t8]
def hD (x:bS):List (List KV):=[]
def lC (vs:List KV) (rs:List (List KV)):bS:=⟨cT SC (v9 vs 0),av (v9 vs 2),av (v9 vs 3),av (v9 vs 4)⟩
def ma:aB:=⟨[(0,w9 (n9 43)),(1,⟨false,[.lit (.fn (.func 113) [] [])]⟩),(4,w9 i9),(7,w9 i9),(8,w9 i9)],[],[]⟩
def su:=JL [(118,FY),(115,vd),(113,vc)] [] 169 26 ma
def bJ (x:bS):ax bS:=(cond (decide (x.t8 < x.t7)) (cond ((decide (0<=x.t8))&&(decide (x.t8 < (x.s.n:Int)))) (cond (decide ((x.s.get (Int.toNat x.t8)).x >= (-(1024:Int)))) (cond (!(decide ((x.s.get (Int.toNat x.t8)).x<=1024))) (.out aq.ae.ret ⟨x.s,x.t8,x.t7,x.t8⟩) (cond (decide ((x.s.get (Int.toNat x.t8)).y >= (-(1024:Int)))) (cond (!(decide ((x.s.get (Int.toNat x.t8)).y<=1024))) (.out aq.ae.ret ⟨x.s,x.t8,x.t7,x.t8⟩) (cond (decide ((x.s.get (Int.toNat x.t8)).z >= (-(1024:Int)))) (cond (!(decide ((x.s.get (Int.toNat x.t8)).z<=1024))) (.out aq.ae.ret ⟨x.s,x.t8,x.t7,x.t8⟩) (.next ⟨x.s,x.t4,x.t7,(aV (x.t8+1))⟩)) (.out aq.ae.ret ⟨x.s,x.t8,x.t7,x.t8⟩))) (.out aq.ae.ret ⟨x.s,x.t8,x.t7,x.t8⟩))) (.out aq.ae.ret ⟨x.s,x.t8,x.t7,x.t8⟩)) .fail) (.out (aq.ae.exit 0) x))
theorem rf (x:bS):su (gZ x) (hD x)=ax.enc gZ hD (bJ x):=by
 unfold bJ
 try simp only [ax.aO]
 kernel_rfl
def iy:Lp:=⟨169,26,ma,fun vs rs=>bU gZ hD (goN bJ (lC vs rs)) [aq.ae.exit 0,aq.ae.ret],false⟩
theorem lD:iy.Ok PG:=kv (ah.cons D8 (ah.cons vI (ah.cons vH ah.nil))) aD.nil (pa:=lC) rf
structure bT where
 s:(Sl tt)
 t4:Int
 t7:Int
 t8:Int
instance:Inhabited bT:=⟨⟨default,default,default,default⟩⟩
def hH (x:bT):List KV:=[dc 185 Lf x.s,.fn (.func 115) [] [],.int .i64 x.t4,.int .i64 x.t7,.int .i64 x.t8]
def hJ (x:bT):List (List KV):=[]
def lE (vs:List KV) (rs:List (List KV)):bT:=⟨cT Lg (v9 vs 0),av (v9 vs 2),av (v9 vs 3),av (v9 vs 4)⟩
def mc:aB:=⟨[(0,w9 (n9 185)),(1,⟨false,[.lit (.fn (.func 115) [] [])]⟩),(4,w9 i9),(7,w9 i9),(8,w9 i9)],[],[]⟩
def sv:=JL [(118,FY),(115,vd),(113,vc)] [iy] 170 26 mc
def bK (x:bT):ax bT:=(cond (decide (x.t8 < x.t7)) (cond ((decide (0<=x.t8))&&(decide (x.t8 < (x.s.n:Int)))) (cond (decide ((x.s.get (Int.toNat x.t8)).e0 < 0)) (.out aq.ae.ret ⟨x.s,x.t8,x.t7,x.t8⟩) (cond (decide ((x.s.get (Int.toNat x.t8)).e0 > 255)) (.out aq.ae.ret ⟨x.s,x.t8,x.t7,x.t8⟩) (cond (decide ((x.s.get (Int.toNat x.t8)).e1 < 0)) (.out aq.ae.ret ⟨x.s,x.t8,x.t7,x.t8⟩) (cond (decide ((x.s.get (Int.toNat x.t8)).e1 > 255)) (.out aq.ae.ret ⟨x.s,x.t8,x.t7,x.t8⟩) (.next ⟨x.s,x.t4,x.t7,(aV (x.t8+1))⟩))))) .fail) (.out (aq.ae.exit 0) x))
theorem rh (x:bT):sv (hH x) (hJ x)=ax.enc hH hJ (bK x):=by
 unfold bK
 try simp only [ax.aO]
 kernel_rfl
def mf:Lp:=⟨170,26,mc,fun vs rs=>bU hH hJ (goN bK (lE vs rs)) [aq.ae.exit 0,aq.ae.ret],false⟩
theorem sA:mf.Ok PG:=kv (ah.cons D8 (ah.cons vI (ah.cons vH ah.nil))) (fv lD aD.nil) (pa:=lE) rh
def wU (m:dm):=goN bJ ⟨m.bN,0,(m.bN.n:Int),0⟩
def wV (m:dm):=goN bK ⟨m.uV,0,(m.uV.n:Int),0⟩
def D9 (m:dm):=vg m
def vh (m:dm):Option (Int):=(cond (D9 m).isSome (cond (!((D9 m).getD default).snd) (some (40)) (some (0))) none)
def vi (m:dm):Option (Int):=(cond ((wV m).by (aq.ae.exit 0))
  (vh m) (cond ((wV m).by aq.ae.ret) (cond (decide ((wV m).st.t4 >= 0)) (some (40))
   (vh m)) none))
def sL (m:dm):Option (Int):=(cond (decide ((m.bN.n:Int) > 64)) (some (4)) (cond (decide ((m.uV.n:Int) > 64)) (some (4)) (cond (decide ((m.aG.n:Int) > 16)) (some (4)) (cond ((m.uV.n:Int) != (m.bN.n:Int)) (some (40)) (cond ((wU m).by (aq.ae.exit 0))
    (vi m) (cond ((wU m).by aq.ae.ret) (cond (decide ((wU m).st.t4 >= 0)) (some (40))
     (vi m)) none))))))
theorem aam (m:dm):Bs [(118,FY),(115,vd),(113,vc)] [iy,mf] 70 [xw m] = (sL m).map (kI .i64):=by
 unfold sL vi vh
 try simp only [aL]
 kernel_rfl
def wo:List KV->KR KV:=aZ PG 70 (bd (kI .i64) fun vs=>sL (nW (v9 vs 0)))
theorem vj:aY PG 70 wo:=b8 (ah.cons D8 (ah.cons vI (ah.cons vH ah.nil))) (fv lD (fv sA aD.nil)) fun w=>aam (nW (g0 88 (w 0)))
def nA (n:Int):Option (Bool):=(cond (decide (n > 0)) (some ((decide (n<=16)))) (some (false)))
theorem Wy (n:Int):Bs [] [] 119 [(kI .i64) n] = (nA n).map kB:=by
 unfold nA
 try simp only [aL]
 kernel_rfl
def NX:List KV->KR KV:=aZ PG 119 (bd kB fun vs=>nA (av (v9 vs 0)))
theorem Ug:aY PG 119 NX:=b8 ah.nil aD.nil fun w=>Wy (av (g0 3 (w 0)))
def xJ (t:cN):=nA t.w
def xK (t:cN):=nA t.h
def ot (t:cN):Option (Int):=(cond (xJ t).isSome (cond (!((xJ t).getD default)) (some (8)) (cond (xK t).isSome (cond (!((xK t).getD default)) (some (8)) (cond ((t.dt.n:Int) != (aV (t.w * t.h))) (some (8)) (some (0)))) none)) none)
theorem Uh (t:cN):Bs [(119,NX)] [] 72 [jN t] = (ot t).map (kI .i64):=by
 unfold ot
 try simp only [aL]
 kernel_rfl
def qU:List KV->KR KV:=aZ PG 72 (bd (kI .i64) fun vs=>ot (fj (v9 vs 0)))
theorem qp:aY PG 72 qU:=b8 (ah.cons Ug ah.nil) aD.nil fun w=>Uh (fj (g0 91 (w 0)))
structure n5 where
 b6:Int
 t4:Bool
 t7:(Sl Int)
 t8:Int
 t9:Int
instance:Inhabited n5:=⟨⟨default,default,default,default,default⟩⟩
def J5 (x:n5):List KV:=[.int .i64 x.b6,.bool x.t4,dc 3 (kI .i64) x.t7,.int .i64 x.t8,.int .i64 x.t9]
def J6 (x:n5):List (List KV):=[]
def SN (vs:List KV) (rs:List (List KV)):n5:=⟨av (v9 vs 0),cK (v9 vs 1),cT av (v9 vs 2),av (v9 vs 3),av (v9 vs 4)⟩
def Wz:aB:=⟨[(0,w9 i9),(4,w9 b9),(7,w9 (n9 3)),(8,w9 i9),(9,w9 i9)],[],[]⟩
def aeo:=JL [] [] 182 26 Wz
def o8 (x:n5):ax n5:=(cond (decide (x.t9 < x.t8)) (cond ((decide (0<=x.t9))&&(decide (x.t9 < (x.t7.n:Int)))) (cond (decide ((x.t7.get (Int.toNat x.t9)) < (aV (0 - x.b6)))) (.out aq.ae.ret ⟨x.b6,false,x.t7,x.t8,x.t9⟩) (cond (decide ((x.t7.get (Int.toNat x.t9)) > x.b6)) (.out aq.ae.ret ⟨x.b6,false,x.t7,x.t8,x.t9⟩) (.next ⟨x.b6,x.t4,x.t7,x.t8,(aV (x.t9+1))⟩))) .fail) (.out (aq.ae.exit 0) x))
theorem aan (x:n5):aeo (J5 x) (J6 x)=ax.enc J5 J6 (o8 x):=by
 unfold o8
 try simp only [ax.aO]
 kernel_rfl
def WA:Lp:=⟨182,26,Wz,fun vs rs=>bU J5 J6 (goN o8 (SN vs rs)) [aq.ae.exit 0,aq.ae.ret],false⟩
theorem aep:WA.Ok PG:=kv ah.nil aD.nil (pa:=SN) aan
def IZ (b6:Int) (l:(Sl Int)):=goN o8 ⟨b6,false,l,(l.n:Int),0⟩
def Gd (b6:Int) (l:(Sl Int)):Option (Bool):=(cond ((IZ b6 l).by (aq.ae.exit 0)) (some (true)) (cond ((IZ b6 l).by aq.ae.ret) (some ((IZ b6 l).st.t4)) none))
theorem aiW (b6:Int) (l:(Sl Int)):Bs [] [WA] 182 [(kI .i64) b6,(dc 3 (kI .i64)) l] = (Gd b6 l).map kB:=by
 unfold Gd
 try simp only [aL]
 kernel_rfl
def afw:List KV->KR KV:=aZ PG 182 (bd kB fun vs=>Gd (av (v9 vs 0)) ((cT av) (v9 vs 1)))
theorem agO:aY PG 182 afw:=b8 ah.nil (fv aep aD.nil) fun w=>aiW (av (g0 3 (w 0))) ((cT av) (g0 36 (w 1)))
def yq (m:fw):Option (Bool):=(cond (decide (m.e0.e0 < (-(1024:Int)))) (some (false)) (cond (decide (m.e0.e0 > 1024)) (some (false)) (cond (decide (m.e0.e1 < (-(1024:Int)))) (some (false)) (cond (decide (m.e0.e1 > 1024)) (some (false)) (cond (decide (m.e0.e2 < (-(1024:Int)))) (some (false)) (cond (decide (m.e0.e2 > 1024)) (some (false)) (cond (decide (m.e1.e0 < (-(1024:Int)))) (some (false)) (cond (decide (m.e1.e0 > 1024)) (some (false)) (cond (decide (m.e1.e1 < (-(1024:Int)))) (some (false)) (cond (decide (m.e1.e1 > 1024)) (some (false)) (cond (decide (m.e1.e2 < (-(1024:Int)))) (some (false)) (cond (decide (m.e1.e2 > 1024)) (some (false)) (cond (decide (m.e2.e0 < (-(1024:Int)))) (some (false)) (cond (decide (m.e2.e0 > 1024)) (some (false)) (cond (decide (m.e2.e1 < (-(1024:Int)))) (some (false)) (cond (decide (m.e2.e1 > 1024)) (some (false)) (cond (decide (m.e2.e2 < (-(1024:Int)))) (some (false)) (cond (decide (m.e2.e2 > 1024)) (some (false)) (some (true))))))))))))))))))))
theorem aeq (m:fw):Bs [] [] 181 [ZR m] = (yq m).map kB:=by
 unfold yq
 try simp only [aL]
 kernel_rfl
def ZZ:List KV->KR KV:=aZ PG 181 (bd kB fun vs=>yq (Iw (v9 vs 0)))
theorem adt:aY PG 181 ZZ:=b8 ah.nil aD.nil fun w=>aeq (Iw (g0 41 (w 0)))
def z8 (v:wg):=Gd 4096 (Sl.lit [v.x,v.y,v.z])
def rU (v:wg):Option (Int):=(cond (z8 v).isSome (cond (!((z8 v).getD default)) (some (20)) (some (0))) none)
theorem adu (v:wg):Bs [(182,afw)] [] 134 [ZS v] = (rU v).map (kI .i64):=by
 unfold rU
 try simp only [aL,z8,aiD]
 kernel_rfl
def Nq:List KV->KR KV:=aZ PG 134 (bd (kI .i64) fun vs=>rU (SC (v9 vs 0)))
theorem NY:aY PG 134 Nq:=b8 (ah.cons agO ah.nil) aD.nil fun w=>adu (SC (g0 43 (w 0)))
def Aa (m:Le):=yq m.m
def Ab (m:Le):=rU m.t
def o9 (m:Le):Option (Int):=(cond (Aa m).isSome (cond (!((Aa m).getD default)) (some (20)) (cond (Ab m).isSome (some (((Ab m).getD default))) none)) none)
theorem WB (m:Le):Bs [(134,Nq),(181,ZZ)] [] 133 [aqd m] = (o9 m).map (kI .i64):=by
 unfold o9
 try simp only [aL]
 kernel_rfl
def NZ:List KV->KR KV:=aZ PG 133 (bd (kI .i64) fun vs=>o9 (ame (v9 vs 0)))
theorem Ui:aY PG 133 NZ:=b8 (ah.cons NY (ah.cons adt ah.nil)) aD.nil fun w=>WB (ame (g0 45 (w 0)))
structure mO where
 l:(Sl Int)
 t2:Bool
 last:Int
 t6:(Sl Int)
 t7:Int
 t8:Int
instance:Inhabited mO:=⟨by constructor<;>exact default⟩
def Ea (x:mO):List KV:=[dc 3 (kI .i64) x.l,.bool x.t2,.int .i64 x.last,dc 3 (kI .i64) x.t6,.int .i64 x.t7,.int .i64 x.t8]
def Eb (x:mO):List (List KV):=[]
def N1 (vs:List KV) (rs:List (List KV)):mO:=⟨cT av (v9 vs 0),cK (v9 vs 1),av (v9 vs 2),cT av (v9 vs 3),av (v9 vs 4),av (v9 vs 5)⟩
def Qc:aB:=⟨[(0,w9 (n9 3)),(2,w9 b9),(3,w9 i9),(6,w9 (n9 3)),(7,w9 i9),(8,w9 i9)],[],[]⟩
def aao:=JL [] [] 135 58 Qc
def iI (x:mO):ax mO:=(cond (decide (x.t8 < x.t7)) (cond ((decide (0<=x.t8))&&(decide (x.t8 < (x.t6.n:Int)))) (cond (decide ((x.t6.get (Int.toNat x.t8)) < x.last)) (.out aq.ae.ret ⟨x.l,false,x.last,x.t6,x.t7,x.t8⟩) (cond (decide ((x.t6.get (Int.toNat x.t8)) > 8192)) (.out aq.ae.ret ⟨x.l,false,x.last,x.t6,x.t7,x.t8⟩) (.next ⟨x.l,x.t2,(x.t6.get (Int.toNat x.t8)),x.t6,x.t7,(aV (x.t8+1))⟩))) .fail) (.out (aq.ae.exit 0) x))
theorem WC (x:mO):aao (Ea x) (Eb x)=ax.enc Ea Eb (iI x):=by
 unfold iI
 try simp only [ax.aO]
 kernel_rfl
def Qd:Lp:=⟨135,58,Qc,fun vs rs=>bU Ea Eb (goN iI (N1 vs rs)) [aq.ae.exit 0,aq.ae.ret],false⟩
theorem aap:Qd.Ok PG:=kv ah.nil aD.nil (pa:=N1) WC
def wq (l:(Sl Int)):=goN iI ⟨l,false,0,l,(l.n:Int),0⟩
def yr (l:(Sl Int)):Option (Bool):=(cond ((wq l).by (aq.ae.exit 0)) (some ((decide (((wq l).st.l.n:Int)<=16)))) (cond ((wq l).by aq.ae.ret) (some ((wq l).st.t2)) none))
theorem aer (l:(Sl Int)):Bs [] [Qd] 135 [(dc 3 (kI .i64)) l] = (yr l).map kB:=by
 unfold yr
 try simp only [aL]
 kernel_rfl
def Z0:List KV->KR KV:=aZ PG 135 (bd kB fun vs=>yr ((cT av) (v9 vs 0)))
theorem adv:aY PG 135 Z0:=b8 ah.nil (fv aap aD.nil) fun w=>aer ((cT av) (g0 36 (w 0)))
def Ec (n:Node):=o9 n.fG
def Ed (n:Node):=rU n.fH
def Ee (n:Node):=yr n.lO
def sM (n:Node):Option (Node×Bool):=(cond (n.kind==1) (some (⟨n.kind,⟨⟨⟨0,0,0⟩,⟨0,0,0⟩,⟨0,0,0⟩⟩,⟨0,0,0⟩⟩,0,⟨0,0,0⟩,⟨0,(fun i=>0)⟩,0,n.bB⟩,true)) (cond (n.kind==2) (cond (Ec n).isSome (some (⟨n.kind,n.fG,0,⟨0,0,0⟩,⟨0,(fun i=>0)⟩,0,n.bB⟩,(((Ec n).getD default)==0))) none) (cond (n.kind==3) (some (⟨n.kind,⟨⟨⟨0,0,0⟩,⟨0,0,0⟩,⟨0,0,0⟩⟩,⟨0,0,0⟩⟩,n.s6,⟨0,0,0⟩,⟨0,(fun i=>0)⟩,0,n.bB⟩,true)) (cond (n.kind==4) (cond (Ed n).isSome (cond (((Ed n).getD default)==0) (cond (Ee n).isSome (some (⟨n.kind,⟨⟨⟨0,0,0⟩,⟨0,0,0⟩,⟨0,0,0⟩⟩,⟨0,0,0⟩⟩,0,n.fH,n.lO,0,n.bB⟩,((Ee n).getD default))) none) (some (⟨n.kind,⟨⟨⟨0,0,0⟩,⟨0,0,0⟩,⟨0,0,0⟩⟩,⟨0,0,0⟩⟩,0,n.fH,n.lO,0,n.bB⟩,false))) none) (cond (n.kind==5) (some (⟨n.kind,⟨⟨⟨0,0,0⟩,⟨0,0,0⟩,⟨0,0,0⟩⟩,⟨0,0,0⟩⟩,0,⟨0,0,0⟩,⟨0,(fun i=>0)⟩,n.sq,n.bB⟩,true)) (some (⟨n.kind,⟨⟨⟨0,0,0⟩,⟨0,0,0⟩,⟨0,0,0⟩⟩,⟨0,0,0⟩⟩,0,⟨0,0,0⟩,⟨0,(fun i=>0)⟩,0,n.bB⟩,false)))))))
theorem aaq (n:Node):Bs [(135,Z0),(134,Nq),(133,NZ)] [] 79 [uh n] = (sM n).map (fun (r:Node×Bool)=>KV.jV [uh r.1,kB r.2]):=by
 unfold sM
 try simp only [aL]
 kernel_rfl
def SP:List KV->KR KV:=aZ PG 79 (bd (fun (r:Node×Bool)=>KV.jV [uh r.1,kB r.2]) fun vs=>sM (nV (v9 vs 0)))
theorem YD:aY PG 79 SP:=b8 (ah.cons adv (ah.cons NY (ah.cons Ui ah.nil))) aD.nil fun w=>aaq (nV (g0 77 (w 0)))
structure fK where
 s1:(Sl Int)
 s2:(Sl Int)
 t4:Bool
 t12:Int
 t13:Int
instance:Inhabited fK:=⟨⟨default,default,default,default,default⟩⟩
def qV (x:fK):List KV:=[dc 3 (kI .i64) x.s1,dc 3 (kI .i64) x.s2,.bool x.t4,.int .i64 x.t12,.int .i64 x.t13]
def qW (x:fK):List (List KV):=[]
def yu (vs:List KV) (rs:List (List KV)):fK:=⟨cT av (v9 vs 0),cT av (v9 vs 1),cK (v9 vs 2),av (v9 vs 3),av (v9 vs 4)⟩
def Ac:aB:=⟨[(0,w9 (n9 3)),(1,w9 (n9 3)),(4,w9 b9),(12,w9 i9),(13,w9 i9)],[],[]⟩
def LF:=JL [] [] 127 58 Ac
def dA (x:fK):ax fK:=(cond (decide (x.t13 < x.t12)) (cond ((decide (0<=x.t13))&&(decide (x.t13 < (x.s1.n:Int)))) (cond ((decide (0<=x.t13))&&(decide (x.t13 < (x.s2.n:Int)))) (cond ((x.s1.get (Int.toNat x.t13)) != (x.s2.get (Int.toNat x.t13))) (.out aq.ae.ret ⟨x.s1,x.s2,false,x.t12,x.t13⟩) (.next ⟨x.s1,x.s2,x.t4,x.t12,(aV (x.t13+1))⟩)) .fail) .fail) (.out (aq.ae.exit 0) x))
theorem HW (x:fK):LF (qV x) (qW x)=ax.enc qV qW (dA x):=by
 unfold dA
 try simp only [ax.aO]
 kernel_rfl
def Ad:Lp:=⟨127,58,Ac,fun vs rs=>bU qV qW (goN dA (yu vs rs)) [aq.ae.exit 0,aq.ae.ret],false⟩
theorem LG:Ad.Ok PG:=kv ah.nil aD.nil (pa:=yu) HW
def oS (s1:(Sl Int)) (s2:(Sl Int)):=goN dA ⟨s1,s2,false,(s1.n:Int),0⟩
def lq (s1:(Sl Int)) (s2:(Sl Int)):Option (Bool):=(cond ((s1.n:Int) != (s2.n:Int)) (some (false)) (cond ((oS s1 s2).by (aq.ae.exit 0)) (some (true)) (cond ((oS s1 s2).by aq.ae.ret) (some ((oS s1 s2).st.t4)) none)))
theorem OI (s1:(Sl Int)) (s2:(Sl Int)):Bs [] [Ad] 127 [(dc 3 (kI .i64)) s1,(dc 3 (kI .i64)) s2] = (lq s1 s2).map kB:=by
 unfold lq
 try simp only [aL]
 kernel_rfl
def Fe:List KV->KR KV:=aZ PG 127 (bd kB fun vs=>lq ((cT av) (v9 vs 0)) ((cT av) (v9 vs 1)))
theorem Nr:aY PG 127 Fe:=b8 ah.nil (fv LG aD.nil) fun w=>OI ((cT av) (g0 36 (w 0))) ((cT av) (g0 36 (w 1)))
def Hw (a:Node) (b:Node):=lq a.lO b.lO
def rV (a:Node) (b:Node):Option (Bool):=(cond (a.kind==b.kind) (cond ((a.fG.m.e0.e0==b.fG.m.e0.e0)&&((a.fG.m.e0.e1==b.fG.m.e0.e1)&&((a.fG.m.e0.e2==b.fG.m.e0.e2)&&((a.fG.m.e1.e0==b.fG.m.e1.e0)&&((a.fG.m.e1.e1==b.fG.m.e1.e1)&&((a.fG.m.e1.e2==b.fG.m.e1.e2)&&((a.fG.m.e2.e0==b.fG.m.e2.e0)&&((a.fG.m.e2.e1==b.fG.m.e2.e1)&&((a.fG.m.e2.e2==b.fG.m.e2.e2)&&((a.fG.t.x==b.fG.t.x)&&((a.fG.t.y==b.fG.t.y)&&((a.fG.t.z==b.fG.t.z)&&true)))))))))))) (cond (a.s6==b.s6) (cond ((a.fH.x==b.fH.x)&&((a.fH.y==b.fH.y)&&((a.fH.z==b.fH.z)&&true))) (cond (Hw a b).isSome (cond ((Hw a b).getD default) (cond (a.sq==b.sq) (some (((a.bB.aU.e0==b.bB.aU.e0)&&((a.bB.aU.e1==b.bB.aU.e1)&&((a.bB.aU.e2==b.bB.aU.e2)&&((a.bB.aU.e3==b.bB.aU.e3)&&((a.bB.aU.e4==b.bB.aU.e4)&&((a.bB.look.color.e0==b.bB.look.color.e0)&&((a.bB.look.color.e1==b.bB.look.color.e1)&&((a.bB.look.color.e2==b.bB.look.color.e2)&&((a.bB.look.color.e3==b.bB.look.color.e3)&&((a.bB.look.ca==b.bB.look.ca)&&((a.bB.look.gW==b.bB.look.gW)&&((a.bB.look.gq==b.bB.look.gq)&&((a.bB.look.eH==b.bB.look.eH)&&((a.bB.look.bin==b.bB.look.bin)&&true)))))))))))))))) (some (false))) (some (false))) none) (some (false))) (some (false))) (some (false))) (some (false)))
theorem adw (a:Node) (b:Node):Bs [(127,Fe)] [] 76 [uh a,uh b] = (rV a b).map kB:=by
 unfold rV
 try simp only [aL]
 kernel_rfl
def vl:List KV->KR KV:=aZ PG 76 (bd kB fun vs=>rV (nV (v9 vs 0)) (nV (v9 vs 1)))
theorem sB:aY PG 76 vl:=b8 (ah.cons Nr ah.nil) aD.nil fun w=>adw (nV (g0 77 (w 0))) (nV (g0 77 (w 1)))
def qq (s:aw) (n:Node):=sM n
def vK (s:aw) (n:Node):=rV ((qq s n).getD default).fst n
def vL (s:aw) (n:Node):=ny n.bB
def pE (s:aw) (n:Node):Option (Int):=(cond (n.bB.aU.e1 != 0) (cond (decide (n.bB.look.ca >= (s.az.n:Int))) (some (8)) (some (0))) (some (0)))
def nm (s:aw) (n:Node):Option (Int):=(cond (qq s n).isSome (cond (!((qq s n).getD default).snd) (some (8)) (cond (vK s n).isSome (cond (!((vK s n).getD default)) (some (8)) (cond (vL s n).isSome (cond (((vL s n).getD default) != 0) (some (8)) (cond (n.kind==5) (cond (decide (n.sq < 0)) (some (8)) (cond (decide (n.sq >= (s.ay.n:Int))) (some (8))
      (pE s n)))
     (pE s n))) none)) none)) none)
theorem RW (s:aw) (n:Node):Bs [(80,wO),(76,vl),(79,SP)] [] 27 [iG s,uh n] = (nm s n).map (kI .i64):=by
 unfold nm pE
 try simp only [aL]
 kernel_rfl
def pF:List KV->KR KV:=aZ PG 27 (bd (kI .i64) fun vs=>nm (de (v9 vs 0)) (nV (v9 vs 1)))
theorem pG:aY PG 27 pF:=b8 (ah.cons xA (ah.cons sB (ah.cons YD ah.nil))) aD.nil fun w=>RW (de (g0 34 (w 0))) (nV (g0 77 (w 1)))
structure bD where
 s:(Sl dm)
 t4:Int
 t7:Int
 t8:Int
instance:Inhabited bD:=⟨⟨default,default,default,default⟩⟩
def hO (x:bD):List KV:=[dc 88 xw x.s,.fn (.func 69) [] [],.int .i64 x.t4,.int .i64 x.t7,.int .i64 x.t8]
def hQ (x:bD):List (List KV):=[]
def lF (vs:List KV) (rs:List (List KV)):bD:=⟨cT nW (v9 vs 0),av (v9 vs 2),av (v9 vs 3),av (v9 vs 4)⟩
def mg:aB:=⟨[(0,w9 (n9 88)),(1,⟨false,[.lit (.fn (.func 69) [] [])]⟩),(4,w9 i9),(7,w9 i9),(8,w9 i9)],[],[]⟩
def sC:=JL [(77,ue),(27,pF),(76,vl),(73,um),(72,qU),(70,wo)] [] 125 26 mg
def gS (x:bD):=sL (x.s.get (Int.toNat x.t8))
def bL (x:bD):ax bD:=(cond (decide (x.t8 < x.t7)) (cond ((decide (0<=x.t8))&&(decide (x.t8 < (x.s.n:Int)))) (cond (gS x).isSome (cond (((gS x).getD default) != 0) (.out aq.ae.ret ⟨x.s,x.t8,x.t7,x.t8⟩) (.next ⟨x.s,x.t4,x.t7,(aV (x.t8+1))⟩)) .fail) .fail) (.out (aq.ae.exit 0) x))
theorem ri (x:bD):sC (hO x) (hQ x)=ax.enc hO hQ (bL x):=by
 unfold bL
 try simp only [ax.aO]
 kernel_rfl
def fh:Lp:=⟨125,26,mg,fun vs rs=>bU hO hQ (goN bL (lF vs rs)) [aq.ae.exit 0,aq.ae.ret],false⟩
theorem hX:fh.Ok PG:=kv (ah.cons pA (ah.cons pG (ah.cons sB (ah.cons tz (ah.cons qp (ah.cons vj ah.nil)))))) aD.nil (pa:=lF) ri
structure bF where
 s:(Sl cN)
 t4:Int
 t7:Int
 t8:Int
instance:Inhabited bF:=⟨⟨default,default,default,default⟩⟩
def hY (x:bF):List KV:=[dc 91 jN x.s,.fn (.func 71) [] [],.int .i64 x.t4,.int .i64 x.t7,.int .i64 x.t8]
def hZ (x:bF):List (List KV):=[]
def lG (vs:List KV) (rs:List (List KV)):bF:=⟨cT fj (v9 vs 0),av (v9 vs 2),av (v9 vs 3),av (v9 vs 4)⟩
def mh:aB:=⟨[(0,w9 (n9 91)),(1,⟨false,[.lit (.fn (.func 71) [] [])]⟩),(4,w9 i9),(7,w9 i9),(8,w9 i9)],[],[]⟩
def sD:=JL [(77,ue),(27,pF),(76,vl),(73,um),(72,qU),(70,wo)] [fh] 126 26 mh
def gT (x:bF):=ot (x.s.get (Int.toNat x.t8))
def bM (x:bF):ax bF:=(cond (decide (x.t8 < x.t7)) (cond ((decide (0<=x.t8))&&(decide (x.t8 < (x.s.n:Int)))) (cond (gT x).isSome (cond (((gT x).getD default) != 0) (.out aq.ae.ret ⟨x.s,x.t8,x.t7,x.t8⟩) (.next ⟨x.s,x.t4,x.t7,(aV (x.t8+1))⟩)) .fail) .fail) (.out (aq.ae.exit 0) x))
theorem rj (x:bF):sD (hY x) (hZ x)=ax.enc hY hZ (bM x):=by
 unfold bM
 try simp only [ax.aO]
 kernel_rfl
def iz:Lp:=⟨126,26,mh,fun vs rs=>bU hY hZ (goN bM (lG vs rs)) [aq.ae.exit 0,aq.ae.ret],false⟩
theorem lH:iz.Ok PG:=kv (ah.cons pA (ah.cons pG (ah.cons sB (ah.cons tz (ah.cons qp (ah.cons vj ah.nil)))))) (fv hX aD.nil) (pa:=lG) rj
structure eo where
 t2:Int
 t46:(Sl Node)
 t47:Int
 t48:Int
 s:aw
instance:Inhabited eo:=⟨⟨default,default,default,default,default⟩⟩
def xL (x:eo):List KV:=[.int .i64 x.t2,dc 77 uh x.t46,.int .i64 x.t47,.int .i64 x.t48]
def xM (x:eo):List (List KV):=[iE x.s]
def Hx (vs:List KV) (rs:List (List KV)):eo:=⟨av (v9 vs 0),cT nV (v9 vs 1),av (v9 vs 2),av (v9 vs 3),iH (r9 rs 0)⟩
def I0:aB:=⟨[(2,w9 i9),(46,w9 (n9 77)),(47,w9 i9),(48,w9 i9)],[(1,[n9 111,n9 35,n9 77,n9 88,n9 91,i9,i9],1)],[(1,0,0)]⟩
def Uj:=JL [(77,ue),(27,pF),(76,vl),(73,um),(72,qU),(70,wo)] [fh,iz] 25 250 I0
def vM (x:eo):=rV (x.t46.get (Int.toNat x.t48)) ⟨0,⟨⟨⟨0,0,0⟩,⟨0,0,0⟩,⟨0,0,0⟩⟩,⟨0,0,0⟩⟩,0,⟨0,0,0⟩,⟨0,(fun i=>0)⟩,0,⟨⟨0,0,0,0,0⟩,⟨⟨0,0,0,0⟩,0,0,0,false,0⟩⟩⟩
def vN (x:eo):=nm x.s (x.t46.get (Int.toNat x.t48))
def kz (x:eo):ax eo:=(cond ((decide (0<=x.t48))&&(decide (x.t48 < (x.s.graph.bu.aP.n:Int)))) (cond (x.s.graph.bu.aP.get (Int.toNat x.t48)).live (cond (vN x).isSome (cond (((vN x).getD default) != 0) (.out aq.ae.ret ⟨8,x.t46,x.t47,x.t48,x.s⟩) (cond ((x.t46.get (Int.toNat x.t48)).kind==5) (cond ((decide (0<=x.t48))&&(decide (x.t48 < (x.s.graph.kids.n:Int)))) (cond (decide (((x.s.graph.kids.get (Int.toNat x.t48)).n:Int) > 0)) (.out aq.ae.ret ⟨8,x.t46,x.t47,x.t48,x.s⟩) (.next ⟨x.t2,x.t46,x.t47,(aV (x.t48+1)),x.s⟩)) .fail) (.next ⟨x.t2,x.t46,x.t47,(aV (x.t48+1)),x.s⟩))) .fail) (.next ⟨x.t2,x.t46,x.t47,(aV (x.t48+1)),x.s⟩)) .fail)
def fL (x:eo):ax eo:=(cond (decide (x.t48 < x.t47)) (cond ((decide (0<=x.t48))&&(decide (x.t48 < (x.t46.n:Int)))) (cond ((decide (0<=x.t48))&&(decide (x.t48 < (x.s.graph.bu.aP.n:Int)))) (cond (!(x.s.graph.bu.aP.get (Int.toNat x.t48)).live) (cond (vM x).isSome (cond (!((vM x).getD default)) (.out aq.ae.ret ⟨8,x.t46,x.t47,x.t48,x.s⟩)
    (kz x)) .fail)
   (kz x)) .fail) .fail) (.out (aq.ae.exit 0) x))
theorem Qe (x:eo):Uj (xL x) (xM x)=ax.enc xL xM (fL x):=by
 unfold fL kz
 try simp only [ax.aO]
 kernel_rfl
def I1:Lp:=⟨25,250,I0,fun vs rs=>bU xL xM (goN fL (Hx vs rs)) [aq.ae.exit 0,aq.ae.ret],false⟩
theorem Uk:I1.Ok PG:=kv (ah.cons pA (ah.cons pG (ah.cons sB (ah.cons tz (ah.cons qp (ah.cons vj ah.nil)))))) (fv hX (fv lH aD.nil)) (pa:=Hx) Qe
def Ef (s:aw):=Hq s.graph
def wW (s:aw):=goN bL ⟨s.ay,0,(s.ay.n:Int),0⟩
def wX (s:aw):=goN bM ⟨s.az,0,(s.az.n:Int),0⟩
def lI (s:aw):=goN fL ⟨0,s.nodes,(s.nodes.n:Int),0,s⟩
def Eg (s:aw):=dr (lI s).st.s.graph.bu (lI s).st.s.root
def vm (s:aw):Option (Int):=(cond ((lI s).by (aq.ae.exit 0)) (cond (!(((lI s).st.s.root.slot==0)&&(((lI s).st.s.root.gen==0)&&true))) (cond (Eg s).isSome (cond (!((Eg s).getD default)) (some (8)) (some (0))) none) (some (0))) (cond ((lI s).by aq.ae.ret) (some ((lI s).st.t2)) none))
def vo (s:aw):Option (Int):=(cond (decide ((s.az.n:Int) > 16)) (some (8)) (cond ((wX s).by (aq.ae.exit 0))
  (vm s) (cond ((wX s).by aq.ae.ret) (cond (decide ((wX s).st.t4 >= 0)) (some (8))
   (vm s)) none)))
def pW (s:aw):Option (Int):=(cond (Ef s).isSome (cond (((Ef s).getD default) != 0) (some (8)) (cond ((s.nodes.n:Int) != (s.graph.kids.n:Int)) (some (8)) (cond (decide ((s.ay.n:Int) > 32)) (some (8)) (cond ((wW s).by (aq.ae.exit 0))
    (vo s) (cond ((wW s).by aq.ae.ret) (cond (decide ((wW s).st.t4 >= 0)) (some (8))
     (vo s)) none))))) none)
theorem aar (s:aw):Bs [(77,ue),(27,pF),(76,vl),(73,um),(72,qU),(70,wo)] [I1,fh,iz] 25 [iG s] = (pW s).map (kI .i64):=by
 unfold pW vo vm
 try simp only [aL]
 kernel_rfl
def J7:List KV->KR KV:=aZ PG 25 (bd (kI .i64) fun vs=>pW (de (v9 vs 0)))
theorem LH:aY PG 25 J7:=b8 (ah.cons pA (ah.cons pG (ah.cons sB (ah.cons tz (ah.cons qp (ah.cons vj ah.nil)))))) (fv Uk (fv hX (fv lH aD.nil))) fun w=>aar (de (g0 34 (w 0)))
def I2:List (Nat×(List KV->KR KV)):=[]
def I3:List Lp:=[]
theorem RX:ah Tryz.prog I2:=ah.nil
theorem RY:aD Tryz.prog I3:=aD.nil
def B7 (s:(Sl Int)):Option ((Sl Int)):=(cond (Nat.blt 0 s.n) (cond ((Nat.blt 0 s.n)&&(fC 8 0 s.n)) (some (((Sl.lit []).join s))) none) none)
theorem Ul (s:(Sl Int)):xh Tryz.prog (mn Tryz.prog I2 I3 (fun _=>false)) 9 9 98 [(dc 3 (kI .i64)) s] = (B7 s).map (dc 3 (kI .i64)):=by
 unfold B7
 try simp only [aL,afu,aiD,aox]
 kernel_rfl
def YE:List KV->KR KV:=aZ Tryz.prog 98 (bd (dc 3 (kI .i64)) fun vs=>B7 ((cT av) (vs.getD 0 .bA)))
theorem Ff (w:Nat->KV):rO Tryz.prog [36] w 0 = [(dc 3 (kI .i64)) ((cT av) (eE Tryz.prog (bI Tryz.prog dx) 36 (w 0)))]:=by kernel_rfl
theorem RZ:aY Tryz.prog 98 YE:=ZO funcs mixed RX RY (L:=9) (n:=9) fun w=>by
 have e:cn Tryz.prog 98 = [36]:=by kernel_rfl
 rw [e,Ff]
 exact (Ul ((cT av) (eE Tryz.prog (bI Tryz.prog dx) 36 (w 0)))).trans (by kernel_rfl)
end
end Go.Proofs.YtckbdndhmcoihaaGreat.b
end
section
namespace Go.K
open Go Go.aq
variable {P:Program} {E:Env}
theorem am6 {t e:TypeId} {i:TypeInfo} (h:P.underlying t=some (.slice e)) (hi:P.info? e=some i) (b:Addr) (a:Option Addr) (c:Nat) (w:World):(Builtin.append_ #[t,t] t #[.slice (some b) 0 0,.slice a 0 c]).run P w = .ok (.slice (some b) 0 0) w:=by
 cases a <;> simp [Builtin.append_,aq.bw h,sizeOf,typeInfo,hi,Builtin.lenOf,Builtin.firstCells,loadCells,loadCellsFrom,storeCells]
structure afx (P:Program) (g:FuncId) (e:TypeId):Prop where
 nil:∀ c w,Calls P g #[.slice none 0 c] w fun r w'=>r = .returned (.slice none 0 0)/\w' = w
 some:∀ a c w,Calls P g #[.slice (some a) 0 c] w fun r w'=>r = .returned (.slice (some ⟨w.heap.size,0,none⟩) 0 0)/\w' = w.alloc (.cells #[] e)
def Dt {α:Type} (b:Nat) (s:Sl α):Option (Sl α):=cond (fC b 0 s.n) (some s) none
theorem Sl.am7 {α:Type} [Inhabited α] (s:Sl α):(Sl.lit []).join s=s:=by
 cases s with
 | mk n f=>
  unfold Sl.join Sl.lit;simp only [List.length_nil,bp];congr 1
theorem VK.aoM {T:TypeId} {a:Option Addr} {acc:Nat->KV} (h:Vk E (bf P T) a 0 []):VK P E (.ts T .any 0 [] acc) (.slice a 0 0):=by
 simp only [VK];exact ⟨⟨rfl,fun i hi=>absurd hi (kA _),rfl⟩,[],.nil,a,0,rfl,aH _,h,trivial⟩
theorem aiX {g:FuncId} {T t:TypeId} {b:Nat} {α:Type} {k:α->KV} {p:KV->α} {f1:Sl α->Option (Sl α)} [Inhabited α] (hn:afx P g T) (ht:cn P g = [t]) (hf:∀ s,f1 s=cond (Nat.blt 0 s.n) (cond (Nat.blt 0 s.n&&fC b 0 s.n) (some ((Sl.lit []).join s)) none) none)
  (aqS:∀ w,rO P [t] w 0 = [dc T k (cT p (eE P (bI P dx) t (w 0)))]) (h1:aY P g (aZ P g (bd (dc T k) fun vs=>f1 (cT p (vs.getD 0 .bA))))) (hc:yf P g) :
  aY P g (aZ P g (bd (dc T k) fun vs=>Dt b (cT p (vs.getD 0 .bA)))):=by
 intro args v hF hlen;refine ⟨hc,?_⟩;have hF0:=hF;unfold aZ at hF;obtain ⟨hb,hF⟩:=aK.cond hF;obtain ⟨ww,hw⟩:=M4 0 hb;rw [ht] at hw;rw [aqS] at hw;rw [ht,hw] at hF;unfold bd at hF;obtain ⟨h2,h3⟩:=aK.jt hF;have es:(([dc T k (cT p (eE P (bI P dx) t (ww 0)))] : List KV).getD 0 .bA)=dc T k (cT p (eE P (bI P dx) t (ww 0))):=rfl;have h2:(Dt b (cT p (([dc T k (cT p (eE P (bI P dx) t (ww 0)))] : List KV).getD 0 .bA))).isSome=true:=h2;have h3:dc T k ((Dt b (cT p (([dc T k (cT p (eE P (bI P dx) t (ww 0)))] : List KV).getD 0 .bA))).getD default)=v:=h3;rw [es] at h2 h3;generalize hs:cT p (dc T k (cT p (eE P (bI P dx) t (ww 0))))=s at h2 h3;cases hq:Nat.blt 0 s.n with
 | true=>
  have:aK (aZ P g (bd (dc T k) fun vs=>f1 (cT p (vs.getD 0 .bA))) (normArgs P (cn P g) args)) v:=by
   unfold aZ;rw [hb,aj,ht,hw];show aK (KR.jt (f1 (cT p (([dc T k (cT p (eE P (bI P dx) t (ww 0)))] : List KV).getD 0 .bA))).isSome (dc T k ((f1 (cT p (([dc T k (cT p (eE P (bI P dx) t (ww 0)))] : List KV).getD 0 .bA))).getD default))) v;rw [es,hs,hf,hq];unfold Dt at h2 h3;cases ha:fC b 0 s.n with
   | false=>rw [ha] at h2; simp at h2
   | true=>
    rw [ha] at h3;simp only [cg,aj,Sl.am7];exact ⟨rfl,h3⟩
  exact (h1 args v this hlen).2
 | false=>
  have hz:s.n=0:=by
   apply Classical.byContradiction;intro hk;have:Nat.blt 0 s.n=true:=by rw [bO]; omega
   rw [hq] at this;simp at this
  have hv0:v = .ts T .any 0 [] fun i=>k (s.get i):=by
   have ha:fC b 0 s.n=true:=by
    unfold Dt at h2;cases ha:fC b 0 s.n with
    | true=>rfl
    | false=>rw [ha] at h2; simp at h2
   rw [<- h3];unfold Dt;rw [ha];show dc T k s=_;unfold dc;rw [hz];rfl
  intro E A B ρ base w eV hv hj;have Gn:qc P E ρ (normArgs P (cn P g) args) eV:=by
   obtain ⟨m,h1,h2⟩:=hv;exact ⟨m,ba.Py (.of rfl) h1 hlen,h2⟩
  rw [ht,hw] at Gn;obtain ⟨u,us,rfl,hu,OW⟩:=Gn.Wu;obtain rfl:=OW.agM;have hn0:(cT p (eE P (bI P dx) t (ww 0))).n=0:=(congrArg Sl.n hs).trans hz;unfold dc at hu;rw [hn0] at hu;obtain ⟨u',hk,hr⟩:=hu;obtain ⟨_,bo,_,a,cap,rfl,_,_,_⟩:=hk.jY;subst hv0;cases a with
  | none=>
   rw [hr.fB];refine (hn.nil cap w).mono ?_;rintro r w' ⟨rfl,rfl⟩;exact ⟨_,E,B,ρ,rfl,⟨.slice none 0 0,VK.aoM (.inl ⟨rfl,rfl⟩),by simp [VR]⟩,.refl hj.k hj.s⟩
  | some a=>
   obtain ⟨_,_,_,a',c',_,_,_,_,rfl⟩:=hr.j7;refine (hn.some a' c' w).mono ?_;rintro r w' ⟨rfl,rfl⟩;have g:=R3 (cs:=[]) (c:=#[]) (bH:=bf P T) T hj.s (by unfold dk; rfl) (fun v hv=>by simp at hv);refine ⟨_,E.eZ B.next ⟨[],bf P T,true,none⟩,B.new (.row [] (bf P T) true none),ρ.set B.next ⟨w.heap.size,0,0,bf P T⟩,rfl,⟨.slice (some ⟨B.next,0,none⟩) 0 0,VK.aoM (.inr ⟨B.next,0,⟨[],bf P T,true,none⟩,rfl,by simp [Env.eZ],rfl,fun i x hi=>by simp at hi⟩),?_⟩,(df.ahI hj.k).ev g⟩;simp only [VR];exact ⟨trivial,aH _,⟨w.heap.size,0,0,bf P T⟩,⟨w.heap.size,0,none⟩,0,by simp [Ren.set],aH _,fun h=>absurd rfl h,by simp,rfl⟩
end Go.K
end
section
set_option maxRecDepth 20000
namespace Go.Proofs.YtckbdndhmcoihaaGreat.b
open Go Go.RowKit Go.Lib Go.Shelf Go.K
noncomputable section
set_option maxHeartbeats 4000000 in
theorem aes:afx Tryz.prog 98 3:=by
 have mixed:=nodes.FW;have t36:=Tryz.underlying36; have a36:=Tryz.isAgg36; have z36:=Tryz.sizeOf36; have v36:=Tryz.zeroValue36; have u36:=run_underlying Tryz.underlying36;have t3:=Tryz.underlying3; have a3:=Tryz.isAgg3; have z3:=Tryz.sizeOf3; have v3:=Tryz.zeroValue3; have u3:=run_underlying Tryz.underlying3;have h1:=fun (a:Option Addr) (n c:Nat) (w:World)=>Lib.run_eql_slice_nil (P:=Tryz.prog) w 36 3 a n c 0 0 Tryz.underlying36;have h2:=fun b=>am6 Tryz.underlying36 (show Tryz.prog.info? 3=some _ from rfl) b;refine ⟨fun c w=>?_,fun a c w=>?_⟩
 ·go_enter Tryz.func98,Tryz.ntmps98
  go_wp2
  go_ret
  exact ⟨rfl,rfl⟩
 ·go_enter Tryz.func98,Tryz.ntmps98
  go_wp2
  go_ret
  exact ⟨rfl,rfl⟩
def rW (s:(Sl Int)):Option (Sl Int):=Dt 8 s
def xN:List KV->KR KV:=aZ Tryz.prog 98 (bd (dc 3 (kI .i64)) fun vs=>rW ((cT av) (vs.getD 0 .bA)))
theorem AU:aY Tryz.prog 98 xN:=aiX (b:=8) aes (by kernel_rfl) (fun _=>rfl) Ff RZ ⟨by kernel_rfl,_,Tryz.func98,rfl,by kernel_rfl⟩
set_option maxHeartbeats 4000000 in
set_option maxHeartbeats 4000000 in
set_option maxHeartbeats 4000000 in
set_option maxHeartbeats 4000000 in
end
end Go.Proofs.YtckbdndhmcoihaaGreat.b
end
