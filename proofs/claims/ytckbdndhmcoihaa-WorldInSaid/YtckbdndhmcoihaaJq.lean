/- Part of the proof of WorldIn: the machine, shown to be the model's, and plain models. No conditions. -/
import Derived.Test.YtckbdndhmcoihaaIq
import Derived.Test.YtckbdndhmcoihaaHq
import Derived.Test.YtckbdndhmcoihaaGq
import Derived.Deep.RegionHeld3
set_option linter.unusedSimpArgs false
set_option linter.unusedVariables false
section
namespace Go.Proofs.Ytckbdndhmcoihaa.b
open Go.K
noncomputable section
def J1 (m:fT) (v:fe):=j2 m
def J2 (m:fT) (v:fe):=oS v
def Ee (m:fT) (v:fe):=xq m v
def Ef (m:fT) (v:fe):=oS ((Ee m v).getD default)
def rv (m:fT) (v:fe):Option (fe×Int):=(cond (J1 m v).isSome (cond (((J1 m v).getD default) != 0) (some (⟨0,0,0⟩,20)) (cond (J2 m v).isSome (cond (((J2 m v).getD default) != 0) (some (⟨0,0,0⟩,20)) (cond (Ee m v).isSome (cond (Ef m v).isSome (cond (((Ef m v).getD default) != 0) (some (⟨0,0,0⟩,((Ef m v).getD default))) (some (((Ee m v).getD default),0))) none) none)) none)) none)
theorem acE (m:fT) (v:fe):ou [(29,Og),(14,xd),(28,B9)] [] 13 [wI m,oG v] = (rv m v).map (fun (r:fe×Int)=>KV.kL [oG r.1,(kI .i64) r.2]):=by
 unfold rv
 try simp only [bG]
 kernel_rfl
def xt:List KV->KR KV:=bC PG 13 (bO (fun (r:fe×Int)=>KV.kL [oG r.1,(kI .i64) r.2]) fun vs=>rv (rE (v9 vs 0)) (ko (v9 vs 1)))
theorem tP:bB PG 13 xt:=dE (ai.cons O2 (ai.cons tM (ai.cons Cv ai.nil))) bj.nil fun w=>acE (rE (g0 54 (w 0))) (ko (g0 36 (w 1)))
def Eg (m:gE):=uT m
def J3 (m:gE):=w7 m
def Az (m:gE):Option ((Sl dj)×Int):=(cond (Eg m).isSome (cond (((Eg m).getD default) != 0) (some (⟨0,(fun i=>⟨0,0,0⟩)⟩,((Eg m).getD default))) (cond (J3 m).isSome (some (((J3 m).getD default).fst,0)) none)) none)
theorem acF (m:gE):ou [(58,D1),(41,yk)] [] 37 [uR m] = (Az m).map (fun (r:(Sl dj)×Int)=>KV.kL [(dq 51 eQ) r.1,(kI .i64) r.2]):=by
 unfold Az
 try simp only [bG]
 kernel_rfl
def Im:List KV->KR KV:=bC PG 37 (bO (fun (r:(Sl dj)×Int)=>KV.kL [(dq 51 eQ) r.1,(kI .i64) r.2]) fun vs=>Az (kX (v9 vs 0)))
theorem G8:bB PG 37 Im:=dE (ai.cons B6 (ai.cons v7 ai.nil)) bj.nil fun w=>acF (kX (g0 79 (w 0)))
def Cc  : Option (cQ):=(some ((⟨(⟨(⟨(255:Int),(255:Int),(255:Int),(255:Int)⟩:Color),(-(1:Int)),(0:Int),(0:Int),false,(0:Int)⟩:kq),(⟨false,false,false,false,false⟩:rX)⟩:cQ)))
theorem Ww  : ou [] [] 59 [] = (Cc ).map jK:=by
 unfold Cc
 kernel_rfl
def G9:List KV->KR KV:=bC PG 59 (bO jK fun vs=>Cc )
theorem J4:bB PG 59 G9:=dE ai.nil bj.nil fun w=>Ww
structure gQ where
 t3:Int
 t13:(Sl dv)
 t14:Int
 t15:Int
 t2:kq
 i:cQ
instance:Inhabited gQ:=⟨by constructor<;>exact default⟩
def zt (x:gQ):List KV:=[.int .i64 x.t3,dq 62 oQ x.t13,.int .i64 x.t14,.int .i64 x.t15]
def zu (x:gQ):List (List KV):=[ai0 x.t2,RE x.i]
def Gm (vs:List KV) (rs:List (List KV)):gQ:=⟨aq (v9 vs 0),dM iB (v9 vs 1),aq (v9 vs 2),aq (v9 vs 3),ai1 (r9 rs 0),RF (r9 rs 1)⟩
def Hv:aJ:=⟨[(3,w9 i9),(13,w9 (n9 62)),(14,w9 i9),(15,w9 i9)],[(2,[u9,u9,u9,u9,i9,u9,i9,b9,i9],1),(4,[u9,u9,u9,u9,i9,u9,i9,b9,i9,b9,b9,b9,b9,b9],1)],[(2,0,0),(4,1,0)]⟩
def QO:=AP [(61,GS),(60,B4),(59,G9)] [] 38 122 Hv
def si (x:gQ):=qF (x.t13.get (Int.toNat x.t15))
def yG (x:gQ):=tK x.i (x.t13.get (Int.toNat x.t15))
def iD (x:gQ):aW gQ:=(cond (decide (x.t15 < x.t14)) (cond ((decide (0<=x.t15))&&(decide (x.t15 < (x.t13.n:Int)))) (cond (si x).isSome (cond (((si x).getD default) != 0) (.out aG.ah.ret ⟨((si x).getD default),x.t13,x.t14,x.t15,⟨⟨0,0,0,0⟩,0,0,0,false,0⟩,x.i⟩) (cond (yG x).isSome (.next ⟨x.t3,x.t13,x.t14,(aK (x.t15+1)),x.t2,((yG x).getD default)⟩) .fail)) .fail) .fail) (.out (aG.ah.exit 0) x))
theorem Oo (x:gQ):QO (zt x) (zu x)=aW.enc zt zu (iD x):=by
 unfold iD
 try simp only [aW.cw]
 kernel_rfl
def Hw:Lp:=⟨38,122,Hv,fun vs rs=>dK zt zu (goN iD (Gm vs rs)) [aG.ah.exit 0,aG.ah.ret],false⟩
theorem QP:Hw.Ok PG:=Bs (ai.cons JG (ai.cons Cs (ai.cons J4 ai.nil))) bj.nil (pa:=Gm) Oo
def Eh (l:(Sl dv)):=Cc
def jB (l:(Sl dv)):=goN iD ⟨0,l,(l.n:Int),0,⟨⟨0,0,0,0⟩,0,0,0,false,0⟩,((Eh l).getD default)⟩
def tQ (l:(Sl dv)):Option (kq×Int):=(cond (decide ((l.n:Int) > 128)) (some (⟨⟨0,0,0,0⟩,0,0,0,false,0⟩,4)) (cond (Eh l).isSome (cond ((jB l).by (aG.ah.exit 0)) (some ((jB l).st.i.look,0)) (cond ((jB l).by aG.ah.ret) (some ((jB l).st.t2,(jB l).st.t3)) none)) none))
theorem Wx (l:(Sl dv)):ou [(61,GS),(60,B4),(59,G9)] [Hw] 38 [(dq 62 oQ) l] = (tQ l).map (fun (r:kq×Int)=>KV.kL [yv r.1,(kI .i64) r.2]):=by
 unfold tQ
 try simp only [bG]
 kernel_rfl
def Cd:List KV->KR KV:=bC PG 38 (bO (fun (r:kq×Int)=>KV.kL [yv r.1,(kI .i64) r.2]) fun vs=>tQ ((dM iB) (v9 vs 0)))
theorem CF:bB PG 38 Cd:=dE (ai.cons JG (ai.cons Cs (ai.cons J4 ai.nil))) (rM QP bj.nil) fun w=>Wx ((dM iB) (g0 121 (w 0)))
def C0 (n:Int):Option (Bool):=(cond (decide (n >= (-(32768:Int)))) (some ((decide (n<=32768)))) (some (false)))
theorem ahQ (n:Int):ou [] [] 62 [(kI .i64) n] = (C0 n).map kB:=by
 unfold C0
 try simp only [bG]
 kernel_rfl
def RK:List KV->KR KV:=bC PG 62 (bO kB fun vs=>C0 (aq (v9 vs 0)))
theorem Oq:bB PG 62 RK:=dE ai.nil bj.nil fun w=>ahQ (aq (g0 3 (w 0)))
structure wb where
 low:fe
 high:fe
instance:Inhabited wb:=⟨⟨default,default⟩⟩
def anI (x:wb):List KV:=[.int .i64 x.low.x,.int .i64 x.low.y,.int .i64 x.low.z,.int .i64 x.high.x,.int .i64 x.high.y,.int .i64 x.high.z]
def Et (x:wb):KV:=.agg (anI x)
def anJ (c:Nat->KV):wb:=⟨⟨aq (c 0),aq (c 1),aq (c 2)⟩,⟨aq (c 3),aq (c 4),aq (c 5)⟩⟩
def O3 (v:KV):wb:=anJ fun k=>v.cells.getD k .bh
structure Span where
 low:Int
 high:Int
instance:Inhabited Span:=⟨⟨default,default⟩⟩
structure Gn where
 e0:Span
 e1:Span
 e2:Span
instance:Inhabited Gn:=⟨⟨default,default,default⟩⟩
def alT (x:Gn):List KV:=[.int .i64 x.e0.low,.int .i64 x.e0.high,.int .i64 x.e1.low,.int .i64 x.e1.high,.int .i64 x.e2.low,.int .i64 x.e2.high]
def Yh (x:Gn):KV:=.agg (alT x)
def alU (c:Nat->KV):Gn:=⟨⟨aq (c 0),aq (c 1)⟩,⟨aq (c 2),aq (c 3)⟩,⟨aq (c 4),aq (c 5)⟩⟩
def aem (v:KV):Gn:=alU fun k=>v.cells.getD k .bh
def xu (b:wb):Option (Gn):=(some (⟨⟨b.low.x,b.high.x⟩,⟨b.low.y,b.high.y⟩,⟨b.low.z,b.high.z⟩⟩))
theorem acG (b:wb):ou [] [] 57 [Et b] = (xu b).map Yh:=by
 unfold xu
 kernel_rfl
def Ot:List KV->KR KV:=bC PG 57 (bO Yh fun vs=>xu (O3 (v9 vs 0)))
theorem O4:bB PG 57 Ot:=dE ai.nil bj.nil fun w=>acG (O3 (g0 70 (w 0)))
def Ip (s:Gn):Option (wb):=(some (⟨⟨s.e0.low,s.e1.low,s.e2.low⟩,⟨s.e0.high,s.e1.high,s.e2.high⟩⟩))
theorem acH (s:Gn):ou [] [] 86 [Yh s] = (Ip s).map Et:=by
 unfold Ip
 kernel_rfl
def Wy:List KV->KR KV:=bC PG 86 (bO Et fun vs=>Ip (aem (v9 vs 0)))
theorem ZR:bB PG 86 Wy:=dE ai.nil bj.nil fun w=>acH (aem (g0 152 (w 0)))
def uU (a:wb) (b:wb):=xu a
def uW (a:wb) (b:wb):=xu b
def SU (a:wb) (b:wb):=Ip ⟨⟨(min ((uU a b).getD default).e0.low ((uW a b).getD default).e0.low),(max ((uU a b).getD default).e0.high ((uW a b).getD default).e0.high)⟩,⟨(min ((uU a b).getD default).e1.low ((uW a b).getD default).e1.low),(max ((uU a b).getD default).e1.high ((uW a b).getD default).e1.high)⟩,⟨(min ((uU a b).getD default).e2.low ((uW a b).getD default).e2.low),(max ((uU a b).getD default).e2.high ((uW a b).getD default).e2.high)⟩⟩
def Gp (a:wb) (b:wb):Option (wb):=(cond (uU a b).isSome (cond (uW a b).isSome (cond (SU a b).isSome (some (((SU a b).getD default))) none) none) none)
theorem adt (a:wb) (b:wb):ou [(86,Wy),(57,Ot)] [] 63 [Et a,Et b] = (Gp a b).map Et:=by
 unfold Gp
 try simp only [bG]
 kernel_rfl
def Ld:List KV->KR KV:=bC PG 63 (bO Et fun vs=>Gp (O3 (v9 vs 0)) (O3 (v9 vs 1)))
theorem J5:bB PG 63 Ld:=dE (ai.cons ZR (ai.cons O4 ai.nil)) bj.nil fun w=>adt (O3 (g0 70 (w 0))) (O3 (g0 70 (w 1)))
structure lG where
 l:(Sl fe)
 e:Int
 t17:(Sl fe)
 t18:Int
 t19:Int
 b:wb
instance:Inhabited lG:=⟨by constructor<;>exact default⟩
def L4 (x:lG):List KV:=[dq 36 oG x.l,.int .i64 x.e,dq 36 oG x.t17,.int .i64 x.t18,.int .i64 x.t19]
def L5 (x:lG):List (List KV):=[anI x.b]
def SV (vs:List KV) (rs:List (List KV)):lG:=⟨dM ko (v9 vs 0),aq (v9 vs 1),dM ko (v9 vs 2),aq (v9 vs 3),aq (v9 vs 4),anJ (r9 rs 0)⟩
def Wz:aJ:=⟨[(0,w9 (n9 36)),(3,w9 i9),(17,w9 (n9 36)),(18,w9 i9),(19,w9 i9)],[(2,[i9,i9,i9,i9,i9,i9],1)],[(2,0,0)]⟩
def adu:=AP [(63,Ld),(62,RK)] [] 39 58 Wz
def J6 (x:lG):=C0 (x.t17.get (Int.toNat x.t19)).x
def J7 (x:lG):=C0 (x.t17.get (Int.toNat x.t19)).y
def J8 (x:lG):=C0 (x.t17.get (Int.toNat x.t19)).z
def rZ (x:lG):aW lG:=(.out aG.ah.ret ⟨x.l,20,x.t17,x.t18,x.t19,⟨⟨0,0,0⟩,⟨0,0,0⟩⟩⟩)
def lH (x:lG):aW lG:=(cond (decide (x.t19 < x.t18)) (cond ((decide (0<=x.t19))&&(decide (x.t19 < (x.t17.n:Int)))) (cond (J6 x).isSome (cond (!((J6 x).getD default))
   (rZ x) (cond (J7 x).isSome (cond (!((J7 x).getD default))
    (rZ x) (cond (J8 x).isSome (cond (!((J8 x).getD default))
     (rZ x) (.next ⟨x.l,x.e,x.t17,x.t18,(aK (x.t19+1)),x.b⟩)) .fail)) .fail)) .fail) .fail) (.out (aG.ah.exit 0) x))
theorem ZS (x:lG):adu (L4 x) (L5 x)=aW.enc L4 L5 (lH x):=by
 unfold lH rZ
 try simp only [aW.cw]
 kernel_rfl
def Ou:Lp:=⟨39,58,Wz,fun vs rs=>dK L4 L5 (goN lH (SV vs rs)) [aG.ah.exit 0,aG.ah.ret],false⟩
theorem SW:Ou.Ok PG:=Bs (ai.cons J5 (ai.cons Oq ai.nil)) bj.nil (pa:=SV) ZS
structure rI where
 e:Int
 t49:(Sl fe)
 t50:Int
 t51:Int
 b:wb
instance:Inhabited rI:=⟨⟨default,default,default,default,default⟩⟩
def J9 (x:rI):List KV:=[.int .i64 x.e,dq 36 oG x.t49,.int .i64 x.t50,.int .i64 x.t51]
def Ka (x:rI):List (List KV):=[anI x.b]
def QQ (vs:List KV) (rs:List (List KV)):rI:=⟨aq (v9 vs 0),dM ko (v9 vs 1),aq (v9 vs 2),aq (v9 vs 3),anJ (r9 rs 0)⟩
def SX:aJ:=⟨[(3,w9 i9),(49,w9 (n9 36)),(50,w9 i9),(51,w9 i9)],[(2,[i9,i9,i9,i9,i9,i9],1)],[(2,0,0)]⟩
def acI:=AP [(63,Ld),(62,RK)] [Ou] 39 250 SX
def Ha (x:rI):=Gp x.b ⟨(x.t49.get (Int.toNat x.t51)),(x.t49.get (Int.toNat x.t51))⟩
def l8 (x:rI):aW rI:=(cond (decide (x.t51 < x.t50)) (cond ((decide (0<=x.t51))&&(decide (x.t51 < (x.t49.n:Int)))) (cond (Ha x).isSome (.next ⟨x.e,x.t49,x.t50,(aK (x.t51+1)),((Ha x).getD default)⟩) .fail) .fail) (.out (aG.ah.exit 2) x))
theorem Yi (x:rI):acI (J9 x) (Ka x)=aW.enc J9 Ka (l8 x):=by
 unfold l8
 try simp only [aW.cw]
 kernel_rfl
def SY:Lp:=⟨39,250,SX,fun vs rs=>dK J9 Ka (goN l8 (QQ vs rs)) [aG.ah.exit 2],false⟩
theorem acJ:SY.Ok PG:=Bs (ai.cons J5 (ai.cons Oq ai.nil)) (rM SW bj.nil) (pa:=QQ) Yi
def il (l:(Sl fe)):=goN lH ⟨l,0,l,(l.n:Int),0,⟨⟨0,0,0⟩,⟨0,0,0⟩⟩⟩
def Le (l:(Sl fe)):=goN l8 ⟨(il l).st.e,⟨((Int.toNat ((il l).st.l.n:Int)) - 1),(fun i=>((il l).st.l.get (1+i)))⟩,((((Int.toNat ((il l).st.l.n:Int)) - 1):Nat):Int),0,⟨((il l).st.l.get 0),((il l).st.l.get 0)⟩⟩
def Iq (l:(Sl fe)):Option (wb×Int):=(some (⟨⟨0,0,0⟩,⟨0,0,0⟩⟩,4))
def IG (l:(Sl fe)):Option (wb×Int):=(cond ((l.n:Int)==0)
  (Iq l) (cond (decide ((l.n:Int) > 4096))
  (Iq l) (cond ((il l).by (aG.ah.exit 0)) (cond (decide (0 < ((il l).st.l.n:Int))) (cond (decide (0 < ((il l).st.l.n:Int))) (cond ((decide (1<=((il l).st.l.n:Int)))&&(decide (((il l).st.l.n:Int)<=((il l).st.l.n:Int)))) (cond ((Le l).by (aG.ah.exit 2)) (some ((Le l).st.b,0)) none) none) none) none) (cond ((il l).by aG.ah.ret) (some ((il l).st.b,(il l).st.e)) none))))
theorem ahR (l:(Sl fe)):ou [(63,Ld),(62,RK)] [Ou,SY] 39 [(dq 36 oG) l] = (IG l).map (fun (r:wb×Int)=>KV.kL [Et r.1,(kI .i64) r.2]):=by
 unfold IG Iq
 try simp only [bG]
 kernel_rfl
def RL:List KV->KR KV:=bC PG 39 (bO (fun (r:wb×Int)=>KV.kL [Et r.1,(kI .i64) r.2]) fun vs=>IG ((dM ko) (v9 vs 0)))
theorem Ov:bB PG 39 RL:=dE (ai.cons J5 (ai.cons Oq ai.nil)) (rM SW (rM acJ bj.nil)) fun w=>ahR ((dM ko) (g0 66 (w 0)))
structure Item where
 az:(Sl fe)
 uV:(Sl kJ)
 acK:(Sl dj)
 look:kq
 box:wb
instance:Inhabited Item:=⟨⟨default,default,default,default,default⟩⟩
structure Gate where
 eR:fe
 from_:Int
 to_:Int
instance:Inhabited Gate:=⟨⟨default,default,default⟩⟩
def apX (x:Gate):List KV:=[.int .i64 x.eR.x,.int .i64 x.eR.y,.int .i64 x.eR.z,.int .i64 x.from_,.int .i64 x.to_]
def acL (x:Gate):KV:=.agg (apX x)
def apY (c:Nat->KV):Gate:=⟨⟨aq (c 0),aq (c 1),aq (c 2)⟩,aq (c 3),aq (c 4)⟩
def Yj (v:KV):Gate:=apY fun k=>v.cells.getD k .bh
theorem anK (x:Gate):Yj (acL x)=x:=rfl
theorem anL:Yj .bh=default:=rfl
theorem ajq (s:Sl Gate) (v:Gate):s.push v=aw Yj (s.n+1) (ax s.n (fun i=>acL (s.get i)) (cY [acL v])):=(fR anK anL s v).symm
structure Place where
 item:Item
 rf:Bool
 av:(Sl Gate)
instance:Inhabited Place:=⟨⟨default,default,default⟩⟩
def WB (x:Place):List KV:=[dq 36 oG x.item.az,dq 125 jx x.item.uV,dq 51 eQ x.item.acK,.int .u8 x.item.look.color.e0,.int .u8 x.item.look.color.e1,.int .u8 x.item.look.color.e2,.int .u8 x.item.look.color.e3,.int .i64 x.item.look.dL,.int .u8 x.item.look.o9,.int .i64 x.item.look.ob,.bool x.item.look.kC,.int .i64 x.item.look.bin,.int .i64 x.item.box.low.x,.int .i64 x.item.box.low.y,.int .i64 x.item.box.low.z,.int .i64 x.item.box.high.x,.int .i64 x.item.box.high.y,.int .i64 x.item.box.high.z,.bool x.rf,dq 87 acL x.av]
def FV (x:Place):KV:=.agg (WB x)
def WC (c:Nat->KV):Place:=⟨⟨dM ko (c 0),dM fG (c 1),dM fc (c 2),⟨⟨aq (c 3),aq (c 4),aq (c 5),aq (c 6)⟩,aq (c 7),aq (c 8),aq (c 9),eL (c 10),aq (c 11)⟩,⟨⟨aq (c 12),aq (c 13),aq (c 14)⟩,⟨aq (c 15),aq (c 16),aq (c 17)⟩⟩⟩,eL (c 18),dM Yj (c 19)⟩
def RM (v:KV):Place:=WC fun k=>v.cells.getD k .bh
structure cS where
 t5:Int
 aX:(Sl dv)
 t20:(Sl Handle)
 t21:Int
 t22:Int
 s:aA
 p:Path
 t4:Place
 w:ym
 out:Place
 n:Node
instance:Inhabited cS:=⟨by constructor<;>exact default⟩
def A7 (x:cS):List KV:=[.int .i64 x.t5,dq 62 oQ x.aX,dq 32 fy x.t20,.int .i64 x.t21,.int .i64 x.t22]
def A8 (x:cS):List (List KV):=[w4 x.s,Uq x.p,WB x.t4,JV x.w,WB x.out,anp x.n]
def Hx (vs:List KV) (rs:List (List KV)):cS:=⟨aq (v9 vs 0),dM iB (v9 vs 1),dM dV (v9 vs 2),aq (v9 vs 3),aq (v9 vs 4),w5 (r9 rs 0),Ur (r9 rs 1),WC (r9 rs 2),JW (r9 rs 3),WC (r9 rs 4),anq (r9 rs 5)⟩
def Kb:aJ:=⟨[(5,w9 i9),(9,⟨false,[.aP 62]⟩),(20,w9 (n9 32)),(21,w9 i9),(22,w9 i9)],[(2,[n9 139,n9 47,n9 64,n9 79,n9 118,i9,i9],1),(3,[n9 32,n9 3],1),(4,[.aP 36,n9 125,n9 51,u9,u9,u9,u9,i9,u9,i9,b9,i9,i9,i9,i9,i9,i9,i9,b9,.aP 87],1),(6,[i9,i9,i9,i9,i9,i9,i9,i9,i9,i9,i9,i9,i9],1),(7,[.aP 36,n9 125,n9 51,u9,u9,u9,u9,i9,u9,i9,b9,i9,i9,i9,i9,i9,i9,i9,b9,.aP 87],1),(8,[u9,i9,i9,i9,i9,i9,i9,i9,i9,i9,i9,i9,i9,.k (.int .u16),i9,i9,i9,n9 3,i9,u9,u9,u9,u9,u9,u9,u9,u9,u9,i9,u9,i9,b9,i9],1)],[(2,0,0),(3,1,0),(4,2,0),(6,3,0),(7,4,0),(8,5,0)]⟩
def Sb:=AP [(39,RL),(38,Cd),(37,Im),(36,xm),(13,xt),(52,Fo),(26,CY)] [] 21 506 Kb
def ba (x:cS):=CB x.w.m (x.s.nodes.get (Int.toNat (x.t20.get (Int.toNat x.t22)).slot)).mP
def cT (x:cS):=rv ((ba x).getD default).fst (x.s.nodes.get (Int.toNat (x.t20.get (Int.toNat x.t22)).slot)).eR
def cU (x:cS):=rv x.w.m (x.s.nodes.get (Int.toNat (x.t20.get (Int.toNat x.t22)).slot)).eR
def oU (x:cS):aW cS:=(cond ((x.s.nodes.get (Int.toNat (x.t20.get (Int.toNat x.t22)).slot)).kind==4) (cond ((decide (0<=x.t22))&&(decide (x.t22 < (x.p.kids.n:Int)))) (cond (((ba x).getD default).snd != 0) (cond (decide ((x.p.kids.get (Int.toNat x.t22)) < ((x.s.nodes.get (Int.toNat (x.t20.get (Int.toNat x.t22)).slot)).fw.n:Int))) (cond ((decide (0<=(x.p.kids.get (Int.toNat x.t22))))&&(decide ((x.p.kids.get (Int.toNat x.t22)) < ((x.s.nodes.get (Int.toNat (x.t20.get (Int.toNat x.t22)).slot)).fw.n:Int)))) (cond (decide ((x.p.kids.get (Int.toNat x.t22)) > 0)) (cond ((decide (0<=(aK ((x.p.kids.get (Int.toNat x.t22)) - 1))))&&(decide ((aK ((x.p.kids.get (Int.toNat x.t22)) - 1)) < ((x.s.nodes.get (Int.toNat (x.t20.get (Int.toNat x.t22)).slot)).fw.n:Int)))) (cond ((ak x.out.av.n x.out.av.n)&&(dP 40 x.out.av.n 1)) (cond (cond (cond (cond (cond (ak (x.out.av.n+1) (x.out.av.n+1)) (ak x.out.item.az.n x.out.item.az.n) false) (ak x.t4.av.n x.t4.av.n) false) (ak x.t4.item.az.n x.t4.item.az.n) false) (ak (x.aX.n+1) (x.aX.n+1)) false) (.next ⟨x.t5,(x.aX.push (x.s.nodes.get (Int.toNat (x.t20.get (Int.toNat x.t22)).slot)).bH),x.t20,x.t21,(aK (x.t22+1)),x.s,x.p,x.t4,⟨((ba x).getD default).fst,((ba x).getD default).snd⟩,⟨x.out.item,x.out.rf,(x.out.av.push ⟨⟨0,0,0⟩,((x.s.nodes.get (Int.toNat (x.t20.get (Int.toNat x.t22)).slot)).fw.get (Int.toNat (aK ((x.p.kids.get (Int.toNat x.t22)) - 1)))),((x.s.nodes.get (Int.toNat (x.t20.get (Int.toNat x.t22)).slot)).fw.get (Int.toNat (x.p.kids.get (Int.toNat x.t22))))⟩)⟩,(x.s.nodes.get (Int.toNat (x.t20.get (Int.toNat x.t22)).slot))⟩) .fail) .fail) .fail) (cond ((ak x.out.av.n x.out.av.n)&&(dP 40 x.out.av.n 1)) (cond (cond (cond (cond (cond (ak (x.out.av.n+1) (x.out.av.n+1)) (ak x.out.item.az.n x.out.item.az.n) false) (ak x.t4.av.n x.t4.av.n) false) (ak x.t4.item.az.n x.t4.item.az.n) false) (ak (x.aX.n+1) (x.aX.n+1)) false) (.next ⟨x.t5,(x.aX.push (x.s.nodes.get (Int.toNat (x.t20.get (Int.toNat x.t22)).slot)).bH),x.t20,x.t21,(aK (x.t22+1)),x.s,x.p,x.t4,⟨((ba x).getD default).fst,((ba x).getD default).snd⟩,⟨x.out.item,x.out.rf,(x.out.av.push ⟨⟨0,0,0⟩,0,((x.s.nodes.get (Int.toNat (x.t20.get (Int.toNat x.t22)).slot)).fw.get (Int.toNat (x.p.kids.get (Int.toNat x.t22))))⟩)⟩,(x.s.nodes.get (Int.toNat (x.t20.get (Int.toNat x.t22)).slot))⟩) .fail) .fail)) .fail) (cond ((ak x.out.av.n x.out.av.n)&&(dP 40 x.out.av.n 1)) (cond (cond (cond (cond (cond (ak (x.out.av.n+1) (x.out.av.n+1)) (ak x.out.item.az.n x.out.item.az.n) false) (ak x.t4.av.n x.t4.av.n) false) (ak x.t4.item.az.n x.t4.item.az.n) false) (ak (x.aX.n+1) (x.aX.n+1)) false) (.next ⟨x.t5,(x.aX.push (x.s.nodes.get (Int.toNat (x.t20.get (Int.toNat x.t22)).slot)).bH),x.t20,x.t21,(aK (x.t22+1)),x.s,x.p,x.t4,⟨((ba x).getD default).fst,((ba x).getD default).snd⟩,⟨x.out.item,x.out.rf,(x.out.av.push ⟨⟨0,0,0⟩,0,0⟩)⟩,(x.s.nodes.get (Int.toNat (x.t20.get (Int.toNat x.t22)).slot))⟩) .fail) .fail)) (cond (cT x).isSome (cond (decide ((x.p.kids.get (Int.toNat x.t22)) < ((x.s.nodes.get (Int.toNat (x.t20.get (Int.toNat x.t22)).slot)).fw.n:Int))) (cond ((decide (0<=(x.p.kids.get (Int.toNat x.t22))))&&(decide ((x.p.kids.get (Int.toNat x.t22)) < ((x.s.nodes.get (Int.toNat (x.t20.get (Int.toNat x.t22)).slot)).fw.n:Int)))) (cond (decide ((x.p.kids.get (Int.toNat x.t22)) > 0)) (cond ((decide (0<=(aK ((x.p.kids.get (Int.toNat x.t22)) - 1))))&&(decide ((aK ((x.p.kids.get (Int.toNat x.t22)) - 1)) < ((x.s.nodes.get (Int.toNat (x.t20.get (Int.toNat x.t22)).slot)).fw.n:Int)))) (cond ((ak x.out.av.n x.out.av.n)&&(dP 40 x.out.av.n 1)) (cond (cond (cond (cond (cond (ak (x.out.av.n+1) (x.out.av.n+1)) (ak x.out.item.az.n x.out.item.az.n) false) (ak x.t4.av.n x.t4.av.n) false) (ak x.t4.item.az.n x.t4.item.az.n) false) (ak (x.aX.n+1) (x.aX.n+1)) false) (.next ⟨x.t5,(x.aX.push (x.s.nodes.get (Int.toNat (x.t20.get (Int.toNat x.t22)).slot)).bH),x.t20,x.t21,(aK (x.t22+1)),x.s,x.p,x.t4,⟨((ba x).getD default).fst,((cT x).getD default).snd⟩,⟨x.out.item,x.out.rf,(x.out.av.push ⟨((cT x).getD default).fst,((x.s.nodes.get (Int.toNat (x.t20.get (Int.toNat x.t22)).slot)).fw.get (Int.toNat (aK ((x.p.kids.get (Int.toNat x.t22)) - 1)))),((x.s.nodes.get (Int.toNat (x.t20.get (Int.toNat x.t22)).slot)).fw.get (Int.toNat (x.p.kids.get (Int.toNat x.t22))))⟩)⟩,(x.s.nodes.get (Int.toNat (x.t20.get (Int.toNat x.t22)).slot))⟩) .fail) .fail) .fail) (cond ((ak x.out.av.n x.out.av.n)&&(dP 40 x.out.av.n 1)) (cond (cond (cond (cond (cond (ak (x.out.av.n+1) (x.out.av.n+1)) (ak x.out.item.az.n x.out.item.az.n) false) (ak x.t4.av.n x.t4.av.n) false) (ak x.t4.item.az.n x.t4.item.az.n) false) (ak (x.aX.n+1) (x.aX.n+1)) false) (.next ⟨x.t5,(x.aX.push (x.s.nodes.get (Int.toNat (x.t20.get (Int.toNat x.t22)).slot)).bH),x.t20,x.t21,(aK (x.t22+1)),x.s,x.p,x.t4,⟨((ba x).getD default).fst,((cT x).getD default).snd⟩,⟨x.out.item,x.out.rf,(x.out.av.push ⟨((cT x).getD default).fst,0,((x.s.nodes.get (Int.toNat (x.t20.get (Int.toNat x.t22)).slot)).fw.get (Int.toNat (x.p.kids.get (Int.toNat x.t22))))⟩)⟩,(x.s.nodes.get (Int.toNat (x.t20.get (Int.toNat x.t22)).slot))⟩) .fail) .fail)) .fail) (cond ((ak x.out.av.n x.out.av.n)&&(dP 40 x.out.av.n 1)) (cond (cond (cond (cond (cond (ak (x.out.av.n+1) (x.out.av.n+1)) (ak x.out.item.az.n x.out.item.az.n) false) (ak x.t4.av.n x.t4.av.n) false) (ak x.t4.item.az.n x.t4.item.az.n) false) (ak (x.aX.n+1) (x.aX.n+1)) false) (.next ⟨x.t5,(x.aX.push (x.s.nodes.get (Int.toNat (x.t20.get (Int.toNat x.t22)).slot)).bH),x.t20,x.t21,(aK (x.t22+1)),x.s,x.p,x.t4,⟨((ba x).getD default).fst,((cT x).getD default).snd⟩,⟨x.out.item,x.out.rf,(x.out.av.push ⟨((cT x).getD default).fst,0,0⟩)⟩,(x.s.nodes.get (Int.toNat (x.t20.get (Int.toNat x.t22)).slot))⟩) .fail) .fail)) .fail)) .fail) (cond (cond (cond (cond (cond (ak x.out.av.n x.out.av.n) (ak x.out.item.az.n x.out.item.az.n) false) (ak x.t4.av.n x.t4.av.n) false) (ak x.t4.item.az.n x.t4.item.az.n) false) (ak (x.aX.n+1) (x.aX.n+1)) false) (.next ⟨x.t5,(x.aX.push (x.s.nodes.get (Int.toNat (x.t20.get (Int.toNat x.t22)).slot)).bH),x.t20,x.t21,(aK (x.t22+1)),x.s,x.p,x.t4,⟨((ba x).getD default).fst,((ba x).getD default).snd⟩,x.out,(x.s.nodes.get (Int.toNat (x.t20.get (Int.toNat x.t22)).slot))⟩) .fail))
def oV (x:cS):aW cS:=(cond ((x.s.nodes.get (Int.toNat (x.t20.get (Int.toNat x.t22)).slot)).kind==4) (cond ((decide (0<=x.t22))&&(decide (x.t22 < (x.p.kids.n:Int)))) (cond (x.w.e != 0) (cond (decide ((x.p.kids.get (Int.toNat x.t22)) < ((x.s.nodes.get (Int.toNat (x.t20.get (Int.toNat x.t22)).slot)).fw.n:Int))) (cond ((decide (0<=(x.p.kids.get (Int.toNat x.t22))))&&(decide ((x.p.kids.get (Int.toNat x.t22)) < ((x.s.nodes.get (Int.toNat (x.t20.get (Int.toNat x.t22)).slot)).fw.n:Int)))) (cond (decide ((x.p.kids.get (Int.toNat x.t22)) > 0)) (cond ((decide (0<=(aK ((x.p.kids.get (Int.toNat x.t22)) - 1))))&&(decide ((aK ((x.p.kids.get (Int.toNat x.t22)) - 1)) < ((x.s.nodes.get (Int.toNat (x.t20.get (Int.toNat x.t22)).slot)).fw.n:Int)))) (cond ((ak x.out.av.n x.out.av.n)&&(dP 40 x.out.av.n 1)) (cond (cond (cond (cond (cond (ak (x.out.av.n+1) (x.out.av.n+1)) (ak x.out.item.az.n x.out.item.az.n) false) (ak x.t4.av.n x.t4.av.n) false) (ak x.t4.item.az.n x.t4.item.az.n) false) (ak (x.aX.n+1) (x.aX.n+1)) false) (.next ⟨x.t5,(x.aX.push (x.s.nodes.get (Int.toNat (x.t20.get (Int.toNat x.t22)).slot)).bH),x.t20,x.t21,(aK (x.t22+1)),x.s,x.p,x.t4,x.w,⟨x.out.item,x.out.rf,(x.out.av.push ⟨⟨0,0,0⟩,((x.s.nodes.get (Int.toNat (x.t20.get (Int.toNat x.t22)).slot)).fw.get (Int.toNat (aK ((x.p.kids.get (Int.toNat x.t22)) - 1)))),((x.s.nodes.get (Int.toNat (x.t20.get (Int.toNat x.t22)).slot)).fw.get (Int.toNat (x.p.kids.get (Int.toNat x.t22))))⟩)⟩,(x.s.nodes.get (Int.toNat (x.t20.get (Int.toNat x.t22)).slot))⟩) .fail) .fail) .fail) (cond ((ak x.out.av.n x.out.av.n)&&(dP 40 x.out.av.n 1)) (cond (cond (cond (cond (cond (ak (x.out.av.n+1) (x.out.av.n+1)) (ak x.out.item.az.n x.out.item.az.n) false) (ak x.t4.av.n x.t4.av.n) false) (ak x.t4.item.az.n x.t4.item.az.n) false) (ak (x.aX.n+1) (x.aX.n+1)) false) (.next ⟨x.t5,(x.aX.push (x.s.nodes.get (Int.toNat (x.t20.get (Int.toNat x.t22)).slot)).bH),x.t20,x.t21,(aK (x.t22+1)),x.s,x.p,x.t4,x.w,⟨x.out.item,x.out.rf,(x.out.av.push ⟨⟨0,0,0⟩,0,((x.s.nodes.get (Int.toNat (x.t20.get (Int.toNat x.t22)).slot)).fw.get (Int.toNat (x.p.kids.get (Int.toNat x.t22))))⟩)⟩,(x.s.nodes.get (Int.toNat (x.t20.get (Int.toNat x.t22)).slot))⟩) .fail) .fail)) .fail) (cond ((ak x.out.av.n x.out.av.n)&&(dP 40 x.out.av.n 1)) (cond (cond (cond (cond (cond (ak (x.out.av.n+1) (x.out.av.n+1)) (ak x.out.item.az.n x.out.item.az.n) false) (ak x.t4.av.n x.t4.av.n) false) (ak x.t4.item.az.n x.t4.item.az.n) false) (ak (x.aX.n+1) (x.aX.n+1)) false) (.next ⟨x.t5,(x.aX.push (x.s.nodes.get (Int.toNat (x.t20.get (Int.toNat x.t22)).slot)).bH),x.t20,x.t21,(aK (x.t22+1)),x.s,x.p,x.t4,x.w,⟨x.out.item,x.out.rf,(x.out.av.push ⟨⟨0,0,0⟩,0,0⟩)⟩,(x.s.nodes.get (Int.toNat (x.t20.get (Int.toNat x.t22)).slot))⟩) .fail) .fail)) (cond (cU x).isSome (cond (decide ((x.p.kids.get (Int.toNat x.t22)) < ((x.s.nodes.get (Int.toNat (x.t20.get (Int.toNat x.t22)).slot)).fw.n:Int))) (cond ((decide (0<=(x.p.kids.get (Int.toNat x.t22))))&&(decide ((x.p.kids.get (Int.toNat x.t22)) < ((x.s.nodes.get (Int.toNat (x.t20.get (Int.toNat x.t22)).slot)).fw.n:Int)))) (cond (decide ((x.p.kids.get (Int.toNat x.t22)) > 0)) (cond ((decide (0<=(aK ((x.p.kids.get (Int.toNat x.t22)) - 1))))&&(decide ((aK ((x.p.kids.get (Int.toNat x.t22)) - 1)) < ((x.s.nodes.get (Int.toNat (x.t20.get (Int.toNat x.t22)).slot)).fw.n:Int)))) (cond ((ak x.out.av.n x.out.av.n)&&(dP 40 x.out.av.n 1)) (cond (cond (cond (cond (cond (ak (x.out.av.n+1) (x.out.av.n+1)) (ak x.out.item.az.n x.out.item.az.n) false) (ak x.t4.av.n x.t4.av.n) false) (ak x.t4.item.az.n x.t4.item.az.n) false) (ak (x.aX.n+1) (x.aX.n+1)) false) (.next ⟨x.t5,(x.aX.push (x.s.nodes.get (Int.toNat (x.t20.get (Int.toNat x.t22)).slot)).bH),x.t20,x.t21,(aK (x.t22+1)),x.s,x.p,x.t4,⟨x.w.m,((cU x).getD default).snd⟩,⟨x.out.item,x.out.rf,(x.out.av.push ⟨((cU x).getD default).fst,((x.s.nodes.get (Int.toNat (x.t20.get (Int.toNat x.t22)).slot)).fw.get (Int.toNat (aK ((x.p.kids.get (Int.toNat x.t22)) - 1)))),((x.s.nodes.get (Int.toNat (x.t20.get (Int.toNat x.t22)).slot)).fw.get (Int.toNat (x.p.kids.get (Int.toNat x.t22))))⟩)⟩,(x.s.nodes.get (Int.toNat (x.t20.get (Int.toNat x.t22)).slot))⟩) .fail) .fail) .fail) (cond ((ak x.out.av.n x.out.av.n)&&(dP 40 x.out.av.n 1)) (cond (cond (cond (cond (cond (ak (x.out.av.n+1) (x.out.av.n+1)) (ak x.out.item.az.n x.out.item.az.n) false) (ak x.t4.av.n x.t4.av.n) false) (ak x.t4.item.az.n x.t4.item.az.n) false) (ak (x.aX.n+1) (x.aX.n+1)) false) (.next ⟨x.t5,(x.aX.push (x.s.nodes.get (Int.toNat (x.t20.get (Int.toNat x.t22)).slot)).bH),x.t20,x.t21,(aK (x.t22+1)),x.s,x.p,x.t4,⟨x.w.m,((cU x).getD default).snd⟩,⟨x.out.item,x.out.rf,(x.out.av.push ⟨((cU x).getD default).fst,0,((x.s.nodes.get (Int.toNat (x.t20.get (Int.toNat x.t22)).slot)).fw.get (Int.toNat (x.p.kids.get (Int.toNat x.t22))))⟩)⟩,(x.s.nodes.get (Int.toNat (x.t20.get (Int.toNat x.t22)).slot))⟩) .fail) .fail)) .fail) (cond ((ak x.out.av.n x.out.av.n)&&(dP 40 x.out.av.n 1)) (cond (cond (cond (cond (cond (ak (x.out.av.n+1) (x.out.av.n+1)) (ak x.out.item.az.n x.out.item.az.n) false) (ak x.t4.av.n x.t4.av.n) false) (ak x.t4.item.az.n x.t4.item.az.n) false) (ak (x.aX.n+1) (x.aX.n+1)) false) (.next ⟨x.t5,(x.aX.push (x.s.nodes.get (Int.toNat (x.t20.get (Int.toNat x.t22)).slot)).bH),x.t20,x.t21,(aK (x.t22+1)),x.s,x.p,x.t4,⟨x.w.m,((cU x).getD default).snd⟩,⟨x.out.item,x.out.rf,(x.out.av.push ⟨((cU x).getD default).fst,0,0⟩)⟩,(x.s.nodes.get (Int.toNat (x.t20.get (Int.toNat x.t22)).slot))⟩) .fail) .fail)) .fail)) .fail) (cond (cond (cond (cond (cond (ak x.out.av.n x.out.av.n) (ak x.out.item.az.n x.out.item.az.n) false) (ak x.t4.av.n x.t4.av.n) false) (ak x.t4.item.az.n x.t4.item.az.n) false) (ak (x.aX.n+1) (x.aX.n+1)) false) (.next ⟨x.t5,(x.aX.push (x.s.nodes.get (Int.toNat (x.t20.get (Int.toNat x.t22)).slot)).bH),x.t20,x.t21,(aK (x.t22+1)),x.s,x.p,x.t4,x.w,x.out,(x.s.nodes.get (Int.toNat (x.t20.get (Int.toNat x.t22)).slot))⟩) .fail))
def oW (x:cS):aW cS:=(cond ((x.s.nodes.get (Int.toNat (x.t20.get (Int.toNat x.t22)).slot)).kind==3) (cond ((decide (0<=x.t22))&&(decide (x.t22 < (x.p.kids.n:Int)))) (cond (!(decide ((x.p.kids.get (Int.toNat x.t22)) < 0))) (cond ((w16 (((Dm IntKind.u16 (Int.fdiv (x.s.nodes.get (Int.toNat (x.t20.get (Int.toNat x.t22)).slot)).rf (2 ^ (min (Int.toNat (x.p.kids.get (Int.toNat x.t22))) 16))) 1):Nat):Int))==0) (cond ((x.s.nodes.get (Int.toNat (x.t20.get (Int.toNat x.t22)).slot)).kind==4) (cond ((decide (0<=x.t22))&&(decide (x.t22 < (x.p.kids.n:Int)))) (cond (x.w.e != 0) (cond (decide ((x.p.kids.get (Int.toNat x.t22)) < ((x.s.nodes.get (Int.toNat (x.t20.get (Int.toNat x.t22)).slot)).fw.n:Int))) (cond ((decide (0<=(x.p.kids.get (Int.toNat x.t22))))&&(decide ((x.p.kids.get (Int.toNat x.t22)) < ((x.s.nodes.get (Int.toNat (x.t20.get (Int.toNat x.t22)).slot)).fw.n:Int)))) (cond (decide ((x.p.kids.get (Int.toNat x.t22)) > 0)) (cond ((decide (0<=(aK ((x.p.kids.get (Int.toNat x.t22)) - 1))))&&(decide ((aK ((x.p.kids.get (Int.toNat x.t22)) - 1)) < ((x.s.nodes.get (Int.toNat (x.t20.get (Int.toNat x.t22)).slot)).fw.n:Int)))) (cond ((ak x.out.av.n x.out.av.n)&&(dP 40 x.out.av.n 1)) (cond (cond (cond (cond (cond (ak (x.out.av.n+1) (x.out.av.n+1)) (ak x.out.item.az.n x.out.item.az.n) false) (ak x.t4.av.n x.t4.av.n) false) (ak x.t4.item.az.n x.t4.item.az.n) false) (ak (x.aX.n+1) (x.aX.n+1)) false) (.next ⟨x.t5,(x.aX.push (x.s.nodes.get (Int.toNat (x.t20.get (Int.toNat x.t22)).slot)).bH),x.t20,x.t21,(aK (x.t22+1)),x.s,x.p,x.t4,x.w,⟨x.out.item,false,(x.out.av.push ⟨⟨0,0,0⟩,((x.s.nodes.get (Int.toNat (x.t20.get (Int.toNat x.t22)).slot)).fw.get (Int.toNat (aK ((x.p.kids.get (Int.toNat x.t22)) - 1)))),((x.s.nodes.get (Int.toNat (x.t20.get (Int.toNat x.t22)).slot)).fw.get (Int.toNat (x.p.kids.get (Int.toNat x.t22))))⟩)⟩,(x.s.nodes.get (Int.toNat (x.t20.get (Int.toNat x.t22)).slot))⟩) .fail) .fail) .fail) (cond ((ak x.out.av.n x.out.av.n)&&(dP 40 x.out.av.n 1)) (cond (cond (cond (cond (cond (ak (x.out.av.n+1) (x.out.av.n+1)) (ak x.out.item.az.n x.out.item.az.n) false) (ak x.t4.av.n x.t4.av.n) false) (ak x.t4.item.az.n x.t4.item.az.n) false) (ak (x.aX.n+1) (x.aX.n+1)) false) (.next ⟨x.t5,(x.aX.push (x.s.nodes.get (Int.toNat (x.t20.get (Int.toNat x.t22)).slot)).bH),x.t20,x.t21,(aK (x.t22+1)),x.s,x.p,x.t4,x.w,⟨x.out.item,false,(x.out.av.push ⟨⟨0,0,0⟩,0,((x.s.nodes.get (Int.toNat (x.t20.get (Int.toNat x.t22)).slot)).fw.get (Int.toNat (x.p.kids.get (Int.toNat x.t22))))⟩)⟩,(x.s.nodes.get (Int.toNat (x.t20.get (Int.toNat x.t22)).slot))⟩) .fail) .fail)) .fail) (cond ((ak x.out.av.n x.out.av.n)&&(dP 40 x.out.av.n 1)) (cond (cond (cond (cond (cond (ak (x.out.av.n+1) (x.out.av.n+1)) (ak x.out.item.az.n x.out.item.az.n) false) (ak x.t4.av.n x.t4.av.n) false) (ak x.t4.item.az.n x.t4.item.az.n) false) (ak (x.aX.n+1) (x.aX.n+1)) false) (.next ⟨x.t5,(x.aX.push (x.s.nodes.get (Int.toNat (x.t20.get (Int.toNat x.t22)).slot)).bH),x.t20,x.t21,(aK (x.t22+1)),x.s,x.p,x.t4,x.w,⟨x.out.item,false,(x.out.av.push ⟨⟨0,0,0⟩,0,0⟩)⟩,(x.s.nodes.get (Int.toNat (x.t20.get (Int.toNat x.t22)).slot))⟩) .fail) .fail)) (cond (cU x).isSome (cond (decide ((x.p.kids.get (Int.toNat x.t22)) < ((x.s.nodes.get (Int.toNat (x.t20.get (Int.toNat x.t22)).slot)).fw.n:Int))) (cond ((decide (0<=(x.p.kids.get (Int.toNat x.t22))))&&(decide ((x.p.kids.get (Int.toNat x.t22)) < ((x.s.nodes.get (Int.toNat (x.t20.get (Int.toNat x.t22)).slot)).fw.n:Int)))) (cond (decide ((x.p.kids.get (Int.toNat x.t22)) > 0)) (cond ((decide (0<=(aK ((x.p.kids.get (Int.toNat x.t22)) - 1))))&&(decide ((aK ((x.p.kids.get (Int.toNat x.t22)) - 1)) < ((x.s.nodes.get (Int.toNat (x.t20.get (Int.toNat x.t22)).slot)).fw.n:Int)))) (cond ((ak x.out.av.n x.out.av.n)&&(dP 40 x.out.av.n 1)) (cond (cond (cond (cond (cond (ak (x.out.av.n+1) (x.out.av.n+1)) (ak x.out.item.az.n x.out.item.az.n) false) (ak x.t4.av.n x.t4.av.n) false) (ak x.t4.item.az.n x.t4.item.az.n) false) (ak (x.aX.n+1) (x.aX.n+1)) false) (.next ⟨x.t5,(x.aX.push (x.s.nodes.get (Int.toNat (x.t20.get (Int.toNat x.t22)).slot)).bH),x.t20,x.t21,(aK (x.t22+1)),x.s,x.p,x.t4,⟨x.w.m,((cU x).getD default).snd⟩,⟨x.out.item,false,(x.out.av.push ⟨((cU x).getD default).fst,((x.s.nodes.get (Int.toNat (x.t20.get (Int.toNat x.t22)).slot)).fw.get (Int.toNat (aK ((x.p.kids.get (Int.toNat x.t22)) - 1)))),((x.s.nodes.get (Int.toNat (x.t20.get (Int.toNat x.t22)).slot)).fw.get (Int.toNat (x.p.kids.get (Int.toNat x.t22))))⟩)⟩,(x.s.nodes.get (Int.toNat (x.t20.get (Int.toNat x.t22)).slot))⟩) .fail) .fail) .fail) (cond ((ak x.out.av.n x.out.av.n)&&(dP 40 x.out.av.n 1)) (cond (cond (cond (cond (cond (ak (x.out.av.n+1) (x.out.av.n+1)) (ak x.out.item.az.n x.out.item.az.n) false) (ak x.t4.av.n x.t4.av.n) false) (ak x.t4.item.az.n x.t4.item.az.n) false) (ak (x.aX.n+1) (x.aX.n+1)) false) (.next ⟨x.t5,(x.aX.push (x.s.nodes.get (Int.toNat (x.t20.get (Int.toNat x.t22)).slot)).bH),x.t20,x.t21,(aK (x.t22+1)),x.s,x.p,x.t4,⟨x.w.m,((cU x).getD default).snd⟩,⟨x.out.item,false,(x.out.av.push ⟨((cU x).getD default).fst,0,((x.s.nodes.get (Int.toNat (x.t20.get (Int.toNat x.t22)).slot)).fw.get (Int.toNat (x.p.kids.get (Int.toNat x.t22))))⟩)⟩,(x.s.nodes.get (Int.toNat (x.t20.get (Int.toNat x.t22)).slot))⟩) .fail) .fail)) .fail) (cond ((ak x.out.av.n x.out.av.n)&&(dP 40 x.out.av.n 1)) (cond (cond (cond (cond (cond (ak (x.out.av.n+1) (x.out.av.n+1)) (ak x.out.item.az.n x.out.item.az.n) false) (ak x.t4.av.n x.t4.av.n) false) (ak x.t4.item.az.n x.t4.item.az.n) false) (ak (x.aX.n+1) (x.aX.n+1)) false) (.next ⟨x.t5,(x.aX.push (x.s.nodes.get (Int.toNat (x.t20.get (Int.toNat x.t22)).slot)).bH),x.t20,x.t21,(aK (x.t22+1)),x.s,x.p,x.t4,⟨x.w.m,((cU x).getD default).snd⟩,⟨x.out.item,false,(x.out.av.push ⟨((cU x).getD default).fst,0,0⟩)⟩,(x.s.nodes.get (Int.toNat (x.t20.get (Int.toNat x.t22)).slot))⟩) .fail) .fail)) .fail)) .fail) (cond (cond (cond (cond (cond (ak x.out.av.n x.out.av.n) (ak x.out.item.az.n x.out.item.az.n) false) (ak x.t4.av.n x.t4.av.n) false) (ak x.t4.item.az.n x.t4.item.az.n) false) (ak (x.aX.n+1) (x.aX.n+1)) false) (.next ⟨x.t5,(x.aX.push (x.s.nodes.get (Int.toNat (x.t20.get (Int.toNat x.t22)).slot)).bH),x.t20,x.t21,(aK (x.t22+1)),x.s,x.p,x.t4,x.w,⟨x.out.item,false,x.out.av⟩,(x.s.nodes.get (Int.toNat (x.t20.get (Int.toNat x.t22)).slot))⟩) .fail))
   (oV x)) .fail) .fail)
  (oV x))
def fJ (x:cS):aW cS:=(cond (decide (x.t22 < x.t21)) (cond ((decide (0<=x.t22))&&(decide (x.t22 < (x.t20.n:Int)))) (cond ((decide (0<=(x.t20.get (Int.toNat x.t22)).slot))&&(decide ((x.t20.get (Int.toNat x.t22)).slot < (x.s.nodes.n:Int)))) (cond ((ak x.aX.n x.aX.n)&&(dP 56 x.aX.n 1)) (cond ((x.s.nodes.get (Int.toNat (x.t20.get (Int.toNat x.t22)).slot)).kind==2) (cond (x.w.e==0) (cond (ba x).isSome (cond ((x.s.nodes.get (Int.toNat (x.t20.get (Int.toNat x.t22)).slot)).kind==3) (cond ((decide (0<=x.t22))&&(decide (x.t22 < (x.p.kids.n:Int)))) (cond (!(decide ((x.p.kids.get (Int.toNat x.t22)) < 0))) (cond ((w16 (((Dm IntKind.u16 (Int.fdiv (x.s.nodes.get (Int.toNat (x.t20.get (Int.toNat x.t22)).slot)).rf (2 ^ (min (Int.toNat (x.p.kids.get (Int.toNat x.t22))) 16))) 1):Nat):Int))==0) (cond ((x.s.nodes.get (Int.toNat (x.t20.get (Int.toNat x.t22)).slot)).kind==4) (cond ((decide (0<=x.t22))&&(decide (x.t22 < (x.p.kids.n:Int)))) (cond (((ba x).getD default).snd != 0) (cond (decide ((x.p.kids.get (Int.toNat x.t22)) < ((x.s.nodes.get (Int.toNat (x.t20.get (Int.toNat x.t22)).slot)).fw.n:Int))) (cond ((decide (0<=(x.p.kids.get (Int.toNat x.t22))))&&(decide ((x.p.kids.get (Int.toNat x.t22)) < ((x.s.nodes.get (Int.toNat (x.t20.get (Int.toNat x.t22)).slot)).fw.n:Int)))) (cond (decide ((x.p.kids.get (Int.toNat x.t22)) > 0)) (cond ((decide (0<=(aK ((x.p.kids.get (Int.toNat x.t22)) - 1))))&&(decide ((aK ((x.p.kids.get (Int.toNat x.t22)) - 1)) < ((x.s.nodes.get (Int.toNat (x.t20.get (Int.toNat x.t22)).slot)).fw.n:Int)))) (cond ((ak x.out.av.n x.out.av.n)&&(dP 40 x.out.av.n 1)) (cond (cond (cond (cond (cond (ak (x.out.av.n+1) (x.out.av.n+1)) (ak x.out.item.az.n x.out.item.az.n) false) (ak x.t4.av.n x.t4.av.n) false) (ak x.t4.item.az.n x.t4.item.az.n) false) (ak (x.aX.n+1) (x.aX.n+1)) false) (.next ⟨x.t5,(x.aX.push (x.s.nodes.get (Int.toNat (x.t20.get (Int.toNat x.t22)).slot)).bH),x.t20,x.t21,(aK (x.t22+1)),x.s,x.p,x.t4,⟨((ba x).getD default).fst,((ba x).getD default).snd⟩,⟨x.out.item,false,(x.out.av.push ⟨⟨0,0,0⟩,((x.s.nodes.get (Int.toNat (x.t20.get (Int.toNat x.t22)).slot)).fw.get (Int.toNat (aK ((x.p.kids.get (Int.toNat x.t22)) - 1)))),((x.s.nodes.get (Int.toNat (x.t20.get (Int.toNat x.t22)).slot)).fw.get (Int.toNat (x.p.kids.get (Int.toNat x.t22))))⟩)⟩,(x.s.nodes.get (Int.toNat (x.t20.get (Int.toNat x.t22)).slot))⟩) .fail) .fail) .fail) (cond ((ak x.out.av.n x.out.av.n)&&(dP 40 x.out.av.n 1)) (cond (cond (cond (cond (cond (ak (x.out.av.n+1) (x.out.av.n+1)) (ak x.out.item.az.n x.out.item.az.n) false) (ak x.t4.av.n x.t4.av.n) false) (ak x.t4.item.az.n x.t4.item.az.n) false) (ak (x.aX.n+1) (x.aX.n+1)) false) (.next ⟨x.t5,(x.aX.push (x.s.nodes.get (Int.toNat (x.t20.get (Int.toNat x.t22)).slot)).bH),x.t20,x.t21,(aK (x.t22+1)),x.s,x.p,x.t4,⟨((ba x).getD default).fst,((ba x).getD default).snd⟩,⟨x.out.item,false,(x.out.av.push ⟨⟨0,0,0⟩,0,((x.s.nodes.get (Int.toNat (x.t20.get (Int.toNat x.t22)).slot)).fw.get (Int.toNat (x.p.kids.get (Int.toNat x.t22))))⟩)⟩,(x.s.nodes.get (Int.toNat (x.t20.get (Int.toNat x.t22)).slot))⟩) .fail) .fail)) .fail) (cond ((ak x.out.av.n x.out.av.n)&&(dP 40 x.out.av.n 1)) (cond (cond (cond (cond (cond (ak (x.out.av.n+1) (x.out.av.n+1)) (ak x.out.item.az.n x.out.item.az.n) false) (ak x.t4.av.n x.t4.av.n) false) (ak x.t4.item.az.n x.t4.item.az.n) false) (ak (x.aX.n+1) (x.aX.n+1)) false) (.next ⟨x.t5,(x.aX.push (x.s.nodes.get (Int.toNat (x.t20.get (Int.toNat x.t22)).slot)).bH),x.t20,x.t21,(aK (x.t22+1)),x.s,x.p,x.t4,⟨((ba x).getD default).fst,((ba x).getD default).snd⟩,⟨x.out.item,false,(x.out.av.push ⟨⟨0,0,0⟩,0,0⟩)⟩,(x.s.nodes.get (Int.toNat (x.t20.get (Int.toNat x.t22)).slot))⟩) .fail) .fail)) (cond (cT x).isSome (cond (decide ((x.p.kids.get (Int.toNat x.t22)) < ((x.s.nodes.get (Int.toNat (x.t20.get (Int.toNat x.t22)).slot)).fw.n:Int))) (cond ((decide (0<=(x.p.kids.get (Int.toNat x.t22))))&&(decide ((x.p.kids.get (Int.toNat x.t22)) < ((x.s.nodes.get (Int.toNat (x.t20.get (Int.toNat x.t22)).slot)).fw.n:Int)))) (cond (decide ((x.p.kids.get (Int.toNat x.t22)) > 0)) (cond ((decide (0<=(aK ((x.p.kids.get (Int.toNat x.t22)) - 1))))&&(decide ((aK ((x.p.kids.get (Int.toNat x.t22)) - 1)) < ((x.s.nodes.get (Int.toNat (x.t20.get (Int.toNat x.t22)).slot)).fw.n:Int)))) (cond ((ak x.out.av.n x.out.av.n)&&(dP 40 x.out.av.n 1)) (cond (cond (cond (cond (cond (ak (x.out.av.n+1) (x.out.av.n+1)) (ak x.out.item.az.n x.out.item.az.n) false) (ak x.t4.av.n x.t4.av.n) false) (ak x.t4.item.az.n x.t4.item.az.n) false) (ak (x.aX.n+1) (x.aX.n+1)) false) (.next ⟨x.t5,(x.aX.push (x.s.nodes.get (Int.toNat (x.t20.get (Int.toNat x.t22)).slot)).bH),x.t20,x.t21,(aK (x.t22+1)),x.s,x.p,x.t4,⟨((ba x).getD default).fst,((cT x).getD default).snd⟩,⟨x.out.item,false,(x.out.av.push ⟨((cT x).getD default).fst,((x.s.nodes.get (Int.toNat (x.t20.get (Int.toNat x.t22)).slot)).fw.get (Int.toNat (aK ((x.p.kids.get (Int.toNat x.t22)) - 1)))),((x.s.nodes.get (Int.toNat (x.t20.get (Int.toNat x.t22)).slot)).fw.get (Int.toNat (x.p.kids.get (Int.toNat x.t22))))⟩)⟩,(x.s.nodes.get (Int.toNat (x.t20.get (Int.toNat x.t22)).slot))⟩) .fail) .fail) .fail) (cond ((ak x.out.av.n x.out.av.n)&&(dP 40 x.out.av.n 1)) (cond (cond (cond (cond (cond (ak (x.out.av.n+1) (x.out.av.n+1)) (ak x.out.item.az.n x.out.item.az.n) false) (ak x.t4.av.n x.t4.av.n) false) (ak x.t4.item.az.n x.t4.item.az.n) false) (ak (x.aX.n+1) (x.aX.n+1)) false) (.next ⟨x.t5,(x.aX.push (x.s.nodes.get (Int.toNat (x.t20.get (Int.toNat x.t22)).slot)).bH),x.t20,x.t21,(aK (x.t22+1)),x.s,x.p,x.t4,⟨((ba x).getD default).fst,((cT x).getD default).snd⟩,⟨x.out.item,false,(x.out.av.push ⟨((cT x).getD default).fst,0,((x.s.nodes.get (Int.toNat (x.t20.get (Int.toNat x.t22)).slot)).fw.get (Int.toNat (x.p.kids.get (Int.toNat x.t22))))⟩)⟩,(x.s.nodes.get (Int.toNat (x.t20.get (Int.toNat x.t22)).slot))⟩) .fail) .fail)) .fail) (cond ((ak x.out.av.n x.out.av.n)&&(dP 40 x.out.av.n 1)) (cond (cond (cond (cond (cond (ak (x.out.av.n+1) (x.out.av.n+1)) (ak x.out.item.az.n x.out.item.az.n) false) (ak x.t4.av.n x.t4.av.n) false) (ak x.t4.item.az.n x.t4.item.az.n) false) (ak (x.aX.n+1) (x.aX.n+1)) false) (.next ⟨x.t5,(x.aX.push (x.s.nodes.get (Int.toNat (x.t20.get (Int.toNat x.t22)).slot)).bH),x.t20,x.t21,(aK (x.t22+1)),x.s,x.p,x.t4,⟨((ba x).getD default).fst,((cT x).getD default).snd⟩,⟨x.out.item,false,(x.out.av.push ⟨((cT x).getD default).fst,0,0⟩)⟩,(x.s.nodes.get (Int.toNat (x.t20.get (Int.toNat x.t22)).slot))⟩) .fail) .fail)) .fail)) .fail) (cond (cond (cond (cond (cond (ak x.out.av.n x.out.av.n) (ak x.out.item.az.n x.out.item.az.n) false) (ak x.t4.av.n x.t4.av.n) false) (ak x.t4.item.az.n x.t4.item.az.n) false) (ak (x.aX.n+1) (x.aX.n+1)) false) (.next ⟨x.t5,(x.aX.push (x.s.nodes.get (Int.toNat (x.t20.get (Int.toNat x.t22)).slot)).bH),x.t20,x.t21,(aK (x.t22+1)),x.s,x.p,x.t4,⟨((ba x).getD default).fst,((ba x).getD default).snd⟩,⟨x.out.item,false,x.out.av⟩,(x.s.nodes.get (Int.toNat (x.t20.get (Int.toNat x.t22)).slot))⟩) .fail))
       (oU x)) .fail) .fail)
     (oU x)) .fail)
    (oW x))
    (oW x)) .fail) .fail) .fail) (cond (cond (cond (cond (cond (ak x.out.av.n x.out.av.n) (ak x.out.item.az.n x.out.item.az.n) false) (ak x.t4.av.n x.t4.av.n) false) (ak x.t4.item.az.n x.t4.item.az.n) false) (ak x.aX.n x.aX.n) false) (.out (aG.ah.exit 0) x) .fail))
theorem Po (x:cS):Sb (A7 x) (A8 x)=aW.enc A7 A8 (fJ x):=by
 unfold fJ oW oV oU
 try simp only [aW.cw,ajq,lU]
 kernel_rfl
def CG:Lp:=⟨21,506,Kb,fun vs rs=>dK A7 A8 (goN fJ (Hx vs rs)) [aG.ah.exit 0],false⟩
theorem Hy:CG.Ok PG:=Bs (ai.cons Ov (ai.cons CF (ai.cons G8 (ai.cons yF (ai.cons tP (ai.cons BL (ai.cons zn ai.nil))))))) bj.nil (pa:=Hx) Po
structure jc where
 t5:Int
 aX:(Sl dv)
 t81:(Sl fe)
 t82:Int
 t83:Int
 t4:Place
 w:ym
 out:Place
 m:gE
instance:Inhabited jc:=⟨by constructor<;>exact default⟩
def zv (x:jc):List KV:=[.int .i64 x.t5,dq 62 oQ x.aX,dq 36 oG x.t81,.int .i64 x.t82,.int .i64 x.t83]
def zw (x:jc):List (List KV):=[WB x.t4,JV x.w,WB x.out,XT x.m]
def Gq (vs:List KV) (rs:List (List KV)):jc:=⟨aq (v9 vs 0),dM iB (v9 vs 1),dM ko (v9 vs 2),aq (v9 vs 3),aq (v9 vs 4),WC (r9 rs 0),JW (r9 rs 1),WC (r9 rs 2),XU (r9 rs 3)⟩
def Hz:aJ:=⟨[(5,w9 i9),(9,⟨false,[.aP 62]⟩),(81,w9 (n9 36)),(82,w9 i9),(83,w9 i9)],[(4,[.aP 36,n9 125,n9 51,u9,u9,u9,u9,i9,u9,i9,b9,i9,i9,i9,i9,i9,i9,i9,b9,.aP 87],1),(6,[i9,i9,i9,i9,i9,i9,i9,i9,i9,i9,i9,i9,i9],1),(7,[.aP 36,n9 125,n9 51,u9,u9,u9,u9,i9,u9,i9,b9,i9,i9,i9,i9,i9,i9,i9,b9,.aP 87],1),(12,[n9 36,n9 125,n9 120],1)],[(4,0,0),(6,1,0),(7,2,0),(12,3,0)]⟩
def QR:=AP [(39,RL),(38,Cd),(37,Im),(36,xm),(13,xt),(52,Fo),(26,CY)] [CG] 21 2042 Hz
def sk (x:jc):=rv x.w.m (x.t81.get (Int.toNat x.t83))
def iE (x:jc):aW jc:=(cond (decide (x.t83 < x.t82)) (cond ((decide (0<=x.t83))&&(decide (x.t83 < (x.t81.n:Int)))) (cond (x.w.e != 0) (cond ((ak x.out.item.az.n x.out.item.az.n)&&(dP 24 x.out.item.az.n 1)) (cond (cond (cond (cond (cond (ak x.out.av.n x.out.av.n) (ak (x.out.item.az.n+1) (x.out.item.az.n+1)) false) (ak x.t4.av.n x.t4.av.n) false) (ak x.t4.item.az.n x.t4.item.az.n) false) (ak x.aX.n x.aX.n) false) (.next ⟨x.t5,x.aX,x.t81,x.t82,(aK (x.t83+1)),x.t4,x.w,⟨⟨(x.out.item.az.push ⟨0,0,0⟩),x.out.item.uV,x.out.item.acK,x.out.item.look,x.out.item.box⟩,x.out.rf,x.out.av⟩,x.m⟩) .fail) .fail) (cond (sk x).isSome (cond ((ak x.out.item.az.n x.out.item.az.n)&&(dP 24 x.out.item.az.n 1)) (cond (cond (cond (cond (cond (ak x.out.av.n x.out.av.n) (ak (x.out.item.az.n+1) (x.out.item.az.n+1)) false) (ak x.t4.av.n x.t4.av.n) false) (ak x.t4.item.az.n x.t4.item.az.n) false) (ak x.aX.n x.aX.n) false) (.next ⟨x.t5,x.aX,x.t81,x.t82,(aK (x.t83+1)),x.t4,⟨x.w.m,((sk x).getD default).snd⟩,⟨⟨(x.out.item.az.push ((sk x).getD default).fst),x.out.item.uV,x.out.item.acK,x.out.item.look,x.out.item.box⟩,x.out.rf,x.out.av⟩,x.m⟩) .fail) .fail) .fail)) .fail) (cond (cond (cond (cond (cond (ak x.out.av.n x.out.av.n) (ak x.out.item.az.n x.out.item.az.n) false) (ak x.t4.av.n x.t4.av.n) false) (ak x.t4.item.az.n x.t4.item.az.n) false) (ak x.aX.n x.aX.n) false) (.out (aG.ah.exit 2) x) .fail))
theorem Ow (x:jc):QR (zv x) (zw x)=aW.enc zv zw (iE x):=by
 unfold iE
 try simp only [aW.cw,rN]
 kernel_rfl
def HA:Lp:=⟨21,2042,Hz,fun vs rs=>dK zv zw (goN iE (Gq vs rs)) [aG.ah.exit 2],false⟩
theorem QS:HA.Ok PG:=Bs (ai.cons Ov (ai.cons CF (ai.cons G8 (ai.cons yF (ai.cons tP (ai.cons BL (ai.cons zn ai.nil))))))) (rM Hy bj.nil) (pa:=Gq) Ow
def Fs (s:aA) (p:Path):=CX
def bU (s:aA) (p:Path):=goN fJ ⟨0,⟨0,(fun i=>⟨⟨0,0,0,0,0⟩,⟨⟨0,0,0,0⟩,0,0,0,false,0⟩⟩)⟩,p.nodes,(p.nodes.n:Int),0,s,p,⟨⟨⟨0,(fun i=>⟨0,0,0⟩)⟩,⟨0,(fun i=>⟨0,0⟩)⟩,⟨0,(fun i=>⟨0,0,0⟩)⟩,⟨⟨0,0,0,0⟩,0,0,0,false,0⟩,⟨⟨0,0,0⟩,⟨0,0,0⟩⟩⟩,false,⟨0,(fun i=>⟨⟨0,0,0⟩,0,0⟩)⟩⟩,⟨((Fs s p).getD default),0⟩,⟨⟨⟨0,(fun i=>⟨0,0,0⟩)⟩,⟨0,(fun i=>⟨0,0⟩)⟩,⟨0,(fun i=>⟨0,0,0⟩)⟩,⟨⟨0,0,0,0⟩,0,0,0,false,0⟩,⟨⟨0,0,0⟩,⟨0,0,0⟩⟩⟩,true,⟨0,(fun i=>⟨⟨0,0,0⟩,0,0⟩)⟩⟩,⟨0,⟨⟨⟨0,0,0⟩,⟨0,0,0⟩,⟨0,0,0⟩⟩,⟨0,0,0⟩⟩,0,⟨0,0,0⟩,⟨0,(fun i=>0)⟩,0,⟨⟨0,0,0,0,0⟩,⟨⟨0,0,0,0⟩,0,0,0,false,0⟩⟩⟩⟩
def dA (s:aA) (p:Path):=goN iE ⟨(bU s p).st.t5,(bU s p).st.aX,((bU s p).st.s.eo.get (Int.toNat (bU s p).st.n.fA)).az,(((bU s p).st.s.eo.get (Int.toNat (bU s p).st.n.fA)).az.n:Int),0,(bU s p).st.t4,(bU s p).st.w,(bU s p).st.out,((bU s p).st.s.eo.get (Int.toNat (bU s p).st.n.fA))⟩
def wg (s:aA) (p:Path):=xl (dA s p).st.m.uV
def wh (s:aA) (p:Path):=Az (dA s p).st.m
def wi (s:aA) (p:Path):=tQ (dA s p).st.aX
def wj (s:aA) (p:Path):=IG (dA s p).st.out.item.az
def yR (s:aA) (p:Path):Option (Place×Int):=(some (⟨⟨(dA s p).st.out.item.az,((wg s p).getD default),((wh s p).getD default).fst,((wi s p).getD default).fst,(dA s p).st.out.item.box⟩,(dA s p).st.out.rf,(dA s p).st.out.av⟩,(dA s p).st.w.e))
def wk (s:aA) (p:Path):Option (Place×Int):=(cond (Fs s p).isSome (cond ((bU s p).by (aG.ah.exit 0)) (cond ((decide (0<=(bU s p).st.n.fA))&&(decide ((bU s p).st.n.fA < ((bU s p).st.s.eo.n:Int)))) (cond (cond (cond (cond (cond (ak (bU s p).st.out.av.n (bU s p).st.out.av.n) (ak (bU s p).st.out.item.az.n (bU s p).st.out.item.az.n) false) (ak (bU s p).st.t4.av.n (bU s p).st.t4.av.n) false) (ak (bU s p).st.t4.item.az.n (bU s p).st.t4.item.az.n) false) (ak (bU s p).st.aX.n (bU s p).st.aX.n) false) (cond ((dA s p).by (aG.ah.exit 2)) (cond (wg s p).isSome (cond (wh s p).isSome (cond (wi s p).isSome (cond ((dA s p).st.w.e==0) (cond (decide (((dA s p).st.m.az.n:Int) > 0)) (cond (wj s p).isSome (some (⟨⟨(dA s p).st.out.item.az,((wg s p).getD default),((wh s p).getD default).fst,((wi s p).getD default).fst,((wj s p).getD default).fst⟩,(dA s p).st.out.rf,(dA s p).st.out.av⟩,((wj s p).getD default).snd)) none)
      (yR s p))
      (yR s p)) none) none) none) none) none) none) none) none)
theorem Yk (s:aA) (p:Path):ou [(39,RL),(38,Cd),(37,Im),(36,xm),(13,xt),(52,Fo),(26,CY)] [CG,HA] 21 [iY s,Cz p] = (wk s p).map (fun (r:Place×Int)=>KV.kL [FV r.1,(kI .i64) r.2]):=by
 unfold wk yR
 try simp only [bG]
 kernel_rfl
def Kc:List KV->KR KV:=bC PG 21 (bO (fun (r:Place×Int)=>KV.kL [FV r.1,(kI .i64) r.2]) fun vs=>wk (dC (v9 vs 0)) (CA (v9 vs 1)))
theorem Lf:bB PG 21 Kc:=dE (ai.cons Ov (ai.cons CF (ai.cons G8 (ai.cons yF (ai.cons tP (ai.cons BL (ai.cons zn ai.nil))))))) (rM Hy (rM QS bj.nil)) fun w=>Yk (dC (g0 34 (w 0))) (CA (g0 50 (w 1)))
end
end Go.Proofs.Ytckbdndhmcoihaa.b
end
section
namespace Go.Proofs.Ytckbdndhmcoihaa.sc
open Go Go.K Go.Proofs.Ytckbdndhmcoihaa.nodes
def Kd (m:b.fT) (v:b.fe):b.fe:=⟨dot m.m.e0 v.x v.y v.z / 256+m.t.x,dot m.m.e1 v.x v.y v.z / 256+m.t.y,dot m.m.e2 v.x v.y v.z / 256+m.t.z⟩
open Classical in
noncomputable def gi (m:b.fT) (v:b.fe):b.fe×Int:=if Fq m/\rY v 4096/\rY (Kd m v) 4096 then (Kd m v,0) else (J0,20)
theorem QT (m:b.fT) (v:b.fe):b.rv m v=some (gi m v):=by
 unfold b.rv b.Ef b.Ee b.J2 b.J1;obtain ⟨e,h1,h2⟩:=zq m;rw [h1,Gi];simp only [fj,dI,aj];rcases h2 with ⟨rfl,hm⟩ | ⟨rfl,hm⟩
 ·have hz:((0:Int) != 0)=false:=rfl
  rw [hz,aH];by_cases hv:rY v 4096
  ·rw [aD hv,Zt m v hm hv,hz]
   simp only [fj,dI,aj,aH];rw [Gi];simp only [fj,dI,aj];by_cases hk:rY (Kd m v) 4096
   ·have e1:gi m v=(Kd m v,0):=aD ⟨hm,hv,hk⟩
    rw [e1];unfold Kd at hk ⊢;rw [aD hk,hz];rfl
   ·have e1:gi m v=(J0,20):=aa fun q=>hk q.2.2
    rw [e1];unfold Kd at hk;rw [aa hk];rfl
  ·have e1:gi m v=(J0,20):=aa fun q=>hv q.2.1
   rw [aa hv,e1];rfl
 ·have e1:gi m v=(J0,20):=aa fun q=>hm q.1
  rw [e1];rfl
theorem ajr {m:b.fT} {v:b.fe} (h:(gi m v).2=0):Fq m/\rY v 4096/\rY (Kd m v) 4096/\gi m v=(Kd m v,0):=by
 unfold gi at h ⊢;by_cases k:Fq m/\rY v 4096/\rY (Kd m v) 4096
 ·rw [aD k]; exact ⟨k.1,k.2.1,k.2.2,rfl⟩
 ·rw [aa k] at h; simp at h
noncomputable def fV (s:b.aA) (p:b.Path):Nat->b.fT×Int
 | 0=>(unit,0)
 | j+1=>if (fV s p j).2=0 then (if (nodeAt s p j).kind=2 then uC (fV s p j).1 (nodeAt s p j).mP else if (nodeAt s p j).kind=4 then ((fV s p j).1,(gi (fV s p j).1 (nodeAt s p j).eR).2) else fV s p j) else fV s p j
noncomputable def Ox (s:b.aA) (p:b.Path) (j:Nat):b.Gate:=
 ⟨if (fV s p j).2=0 then (gi (fV s p j).1 (nodeAt s p j).eR).1 else J0,
  if p.kids.get j < ((nodeAt s p j).fw.n:Int) then (if 0 < p.kids.get j then (nodeAt s p j).fw.get (p.kids.get j - 1).toNat else 0) else 0,
  if p.kids.get j < ((nodeAt s p j).fw.n:Int) then (nodeAt s p j).fw.get (p.kids.get j).toNat else 0⟩
noncomputable def mI (s:b.aA) (p:b.Path):Nat->Sl b.Gate
 | 0=>⟨0,fun i=>⟨⟨0,0,0⟩,0,0⟩⟩
 | j+1=>if (nodeAt s p j).kind=4 then (mI s p j).push (Ox s p j) else mI s p j
open Classical in
noncomputable def SZ (s:b.aA) (p:b.Path):Nat->Bool
 | 0=>true
 | j+1=>if (nodeAt s p j).kind=3/\¬ QN (nodeAt s p j).rf (p.kids.get j) then false else SZ s p j
noncomputable def oC (s:b.aA) (p:b.Path):Nat->Sl b.dv
 | 0=>⟨0,fun i=>⟨⟨0,0,0,0,0⟩,⟨⟨0,0,0,0⟩,0,0,0,false,0⟩⟩⟩
 | j+1=>(oC s p j).push (nodeAt s p j).bH
theorem Gr (s:b.aA) (p:b.Path):∀ j,(oC s p j).n=j
 | 0=>rfl
 | j+1=>by show (oC s p j).n+1=j+1; rw [Gr s p j]
theorem Uz (s:b.aA) (p:b.Path):∀ j,(mI s p j).n<=j
 | 0=>aC _
 | j+1=>by
  have:=Uz s p j;show (if (nodeAt s p j).kind=4 then (mI s p j).push (Ox s p j) else mI s p j).n<=j+1;split
  ·show (mI s p j).n+1<=j+1; omega
  ·omega
def uX:b.Item:=⟨⟨0,(fun i=>⟨0,0,0⟩)⟩,⟨0,(fun i=>⟨0,0⟩)⟩,⟨0,(fun i=>⟨0,0,0⟩)⟩,⟨⟨0,0,0,0⟩,0,0,0,false,0⟩,⟨⟨0,0,0⟩,⟨0,0,0⟩⟩⟩
def Oy:b.Place:=⟨uX,false,⟨0,(fun i=>⟨⟨0,0,0⟩,0,0⟩)⟩⟩
noncomputable def anM (s:b.aA) (p:b.Path):Nat->b.Node
 | 0=>afF
 | j+1=>nodeAt s p j
noncomputable def M3 (s:b.aA) (p:b.Path) (j:Nat):b.cS:=
 ⟨0,oC s p j,p.nodes,(p.nodes.n:Int),(j:Int),s,p,Oy,⟨(fV s p j).1,(fV s p j).2⟩,⟨uX,SZ s p j,mI s p j⟩,anM s p j⟩
theorem Yl {s:b.aA} {p:b.Path} {j:Nat} (h:(nodeAt s p j).kind=2) (h0:(fV s p j).2=0):fV s p (j+1)=uC (fV s p j).1 (nodeAt s p j).mP:=by
 show (if (fV s p j).2=0 then (if (nodeAt s p j).kind=2 then uC (fV s p j).1 (nodeAt s p j).mP else if (nodeAt s p j).kind=4 then ((fV s p j).1,(gi (fV s p j).1 (nodeAt s p j).eR).2) else fV s p j) else fV s p j)=_;rw [aD h0,aD h]
theorem RN {s:b.aA} {p:b.Path} {j:Nat} (h0:(fV s p j).2≠0):fV s p (j+1)=fV s p j:=by
 show (if (fV s p j).2=0 then (if (nodeAt s p j).kind=2 then uC (fV s p j).1 (nodeAt s p j).mP else if (nodeAt s p j).kind=4 then ((fV s p j).1,(gi (fV s p j).1 (nodeAt s p j).eR).2) else fV s p j) else fV s p j)=_;rw [aa h0]
theorem UA {s:b.aA} {p:b.Path} {j:Nat} (h:(nodeAt s p j).kind=4) (h0:(fV s p j).2=0):fV s p (j+1)=((fV s p j).1,(gi (fV s p j).1 (nodeAt s p j).eR).2):=by
 show (if (fV s p j).2=0 then (if (nodeAt s p j).kind=2 then uC (fV s p j).1 (nodeAt s p j).mP else if (nodeAt s p j).kind=4 then ((fV s p j).1,(gi (fV s p j).1 (nodeAt s p j).eR).2) else fV s p j) else fV s p j)=_;rw [aD h0,aa (by omega),aD h]
theorem Oz {s:b.aA} {p:b.Path} {j:Nat} (h:(nodeAt s p j).kind≠2) (h' : (nodeAt s p j).kind≠4):fV s p (j+1)=fV s p j:=by
 show (if (fV s p j).2=0 then (if (nodeAt s p j).kind=2 then uC (fV s p j).1 (nodeAt s p j).mP else if (nodeAt s p j).kind=4 then ((fV s p j).1,(gi (fV s p j).1 (nodeAt s p j).eR).2) else fV s p j) else fV s p j)=_;rw [aa h,aa h'];split <;> rfl
theorem acM {s:b.aA} {p:b.Path} {j:Nat} (h:(nodeAt s p j).kind=4):mI s p (j+1)=(mI s p j).push (Ox s p j):=by
 show (if (nodeAt s p j).kind=4 then (mI s p j).push (Ox s p j) else mI s p j)=_;rw [aD h]
theorem Ke {s:b.aA} {p:b.Path} {j:Nat} (h:(nodeAt s p j).kind≠4):mI s p (j+1)=mI s p j:=by
 show (if (nodeAt s p j).kind=4 then (mI s p j).push (Ox s p j) else mI s p j)=_;rw [aa h]
theorem ajs {s:b.aA} {p:b.Path} {j:Nat} (h:(nodeAt s p j).kind=3) (h' : ¬ QN (nodeAt s p j).rf (p.kids.get j)):SZ s p (j+1)=false:=by
 unfold SZ;rw [aD ⟨h,h'⟩]
theorem QU {s:b.aA} {p:b.Path} {j:Nat} (h : ¬ ((nodeAt s p j).kind=3/\¬ QN (nodeAt s p j).rf (p.kids.get j))):SZ s p (j+1)=SZ s p j:=by
 conv=>lhs; unfold SZ
 rw [aa h]
theorem ahS {s:b.aA} {p:b.Path} (ha:G7 s p) (Xz:ael s) (hn:p.nodes.n<=1000) {j:Nat} (hj:j < p.nodes.n) (hk:(nodeAt s p j).kind=3\/(nodeAt s p j).kind=4->j < p.kids.n) (hf:(nodeAt s p j).fw.n<=1000000) :
  b.fJ (M3 s p j) = .next (M3 s p (j+1)):=by
 have hg:=Uz s p j;have ej:Int.toNat (j:Int)=j:=rfl;have d1:decide ((j:Int) < (p.nodes.n:Int))=true:=au (by omega);have d2:decide ((0:Int)<=(j:Int))=true:=au (by omega);obtain ⟨s1,s2⟩:=Gl ha (show j<=p.kids.n by have:=ha.2.2.2.1; omega);have e1:aK ((j:Int)+1)=((j+1:Nat):Int):=by rw [cM (by omega) (by omega)]; omega
 have a1:dP 56 (oC s p j).n 1=true:=qH (by omega) (by rw [Gr]; omega);have a2:dP 40 (mI s p j).n 1=true:=qH;have s1':=au s1;have s2':=au s2;have gz:oC s p (j+1)=(oC s p j).push (nodeAt s p j).bH:=rfl;have hnd:anM s p (j+1)=nodeAt s p j:=rfl;have ard:M3 s p (j+1)=⟨0,(oC s p j).push (nodeAt s p j).bH,p.nodes,(p.nodes.n:Int),((j+1:Nat):Int),s,p,Oy,⟨(fV s p (j+1)).1,(fV s p (j+1)).2⟩,⟨uX,SZ s p (j+1),mI s p (j+1)⟩,nodeAt s p j⟩:=rfl;rw [ard];have onu:=Xz (p.nodes.get j).slot.toNat (by omega);unfold M3 b.fJ b.oW b.oV b.oU b.ba b.cT b.cU
 dsimp only
 rw [d1,d2,ej,s1',s2',a1,e1];have anN:s.nodes.get (p.nodes.get j).slot.toNat=nodeAt s p j:=rfl;rw [anN] at onu;rw [anN,acB];generalize hN:nodeAt s p j=n at hk hf onu ⊢;have hgk:∀ kk,(p.kids.get j)=kk->True:=fun _ _=>trivial;by_cases k2:n.kind=2
 ·have b2:(n.kind==(2:Int))=true:=Er.2 k2
  have b3:(n.kind==(3:Int))=false:=by rw [<- Bool.not_eq_true,Er]; omega
  have b4:(n.kind==(4:Int))=false:=by rw [<- Bool.not_eq_true,Er]; omega
  rw [QU (by rw [hN]; omega),Ke (by rw [hN]; omega),b2,b3,b4];by_cases h0:(fV s p j).2=0
  ·rw [Yl (by rw [hN]; exact k2) h0,hN]
   rw [Er.2 h0];simp only [↓aj,↓aH,cz,cq,fj,dI]
  ·rw [RN h0]
   have b0:((fV s p j).2==(0:Int))=false:=by rw [<- Bool.not_eq_true,Er]; exact h0
   rw [b0];simp only [↓aj,↓aH,cz,cq,fj,dI]
 ·have b2:(n.kind==(2:Int))=false:=by rw [<- Bool.not_eq_true,Er]; exact k2
  rw [b2];by_cases k3:n.kind=3
  ·have RQ:=hk (.inl k3)
   have b3:(n.kind==(3:Int))=true:=Er.2 k3;have b4:(n.kind==(4:Int))=false:=by rw [<- Bool.not_eq_true,Er]; omega
   have dk:decide ((j:Int) < (p.kids.n:Int))=true:=au (by omega);obtain ⟨g1,g2⟩:=Uy ha RQ;have dg:decide (p.kids.get j < 0)=false:=aZ (by omega);rw [Ke (by rw [hN]; omega),Oz (by rw [hN]; omega) (by rw [hN]; omega),b3,b4,dk,dg];have hsh:=Zu (k:=p.kids.get j) onu;by_cases akP:QN n.rf (p.kids.get j)
   ·have bs:(w16 ((Dm IntKind.u16 (Int.fdiv n.rf ((2:Int) ^ (min (Int.toNat (p.kids.get j)) 16))) (1:Int):Nat):Int)==(0:Int))=false:=by rw [<- Bool.not_eq_true,hsh]; exact fun q=>q akP
    rw [QU (by rw [hN]; exact fun q=>q.2 akP),bs];simp only [↓aj,↓aH,cz,cq,HO]
   ·have bs:=hsh.2 akP
    rw [ajs (by rw [hN]; exact k3) (by rw [hN]; exact akP),bs];simp only [↓aj,↓aH,cz,cq,HO]
  ·have b3:(n.kind==(3:Int))=false:=by rw [<- Bool.not_eq_true,Er]; exact k3
   rw [b3,QU (by rw [hN]; exact fun q=>k3 q.1)];by_cases k4:n.kind=4
   ·have RQ:=hk (.inr k4)
    have b4:(n.kind==(4:Int))=true:=Er.2 k4;have dk:decide ((j:Int) < (p.kids.n:Int))=true:=au (by omega);obtain ⟨g1,g2⟩:=Uy ha RQ;have dg:decide (0<=p.kids.get j)=true:=au (by omega);rw [acM (by rw [hN]; exact k4),b4,dk,dg,a2];have H8:Ox s p j=⟨if (fV s p j).2=0 then (gi (fV s p j).1 n.eR).1 else J0,if p.kids.get j < (n.fw.n:Int) then (if 0 < p.kids.get j then n.fw.get (p.kids.get j - 1).toNat else 0) else 0,if p.kids.get j < (n.fw.n:Int) then n.fw.get (p.kids.get j).toNat else 0⟩:=by
     unfold Ox;rw [hN]
    rw [H8];generalize p.kids.get j=q at *;have fin:∀ {e:Bool},((fV s p j).2 != 0)=e->(e=true->fV s p (j+1)=fV s p j)/\(e=false->(fV s p j).2=0/\fV s p (j+1)=((fV s p j).1,(gi (fV s p j).1 n.eR).2)):=fun {e} he=>by
     subst he;refine ⟨fun h=>RN (neI.1 h),fun h=>?_⟩;have h0:=bne_eq_false_iff_eq.1 h;refine ⟨h0,?_⟩;rw [UA (by rw [hN]; exact k4) h0,hN]
    cases he:((fV s p j).2 != 0) with
    | true=>
     rw [(fin he).1 rfl];have h0 : ¬ (fV s p j).2=0:=neI.1 he;rw [aa h0];by_cases hq:q < (n.fw.n:Int)
     ·rw [aD hq,aD hq,au hq]
      by_cases hp:0 < q
      ·have e2:aK (q - 1)=q - 1:=cM (by omega) (by omega)
       have d5:decide (0<=q - 1)=true:=au (by omega);have d6:decide (q - 1 < (n.fw.n:Int))=true:=au (by omega);rw [aD hp,show decide (q > 0)=true from au hp,e2,d5,d6];simp only [↓aj,↓aH,cz,cq,fj,dI];rfl
      ·rw [aa hp,show decide (q > 0)=false from aZ hp]
       simp only [↓aj,↓aH,cz,cq,fj,dI];rfl
     ·rw [aa hq,aa hq,aZ hq]
      simp only [↓aj,↓aH,cz,cq,fj,dI];rfl
    | false=>
     obtain ⟨h0,e9⟩:=(fin he).2 rfl;rw [e9,aD h0,QT (fV s p j).1 n.eR];by_cases hq:q < (n.fw.n:Int)
     ·rw [aD hq,aD hq,au hq]
      by_cases hp:0 < q
      ·have e2:aK (q - 1)=q - 1:=cM (by omega) (by omega)
       have d5:decide (0<=q - 1)=true:=au (by omega);have d6:decide (q - 1 < (n.fw.n:Int))=true:=au (by omega);rw [aD hp,show decide (q > 0)=true from au hp,e2,d5,d6];simp only [↓aj,↓aH,cz,cq,fj,dI]
      ·rw [aa hp,show decide (q > 0)=false from aZ hp]
       simp only [↓aj,↓aH,cz,cq,fj,dI]
     ·rw [aa hq,aa hq,aZ hq]
      simp only [↓aj,↓aH,cz,cq,fj,dI]
   ·have b4:(n.kind==(4:Int))=false:=by rw [<- Bool.not_eq_true,Er]; exact k4
    rw [Ke (by rw [hN]; exact k4),Oz (by rw [hN]; exact k2) (by rw [hN]; exact k4),b4];simp only [↓aj,↓aH,cz,cq]
end Go.Proofs.Ytckbdndhmcoihaa.sc
end
section
namespace Go.Proofs.Ytckbdndhmcoihaa.sc
open Go Go.K
def ajt (s:b.dv) (i:b.cQ):b.cQ:=cond (s.cl.e0==0||(i.kept.e0&&decide (s.cl.e0 < 4))) i ⟨⟨s.look.color,i.look.dL,i.look.o9,i.look.ob,i.look.kC,i.look.bin⟩,⟨(s.cl.e0==3||s.cl.e0==7),i.kept.e1,i.kept.e2,i.kept.e3,i.kept.e4⟩⟩
def aju (s:b.dv) (i:b.cQ):b.cQ:=cond (s.cl.e1==0||(i.kept.e1&&decide (s.cl.e1 < 4))) i ⟨⟨i.look.color,s.look.dL,i.look.o9,i.look.ob,i.look.kC,i.look.bin⟩,⟨i.kept.e0,(s.cl.e1==3||s.cl.e1==7),i.kept.e2,i.kept.e3,i.kept.e4⟩⟩
def ajv (s:b.dv) (i:b.cQ):b.cQ:=cond (s.cl.e2==0||(i.kept.e2&&decide (s.cl.e2 < 4))) i ⟨⟨i.look.color,i.look.dL,s.look.o9,i.look.ob,i.look.kC,i.look.bin⟩,⟨i.kept.e0,i.kept.e1,(s.cl.e2==3||s.cl.e2==7),i.kept.e3,i.kept.e4⟩⟩
def ajw (s:b.dv) (i:b.cQ):b.cQ:=cond (s.cl.e3==0||(i.kept.e3&&decide (s.cl.e3 < 4))) i ⟨⟨i.look.color,i.look.dL,i.look.o9,s.look.ob,i.look.kC,i.look.bin⟩,⟨i.kept.e0,i.kept.e1,i.kept.e2,(s.cl.e3==3||s.cl.e3==7),i.kept.e4⟩⟩
def ajx (s:b.dv) (i:b.cQ):b.cQ:=cond (s.cl.e4==0||(i.kept.e4&&decide (s.cl.e4 < 4))) i ⟨⟨i.look.color,i.look.dL,i.look.o9,i.look.ob,s.look.kC,s.look.bin⟩,⟨i.kept.e0,i.kept.e1,i.kept.e2,i.kept.e3,(s.cl.e4==3||s.cl.e4==7)⟩⟩
theorem aoy (i:b.cQ) (s:b.dv) (t:b.cQ) (h:mi s.cl.e0):b.eU ⟨0,i,s,t⟩ = .next ⟨1,ajt s i,s,t⟩:=by
 obtain ⟨l,⟨k0,k1,k2,k3,k4⟩⟩:=i;obtain ⟨⟨e0,e1,e2,e3,e4⟩,m⟩:=s;rcases h with h | h | h | h | h <;> (dsimp only at h; subst h; cases k0 <;> kernel_rfl)
theorem aoz (i:b.cQ) (s:b.dv) (t:b.cQ) (h:mi s.cl.e1):b.eU ⟨1,i,s,t⟩ = .next ⟨2,aju s i,s,t⟩:=by
 obtain ⟨l,⟨k0,k1,k2,k3,k4⟩⟩:=i;obtain ⟨⟨e0,e1,e2,e3,e4⟩,m⟩:=s;rcases h with h | h | h | h | h <;> (dsimp only at h; subst h; cases k1 <;> kernel_rfl)
theorem aoA (i:b.cQ) (s:b.dv) (t:b.cQ) (h:mi s.cl.e2):b.eU ⟨2,i,s,t⟩ = .next ⟨3,ajv s i,s,t⟩:=by
 obtain ⟨l,⟨k0,k1,k2,k3,k4⟩⟩:=i;obtain ⟨⟨e0,e1,e2,e3,e4⟩,m⟩:=s;rcases h with h | h | h | h | h <;> (dsimp only at h; subst h; cases k2 <;> kernel_rfl)
theorem aoB (i:b.cQ) (s:b.dv) (t:b.cQ) (h:mi s.cl.e3):b.eU ⟨3,i,s,t⟩ = .next ⟨4,ajw s i,s,t⟩:=by
 obtain ⟨l,⟨k0,k1,k2,k3,k4⟩⟩:=i;obtain ⟨⟨e0,e1,e2,e3,e4⟩,m⟩:=s;rcases h with h | h | h | h | h <;> (dsimp only at h; subst h; cases k3 <;> kernel_rfl)
theorem aoC (i:b.cQ) (s:b.dv) (t:b.cQ) (h:mi s.cl.e4):b.eU ⟨4,i,s,t⟩ = .next ⟨5,ajx s i,s,t⟩:=by
 obtain ⟨l,⟨k0,k1,k2,k3,k4⟩⟩:=i;obtain ⟨⟨e0,e1,e2,e3,e4⟩,m⟩:=s;rcases h with h | h | h | h | h <;> (dsimp only at h; subst h; cases k4 <;> kernel_rfl)
def made (s:b.dv) (i:b.cQ):b.cQ:=ajx s (ajw s (ajv s (aju s (ajt s i))))
theorem go5 {X:Type} {step:X->aW X} {x0 x1 x2 x3 x4 x5 xe:X} {e:aG.ah} (h0:step x0 = .next x1) (h1:step x1 = .next x2) (h2:step x2 = .next x3) (h3:step x3 = .next x4) (h4:step x4 = .next x5) (h5:step x5 = .out e xe) (he:mK e=false):goN step x0 = .out e xe:=by
 obtain ⟨e',x',q1,q2,q3⟩:=ja (step:=step) (fun j x=>x=match j with
  | 0=>x0
  | 1=>x1
  | 2=>x2
  | 3=>x3
  | 4=>x4
  | _=>x5) (fun e' x'=>e' = e/\x' = xe) 5 (by unfold gx; omega) (by
   rintro j _ hj rfl;rcases (by omega:j=0\/j=1\/j=2\/j=3\/j=4\/j=5) with rfl | rfl | rfl | rfl | rfl | rfl
   ·exact .inl ⟨_,h0,by omega,rfl⟩
   ·exact .inl ⟨_,h1,by omega,rfl⟩
   ·exact .inl ⟨_,h2,by omega,rfl⟩
   ·exact .inl ⟨_,h3,by omega,rfl⟩
   ·exact .inl ⟨_,h4,by omega,rfl⟩
   ·exact .inr ⟨_,_,h5,he,rfl,rfl⟩) (x:=x0) rfl
 rw [q1,q2,q3]
theorem ahT (i:b.cQ) (s:b.dv) (h:aap s):b.tK i s=some (made s i):=by
 unfold b.tK b.DY;obtain ⟨h0,h1,h2,h3,h4⟩:=h;rw [go5 (aoy _ s _ h0) (aoz _ s _ h1) (aoA _ s _ h2) (aoB _ s _ h3) (aoC _ s _ h4) (e:=.exit 0) rfl rfl];cases hz:((s.cl.e0==0)&&((s.cl.e1==0)&&((s.cl.e2==0)&&((s.cl.e3==0)&&((s.cl.e4==0)&&true))))) with
 | false=>rfl
 | true=>
  simp only [ao,vf,and_true] at hz;obtain ⟨z0,z1,z2,z3,z4⟩:=hz;have e:made s i=i:=by
   unfold made ajt aju ajv ajw ajx;rw [z0,z1,z2,z3,z4];rfl
  rw [e];rfl
end Go.Proofs.Ytckbdndhmcoihaa.sc
end
section
namespace Go.Proofs.Ytckbdndhmcoihaa.sc
open Go Go.K Go.Proofs.Ytckbdndhmcoihaa.nodes
def begin:b.cQ:=⟨⟨⟨255,255,255,255⟩,-1,0,0,false,0⟩,⟨false,false,false,false,false⟩⟩
def WD (l:Sl b.dv):Nat->b.cQ
 | 0=>begin
 | j+1=>made (l.get j) (WD l j)
open Classical in
noncomputable def Ym (l:Sl b.dv):b.kq×Int:=if l.n<=128 then (if ∀ j,j < l.n->M1 (l.get j) then ((WD l l.n).look,0) else (CC,8)) else (CC,4)
theorem adv (l:Sl b.dv) (hs:∀ j,j < l.n->RH (l.get j)):b.tQ l=some (Ym l):=by
 unfold b.tQ Ym;by_cases hn:((l.n:Nat):Int) > 128
 ·rw [au hn,aa (by omega)]
  rfl
 rw [aZ hn,aD (by omega)];have hb:b.Eh l=some begin:=rfl;have key:=mN (step:=b.iD) l.n (by unfold gx; omega) (fun j=>⟨0,l,((l.n:Nat):Int),(j:Int),CC,WD l j⟩) (fun j=>M1 (l.get j)) (e0:=.exit 0) (er:=.ret) rfl rfl (fun x'=>x'.t2=CC/\x'.t3=8) (xe:=⟨0,l,((l.n:Nat):Int),((l.n:Nat):Int),CC,WD l l.n⟩) (fun j hj=>by
  have e1:aK ((j:Int)+1)=((j+1:Nat):Int):=by rw [cM (by omega) (by omega)]; omega
  have d1:decide ((j:Int) < ((l.n:Nat):Int))=true:=au (by omega);have d2:decide ((0:Int)<=(j:Int))=true:=au (by omega);have ej:Int.toNat (j:Int)=j:=rfl;obtain ⟨e,q1,q2⟩:=Zs (l.get j);unfold b.iD b.si b.yG
  dsimp only
  rw [d1,d2,ej,e1,q1];simp only [cz,aj,fj,dI];rcases q2 with ⟨rfl,h⟩ | ⟨rfl,h⟩
  ·rw [ahT _ _ h.1]
   exact ⟨fun _=>rfl,fun k=>absurd h k⟩
  ·exact ⟨fun k=>absurd k h,fun _=>⟨_,rfl,rfl,rfl⟩⟩) (by
  unfold b.iD
  dsimp only
  rw [aZ (Int.lt_irrefl _)];rfl)
 rcases key with ⟨h1,h2⟩ | ⟨x',h1,⟨h2,h3⟩,j,h4,h5⟩
 ·have e0:b.jB l = .out (.exit 0) ⟨0,l,((l.n:Nat):Int),((l.n:Nat):Int),CC,WD l l.n⟩:=by
   unfold b.jB;rw [hb];exact h1
  rw [hb,e0,aD h2];rfl
 ·have e0:b.jB l = .out .ret x':=by
   unfold b.jB;rw [hb];exact h1
  rw [hb,e0,aa fun k=>h5 (k j h4)];show some (x'.t2,x'.t3)=_;rw [h2,h3]
noncomputable def C6 (m:b.fT) (e:Int) (v:Sl b.fe):Nat->Int
 | 0=>e
 | j+1=>if C6 m e v j=0 then (gi m (v.get j)).2 else C6 m e v j
noncomputable def HB (m:b.fT) (e:Int) (v:Sl b.fe):Nat->Sl b.fe
 | 0=>⟨0,fun i=>⟨0,0,0⟩⟩
 | j+1=>(HB m e v j).push (if C6 m e v j=0 then (gi m (v.get j)).1 else J0)
theorem Lg (m:b.fT) (e:Int) (v:Sl b.fe):∀ j,(HB m e v j).n=j
 | 0=>rfl
 | j+1=>by show (HB m e v j).n+1=j+1; rw [Lg m e v j]
theorem aen {m:b.fT} {e:Int} {v:Sl b.fe} {j:Nat} (h:C6 m e v j≠0):∀ k,j<=k->C6 m e v k≠0
 | 0,hk=>by rw [show j=0 by omega] at h; exact h
 | k+1,hk=>by
  by_cases c:j=k+1
  ·rw [<- c]; exact h
  ·have:=aen h k (by omega)
   show (if C6 m e v k=0 then (gi m (v.get k)).2 else C6 m e v k)≠0;rw [aa this]; exact this
theorem aeo {m:b.fT} {e:Int} {v:Sl b.fe} : ∀ n,C6 m e v n=0->e=0/\∀ k,k < n->(gi m (v.get k)).2=0/\(HB m e v n).get k=(gi m (v.get k)).1
 | 0,h=>⟨h,fun k hk=>absurd hk (by omega)⟩
 | n+1,h=>by
  by_cases h0:C6 m e v n=0
  ·obtain ⟨h1,h2⟩:=aeo n h0
   have hn:(gi m (v.get n)).2=0:=by
    have h3:(if C6 m e v n=0 then (gi m (v.get n)).2 else C6 m e v n)=0:=h;rwa [aD h0] at h3
   refine ⟨h1,fun k hk=>?_⟩;show _/\((HB m e v n).push (if C6 m e v n=0 then (gi m (v.get n)).1 else J0)).get k=_;rw [aD h0];by_cases c:k=n
   ·subst c
    refine ⟨hn,?_⟩;have:=Sl.CZ (s:=HB m e v k) (v:=(gi m (v.get k)).1);rw [Lg] at this;exact this
   ·rw [Sl.Fp (by rw [Lg]; omega)]
    exact h2 k (by omega)
  ·exact absurd h (aen h0 (n+1) (by omega))
theorem ajy (m:b.fT) (e:Int) (v:Sl b.fe) (hv:v.n<=1000) (sty:Sl b.dv) (t4:b.Place) (rf:Bool) (g:Sl b.Gate) (ms:b.gE) (hg:g.n<=1000) :
  goN b.iE ⟨0,sty,v,(v.n:Int),0,t4,⟨m,e⟩,⟨uX,rf,g⟩,ms⟩ = .out (.exit 2) ⟨0,sty,v,(v.n:Int),(v.n:Int),t4,⟨m,C6 m e v v.n⟩,⟨⟨HB m e v v.n,uX.uV,uX.acK,uX.look,uX.box⟩,rf,g⟩,ms⟩:=by
 obtain ⟨e',x',q1,q2,q3⟩:=ja (step:=b.iE)
  (fun j x=>x=⟨0,sty,v,(v.n:Int),(j:Int),t4,⟨m,C6 m e v j⟩,⟨⟨HB m e v j,uX.uV,uX.acK,uX.look,uX.box⟩,rf,g⟩,ms⟩)
  (fun e' x'=>e' = .exit 2/\x' = ⟨0,sty,v,(v.n:Int),(v.n:Int),t4,⟨m,C6 m e v v.n⟩,⟨⟨HB m e v v.n,uX.uV,uX.acK,uX.look,uX.box⟩,rf,g⟩,ms⟩)
  v.n (by unfold gx; omega) (by
   rintro j _ hj rfl;unfold b.iE b.sk
   dsimp only
   have ej:Int.toNat (j:Int)=j:=rfl;by_cases bm:j < v.n
   ·have d1:decide ((j:Int) < (v.n:Int))=true:=au (by omega)
    have d2:decide ((0:Int)<=(j:Int))=true:=au (by omega);have e1:aK ((j:Int)+1)=((j+1:Nat):Int):=by rw [cM (by omega) (by omega)]; omega
    have a1:dP 24 (HB m e v j).n 1=true:=qH (by omega) (by rw [Lg]; omega);rw [d1,d2,ej,e1,a1,QT];refine .inl ⟨_,?_,by omega,rfl⟩;have s1:C6 m e v (j+1)=if C6 m e v j=0 then (gi m (v.get j)).2 else C6 m e v j:=rfl;have s2:HB m e v (j+1)=(HB m e v j).push (if C6 m e v j=0 then (gi m (v.get j)).1 else J0):=rfl;rw [s1,s2];by_cases h0:C6 m e v j=0
    ·rw [aD h0,aD h0,show ((C6 m e v j) != (0:Int))=false from bne_eq_false_iff_eq.2 h0]
     simp only [↓aj,↓aH,cz,cq,fj,dI]
    ·rw [aa h0,aa h0,neI.2 h0]
     simp only [↓aj,↓aH,cz,cq];rfl
   ·have:j=v.n:=by omega
    subst this;rw [aZ (Int.lt_irrefl _)];simp only [↓aj,↓aH,cq];exact .inr ⟨_,_,rfl,rfl,rfl,rfl⟩) (x:=⟨0,sty,v,(v.n:Int),0,t4,⟨m,e⟩,⟨uX,rf,g⟩,ms⟩) rfl
 rw [q1,q2,q3]
theorem ahU (s:Sl b.kJ) (h:s.n<=1000):b.xl s=some s:=by
 unfold b.xl BH;have:dP 16 0 s.n=true:=qH;rw [this];rfl
theorem ajz {m:b.gE} (hk:JZ m) (hm:Il m):∃ l e,b.Az m=some (l,e):=by
 unfold b.Az b.Eg b.J3;rw [acx m hk,(SR m).2 hm];have hf:=hm.1.2.2;obtain ⟨l,r,q1,_⟩:=acw m hk (by omega);rw [q1];exact ⟨_,_,rfl⟩
def InB (n:Int):Prop:=-32768<=n/\n<=32768
instance (n:Int):Decidable (InB n):=inferInstanceAs (Decidable (_/\_))
theorem Yn (n:Int):b.C0 n=some (decide (InB n)):=by
 unfold b.C0;by_cases h:n >= -(32768:Int)
 ·rw [au h,aj]
  by_cases k:n<=32768
  ·rw [au k,au (show InB n from ⟨h,k⟩)]
  ·rw [aZ k,aZ fun q:InB n=>k q.2]
 ·rw [aZ h,aH,aZ fun q:InB n=>h q.1]
def A9 (x:b.wb) (v:b.fe):Prop:=(x.low.x<=v.x/\v.x<=x.high.x)/\(x.low.y<=v.y/\v.y<=x.high.y)/\(x.low.z<=v.z/\v.z<=x.high.z)
theorem ajA (x y:b.wb):b.Gp x y=some ⟨⟨min x.low.x y.low.x,min x.low.y y.low.y,min x.low.z y.low.z⟩,⟨max x.high.x y.high.x,max x.high.y y.high.y,max x.high.z y.high.z⟩⟩:=rfl
theorem anO (l:Sl b.fe) (hl:l.n<=4096):(goN b.lH ⟨l,0,l,(l.n:Int),0,⟨⟨0,0,0⟩,⟨0,0,0⟩⟩⟩ = .out (.exit 0) ⟨l,0,l,(l.n:Int),(l.n:Int),⟨⟨0,0,0⟩,⟨0,0,0⟩⟩⟩)\/
  ∃ x',goN b.lH ⟨l,0,l,(l.n:Int),0,⟨⟨0,0,0⟩,⟨0,0,0⟩⟩⟩ = .out .ret x'/\x'.e=20:=by
 have key:=mN (step:=b.lH) l.n (by unfold gx; omega) (fun j=>⟨l,0,l,(l.n:Int),(j:Int),⟨⟨0,0,0⟩,⟨0,0,0⟩⟩⟩) (fun k=>InB (l.get k).x/\InB (l.get k).y/\InB (l.get k).z) (e0:=.exit 0) (er:=.ret) rfl rfl (fun x'=>x'.e=20) (xe:=⟨l,0,l,(l.n:Int),(l.n:Int),⟨⟨0,0,0⟩,⟨0,0,0⟩⟩⟩) (fun j hj=>by
  have e1:aK ((j:Int)+1)=((j+1:Nat):Int):=by rw [cM (by omega) (by omega)]; omega
  have d1:decide ((j:Int) < (l.n:Int))=true:=au (by omega);have d2:decide ((0:Int)<=(j:Int))=true:=au (by omega);have ej:Int.toNat (j:Int)=j:=rfl;unfold b.lH b.rZ b.J6 b.J7 b.J8
  dsimp only
  rw [d1,d2,ej,e1,Yn,Yn,Yn];simp only [cz,aj,fj,dI];by_cases h1:InB (l.get j).x
  ·by_cases h2:InB (l.get j).y
   ·by_cases h3:InB (l.get j).z
    ·rw [au h1,au h2,au h3]
     exact ⟨fun _=>rfl,fun k=>absurd ⟨h1,h2,h3⟩ k⟩
    ·rw [au h1,au h2,aZ h3]
     exact ⟨fun k=>absurd k.2.2 h3,fun _=>⟨_,rfl,rfl⟩⟩
   ·rw [au h1,aZ h2]
    exact ⟨fun k=>absurd k.2.1 h2,fun _=>⟨_,rfl,rfl⟩⟩
  ·rw [aZ h1]
   exact ⟨fun k=>absurd k.1 h1,fun _=>⟨_,rfl,rfl⟩⟩) (by
  unfold b.lH
  dsimp only
  rw [aZ (Int.lt_irrefl _)];rfl)
 rcases key with ⟨h1,_⟩ | ⟨x',h1,h2,_⟩
 ·exact .inl h1
 ·exact .inr ⟨x',h1,h2⟩
theorem ajB (e:Int) (l:Sl b.fe) (hl:l.n<=4096) (x0:b.wb) (C:b.fe->Prop) (hC:∀ v,C v->A9 x0 v):∃ x',goN b.l8 ⟨e,l,(l.n:Int),0,x0⟩ = .out (.exit 2) x'/\x'.e=e/\(∀ v,C v->A9 x'.b v)/\∀ k,k < l.n->A9 x'.b (l.get k):=by
 obtain ⟨e',x',q1,q2,q3⟩:=ja (step:=b.l8)
  (fun j x=>x.e=e/\x.t49=l/\x.t50=(l.n:Int)/\x.t51=(j:Int)/\(∀ v,C v->A9 x.b v)/\∀ k,k < j->A9 x.b (l.get k))
  (fun e' x'=>e' = .exit 2/\x'.e=e/\(∀ v,C v->A9 x'.b v)/\∀ k,k < l.n->A9 x'.b (l.get k))
  l.n (by unfold gx; omega) (by
   rintro j ⟨xe,t49,t50,t51,xb⟩ hj ⟨i1,i2,i3,i4,i5,i6⟩
   dsimp only at i1 i2 i3 i4 i5 i6
   subst i1 i2 i3 i4;unfold b.l8 b.Ha
   dsimp only
   have ej:Int.toNat (j:Int)=j:=rfl;by_cases bm:j < t49.n
   ·have d1:decide ((j:Int) < (t49.n:Int))=true:=au (by omega)
    have d2:decide ((0:Int)<=(j:Int))=true:=au (by omega);have e1:aK ((j:Int)+1)=((j+1:Nat):Int):=by rw [cM (by omega) (by omega)]; omega
    rw [d1,d2,ej,e1,ajA];simp only [cz,aj,fj,dI];have wide:∀ v,A9 xb v->A9 ⟨⟨min xb.low.x (t49.get j).x,min xb.low.y (t49.get j).y,min xb.low.z (t49.get j).z⟩,⟨max xb.high.x (t49.get j).x,max xb.high.y (t49.get j).y,max xb.high.z (t49.get j).z⟩⟩ v:=fun v hv=>by
     unfold A9 at hv ⊢
     dsimp only
     omega
    refine .inl ⟨_,rfl,by omega,rfl,rfl,rfl,rfl,fun v hv=>wide v (i5 v hv),fun k hk=>?_⟩;by_cases c:k=j
    ·subst c
     unfold A9
     dsimp only
     omega
    ·exact wide _ (i6 k (by omega))
   ·have:j=t49.n:=by omega
    subst this;rw [aZ (Int.lt_irrefl _)];exact .inr ⟨_,_,rfl,rfl,rfl,rfl,i5,i6⟩) (x:=⟨e,l,(l.n:Int),0,x0⟩) ⟨rfl,rfl,rfl,rfl,hC,fun k hk=>absurd hk (by omega)⟩
 subst q2;exact ⟨x',q1,q3⟩
theorem anP (l:Sl b.fe):∃ x e,b.IG l=some (x,e)/\(e=0->∀ k,k < l.n->A9 x (l.get k))/\(0 < l.n->l.n<=4096->e=0\/e=20):=by
 unfold b.IG b.Iq;by_cases h0:(l.n:Int)=0
 ·rw [Er.2 h0]
  exact ⟨_,_,rfl,fun q=>by simp at q,fun q=>by omega⟩
 rw [show ((l.n:Int)==0)=false by rw [<- Bool.not_eq_true,Er]; exact h0];by_cases h1:(l.n:Int) > 4096
 ·rw [au h1]
  exact ⟨_,_,rfl,fun q=>by simp at q,fun _ q=>by omega⟩
 rw [aZ h1];simp only [aH];rcases anO l (by omega) with h2 | ⟨x',h2,h3⟩
 ·have e0:b.il l = .out (.exit 0) ⟨l,0,l,(l.n:Int),(l.n:Int),⟨⟨0,0,0⟩,⟨0,0,0⟩⟩⟩:=h2
  have e1:b.Le l=goN b.l8 ⟨0,⟨l.n - 1,fun i=>l.get (1+i)⟩,((l.n - 1:Nat):Int),0,⟨l.get 0,l.get 0⟩⟩:=by
   unfold b.Le;rw [e0];rfl
  obtain ⟨y,q1,q2,q3,q4⟩:=ajB 0 ⟨l.n - 1,fun i=>l.get (1+i)⟩ (by show l.n - 1<=4096; omega) ⟨l.get 0,l.get 0⟩ (fun v=>v=l.get 0) (fun v hv=>by subst hv; exact ⟨⟨Int.le_refl _,Int.le_refl _⟩,⟨Int.le_refl _,Int.le_refl _⟩,Int.le_refl _,Int.le_refl _⟩);rw [e0,e1,q1];rw [aW.lF]
  dsimp only
  have d1:decide (0 < (l.n:Int))=true:=au (by omega);have d2:decide (1<=(l.n:Int))=true:=au (by omega);have d3:decide ((l.n:Int)<=(l.n:Int))=true:=au (Int.le_refl _);rw [d1,d2,d3];refine ⟨y.b,0,rfl,fun _ k hk=>?_,fun _ _=>.inl rfl⟩;by_cases c:k=0
  ·subst c; exact q3 _ rfl
  ·have:A9 y.b (l.get (1+(k - 1))):=q4 (k - 1) (by show k - 1 < l.n - 1; omega)
   rw [show 1+(k - 1)=k by omega] at this;exact this
 ·have e0:b.il l = .out .ret x':=h2
  rw [e0];simp only [aW.sh,aW.lF];refine ⟨x'.b,x'.e,rfl,fun q=>?_,fun _ _=>.inr h3⟩;rw [h3] at q;simp at q
theorem S3 (s:b.aA) (p:b.Path):∀ n j,j < n->(oC s p n).get j=(nodeAt s p j).bH
 | 0,j,h=>absurd h (ph _)
 | n+1,j,h=>by
  show ((oC s p n).push (nodeAt s p n).bH).get j=_;by_cases c:j=n
  ·subst c
   have:=Sl.CZ (s:=oC s p j) (v:=(nodeAt s p j).bH);rw [Gr] at this;exact this
  ·rw [Sl.Fp (by rw [Gr]; omega)]
   exact S3 s p n j (by omega)
structure vq (s:b.aA) (p:b.Path):Prop where
 inn:zr s
 on:ael s
 asked:G7 s p
 Yd:p.kids.n<=100
 fA:(nodeAt s p p.kids.n).kind=5
theorem vq.n {s:b.aA} {p:b.Path} (h:vq s p):p.nodes.n=p.kids.n+1:=h.asked.2.2.2.1
theorem vq.slot {s:b.aA} {p:b.Path} (h:vq s p) {j:Nat} (hj:j < p.nodes.n):(p.nodes.get j).slot.toNat < s.nodes.n:=by
 have:=Gl h.asked (show j<=p.kids.n by have:=h.n; omega);omega
theorem vq.node {s:b.aA} {p:b.Path} (h:vq s p) {j:Nat} (hj:j < p.nodes.n):aaq s (nodeAt s p j):=by
 have hh:=Zv h.asked (show j<=p.kids.n by have:=h.n; omega);have hs:=h.asked.1;exact (hs.2.2.2.1 _ (h.slot hj)).1 hh.2.2.2
theorem vq.at {s:b.aA} {p:b.Path} (h:vq s p):0<=(nodeAt s p p.kids.n).fA/\(nodeAt s p p.kids.n).fA < (s.eo.n:Int):=(h.node (by have:=h.n; omega)).2.2.2.2.2.2.2.2.1 h.fA
def gR (s:b.aA) (p:b.Path):b.gE:=s.eo.get (nodeAt s p p.kids.n).fA.toNat
theorem vq.ok {s:b.aA} {p:b.Path} (h:vq s p):Il (gR s p)/\JZ (gR s p):=by
 have:=h.at;exact ⟨h.asked.1.2.2.1.2.2.1 _ (by omega),h.inn.2.1 _ (by omega)⟩
theorem ahV {s:b.aA} {p:b.Path} (h:vq s p):goN b.fJ (M3 s p 0) = .out (.exit 0) (M3 s p p.nodes.n):=by
 have hn:=h.n;have hf:=h.Yd;obtain ⟨e',x',q1,q2,q3⟩:=ja (step:=b.fJ) (fun j x=>x=M3 s p j) (fun e' x'=>e' = .exit 0/\x' = M3 s p p.nodes.n) p.nodes.n (by unfold gx; omega) (by
  rintro j _ hj rfl;by_cases bm:j < p.nodes.n
  ·refine .inl ⟨_,ahS h.asked h.on (by omega) bm (fun k=>?_) ?_,by omega,rfl⟩
   ·by_cases c:j=p.kids.n
    ·subst c; have:=h.fA; omega
    ·omega
   ·have:=(h.inn.1 _ (h.slot bm)).2
    exact Nat.le_of_lt this
  ·have:j=p.nodes.n:=by omega
   subst this;refine .inr ⟨_,_,?_,rfl,rfl,rfl⟩;unfold M3 b.fJ
   dsimp only
   rw [aZ (Int.lt_irrefl _)];simp only [↓aj,↓aH,cq]) (x:=M3 s p 0) rfl
 rw [q1,q2,q3]
structure M4 (s:b.aA) (p:b.Path) (x:b.Place) (e:Int):Prop where
 on:x.rf=SZ s p p.nodes.n
 av:x.av=mI s p p.nodes.n
 az:x.item.az=HB (fV s p p.nodes.n).1 (fV s p p.nodes.n).2 (gR s p).az (gR s p).az.n
 ua:e=0->C6 (fV s p p.nodes.n).1 (fV s p p.nodes.n).2 (gR s p).az (gR s p).az.n=0
 box:e=0->∀ k,k < x.item.az.n->A9 x.item.box (x.item.az.get k)
 err:e=0\/e=20
theorem ahW (a c:b.fT):(uC a c).2=0\/(uC a c).2=20:=by
 unfold uC;split
 ·exact .inl rfl
 ·exact .inr rfl
theorem Zx (m:b.fT) (v:b.fe):(gi m v).2=0\/(gi m v).2=20:=by
 unfold gi;split
 ·exact .inl rfl
 ·exact .inr rfl
theorem ahX (s:b.aA) (p:b.Path):∀ j,(fV s p j).2=0\/(fV s p j).2=20
 | 0=>.inl rfl
 | j+1=>by
  have ih:=ahX s p j;by_cases h0:(fV s p j).2=0
  ·by_cases h2:(nodeAt s p j).kind=2
   ·rw [Yl h2 h0]; exact ahW _ _
   ·by_cases h4:(nodeAt s p j).kind=4
    ·rw [UA h4 h0]; exact Zx _ _
    ·rw [Oz h2 h4]; exact ih
  ·rw [RN h0]; exact ih
theorem ahY {m:b.fT} {e:Int} {v:Sl b.fe} (h:e=0\/e=20):∀ j,C6 m e v j=0\/C6 m e v j=20
 | 0=>h
 | j+1=>by
  have ih:=ahY (m:=m) (v:=v) h j;have e1:C6 m e v (j+1)=if C6 m e v j=0 then (gi m (v.get j)).2 else C6 m e v j:=rfl;rw [e1];split
  ·exact Zx _ _
  ·exact ih
theorem ahZ {s:b.aA} {p:b.Path} (h:vq s p):∃ x e,b.wk s p=some (x,e)/\M4 s p x e:=by
 have hn:=h.n;have hf:=h.Yd;obtain ⟨hm,hk⟩:=h.ok;obtain ⟨m1,m2⟩:=h.at;have hv:(gR s p).az.n<=64:=hm.1.1;have e1:b.bU s p = .out (.exit 0) (M3 s p p.nodes.n):=ahV h;have hnd:anM s p p.nodes.n=nodeAt s p p.kids.n:=by rw [hn]; rfl
 have e2:b.dA s p = .out (.exit 2) ⟨0,oC s p p.nodes.n,(gR s p).az,((gR s p).az.n:Int),((gR s p).az.n:Int),Oy,⟨(fV s p p.nodes.n).1,C6 (fV s p p.nodes.n).1 (fV s p p.nodes.n).2 (gR s p).az (gR s p).az.n⟩,⟨⟨HB (fV s p p.nodes.n).1 (fV s p p.nodes.n).2 (gR s p).az (gR s p).az.n,uX.uV,uX.acK,uX.look,uX.box⟩,SZ s p p.nodes.n,mI s p p.nodes.n⟩,gR s p⟩:=by
  unfold b.dA;rw [e1];rw [aW.lF];unfold M3
  dsimp only
  rw [hnd];exact ajy _ _ _ (by show (gR s p).az.n<=1000; omega) _ _ _ _ _ (by have:=Uz s p p.nodes.n; omega)
 have a3:b.wg s p=some (gR s p).uV:=by
  unfold b.wg;rw [e2];exact ahU _ (by have:=hm.1.2.1; show (gR s p).uV.n<=1000; omega)
 obtain ⟨tr,te,t1⟩:=ajz hk hm;have a4:b.wh s p=some (tr,te):=by
  unfold b.wh;rw [e2];exact t1
 have a5:b.wi s p=some (Ym (oC s p p.nodes.n)):=by
  unfold b.wi;rw [e2];rw [aW.lF];refine adv _ fun j hj=>?_;have hj:j < (oC s p p.nodes.n).n:=hj;rw [Gr] at hj;show RH ((oC s p p.nodes.n).get j);rw [S3 s p _ j hj];exact (h.inn.1 _ (h.slot hj)).1
 obtain ⟨bx,be,b1,b2,b3⟩:=anP (HB (fV s p p.nodes.n).1 (fV s p p.nodes.n).2 (gR s p).az (gR s p).az.n);have a6:b.wj s p=some (bx,be):=by
  unfold b.wj;rw [e2];exact b1
 unfold b.wk b.yR;rw [show b.Fs s p=some unit from rfl,a3,a4,a5,a6,e1,e2];rw [aW.lF,aW.lF];unfold M3
 dsimp only
 rw [hnd,au m1,au m2];simp only [aW.sh,zS,↓aj,↓aH,cq,cz,fj,dI,tT];by_cases h0:C6 (fV s p p.nodes.n).1 (fV s p p.nodes.n).2 (gR s p).az (gR s p).az.n=0
 ·rw [Er.2 h0]
  by_cases h1:((gR s p).az.n:Int) > 0
  ·rw [au h1]
   exact ⟨_,_,rfl,rfl,rfl,rfl,fun _=>h0,b2,b3 (by rw [Lg]; omega) (by rw [Lg]; omega)⟩
  ·rw [aZ h1]
   refine ⟨_,_,rfl,rfl,rfl,rfl,fun _=>h0,fun _ k hk=>?_,.inl h0⟩;have hk:k < (HB (fV s p p.nodes.n).1 (fV s p p.nodes.n).2 (gR s p).az (gR s p).az.n).n:=hk;rw [Lg] at hk;omega
 ·rw [show (C6 (fV s p p.nodes.n).1 (fV s p p.nodes.n).2 (gR s p).az (gR s p).az.n==0)=false by rw [<- Bool.not_eq_true,Er]; exact h0]
  exact ⟨_,_,rfl,rfl,rfl,rfl,fun q=>absurd q h0,fun q=>absurd q h0,ahY (ahX s p _) _⟩
end Go.Proofs.Ytckbdndhmcoihaa.sc
end
section
namespace Go.A6
variable {n:Nat} {mQ:Nat->Nat} {c:Nat->Nat->Nat}
def C7 {H:Type} (mQ:H->Nat) (c:H->Nat->H):Nat->H->Prop
 | 0,_=>False
 | t+1,i=>∀ k,k < mQ i->C7 mQ c t (c i k)
theorem WG (rS:∀ i,i < n->∀ k,k < mQ i->c i k < n) (hf:Hn n mQ c):∀ i,i < n->C7 mQ c n i:=by
 intro i0 hi0;apply Classical.byContradiction;intro h0;have hc:∀ p:Nat×Nat,∃ j,p.2 < n->¬ C7 mQ c (p.1+1) p.2->(j < n/\¬ C7 mQ c p.1 j/\∃ k,k < mQ p.2/\c p.2 k=j):=by
  rintro ⟨t,i⟩;by_cases hi:i < n
  ·by_cases hq:C7 mQ c (t+1) i
   ·exact ⟨0,fun _ k=>absurd hq k⟩
   ·have:∃ k,k < mQ i/\¬ C7 mQ c t (c i k):=by
     apply Classical.byContradiction;intro hn;exact hq fun k hk=>Classical.byContradiction fun h=>hn ⟨k,hk,h⟩
    obtain ⟨k,h1,h2⟩:=this;exact ⟨c i k,fun _ _=>⟨rS i hi k h1,h2,k,h1,rfl⟩⟩
  ·exact ⟨0,fun k=>absurd k hi⟩
 obtain ⟨g,hg⟩:=Classical.axiomOfChoice hc
 let it:Nat->Nat:=fun j=>Nat.rec i0 (fun j x=>g (n - (j+1),x)) j
 have hit:∀ j,j<=n->it j < n/\¬ C7 mQ c (n - j) (it j):=by
  intro j
  induction j with
  | zero=>exact fun _=>⟨hi0,h0⟩
  | succ j ih=>
   intro hj;obtain ⟨h1,h2⟩:=ih (by omega);have e:n - j=n - (j+1)+1:=by omega
   rw [e] at h2;have:=hg (n - (j+1),it j) h1 h2;exact ⟨this.1,this.2.1⟩
 have gz:∀ j,j < n->∃ k,k < mQ (it j)/\c (it j) k=it (j+1):=by
  intro j hj;obtain ⟨h1,h2⟩:=hit j (by omega);have e:n - j=n - (j+1)+1:=by omega
  rw [e] at h2;exact (hg (n - (j+1),it j) h1 h2).2.2
 have hup:∀ d j,j+d<=n->Below mQ c (it (j+d)) (it j):=by
  intro d
  induction d with
  | zero=>exact fun j _=>.here
  | succ d ih=>
   intro j hj;obtain ⟨k,h1,h2⟩:=gz j (by omega);have:=ih (j+1) (by omega);rw [show j+1+d=j+(d+1) by omega] at this;refine .dW _ k h1 ?_;rw [h2];exact this
 obtain ⟨i,j,h1,h2,h3⟩:=akO n it fun j hj=>(hit j hj).1;obtain ⟨k,q1,q2⟩:=gz i (by omega);refine hf _ (hit i (by omega)).1 k q1 ?_;rw [q2];have:=hup (j - (i+1)) (i+1) (by omega);rw [show i+1+(j - (i+1))=j by omega,<- h3] at this;exact this
section
variable {H:Type} {mQ:H->Nat} {c:H->Nat->H}
theorem C7.more:∀ (t:Nat) (i:H),C7 mQ c t i->C7 mQ c (t+1) i
 | 0,_,h=>h.elim
 | t+1,_,h=>fun k hk=>(h k hk).more t _
theorem C7.le {t u:Nat} {i:H} (h:C7 mQ c t i) (hle:t<=u):C7 mQ c u i:=by
 induction hle with
 | refl=>exact h
 | step _ ih=>exact ih.more _ _
def WH (f:Nat->Nat):Nat->Nat
 | 0=>0
 | k+1=>max (WH f k) (f k)
def QV (f:Nat->Nat):Nat->Nat
 | 0=>0
 | k+1=>min (QV f k+f k) 257
theorem acN {f g:Nat->Nat} : ∀ k,(∀ j,j < k->f j=g j)->WH f k=WH g k
 | 0,_=>rfl
 | k+1,h=>by rw [WH,WH,acN k fun j hj=>h j (by omega),h k (by omega)]
theorem OA {f g:Nat->Nat} : ∀ k,(∀ j,j < k->f j=g j)->QV f k=QV g k
 | 0,_=>rfl
 | k+1,h=>by rw [QV,QV,OA k fun j hj=>h j (by omega),h k (by omega)]
theorem afI (f:Nat->Nat):∀ k j,j < k->f j<=WH f k
 | k+1,j,h=>by
  rw [WH];by_cases e:j=k
  ·subst e; omega
  ·have:=afI f k j (by omega); omega
theorem akQ (f:Nat->Nat):∀ k,QV f k<=257
 | 0=>by rw [QV]; omega
 | k+1=>by rw [QV]; omega
def H8 {H:Type} (mQ:H->Nat) (c:H->Nat->H):Nat->H->Nat
 | 0,_=>0
 | t+1,i=>WH (fun k=>H8 mQ c t (c i k)) (mQ i)+1
def OB {H:Type} (mQ:H->Nat) (c:H->Nat->H) (m:H->Bool):Nat->H->Nat
 | 0,_=>0
 | t+1,i=>cond (m i) 1 (QV (fun k=>OB mQ c m t (c i k)) (mQ i))
theorem aep:∀ (t:Nat) (i:H),C7 mQ c t i->H8 mQ c (t+1) i=H8 mQ c t i
 | 0,_,h=>h.elim
 | t+1,i,h=>by
  rw [H8,H8,acN _ fun k hk=>aep t _ (h k hk)]
theorem Yo (m:H->Bool):∀ (t:Nat) (i:H),C7 mQ c t i->OB mQ c m (t+1) i=OB mQ c m t i
 | 0,_,h=>h.elim
 | t+1,i,h=>by
  rw [OB,OB,OA _ fun k hk=>Yo m t _ (h k hk)]
theorem akR {m:H->Bool} {t u:Nat} {i:H} (h:C7 mQ c t i) (hle:t<=u):OB mQ c m u i=OB mQ c m t i:=by
 induction hle with
 | refl=>rfl
 | step hle ih=>rw [Yo _ _ _ (h.le hle),ih]
theorem ah0:∀ (t:Nat) (i:H),C7 mQ c t i->C7 mQ c (H8 mQ c t i) i
 | 0,_,h=>h.elim
 | t+1,i,h=>fun k hk=>(ah0 t _ (h k hk)).le (afI (fun k=>H8 mQ c t (c i k)) _ k hk)
theorem UB:∀ (t:Nat) (i:H),H8 mQ c t i<=t
 | 0,_=>aC _
 | t+1,i=>by
  have:∀ k,WH (fun k=>H8 mQ c t (c i k)) k<=t:=by
   intro k
   induction k with
   | zero=>exact r6 _
   | succ k ih=>
    have:=UB t (c i k);rw [WH];omega
  have:=this (mQ i);rw [H8];omega
end
theorem alV (rS:∀ i,i < n->∀ k,k < mQ i->c i k < n) (hf:Hn n mQ c) {i:Nat} (hi:i < n):H8 mQ c n i=WH (fun k=>H8 mQ c n (c i k)) (mQ i)+1:=by
 rw [<- aep n i (WG rS hf i hi),H8]
theorem alW (m:Nat->Bool) (rS:∀ i,i < n->∀ k,k < mQ i->c i k < n) (hf:Hn n mQ c) {i:Nat} (hi:i < n):OB mQ c m n i=cond (m i) 1 (QV (fun k=>OB mQ c m n (c i k)) (mQ i)):=by
 rw [<- Yo m n i (WG rS hf i hi),OB]
end Go.A6
end
section
namespace Go.Proofs.Ytckbdndhmcoihaa.b
open Go.K
noncomputable section
def Hb (down:Int->Sl Int×Sl Int->Option (Sl Int×Sl Int)) (l:Sl Handle):Nat->Int×Int×(Sl Int×Sl Int)->Option (Int×Int×(Sl Int×Sl Int))
 | 0,x=>some x
 | k+1,x=>(Hb down l k x).bind fun y=>(down (l.get k).slot y.2.2).bind fun z=>
   some (max y.1 (z.1.get (l.get k).slot.toNat),min (aK (y.2.1+z.2.get (l.get k).slot.toNat)) 257,z)
def xv (s:aA):Nat->Int->Sl Int×Sl Int->Option (Sl Int×Sl Int)
 | 0,_,_=>none
 | f+1,slot,x=>cond (decide (0<=slot)&&decide (slot < (x.1.n:Int))&&decide (slot < (s.graph.kids.n:Int))&&decide (slot < (s.nodes.n:Int)))
   (cond (decide (x.1.get slot.toNat > 0)) (some x)
    ((Hb (xv s f) (s.graph.kids.get slot.toNat) (s.graph.kids.get slot.toNat).n (0,0,x)).bind fun y=>
     some (y.2.2.1.set slot.toNat (aK (y.1+1)),y.2.2.2.set slot.toNat (cond ((s.nodes.get slot.toNat).kind==5) 1 y.2.1)))) none
def Fits (s:aA):Prop:=s.nodes.n<=1000000/\∀ i,i < s.graph.kids.n->(s.graph.kids.get i).n<=1000000
open Classical in
def ef (s:aA):Option (Sl Int×Sl Int):=if Fits s then xv s 250 s.root.slot (⟨s.nodes.n,fun _=>0⟩,⟨s.nodes.n,fun _=>0⟩) else none
def xZ:List KV->KR KV:=bC Try.prog 23 (bO (fun (r:Sl Int×Sl Int)=>KV.kL [(dq 3 (kI .i64)) r.1,(dq 3 (kI .i64)) r.2]) fun vs=>ef (dC (vs.getD 0 .bh)))
end
end Go.Proofs.Ytckbdndhmcoihaa.b
end
section
namespace Go.Proofs.Ytckbdndhmcoihaa.sc
open Go Go.K Go.A6 Go.Proofs.Ytckbdndhmcoihaa.nodes
def Lh (s:b.aA) (i:Nat):Bool:=(s.nodes.get i).kind==5
def hH (s:b.aA) (i:Nat):Nat:=H8 (dg s.graph) (ch s.graph) s.graph.kids.n i
def mH (s:b.aA) (i:Nat):Nat:=OB (dg s.graph) (ch s.graph) (Lh s) s.graph.kids.n i
structure Down (s:b.aA):Prop where
 n:s.nodes.n=s.graph.kids.n
 small:s.graph.kids.n<=128
 inr:∀ i,i < s.graph.kids.n->∀ k,k < dg s.graph i->0<=((s.graph.kids.get i).get k).slot/\((s.graph.kids.get i).get k).slot < (s.graph.kids.n:Int)
 Yd:∀ i,i < s.graph.kids.n->dg s.graph i<=16
 free:A6.Hn s.graph.kids.n (dg s.graph) (ch s.graph)
theorem Down.chl {s:b.aA} (h:Down s):∀ i,i < s.graph.kids.n->∀ k,k < dg s.graph i->ch s.graph i k < s.graph.kids.n:=fun i hi k hk=>by
 have:=h.inr i hi k hk;unfold nodes.ch;omega
theorem Down.slot {s:b.aA} (h:Down s) {i k:Nat} (hi:i < s.graph.kids.n) (hk:k < dg s.graph i):((s.graph.kids.get i).get k).slot=((ch s.graph i k:Nat):Int):=by
 have:=h.inr i hi k hk;unfold nodes.ch;omega
theorem ah1 {s:b.aA} (hs:om s):Down s:=by
 have hg:=(IE s.graph).1 hs.1;have ha:=hg.1.Yd;have hf:=aow hg.1 hg.2.1 hg.2.2.1;exact ⟨hs.2.1,by omega,hf.inr,fun i hi=>(hg.2.2.1 i hi).1,(alP hg.2.2.1 hg.2.1).1 hg.2.2.2⟩
theorem ah2 {s:b.aA} (h:Down s) {i:Nat} (hi:i < s.graph.kids.n):hH s i=WH (fun k=>hH s (ch s.graph i k)) (dg s.graph i)+1:=alV h.chl h.free hi
theorem ah3 {s:b.aA} (h:Down s) {i:Nat} (hi:i < s.graph.kids.n):mH s i=cond (Lh s i) 1 (QV (fun k=>mH s (ch s.graph i k)) (dg s.graph i)):=alW _ h.chl h.free hi
theorem apZ {s:b.aA} (h:Down s) {i:Nat} (hi:i < s.graph.kids.n):mH s i<=257:=by
 rw [ah3 h hi];cases Lh s i with
 | true=>show 1<=257; omega
 | false=>exact akQ _ _
structure Kn (s:b.aA) (x:Sl Int×Sl Int):Prop where
 n1:x.1.n=s.graph.kids.n
 n2:x.2.n=s.graph.kids.n
 is:∀ j,j < s.graph.kids.n->x.1.get j=0\/x.1.get j=(hH s j:Int)/\x.2.get j=(mH s j:Int)
theorem acO {s:b.aA} (h:Down s) {i:Nat} (hi:i < s.graph.kids.n) {down:Int->Sl Int×Sl Int->Option (Sl Int×Sl Int)}
  (hd:∀ k,k < dg s.graph i->∀ x,Kn s x->∃ x',down ((ch s.graph i k:Nat):Int) x=some x'/\Kn s x'/\x'.1.get (ch s.graph i k)=(hH s (ch s.graph i k):Int)/\x'.2.get (ch s.graph i k)=(mH s (ch s.graph i k):Int)) {x:Sl Int×Sl Int} (hx:Kn s x) :
  ∀ k,k<=dg s.graph i->∃ y,b.Hb down (s.graph.kids.get i) k (0,0,x)=some y/\y.1=(WH (fun k=>hH s (ch s.graph i k)) k:Int)/\y.2.1=(QV (fun k=>mH s (ch s.graph i k)) k:Int)/\Kn s y.2.2
 | 0,_=>⟨_,rfl,rfl,rfl,hx⟩
 | k+1,hk=>by
  obtain ⟨y,h1,h2,h3,h4⟩:=acO h hi hd hx k (by omega);obtain ⟨z,q1,q2,q3,q4⟩:=hd k (by omega) y.2.2 h4;have es:=h.slot hi (k:=k) (by omega);have hb:=akQ (fun k=>mH s (ch s.graph i k)) k;have hm:=apZ h (h.chl i hi k (by omega));refine ⟨_,by unfold b.Hb; rw [h1]; show ((down _ y.2.2).bind _)=_; rw [es,q1]; rfl,?_,?_,q2⟩
  ·show max y.1 (z.1.get ((ch s.graph i k:Nat):Int).toNat)=_
   rw [C9,q3,h2,WH];omega
  ·show min (aK (y.2.1+z.2.get ((ch s.graph i k:Nat):Int).toNat)) 257=_
   rw [C9,q4,h3,cM (by omega) (by omega),QV];omega
theorem aeq {s:b.aA} (h:Down s):∀ (f i:Nat) (x:Sl Int×Sl Int),C7 (dg s.graph) (ch s.graph) f i->i < s.graph.kids.n->Kn s x->
  ∃ x',b.xv s f (i:Int) x=some x'/\Kn s x'/\x'.1.get i=(hH s i:Int)/\x'.2.get i=(mH s i:Int)
 | 0,_,_,hl,_,_=>hl.elim
 | f+1,i,x,hl,hi,hx=>by
  unfold b.xv;have d1:decide ((0:Int)<=(i:Int))=true:=au (by omega);have d2:decide ((i:Int) < (x.1.n:Int))=true:=au (by have:=hx.n1; omega);have d3:decide ((i:Int) < (s.graph.kids.n:Int))=true:=au (by omega);have d4:decide ((i:Int) < (s.nodes.n:Int))=true:=au (by have:=h.n; omega);rw [d1,d2,d3,d4];simp only [cz,aj,C9];have Hk:0 < hH s i:=by rw [ah2 h hi]; omega
  have hhb:hH s i<=128:=hD (UB _ _) h.small;by_cases hz:x.1.get i > 0
  ·rw [au hz,aj]
   rcases hx.is i hi with e | e
   ·omega
   ·exact ⟨x,rfl,hx,e⟩
  ·rw [aZ hz,aH]
   obtain ⟨y,h1,h2,h3,h4⟩:=acO h hi (down:=b.xv s f) (fun k hk x hx=>aeq h f _ x (hl k hk) (h.chl i hi k hk) hx) hx _ (aC _);have e1:b.Hb (b.xv s f) (s.graph.kids.get i) (s.graph.kids.get i).n (0,0,x)=some y:=h1;rw [e1];have e2:aK (y.1+1)=(hH s i:Int):=by
    have:=ah2 h hi;rw [h2,cM (by omega) (by omega)];omega
   have e3:cond ((s.nodes.get i).kind==5) 1 y.2.1=(mH s i:Int):=by
    rw [ah3 h hi,h3];unfold Lh;cases (s.nodes.get i).kind==5 <;> rfl
   refine ⟨_,rfl,⟨h4.n1,h4.n2,fun j hj=>?_⟩,?_,?_⟩
   ·show (y.2.2.1.set i _).get j=0\/(y.2.2.1.set i _).get j=_/\(y.2.2.2.set i _).get j=_
    by_cases e:j=i
    ·subst e
     rw [fL,fL,e2,e3];exact .inr ⟨rfl,rfl⟩
    ·rw [eI _ _ e,eI _ _ e]
     exact h4.is j hj
   ·show (y.2.2.1.set i _).get i=_
    rw [fL,e2]
   ·show (y.2.2.2.set i _).get i=_
    rw [fL,e3]
theorem afJ {s:b.aA} (h:Down s) {r:Nat} (hr:s.root.slot=(r:Int)) (hi:r < s.graph.kids.n):∃ x,b.ef s=some x/\Kn s x/\x.1.get r=(hH s r:Int)/\x.2.get r=(mH s r:Int):=by
 unfold b.ef;rw [aD ⟨by have:=h.n; have:=h.small; omega,fun i hi=>by have:=h.Yd i hi; unfold dg at this; omega⟩,hr];exact aeq h 250 r _ ((WG h.chl h.free r hi).le (by have:=h.small; omega)) hi ⟨h.n,h.n,fun j _=>.inl rfl⟩
end Go.Proofs.Ytckbdndhmcoihaa.sc
end
section
namespace Go.A6
variable {H:Type} (dg:H->Nat) (dW:H->Nat->H) (fA:H->Bool)
def wm:Nat->H->List (List Nat)
 | 0,_=>[]
 | t+1,h=>((List.range (dg h)).flatMap fun k=>(wm t (dW h k)).map (k::·))++cond (fA h) [[]] []
abbrev St (H:Type):=List (H×Nat)×List (List (H×Nat))
def nx:St H->St H
 | ([],out)=>([],out)
 | ((h,n)::st,out)=>cond (decide (n < dg h)) ((dW h n,0)::(h,n+1)::st,out) (st,cond (fA h) (out++[(h,n)::st]) out)
def it:Nat->St H->St H
 | 0,x=>x
 | r+1,x=>it r (nx dg dW fA x)
def oo:List (H×Nat)->H->List Nat->List (H×Nat)
 | st,h,[]=>(h,dg h)::st
 | st,h,k::ks=>oo ((h,k+1)::st) (dW h k) ks
variable {dg dW fA}
theorem OC:∀ (a c:Nat) (x:St H),it dg dW fA (a+c) x=it dg dW fA c (it dg dW fA a x)
 | 0,c,x=>by rw [bd]; rfl
 | a+1,c,x=>by
  rw [show a+1+c=(a+c)+1 by omega];exact OC a c _
theorem afK:∀ (r:Nat) (out:List (List (H×Nat))),it dg dW fA r ([],out)=([],out)
 | 0,_=>rfl
 | r+1,out=>afK r out
theorem visit {C:H->Prop} (hC:∀ h,C h->∀ k,k < dg h->C (dW h k)) (hf:∀ h:H,C h->dg h<=16):∀ (t:Nat) (h:H),C h->C7 dg dW t h->∀ (st:List (H×Nat)) (out:List (List (H×Nat))),
  ∃ r,r+2<=3 * 17 ^ t/\1<=r/\it dg dW fA r ((h,0)::st,out)=(st,out++(wm dg dW fA t h).map (oo dg dW st h))
 | 0,_,_,hl,_,_=>hl.elim
 | t+1,h,hc,hl,st,out=>by
  have key:∀ k,k<=dg h->∃ r,r<=k * (3 * 17 ^ t - 1)/\it dg dW fA r ((h,0)::st,out)=((h,k)::st,out++((List.range k).flatMap fun k=>(wm dg dW fA t (dW h k)).map (k::·)).map (oo dg dW st h)):=by
   intro k
   induction k with
   | zero=>exact fun _=>⟨0,r6 _,by simp [it]⟩
   | succ k ih=>
    intro hk;obtain ⟨r,h1,h2⟩:=ih (by omega);obtain ⟨r',q1,q2,q3⟩:=visit hC hf t (dW h k) (hC h hc k (by omega)) (hl k (by omega)) ((h,k+1)::st) (out++((List.range k).flatMap fun k=>(wm dg dW fA t (dW h k)).map (k::·)).map (oo dg dW st h));refine ⟨r+(1+r'),?_,?_⟩
    ·rw [Nat.succ_mul]; omega
    ·rw [OC,h2,OC]
     have e1:it dg dW fA 1 ((h,k)::st,out++((List.range k).flatMap fun k=>(wm dg dW fA t (dW h k)).map (k::·)).map (oo dg dW st h))=((dW h k,0)::(h,k+1)::st,out++((List.range k).flatMap fun k=>(wm dg dW fA t (dW h k)).map (k::·)).map (oo dg dW st h)):=by
      simp only [it,nx];rw [au (by omega:k < dg h)];rfl
     rw [e1,q3,List.range_succ,List.flatMap_append,Fu,List.append_assoc];congr 2;simp only [List.flatMap_cons,List.flatMap_nil,yH,List.map_map];rfl
  obtain ⟨r,h1,h2⟩:=key (dg h) (aC _);have hd:=hf h hc;refine ⟨r+1,?_,by omega,?_⟩
  ·have:dg h * (3 * 17 ^ t - 1)<=16 * (3 * 17 ^ t - 1):=Nat.mul_le_mul_right _ hd
   have hp:1<=17 ^ t:=Nat.one_le_pow _ _ (by omega);rw [Nat.pow_succ];omega
  ·rw [OC,h2]
   simp only [it,nx];rw [aZ (Nat.lt_irrefl _),aH];rw [wm,Fu];cases fA h with
   | true=>simp [oo]
   | false=>simp
theorem aer {α β:Type} (f:α->List β):∀ (l:List α),(l.flatMap f).length=(l.map fun x=>(f x).length).sum
 | []=>rfl
 | x::l=>by rw [List.flatMap_cons,kF,aer f l]; rfl
theorem akS (f:Nat->Nat):∀ k,QV f k=min ((List.range k).map f).sum 257
 | 0=>rfl
 | k+1=>by
  rw [QV,akS f k,List.range_succ,Fu,List.sum_append];show min (min _ 257+f k) 257=min (_+(f k+0)) 257;omega
theorem acP {C:H->Prop} (hC:∀ h,C h->∀ k,k < dg h->C (dW h k)) (hm:∀ h:H,C h->fA h=true->dg h=0):∀ (t:Nat) (h:H),C h->OB dg dW fA t h=min (wm dg dW fA t h).length 257
 | 0,h,_=>rfl
 | t+1,h,hc=>by
  rw [OB,wm,kF,aer];cases e:fA h with
  | true=>rw [hm h hc e]; rfl
  | false=>
   have ih:QV (fun k=>OB dg dW fA t (dW h k)) (dg h)=QV (fun k=>min (wm dg dW fA t (dW h k)).length 257) (dg h):=OA _ fun k hk=>acP hC hm t (dW h k) (hC h hc k hk);rw [aH,ih,akS];simp only [List.length_map,aH,List.length_nil,yI];have:∀ (g:Nat->Nat) (l:List Nat),min (l.map fun k=>min (g k) 257).sum 257=min (l.map g).sum 257:=by
    intro g l
    induction l with
    | nil=>rfl
    | cons x l ih=>simp only [List.map_cons,List.sum_cons]; omega
   exact this _ _
theorem WI:∀ (t:Nat) (h:H) (ks:List Nat),ks∈wm dg dW fA t h->ks.length+1<=H8 dg dW t h
 | 0,_,_,hk=>by simp [wm] at hk
 | t+1,h,ks,hk=>by
  rw [wm,jM] at hk;rw [H8];rcases hk with hk | hk
  ·obtain ⟨k,h1,h2⟩:=List.mem_flatMap.1 hk
   obtain ⟨l,h3,rfl⟩:=HJ.1 h2;have:=WI t _ l h3;have:=afI (fun k=>H8 dg dW t (dW h k)) _ k (HM.1 h1);simp only [qT];omega
  ·cases e:fA h with
   | true=>rw [e] at hk; simp at hk; subst hk; simp
   | false=>rw [e] at hk; simp at hk
def goH (dW:H->Nat->H):H->List Nat->H
 | h,[]=>h
 | h,k::ks=>goH dW (dW h k) ks
def anQ (dg:H->Nat) (dW:H->Nat->H):H->List Nat->Prop
 | _,[]=>True
 | h,k::ks=>k < dg h/\anQ dg dW (dW h k) ks
theorem acQ:∀ (t:Nat) (h:H) (ks:List Nat),ks∈wm dg dW fA t h->anQ dg dW h ks/\fA (goH dW h ks)=true
 | 0,_,_,hk=>by simp [wm] at hk
 | t+1,h,ks,hk=>by
  rw [wm,jM] at hk;rcases hk with hk | hk
  ·obtain ⟨k,h1,h2⟩:=List.mem_flatMap.1 hk
   obtain ⟨l,h3,rfl⟩:=HJ.1 h2;obtain ⟨h4,h5⟩:=acQ t _ l h3;exact ⟨⟨HM.1 h1,h4⟩,h5⟩
  ·cases e:fA h with
   | true=>rw [e] at hk; simp at hk; subst hk; exact ⟨trivial,e⟩
   | false=>rw [e] at hk; simp at hk
theorem akT:∀ (r:Nat) (x:St H),x.2.length<=(it dg dW fA r x).2.length
 | 0,_=>aC _
 | r+1,x=>by
  refine hD ?_ (akT r _);obtain ⟨st,out⟩:=x;cases st with
  | nil=>exact aC _
  | cons w st=>
   obtain ⟨h,n⟩:=w;simp only [nx];cases decide (n < dg h) with
   | true=>exact aC _
   | false=>
    cases fA h with
    | true=>simp
    | false=>exact aC _
end Go.A6
end
section
set_option maxRecDepth 20000
namespace Go.Proofs.Ytckbdndhmcoihaa.LC
open Go Go.RowKit Go.Lib Go.Shelf Go.K
open nodes (zT)
structure Q where
 ka:Option Addr
 kc:Nat
 ia:Nat->Option Addr
 ic:Nat->Nat
 na:Option Addr
 nc:Nat
structure QAt (s:b.aA) (q:Q) (B:Nat) (W:World):Prop where
 kids:∀ i,i < s.graph.kids.n->∃ b off,q.ka=some ⟨b,off,none⟩/\b < B/\W.cell? ⟨b,off+i,none⟩=some (.slice (q.ia i) (s.graph.kids.get i).n (q.ic i))
 row:∀ i,i < s.graph.kids.n->∀ k,k < (s.graph.kids.get i).n->∃ b off,q.ia i=some ⟨b,off,none⟩/\b < B/\W.cell? ⟨b,off+k * 2,none⟩=some (.int .i64 ((s.graph.kids.get i).get k).slot)/\W.cell? ⟨b,off+k * 2+1,none⟩=some (.int .i64 ((s.graph.kids.get i).get k).gen)
 kind:∀ i,i < s.nodes.n->∃ b off,q.na=some ⟨b,off,none⟩/\b < B/\W.cell? ⟨b,off+i * 33,none⟩=some (.int .u8 (s.nodes.get i).kind)
structure C8 (d m:Nat) (W W' : World):Prop where
 os:W'.os=W.os
 tape:W'.tape=W.tape
 output:W'.output=W.output
 size:W.heap.size<=W'.heap.size
 block:∀ k,k < W.heap.size->k≠d->k≠m->W'.heap[k]? = W.heap[k]?
theorem C8.refl (d m:Nat) (W:World):C8 d m W W:=⟨rfl,rfl,rfl,aC _,fun _ _ _ _=>rfl⟩
theorem C8.trans {d m:Nat} {W W' W2:World} (h:C8 d m W W') (k:C8 d m W' W2):C8 d m W W2:=
 ⟨k.os.trans h.os,k.tape.trans h.tape,k.output.trans h.output,hD h.size k.size,fun j hj hn hn2=>(k.block j (fa hj h.size) hn hn2).trans (h.block j hj hn hn2)⟩
theorem C8.cell {d m:Nat} {W W' : World} (h:C8 d m W W') {b j:Nat} (hb:b < W.heap.size) (hd:b≠d) (hm:b≠m):W'.cell? ⟨b,j,none⟩=W.cell? ⟨b,j,none⟩:=by
 have:=h.block b hb hd hm;unfold World.cell?;simp only [this]
theorem C8.alloc {d m:Nat} (W:World) (o:Obj):C8 d m W (W.alloc o):=⟨rfl,rfl,rfl,by simp,fun k hk _ _=>Below.heap_alloc W o k hk⟩
theorem C8.drew (d m:Nat) (W:World):C8 d m W W.drew:=⟨rfl,rfl,rfl,aC _,fun _ _ _ _=>rfl⟩
theorem QAt.dR {s:b.aA} {q:Q} {B d m:Nat} {W W' : World} (h:QAt s q B W) (k:C8 d m W W') (hB:B<=W.heap.size) (hd:B<=d) (hm:B<=m):QAt s q B W':=by
 refine ⟨fun i hi=>?_,fun i hi j hj=>?_,fun i hi=>?_⟩
 ·obtain ⟨b,off,h1,h2,h3⟩:=h.kids i hi
  exact ⟨b,off,h1,h2,by rw [k.cell (by omega) (by omega) (by omega)]; exact h3⟩
 ·obtain ⟨b,off,h1,h2,h3,h4⟩:=h.row i hi j hj
  exact ⟨b,off,h1,h2,by rw [k.cell (by omega) (by omega) (by omega)]; exact h3,by rw [k.cell (by omega) (by omega) (by omega)]; exact h4⟩
 ·obtain ⟨b,off,h1,h2,h3⟩:=h.kind i hi
  exact ⟨b,off,h1,h2,by rw [k.cell (by omega) (by omega) (by omega)]; exact h3⟩
structure Kf (s:b.aA) (q:Q) (B b1 b2 b3 b4 d m N:Nat) (W:World) (x:Sl Int×Sl Int):Prop where
 at_:QAt s q B W
 eV:B<=W.heap.size
 l1:b1 < W.heap.size/\b1≠d/\b1≠m
 l2:b2 < W.heap.size/\b2≠d/\b2≠m
 l3:b3 < W.heap.size/\b3≠d/\b3≠m
 l4:b4 < W.heap.size/\b4≠d/\b4≠m
 ld:B<=d/\d < W.heap.size
 lm:B<=m/\m < W.heap.size
 ne:d≠m
 n1:x.1.n=N
 n2:x.2.n=N
 c1:W.cell? ⟨b1,0,none⟩=some (.slice (some ⟨d,0,none⟩) N N)
 c2:W.cell? ⟨b2,1,none⟩=some (.slice q.ka s.graph.kids.n q.kc)
 e2:W.cell? ⟨b2,2,none⟩=some (.slice q.na s.nodes.n q.nc)
 c3:W.cell? ⟨b3,0,none⟩=some (.func (.func 50) #[] #[.pointer (some ⟨b1,0,none⟩),.pointer (some ⟨b2,0,none⟩),.pointer (some ⟨b3,0,none⟩),.pointer (some ⟨b4,0,none⟩)])
 c4:W.cell? ⟨b4,0,none⟩=some (.slice (some ⟨m,0,none⟩) N N)
 cd:∀ i,i < N->W.cell? ⟨d,i,none⟩=some (.int .i64 (x.1.get i))
 cm:∀ i,i < N->W.cell? ⟨m,i,none⟩=some (.int .i64 (x.2.get i))
 fd:∀ i,W.frozen? ⟨d,i,none⟩=false
 fm:∀ i,W.frozen? ⟨m,i,none⟩=false
theorem Kf.grow {s:b.aA} {q:Q} {B b1 b2 b3 b4 d m N:Nat} {W W' : World} {x:Sl Int×Sl Int} (h:Kf s q B b1 b2 b3 b4 d m N W x) (k:C8 d m W W') (hd:W'.heap[d]? = W.heap[d]?) (hm:W'.heap[m]? = W.heap[m]?):Kf s q B b1 b2 b3 b4 d m N W' x where
 at_:=h.at_.dR k h.eV h.ld.1 h.lm.1
 eV:=hD h.eV k.size
 l1:=⟨fa h.l1.1 k.size,h.l1.2⟩
 l2:=⟨fa h.l2.1 k.size,h.l2.2⟩
 l3:=⟨fa h.l3.1 k.size,h.l3.2⟩
 l4:=⟨fa h.l4.1 k.size,h.l4.2⟩
 ld:=⟨h.ld.1,fa h.ld.2 k.size⟩
 lm:=⟨h.lm.1,fa h.lm.2 k.size⟩
 ne:=h.ne
 n1:=h.n1
 n2:=h.n2
 c1:=(k.cell h.l1.1 h.l1.2.1 h.l1.2.2).trans h.c1
 c2:=(k.cell h.l2.1 h.l2.2.1 h.l2.2.2).trans h.c2
 e2:=(k.cell h.l2.1 h.l2.2.1 h.l2.2.2).trans h.e2
 c3:=(k.cell h.l3.1 h.l3.2.1 h.l3.2.2).trans h.c3
 c4:=(k.cell h.l4.1 h.l4.2.1 h.l4.2.2).trans h.c4
 cd i hi:=by rw [<- h.cd i hi]; unfold World.cell?; simp only [hd]
 cm i hi:=by rw [<- h.cm i hi]; unfold World.cell?; simp only [hm]
 fd i:=by rw [<- h.fd i]; unfold World.frozen?; simp only [hd]
 fm i:=by rw [<- h.fm i]; unfold World.frozen?; simp only [hm]
theorem C8.set (d m:Nat) (W:World) (i k:Nat) (u v:Value):C8 d m W ((W.setCell ⟨d,i,none⟩ u).setCell ⟨m,k,none⟩ v):=
 ⟨rfl,rfl,rfl,by simp,fun j _ h1 h2=>by rw [heap_setCell_other _ _ _ _ h2,heap_setCell_other _ _ _ _ h1]⟩
theorem Kf.put {s:b.aA} {q:Q} {B b1 b2 b3 b4 d m N:Nat} {W:World} {x:Sl Int×Sl Int} (h:Kf s q B b1 b2 b3 b4 d m N W x) {i:Nat} (hi:i < N) (u v:Int) :
  Kf s q B b1 b2 b3 b4 d m N ((W.setCell ⟨d,i,none⟩ (.int .i64 u)).setCell ⟨m,i,none⟩ (.int .i64 v)) (x.1.set i u,x.2.set i v):=by
 have k:=C8.set d m W i i (.int .i64 u) (.int .i64 v);have cD:∀ {a c:Nat} {j l:Nat},a≠c->(⟨a,j,none⟩:Addr)≠⟨c,l,none⟩:=fun h e=>h (by simpa using congrArg Addr.block e);have NT:∀ {a:Nat} {j l:Nat},j≠l->(⟨a,j,none⟩:Addr)≠⟨a,l,none⟩:=fun h e=>h (by simpa using congrArg Addr.off e);have OI:∀ {s:Sl Int} {j:Nat} {w:Int},(s.set i w).get j=if j=i then w else s.get j:=fun {s j w}=>by
  by_cases e:j=i
  ·subst e
   show cond (Nat.beq j j) w (s.get j)=_;rw [tT,aD rfl]; rfl
  ·have:Nat.beq j i=false:=by
    cases q:Nat.beq j i with
    | false=>rfl
    | true=>exact absurd (aL q) e
   show cond (Nat.beq j i) w (s.get j)=_;rw [this,aa e]; rfl
 refine ⟨h.at_.dR k h.eV h.ld.1 h.lm.1,hD h.eV k.size,⟨fa h.l1.1 k.size,h.l1.2⟩,⟨fa h.l2.1 k.size,h.l2.2⟩,⟨fa h.l3.1 k.size,h.l3.2⟩,⟨fa h.l4.1 k.size,h.l4.2⟩,
  ⟨h.ld.1,fa h.ld.2 k.size⟩,⟨h.lm.1,fa h.lm.2 k.size⟩,h.ne,h.n1,h.n2,(k.cell h.l1.1 h.l1.2.1 h.l1.2.2).trans h.c1,(k.cell h.l2.1 h.l2.2.1 h.l2.2.2).trans h.c2,(k.cell h.l2.1 h.l2.2.1 h.l2.2.2).trans h.e2,
  (k.cell h.l3.1 h.l3.2.1 h.l3.2.2).trans h.c3,(k.cell h.l4.1 h.l4.2.1 h.l4.2.2).trans h.c4,fun j hj=>?_,fun j hj=>?_,fun j=>by rw [World.frozen?_setCell,World.frozen?_setCell]; exact h.fd j,fun j=>by rw [World.frozen?_setCell,World.frozen?_setCell]; exact h.fm j⟩
 ·rw [World.cell?_setCell_other (h:=cD h.ne.symm)]
  show _=some (Value.int .i64 ((x.1.set i u).get j));rw [OI];by_cases e:j=i
  ·subst e; rw [aD rfl]; exact World.cell?_setCell_same _ _ _ (h.cd j hj)
  ·rw [aa e,World.cell?_setCell_other (h:=NT (Ne.symm e))]; exact h.cd j hj
 ·show _=some (Value.int .i64 ((x.2.set i v).get j))
  rw [OI];by_cases e:j=i
  ·subst e
   rw [aD rfl];exact World.cell?_setCell_same _ _ _ (by rw [World.cell?_setCell_other (h:=cD h.ne)]; exact h.cm j hj)
  ·rw [aa e,World.cell?_setCell_other (h:=NT (Ne.symm e)),World.cell?_setCell_other (h:=cD h.ne)]; exact h.cm j hj
def apm (s:b.aA) (slot:Int) (z:Int×Int×(Sl Int×Sl Int)) (v:Int):Sl Int×Sl Int:=(z.2.2.1.set slot.toNat (aK (z.1+1)),z.2.2.2.set slot.toNat v)
theorem alX {s:b.aA} {f:Nat} {i:Int} {x x' : Sl Int×Sl Int} (h:b.xv s f i x=some x'):0<=i/\i < (x.1.n:Int):=by
 cases f with
 | zero=>simp [b.xv] at h
 | succ f=>
  unfold b.xv at h;by_cases h1:0<=i
  ·by_cases h2:i < (x.1.n:Int)
   ·exact ⟨h1,h2⟩
   ·simp [h2] at h
  ·simp [h1] at h
set_option maxHeartbeats 4000000 in
theorem down (s:b.aA) (q:Q) (B b1 b2 b3 b4 d m N:Nat) (fv:∀ i,i < s.graph.kids.n->(s.graph.kids.get i).n<=1000000):∀ (f:Nat) (slot:Int) (x x' : Sl Int×Sl Int) (W:World),b.xv s f slot x=some x'->Kf s q B b1 b2 b3 b4 d m N W x->
  Calls Try.prog 50 #[.int .i64 slot,.pointer (some ⟨b1,0,none⟩),.pointer (some ⟨b2,0,none⟩),.pointer (some ⟨b3,0,none⟩),.pointer (some ⟨b4,0,none⟩)] W fun e W'=>e = .returned (.tuple #[])/\Kf s q B b1 b2 b3 b4 d m N W' x'/\C8 d m W W'
 | 0,_,_,_,_,h,_=>by simp [b.xv] at h
 | f+1,slot,x,x',W,h,L=>by
  have mixed:=zT;have t3:=Try.underlying3; have a3:=Try.isAgg3; have z3:=Try.sizeOf3; have v3:=Try.zeroValue3; have u3:=run_underlying Try.underlying3;have t48:=Try.underlying48; have a48:=Try.isAgg48; have z48:=Try.sizeOf48; have v48:=Try.zeroValue48; have u48:=run_underlying Try.underlying48;have t32:=Try.underlying32; have a32:=Try.isAgg32; have z32:=Try.sizeOf32; have v32:=Try.zeroValue32; have u32:=run_underlying Try.underlying32;have t34:=Try.underlying34; have a34:=Try.isAgg34; have z34:=Try.sizeOf34; have v34:=Try.zeroValue34; have u34:=run_underlying Try.underlying34;have t27:=Try.underlying27; have a27:=Try.isAgg27; have z27:=Try.sizeOf27; have v27:=Try.zeroValue27; have u27:=run_underlying Try.underlying27;have t25:=Try.underlying25; have a25:=Try.isAgg25; have z25:=Try.sizeOf25; have v25:=Try.zeroValue25; have u25:=run_underlying Try.underlying25;have t47:=Try.underlying47; have a47:=Try.isAgg47; have z47:=Try.sizeOf47; have v47:=Try.zeroValue47; have u47:=run_underlying Try.underlying47;have t28:=Try.underlying28; have a28:=Try.isAgg28; have z28:=Try.sizeOf28; have v28:=Try.zeroValue28; have u28:=run_underlying Try.underlying28;have t64:=Try.underlying64; have a64:=Try.isAgg64; have z64:=Try.sizeOf64; have v64:=Try.zeroValue64; have u64:=run_underlying Try.underlying64;have t5:=Try.underlying5; have a5:=Try.isAgg5; have z5:=Try.sizeOf5; have v5:=Try.zeroValue5; have u5:=run_underlying Try.underlying5;have t143:=Try.underlying143; have a143:=Try.isAgg143; have z143:=Try.sizeOf143; have v143:=Try.zeroValue143; have arh:=run_underlying Try.underlying143;unfold b.xv at h;by_cases hb:0<=slot/\slot < (x.1.n:Int)/\slot < (s.graph.kids.n:Int)/\slot < (s.nodes.n:Int)
  case neg=>
   exfalso;have:(decide (0<=slot)&&decide (slot < (x.1.n:Int))&&decide (slot < (s.graph.kids.n:Int))&&decide (slot < (s.nodes.n:Int)))=false:=by
    rw [<- Bool.not_eq_true];simp only [ao,l9];rintro ⟨⟨⟨q1,q2⟩,q3⟩,q4⟩;exact hb ⟨q1,q2,q3,q4⟩
   rw [this] at h;simp at h
  obtain ⟨hp,hN,hK,hV⟩:=hb;rw [au hp,au hN,au hK,au hV] at h;simp only [cz,aj] at h;rw [L.n1] at hN;have c1:=L.c1;have cd:=L.cd slot.toNat (by omega);by_cases hz:x.1.get slot.toNat > 0
  ·rw [au hz,aj] at h
   have:=HI h;subst this
   go_enter Try.func50,Try.ntmps50
   go_wp2
   refine bodyPost_ret (results_none rfl _ _ _) rfl ?_;exact ⟨rfl,L,.refl _ _ _⟩
  ·rw [aZ hz,aH] at h
   cases hk:b.Hb (b.xv s f) (s.graph.kids.get slot.toNat) (s.graph.kids.get slot.toNat).n (0,0,x) with
   | none=>rw [hk] at h; simp at h
   | some y=>
   rw [hk] at h
   replace h:=HI h
   have aaO:∀ k,k<=(s.graph.kids.get slot.toNat).n->∃ z,b.Hb (b.xv s f) (s.graph.kids.get slot.toNat) k (0,0,x)=some z:=by
    intro k mO;obtain ⟨r,hr⟩:∃ r,(s.graph.kids.get slot.toNat).n=k+r:=⟨(s.graph.kids.get slot.toNat).n - k,by omega⟩
    rw [hr] at hk;clear hr mO;clear h
    induction r generalizing y with
    | zero=>exact ⟨y,hk⟩
    | succ r ih=>
     rw [show k+(r+1)=(k+r)+1 by omega] at hk;unfold b.Hb at hk;obtain ⟨z,h1,_⟩:=cE.1 hk;exact ih z h1
   have c2:=L.c2;have e2:=L.e2;obtain ⟨bk,ok,hka,hbk,hkd⟩:=L.at_.kids slot.toNat (by omega);obtain ⟨bn,on,hna,Lw,hkn⟩:=L.at_.kind slot.toNat (by omega);rw [hka] at c2;rw [hna] at e2;have hcnt:=fv slot.toNat (by omega);generalize hcn:(s.graph.kids.get slot.toNat).n=cn at *
   go_enter Try.func50,Try.ntmps50
   go_wp2
   go_loopg [6,7,22] cn (fun gg s6 s7 s22 wr=>∃ kk:Nat,kk<=cn/\cn - kk<=gg/\s22 = .int .i64 kk/\∃ z,b.Hb (b.xv s f) (s.graph.kids.get slot.toNat) kk (0,0,x)=some z/\s6 = .int .i64 z.1/\s7 = .int .i64 z.2.1/\Aside (Kf s q B b1 b2 b3 b4 d m N wr z.2.2/\C8 d m W wr))
   case atStart=>exact ⟨0,r6 _,by omega,rfl,_,rfl,rfl,rfl,L,.refl _ _ _⟩
   case round=>
    obtain ⟨kk,hkk,hgg,rfl,z,Lr,rfl,rfl,BW⟩:=hrel;obtain ⟨LZ,KZ⟩:=BW.out;clear BW;by_cases bm:kk < cn
    ·have ahi:(kk:Int) < (cn:Int):=by omega
     obtain ⟨z2,C5⟩:=aaO (kk+1) (by omega);unfold b.Hb at C5;rw [Lr] at C5;have C5:((b.xv s f ((s.graph.kids.get slot.toNat).get kk).slot z.2.2).bind fun z'=>some (max z.1 (z'.1.get ((s.graph.kids.get slot.toNat).get kk).slot.toNat),min (aK (z.2.1+z'.2.get ((s.graph.kids.get slot.toNat).get kk).slot.toNat)) 257,z'))=some z2:=C5;obtain ⟨zz,hzz,hz3⟩:=cE.1 C5;obtain ⟨bc,oc,hia,ZC,xy,tY⟩:=LZ.at_.row slot.toNat (by omega) kk (by omega);have KA:=C8.alloc (d:=d) (m:=m) wr (.cells #[.int .i64 ((s.graph.kids.get slot.toNat).get kk).slot,.int .i64 ((s.graph.kids.get slot.toNat).get kk).gen] 32);have LA:=LZ.grow KA (Below.heap_alloc wr _ d LZ.ld.2) (Below.heap_alloc wr _ m LZ.lm.2);have c3A:=LA.c3;have h0A:(wr.alloc (.cells #[.int .i64 ((s.graph.kids.get slot.toNat).get kk).slot,.int .i64 ((s.graph.kids.get slot.toNat).get kk).gen] 32)).cell? ⟨wr.heap.size,0,none⟩=some (.int .i64 ((s.graph.kids.get slot.toNat).get kk).slot):=by simp
     have y8:=down s q B b1 b2 b3 b4 d m N fv f ((s.graph.kids.get slot.toNat).get kk).slot z.2.2 zz _ hzz LA;have hd9:wr.heap.size≠d/\wr.heap.size≠m:=by have:=LZ.ld.2; have:=LZ.lm.2; omega
     have ari:wr.heap.size < (wr.alloc (.cells #[.int .i64 ((s.graph.kids.get slot.toNat).get kk).slot,.int .i64 ((s.graph.kids.get slot.toNat).get kk).gen] 32)).heap.size:=by simp
     generalize ace:((s.graph.kids.get slot.toNat).get kk).slot=ks at *;generalize hWA:wr.alloc (.cells #[.int .i64 ks,.int .i64 ((s.graph.kids.get slot.toNat).get kk).gen] 32)=WA at *
     go_wp2_with (go_at_call 50; go_loud (refine y8.mono ?_; rintro e w2 ⟨rfl,L2,K2⟩; have g1:=L2.c1; have g4:=L2.c4; have g9:=(K2.cell ari hd9.1 hd9.2).trans h0A))
     have rS:=alX hzz;rw [LZ.n1] at rS;have g2:=L2.cd ks.toNat (by omega);have g3:=L2.cm ks.toNat (by omega);have hin1:=rS.1;have hin2:=rS.2
     go_region_held3 (fun w'=>w'.cell? ⟨b1,0,none⟩=some (.slice (some ⟨d,0,none⟩) N N)/\w'.cell? ⟨b4,0,none⟩=some (.slice (some ⟨m,0,none⟩) N N)/\w'.cell? ⟨wr.heap.size,0,none⟩=some (.int .i64 ks)/\w'.cell? ⟨d,ks.toNat,none⟩=some (.int .i64 (zz.1.get ks.toNat))/\w'.cell? ⟨m,ks.toNat,none⟩=some (.int .i64 (zz.2.get ks.toNat))) (go_keep) (fail)
     all_goals
      replace hz3:=HI hz3
      have hkM:b.Hb (b.xv s f) (s.graph.kids.get slot.toNat) (kk+1) (0,0,x)=some z2:=by
       unfold b.Hb;rw [Lr];show ((b.xv s f ((s.graph.kids.get slot.toNat).get kk).slot z.2.2).bind _)=_;rw [ace,hzz];exact congrArg some hz3
      have SN:Aside (Kf s q B b1 b2 b3 b4 d m N w2.drew z2.2.2/\C8 d m W w2.drew):=by
       rw [<- hz3];exact ⟨L2.grow (.drew _ _ _) rfl rfl,KZ.trans (KA.trans (K2.trans (.drew _ _ _)))⟩
      have h61:max z.1 (zz.1.get ks.toNat)=z2.1:=by rw [<- hz3]
      have h71:min (IntKind.i64.wrap (z.2.1+zz.2.get ks.toNat)) 257=z2.2.1:=by rw [<- hz3]
      clear LZ LA KZ KA K2 L2 y8 aaO C5 hz3 xy tY
      go_wp2
      simp only [<- hia]
      go_roundg (cn - (kk+1))
     all_goals first | omega | exact ⟨kk+1,by omega,by omega,by go_num,z2,hkM,by rw [h61],by rw [h71],SN⟩
    ·have ahi : ¬ (kk:Int) < (cn:Int):=by omega
     have:kk=cn:=by omega
     subst this;rw [Lr] at hk;have:=HI hk;subst this;have g1:=LZ.c1;have g4:=LZ.c4;have g2:=LZ.e2;rw [hna] at g2;obtain ⟨bn2,on2,apn,hbn2,hkn2⟩:=LZ.at_.kind slot.toNat (by omega);rw [hna] at apn;obtain ⟨rfl,rfl⟩:bn=bn2/\on=on2:=by simpa using apn
     have e1:z.2.2.1.n=N:=LZ.n1;have f1:=LZ.cd slot.toNat (by omega);have f4:=LZ.fd slot.toNat;have f5:=LZ.fm slot.toNat;have f6:=LZ.cm slot.toNat (by omega);have hdm:=LZ.ne;have hb1d:=LZ.l1.2.1;have hb1m:=LZ.l1.2.2;have hb4d:=LZ.l4.2.1;have hb4m:=LZ.l4.2.2;have hb1d':=LZ.l1.2.1.symm;have hb4d':=LZ.l4.2.1.symm;have hb1m':=LZ.l1.2.2.symm;have hb4m':=LZ.l4.2.2.symm;have hmd:=LZ.ne.symm;have fin:∀ v,((apm s slot z v)=x'->Ending.returned (.tuple #[]) = .returned (.tuple #[])/\Kf s q B b1 b2 b3 b4 d m N ((wr.setCell ⟨d,slot.toNat,none⟩ (.int .i64 (aK (z.1+1)))).setCell ⟨m,slot.toNat,none⟩ (.int .i64 v)).drew x'/\C8 d m W ((wr.setCell ⟨d,slot.toNat,none⟩ (.int .i64 (aK (z.1+1)))).setCell ⟨m,slot.toNat,none⟩ (.int .i64 v)).drew):=fun v hv=>by
      subst hv;exact ⟨rfl,(LZ.put (by omega) _ v).grow (.drew _ _ _) rfl rfl,KZ.trans ((C8.set d m wr _ _ _ _).trans (.drew _ _ _))⟩
     have hx:apm s slot z (cond ((s.nodes.get slot.toNat).kind==5) 1 z.2.1)=x':=h;clear h LZ KZ L aaO hkd;by_cases hk5:(s.nodes.get slot.toNat).kind=5
     ·have anR:((s.nodes.get slot.toNat).kind==5)=true:=by simp [hk5]
      rw [anR] at hx;have SN:=fin 1 hx
      go_wp2
      go_region_held3 (fun w'=>w'.cell? ⟨b1,0,none⟩=some (.slice (some ⟨d,0,none⟩) N N)/\w'.cell? ⟨b4,0,none⟩=some (.slice (some ⟨m,0,none⟩) N N)/\(w'.cell? ⟨d,slot.toNat,none⟩).isSome=true/\(w'.cell? ⟨m,slot.toNat,none⟩).isSome=true/\w'.frozen? ⟨d,slot.toNat,none⟩=false/\w'.frozen? ⟨m,slot.toNat,none⟩=false) (simp [*,World.cell?_setCell_far,World.cell?_setCell_same']) (fail)
      all_goals (go_wp2; go_end0; exact ⟨rfl,SN.2⟩)
     ·have anR:((s.nodes.get slot.toNat).kind==5)=false:=by simp [hk5]
      rw [anR] at hx;have SN:=fin z.2.1 hx
      go_wp2
      go_region_held3 (fun w'=>w'.cell? ⟨b1,0,none⟩=some (.slice (some ⟨d,0,none⟩) N N)/\w'.cell? ⟨b4,0,none⟩=some (.slice (some ⟨m,0,none⟩) N N)/\(w'.cell? ⟨d,slot.toNat,none⟩).isSome=true/\(w'.cell? ⟨m,slot.toNat,none⟩).isSome=true/\w'.frozen? ⟨d,slot.toNat,none⟩=false/\w'.frozen? ⟨m,slot.toNat,none⟩=false) (simp [*,World.cell?_setCell_far,World.cell?_setCell_same']) (fail)
      all_goals (go_wp2; go_end0; exact ⟨rfl,SN.2⟩)
end Go.Proofs.Ytckbdndhmcoihaa.LC
end
section
namespace Go.K
open Go Go.aG
variable {P:Program} {E:Env}
theorem cN.trans {E1 E2 E3:Env} {A1 A2 A3:ae} {B1 B2 B3:St} (anS:B1.next<=B2.next) (h:cN P E1 A1 B1 E2 A2 B2) (k:cN P E2 A2 B2 E3 A3 B3):cN P E1 A1 B1 E3 A3 B3 where
 fY:=k.fY
 le:=Env.le_trans h.le k.le
 next:=hD h.next k.next
 dR x hx hn ha:=by
  refine (k.dR x (fa hx anS) (fun b e=>?_) fun q=>?_).trans (h.dR x hx hn ha)
  ·rcases h.new b x e with e | e
   ·exact h.Dq b (hn b e)
   ·omega
  ·rcases h.mh x q with e | e
   ·exact ha e
   ·omega
 new b x e:=by
  rcases k.new b x e with e | e
  ·exact h.new b x e
  ·have:=h.next; exact .inr (by omega)
 ud b r e:=by
  rcases k.ud b r e with e | e | e
  ·exact h.ud b r e
  ·exact .inr (h.kA b e)
  ·exact .inr (.inr (by omega))
 su b g e:=by
  rcases k.su b g e with e | e
  ·exact h.su b g e
  ·exact .inr (by omega)
 o5 g hg hn ha:=by
  refine (k.o5 g (fa hg anS) (fun b e=>?_) fun q=>?_).trans (h.o5 g hg hn ha)
  ·rcases h.su b g e with e | e
   ·exact hn b e
   ·omega
  ·rcases h.kS g q with e | e
   ·exact ha e
   ·omega
 kA x e:=by
  rcases k.kA x e with e | e
  ·exact h.kA x e
  ·exact .inr (by omega)
 kS g e:=by
  rcases k.kS g e with e | e
  ·exact h.kS g e
  ·exact .inr (by omega)
 vE g y e:=by
  rcases k.vE g y e with e | e
  ·exact h.vE g y e
  ·exact .inr (by omega)
 mh y e:=by
  rcases k.mh y e with e | e
  ·exact h.mh y e
  ·exact .inr (by omega)
 rows y hy cs e own bN q:=by
  obtain ⟨c1,h1,h2⟩:=k.rows y (fa hy anS) cs e own bN q;obtain ⟨c0,h3,h4⟩:=h.rows y hy c1 e own bN h1;exact ⟨c0,h3,h4.trans h2⟩
 Dq b q:=k.Dq b (h.Dq b q)
def acR (ρ:Ren) (B:St) (k:Nat):Prop:=∀ b l,B.get b≠none->B.get b≠some .dead->ρ b=some l->l.cb≠k
structure Made (ρ:Ren) (base:Nat) (w w1:World) (k bp:Nat) (cs:List Value):Prop where
 base:base<=k
 new:w.heap.size<=k
 lN:k < w1.heap.size
 cells:∀ (i:Nat) (v:Value),cs[i]? = some v->∃ v',w1.cell? ⟨k,i,.none⟩=some v'/\VR ρ v v'/\scalar v=true
 free:∀ j,w1.frozen? ⟨k,j,.none⟩=false
theorem Made.mono {ρ aF:Ren} {base:Nat} {w w1:World} {k bp:Nat} {cs:List Value} (h:Made ρ base w w1 k bp cs) (m:ρ.le aF):Made aF base w w1 k bp cs:=
 ⟨h.base,h.new,h.lN,fun i v hi=>by obtain ⟨v',h1,h2,h3⟩:=h.cells i v hi; exact ⟨v',h1,h2.mono m,h3⟩,h.free⟩
theorem jb.late {base:Nat} {ρ kM:Ren} {B B1:St} {w w1:World} (g:jb base ρ B w kM B1 w1) {k bp:Nat} {cs:List Value} (hm:Made kM base w w1 k bp cs) (hf:acR kM B1 k) :
  jb base ρ B w (kM.set B1.next ⟨k,0,cs.length,bp⟩) (B1.new (.row cs bp true none)) w1:=by
 have hs:=g.fY;have hle:=hs.FB ⟨k,0,cs.length,bp⟩;have hk:∀ b o l',B1.get b=some o->o≠.dead->kM b=some l'->l'.cb≠k:=fun b o l' h1 h2 h3=>hf b l' (by rw [h1]; simp) (by rw [h1]; simpa using h2) h3;refine ⟨⟨.FC ?_ ?_ ?_,?_,hs.size,hs.IU.mono hle⟩,?_,g.kept,by have:=g.next; simp; omega,by simpa using g.low,?_,?_⟩
 ·intro b o' hg hd
  rw [St.cp] at hg;split at hg
  ·rename_i e; subst e; simp at hg; subst hg
   refine ⟨_,Ren.fL _ _ _,⟨fun i v hi=>?_,fun h=>by simp at h,fun _=>hm.base,fun _ j hj=>?_,by simp,fun _ _=>by simp,rfl,hm.lN,fun _ _ j=>hm.free j⟩⟩
   ·obtain ⟨v',h1,h2,h3⟩:=hm.cells i v hi
    exact ⟨v',by rw [bd]; exact h1,h2.mono hle,h3⟩
   ·have hj:j < cs.length:=hj
    obtain ⟨v',h1,_⟩:=hm.cells j _ (cJ hj);exact ⟨by rw [h1]; rfl,hm.free j⟩
  ·obtain ⟨l',h1,h2⟩:=hs.rel.obj hg hd
   exact ⟨l',hle _ _ h1,h2.dR hle rfl (aC _)⟩
 ·intro b1 b2 o1 o2 l1 l2 cD g1 g2 m1 m2 r1 r2 C4
  have hd1:o1≠.dead:=by intro e; subst e; simp [ct.eH] at m1
  have hd2:o2≠.dead:=by intro e; subst e; simp [ct.eH] at m2
  rw [St.cp] at g1 g2;by_cases e1:b1=B1.next
  ·have e2:b2≠B1.next:=fun e=>cD (e1.trans e.symm)
   rw [aa e2] at g2;rw [e1,Ren.fL] at r1;rw [Ren.eI _ _ e2] at r2;simp at r1; subst r1;exact absurd C4.symm (hk b2 o2 l2 g2 hd2 r2)
  ·rw [aa e1] at g1
   rw [Ren.eI _ _ e1] at r1;by_cases e2:b2=B1.next
   ·rw [e2,Ren.fL] at r2
    simp at r2; subst r2;exact absurd C4 (hk b1 o1 l1 g1 hd1 r1)
   ·rw [aa e2] at g2
    rw [Ren.eI _ _ e2] at r2;exact hs.rel.apart b1 b2 o1 o2 l1 l2 cD g1 g2 m1 m2 r1 r2 C4
 ·intro b o' aP f hg mO
  rw [St.cp] at hg;split at hg
  ·simp at hg; subst hg; simp [ct.lM] at mO
  ·exact hs.rel.cX b o' aP f hg mO
 ·intro b l' h
  rw [St.bX];by_cases e:b=B1.next
  ·omega
  ·rw [Ren.eI _ _ e] at h; have:=hs.jP b l' h; omega
 ·intro b hb
  rw [Ren.eI _ _ (by have:=g.next; omega)];exact g.ext b hb
 ·intro b hb wM
  rw [St.cp,aa (by have:=g.next; omega)];exact g.same b hb (by simpa using wM)
 ·rintro k' mO ⟨b,o',l',hg,Pv,hr,rfl⟩
  by_cases e:b=B1.next
  ·subst e
   rw [Ren.fL] at hr;simp at hr; subst hr;have:=hm.new;simp only at mO;omega
  ·rw [St.cp,aa e] at hg
   rw [Ren.eI _ _ e] at hr;exact g.img _ mO ⟨b,o',l',hg,Pv,hr,rfl⟩
theorem acS {base:Nat} {ρ:Ren} {B:St} {w:World} (h:vu ρ B base w) {k:Nat} (hk:w.heap.size<=k):acR ρ B k:=fun b l h1 h2 h3=>by
 cases hg:B.get b with
 | none=>exact absurd hg h1
 | some o=>
  have hd:o≠.dead:=fun e=>h2 (by rw [hg,e]);obtain ⟨l',e,ok⟩:=h.rel.obj hg hd;rw [h3] at e; simp at e; subst e;have:=ok.lt hd;omega
theorem acR.late {ρ:Ren} {B:St} {k k' bp:Nat} {cs:List Value} (h:acR ρ B k) (cD:k'≠k):acR (ρ.set B.next ⟨k',0,cs.length,bp⟩) (B.new (.row cs bp true none)) k:=fun b l h1 h2 h3=>by
 by_cases e:b=B.next
 ·subst e
  rw [Ren.fL] at h3;simp at h3; subst h3;exact cD
 ·rw [St.cp,aa e] at h1 h2
  rw [Ren.eI _ _ e] at h3;exact h b l h1 h2 h3
theorem Zy {ρ:Ren} {b k:Nat} {s:Sl Int} {T:TypeId} (hT:aU P T=1) (abk:dJ (aQ P T) ((List.range s.n).map fun i=>kI .i64 (s.get i))=true) (hz:E.z b=some ⟨(List.range s.n).map fun i=>.int .i64 (s.get i),1,true,none⟩) (kK:ρ b=some ⟨k,0,s.n,1⟩) :
  VC P E ρ (dq T (kI .i64) s) (.slice (some ⟨k,0,.none⟩) s.n s.n):=by
 have hvk:∀ (l:List Nat),aV P E (l.map fun i=>kI .i64 (s.get i)) (l.map fun i=>.int .i64 (s.get i)):=by
  intro l
  induction l with
  | nil=>exact .nil
  | cons x l ih=>exact .cons .mkInt ih
 refine ⟨.slice (some ⟨b,0,.none⟩) s.n s.n,?_,?_⟩
 ·unfold dq
  simp only [VK];refine ⟨⟨by simp,fun i hi=>?_,abk⟩,_,hvk _,some ⟨b,0,.none⟩,s.n,rfl,aC _,.inr ⟨b,0,⟨_,1,true,.none⟩,rfl,hz,hT.symm,?_⟩,trivial⟩
  ·rw [fH,pg,List.getElem?_range hi]
   rfl
  ·rw [hT]
   intro i y hy;refine ⟨?_,fun j z hz=>?_⟩
   ·rw [pg] at hy
    obtain ⟨x,_,rfl⟩:=cj.1 hy;rfl
   ·rw [pg] at hy
    obtain ⟨x,hx,rfl⟩:=cj.1 hy;have hj:j < 1:=(r8.1 hz).1;have:j=0:=by omega
    subst this;rw [show 0+i * 1+0=i by omega,pg,hx];exact hz
 ·simp only [VR]
  exact ⟨trivial,aC _,⟨k,0,s.n,1⟩,⟨k,0,.none⟩,s.n,kK,aC _,fun _=>rfl,by simp,rfl⟩
structure Li (w w1:World) (k:Nat) (s:Sl Int):Prop where
 new:w.heap.size<=k
 lN:k < w1.heap.size
 cells:∀ i,i < s.n->w1.cell? ⟨k,i,.none⟩=some (.int .i64 (s.get i))
 free:∀ j,w1.frozen? ⟨k,j,.none⟩=false
theorem Li.made {ρ:Ren} {base:Nat} {w w1:World} {k:Nat} {s:Sl Int} (h:Li w w1 k s) (hb:base<=w.heap.size):Made ρ base w w1 k 1 ((List.range s.n).map fun i=>.int .i64 (s.get i)):=
 ⟨hD hb h.new,h.new,h.lN,fun i v hi=>by
  rw [pg] at hi;obtain ⟨x,hx,rfl⟩:=cj.1 hi;obtain ⟨hl,rfl⟩:=cH.1 hx;rw [List.length_range] at hl;rw [List.getElem_range];exact ⟨_,h.cells i hl,by simp [VR],rfl⟩,h.free⟩
theorem alY {g:FuncId} {F:List KV->KR KV} {T:TypeId} (hc:x9 P g) (hT:aU P T=1) (abk:∀ s:Sl Int,dJ (aQ P T) ((List.range s.n).map fun i=>kI .i64 (s.get i))=true)
  (h:∀ args v (E:Env) (A:ae) (B:St) (ρ:Ren) (base:Nat) (w:World) (dY:List Value),aI (F (normArgs P (bT P g) args)) v->args.length=(bT P g).length->rU P E ρ args dY->KJ P E A B ρ base w->
   Calls P g dY.toArray w fun e w'=>∃ (s1 s2:Sl Int) (k1 k2:Nat),v = .kL [dq T (kI .i64) s1,dq T (kI .i64) s2]/\e = .returned (.tuple #[.slice (some ⟨k1,0,.none⟩) s1.n s1.n,.slice (some ⟨k2,0,.none⟩) s2.n s2.n])/\k1≠k2/\Li w w' k1 s1/\Li w w' k2 s2/\RowKit.Below w.heap.size w w'):bB P g F:=
 fun args v hF hlen=>⟨hc,fun E A B ρ base w dY hv hj=>(h args v E A B ρ base w dY hF hlen hv hj).mono fun e w' ⟨s1,s2,k1,k2,h1,h2,cD,i1,i2,hb⟩=>by
  subst h1;have g0:=jb.below hj.s hb;have g1:=jb.late g0 (i1.made hj.s.size) (acS hj.s i1.new);have arj:=hj.s.FB ⟨k1,0,((List.range s1.n).map fun i=>Value.int .i64 (s1.get i)).length,1⟩;have g2:=jb.late g1 ((i2.made hj.s.size).mono arj) ((acS hj.s i2.new).late cD);have z1:=cN.abd (bP:=(List.range s1.n).map fun i=>Value.int .i64 (s1.get i)) (bp:=1) hj.k;have z2:=cN.abd (bP:=(List.range s2.n).map fun i=>Value.int .i64 (s2.get i)) (bp:=1) z1.fY;have z:=z1.trans (by simp) z2;have aoT:=g1.fY.FB ⟨k2,0,((List.range s2.n).map fun i=>Value.int .i64 (s2.get i)).length,1⟩;refine ⟨_,_,_,_,h2,?_,z.ev g2⟩;have q1:=Zy (P:=P) (b:=B.next) (k:=k1) (s:=s1) hT (abk s1) (E:=E.eM B.next ⟨(List.range s1.n).map fun i=>Value.int .i64 (s1.get i),1,true,.none⟩) (by simp [Env.eM]) (ρ:=ρ.set B.next ⟨k1,0,((List.range s1.n).map fun i=>Value.int .i64 (s1.get i)).length,1⟩) (by simp [Ren.set]);have q2:=Zy (P:=P) (b:=(B.new (.row ((List.range s1.n).map fun i=>Value.int .i64 (s1.get i)) 1 true none)).next) (k:=k2) (s:=s2) hT (abk s2) (E:=(E.eM B.next ⟨(List.range s1.n).map fun i=>Value.int .i64 (s1.get i),1,true,.none⟩).eM (B.new (.row ((List.range s1.n).map fun i=>Value.int .i64 (s1.get i)) 1 true none)).next ⟨(List.range s2.n).map fun i=>Value.int .i64 (s2.get i),1,true,.none⟩) (by simp [Env.eM]) (ρ:=(ρ.set B.next ⟨k1,0,((List.range s1.n).map fun i=>Value.int .i64 (s1.get i)).length,1⟩).set (B.new (.row ((List.range s1.n).map fun i=>Value.int .i64 (s1.get i)) 1 true none)).next ⟨k2,0,((List.range s2.n).map fun i=>Value.int .i64 (s2.get i)).length,1⟩) (by simp [Ren.set]);obtain ⟨m,a1,a2⟩:rU P _ _ [dq T (kI .i64) s1,dq T (kI .i64) s2] [.slice (some ⟨k1,0,.none⟩) s1.n s1.n,.slice (some ⟨k2,0,.none⟩) s2.n s2.n]:=rU.Gb (q1.mono z2.le aoT) (rU.Gb q2 ⟨[],.nil,.nil⟩);exact ⟨.tuple ⟨m⟩,.Xq a1,VR.mkTuple (l':=[.slice (some ⟨k1,0,.none⟩) s1.n s1.n,.slice (some ⟨k2,0,.none⟩) s2.n s2.n]) a2⟩⟩
end Go.K
end
section
set_option maxRecDepth 20000
namespace Go.Proofs.Ytckbdndhmcoihaa.LC
open Go Go.RowKit Go.Lib Go.Shelf Go.K
open nodes (zT)
theorem ark:aU Try.prog 47=1:=by kernel_rfl
theorem anv:aU Try.prog 32=2:=by kernel_rfl
theorem arl:aU Try.prog 64=33:=by kernel_rfl
theorem alZ {E:Env} {A:ae} {B:aG.St} {ρ:aG.Ren} {base:Nat} {w:World} {s:b.aA} {u:Value} (hj:KJ Try.prog E A B ρ base w) (h:VC Try.prog E ρ (b.iY s) u) :
  ∃ (q:Q) (x0 x3 x4:Value),u = .agg #[x0,.slice q.ka s.graph.kids.n q.kc,.slice q.na s.nodes.n q.nc,x3,x4,.int .i64 s.root.slot,.int .i64 s.root.gen]/\QAt s q w.heap.size w:=by
 obtain ⟨l,rfl,hl⟩:=h.akG;obtain ⟨x0,l1,rfl,h0,hl1⟩:=hl.xX;obtain ⟨x1,l2,rfl,h1,k7⟩:=hl1.xX;obtain ⟨x2,l3,rfl,h2,hl3⟩:=k7.xX;obtain ⟨x3,l4,rfl,h3,hl4⟩:=hl3.xX;obtain ⟨x4,l5,rfl,h4,hl5⟩:=hl4.xX;obtain ⟨x5,l6,rfl,h5,hl6⟩:=hl5.xX;obtain ⟨x6,l7,rfl,h6,hl7⟩:=hl6.xX;obtain rfl:=hl7.V7;obtain ⟨ka,kc,rfl,H2⟩:=IC hj h1;obtain ⟨na,nc,rfl,HN⟩:=IC hj h2;obtain rfl:=h5.cg;obtain rfl:=h6.cg;have H3:∀ i,∃ p:Option Addr×Nat,i < s.graph.kids.n->(∃ b off,ka=some ⟨b,off,none⟩/\b < w.heap.size/\w.cell? ⟨b,off+i,none⟩=some (.slice p.1 (s.graph.kids.get i).n p.2))/\
   ∀ k,k < (s.graph.kids.get i).n->∃ b off,p.1=some ⟨b,off,none⟩/\b < w.heap.size/\w.cell? ⟨b,off+k * 2,none⟩=some (.int .i64 ((s.graph.kids.get i).get k).slot)/\w.cell? ⟨b,off+k * 2+1,none⟩=some (.int .i64 ((s.graph.kids.get i).get k).gen):=by
  intro i;by_cases hi:i < s.graph.kids.n
  ·obtain ⟨bb,off,e1,e2,e3⟩:=H2 i hi
   obtain ⟨z,z1,z2⟩:=e3 0 (dq 32 b.fy (s.graph.kids.get i)) rfl;obtain ⟨a,c,rfl,H⟩:=IC hj z2;rw [ark] at z1;refine ⟨(a,c),fun _=>⟨⟨bb,off,e1,e2,by rw [show off+i=off+i * 1+0 by omega]; exact z1⟩,fun k hk=>?_⟩⟩;obtain ⟨bc,anw,r1,r2,r3⟩:=H k hk;obtain ⟨z,s1,s2⟩:=r3 0 (.int .i64 ((s.graph.kids.get i).get k).slot) rfl;obtain ⟨z',t1,t2⟩:=r3 1 (.int .i64 ((s.graph.kids.get i).get k).gen) rfl;rw [anv] at s1 t1;rw [s2.cg] at s1;rw [t2.cg] at t1;exact ⟨bc,anw,r1,r2,s1,t1⟩
  ·exact ⟨(none,0),fun h=>absurd h hi⟩
 obtain ⟨f,hf⟩:=Classical.axiomOfChoice H3;refine ⟨⟨ka,kc,fun i=>(f i).1,fun i=>(f i).2,na,nc⟩,x0,x3,x4,rfl,⟨fun i hi=>(hf i hi).1,fun i hi k hk=>(hf i hi).2 k hk,fun i hi=>?_⟩⟩;obtain ⟨bb,off,e1,e2,e3⟩:=HN i hi;obtain ⟨z,s1,s2⟩:=e3 0 (.int .u8 (s.nodes.get i).kind) rfl;rw [arl] at s1;rw [s2.cg] at s1;exact ⟨bb,off,e1,e2,s1⟩
theorem run_mk (n:Nat) (hn:n<=1000000):∃ Z:Obj,(∀ W,(Instr.makeSlice 48 (.int .i64 (n:Int)) (.int .i64 (n:Int))).run Try.prog W = .ok (.slice (some ⟨W.heap.size,0,none⟩) n n) (W.alloc Z))/\(∀ (W:World) (b i:Nat),W.heap[b]? = some Z->i < n->W.cell? ⟨b,i,none⟩=some (.int .i64 0))/\∀ (W:World) (b i:Nat),W.heap[b]? = some Z->W.frozen? ⟨b,i,none⟩=false:=by
 refine ⟨.cells (madeCells #[.int .i64 0] n) 3,fun W=>?_,fun W b i hb hi=>?_,fun W b i hb=>?_⟩
 ·have:=Go.run_make (P:=Try.prog) W 48 3 _ (.int .i64 0) Try.underlying48 (show Try.prog.info? 3=some _ from rfl) rfl .i64 .i64 n n (by omega) (Int.le_refl _) (by show ((8:Nat):Int) * n<=_; omega) (by omega)
  rw [C9] at this;exact (this.trans (by rw [show ∀ k,n * k=n * k from fun _=>rfl]; exact congrArg (fun c=>Result.ok _ (W.alloc (.cells (madeCells #[.int .i64 0] c) 3))) (Nat.mul_one n)))
 ·rw [nodes.mz hb]
  simp [madeCells,hi,Nat.mod_one]
 ·unfold World.frozen?
  simp [hb]
def Good (W:World) (a:Addr):Prop:=(W.cell? a).isSome=true/\W.frozen? a=false
theorem WJ {W:World} {a:Addr} (h:Good W a):∃ v,W.cell? a=some v:=Q8.1 h.1
theorem aoD {W:World} {a:Addr} (h:Good W a):W.frozen? a=false:=h.2
theorem UC {W:World} {a:Addr} (h:Good W a):Good W.drew a:=h
theorem zx {W:World} {o:Obj} {a:Addr} (h:Good W a):Good (W.alloc o) a:=by
 obtain ⟨v,hv⟩:=WJ h;have bm:a.block < W.heap.size:=by
  apply Classical.byContradiction;intro hn;unfold World.cell? at hv;rw [Array.getElem?_eq_none (by omega)] at hv;simp at hv
 refine ⟨by rw [World.cell?_alloc_some (h:=h.1)]; exact h.1,?_⟩;have:=h.2;unfold World.frozen? at this ⊢;rw [Below.heap_alloc _ _ _ bm];exact this
theorem II {W:World} {p a:Addr} {x:Value} (h:Good W a):Good (W.setCell p x) a:=by
 obtain ⟨v,hv⟩:=WJ h;obtain ⟨v',h'⟩:=RowKit.cell?_setCell_some (p:=p) (x:=x) hv;exact ⟨by rw [h']; rfl,by rw [World.frozen?_setCell]; exact h.2⟩
theorem xw {W:World} {a:Addr} {v:Value} (h:W.cell? a=some v):W.drew.cell? a=some v:=h
theorem zy {W:World} {o:Obj} {a:Addr} {v:Value} (h:W.cell? a=some v):(W.alloc o).cell? a=some v:=by rw [World.cell?_alloc_some (h:=by rw [h]; rfl)]; exact h
theorem tR {W:World} {p a:Addr} {x v:Value} (hp:p.block≠a.block) (h:W.cell? a=some v):(W.setCell p x).cell? a=some v:=by rw [World.cell?_setCell_far _ _ _ _ hp]; exact h
theorem three (W:World) (A0 A1 A2:Obj):∃ V,((W.alloc A0).alloc A1).alloc A2=V/\V.heap[W.heap.size]? = some A0/\V.heap[W.heap.size+1]? = some A1/\V.heap[W.heap.size+1+1]? = some A2/\V.heap.size=W.heap.size+3/\RowKit.Below W.heap.size W V:=by
 have s1:(W.alloc A0).heap.size=W.heap.size+1:=by simp
 have s2:((W.alloc A0).alloc A1).heap.size=W.heap.size+2:=by simp
 refine ⟨_,rfl,?_,?_,nodes.zU _ _ _ (by omega),by simp,(((Below.refl _ _).alloc (aC _) _).alloc (by simp) _).alloc (by simp; omega) _⟩
 ·rw [Below.heap_alloc _ _ _ (by omega),Below.heap_alloc _ _ _ (by omega)]
  exact nodes.zU _ _ _ rfl
 ·rw [Below.heap_alloc _ _ _ (by omega)]
  exact nodes.zU _ _ _ (by omega)
theorem acT {fn:Func} {p q:Tmp} {ty:TypeId} (h:fn.results = #[.cell p ty,.cell q ty]) (tmps:Array Value) (P:Program) (w:World) :
  (results fn tmps).run P w=((asAddr (tmps.getD p undef)).run P w).andThen fun a arn=>((loadVar ty a).run P arn).andThen fun v aro=>((asAddr (tmps.getD q undef)).run P aro).andThen fun a' arp=>((loadVar ty a').run P arp).andThen fun v' arq=>.ok (.tuple #[v,v']) arq:=by
 simp only [results,h];simp [Sem.run_bind,Result.andThen]
theorem filled {w V:World} {Z:Obj} {s:b.aA} {q:Q} {c1 c2:Value} (sV:V.heap.size=w.heap.size+3) (bV:RowKit.Below w.heap.size w V) (e1:V.cell? ⟨w.heap.size,1,none⟩=some c1) (e2:V.cell? ⟨w.heap.size,2,none⟩=some c2)
  (e5:V.cell? ⟨w.heap.size,5,none⟩=some (.int .i64 s.root.slot)) (o1:Good V ⟨w.heap.size+1,0,none⟩) (o2:Good V ⟨w.heap.size+1+1,0,none⟩) (hq:QAt s q w.heap.size w) (u1 u2:Value) :
  ∃ Y,((((V.setCell ⟨w.heap.size+1,0,none⟩ u1).setCell ⟨w.heap.size+1+1,0,none⟩ u2).alloc Z).alloc Z).drew=Y/\Y.heap.size=w.heap.size+5/\RowKit.Below w.heap.size w Y/\Y.cell? ⟨w.heap.size,1,none⟩=some c1/\Y.cell? ⟨w.heap.size,2,none⟩=some c2/\Y.cell? ⟨w.heap.size,5,none⟩=some (.int .i64 s.root.slot)/\
   Y.cell? ⟨w.heap.size+1,0,none⟩=some u1/\Y.cell? ⟨w.heap.size+1+1,0,none⟩=some u2/\Good Y ⟨w.heap.size+1,0,none⟩/\Good Y ⟨w.heap.size+1+1,0,none⟩/\Y.heap[w.heap.size+3]? = some Z/\Y.heap[w.heap.size+3+1]? = some Z/\QAt s q w.heap.size Y:=by
 have cD:∀ {a c:Nat} {j l:Nat},a≠c->(⟨a,j,none⟩:Addr)≠⟨c,l,none⟩:=fun h e=>h (by simpa using congrArg Addr.block e);have hs1:((V.setCell ⟨w.heap.size+1,0,none⟩ u1).setCell ⟨w.heap.size+1+1,0,none⟩ u2).heap.size=w.heap.size+3:=by simp [sV]
 have jL:(((V.setCell ⟨w.heap.size+1,0,none⟩ u1).setCell ⟨w.heap.size+1+1,0,none⟩ u2).alloc Z).heap.size=w.heap.size+3+1:=by simp [sV]
 have bY:RowKit.Below w.heap.size w ((((V.setCell ⟨w.heap.size+1,0,none⟩ u1).setCell ⟨w.heap.size+1+1,0,none⟩ u2).alloc Z).alloc Z).drew:=by
  refine (((bV.setCell ?_ _).setCell ?_ _).alloc ?_ _ |>.alloc ?_ _).drew <;> simp [sV] <;> omega
 have lift:∀ {a:Addr} {v:Value},a.block≠w.heap.size+1->a.block≠w.heap.size+1+1->V.cell? a=some v->((((V.setCell ⟨w.heap.size+1,0,none⟩ u1).setCell ⟨w.heap.size+1+1,0,none⟩ u2).alloc Z).alloc Z).drew.cell? a=some v:=fun h1 h2 h=>xw (zy (zy (tR (Ne.symm h2) (tR (Ne.symm h1) h))));refine ⟨_,rfl,by simp [sV],bY,lift (by show w.heap.size≠_; omega) (by show w.heap.size≠_; omega) e1,lift (by show w.heap.size≠_; omega) (by show w.heap.size≠_; omega) e2,lift (by show w.heap.size≠_; omega) (by show w.heap.size≠_; omega) e5,?_,?_,UC (zx (zx (II (II o1)))),UC (zx (zx (II (II o2)))),?_,?_,hq.dR (d:=w.heap.size) (m:=w.heap.size) ⟨bY.os,bY.tape,bY.output,bY.size,fun k hk _ _=>bY.block k hk⟩ (aC _) (aC _) (aC _)⟩
 ·obtain ⟨v,hv⟩:=WJ o1
  exact xw (zy (zy (tR (by show w.heap.size+1+1≠w.heap.size+1; omega) (World.cell?_setCell_same _ _ _ hv))))
 ·obtain ⟨v,hv⟩:=WJ (II (p:=⟨w.heap.size+1,0,none⟩) (x:=u1) o2)
  exact xw (zy (zy (World.cell?_setCell_same _ _ _ hv)))
 ·show ((((V.setCell _ _).setCell _ _).alloc Z).alloc Z).heap[w.heap.size+3]? = _
  rw [Below.heap_alloc _ _ _ (by omega)];exact nodes.zU _ _ _ (by omega)
 ·exact nodes.zU _ _ _ (by omega)
theorem C8.ua {d m:Nat} {W W' : World} (h:C8 d m W W') {b j:Nat} (hb:b < W.heap.size) (hd:b≠d) (hm:b≠m) (g:Good W ⟨b,j,none⟩):Good W' ⟨b,j,none⟩:=by
 have e:=h.block b hb hd hm;refine ⟨by rw [h.cell hb hd hm]; exact g.1,?_⟩;have:=g.2;unfold World.frozen? at this ⊢;rw [e];exact this
abbrev fnV (n:Nat):Value:=.func (.func 50) #[] #[.pointer (some ⟨n+1,0,none⟩),.pointer (some ⟨n,0,none⟩),.pointer (some ⟨n+5,0,none⟩),.pointer (some ⟨n+1+1,0,none⟩)]
theorem start {s:b.aA} {q:Q} {n d m N:Nat} {Y:World} {Z:Obj} (sY:Y.heap.size=n+5) (y1:Y.cell? ⟨n,1,none⟩=some (.slice q.ka s.graph.kids.n q.kc)) (y2:Y.cell? ⟨n,2,none⟩=some (.slice q.na s.nodes.n q.nc)) (w1:Y.cell? ⟨n+1,0,none⟩=some (.slice (some ⟨d,0,none⟩) N N)) (w2:Y.cell? ⟨n+1+1,0,none⟩=some (.slice (some ⟨m,0,none⟩) N N))
  (zd:Y.heap[d]? = some Z) (zm:Y.heap[m]? = some Z) (hd:n+3<=d) (hm:n+3<=m) (cD:d≠m) (hq:QAt s q n Y) (hZ1:∀ (W:World) (b i:Nat),W.heap[b]? = some Z->i < N->W.cell? ⟨b,i,none⟩=some (.int .i64 0)) (hZ2:∀ (W:World) (b i:Nat),W.heap[b]? = some Z->W.frozen? ⟨b,i,none⟩=false) :
  Kf s q n (n+1) n (n+5) (n+1+1) d m N (Y.alloc (.cells #[fnV n] 143)) (⟨N,fun _=>0⟩,⟨N,fun _=>0⟩):=by
 have ld:d < Y.heap.size:=(r8.1 zd).1;have lm:m < Y.heap.size:=(r8.1 zm).1;have k:C8 d m Y (Y.alloc (.cells #[fnV n] 143)):=.alloc _ _;have zd' : (Y.alloc (.cells #[fnV n] 143)).heap[d]? = some Z:=by rw [Below.heap_alloc _ _ _ ld]; exact zd
 have zm' : (Y.alloc (.cells #[fnV n] 143)).heap[m]? = some Z:=by rw [Below.heap_alloc _ _ _ lm]; exact zm
 have hs:(Y.alloc (.cells #[fnV n] 143)).heap.size=n+6:=by simp [sY]
 exact ⟨hq.dR k (by omega) (by omega) (by omega),by omega,by omega,by omega,by omega,by omega,by omega,by omega,cD,rfl,rfl,(k.cell (by omega) (by omega) (by omega)).trans w1,(k.cell (by omega) (by omega) (by omega)).trans y1,(k.cell (by omega) (by omega) (by omega)).trans y2,
  by rw [nodes.mz (nodes.zU _ _ _ (by omega))]; rfl,(k.cell (by omega) (by omega) (by omega)).trans w2,fun i hi=>hZ1 _ _ _ zd' hi,fun i hi=>hZ1 _ _ _ zm' hi,fun i=>hZ2 _ _ _ zd',fun i=>hZ2 _ _ _ zm'⟩
theorem finish {s:b.aA} {q:Q} {d m N b3:Nat} {w Y W2:World} {o:Obj} {x:Sl Int×Sl Int} (L:Kf s q w.heap.size (w.heap.size+1) w.heap.size b3 (w.heap.size+1+1) d m N W2 x) (k:C8 d m (Y.alloc o) W2) (bY:RowKit.Below w.heap.size w Y) (hd:w.heap.size+3<=d) (hm:w.heap.size+3<=m) (u1 u2:Value) :
  d≠m/\Li w ((W2.setCell ⟨w.heap.size+1,0,none⟩ u1).setCell ⟨w.heap.size+1+1,0,none⟩ u2).drew d x.1/\Li w ((W2.setCell ⟨w.heap.size+1,0,none⟩ u1).setCell ⟨w.heap.size+1+1,0,none⟩ u2).drew m x.2/\RowKit.Below w.heap.size w ((W2.setCell ⟨w.heap.size+1,0,none⟩ u1).setCell ⟨w.heap.size+1+1,0,none⟩ u2).drew:=by
 have b0:RowKit.Below w.heap.size w (Y.alloc o):=bY.alloc bY.size _;have b2:RowKit.Below w.heap.size w W2:=⟨k.os.trans b0.os,k.tape.trans b0.tape,k.output.trans b0.output,hD b0.size k.size,fun j hj=>(k.block j (fa hj b0.size) (by omega) (by omega)).trans (b0.block j hj)⟩
 have n1:=L.n1;have n2:=L.n2;refine ⟨L.ne,⟨by omega,by show d < ((W2.setCell _ _).setCell _ _).heap.size; simpa using L.ld.2,fun i hi=>?_,fun j=>?_⟩,⟨by omega,by show m < ((W2.setCell _ _).setCell _ _).heap.size; simpa using L.lm.2,fun i hi=>?_,fun j=>?_⟩,((b2.setCell (by show w.heap.size<=w.heap.size+1; omega) _).setCell (by show w.heap.size<=w.heap.size+1+1; omega) _).drew⟩
 ·exact xw (tR (by show w.heap.size+1+1≠d; omega) (tR (by show w.heap.size+1≠d; omega) (L.cd i (by omega))))
 ·rw [World.frozen?_drew,World.frozen?_setCell,World.frozen?_setCell]; exact L.fd j
 ·exact xw (tR (by show w.heap.size+1+1≠m; omega) (tR (by show w.heap.size+1≠m; omega) (L.cm i (by omega))))
 ·rw [World.frozen?_drew,World.frozen?_setCell,World.frozen?_setCell]; exact L.fm j
set_option maxHeartbeats 8000000 in
theorem counts (s:b.aA) (q:Q) (x0 x3 x4:Value) (w:World) (hq:QAt s q w.heap.size w) (x:Sl Int×Sl Int) (hx0:b.ef s=some x) :
  Calls Try.prog 23 #[.agg #[x0,.slice q.ka s.graph.kids.n q.kc,.slice q.na s.nodes.n q.nc,x3,x4,.int .i64 s.root.slot,.int .i64 s.root.gen]] w fun e w'=>
   ∃ k1 k2,e = .returned (.tuple #[.slice (some ⟨k1,0,.none⟩) x.1.n x.1.n,.slice (some ⟨k2,0,.none⟩) x.2.n x.2.n])/\k1≠k2/\Li w w' k1 x.1/\Li w w' k2 x.2/\RowKit.Below w.heap.size w w':=by
 have mR:b.Fits s:=by
  apply Classical.byContradiction;intro hf;unfold b.ef at hx0;rw [aa hf] at hx0;simp at hx0
 have hx:b.xv s 250 s.root.slot (⟨s.nodes.n,fun _=>0⟩,⟨s.nodes.n,fun _=>0⟩)=some x:=by
  unfold b.ef at hx0;rwa [aD mR] at hx0
 obtain ⟨hn,fv⟩:=mR;clear hx0;have mixed:=zT;have t3:=Try.underlying3; have a3:=Try.isAgg3; have z3:=Try.sizeOf3; have v3:=Try.zeroValue3; have u3:=run_underlying Try.underlying3;have t48:=Try.underlying48; have a48:=Try.isAgg48; have z48:=Try.sizeOf48; have v48:=Try.zeroValue48; have u48:=run_underlying Try.underlying48;have t32:=Try.underlying32; have a32:=Try.isAgg32; have z32:=Try.sizeOf32; have v32:=Try.zeroValue32; have u32:=run_underlying Try.underlying32;have t34:=Try.underlying34; have a34:=Try.isAgg34; have z34:=Try.sizeOf34; have v34:=Try.zeroValue34; have u34:=run_underlying Try.underlying34;have t28:=Try.underlying28; have a28:=Try.isAgg28; have z28:=Try.sizeOf28; have v28:=Try.zeroValue28; have u28:=run_underlying Try.underlying28;have t143:=Try.underlying143; have a143:=Try.isAgg143; have z143:=Try.sizeOf143; have v143:=Try.zeroValue143; have arh:=run_underlying Try.underlying143
 go_enter Try.func23,Try.ntmps23
 go_wp2
 obtain ⟨V,hV,v0,v1,v2,sV,bV⟩:=three w (Obj.cells #[x0,.slice q.ka s.graph.kids.n q.kc,.slice q.na s.nodes.n q.nc,x3,x4,.int .i64 s.root.slot,.int .i64 s.root.gen] 34) (Obj.cells #[.slice none 0 0] 48) (Obj.cells #[.slice none 0 0] 48);have e1:V.cell? ⟨w.heap.size,1,none⟩=some (.slice q.ka s.graph.kids.n q.kc):=by rw [nodes.mz v0]; rfl
 have e2:V.cell? ⟨w.heap.size,2,none⟩=some (.slice q.na s.nodes.n q.nc):=by rw [nodes.mz v0]; rfl
 have e5:V.cell? ⟨w.heap.size,5,none⟩=some (.int .i64 s.root.slot):=by rw [nodes.mz v0]; rfl
 have o1:V.cell? ⟨w.heap.size+1,0,none⟩=some (.slice none 0 0):=by rw [nodes.mz v1]; rfl
 have o2:V.cell? ⟨w.heap.size+1+1,0,none⟩=some (.slice none 0 0):=by rw [nodes.mz v2]; rfl
 have r1:V.frozen? ⟨w.heap.size+1,0,none⟩=false:=by unfold World.frozen?; simp [v1]
 have r2:V.frozen? ⟨w.heap.size+1+1,0,none⟩=false:=by unfold World.frozen?; simp [v2]
 obtain ⟨Z,TF,hZ1,hZ2⟩:=run_mk s.nodes.n hn;rw [hV];clear hV
 go_region_held3 (fun w'=>w'.cell? ⟨w.heap.size,2,none⟩=some (.slice q.na s.nodes.n q.nc)/\(∃ v,w'.cell? ⟨w.heap.size+1,0,none⟩=some v)/\(∃ v,w'.cell? ⟨w.heap.size+1+1,0,none⟩=some v)/\w'.frozen? ⟨w.heap.size+1,0,none⟩=false/\w'.frozen? ⟨w.heap.size+1+1,0,none⟩=false) ((try refine ⟨?_,?_,?_,?_,?_⟩) <;> first | (first | refine WJ ?_ | refine aoD ?_); (repeat with_reducible first | refine UC ?_ | refine zx ?_ | refine II ?_); (exact ⟨by simp [*],by simp [*]⟩) | ((repeat with_reducible first | refine xw ?_ | refine zy ?_ | refine tR (by dsimp only; omega) ?_); assumption)) (fail)
 all_goals
  have g1:Good V ⟨w.heap.size+1,0,none⟩:=⟨by rw [o1]; rfl,r1⟩
  have g2:Good V ⟨w.heap.size+1+1,0,none⟩:=⟨by rw [o2]; rfl,r2⟩
  first
   | (obtain ⟨Y,hY,sY,bY,y1,y2,y5,w1,w2,p1,p2,z1,z2,qY⟩:=filled (Z:=Z) (s:=s) (q:=q) sV bV e1 e2 e5 g1 g2 hq (.slice (some ⟨w.heap.size+3,0,none⟩) s.nodes.n s.nodes.n) (.slice (some ⟨w.heap.size+3+1,0,none⟩) s.nodes.n s.nodes.n); rw [hY]; clear hY)
   | (obtain ⟨Y,hY,sY,bY,y1,y2,y5,w1,w2,p1,p2,z1,z2,qY⟩:=filled (Z:=Z) (s:=s) (q:=q) sV bV e1 e2 e5 g1 g2 hq (.slice (some ⟨w.heap.size+3+1,0,none⟩) s.nodes.n s.nodes.n) (.slice (some ⟨w.heap.size+3,0,none⟩) s.nodes.n s.nodes.n); rw [hY]; clear hY)
  clear g1 g2 e1 e2 e5 o1 o2 r1 r2 v0 v1 v2 bV sV TF;have hL:∃ d m,w.heap.size+3<=d/\w.heap.size+3<=m/\Kf s q w.heap.size (w.heap.size+1) w.heap.size (w.heap.size+5) (w.heap.size+1+1) d m s.nodes.n (Y.alloc (.cells #[fnV w.heap.size] 143)) (⟨s.nodes.n,fun _=>0⟩,⟨s.nodes.n,fun _=>0⟩):=by
   first
    | exact ⟨_,_,aC _,by omega,start sY y1 y2 w1 w2 z1 z2 (aC _) (by omega) (by omega) qY hZ1 hZ2⟩
    | exact ⟨_,_,by omega,aC _,start sY y1 y2 w1 w2 z2 z1 (by omega) (aC _) (by omega) qY hZ1 hZ2⟩
  obtain ⟨d,m,hd,hm,L⟩:=hL;have Qn:=down s q _ _ _ _ _ _ _ _ fv 250 s.root.slot _ x _ hx L;have fin:∀ W2,Kf s q w.heap.size (w.heap.size+1) w.heap.size (w.heap.size+5) (w.heap.size+1+1) d m s.nodes.n W2 x->C8 d m (Y.alloc (.cells #[fnV w.heap.size] 143)) W2->_:=fun W2 L2 K2=>finish L2 K2 bY hd hm (.slice (some ⟨d,0,none⟩) s.nodes.n s.nodes.n) (.slice (some ⟨m,0,none⟩) s.nodes.n s.nodes.n);clear hq hx fv hn z1 z2 qY hZ1 hZ2 bY
  go_wp2_with (go_at_call 50; go_loud (refine Qn.mono ?_; rintro e w2 ⟨rfl,L2,K2⟩; have q1:=L2.c1; have q4:=L2.c4; have gA:=C8.ua K2 (by simp [sY]) (by omega) (by omega) (zx (o:=.cells #[fnV w.heap.size] 143) p1); have gB:=C8.ua K2 (by simp [sY]) (by omega) (by omega) (zx (o:=.cells #[fnV w.heap.size] 143) p2)))
  have gA1:=gA.1;have gA2:=gA.2;have gB1:=gB.1;have gB2:=gB.2
  go_region_held3 (fun w'=>w'.cell? ⟨w.heap.size+1,0,none⟩=some (.slice (some ⟨d,0,none⟩) s.nodes.n s.nodes.n)/\w'.cell? ⟨w.heap.size+1+1,0,none⟩=some (.slice (some ⟨m,0,none⟩) s.nodes.n s.nodes.n)/\w'.frozen? ⟨w.heap.size+1,0,none⟩=false/\w'.frozen? ⟨w.heap.size+1+1,0,none⟩=false) ((try refine ⟨?_,?_,?_,?_⟩) <;> first | ((repeat with_reducible first | refine xw ?_ | refine tR (by dsimp only; omega) ?_); first | assumption | exact World.cell?_setCell_same _ _ _ (by first | assumption | exact tR (by dsimp only; omega) (by assumption))) | simp [*]) (fail)
  all_goals
   go_wp2
   have n1:=L2.n1;have n2:=L2.n2;obtain ⟨f1,f2,f3,f4⟩:=fin _ L2 K2;have h1:((w2.setCell ⟨w.heap.size+1,0,none⟩ (.slice (some ⟨d,0,none⟩) s.nodes.n s.nodes.n)).setCell ⟨w.heap.size+1+1,0,none⟩ (.slice (some ⟨m,0,none⟩) s.nodes.n s.nodes.n)).drew.cell? ⟨w.heap.size+1,0,none⟩=some (.slice (some ⟨d,0,none⟩) s.nodes.n s.nodes.n):=
    xw (tR (by dsimp only; omega) (World.cell?_setCell_same _ _ _ q1))
   have h2:((w2.setCell ⟨w.heap.size+1,0,none⟩ (.slice (some ⟨d,0,none⟩) s.nodes.n s.nodes.n)).setCell ⟨w.heap.size+1+1,0,none⟩ (.slice (some ⟨m,0,none⟩) s.nodes.n s.nodes.n)).drew.cell? ⟨w.heap.size+1+1,0,none⟩=some (.slice (some ⟨m,0,none⟩) s.nodes.n s.nodes.n):=
    xw (World.cell?_setCell_same _ _ _ (tR (by dsimp only; omega) q4))
   generalize ((w2.setCell ⟨w.heap.size+1,0,none⟩ (.slice (some ⟨d,0,none⟩) s.nodes.n s.nodes.n)).setCell ⟨w.heap.size+1+1,0,none⟩ (.slice (some ⟨m,0,none⟩) s.nodes.n s.nodes.n)).drew=WE at *;refine bodyPost_ret (v:=.tuple #[.slice (some ⟨d,0,none⟩) s.nodes.n s.nodes.n,.slice (some ⟨m,0,none⟩) s.nodes.n s.nodes.n]) ?_ rfl ⟨d,m,by rw [n1,n2],f1,f2,f3,f4⟩;rw [acT rfl]
   go_simp
theorem call23:x9 Try.prog 23:=by
 refine ⟨by kernel_rfl,_,Try.func23,rfl,by kernel_rfl⟩
theorem aoE (w:Nat->KV):uM Try.prog [34] w 0 = [b.iY (b.dC (gV Try.prog (b8 Try.prog du) 34 (w 0)))]:=by kernel_rfl
theorem art (l:List Nat) (g:Nat->Int):dJ (aQ Try.prog 3) (l.map fun i=>kI .i64 (g i))=true:=by
 induction l with
 | nil=>rfl
 | cons x l ih=>
  show (cv (aQ Try.prog 3) (kI .i64 (g x))&&dJ (aQ Try.prog 3) (l.map fun i=>kI .i64 (g i)))=true;rw [ih,Fv]
  kernel_rfl
end Go.Proofs.Ytckbdndhmcoihaa.LC
namespace Go.Proofs.Ytckbdndhmcoihaa.b
open Go Go.RowKit Go.K
theorem CH:bB Try.prog 23 xZ:=by
 refine alY LC.call23 (by kernel_rfl) (fun s=>LC.art _ _) fun args v E A B ρ base w dY hF hlen hv hj=>?_;have ep:bT Try.prog 23 = [34]:=by kernel_rfl
 unfold xZ bC at hF;obtain ⟨hb,hF⟩:=aI.cond hF;obtain ⟨ww,hw⟩:=Ju 0 hb;have Dh:rU Try.prog E ρ (normArgs Try.prog (bT Try.prog 23) args) dY:=by
  obtain ⟨m,h1,h2⟩:=hv;exact ⟨m,aV.NW (.of rfl) h1 hlen,h2⟩
 rw [hw,ep,LC.aoE] at hF Dh;generalize dC (gV Try.prog (b8 Try.prog du) 34 (ww 0))=s at hF Dh;obtain ⟨u,us,rfl,hu,Ml⟩:=Dh.xX;obtain rfl:=Ml.V7;obtain ⟨q,x0,x3,x4,rfl,hq⟩:=LC.alZ hj hu;unfold bO at hF;obtain ⟨h1,h2⟩:=aI.jQ hF;have h1:(ef s).isSome=true:=h1;obtain ⟨x,hx⟩:=Q8.1 h1;have h2:KV.kL [(dq 3 (kI .i64)) ((ef s).getD default).1,(dq 3 (kI .i64)) ((ef s).getD default).2] = v:=h2;rw [hx] at h2;refine (LC.counts s q x0 x3 x4 w hq x hx).mono ?_;rintro e w' ⟨k1,k2,rfl,cD,i1,i2,hb⟩;exact ⟨x.1,x.2,k1,k2,h2.symm,rfl,cD,i1,i2,hb⟩
end Go.Proofs.Ytckbdndhmcoihaa.b
end
