/- Part of the proof of ImageWins: a machine that runs the program's code over open terms, shown to be the model's, and the plain models of its functions. No conditions. -/
import Derived.Test.YtahhdndhkgbcjaaHp
section
namespace Go.Proofs.Ytahhdndhkgbcjaa.b
open Go.K
set_option linter.unusedVariables false
set_option linter.unusedSimpArgs false
noncomputable section
def Z2:List (Nat×(List KV→KR KV)):=[]
def Z3:List Lp:=[]
theorem adr:aq Try.prog Z2:=aq.nil
theorem ads:aA Try.prog Z3:=aA.nil
def yc (n:Int):Option (Bool):=
 (cond (decide (n ≥ (-(32768:Int))))
 (some ((decide (n≤(32768:Int)))))
 (some (false)))
theorem afs (n:Int):dn Try.prog (bp Try.prog Z2 Z3 (fun _=>false)) 9 9 125 [(kI .i64) n] = (yc n).map kB:=by
 unfold yc
 try simp only [b7]
 kernel_rfl
def Mb:List KV→KR KV:=cr Try.prog 125 (cD kB fun vs=>yc (intOf (vs.getD 0 .ax)))
theorem adt (w:Nat→KV):cM Try.prog [3] w 0 = [(kI .i64) (intOf (ay Try.prog (ao Try.prog av) 3 (w 0)))]:=by kernel_rfl
theorem Ig:b9 Try.prog 125 Mb:=aX funcs mixed adr ads (L:=9) (n:=9) fun w=>by
 have e:aK Try.prog 125 = [3]:=by kernel_rfl
 rw [e,adt]
 exact (afs (intOf (ay Try.prog (ao Try.prog av) 3 (w 0)))).trans (by kernel_rfl)
structure tU where
 low:eB
 high:eB
instance:Inhabited tU:=⟨⟨default,default⟩⟩
def aj9 (x:tU):List KV:=[.int .i64 x.low.x,.int .i64 x.low.y,.int .i64 x.low.z,.int .i64 x.high.x,.int .i64 x.high.y,.int .i64 x.high.z]
def zC (x:tU):KV:=.agg (aj9 x)
def aka (c:Nat→KV):tU:=⟨⟨intOf (c 0),intOf (c 1),intOf (c 2)⟩,⟨intOf (c 3),intOf (c 4),intOf (c 5)⟩⟩
def RH (v:KV):tU:=aka fun k=>v.cells.getD k .ax
structure Span where
 low:Int
 high:Int
instance:Inhabited Span:=⟨⟨default,default⟩⟩
structure yZ where
 e0:Span
 e1:Span
 e2:Span
instance:Inhabited yZ:=⟨⟨default,default,default⟩⟩
def aiq (x:yZ):List KV:=[.int .i64 x.e0.low,.int .i64 x.e0.high,.int .i64 x.e1.low,.int .i64 x.e1.high,.int .i64 x.e2.low,.int .i64 x.e2.high]
def Mc (x:yZ):KV:=.agg (aiq x)
def air (c:Nat→KV):yZ:=⟨⟨intOf (c 0),intOf (c 1)⟩,⟨intOf (c 2),intOf (c 3)⟩,⟨intOf (c 4),intOf (c 5)⟩⟩
def Uk (v:KV):yZ:=air fun k=>v.cells.getD k .ax
def NC:List (Nat×(List KV→KR KV)):=[]
def ND:List Lp:=[]
theorem Ww:aq Try.prog NC:=aq.nil
theorem Wx:aA Try.prog ND:=aA.nil
def Ih (b:tU):Option (yZ):=
 (some ((⟨(⟨b.low.x,b.high.x⟩:Span),(⟨b.low.y,b.high.y⟩:Span),(⟨b.low.z,b.high.z⟩:Span)⟩:yZ)))
theorem Z4 (b:tU):dn Try.prog (bp Try.prog NC ND (fun _=>false)) 9 9 136 [zC b] = (Ih b).map Mc:=by
 unfold Ih
 kernel_rfl
def RI:List KV→KR KV:=cr Try.prog 136 (cD Mc fun vs=>Ih (RH (vs.getD 0 .ax)))
theorem Wy (w:Nat→KV):cM Try.prog [43] w 0 = [zC (RH (ay Try.prog (ao Try.prog av) 43 (w 0)))]:=by kernel_rfl
theorem Wz:b9 Try.prog 136 RI:=aX funcs mixed Ww Wx (L:=9) (n:=9) fun w=>by
 have e:aK Try.prog 136 = [43]:=by kernel_rfl
 rw [e,Wy]
 exact (Z4 (RH (ay Try.prog (ao Try.prog av) 43 (w 0)))).trans (by kernel_rfl)
def NF:List (Nat×(List KV→KR KV)):=[]
def NG:List Lp:=[]
theorem WA:aq Try.prog NF:=aq.nil
theorem WB:aA Try.prog NG:=aA.nil
def Ii (s:yZ):Option (tU):=
 (some ((⟨(⟨s.e0.low,s.e1.low,s.e2.low⟩:eB),(⟨s.e0.high,s.e1.high,s.e2.high⟩:eB)⟩:tU)))
theorem Z5 (s:yZ):dn Try.prog (bp Try.prog NF NG (fun _=>false)) 9 9 137 [Mc s] = (Ii s).map zC:=by
 unfold Ii
 kernel_rfl
def RJ:List KV→KR KV:=cr Try.prog 137 (cD zC fun vs=>Ii (Uk (vs.getD 0 .ax)))
theorem WC (w:Nat→KV):cM Try.prog [217] w 0 = [Mc (Uk (ay Try.prog (ao Try.prog av) 217 (w 0)))]:=by kernel_rfl
theorem WD:b9 Try.prog 137 RJ:=aX funcs mixed WA WB (L:=9) (n:=9) fun w=>by
 have e:aK Try.prog 137 = [217]:=by kernel_rfl
 rw [e,WC]
 exact (Z5 (Uk (ay Try.prog (ao Try.prog av) 217 (w 0)))).trans (by kernel_rfl)
def RK:List (Nat×(List KV→KR KV)):=[(137,RJ),(136,RI)]
def RL:List Lp:=[]
theorem Z6:aq Try.prog RK:=(aq.cons WD (aq.cons Wz aq.nil))
theorem Z7:aA Try.prog RL:=aA.nil
def K8 (a:tU) (b:tU):Option (tU):=
 (some ((⟨(⟨(min a.low.x b.low.x),(min a.low.y b.low.y),(min a.low.z b.low.z)⟩:eB),(⟨(max a.high.x b.high.x),(max a.high.y b.high.y),(max a.high.z b.high.z)⟩:eB)⟩:tU)))
theorem abg (a:tU) (b:tU):dn Try.prog (bp Try.prog RK RL (fun _=>false)) 9 9 126 [zC a,zC b] = (K8 a b).map zC:=by
 unfold K8
 kernel_rfl
def Em:List KV→KR KV:=cr Try.prog 126 (cD zC fun vs=>K8 (RH (vs.getD 0 .ax)) (RH (vs.getD 1 .ax)))
theorem Z8 (w:Nat→KV):cM Try.prog [43,43] w 0 = [zC (RH (ay Try.prog (ao Try.prog av) 43 (w 0))),zC (RH (ay Try.prog (ao Try.prog av) 43 (w 1)))]:=by kernel_rfl
theorem Dn:b9 Try.prog 126 Em:=aX funcs mixed Z6 Z7 (L:=9) (n:=9) fun w=>by
 have e:aK Try.prog 126 = [43,43]:=by kernel_rfl
 rw [e,Z8]
 exact (abg (RH (ay Try.prog (ao Try.prog av) 43 (w 0))) (RH (ay Try.prog (ao Try.prog av) 43 (w 1)))).trans (by kernel_rfl)
structure il where
 l:(Sl eB)
 e:Int
 t17:(Sl eB)
 t18:Int
 t19:Int
 b:tU
instance:Inhabited il:=⟨⟨default,default,default,default,default,default⟩⟩
def AU (x:il):List KV:=[iU 41 wH x.l,.int .i64 x.e,iU 41 wH x.t17,.int .i64 x.t18,.int .i64 x.t19]
def AV (x:il):List (List KV):=[aj9 x.b]
def NH (vs:List KV) (rs:List (List KV)):il:=⟨iw x6 (vs.getD 0 .ax),intOf (vs.getD 1 .ax),iw x6 (vs.getD 2 .ax),intOf (vs.getD 3 .ax),intOf (vs.getD 4 .ax),aka (fun k=>(rs.getD 0 []).getD k .ax)⟩
def RM:aQ:=⟨[(0,⟨false,[.k (.slice 41)]⟩),(3,⟨false,[.k (.int .i64)]⟩),(17,⟨false,[.k (.slice 41)]⟩),(18,⟨false,[.k (.int .i64)]⟩),(19,⟨false,[.k (.int .i64)]⟩)],[(2,[.k (.int .i64),.k (.int .i64),.k (.int .i64),.k (.int .i64),.k (.int .i64),.k (.int .i64)],1)],[(2,0,0)]⟩
def abh:=jf Try.prog (bp Try.prog [(126,Em),(125,Mb)] [] (fun _=>false)) 9 9 109 58 (eX Try.prog 109 58) RM
def y0 (x:il):(Option Bool):=(yc (x.t17.get (Int.toNat x.t19)).x)
def y7 (x:il):(Option Bool):=(yc (x.t17.get (Int.toNat x.t19)).y)
def y8 (x:il):(Option Bool):=(yc (x.t17.get (Int.toNat x.t19)).z)
def nV (x:il):aJ il:=
 (cond (decide (x.t19 < x.t18))
 (cond ((decide ((0:Int)≤x.t19))&&(decide (x.t19 < ((x.t17.n:Nat):Int))))
 (cond (y0 x).isSome
 (cond (!((y0 x).getD default))
 (.out aG.aw.ret (⟨x.l,(20:Int),x.t17,x.t18,x.t19,(⟨(⟨(0:Int),(0:Int),(0:Int)⟩:eB),(⟨(0:Int),(0:Int),(0:Int)⟩:eB)⟩:tU)⟩:il))
 (cond (y7 x).isSome
 (cond (!((y7 x).getD default))
 (.out aG.aw.ret (⟨x.l,(20:Int),x.t17,x.t18,x.t19,(⟨(⟨(0:Int),(0:Int),(0:Int)⟩:eB),(⟨(0:Int),(0:Int),(0:Int)⟩:eB)⟩:tU)⟩:il))
 (cond (y8 x).isSome
 (cond (!((y8 x).getD default))
 (.out aG.aw.ret (⟨x.l,(20:Int),x.t17,x.t18,x.t19,(⟨(⟨(0:Int),(0:Int),(0:Int)⟩:eB),(⟨(0:Int),(0:Int),(0:Int)⟩:eB)⟩:tU)⟩:il))
 (.next (⟨x.l,x.e,x.t17,x.t18,(ak (x.t19+(1:Int))),x.b⟩:il)))
 .fail))
 .fail))
 .fail)
 .fail)
 (.out (aG.aw.exit 0) x))
theorem WG (x:il):abh (AU x) (AV x)=aJ.enc AU AV (nV x):=by
 unfold nV
 try simp only [aJ.dg]
 kernel_rfl
def y9:Lp:=⟨109,58,RM,fun vs rs=>dD AU AV (goN nV (NH vs rs)) [aG.aw.exit 0,aG.aw.ret],false⟩
theorem NI:y9.Ok Try.prog:=eF funcs mixed (aq.cons Dn (aq.cons Ig aq.nil)) aA.nil (L:=9) (n:=9) (step:=nV) (ev:=AU) (er:=AV) (pa:=NH) rfl (fun wv wr=>⟨by kernel_rfl,by kernel_rfl⟩) WG
theorem Gw:cz Try.prog y9.f y9.p=true:=by kernel_rfl
structure kV where
 t49:(Sl eB)
 t50:Int
 t51:Int
 b:tU
instance:Inhabited kV:=⟨⟨default,default,default,default⟩⟩
def za (x:kV):List KV:=[iU 41 wH x.t49,.int .i64 x.t50,.int .i64 x.t51]
def zb (x:kV):List (List KV):=[aj9 x.b]
def K9 (vs:List KV) (rs:List (List KV)):kV:=⟨iw x6 (vs.getD 0 .ax),intOf (vs.getD 1 .ax),intOf (vs.getD 2 .ax),aka (fun k=>(rs.getD 0 []).getD k .ax)⟩
def NJ:aQ:=⟨[(49,⟨false,[.k (.slice 41)]⟩),(50,⟨false,[.k (.int .i64)]⟩),(51,⟨false,[.k (.int .i64)]⟩)],[(2,[.k (.int .i64),.k (.int .i64),.k (.int .i64),.k (.int .i64),.k (.int .i64),.k (.int .i64)],1)],[(2,0,0)]⟩
def Z9:=jf Try.prog (bp Try.prog [(126,Em),(125,Mb)] [y9] (fun _=>false)) 9 9 109 250 (eX Try.prog 109 250) NJ
def lO (x:kV):aJ kV:=
 (cond (decide (x.t51 < x.t50))
 (cond ((decide ((0:Int)≤x.t51))&&(decide (x.t51 < ((x.t49.n:Nat):Int))))
 (.next (⟨x.t49,x.t50,(ak (x.t51+(1:Int))),(⟨(⟨(min x.b.low.x (x.t49.get (Int.toNat x.t51)).x),(min x.b.low.y (x.t49.get (Int.toNat x.t51)).y),(min x.b.low.z (x.t49.get (Int.toNat x.t51)).z)⟩:eB),(⟨(max x.b.high.x (x.t49.get (Int.toNat x.t51)).x),(max x.b.high.y (x.t49.get (Int.toNat x.t51)).y),(max x.b.high.z (x.t49.get (Int.toNat x.t51)).z)⟩:eB)⟩:tU)⟩:kV))
 .fail)
 (.out (aG.aw.exit 2) x))
theorem Ul (x:kV):Z9 (za x) (zb x)=aJ.enc za zb (lO x):=by
 unfold lO
 try simp only [aJ.dg]
 kernel_rfl
def AW:Lp:=⟨109,250,NJ,fun vs rs=>dD za zb (goN lO (K9 vs rs)) [aG.aw.exit 2],false⟩
theorem aaa:AW.Ok Try.prog:=eF funcs mixed (aq.cons Dn (aq.cons Ig aq.nil)) (aA.cons NI Gw aA.nil) (L:=9) (n:=9) (step:=lO) (ev:=za) (er:=zb) (pa:=K9) rfl (fun wv wr=>⟨by kernel_rfl,by kernel_rfl⟩) Ul
theorem RN:cz Try.prog AW.f AW.p=true:=by kernel_rfl
def aab:List (Nat×(List KV→KR KV)):=[(126,Em),(125,Mb)]
def aac:List Lp:=[y9,AW]
theorem adu:aq Try.prog aab:=(aq.cons Dn (aq.cons Ig aq.nil))
theorem adv:aA Try.prog aac:=(aA.cons NI Gw (aA.cons aaa RN aA.nil))
def gD (l:(Sl eB)):(aJ il):=(goN nV (⟨l,(0:Int),l,((l.n:Nat):Int),(0:Int),(⟨(⟨(0:Int),(0:Int),(0:Int)⟩:eB),(⟨(0:Int),(0:Int),(0:Int)⟩:eB)⟩:tU)⟩:il))
def Bm (l:(Sl eB)):(aJ kV):=(goN lO (⟨(⟨((Int.toNat (((gD l).st.l.n:Nat):Int)) - 1),(fun i=>((gD l).st.l.get (1+i)))⟩:Sl _),((((Int.toNat (((gD l).st.l.n:Nat):Int)) - 1):Nat):Int),(0:Int),(⟨((gD l).st.l.get 0),((gD l).st.l.get 0)⟩:tU)⟩:kV))
def CG (l:(Sl eB)):Option (tU×Int):=
 (cond (((l.n:Nat):Int)==(0:Int))
 (some ((⟨(⟨(0:Int),(0:Int),(0:Int)⟩:eB),(⟨(0:Int),(0:Int),(0:Int)⟩:eB)⟩:tU),(4:Int)))
 (cond (decide (((l.n:Nat):Int) > (4096:Int)))
 (some ((⟨(⟨(0:Int),(0:Int),(0:Int)⟩:eB),(⟨(0:Int),(0:Int),(0:Int)⟩:eB)⟩:tU),(4:Int)))
 (cond ((gD l).by (aG.aw.exit 0))
 (cond (decide ((0:Int) < (((gD l).st.l.n:Nat):Int)))
 (cond (decide ((0:Int) < (((gD l).st.l.n:Nat):Int)))
 (cond ((decide ((1:Int)≤(((gD l).st.l.n:Nat):Int)))&&(decide ((((gD l).st.l.n:Nat):Int)≤(((gD l).st.l.n:Nat):Int))))
 (cond ((Bm l).by (aG.aw.exit 2))
 (some ((Bm l).st.b,(0:Int)))
 none)
 none)
 none)
 none)
 (cond ((gD l).by aG.aw.ret)
 (some ((gD l).st.b,(gD l).st.e))
 none))))
theorem aft (l:(Sl eB)):dn Try.prog (bp Try.prog aab aac (fun _=>false)) 9 9 109 [(iU 41 wH) l] = (CG l).map (fun (r:tU×Int)=>KV.jE [zC r.1,(kI .i64) r.2]):=by
 unfold CG
 try simp only [b7]
 kernel_rfl
def Md:List KV→KR KV:=cr Try.prog 109 (cD (fun (r:tU×Int)=>KV.jE [zC r.1,(kI .i64) r.2]) fun vs=>CG ((iw x6) (vs.getD 0 .ax)))
theorem adw (w:Nat→KV):cM Try.prog [33] w 0 = [(iU 41 wH) ((iw x6) (ay Try.prog (ao Try.prog av) 33 (w 0)))]:=by kernel_rfl
theorem Ij:b9 Try.prog 109 Md:=aX funcs mixed adu adv (L:=9) (n:=9) fun w=>by
 have e:aK Try.prog 109 = [33]:=by kernel_rfl
 rw [e,adw]
 exact (aft ((iw x6) (ay Try.prog (ao Try.prog av) 33 (w 0)))).trans (by kernel_rfl)
def Gx:List (Nat×(List KV→KR KV)):=[]
def Gy:List Lp:=[]
theorem Pa:aq Try.prog Gx:=aq.nil
theorem Pb:aA Try.prog Gy:=aA.nil
def lq (n:Int):Option (Bool):=
 (cond (decide (n > (0:Int)))
 (some ((decide (n≤(16:Int)))))
 (some (false)))
theorem RO (n:Int):dn Try.prog (bp Try.prog Gx Gy (fun _=>false)) 9 9 106 [(kI .i64) n] = (lq n).map kB:=by
 unfold lq
 try simp only [b7]
 kernel_rfl
def Jh:List KV→KR KV:=cr Try.prog 106 (cD kB fun vs=>lq (intOf (vs.getD 0 .ax)))
theorem Pc (w:Nat→KV):cM Try.prog [3] w 0 = [(kI .i64) (intOf (ay Try.prog (ao Try.prog av) 3 (w 0)))]:=by kernel_rfl
theorem Pd:b9 Try.prog 106 Jh:=aX funcs mixed Pa Pb (L:=9) (n:=9) fun w=>by
 have e:aK Try.prog 106 = [3]:=by kernel_rfl
 rw [e,Pc]
 exact (RO (intOf (ay Try.prog (ao Try.prog av) 3 (w 0)))).trans (by kernel_rfl)
structure Color where
 e0:Int
 e1:Int
 e2:Int
 e3:Int
instance:Inhabited Color:=⟨⟨default,default,default,default⟩⟩
def Mf (x:Color):List KV:=[.int .u8 x.e0,.int .u8 x.e1,.int .u8 x.e2,.int .u8 x.e3]
def fV (x:Color):KV:=.agg (Mf x)
def Mg (c:Nat→KV):Color:=⟨intOf (c 0),intOf (c 1),intOf (c 2),intOf (c 3)⟩
def kf (v:KV):Color:=Mg fun k=>v.cells.getD k .ax
theorem ais (x:Color):kf (fV x)=x:=rfl
theorem ait:kf .ax=default:=rfl
theorem afu (s:Sl Color) (v:Color):s.push v=ka kf (s.n+1) (fa s.n (fun i=>fV (s.get i)) (qV [fV v])):=(x5 ais ait s v).symm
structure ew where
 w:Int
 h:Int
 En:(Sl Color)
instance:Inhabited ew:=⟨⟨default,default,default⟩⟩
def aiu (x:ew):List KV:=[.int .i64 x.w,.int .i64 x.h,iU 37 fV x.En]
def nK (x:ew):KV:=.agg (aiu x)
def aiv (c:Nat→KV):ew:=⟨intOf (c 0),intOf (c 1),iw kf (c 2)⟩
def kh (v:KV):ew:=aiv fun k=>v.cells.getD k .ax
def Eo:List (Nat×(List KV→KR KV)):=[(106,Jh)]
def Ep:List Lp:=[]
theorem MF:aq Try.prog Eo:=(aq.cons Pd aq.nil)
theorem MG:aA Try.prog Ep:=aA.nil
def sB (t:ew):(Option Bool):=(lq t.w)
def sC (t:ew):(Option Bool):=(lq t.h)
def gf (t:ew):Option (Int):=
 (cond (sB t).isSome
 (cond (!((sB t).getD default))
 (some ((8:Int)))
 (cond (sC t).isSome
 (cond (!((sC t).getD default))
 (some ((8:Int)))
 (cond (((t.En.n:Nat):Int) != (ak (t.w * t.h)))
 (some ((8:Int)))
 (some ((0:Int)))))
 none))
 none)
theorem Pe (t:ew):dn Try.prog (bp Try.prog Eo Ep (fun _=>false)) 9 9 78 [nK t] = (gf t).map (kI .i64):=by
 unfold gf
 try simp only [b7]
 kernel_rfl
def vj:List KV→KR KV:=cr Try.prog 78 (cD (kI .i64) fun vs=>gf (kh (vs.getD 0 .ax)))
theorem MH (w:Nat→KV):cM Try.prog [108] w 0 = [nK (kh (ay Try.prog (ao Try.prog av) 108 (w 0)))]:=by kernel_rfl
theorem v9:b9 Try.prog 78 vj:=aX funcs mixed MF MG (L:=9) (n:=9) fun w=>by
 have e:aK Try.prog 78 = [108]:=by kernel_rfl
 rw [e,MH]
 exact (Pe (kh (ay Try.prog (ao Try.prog av) 108 (w 0)))).trans (by kernel_rfl)
structure eG where
 t2:Int
 t9:(Sl ew)
 t10:Int
 t11:Int
instance:Inhabited eG:=⟨⟨default,default,default,default⟩⟩
def pC (x:eG):List KV:=[.int .i64 x.t2,iU 108 nK x.t9,.int .i64 x.t10,.int .i64 x.t11]
def pD (x:eG):List (List KV):=[]
def zG (vs:List KV) (rs:List (List KV)):eG:=⟨intOf (vs.getD 0 .ax),iw kh (vs.getD 1 .ax),intOf (vs.getD 2 .ax),intOf (vs.getD 3 .ax)⟩
def Bn:aQ:=⟨[(2,⟨false,[.k (.int .i64)]⟩),(9,⟨false,[.k (.slice 108)]⟩),(10,⟨false,[.k (.int .i64)]⟩),(11,⟨false,[.k (.int .i64)]⟩)],[],[]⟩
def JM:=jf Try.prog (bp Try.prog [(78,vj)] [] (fun _=>false)) 9 9 45 58 (eX Try.prog 45 58) Bn
def ki (x:eG):(Option Int):=(gf (x.t9.get (Int.toNat x.t11)))
def fy (x:eG):aJ eG:=
 (cond (decide (x.t11 < x.t10))
 (cond ((decide ((0:Int)≤x.t11))&&(decide (x.t11 < ((x.t9.n:Nat):Int))))
 (cond (ki x).isSome
 (cond (((ki x).getD default) != (0:Int))
 (.out aG.aw.ret (⟨((ki x).getD default),x.t9,x.t10,x.t11⟩:eG))
 (.next (⟨x.t2,x.t9,x.t10,(ak (x.t11+(1:Int)))⟩:eG)))
 .fail)
 .fail)
 (.out (aG.aw.exit 0) x))
theorem Gz (x:eG):JM (pC x) (pD x)=aJ.enc pC pD (fy x):=by
 unfold fy
 try simp only [aJ.dg]
 kernel_rfl
def qm:Lp:=⟨45,58,Bn,fun vs rs=>dD pC pD (goN fy (zG vs rs)) [aG.aw.exit 0,aG.aw.ret],false⟩
theorem JN:qm.Ok Try.prog:=eF funcs mixed (aq.cons v9 aq.nil) aA.nil (L:=9) (n:=9) (step:=fy) (ev:=pC) (er:=pD) (pa:=zG) rfl (fun wv wr=>⟨by kernel_rfl,by kernel_rfl⟩) Gz
theorem Fk:cz Try.prog qm.f qm.p=true:=by kernel_rfl
def Dp:List (Nat×(List KV→KR KV)):=[(78,vj)]
def Dq:List Lp:=[qm]
theorem Lb:aq Try.prog Dp:=(aq.cons v9 aq.nil)
theorem Lc:aA Try.prog Dq:=(aA.cons JN Fk aA.nil)
def eC (l:(Sl ew)):(aJ eG):=(goN fy (⟨(0:Int),l,((l.n:Nat):Int),(0:Int)⟩:eG))
def gj (l:(Sl ew)):Option (Int):=
 (cond (decide (((l.n:Nat):Int) > (16:Int)))
 (some ((4:Int)))
 (cond ((eC l).by (aG.aw.exit 0))
 (some ((0:Int)))
 (cond ((eC l).by aG.aw.ret)
 (some ((eC l).st.t2))
 none)))
theorem MI (l:(Sl ew)):dn Try.prog (bp Try.prog Dp Dq (fun _=>false)) 9 9 45 [(iU 108 nK) l] = (gj l).map (kI .i64):=by
 unfold gj
 try simp only [b7]
 kernel_rfl
def tG:List KV→KR KV:=cr Try.prog 45 (cD (kI .i64) fun vs=>gj ((iw kh) (vs.getD 0 .ax)))
theorem Ld (w:Nat→KV):cM Try.prog [23] w 0 = [(iU 108 nK) ((iw kh) (ay Try.prog (ao Try.prog av) 23 (w 0)))]:=by kernel_rfl
theorem uD:b9 Try.prog 45 tG:=aX funcs mixed Lb Lc (L:=9) (n:=9) fun w=>by
 have e:aK Try.prog 45 = [23]:=by kernel_rfl
 rw [e,Ld]
 exact (MI ((iw kh) (ay Try.prog (ao Try.prog av) 23 (w 0)))).trans (by kernel_rfl)
structure uE where
 color:Color
 n7:Int
 yN:Int
 Le:Int
 Ik:Bool
 bin:Int
instance:Inhabited uE:=⟨⟨default,default,default,default,default,default⟩⟩
def al2 (x:uE):List KV:=[.int .u8 x.color.e0,.int .u8 x.color.e1,.int .u8 x.color.e2,.int .u8 x.color.e3,.int .i64 x.n7,.int .u8 x.yN,.int .i64 x.Le,.bool x.Ik,.int .i64 x.bin]
def adx (x:uE):KV:=.agg (al2 x)
def al3 (c:Nat→KV):uE:=⟨⟨intOf (c 0),intOf (c 1),intOf (c 2),intOf (c 3)⟩,intOf (c 4),intOf (c 5),intOf (c 6),og (c 7),intOf (c 8)⟩
def Um (v:KV):uE:=al3 fun k=>v.cells.getD k .ax
def B6:List (Nat×(List KV→KR KV)):=[]
def B7:List Lp:=[]
theorem JO:aq Try.prog B6:=aq.nil
theorem JP:aA Try.prog B7:=aA.nil
def fG (l:uE) (aR:Int):Option (Int):=
 (cond (decide (aR < (0:Int)))
 (some ((2:Int)))
 (cond (decide (aR > (16:Int)))
 (some ((2:Int)))
 (cond (decide (l.n7 < (-(1:Int))))
 (some ((8:Int)))
 (cond (decide (l.n7 ≥ aR))
 (some ((8:Int)))
 (cond (decide (l.yN > (2:Int)))
 (some ((8:Int)))
 (cond (decide (l.Le < (-(1024:Int))))
 (some ((8:Int)))
 (cond (decide (l.Le > (1024:Int)))
 (some ((8:Int)))
 (cond (decide (l.bin < (0:Int)))
 (some ((8:Int)))
 (cond (decide (l.bin > (15:Int)))
 (some ((8:Int)))
 (some ((0:Int))))))))))))
theorem Lf (l:uE) (aR:Int):dn Try.prog (bp Try.prog B6 B7 (fun _=>false)) 9 9 46 [adx l,(kI .i64) aR] = (fG l aR).map (kI .i64):=by
 unfold fG
 try simp only [b7]
 kernel_rfl
def pe:List KV→KR KV:=cr Try.prog 46 (cD (kI .i64) fun vs=>fG (Um (vs.getD 0 .ax)) (intOf (vs.getD 1 .ax)))
theorem JQ (w:Nat→KV):cM Try.prog [39,3] w 0 = [adx (Um (ay Try.prog (ao Try.prog av) 39 (w 0))),(kI .i64) (intOf (ay Try.prog (ao Try.prog av) 3 (w 1)))]:=by kernel_rfl
theorem pE:b9 Try.prog 46 pe:=aX funcs mixed JO JP (L:=9) (n:=9) fun w=>by
 have e:aK Try.prog 46 = [39,3]:=by kernel_rfl
 rw [e,JQ]
 exact (Lf (Um (ay Try.prog (ao Try.prog av) 39 (w 0))) (intOf (ay Try.prog (ao Try.prog av) 3 (w 1)))).trans (by kernel_rfl)
structure w6 where
 e0:Int
 e1:Int
instance:Inhabited w6:=⟨⟨default,default⟩⟩
def akb (x:w6):List KV:=[.int .i64 x.e0,.int .i64 x.e1]
def akc (x:w6):KV:=.agg (akb x)
def akd (c:Nat→KV):w6:=⟨intOf (c 0),intOf (c 1)⟩
def ake (v:KV):w6:=akd fun k=>v.cells.getD k .ax
structure Item where
 gI:(Sl eB)
 uV:(Sl w6)
 fO:(Sl fg)
 look:uE
 box:tU
instance:Inhabited Item:=⟨⟨default,default,default,default,default⟩⟩
def Un (x:Item):List KV:=[iU 41 wH x.gI,iU 176 akc x.uV,iU 50 sW x.fO,.int .u8 x.look.color.e0,.int .u8 x.look.color.e1,.int .u8 x.look.color.e2,.int .u8 x.look.color.e3,.int .i64 x.look.n7,.int .u8 x.look.yN,.int .i64 x.look.Le,.bool x.look.Ik,.int .i64 x.look.bin,.int .i64 x.box.low.x,.int .i64 x.box.low.y,.int .i64 x.box.low.z,.int .i64 x.box.high.x,.int .i64 x.box.high.y,.int .i64 x.box.high.z]
def Lg (x:Item):KV:=.agg (Un x)
def Uo (c:Nat→KV):Item:=⟨iw x6 (c 0),iw ake (c 1),iw Bh (c 2),⟨⟨intOf (c 3),intOf (c 4),intOf (c 5),intOf (c 6)⟩,intOf (c 7),intOf (c 8),intOf (c 9),og (c 10),intOf (c 11)⟩,⟨⟨intOf (c 12),intOf (c 13),intOf (c 14)⟩,⟨intOf (c 15),intOf (c 16),intOf (c 17)⟩⟩⟩
def Il (v:KV):Item:=Uo fun k=>v.cells.getD k .ax
structure fA where
 t4:Bool
 n:Int
 t38:(Sl eB)
 t39:Int
 t40:Int
 x:Item
instance:Inhabited fA:=⟨⟨default,default,default,default,default,default⟩⟩
def tH (x:fA):List KV:=[.bool x.t4,.int .i64 x.n,iU 41 wH x.t38,.int .i64 x.t39,.int .i64 x.t40]
def tI (x:fA):List (List KV):=[Un x.x]
def Er (vs:List KV) (rs:List (List KV)):fA:=⟨og (vs.getD 0 .ax),intOf (vs.getD 1 .ax),iw x6 (vs.getD 2 .ax),intOf (vs.getD 3 .ax),intOf (vs.getD 4 .ax),Uo (fun k=>(rs.getD 0 []).getD k .ax)⟩
def GA:aQ:=⟨[(4,⟨false,[.k .bool]⟩),(5,⟨false,[.k (.int .i64)]⟩),(38,⟨false,[.k (.slice 41)]⟩),(39,⟨false,[.k (.int .i64)]⟩),(40,⟨false,[.k (.int .i64)]⟩)],[(2,[.k (.slice 41),.k (.slice 176),.k (.slice 50),.k (.int .u8),.k (.int .u8),.k (.int .u8),.k (.int .u8),.k (.int .i64),.k (.int .u8),.k (.int .i64),.k .bool,.k (.int .i64),.k (.int .i64),.k (.int .i64),.k (.int .i64),.k (.int .i64),.k (.int .i64),.k (.int .i64)],1)],[(2,0,0)]⟩
def RP:=jf Try.prog (bp Try.prog [(109,Md),(108,u9),(46,pe)] [] (fun _=>false)) 9 9 81 122 (eX Try.prog 81 122) GA
def sD (x:fA):(Option Int):=(ou (x.t38.get (Int.toNat x.t40)))
def kF (x:fA):aJ fA:=
 (cond (decide (x.t40 < x.t39))
 (cond ((decide ((0:Int)≤x.t40))&&(decide (x.t40 < ((x.t38.n:Nat):Int))))
 (cond (sD x).isSome
 (cond (((sD x).getD default) != (0:Int))
 (.out aG.aw.ret (⟨false,x.n,x.t38,x.t39,x.t40,x.x⟩:fA))
 (cond ((decide ((0:Int)≤x.t40))&&(decide (x.t40 < ((x.x.uV.n:Nat):Int))))
 (cond ((decide ((0:Int)≤x.t40))&&(decide (x.t40 < ((x.x.uV.n:Nat):Int))))
 (cond (decide ((min (x.x.uV.get (Int.toNat x.t40)).e0 (x.x.uV.get (Int.toNat x.t40)).e1) < (0:Int)))
 (.out aG.aw.ret (⟨false,x.n,x.t38,x.t39,x.t40,x.x⟩:fA))
 (cond ((decide ((0:Int)≤x.t40))&&(decide (x.t40 < ((x.x.uV.n:Nat):Int))))
 (cond ((decide ((0:Int)≤x.t40))&&(decide (x.t40 < ((x.x.uV.n:Nat):Int))))
 (cond (decide ((max (x.x.uV.get (Int.toNat x.t40)).e0 (x.x.uV.get (Int.toNat x.t40)).e1) > (255:Int)))
 (.out aG.aw.ret (⟨false,x.n,x.t38,x.t39,x.t40,x.x⟩:fA))
 (.next (⟨x.t4,x.n,x.t38,x.t39,(ak (x.t40+(1:Int))),x.x⟩:fA)))
 .fail)
 .fail))
 .fail)
 .fail))
 .fail)
 .fail)
 (.out (aG.aw.exit 0) x))
theorem MJ (x:fA):RP (tH x) (tI x)=aJ.enc tH tI (kF x):=by
 unfold kF
 try simp only [aJ.dg]
 kernel_rfl
def rJ:Lp:=⟨81,122,GA,fun vs rs=>dD tH tI (goN kF (Er vs rs)) [aG.aw.exit 0,aG.aw.ret],false⟩
theorem Es:rJ.Ok Try.prog:=eF funcs mixed (aq.cons Ij (aq.cons sV (aq.cons pE aq.nil))) aA.nil (L:=9) (n:=9) (step:=kF) (ev:=tH) (er:=tI) (pa:=Er) rfl (fun wv wr=>⟨by kernel_rfl,by kernel_rfl⟩) MJ
theorem Bo:cz Try.prog rJ.f rJ.p=true:=by kernel_rfl
structure gg where
 t4:Bool
 n:Int
 t82:(Sl fg)
 t83:Int
 t84:Int
 x:Item
instance:Inhabited gg:=⟨⟨default,default,default,default,default,default⟩⟩
def tJ (x:gg):List KV:=[.bool x.t4,.int .i64 x.n,iU 50 sW x.t82,.int .i64 x.t83,.int .i64 x.t84]
def tK (x:gg):List (List KV):=[Un x.x]
def Et (vs:List KV) (rs:List (List KV)):gg:=⟨og (vs.getD 0 .ax),intOf (vs.getD 1 .ax),iw Bh (vs.getD 2 .ax),intOf (vs.getD 3 .ax),intOf (vs.getD 4 .ax),Uo (fun k=>(rs.getD 0 []).getD k .ax)⟩
def GB:aQ:=⟨[(4,⟨false,[.k .bool]⟩),(5,⟨false,[.k (.int .i64)]⟩),(82,⟨false,[.k (.slice 50)]⟩),(83,⟨false,[.k (.int .i64)]⟩),(84,⟨false,[.k (.int .i64)]⟩)],[(2,[.k (.slice 41),.k (.slice 176),.k (.slice 50),.k (.int .u8),.k (.int .u8),.k (.int .u8),.k (.int .u8),.k (.int .i64),.k (.int .u8),.k (.int .i64),.k .bool,.k (.int .i64),.k (.int .i64),.k (.int .i64),.k (.int .i64),.k (.int .i64),.k (.int .i64),.k (.int .i64)],1)],[(2,0,0)]⟩
def RQ:=jf Try.prog (bp Try.prog [(109,Md),(108,u9),(46,pe)] [rJ] (fun _=>false)) 9 9 81 250 (eX Try.prog 81 250) GB
def jy (x:gg):aJ gg:=
 (cond (decide (x.t84 < x.t83))
 (cond ((decide ((0:Int)≤x.t84))&&(decide (x.t84 < ((x.t82.n:Nat):Int))))
 (cond (decide ((min (min (x.t82.get (Int.toNat x.t84)).e0 (x.t82.get (Int.toNat x.t84)).e1) (x.t82.get (Int.toNat x.t84)).e2) < (0:Int)))
 (.out aG.aw.ret (⟨false,x.n,x.t82,x.t83,x.t84,x.x⟩:gg))
 (cond (decide ((max (max (x.t82.get (Int.toNat x.t84)).e0 (x.t82.get (Int.toNat x.t84)).e1) (x.t82.get (Int.toNat x.t84)).e2) ≥ x.n))
 (.out aG.aw.ret (⟨false,x.n,x.t82,x.t83,x.t84,x.x⟩:gg))
 (.next (⟨x.t4,x.n,x.t82,x.t83,(ak (x.t84+(1:Int))),x.x⟩:gg))))
 .fail)
 (.out (aG.aw.exit 2) x))
theorem MK (x:gg):RQ (tJ x) (tK x)=aJ.enc tJ tK (jy x):=by
 unfold jy
 try simp only [aJ.dg]
 kernel_rfl
def vk:Lp:=⟨81,250,GB,fun vs rs=>dD tJ tK (goN jy (Et vs rs)) [aG.aw.exit 2,aG.aw.ret],false⟩
theorem RR:vk.Ok Try.prog:=eF funcs mixed (aq.cons Ij (aq.cons sV (aq.cons pE aq.nil))) (aA.cons Es Bo aA.nil) (L:=9) (n:=9) (step:=jy) (ev:=tJ) (er:=tK) (pa:=Et) rfl (fun wv wr=>⟨by kernel_rfl,by kernel_rfl⟩) MK
theorem Lh:cz Try.prog vk.f vk.p=true:=by kernel_rfl
def NK:List (Nat×(List KV→KR KV)):=[(109,Md),(108,u9),(46,pe)]
def NL:List Lp:=[rJ,vk]
theorem WH:aq Try.prog NK:=(aq.cons Ij (aq.cons sV (aq.cons pE aq.nil)))
theorem WI:aA Try.prog NL:=(aA.cons Es Bo (aA.cons RR Lh aA.nil))
def uF (x:Item) (aR:Int):(Option Int):=(fG x.look aR)
def gq (x:Item) (aR:Int):(aJ fA):=(goN kF (⟨false,((x.gI.n:Nat):Int),x.gI,((x.gI.n:Nat):Int),(0:Int),x⟩:fA))
def fc (x:Item) (aR:Int):(aJ gg):=(goN jy (⟨(gq x aR).st.t4,(gq x aR).st.n,(gq x aR).st.x.fO,(((gq x aR).st.x.fO.n:Nat):Int),(0:Int),(gq x aR).st.x⟩:gg))
def mq (x:Item) (aR:Int):(Option (Prod tU Int)):=(CG (fc x aR).st.x.gI)
def nm (x:Item) (aR:Int):Option (Bool):=
 (cond (decide (((x.gI.n:Nat):Int) > (64:Int)))
 (some (false))
 (cond (((x.uV.n:Nat):Int) != ((x.gI.n:Nat):Int))
 (some (false))
 (cond (decide (((x.fO.n:Nat):Int) > (64:Int)))
 (some (false))
 (cond (uF x aR).isSome
 (cond (((uF x aR).getD default) != (0:Int))
 (some (false))
 (cond ((gq x aR).by (aG.aw.exit 0))
 (cond ((fc x aR).by (aG.aw.exit 2))
 (cond (mq x aR).isSome
 (cond ((((mq x aR).getD default).fst.low.x==(fc x aR).st.x.box.low.x)&&((((mq x aR).getD default).fst.low.y==(fc x aR).st.x.box.low.y)&&((((mq x aR).getD default).fst.low.z==(fc x aR).st.x.box.low.z)&&((((mq x aR).getD default).fst.high.x==(fc x aR).st.x.box.high.x)&&((((mq x aR).getD default).fst.high.y==(fc x aR).st.x.box.high.y)&&((((mq x aR).getD default).fst.high.z==(fc x aR).st.x.box.high.z)&&true))))))
 (cond (((mq x aR).getD default).snd==(0:Int))
 (some (true))
 (some (((fc x aR).st.n==(0:Int)))))
 (some (false)))
 none)
 (cond ((fc x aR).by aG.aw.ret)
 (some ((fc x aR).st.t4))
 none))
 (cond ((gq x aR).by aG.aw.ret)
 (some ((gq x aR).st.t4))
 none)))
 none))))
theorem aad (x:Item) (aR:Int):dn Try.prog (bp Try.prog NK NL (fun _=>false)) 9 9 81 [Lg x,(kI .i64) aR] = (nm x aR).map kB:=by
 unfold nm
 try simp only [b7]
 kernel_rfl
def Im:List KV→KR KV:=cr Try.prog 81 (cD kB fun vs=>nm (Il (vs.getD 0 .ax)) (intOf (vs.getD 1 .ax)))
theorem WJ (w:Nat→KV):cM Try.prog [45,3] w 0 = [Lg (Il (ay Try.prog (ao Try.prog av) 45 (w 0))),(kI .i64) (intOf (ay Try.prog (ao Try.prog av) 3 (w 1)))]:=by kernel_rfl
theorem Ji:b9 Try.prog 81 Im:=aX funcs mixed WH WI (L:=9) (n:=9) fun w=>by
 have e:aK Try.prog 81 = [45,3]:=by kernel_rfl
 rw [e,WJ]
 exact (aad (Il (ay Try.prog (ao Try.prog av) 45 (w 0))) (intOf (ay Try.prog (ao Try.prog av) 3 (w 1)))).trans (by kernel_rfl)
structure Show where
 items:(Sl Item)
 aR:(Sl ew)
instance:Inhabited Show:=⟨⟨default,default⟩⟩
def Pf (x:Show):List KV:=[iU 45 Lg x.items,iU 108 nK x.aR]
def ov (x:Show):KV:=.agg (Pf x)
def Pg (c:Nat→KV):Show:=⟨iw Il (c 0),iw kh (c 1)⟩
def kW (v:KV):Show:=Pg fun k=>v.cells.getD k .ax
structure bm where
 s:(Sl Item)
 t4:Int
 t7:Int
 t8:Int
 aae:Show
instance:Inhabited bm:=⟨⟨default,default,default,default,default⟩⟩
def fW (x:bm):List KV:=[iU 45 Lg x.s,.fn (.func 80) [] [.ptr 0 0],.int .i64 x.t4,.int .i64 x.t7,.int .i64 x.t8]
def fX (x:bm):List (List KV):=[Pf x.aae]
def mr (vs:List KV) (rs:List (List KV)):bm:=⟨iw Il (vs.getD 0 .ax),intOf (vs.getD 2 .ax),intOf (vs.getD 3 .ax),intOf (vs.getD 4 .ax),Pg (fun k=>(rs.getD 0 []).getD k .ax)⟩
def mH:aQ:=⟨[(0,⟨false,[.k (.slice 45)]⟩),(1,⟨false,[.ref (.fn (.func 80) [] [.ptr 0 0])]⟩),(4,⟨false,[.k (.int .i64)]⟩),(7,⟨false,[.k (.int .i64)]⟩),(8,⟨false,[.k (.int .i64)]⟩)],[(100001,[.k (.slice 45),.k (.slice 108)],1)],[]⟩
def sE:=jf Try.prog (bp Try.prog [(81,Im),(45,tG)] [] (fun _=>false)) 9 9 107 26 (eX Try.prog 107 26) mH
def fK (x:bm):(Option Bool):=(nm (x.s.get (Int.toNat x.t8)) ((x.aae.aR.n:Nat):Int))
def bG (x:bm):aJ bm:=
 (cond (decide (x.t8 < x.t7))
 (cond ((decide ((0:Int)≤x.t8))&&(decide (x.t8 < ((x.s.n:Nat):Int))))
 (cond (fK x).isSome
 (cond (!((fK x).getD default))
 (.out aG.aw.ret (⟨x.s,x.t8,x.t7,x.t8,x.aae⟩:bm))
 (.next (⟨x.s,x.t4,x.t7,(ak (x.t8+(1:Int))),x.aae⟩:bm)))
 .fail)
 .fail)
 (.out (aG.aw.exit 0) x))
theorem rK (x:bm):sE (fW x) (fX x)=aJ.enc fW fX (bG x):=by
 unfold bG
 try simp only [aJ.dg]
 kernel_rfl
def gk:Lp:=⟨107,26,mH,fun vs rs=>dD fW fX (goN bG (mr vs rs)) [aG.aw.exit 0,aG.aw.ret],false⟩
theorem sF:gk.Ok Try.prog:=eF funcs mixed (aq.cons Ji (aq.cons uD aq.nil)) aA.nil (L:=9) (n:=9) (step:=bG) (ev:=fW) (er:=fX) (pa:=mr) rfl (fun wv wr=>⟨by kernel_rfl,by kernel_rfl⟩) rK
theorem qS:cz Try.prog gk.f gk.p=true:=by kernel_rfl
def Jj:List (Nat×(List KV→KR KV)):=[(81,Im),(45,tG)]
def Jk:List Lp:=[gk]
theorem RS:aq Try.prog Jj:=(aq.cons Ji (aq.cons uD aq.nil))
theorem RT:aA Try.prog Jk:=(aA.cons sF qS aA.nil)
def rL (s:Show):(Option Int):=(gj s.aR)
def eO (s:Show):(aJ bm):=(goN bG (⟨s.items,(0:Int),((s.items.n:Nat):Int),(0:Int),s⟩:bm))
def kX (s:Show):Option (Int):=
 (cond (decide (((s.items.n:Nat):Int) > (256:Int)))
 (some ((4:Int)))
 (cond (decide (((s.aR.n:Nat):Int) > (16:Int)))
 (some ((4:Int)))
 (cond (rL s).isSome
 (cond (((rL s).getD default) != (0:Int))
 (some ((8:Int)))
 (cond ((eO s).by (aG.aw.exit 0))
 (some ((0:Int)))
 (cond ((eO s).by aG.aw.ret)
 (cond (decide ((eO s).st.t4 ≥ (0:Int)))
 (some ((8:Int)))
 (some ((0:Int))))
 none)))
 none)))
theorem Uq (s:Show):dn Try.prog (bp Try.prog Jj Jk (fun _=>false)) 9 9 50 [ov s] = (kX s).map (kI .i64):=by
 unfold kX
 try simp only [b7]
 kernel_rfl
def Li:List KV→KR KV:=cr Try.prog 50 (cD (kI .i64) fun vs=>kX (kW (vs.getD 0 .ax)))
theorem RU (w:Nat→KV):cM Try.prog [25] w 0 = [ov (kW (ay Try.prog (ao Try.prog av) 25 (w 0)))]:=by kernel_rfl
theorem RV:b9 Try.prog 50 Li:=aX funcs mixed RS RT (L:=9) (n:=9) fun w=>by
 have e:aK Try.prog 50 = [25]:=by kernel_rfl
 rw [e,RU]
 exact (Uq (kW (ay Try.prog (ao Try.prog av) 25 (w 0)))).trans (by kernel_rfl)
end
end Go.Proofs.Ytahhdndhkgbcjaa.b
end
section
namespace Go.Proofs.Ytahhdndhkgbcjaa.b
open Go.K
set_option linter.unusedVariables false
set_option linter.unusedSimpArgs false
noncomputable section
def Lj:List (Nat×(List KV→KR KV)):=[(99,uz),(130,qI),(82,w4)]
def Ll:List Lp:=[]
theorem Ur:aq Try.prog Lj:=(aq.cons tw (aq.cons oS (aq.cons xz aq.nil)))
theorem Ut:aA Try.prog Ll:=aA.nil
def w7 (c:aU) (p:bW):(Option Int):=(ln c)
def w9 (c:aU) (p:bW):(Option Int):=(kU p)
def BP (c:aU) (p:bW):(Option (Prod Int Int)):=(eH (ak ((ak ((8:Int) * c.Ua)) * p.p.x)) p.p.z)
def BQ (c:aU) (p:bW):(Option (Prod Int Int)):=(eH (ak ((ak ((8:Int) * c.Ua)) * p.p.y)) p.p.z)
def oG (c:aU) (p:bW):Option (fY×Int):=
 (cond (w7 c p).isSome
 (cond (((w7 c p).getD default) != (0:Int))
 (some ((⟨(0:Int),(0:Int),(0:Int),(0:Int),(0:Int)⟩:fY),((w7 c p).getD default)))
 (cond (w9 c p).isSome
 (cond (((w9 c p).getD default) != (0:Int))
 (some ((⟨(0:Int),(0:Int),(0:Int),(0:Int),(0:Int)⟩:fY),((w9 c p).getD default)))
 (cond (decide (p.p.z < c.aL))
 (some ((⟨(0:Int),(0:Int),(0:Int),(0:Int),(0:Int)⟩:fY),(6:Int)))
 (cond (BP c p).isSome
 (cond (BQ c p).isSome
 (cond (!(decide (p.p.z=(0:Int))))
 (some ((⟨(ak (((BP c p).getD default).fst+(ak ((4:Int) * c.w)))),(ak ((ak ((4:Int) * c.h)) - ((BQ c p).getD default).fst)),(ak (Int.tdiv (16777216:Int) p.p.z)),p.u,p.v⟩:fY),(0:Int)))
 none)
 none)
 none)))
 none))
 none)
theorem WK (c:aU) (p:bW):dn Try.prog (bp Try.prog Lj Ll (fun _=>false)) 9 9 112 [iZ c,mO p] = (oG c p).map (fun (r:fY×Int)=>KV.jE [TN r.1,(kI .i64) r.2]):=by
 unfold oG
 try simp only [b7]
 kernel_rfl
def Fl:List KV→KR KV:=cr Try.prog 112 (cD (fun (r:fY×Int)=>KV.jE [TN r.1,(kI .i64) r.2]) fun vs=>oG (fw (vs.getD 0 .ax)) (jN (vs.getD 1 .ax)))
theorem Uu (w:Nat→KV):cM Try.prog [53,180] w 0 = [iZ (fw (ay Try.prog (ao Try.prog av) 53 (w 0))),mO (jN (ay Try.prog (ao Try.prog av) 180 (w 1)))]:=by kernel_rfl
theorem GC:b9 Try.prog 112 Fl:=aX funcs mixed Ur Ut (L:=9) (n:=9) fun w=>by
 have e:aK Try.prog 112 = [53,180]:=by kernel_rfl
 rw [e,Uu]
 exact (WK (fw (ay Try.prog (ao Try.prog av) 53 (w 0))) (jN (ay Try.prog (ao Try.prog av) 180 (w 1)))).trans (by kernel_rfl)
structure dp where
 out:(Sl bt)
 t72:(Sl dJ)
 t73:Int
 t74:Int
 c:aU
 x:Item
instance:Inhabited dp:=⟨⟨default,default,default,default,default,default⟩⟩
def qW (x:dp):List KV:=[iU 118 iy x.out,iU 181 pd x.t72,.int .i64 x.t73,.int .i64 x.t74]
def qX (x:dp):List (List KV):=[Bi x.c,Un x.x]
def B8 (vs:List KV) (rs:List (List KV)):dp:=⟨iw gC (vs.getD 0 .ax),iw qJ (vs.getD 1 .ax),intOf (vs.getD 2 .ax),intOf (vs.getD 3 .ax),Bj (fun k=>(rs.getD 0 []).getD k .ax),Uo (fun k=>(rs.getD 1 []).getD k .ax)⟩
def Dr:aQ:=⟨[(8,⟨false,[.bb 118]⟩),(72,⟨false,[.k (.slice 181)]⟩),(73,⟨false,[.k (.int .i64)]⟩),(74,⟨false,[.k (.int .i64)]⟩)],[(5,[.k (.int .i64),.k (.int .i64),.k (.int .i64),.k (.int .i64),.k (.int .i64),.k (.int .i64),.k (.int .i64),.k (.int .i64),.k (.int .i64),.k (.int .i64),.k (.int .i64),.k (.int .i64),.k (.int .i64),.k (.int .i64),.k (.int .i64),.k (.int .i64)],1),(9,[.k (.slice 41),.k (.slice 176),.k (.slice 50),.k (.int .u8),.k (.int .u8),.k (.int .u8),.k (.int .u8),.k (.int .i64),.k (.int .u8),.k (.int .i64),.k .bool,.k (.int .i64),.k (.int .i64),.k (.int .i64),.k (.int .i64),.k (.int .i64),.k (.int .i64),.k (.int .i64)],1)],[(5,0,0),(9,1,0)]⟩
def ML:=jf Try.prog (bp Try.prog [(114,E6),(113,E5),(112,Fl),(111,Ie),(110,Dj)] [] (fun _=>false)) 9 9 84 506 (eX Try.prog 84 506) Dr
def qn (x:dp):(Option (Prod fY Int)):=(oG x.c (x.t72.get (Int.toNat x.t74)).e0)
def qo (x:dp):(Option (Prod fY Int)):=(oG x.c (x.t72.get (Int.toNat x.t74)).e1)
def qp (x:dp):(Option (Prod fY Int)):=(oG x.c (x.t72.get (Int.toNat x.t74)).e2)
def qq (x:dp):(Option (Prod Bool Int)):=(ta (⟨((qn x).getD default).fst,((qo x).getD default).fst,((qp x).getD default).fst⟩:bt) x.x.look.yN)
def uG (x:dp):(Option (Prod bt Int)):=(te (⟨((qn x).getD default).fst,((qo x).getD default).fst,((qp x).getD default).fst⟩:bt))
def ia (x:dp):aJ dp:=
 (cond (decide (x.t74 < x.t73))
 (cond ((decide ((0:Int)≤x.t74))&&(decide (x.t74 < ((x.t72.n:Nat):Int))))
 (cond (qn x).isSome
 (cond (qo x).isSome
 (cond (qp x).isSome
 (cond (qq x).isSome
 (cond ((qq x).getD default).fst
 (cond (uG x).isSome
 (cond ((au x.out.n x.out.n)&&(eo 120 x.out.n 1))
 (cond (au (x.out.n+1) (x.out.n+1))
 (.next (⟨(x.out.push ((uG x).getD default).fst),x.t72,x.t73,(ak (x.t74+(1:Int))),x.c,x.x⟩:dp))
 .fail)
 .fail)
 .fail)
 (cond (au x.out.n x.out.n)
 (.next (⟨x.out,x.t72,x.t73,(ak (x.t74+(1:Int))),x.c,x.x⟩:dp))
 .fail))
 .fail)
 .fail)
 .fail)
 .fail)
 .fail)
 (cond (au x.out.n x.out.n)
 (.out (aG.aw.exit 2) x)
 .fail))
theorem JR (x:dp):ML (qW x) (qX x)=aJ.enc qW qX (ia x):=by
 unfold ia
 try simp only [aJ.dg,aa7]
 kernel_rfl
def sG:Lp:=⟨84,506,Dr,fun vs rs=>dD qW qX (goN ia (B8 vs rs)) [aG.aw.exit 2],false⟩
theorem MM:sG.Ok Try.prog:=eF funcs mixed (aq.cons Gk (aq.cons Gj (aq.cons GC (aq.cons Jg (aq.cons Ef aq.nil))))) aA.nil (L:=9) (n:=9) (step:=ia) (ev:=qW) (er:=qX) (pa:=B8) rfl (fun wv wr=>⟨by kernel_rfl,by kernel_rfl⟩) JR
theorem Ip:cz Try.prog sG.f sG.p=true:=by kernel_rfl
def Jl:List (Nat×(List KV→KR KV)):=[(114,E6),(113,E5),(112,Fl),(111,Ie),(110,Dj)]
def Jm:List Lp:=[sG]
theorem RW:aq Try.prog Jl:=(aq.cons Gk (aq.cons Gj (aq.cons GC (aq.cons Jg (aq.cons Ef aq.nil)))))
theorem RX:aA Try.prog Jm:=(aA.cons MM Ip aA.nil)
def Ai (s:Show) (c:aU) (item:Int) (cV:Int):(Option (Prod eB Int)):=(nw c ((s.items.get (Int.toNat item)).gI.get (Int.toNat ((s.items.get (Int.toNat item)).fO.get (Int.toNat cV)).e0)))
def Aj (s:Show) (c:aU) (item:Int) (cV:Int):(Option (Prod eB Int)):=(nw c ((s.items.get (Int.toNat item)).gI.get (Int.toNat ((s.items.get (Int.toNat item)).fO.get (Int.toNat cV)).e1)))
def Ak (s:Show) (c:aU) (item:Int) (cV:Int):(Option (Prod eB Int)):=(nw c ((s.items.get (Int.toNat item)).gI.get (Int.toNat ((s.items.get (Int.toNat item)).fO.get (Int.toNat cV)).e2)))
def vl (s:Show) (c:aU) (item:Int) (cV:Int):(Option (Prod (Sl dJ) Int)):=(vi c.aL (⟨(⟨((Ai s c item cV).getD default).fst,((s.items.get (Int.toNat item)).uV.get (Int.toNat ((s.items.get (Int.toNat item)).fO.get (Int.toNat cV)).e0)).e0,((s.items.get (Int.toNat item)).uV.get (Int.toNat ((s.items.get (Int.toNat item)).fO.get (Int.toNat cV)).e0)).e1⟩:bW),(⟨((Aj s c item cV).getD default).fst,((s.items.get (Int.toNat item)).uV.get (Int.toNat ((s.items.get (Int.toNat item)).fO.get (Int.toNat cV)).e1)).e0,((s.items.get (Int.toNat item)).uV.get (Int.toNat ((s.items.get (Int.toNat item)).fO.get (Int.toNat cV)).e1)).e1⟩:bW),(⟨((Ak s c item cV).getD default).fst,((s.items.get (Int.toNat item)).uV.get (Int.toNat ((s.items.get (Int.toNat item)).fO.get (Int.toNat cV)).e2)).e0,((s.items.get (Int.toNat item)).uV.get (Int.toNat ((s.items.get (Int.toNat item)).fO.get (Int.toNat cV)).e2)).e1⟩:bW)⟩:dJ))
def oU (s:Show) (c:aU) (item:Int) (cV:Int):(aJ dp):=(goN ia (⟨(⟨0,(fun i=>(⟨(⟨(0:Int),(0:Int),(0:Int),(0:Int),(0:Int)⟩:fY),(⟨(0:Int),(0:Int),(0:Int),(0:Int),(0:Int)⟩:fY),(⟨(0:Int),(0:Int),(0:Int),(0:Int),(0:Int)⟩:fY)⟩:bt))⟩:Sl _),((vl s c item cV).getD default).fst,((((vl s c item cV).getD default).fst.n:Nat):Int),(0:Int),c,(s.items.get (Int.toNat item))⟩:dp))
def pf (s:Show) (c:aU) (item:Int) (cV:Int):Option ((Sl bt)):=
 (cond ((decide ((0:Int)≤item))&&(decide (item < ((s.items.n:Nat):Int))))
 (cond ((decide ((0:Int)≤cV))&&(decide (cV < (((s.items.get (Int.toNat item)).fO.n:Nat):Int))))
 (cond ((decide ((0:Int)≤((s.items.get (Int.toNat item)).fO.get (Int.toNat cV)).e0))&&(decide (((s.items.get (Int.toNat item)).fO.get (Int.toNat cV)).e0 < (((s.items.get (Int.toNat item)).gI.n:Nat):Int))))
 (cond (Ai s c item cV).isSome
 (cond ((decide ((0:Int)≤((s.items.get (Int.toNat item)).fO.get (Int.toNat cV)).e0))&&(decide (((s.items.get (Int.toNat item)).fO.get (Int.toNat cV)).e0 < (((s.items.get (Int.toNat item)).uV.n:Nat):Int))))
 (cond ((decide ((0:Int)≤((s.items.get (Int.toNat item)).fO.get (Int.toNat cV)).e0))&&(decide (((s.items.get (Int.toNat item)).fO.get (Int.toNat cV)).e0 < (((s.items.get (Int.toNat item)).uV.n:Nat):Int))))
 (cond ((decide ((0:Int)≤((s.items.get (Int.toNat item)).fO.get (Int.toNat cV)).e1))&&(decide (((s.items.get (Int.toNat item)).fO.get (Int.toNat cV)).e1 < (((s.items.get (Int.toNat item)).gI.n:Nat):Int))))
 (cond (Aj s c item cV).isSome
 (cond ((decide ((0:Int)≤((s.items.get (Int.toNat item)).fO.get (Int.toNat cV)).e1))&&(decide (((s.items.get (Int.toNat item)).fO.get (Int.toNat cV)).e1 < (((s.items.get (Int.toNat item)).uV.n:Nat):Int))))
 (cond ((decide ((0:Int)≤((s.items.get (Int.toNat item)).fO.get (Int.toNat cV)).e1))&&(decide (((s.items.get (Int.toNat item)).fO.get (Int.toNat cV)).e1 < (((s.items.get (Int.toNat item)).uV.n:Nat):Int))))
 (cond ((decide ((0:Int)≤((s.items.get (Int.toNat item)).fO.get (Int.toNat cV)).e2))&&(decide (((s.items.get (Int.toNat item)).fO.get (Int.toNat cV)).e2 < (((s.items.get (Int.toNat item)).gI.n:Nat):Int))))
 (cond (Ak s c item cV).isSome
 (cond ((decide ((0:Int)≤((s.items.get (Int.toNat item)).fO.get (Int.toNat cV)).e2))&&(decide (((s.items.get (Int.toNat item)).fO.get (Int.toNat cV)).e2 < (((s.items.get (Int.toNat item)).uV.n:Nat):Int))))
 (cond ((decide ((0:Int)≤((s.items.get (Int.toNat item)).fO.get (Int.toNat cV)).e2))&&(decide (((s.items.get (Int.toNat item)).fO.get (Int.toNat cV)).e2 < (((s.items.get (Int.toNat item)).uV.n:Nat):Int))))
 (cond (vl s c item cV).isSome
 (cond ((oU s c item cV).by (aG.aw.exit 2))
 (some ((oU s c item cV).st.out))
 none)
 none)
 none)
 none)
 none)
 none)
 none)
 none)
 none)
 none)
 none)
 none)
 none)
 none)
 none)
 none)
theorem Uv (s:Show) (c:aU) (item:Int) (cV:Int):dn Try.prog (bp Try.prog Jl Jm (fun _=>false)) 9 9 84 [ov s,iZ c,(kI .i64) item,(kI .i64) cV] = (pf s c item cV).map (iU 118 iy):=by
 unfold pf
 try simp only [b7]
 kernel_rfl
def uH:List KV→KR KV:=cr Try.prog 84 (cD (iU 118 iy) fun vs=>pf (kW (vs.getD 0 .ax)) (fw (vs.getD 1 .ax)) (intOf (vs.getD 2 .ax)) (intOf (vs.getD 3 .ax)))
theorem RY (w:Nat→KV):cM Try.prog [25,53,3,3] w 0 = [ov (kW (ay Try.prog (ao Try.prog av) 25 (w 0))),iZ (fw (ay Try.prog (ao Try.prog av) 53 (w 1))),(kI .i64) (intOf (ay Try.prog (ao Try.prog av) 3 (w 2))),(kI .i64) (intOf (ay Try.prog (ao Try.prog av) 3 (w 3)))]:=by kernel_rfl
theorem tL:b9 Try.prog 84 uH:=aX funcs mixed RW RX (L:=9) (n:=9) fun w=>by
 have e:aK Try.prog 84 = [25,53,3,3]:=by kernel_rfl
 rw [e,RY]
 exact (Uv (kW (ay Try.prog (ao Try.prog av) 25 (w 0))) (fw (ay Try.prog (ao Try.prog av) 53 (w 1))) (intOf (ay Try.prog (ao Try.prog av) 3 (w 2))) (intOf (ay Try.prog (ao Try.prog av) 3 (w 3)))).trans (by kernel_rfl)
def Jn:List (Nat×(List KV→KR KV)):=[(82,w4),(50,Li)]
def Jo:List Lp:=[]
theorem RZ:aq Try.prog Jn:=(aq.cons xz (aq.cons RV aq.nil))
theorem R0:aA Try.prog Jo:=aA.nil
def rM (s:Show) (c:aU):(Option Int):=(kX s)
def vm (s:Show) (c:aU):(Option Int):=(ln c)
def iB (s:Show) (c:aU):Option (Int):=
 (cond (rM s c).isSome
 (cond (((rM s c).getD default) != (0:Int))
 (some (((rM s c).getD default)))
 (cond (vm s c).isSome
 (some (((vm s c).getD default)))
 none))
 none)
theorem Uw (s:Show) (c:aU):dn Try.prog (bp Try.prog Jn Jo (fun _=>false)) 9 9 56 [ov s,iZ c] = (iB s c).map (kI .i64):=by
 unfold iB
 try simp only [b7]
 kernel_rfl
def uI:List KV→KR KV:=cr Try.prog 56 (cD (kI .i64) fun vs=>iB (kW (vs.getD 0 .ax)) (fw (vs.getD 1 .ax)))
theorem R1 (w:Nat→KV):cM Try.prog [25,53] w 0 = [ov (kW (ay Try.prog (ao Try.prog av) 25 (w 0))),iZ (fw (ay Try.prog (ao Try.prog av) 53 (w 1)))]:=by kernel_rfl
theorem tM:b9 Try.prog 56 uI:=aX funcs mixed RZ R0 (L:=9) (n:=9) fun w=>by
 have e:aK Try.prog 56 = [25,53]:=by kernel_rfl
 rw [e,R1]
 exact (Uw (kW (ay Try.prog (ao Try.prog av) 25 (w 0))) (fw (ay Try.prog (ao Try.prog av) 53 (w 1)))).trans (by kernel_rfl)
end
end Go.Proofs.Ytahhdndhkgbcjaa.b
end
section
namespace Go.Proofs.Ytahhdndhkgbcjaa.b
open Go.K
set_option linter.unusedVariables false
set_option linter.unusedSimpArgs false
noncomputable section
structure aaf where
 item:Int
 cV:Int
instance:Inhabited aaf:=⟨⟨default,default⟩⟩
structure aZ where
 d:Int
 item:Int
 cV:Int
 part:Int
 u:Int
 v:Int
instance:Inhabited aZ:=⟨⟨default,default,default,default,default,default⟩⟩
def ady (x:aZ):List KV:=[.int .i64 x.d,.int .i64 x.item,.int .i64 x.cV,.int .i64 x.part,.int .i64 x.u,.int .i64 x.v]
def gZ (x:aZ):KV:=.agg (ady x)
def adz (c:Nat→KV):aZ:=⟨intOf (c 0),intOf (c 1),intOf (c 2),intOf (c 3),intOf (c 4),intOf (c 5)⟩
def hH (v:KV):aZ:=adz fun k=>v.cells.getD k .ax
theorem aag (x:aZ):hH (gZ x)=x:=rfl
theorem akf:hH .ax=default:=rfl
theorem aah (s:Sl aZ) (v:aZ):s.push v=ka hH (s.n+1) (fa s.n (fun i=>gZ (s.get i)) (qV [gZ v])):=(x5 aag akf s v).symm
theorem Mh (s:Sl aZ) (i:Nat) (v:aZ):s.set i v=ka hH s.n (sf (fun j=>gZ (s.get j)) i (gZ v)):=(Zv aag s i v).symm
theorem Mi (m n' i:Nat) (acc:Nat→KV) (v:KV):ka hH m (sf (fun j=>gZ ((ka hH n' acc).get j)) i v)=ka hH m (sf acc i v):=afj aag ..
structure dq where
 t:bt
 da:aZ
instance:Inhabited dq:=⟨⟨default,default⟩⟩
def adA (x:dq):List KV:=[.int .i64 x.t.e0.x,.int .i64 x.t.e0.y,.int .i64 x.t.e0.d,.int .i64 x.t.e0.u,.int .i64 x.t.e0.v,.int .i64 x.t.e1.x,.int .i64 x.t.e1.y,.int .i64 x.t.e1.d,.int .i64 x.t.e1.u,.int .i64 x.t.e1.v,.int .i64 x.t.e2.x,.int .i64 x.t.e2.y,.int .i64 x.t.e2.d,.int .i64 x.t.e2.u,.int .i64 x.t.e2.v,.int .i64 x.da.d,.int .i64 x.da.item,.int .i64 x.da.cV,.int .i64 x.da.part,.int .i64 x.da.u,.int .i64 x.da.v]
def sH (x:dq):KV:=.agg (adA x)
def adB (c:Nat→KV):dq:=⟨⟨⟨intOf (c 0),intOf (c 1),intOf (c 2),intOf (c 3),intOf (c 4)⟩,⟨intOf (c 5),intOf (c 6),intOf (c 7),intOf (c 8),intOf (c 9)⟩,⟨intOf (c 10),intOf (c 11),intOf (c 12),intOf (c 13),intOf (c 14)⟩⟩,⟨intOf (c 15),intOf (c 16),intOf (c 17),intOf (c 18),intOf (c 19),intOf (c 20)⟩⟩
def sI (v:KV):dq:=adB fun k=>v.cells.getD k .ax
theorem aai (x:dq):sI (sH x)=x:=rfl
theorem aaj:sI .ax=default:=rfl
theorem Ux (s:Sl dq) (v:dq):s.push v=ka sI (s.n+1) (fa s.n (fun i=>sH (s.get i)) (qV [sH v])):=(x5 aai aaj s v).symm
structure aB where
 cX:Show
 parts:(Sl dq)
instance:Inhabited aB:=⟨⟨default,default⟩⟩
def cI (x:aB):List KV:=[iU 45 Lg x.cX.items,iU 108 nK x.cX.aR,iU 139 sH x.parts]
def lZ (x:aB):KV:=.agg (cI x)
def cJ (c:Nat→KV):aB:=⟨⟨iw Il (c 0),iw kh (c 1)⟩,iw sI (c 2)⟩
def np (v:KV):aB:=cJ fun k=>v.cells.getD k .ax
structure jo where
 t14:(Sl Item)
 t15:Int
 t16:Int
 s:Show
 c:aU
 t4:aB
 out:aB
instance:Inhabited jo:=⟨⟨default,default,default,default,default,default,default⟩⟩
def xa (x:jo):List KV:=[iU 45 Lg x.t14,.int .i64 x.t15,.int .i64 x.t16]
def xb (x:jo):List (List KV):=[Pf x.s,Bi x.c,cI x.t4,cI x.out]
def Jp (vs:List KV) (rs:List (List KV)):jo:=⟨iw Il (vs.getD 0 .ax),intOf (vs.getD 1 .ax),intOf (vs.getD 2 .ax),Pg (fun k=>(rs.getD 0 []).getD k .ax),Bj (fun k=>(rs.getD 1 []).getD k .ax),cJ (fun k=>(rs.getD 2 []).getD k .ax),cJ (fun k=>(rs.getD 3 []).getD k .ax)⟩
def Lm:aQ:=⟨[(14,⟨false,[.k (.slice 45)]⟩),(15,⟨false,[.k (.int .i64)]⟩),(16,⟨false,[.k (.int .i64)]⟩)],[(2,[.k (.slice 45),.k (.slice 108)],1),(3,[.k (.int .i64),.k (.int .i64),.k (.int .i64),.k (.int .i64),.k (.int .i64),.k (.int .i64),.k (.int .i64),.k (.int .i64),.k (.int .i64),.k (.int .i64),.k (.int .i64),.k (.int .i64),.k (.int .i64),.k (.int .i64),.k (.int .i64),.k (.int .i64)],1),(4,[.k (.slice 45),.k (.slice 108),.bb 139],1),(5,[.k (.slice 45),.k (.slice 108),.bb 139],1)],[(2,0,0),(3,1,0),(4,2,0),(5,3,0)]⟩
structure fB where
 i:Int
 t14:(Sl Item)
 t15:Int
 t16:Int
 t23:Int
 t24:Int
 s:Show
 c:aU
 t4:aB
 out:aB
 x:Item
instance:Inhabited fB:=⟨⟨default,default,default,default,default,default,default,default,default,default,default⟩⟩
def sJ (x:fB):List KV:=[.int .i64 x.i,iU 45 Lg x.t14,.int .i64 x.t15,.int .i64 x.t16,.int .i64 x.t23,.int .i64 x.t24]
def sK (x:fB):List (List KV):=[Pf x.s,Bi x.c,cI x.t4,cI x.out,Un x.x]
def Ds (vs:List KV) (rs:List (List KV)):fB:=⟨intOf (vs.getD 0 .ax),iw Il (vs.getD 1 .ax),intOf (vs.getD 2 .ax),intOf (vs.getD 3 .ax),intOf (vs.getD 4 .ax),intOf (vs.getD 5 .ax),Pg (fun k=>(rs.getD 0 []).getD k .ax),Bj (fun k=>(rs.getD 1 []).getD k .ax),cJ (fun k=>(rs.getD 2 []).getD k .ax),cJ (fun k=>(rs.getD 3 []).getD k .ax),Uo (fun k=>(rs.getD 4 []).getD k .ax)⟩
def Eu:aQ:=⟨[(6,⟨false,[.k (.int .i64)]⟩),(14,⟨false,[.k (.slice 45)]⟩),(15,⟨false,[.k (.int .i64)]⟩),(16,⟨false,[.k (.int .i64)]⟩),(23,⟨false,[.k (.int .i64)]⟩),(24,⟨false,[.k (.int .i64)]⟩)],[(2,[.k (.slice 45),.k (.slice 108)],1),(3,[.k (.int .i64),.k (.int .i64),.k (.int .i64),.k (.int .i64),.k (.int .i64),.k (.int .i64),.k (.int .i64),.k (.int .i64),.k (.int .i64),.k (.int .i64),.k (.int .i64),.k (.int .i64),.k (.int .i64),.k (.int .i64),.k (.int .i64),.k (.int .i64)],1),(4,[.k (.slice 45),.k (.slice 108),.bb 139],1),(5,[.k (.slice 45),.k (.slice 108),.bb 139],1),(7,[.k (.slice 41),.k (.slice 176),.k (.slice 50),.k (.int .u8),.k (.int .u8),.k (.int .u8),.k (.int .u8),.k (.int .i64),.k (.int .u8),.k (.int .i64),.k .bool,.k (.int .i64),.k (.int .i64),.k (.int .i64),.k (.int .i64),.k (.int .i64),.k (.int .i64),.k (.int .i64)],1)],[(2,0,0),(3,1,0),(4,2,0),(5,3,0),(7,4,0)]⟩
structure fP where
 i:Int
 k:Int
 t14:(Sl Item)
 t15:Int
 t16:Int
 t23:Int
 t24:Int
 t31:(Sl bt)
 t32:Int
 t33:Int
 s:Show
 c:aU
 t4:aB
 out:aB
 x:Item
instance:Inhabited fP:=⟨⟨default,default,default,default,default,default,default,default,default,default,default,default,default,default,default⟩⟩
def qt (x:fP):List KV:=[.int .i64 x.i,.int .i64 x.k,iU 45 Lg x.t14,.int .i64 x.t15,.int .i64 x.t16,.int .i64 x.t23,.int .i64 x.t24,iU 118 iy x.t31,.int .i64 x.t32,.int .i64 x.t33]
def qu (x:fP):List (List KV):=[Pf x.s,Bi x.c,cI x.t4,cI x.out,Un x.x]
def Bp (vs:List KV) (rs:List (List KV)):fP:=⟨intOf (vs.getD 0 .ax),intOf (vs.getD 1 .ax),iw Il (vs.getD 2 .ax),intOf (vs.getD 3 .ax),intOf (vs.getD 4 .ax),intOf (vs.getD 5 .ax),intOf (vs.getD 6 .ax),iw gC (vs.getD 7 .ax),intOf (vs.getD 8 .ax),intOf (vs.getD 9 .ax),Pg (fun k=>(rs.getD 0 []).getD k .ax),Bj (fun k=>(rs.getD 1 []).getD k .ax),cJ (fun k=>(rs.getD 2 []).getD k .ax),cJ (fun k=>(rs.getD 3 []).getD k .ax),Uo (fun k=>(rs.getD 4 []).getD k .ax)⟩
def B9:aQ:=⟨[(6,⟨false,[.k (.int .i64)]⟩),(8,⟨false,[.k (.int .i64)]⟩),(14,⟨false,[.k (.slice 45)]⟩),(15,⟨false,[.k (.int .i64)]⟩),(16,⟨false,[.k (.int .i64)]⟩),(23,⟨false,[.k (.int .i64)]⟩),(24,⟨false,[.k (.int .i64)]⟩),(31,⟨false,[.k (.slice 118)]⟩),(32,⟨false,[.k (.int .i64)]⟩),(33,⟨false,[.k (.int .i64)]⟩)],[(2,[.k (.slice 45),.k (.slice 108)],1),(3,[.k (.int .i64),.k (.int .i64),.k (.int .i64),.k (.int .i64),.k (.int .i64),.k (.int .i64),.k (.int .i64),.k (.int .i64),.k (.int .i64),.k (.int .i64),.k (.int .i64),.k (.int .i64),.k (.int .i64),.k (.int .i64),.k (.int .i64),.k (.int .i64)],1),(4,[.k (.slice 45),.k (.slice 108),.bb 139],1),(5,[.k (.slice 45),.k (.slice 108),.bb 139],1),(7,[.k (.slice 41),.k (.slice 176),.k (.slice 50),.k (.int .u8),.k (.int .u8),.k (.int .u8),.k (.int .u8),.k (.int .i64),.k (.int .u8),.k (.int .i64),.k .bool,.k (.int .i64),.k (.int .i64),.k (.int .i64),.k (.int .i64),.k (.int .i64),.k (.int .i64),.k (.int .i64)],1)],[(2,0,0),(3,1,0),(4,2,0),(5,3,0),(7,4,0)]⟩
def Ln:=jf Try.prog (bp Try.prog [(84,uH)] [] (fun _=>false)) 9 9 57 3827302 (eX Try.prog 57 3827302) B9
def gU (x:fP):aJ fP:=
 (cond (decide (x.t33 < x.t32))
 (cond ((decide ((0:Int)≤x.t33))&&(decide (x.t33 < ((x.t31.n:Nat):Int))))
 (cond ((au x.out.parts.n x.out.parts.n)&&(eo 168 x.out.parts.n 1))
 (cond (cond (au (x.out.parts.n+1) (x.out.parts.n+1)) (au x.t4.parts.n x.t4.parts.n) false)
 (.next (⟨x.i,x.k,x.t14,x.t15,x.t16,x.t23,x.t24,x.t31,x.t32,(ak (x.t33+(1:Int))),x.s,x.c,x.t4,(⟨x.out.cX,(x.out.parts.push (⟨(x.t31.get (Int.toNat x.t33)),(⟨x.x.look.Le,x.i,x.k,x.t33,(0:Int),(0:Int)⟩:aZ)⟩:dq))⟩:aB),x.x⟩:fP))
 .fail)
 .fail)
 .fail)
 (cond (cond (au x.out.parts.n x.out.parts.n) (au x.t4.parts.n x.t4.parts.n) false)
 (.out (aG.aw.exit 4) x)
 .fail))
theorem Iq (x:fP):Ln (qt x) (qu x)=aJ.enc qt qu (gU x):=by
 unfold gU
 try simp only [aJ.dg,Ux]
 kernel_rfl
def mA:Lp:=⟨57,3827302,B9,fun vs rs=>dD qt qu (goN gU (Bp vs rs)) [aG.aw.exit 4],false⟩
theorem uJ:mA.Ok Try.prog:=eF funcs mixed (aq.cons tL aq.nil) aA.nil (L:=9) (n:=9) (step:=gU) (ev:=qt) (er:=qu) (pa:=Bp) rfl (fun wv wr=>⟨by kernel_rfl,by kernel_rfl⟩) Iq
theorem rN:cz Try.prog mA.f mA.p=true:=by kernel_rfl
def Ph:=jf Try.prog (bp Try.prog [(84,uH)] [mA] (fun _=>false)) 9 9 57 14950 (eX Try.prog 57 14950) Eu
def n8 (x:fB):(Option (Sl bt)):=(pf x.s x.c x.i x.t24)
def cj (x:fB):(aJ fP):=(goN gU (⟨x.i,x.t24,x.t14,x.t15,x.t16,x.t23,x.t24,((n8 x).getD default),((((n8 x).getD default).n:Nat):Int),(0:Int),x.s,x.c,x.t4,x.out,x.x⟩:fP))
def ja (x:fB):aJ fB:=
 (cond (decide (x.t24 < x.t23))
 (cond (n8 x).isSome
 (cond (cond (au x.out.parts.n x.out.parts.n) (au x.t4.parts.n x.t4.parts.n) false)
 (cond ((cj x).by (aG.aw.exit 4))
 (cond (cond (au (cj x).st.out.parts.n (cj x).st.out.parts.n) (au (cj x).st.t4.parts.n (cj x).st.t4.parts.n) false)
 (.next (⟨(cj x).st.i,(cj x).st.t14,(cj x).st.t15,(cj x).st.t16,(cj x).st.t23,(ak ((cj x).st.t24+(1:Int))),(cj x).st.s,(cj x).st.c,(cj x).st.t4,(cj x).st.out,(cj x).st.x⟩:fB))
 .fail)
 .fail)
 .fail)
 .fail)
 (cond (cond (au x.out.parts.n x.out.parts.n) (au x.t4.parts.n x.t4.parts.n) false)
 (.out (aG.aw.exit 2) x)
 .fail))
theorem Lo (x:fB):Ph (sJ x) (sK x)=aJ.enc sJ sK (ja x):=by
 unfold ja
 try simp only [aJ.dg]
 kernel_rfl
def qv:Lp:=⟨57,14950,Eu,fun vs rs=>dD sJ sK (goN ja (Ds vs rs)) [aG.aw.exit 2],false⟩
theorem Dt:qv.Ok Try.prog:=eF funcs mixed (aq.cons tL aq.nil) (aA.cons uJ rN aA.nil) (L:=9) (n:=9) (step:=ja) (ev:=sJ) (er:=sK) (pa:=Ds) rfl (fun wv wr=>⟨by kernel_rfl,by kernel_rfl⟩) Lo
theorem zH:cz Try.prog qv.f qv.p=true:=by kernel_rfl
def WL:=jf Try.prog (bp Try.prog [(84,uH)] [mA,qv] (fun _=>false)) 9 9 57 58 (eX Try.prog 57 58) Lm
def eD (x:jo):(aJ fB):=(goN ja (⟨x.t16,x.t14,x.t15,x.t16,(((x.t14.get (Int.toNat x.t16)).fO.n:Nat):Int),(0:Int),x.s,x.c,x.t4,x.out,(x.t14.get (Int.toNat x.t16))⟩:fB))
def kJ (x:jo):aJ jo:=
 (cond (decide (x.t16 < x.t15))
 (cond ((decide ((0:Int)≤x.t16))&&(decide (x.t16 < ((x.t14.n:Nat):Int))))
 (cond (cond (au x.out.parts.n x.out.parts.n) (au x.t4.parts.n x.t4.parts.n) false)
 (cond ((eD x).by (aG.aw.exit 2))
 (cond (cond (au (eD x).st.out.parts.n (eD x).st.out.parts.n) (au (eD x).st.t4.parts.n (eD x).st.t4.parts.n) false)
 (.next (⟨(eD x).st.t14,(eD x).st.t15,(ak ((eD x).st.t16+(1:Int))),(eD x).st.s,(eD x).st.c,(eD x).st.t4,(eD x).st.out⟩:jo))
 .fail)
 .fail)
 .fail)
 .fail)
 (cond (cond (au x.out.parts.n x.out.parts.n) (au x.t4.parts.n x.t4.parts.n) false)
 (.out (aG.aw.exit 0) x)
 .fail))
theorem R2 (x:jo):WL (xa x) (xb x)=aJ.enc xa xb (kJ x):=by
 unfold kJ
 try simp only [aJ.dg]
 kernel_rfl
def zc:Lp:=⟨57,58,Lm,fun vs rs=>dD xa xb (goN kJ (Jp vs rs)) [aG.aw.exit 0],false⟩
theorem WM:zc.Ok Try.prog:=eF funcs mixed (aq.cons tL aq.nil) (aA.cons uJ rN (aA.cons Dt zH aA.nil)) (L:=9) (n:=9) (step:=kJ) (ev:=xa) (er:=xb) (pa:=Jp) rfl (fun wv wr=>⟨by kernel_rfl,by kernel_rfl⟩) R2
theorem Pj:cz Try.prog zc.f zc.p=true:=by kernel_rfl
def R3:List (Nat×(List KV→KR KV)):=[(84,uH)]
def R4:List Lp:=[mA,qv,zc]
theorem aak:aq Try.prog R3:=(aq.cons tL aq.nil)
theorem aal:aA Try.prog R4:=(aA.cons uJ rN (aA.cons Dt zH (aA.cons WM Pj aA.nil)))
def AX (s:Show) (c:aU):(aJ jo):=(goN kJ (⟨s.items,((s.items.n:Nat):Int),(0:Int),s,c,(⟨(⟨(⟨0,(fun i=>(⟨(⟨0,(fun i=>(⟨(0:Int),(0:Int),(0:Int)⟩:eB))⟩:Sl _),(⟨0,(fun i=>(⟨(0:Int),(0:Int)⟩:w6))⟩:Sl _),(⟨0,(fun i=>(⟨(0:Int),(0:Int),(0:Int)⟩:fg))⟩:Sl _),(⟨(⟨(0:Int),(0:Int),(0:Int),(0:Int)⟩:Color),(0:Int),(0:Int),(0:Int),false,(0:Int)⟩:uE),(⟨(⟨(0:Int),(0:Int),(0:Int)⟩:eB),(⟨(0:Int),(0:Int),(0:Int)⟩:eB)⟩:tU)⟩:Item))⟩:Sl _),(⟨0,(fun i=>(⟨(0:Int),(0:Int),(⟨0,(fun i=>(⟨(0:Int),(0:Int),(0:Int),(0:Int)⟩:Color))⟩:Sl _)⟩:ew))⟩:Sl _)⟩:Show),(⟨0,(fun i=>(⟨(⟨(⟨(0:Int),(0:Int),(0:Int),(0:Int),(0:Int)⟩:fY),(⟨(0:Int),(0:Int),(0:Int),(0:Int),(0:Int)⟩:fY),(⟨(0:Int),(0:Int),(0:Int),(0:Int),(0:Int)⟩:fY)⟩:bt),(⟨(0:Int),(0:Int),(0:Int),(0:Int),(0:Int),(0:Int)⟩:aZ)⟩:dq))⟩:Sl _)⟩:aB),(⟨s,(⟨0,(fun i=>(⟨(⟨(⟨(0:Int),(0:Int),(0:Int),(0:Int),(0:Int)⟩:fY),(⟨(0:Int),(0:Int),(0:Int),(0:Int),(0:Int)⟩:fY),(⟨(0:Int),(0:Int),(0:Int),(0:Int),(0:Int)⟩:fY)⟩:bt),(⟨(0:Int),(0:Int),(0:Int),(0:Int),(0:Int),(0:Int)⟩:aZ)⟩:dq))⟩:Sl _)⟩:aB)⟩:jo))
def ny (s:Show) (c:aU):Option (aB):=
 (cond ((AX s c).by (aG.aw.exit 0))
 (some ((AX s c).st.out))
 none)
theorem abi (s:Show) (c:aU):dn Try.prog (bp Try.prog R3 R4 (fun _=>false)) 9 9 57 [ov s,iZ c] = (ny s c).map lZ:=by
 unfold ny
 try simp only [b7]
 kernel_rfl
def Bq:List KV→KR KV:=cr Try.prog 57 (cD lZ fun vs=>ny (kW (vs.getD 0 .ax)) (fw (vs.getD 1 .ax)))
theorem aam (w:Nat→KV):cM Try.prog [25,53] w 0 = [ov (kW (ay Try.prog (ao Try.prog av) 25 (w 0))),iZ (fw (ay Try.prog (ao Try.prog av) 53 (w 1)))]:=by kernel_rfl
theorem zd:b9 Try.prog 57 Bq:=aX funcs mixed aak aal (L:=9) (n:=9) fun w=>by
 have e:aK Try.prog 57 = [25,53]:=by kernel_rfl
 rw [e,aam]
 exact (abi (kW (ay Try.prog (ao Try.prog av) 25 (w 0))) (fw (ay Try.prog (ao Try.prog av) 53 (w 1)))).trans (by kernel_rfl)
def R5:List (Nat×(List KV→KR KV)):=[(57,Bq),(56,uI)]
def R6:List Lp:=[]
theorem aan:aq Try.prog R5:=(aq.cons zd (aq.cons tM aq.nil))
theorem aao:aA Try.prog R6:=aA.nil
def AY (s:Show) (c:aU) (x:Int) (y:Int):(Option Int):=(iB s c)
def Fm (s:Show) (c:aU) (x:Int) (y:Int):(Option aB):=(ny s c)
def oH (s:Show) (c:aU) (x:Int) (y:Int):Option (aB×Int):=
 (cond (AY s c x y).isSome
 (cond (((AY s c x y).getD default) != (0:Int))
 (some ((⟨(⟨(⟨0,(fun i=>(⟨(⟨0,(fun i=>(⟨(0:Int),(0:Int),(0:Int)⟩:eB))⟩:Sl _),(⟨0,(fun i=>(⟨(0:Int),(0:Int)⟩:w6))⟩:Sl _),(⟨0,(fun i=>(⟨(0:Int),(0:Int),(0:Int)⟩:fg))⟩:Sl _),(⟨(⟨(0:Int),(0:Int),(0:Int),(0:Int)⟩:Color),(0:Int),(0:Int),(0:Int),false,(0:Int)⟩:uE),(⟨(⟨(0:Int),(0:Int),(0:Int)⟩:eB),(⟨(0:Int),(0:Int),(0:Int)⟩:eB)⟩:tU)⟩:Item))⟩:Sl _),(⟨0,(fun i=>(⟨(0:Int),(0:Int),(⟨0,(fun i=>(⟨(0:Int),(0:Int),(0:Int),(0:Int)⟩:Color))⟩:Sl _)⟩:ew))⟩:Sl _)⟩:Show),(⟨0,(fun i=>(⟨(⟨(⟨(0:Int),(0:Int),(0:Int),(0:Int),(0:Int)⟩:fY),(⟨(0:Int),(0:Int),(0:Int),(0:Int),(0:Int)⟩:fY),(⟨(0:Int),(0:Int),(0:Int),(0:Int),(0:Int)⟩:fY)⟩:bt),(⟨(0:Int),(0:Int),(0:Int),(0:Int),(0:Int),(0:Int)⟩:aZ)⟩:dq))⟩:Sl _)⟩:aB),((AY s c x y).getD default)))
 (cond (decide (x < (0:Int)))
 (some ((⟨(⟨(⟨0,(fun i=>(⟨(⟨0,(fun i=>(⟨(0:Int),(0:Int),(0:Int)⟩:eB))⟩:Sl _),(⟨0,(fun i=>(⟨(0:Int),(0:Int)⟩:w6))⟩:Sl _),(⟨0,(fun i=>(⟨(0:Int),(0:Int),(0:Int)⟩:fg))⟩:Sl _),(⟨(⟨(0:Int),(0:Int),(0:Int),(0:Int)⟩:Color),(0:Int),(0:Int),(0:Int),false,(0:Int)⟩:uE),(⟨(⟨(0:Int),(0:Int),(0:Int)⟩:eB),(⟨(0:Int),(0:Int),(0:Int)⟩:eB)⟩:tU)⟩:Item))⟩:Sl _),(⟨0,(fun i=>(⟨(0:Int),(0:Int),(⟨0,(fun i=>(⟨(0:Int),(0:Int),(0:Int),(0:Int)⟩:Color))⟩:Sl _)⟩:ew))⟩:Sl _)⟩:Show),(⟨0,(fun i=>(⟨(⟨(⟨(0:Int),(0:Int),(0:Int),(0:Int),(0:Int)⟩:fY),(⟨(0:Int),(0:Int),(0:Int),(0:Int),(0:Int)⟩:fY),(⟨(0:Int),(0:Int),(0:Int),(0:Int),(0:Int)⟩:fY)⟩:bt),(⟨(0:Int),(0:Int),(0:Int),(0:Int),(0:Int),(0:Int)⟩:aZ)⟩:dq))⟩:Sl _)⟩:aB),(2:Int)))
 (cond (decide (x ≥ c.w))
 (some ((⟨(⟨(⟨0,(fun i=>(⟨(⟨0,(fun i=>(⟨(0:Int),(0:Int),(0:Int)⟩:eB))⟩:Sl _),(⟨0,(fun i=>(⟨(0:Int),(0:Int)⟩:w6))⟩:Sl _),(⟨0,(fun i=>(⟨(0:Int),(0:Int),(0:Int)⟩:fg))⟩:Sl _),(⟨(⟨(0:Int),(0:Int),(0:Int),(0:Int)⟩:Color),(0:Int),(0:Int),(0:Int),false,(0:Int)⟩:uE),(⟨(⟨(0:Int),(0:Int),(0:Int)⟩:eB),(⟨(0:Int),(0:Int),(0:Int)⟩:eB)⟩:tU)⟩:Item))⟩:Sl _),(⟨0,(fun i=>(⟨(0:Int),(0:Int),(⟨0,(fun i=>(⟨(0:Int),(0:Int),(0:Int),(0:Int)⟩:Color))⟩:Sl _)⟩:ew))⟩:Sl _)⟩:Show),(⟨0,(fun i=>(⟨(⟨(⟨(0:Int),(0:Int),(0:Int),(0:Int),(0:Int)⟩:fY),(⟨(0:Int),(0:Int),(0:Int),(0:Int),(0:Int)⟩:fY),(⟨(0:Int),(0:Int),(0:Int),(0:Int),(0:Int)⟩:fY)⟩:bt),(⟨(0:Int),(0:Int),(0:Int),(0:Int),(0:Int),(0:Int)⟩:aZ)⟩:dq))⟩:Sl _)⟩:aB),(2:Int)))
 (cond (decide (y < (0:Int)))
 (some ((⟨(⟨(⟨0,(fun i=>(⟨(⟨0,(fun i=>(⟨(0:Int),(0:Int),(0:Int)⟩:eB))⟩:Sl _),(⟨0,(fun i=>(⟨(0:Int),(0:Int)⟩:w6))⟩:Sl _),(⟨0,(fun i=>(⟨(0:Int),(0:Int),(0:Int)⟩:fg))⟩:Sl _),(⟨(⟨(0:Int),(0:Int),(0:Int),(0:Int)⟩:Color),(0:Int),(0:Int),(0:Int),false,(0:Int)⟩:uE),(⟨(⟨(0:Int),(0:Int),(0:Int)⟩:eB),(⟨(0:Int),(0:Int),(0:Int)⟩:eB)⟩:tU)⟩:Item))⟩:Sl _),(⟨0,(fun i=>(⟨(0:Int),(0:Int),(⟨0,(fun i=>(⟨(0:Int),(0:Int),(0:Int),(0:Int)⟩:Color))⟩:Sl _)⟩:ew))⟩:Sl _)⟩:Show),(⟨0,(fun i=>(⟨(⟨(⟨(0:Int),(0:Int),(0:Int),(0:Int),(0:Int)⟩:fY),(⟨(0:Int),(0:Int),(0:Int),(0:Int),(0:Int)⟩:fY),(⟨(0:Int),(0:Int),(0:Int),(0:Int),(0:Int)⟩:fY)⟩:bt),(⟨(0:Int),(0:Int),(0:Int),(0:Int),(0:Int),(0:Int)⟩:aZ)⟩:dq))⟩:Sl _)⟩:aB),(2:Int)))
 (cond (decide (y ≥ c.h))
 (some ((⟨(⟨(⟨0,(fun i=>(⟨(⟨0,(fun i=>(⟨(0:Int),(0:Int),(0:Int)⟩:eB))⟩:Sl _),(⟨0,(fun i=>(⟨(0:Int),(0:Int)⟩:w6))⟩:Sl _),(⟨0,(fun i=>(⟨(0:Int),(0:Int),(0:Int)⟩:fg))⟩:Sl _),(⟨(⟨(0:Int),(0:Int),(0:Int),(0:Int)⟩:Color),(0:Int),(0:Int),(0:Int),false,(0:Int)⟩:uE),(⟨(⟨(0:Int),(0:Int),(0:Int)⟩:eB),(⟨(0:Int),(0:Int),(0:Int)⟩:eB)⟩:tU)⟩:Item))⟩:Sl _),(⟨0,(fun i=>(⟨(0:Int),(0:Int),(⟨0,(fun i=>(⟨(0:Int),(0:Int),(0:Int),(0:Int)⟩:Color))⟩:Sl _)⟩:ew))⟩:Sl _)⟩:Show),(⟨0,(fun i=>(⟨(⟨(⟨(0:Int),(0:Int),(0:Int),(0:Int),(0:Int)⟩:fY),(⟨(0:Int),(0:Int),(0:Int),(0:Int),(0:Int)⟩:fY),(⟨(0:Int),(0:Int),(0:Int),(0:Int),(0:Int)⟩:fY)⟩:bt),(⟨(0:Int),(0:Int),(0:Int),(0:Int),(0:Int),(0:Int)⟩:aZ)⟩:dq))⟩:Sl _)⟩:aB),(2:Int)))
 (cond (Fm s c x y).isSome
 (some (((Fm s c x y).getD default),(0:Int)))
 none))))))
 none)
theorem abj (s:Show) (c:aU) (x:Int) (y:Int):dn Try.prog (bp Try.prog R5 R6 (fun _=>false)) 9 9 40 [ov s,iZ c,(kI .i64) x,(kI .i64) y] = (oH s c x y).map (fun (r:aB×Int)=>KV.jE [lZ r.1,(kI .i64) r.2]):=by
 unfold oH
 try simp only [b7]
 kernel_rfl
def Br:List KV→KR KV:=cr Try.prog 40 (cD (fun (r:aB×Int)=>KV.jE [lZ r.1,(kI .i64) r.2]) fun vs=>oH (kW (vs.getD 0 .ax)) (fw (vs.getD 1 .ax)) (intOf (vs.getD 2 .ax)) (intOf (vs.getD 3 .ax)))
theorem aap (w:Nat→KV):cM Try.prog [25,53,3,3] w 0 = [ov (kW (ay Try.prog (ao Try.prog av) 25 (w 0))),iZ (fw (ay Try.prog (ao Try.prog av) 53 (w 1))),(kI .i64) (intOf (ay Try.prog (ao Try.prog av) 3 (w 2))),(kI .i64) (intOf (ay Try.prog (ao Try.prog av) 3 (w 3)))]:=by kernel_rfl
theorem ze:b9 Try.prog 40 Br:=aX funcs mixed aan aao (L:=9) (n:=9) fun w=>by
 have e:aK Try.prog 40 = [25,53,3,3]:=by kernel_rfl
 rw [e,aap]
 exact (abj (kW (ay Try.prog (ao Try.prog av) 25 (w 0))) (fw (ay Try.prog (ao Try.prog av) 53 (w 1))) (intOf (ay Try.prog (ao Try.prog av) 3 (w 2))) (intOf (ay Try.prog (ao Try.prog av) 3 (w 3)))).trans (by kernel_rfl)
structure bn where
 x:Int
 y:Int
 t14:(Sl dq)
 t15:Int
 t16:Int
 dR:(Sl aZ)
instance:Inhabited bn:=⟨⟨default,default,default,default,default,default⟩⟩
def gK (x:bn):List KV:=[.int .i64 x.x,.int .i64 x.y,.fn (.func 42) [] [.ptr 0 0],iU 139 sH x.t14,.int .i64 x.t15,.int .i64 x.t16]
def gL (x:bn):List (List KV):=[[iU 58 gZ x.dR]]
def na (vs:List KV) (rs:List (List KV)):bn:=⟨intOf (vs.getD 0 .ax),intOf (vs.getD 1 .ax),iw sI (vs.getD 3 .ax),intOf (vs.getD 4 .ax),intOf (vs.getD 5 .ax),iw hH ((rs.getD 0 []).getD 0 .ax)⟩
def nz:aQ:=⟨[(1,⟨false,[.k (.int .i64)]⟩),(2,⟨false,[.k (.int .i64)]⟩),(3,⟨false,[.ref (.fn (.func 42) [] [.ptr 0 0])]⟩),(14,⟨false,[.k (.slice 139)]⟩),(15,⟨false,[.k (.int .i64)]⟩),(16,⟨false,[.k (.int .i64)]⟩)],[(100003,[.bb 58],1)],[]⟩
def tV:=jf Try.prog (bp Try.prog [(66,r5),(40,Br)] [] (fun _=>false)) 9 9 41 14 (eX Try.prog 41 14) nz
def df (x:bn):(Option (Prod fY Int)):=(oE (x.t14.get (Int.toNat x.t16)).t x.x x.y)
def cn (x:bn):aJ bn:=
 (cond (decide (x.t16 < x.t15))
 (cond ((decide ((0:Int)≤x.t16))&&(decide (x.t16 < ((x.t14.n:Nat):Int))))
 (cond (df x).isSome
 (cond (((df x).getD default).snd==(0:Int))
 (cond ((au x.dR.n x.dR.n)&&(eo 48 x.dR.n 1))
 (cond (au x.dR.n x.dR.n)
 (.next (⟨x.x,x.y,x.t14,x.t15,(ak (x.t16+(1:Int))),(x.dR.push (⟨(ak ((x.t14.get (Int.toNat x.t16)).da.d+((df x).getD default).fst.d)),(x.t14.get (Int.toNat x.t16)).da.item,(x.t14.get (Int.toNat x.t16)).da.cV,(x.t14.get (Int.toNat x.t16)).da.part,((df x).getD default).fst.u,((df x).getD default).fst.v⟩:aZ))⟩:bn))
 .fail)
 .fail)
 (cond (au x.dR.n x.dR.n)
 (.next (⟨x.x,x.y,x.t14,x.t15,(ak (x.t16+(1:Int))),x.dR⟩:bn))
 .fail))
 .fail)
 .fail)
 (cond (au x.dR.n x.dR.n)
 (.out (aG.aw.exit 0) x)
 .fail))
theorem sY (x:bn):tV (gK x) (gL x)=aJ.enc gK gL (cn x):=by
 unfold cn
 try simp only [aJ.dg,aah]
 kernel_rfl
def gV:Lp:=⟨41,14,nz,fun vs rs=>dD gK gL (goN cn (na vs rs)) [aG.aw.exit 0],false⟩
theorem tW:gV.Ok Try.prog:=eF funcs mixed (aq.cons pb (aq.cons ze aq.nil)) aA.nil (L:=9) (n:=9) (step:=cn) (ev:=gK) (er:=gL) (pa:=na) rfl (fun wv wr=>⟨by kernel_rfl,by kernel_rfl⟩) sY
theorem sL:cz Try.prog gV.f gV.p=true:=by kernel_rfl
def Jq:List (Nat×(List KV→KR KV)):=[(66,r5),(40,Br)]
def Jr:List Lp:=[gV]
theorem R7:aq Try.prog Jq:=(aq.cons pb (aq.cons ze aq.nil))
theorem R8:aA Try.prog Jr:=(aA.cons tW sL aA.nil)
def m4 (s:Show) (c:aU) (x:Int) (y:Int):(Option (Prod aB Int)):=(oH s c x y)
def oV (s:Show) (c:aU) (x:Int) (y:Int):(aJ bn):=(goN cn (⟨x,y,((m4 s c x y).getD default).fst.parts,((((m4 s c x y).getD default).fst.parts.n:Nat):Int),(0:Int),(⟨0,(fun i=>(⟨(0:Int),(0:Int),(0:Int),(0:Int),(0:Int),(0:Int)⟩:aZ))⟩:Sl _)⟩:bn))
def mu (s:Show) (c:aU) (x:Int) (y:Int):Option ((Sl aZ)×Int):=
 (cond (m4 s c x y).isSome
 (cond (((m4 s c x y).getD default).snd==(0:Int))
 (cond ((oV s c x y).by (aG.aw.exit 0))
 (some ((oV s c x y).st.dR,((m4 s c x y).getD default).snd))
 none)
 (some ((⟨0,(fun i=>(⟨(0:Int),(0:Int),(0:Int),(0:Int),(0:Int),(0:Int)⟩:aZ))⟩:Sl _),((m4 s c x y).getD default).snd)))
 none)
theorem Uy (s:Show) (c:aU) (x:Int) (y:Int):dn Try.prog (bp Try.prog Jq Jr (fun _=>false)) 9 9 15 [ov s,iZ c,(kI .i64) x,(kI .i64) y] = (mu s c x y).map (fun (r:(Sl aZ)×Int)=>KV.jE [(iU 58 gZ) r.1,(kI .i64) r.2]):=by
 unfold mu
 try simp only [b7]
 kernel_rfl
def Du:List KV→KR KV:=cr Try.prog 15 (cD (fun (r:(Sl aZ)×Int)=>KV.jE [(iU 58 gZ) r.1,(kI .i64) r.2]) fun vs=>mu (kW (vs.getD 0 .ax)) (fw (vs.getD 1 .ax)) (intOf (vs.getD 2 .ax)) (intOf (vs.getD 3 .ax)))
theorem R9 (w:Nat→KV):cM Try.prog [25,53,3,3] w 0 = [ov (kW (ay Try.prog (ao Try.prog av) 25 (w 0))),iZ (fw (ay Try.prog (ao Try.prog av) 53 (w 1))),(kI .i64) (intOf (ay Try.prog (ao Try.prog av) 3 (w 2))),(kI .i64) (intOf (ay Try.prog (ao Try.prog av) 3 (w 3)))]:=by kernel_rfl
theorem Ew:b9 Try.prog 15 Du:=aX funcs mixed R7 R8 (L:=9) (n:=9) fun w=>by
 have e:aK Try.prog 15 = [25,53,3,3]:=by kernel_rfl
 rw [e,R9]
 exact (Uy (kW (ay Try.prog (ao Try.prog av) 25 (w 0))) (fw (ay Try.prog (ao Try.prog av) 53 (w 1))) (intOf (ay Try.prog (ao Try.prog av) 3 (w 2))) (intOf (ay Try.prog (ao Try.prog av) 3 (w 3)))).trans (by kernel_rfl)
structure j8 where
 l:(Sl ew)
 n:Int
 i:Int
instance:Inhabited j8:=⟨⟨default,default,default⟩⟩
def vo (x:j8):List KV:=[iU 108 nK x.l,.int .i64 x.n,.int .i64 x.i]
def vp (x:j8):List (List KV):=[]
def GD (vs:List KV) (rs:List (List KV)):j8:=⟨iw kh (vs.getD 0 .ax),intOf (vs.getD 1 .ax),intOf (vs.getD 2 .ax)⟩
def Js:aQ:=⟨[(0,⟨false,[.k (.slice 108)]⟩),(3,⟨false,[.k (.int .i64)]⟩),(4,⟨false,[.k (.int .i64)]⟩)],[],[]⟩
def Uz:=jf Try.prog (bp Try.prog [] [] (fun _=>false)) 9 9 31 58 (eX Try.prog 31 58) Js
def lG (x:j8):aJ j8:=
 (cond (decide (x.i < ((x.l.n:Nat):Int)))
 (cond (decide (x.i < (100:Int)))
 (cond ((decide ((0:Int)≤x.i))&&(decide (x.i < ((x.l.n:Nat):Int))))
 (.next (⟨x.l,(ak (x.n+(min (((x.l.get (Int.toNat x.i)).En.n:Nat):Int) (100000:Int)))),(ak (x.i+(1:Int)))⟩:j8))
 .fail)
 (.out (aG.aw.exit 0) x))
 (.out (aG.aw.exit 0) x))
theorem Pk (x:j8):Uz (vo x) (vp x)=aJ.enc vo vp (lG x):=by
 unfold lG
 try simp only [aJ.dg]
 kernel_rfl
def xc:Lp:=⟨31,58,Js,fun vs rs=>dD vo vp (goN lG (GD vs rs)) [aG.aw.exit 0],false⟩
theorem UA:xc.Ok Try.prog:=eF funcs mixed aq.nil aA.nil (L:=9) (n:=9) (step:=lG) (ev:=vo) (er:=vp) (pa:=GD) rfl (fun wv wr=>⟨by kernel_rfl,by kernel_rfl⟩) Pk
theorem MN:cz Try.prog xc.f xc.p=true:=by kernel_rfl
def NM:List (Nat×(List KV→KR KV)):=[]
def NN:List Lp:=[xc]
theorem WN:aq Try.prog NM:=aq.nil
theorem WO:aA Try.prog NN:=(aA.cons UA MN aA.nil)
def rO (l:(Sl ew)):(aJ j8):=(goN lG (⟨l,(0:Int),(0:Int)⟩:j8))
def vq (l:(Sl ew)):Option (Bool):=
 (cond ((rO l).by (aG.aw.exit 0))
 (cond (decide ((((rO l).st.l.n:Nat):Int) > (40:Int)))
 (some (true))
 (some ((decide ((rO l).st.n > (20000:Int))))))
 none)
theorem aaq (l:(Sl ew)):dn Try.prog (bp Try.prog NM NN (fun _=>false)) 9 9 31 [(iU 108 nK) l] = (vq l).map kB:=by
 unfold vq
 try simp only [b7]
 kernel_rfl
def Ir:List KV→KR KV:=cr Try.prog 31 (cD kB fun vs=>vq ((iw kh) (vs.getD 0 .ax)))
theorem WQ (w:Nat→KV):cM Try.prog [23] w 0 = [(iU 108 nK) ((iw kh) (ay Try.prog (ao Try.prog av) 23 (w 0)))]:=by kernel_rfl
theorem Jt:b9 Try.prog 31 Ir:=aX funcs mixed WN WO (L:=9) (n:=9) fun w=>by
 have e:aK Try.prog 31 = [23]:=by kernel_rfl
 rw [e,WQ]
 exact (aaq ((iw kh) (ay Try.prog (ao Try.prog av) 23 (w 0)))).trans (by kernel_rfl)
structure j9 where
 n:Int
 i:Int
 s:Show
instance:Inhabited j9:=⟨⟨default,default,default⟩⟩
def vr (x:j9):List KV:=[.int .i64 x.n,.int .i64 x.i]
def vt (x:j9):List (List KV):=[Pf x.s]
def GF (vs:List KV) (rs:List (List KV)):j9:=⟨intOf (vs.getD 0 .ax),intOf (vs.getD 1 .ax),Pg (fun k=>(rs.getD 0 []).getD k .ax)⟩
def Ju:aQ:=⟨[(3,⟨false,[.k (.int .i64)]⟩),(4,⟨false,[.k (.int .i64)]⟩)],[(1,[.k (.slice 45),.k (.slice 108)],1)],[(1,0,0)]⟩
def UB:=jf Try.prog (bp Try.prog [(31,Ir)] [] (fun _=>false)) 9 9 10 58 (eX Try.prog 10 58) Ju
def lH (x:j9):aJ j9:=
 (cond (decide (x.i < ((x.s.items.n:Nat):Int)))
 (cond (decide (x.i < (300:Int)))
 (cond ((decide ((0:Int)≤x.i))&&(decide (x.i < ((x.s.items.n:Nat):Int))))
 (cond ((decide ((0:Int)≤x.i))&&(decide (x.i < ((x.s.items.n:Nat):Int))))
 (cond ((decide ((0:Int)≤x.i))&&(decide (x.i < ((x.s.items.n:Nat):Int))))
 (.next (⟨(ak ((ak ((ak (x.n+(min (((x.s.items.get (Int.toNat x.i)).gI.n:Nat):Int) (10000:Int))))+(min (((x.s.items.get (Int.toNat x.i)).uV.n:Nat):Int) (10000:Int))))+(ak ((2:Int) * (min (((x.s.items.get (Int.toNat x.i)).fO.n:Nat):Int) (10000:Int)))))),(ak (x.i+(1:Int))),x.s⟩:j9))
 .fail)
 .fail)
 .fail)
 (.out (aG.aw.exit 0) x))
 (.out (aG.aw.exit 0) x))
theorem Pl (x:j9):UB (vr x) (vt x)=aJ.enc vr vt (lH x):=by
 unfold lH
 try simp only [aJ.dg]
 kernel_rfl
def xd:Lp:=⟨10,58,Ju,fun vs rs=>dD vr vt (goN lH (GF vs rs)) [aG.aw.exit 0],false⟩
theorem UC:xd.Ok Try.prog:=eF funcs mixed (aq.cons Jt aq.nil) aA.nil (L:=9) (n:=9) (step:=lH) (ev:=vr) (er:=vt) (pa:=GF) rfl (fun wv wr=>⟨by kernel_rfl,by kernel_rfl⟩) Pl
theorem MO:cz Try.prog xd.f xd.p=true:=by kernel_rfl
def NP:List (Nat×(List KV→KR KV)):=[(31,Ir)]
def NR:List Lp:=[xd]
theorem WR:aq Try.prog NP:=(aq.cons Jt aq.nil)
theorem WS:aA Try.prog NR:=(aA.cons UC MO aA.nil)
def pg (s:Show):(aJ j9):=(goN lH (⟨(0:Int),(0:Int),s⟩:j9))
def Dv (s:Show):(Option Bool):=(vq (pg s).st.s.aR)
def vu (s:Show):Option (Bool):=
 (cond ((pg s).by (aG.aw.exit 0))
 (cond (decide ((((pg s).st.s.items.n:Nat):Int) > (260:Int)))
 (some (true))
 (cond (decide ((pg s).st.n > (800:Int)))
 (some (true))
 (cond (Dv s).isSome
 (some (((Dv s).getD default)))
 none)))
 none)
theorem aar (s:Show):dn Try.prog (bp Try.prog NP NR (fun _=>false)) 9 9 10 [ov s] = (vu s).map kB:=by
 unfold vu
 try simp only [b7]
 kernel_rfl
def Iu:List KV→KR KV:=cr Try.prog 10 (cD kB fun vs=>vu (kW (vs.getD 0 .ax)))
theorem WT (w:Nat→KV):cM Try.prog [25] w 0 = [ov (kW (ay Try.prog (ao Try.prog av) 25 (w 0)))]:=by kernel_rfl
theorem Jv:b9 Try.prog 10 Iu:=aX funcs mixed WR WS (L:=9) (n:=9) fun w=>by
 have e:aK Try.prog 10 = [25]:=by kernel_rfl
 rw [e,WT]
 exact (aar (kW (ay Try.prog (ao Try.prog av) 25 (w 0)))).trans (by kernel_rfl)
end
end Go.Proofs.Ytahhdndhkgbcjaa.b
end
section
namespace Go.K
open Go Go.aG
theorem aJ.afv {X:Type} {step:X→aJ X} {I:Nat→X→Prop} {Q:aw→X→Prop} {n:Nat}
  (h:∀ j x,j≤n→I j x→(∃ x',step x = .next x'∧j < n∧I (j+1) x')∨∃ e x',step x = .out e x'∧x1 e=false∧Q e x') :
  ∀ (r j:Nat) (x:X),j+r=n→I j x→∀ N,r < N→∃ e x',aJ.go step N x = .out e x'∧Q e x'
 | r,j,x,hj,hI,0,hN=>by omega
 | r,j,x,hj,hI,N+1,hN=>by
  rcases h j x (by omega) hI with ⟨x',h1,h2,h3⟩ | ⟨e,x',h1,h2,h3⟩
  ·obtain ⟨r',rfl⟩:∃ r',r=r' + 1:=⟨r - 1,by omega⟩
   obtain ⟨e,y,h4,h5⟩:=aJ.afv h r' (j+1) x' (by omega) h3 N (by omega)
   exact ⟨e,y,by simp only [aJ.go,h1,h4],h5⟩
  ·exact ⟨e,x',by simp only [aJ.go,h1,h2,cond_false],h3⟩
theorem dx {X:Type} {step:X→aJ X} (I:Nat→X→Prop) (Q:aw→X→Prop) (n:Nat) (hn:n < mm)
  (h:∀ j x,j≤n→I j x→(∃ x',step x = .next x'∧j < n∧I (j+1) x')∨∃ e x',step x = .out e x'∧x1 e=false∧Q e x') {x:X} (h0:I 0 x) :
  ∃ e x',goN step x = .out e x'∧Q e x':=aJ.afv h n 0 x (by omega) h0 mm hn
theorem aJ.kk {X:Type} (e:aw) (x:X) (e' : aw):(aJ.out e x).by e' = fR e e':=rfl
theorem aJ.kK {X:Type} [Inhabited X] (e:aw) (x:X):(aJ.out e x).st=x:=rfl
theorem zf {n:Int} (h : -9223372036854775808≤n) (h' : n < 9223372036854775808):ak n=n:=by
 show IntKind.wrap .i64 n=n
 unfold IntKind.wrap
 by_cases hn:0≤n
 ·have h1:n % (2 ^ IntKind.i64.bits:Int)=n:=Int.emod_eq_of_lt hn (by show n < 18446744073709551616; omega)
  simp only [h1]
  rw [if_neg]
  intro hc
  simp only [Bool.and_eq_true,decide_eq_true_eq] at hc
  have:n ≥ 9223372036854775808:=hc.2
  omega
 ·have h1:n % (2 ^ IntKind.i64.bits:Int)=n+18446744073709551616:=by
   show n % 18446744073709551616=n+18446744073709551616
   omega
  simp only [h1]
  rw [if_pos]
  ·show n+18446744073709551616 - 18446744073709551616=n
   omega
  ·simp only [Bool.and_eq_true,decide_eq_true_eq]
   refine ⟨rfl,?_⟩
   show n+18446744073709551616 ≥ 9223372036854775808
   omega
theorem Iv {b n m:Nat} (hb:b≤1000000) (hn:n≤1000000) (hm:m≤1000000) (h:0 < m∨n=0):eo b n m=true:=by
 unfold eo
 simp only [Bool.and_eq_true,Bool.or_eq_true]
 refine ⟨⟨Nat.ble_eq_true_of_le ?_,Nat.ble_eq_true_of_le (by omega)⟩,?_⟩
 ·calc (n+m+512) * b≤2000512 * 1000000:=Nat.mul_le_mul (by omega) hb
   _≤17592186044416:=by decide
 ·rcases h with h | h
  ·exact .inl (by rw [Nat.blt_eq]; exact h)
  ·exact .inr (by subst h; rfl)
@[simp] theorem a9 (n:Nat):au n n=true:=Nat.beq_refl n
theorem Sl.Ex {α:Type} [Inhabited α] (s:Sl α) (v:α):(s.push v).n=s.n+1:=rfl
theorem Sl.acf {α:Type} [Inhabited α] {s:Sl α} {v:α} {i:Nat} (h:i < s.n):(s.push v).get i=s.get i:=by
 have:Nat.blt i s.n=true:=by rw [Nat.blt_eq]; exact h
 simp only [Sl.push,this,cond_true]
theorem Sl.acg {α:Type} [Inhabited α] {s:Sl α} {v:α} : (s.push v).get s.n=v:=by
 have:Nat.blt s.n s.n=false:=by
  cases h:Nat.blt s.n s.n with
  | false=>rfl
  | true=>rw [Nat.blt_eq] at h; omega
 simp only [Sl.push,this,cond_false,Nat.beq_refl,cond_true]
end Go.K
end
section
namespace Go.Proofs.Ytahhdndhkgbcjaa.b
open Go.K
open Go.aG (aw)
theorem bz {n:Int} (h : -4611686018427387904≤n) (h' : n≤4611686018427387904):ak n=n:=zf (by omega) (by omega)
theorem Iw (lo hi:Int) (l:Sl Int) (hn:l.n≤1000):∃ b,nv lo hi l=some b∧(b=true↔∀ i,i < l.n→lo≤l.get i∧l.get i≤hi):=by
 obtain ⟨e,x',h1,h2⟩:=dx (step:=jY) (x:=⟨lo,hi,false,l,((l.n:Nat):Int),(0:Int)⟩)
  (fun j x=>x=⟨lo,hi,false,l,((l.n:Nat):Int),(j:Int)⟩∧j≤l.n∧∀ i,i < j→lo≤l.get i∧l.get i≤hi)
  (fun e x=>(e = .exit 0∧∀ i,i < l.n→lo≤l.get i∧l.get i≤hi)∨(e = .ret∧x.t6=false∧¬ ∀ i,i < l.n→lo≤l.get i∧l.get i≤hi)) l.n (by have:mm=1000000000000:=rfl; omega)
  (fun j x hj ⟨hx,hle,hI⟩=>by
   subst hx
   unfold jY
   by_cases bX:j < l.n
   ·have e1:decide ((j:Int) < ((l.n:Nat):Int))=true:=decide_eq_true (by omega)
    have e2:decide ((0:Int)≤(j:Int))=true:=decide_eq_true (by omega)
    simp only [e1,e2,cond_true,Bool.and_self,Int.toNat_natCast]
    cases ha:decide (l.get j < lo) with
    | true=>
     right
     refine ⟨_,_,rfl,rfl,.inr ⟨rfl,rfl,fun h=>?_⟩⟩
     have:=h j bX; have:=of_decide_eq_true ha; omega
    | false=>
     cases hb:decide (l.get j > hi) with
     | true=>
      right
      refine ⟨_,_,rfl,rfl,.inr ⟨rfl,rfl,fun h=>?_⟩⟩
      have:=h j bX; have:=of_decide_eq_true hb; omega
     | false=>
      left
      refine ⟨_,rfl,by omega,?_,by omega,fun i PE=>?_⟩
      ·rw [bz (by omega) (by omega)]; rfl
      ·by_cases OU:i=j
       ·subst OU
        have:=of_decide_eq_false ha; have:=of_decide_eq_false hb; omega
       ·exact hI i (by omega)
   ·have e1:decide ((j:Int) < ((l.n:Nat):Int))=false:=decide_eq_false (by omega)
    simp only [e1,cond_false]
    right
    exact ⟨_,_,rfl,rfl,.inl ⟨rfl,fun i PE=>hI i (by omega)⟩⟩)
  ⟨rfl,by omega,fun i PE=>by omega⟩
 have h0:u7 lo hi l = .out e x':=h1
 unfold nv
 rw [h0,aJ.kk,aJ.kk,aJ.kK]
 rcases h2 with ⟨rfl,h2⟩ | ⟨rfl,h3,h2⟩
 ·exact ⟨true,rfl,by simpa using h2⟩
 ·exact ⟨false,by simp [fR,h3],by simpa using h2⟩
theorem afw (mn:Int) (l:Sl Int) (hn:l.n≤1000) (hm:0≤mn∧mn≤1000000):∃ b,x7 mn l=some b∧(b=true↔∀ i,i < l.n→-mn≤l.get i∧l.get i≤mn):=by
 have hw:ak (0 - mn) = -mn:=by rw [bz (by omega) (by omega)]; omega
 obtain ⟨e,x',h1,h2⟩:=dx (step:=nU) (x:=⟨mn,false,l,((l.n:Nat):Int),(0:Int)⟩)
  (fun j x=>x=⟨mn,false,l,((l.n:Nat):Int),(j:Int)⟩∧j≤l.n∧∀ i,i < j→-mn≤l.get i∧l.get i≤mn)
  (fun e x=>(e = .exit 0∧∀ i,i < l.n→-mn≤l.get i∧l.get i≤mn)∨(e = .ret∧x.t4=false∧¬ ∀ i,i < l.n→-mn≤l.get i∧l.get i≤mn)) l.n (by have:mm=1000000000000:=rfl; omega)
  (fun j x hj ⟨hx,hle,hI⟩=>by
   subst hx
   unfold nU
   by_cases bX:j < l.n
   ·have e1:decide ((j:Int) < ((l.n:Nat):Int))=true:=decide_eq_true (by omega)
    have e2:decide ((0:Int)≤(j:Int))=true:=decide_eq_true (by omega)
    simp only [e1,e2,cond_true,Bool.and_self,Int.toNat_natCast,hw]
    cases ha:decide (l.get j < -mn) with
    | true=>
     right
     refine ⟨_,_,rfl,rfl,.inr ⟨rfl,rfl,fun h=>?_⟩⟩
     have:=h j bX; have:=of_decide_eq_true ha; omega
    | false=>
     cases hb:decide (l.get j > mn) with
     | true=>
      right
      refine ⟨_,_,rfl,rfl,.inr ⟨rfl,rfl,fun h=>?_⟩⟩
      have:=h j bX; have:=of_decide_eq_true hb; omega
     | false=>
      left
      refine ⟨_,rfl,by omega,?_,by omega,fun i PE=>?_⟩
      ·rw [bz (by omega) (by omega)]; rfl
      ·by_cases OU:i=j
       ·subst OU
        have:=of_decide_eq_false ha; have:=of_decide_eq_false hb; omega
       ·exact hI i (by omega)
   ·have e1:decide ((j:Int) < ((l.n:Nat):Int))=false:=decide_eq_false (by omega)
    simp only [e1,cond_false]
    right
    exact ⟨_,_,rfl,rfl,.inl ⟨rfl,fun i PE=>hI i (by omega)⟩⟩)
  ⟨rfl,by omega,fun i PE=>by omega⟩
 have h0:Ec mn l = .out e x':=h1
 unfold x7
 rw [h0,aJ.kk,aJ.kk,aJ.kK]
 rcases h2 with ⟨rfl,h2⟩ | ⟨rfl,h3,h2⟩
 ·exact ⟨true,rfl,by simpa using h2⟩
 ·exact ⟨false,by simp [fR,h3],by simpa using h2⟩
def adC (v:eB):Prop:=-4096≤v.x∧v.x≤4096∧-4096≤v.y∧v.y≤4096∧-4096≤v.z∧v.z≤4096
theorem amX {p:Int→Prop} (a b c:Int):(∀ i,i < (Sl.lit [a,b,c]).n→p ((Sl.lit [a,b,c]).get i))↔p a∧p b∧p c:=by
 constructor
 ·intro h
  exact ⟨h 0 (show 0 < 3 by omega),h 1 (show 1 < 3 by omega),h 2 (show 2 < 3 by omega)⟩
 ·rintro ⟨h1,h2,h3⟩ i hi
  have hi:i < 3:=hi
  match i,hi with
  | 0,_=>exact h1
  | 1,_=>exact h2
  | 2,_=>exact h3
theorem alA {p:Int→Prop} (a b:Int):(∀ i,i < (Sl.lit [a,b]).n→p ((Sl.lit [a,b]).get i))↔p a∧p b:=by
 constructor
 ·intro h
  exact ⟨h 0 (show 0 < 2 by omega),h 1 (show 1 < 2 by omega)⟩
 ·rintro ⟨h1,h2⟩ i hi
  have hi:i < 2:=hi
  match i,hi with
  | 0,_=>exact h1
  | 1,_=>exact h2
theorem amY {p:Int→Prop} (a:Int):(∀ i,i < (Sl.lit [a]).n→p ((Sl.lit [a]).get i))↔p a:=by
 constructor
 ·intro h
  exact h 0 (show 0 < 1 by omega)
 ·intro h1 i hi
  have hi:i < 1:=hi
  match i,hi with
  | 0,_=>exact h1
theorem Lq (v:eB):∃ e,ou v=some e∧(e=0↔adC v):=by
 obtain ⟨b,h1,h2⟩:=afw 4096 (Sl.lit [v.x,v.y,v.z]) (show 3≤1000 by omega) (by omega)
 rw [amX (p:=fun n=>-4096≤n∧n≤4096)] at h2
 unfold ou yO
 rw [h1]
 cases b with
 | true=>exact ⟨0,rfl,by simpa [adC,and_assoc] using h2⟩
 | false=>exact ⟨20,rfl,by simp only [Bool.false_eq_true,false_iff] at h2; simp only [adC]; omega⟩
def Sa (s:fY):Prop:=(-131072≤s.x∧s.x≤131072)∧(-131072≤s.y∧s.y≤131072)∧(1≤s.d∧s.d≤65536)∧(0≤s.u∧s.u≤255)∧0≤s.v∧s.v≤255
theorem BR (s:fY):∃ e,oD s=some e∧(e=0↔Sa s):=by
 obtain ⟨b,h1,h2⟩:=Iw (-131072) 131072 (Sl.lit [s.x,s.y]) (show 2≤1000 by omega)
 rw [alA (p:=fun n=>-131072≤n∧n≤131072)] at h2
 obtain ⟨c,h3,h4⟩:=Iw 1 65536 (Sl.lit [s.d]) (show 1≤1000 by omega)
 rw [amY (p:=fun n=>1≤n∧n≤65536)] at h4
 obtain ⟨d,h5,h6⟩:=Iw 0 255 (Sl.lit [s.u,s.v]) (show 2≤1000 by omega)
 rw [alA (p:=fun n=>0≤n∧n≤255)] at h6
 unfold oD wX wY wZ
 rw [h1,h3,h5]
 unfold Sa
 cases b with
 | false=>exact ⟨8,rfl,by simp only [Bool.false_eq_true,false_iff] at h2; omega⟩
 | true=>
  simp only [true_iff] at h2
  cases c with
  | false=>exact ⟨8,rfl,by simp only [Bool.false_eq_true,false_iff] at h4; omega⟩
  | true=>
   simp only [true_iff] at h4
   cases d with
   | false=>exact ⟨8,rfl,by simp only [Bool.false_eq_true,false_iff] at h6; omega⟩
   | true=>
    simp only [true_iff] at h6
    exact ⟨0,rfl,by simp only [true_iff]; exact ⟨h2.1,h2.2,h4,h6.1,h6.2⟩⟩
def adD (t:bt):Prop:=Sa t.e0∧Sa t.e1∧Sa t.e2
def afx (t:bt):Int:=(t.e1.x - t.e0.x) * (t.e2.y - t.e0.y) - (t.e2.x - t.e0.x) * (t.e1.y - t.e0.y)
theorem Ix {a b c d:Int} (hc:0≤c) (h1 : -c≤a∧a≤c) (h2 : -d≤b∧b≤d) : -(c * d)≤a * b∧a * b≤c * d:=by
 have hd:0≤d:=by omega
 have h3:a.natAbs * b.natAbs≤c.natAbs * d.natAbs:=Nat.mul_le_mul (by omega) (by omega)
 have h4:(a * b).natAbs=a.natAbs * b.natAbs:=Int.natAbs_mul a b
 have h5:(c * d).natAbs=c.natAbs * d.natAbs:=Int.natAbs_mul c d
 have h6:0≤c * d:=Int.mul_nonneg hc hd
 omega
theorem Lr (t:bt):(adD t∧nj t=some (afx t,0))∨(¬ adD t∧∃ e,nj t=some (0,e)∧e≠0):=by
 obtain ⟨e0,h1,h2⟩:=BR t.e0
 obtain ⟨e1,h3,h4⟩:=BR t.e1
 obtain ⟨e2,h5,h6⟩:=BR t.e2
 unfold nj yK yL yM
 rw [h1,h3,h5]
 unfold adD
 by_cases HN:e0=0
 ·by_cases Mq:e1=0
  ·by_cases BB:e2=0
   ·left
    have g0:=h2.1 HN; have g1:=h4.1 Mq; have g2:=h6.1 BB
    refine ⟨⟨g0,g1,g2⟩,?_⟩
    subst HN Mq BB
    obtain ⟨a1,a2,_⟩:=g0
    obtain ⟨b1,b2,_⟩:=g1
    obtain ⟨c1,c2,_⟩:=g2
    have m1:=Ix (a:=t.e1.x - t.e0.x) (b:=t.e2.y - t.e0.y) (c:=262144) (d:=262144) (by omega) (by omega) (by omega)
    have m2:=Ix (a:=t.e2.x - t.e0.x) (b:=t.e1.y - t.e0.y) (c:=262144) (d:=262144) (by omega) (by omega) (by omega)
    show some (ak (ak (ak (t.e1.x - t.e0.x) * ak (t.e2.y - t.e0.y)) - ak (ak (t.e2.x - t.e0.x) * ak (t.e1.y - t.e0.y))),(0:Int))=some (afx t,0)
    rw [bz (n:=t.e1.x - t.e0.x) (by omega) (by omega),bz (n:=t.e2.y - t.e0.y) (by omega) (by omega),bz (n:=t.e2.x - t.e0.x) (by omega) (by omega),bz (n:=t.e1.y - t.e0.y) (by omega) (by omega),
     bz (n:=(t.e1.x - t.e0.x) * (t.e2.y - t.e0.y)) (by omega) (by omega),bz (n:=(t.e2.x - t.e0.x) * (t.e1.y - t.e0.y)) (by omega) (by omega)]
    rw [bz (by omega) (by omega)]
    rfl
   ·right
    refine ⟨fun h=>BB (h6.2 h.2.2),e2,?_,BB⟩
    subst HN Mq
    have:(e2 != (0:Int))=true:=by simpa using BB
    simp [this]
  ·right
   refine ⟨fun h=>Mq (h4.2 h.2.1),e1,?_,Mq⟩
   subst HN
   have:(e1 != (0:Int))=true:=by simpa using Mq
   simp [this]
 ·right
  refine ⟨fun h=>HN (h2.2 h.1),e0,?_,HN⟩
  have:(e0 != (0:Int))=true:=by simpa using HN
  simp [this]
theorem Ey (a b:Int):∃ r,eH a b=some r:=by
 unfold eH
 cases h1:decide (b < 1) with
 | true=>exact ⟨_,rfl⟩
 | false=>
  have h1:=of_decide_eq_false h1
  have h2:decide (b=0)=false:=decide_eq_false (by omega)
  simp only [h2,cond_false,Bool.not_false,cond_true]
  cases decide (Int.tmod a b < 0) <;> exact ⟨_,rfl⟩
end Go.Proofs.Ytahhdndhkgbcjaa.b
end
section
namespace Go.Proofs.Ytahhdndhkgbcjaa.b
open Go.K
def UD (t:bt):Prop:=adD t∧0 < afx t
theorem afy (t:bt):∃ e,rG t=some e∧(e=0↔UD t):=by
 unfold rG oT UD
 rcases Lr t with ⟨h1,h2⟩ | ⟨h1,e,h2,h3⟩
 ·rw [h2]
  cases hb:decide (afx t≤0) with
  | true=>
   have:=of_decide_eq_true hb
   refine ⟨6,by simp [hb],by simp; omega⟩
  | false=>
   have:=of_decide_eq_false hb
   exact ⟨0,by simp [hb],by simp [h1]; omega⟩
 ·rw [h2]
  have:(e==(0:Int))=false:=by simpa using h3
  exact ⟨e,by simp [this],by simp [h1,h3]⟩
def Pix (x y:Int):Prop:=(0≤x∧x < 64)∧0≤y∧y < 64
theorem afz (x y:Int):∃ b,rH x y=some b∧(b=true↔Pix x y):=by
 unfold rH Pix
 cases hb:decide (min x y ≥ 0) with
 | true=>
  have:=of_decide_eq_true hb
  refine ⟨decide (max x y < 64),rfl,?_⟩
  rw [decide_eq_true_eq]
  omega
 | false=>
  have:=of_decide_eq_false hb
  refine ⟨false,rfl,?_⟩
  simp only [Bool.false_eq_true,false_iff]
  omega
def W0 (t:bt) (p q:Int):Int:=(t.e2.x - t.e1.x) * (q - t.e1.y) - (p - t.e1.x) * (t.e2.y - t.e1.y)
def W1 (t:bt) (p q:Int):Int:=(t.e0.x - t.e2.x) * (q - t.e2.y) - (p - t.e2.x) * (t.e0.y - t.e2.y)
def W2 (t:bt) (p q:Int):Int:=(t.e1.x - t.e0.x) * (q - t.e0.y) - (p - t.e0.x) * (t.e1.y - t.e0.y)
theorem agN {a b c d p q:Int} (ha : -131072≤a∧a≤131072) (hb : -131072≤b∧b≤131072) (hc : -131072≤c∧c≤131072) (hd : -131072≤d∧d≤131072) (hp:0≤p∧p≤1000) (hq:0≤q∧q≤1000) :
  ak (ak (ak (c - a) * ak (q - b)) - ak (ak (p - a) * ak (d - b)))=(c - a) * (q - b) - (p - a) * (d - b):=by
 have m1:=Ix (a:=c - a) (b:=q - b) (c:=262144) (d:=262144) (by omega) (by omega) (by omega)
 have m2:=Ix (a:=p - a) (b:=d - b) (c:=262144) (d:=262144) (by omega) (by omega) (by omega)
 rw [bz (n:=c - a) (by omega) (by omega),bz (n:=q - b) (by omega) (by omega),bz (n:=p - a) (by omega) (by omega),bz (n:=d - b) (by omega) (by omega),bz (n:=(c - a) * (q - b)) (by omega) (by omega),bz (n:=(p - a) * (d - b)) (by omega) (by omega),bz (by omega) (by omega)]
theorem VW (t:bt) (x y:Int):(UD t∧Pix x y∧mo t x y=some (⟨W0 t (8 * x+4) (8 * y+4),W1 t (8 * x+4) (8 * y+4),W2 t (8 * x+4) (8 * y+4)⟩,0))∨∃ w e,mo t x y=some (w,e)∧e≠0:=by
 obtain ⟨e,h1,h2⟩:=afy t
 obtain ⟨b,h3,h4⟩:=afz x y
 unfold mo ve Ah
 rw [h1,h3]
 by_cases he:e=0
 ·have hf:=h2.1 he
  subst he
  cases b with
  | true=>
   have hp:=h4.1 rfl
   left
   refine ⟨hf,hp,?_⟩
   obtain ⟨hp1,hp2⟩:=hp
   have e2:vf t x y=some (8 * y+4):=by
    show some (ak (ak (8 * y)+4))=_
    rw [bz (n:=8 * y) (by omega) (by omega),bz (by omega) (by omega)]
   have e3:vg t x y=some (8 * x+4):=by
    show some (ak (ak (8 * x)+4))=_
    rw [bz (n:=8 * x) (by omega) (by omega),bz (by omega) (by omega)]
   obtain ⟨⟨⟨a1,a2,_⟩,⟨b1,b2,_⟩,c1,c2,_⟩,_⟩:=hf
   rw [e2,e3]
   simp only [Option.isSome_some,cond_true,Option.getD_some,Bool.not_true,cond_false,bne_self_eq_false]
   rw [agN b1 b2 c1 c2 (by omega) (by omega),agN c1 c2 a1 a2 (by omega) (by omega),agN a1 a2 b1 b2 (by omega) (by omega)]
   rfl
  | false=>right; exact ⟨_,2,rfl,by omega⟩
 ·right
  have:(e != (0:Int))=true:=by simpa using he
  simp only [Option.isSome_some,cond_true,Option.getD_some]
  rw [this]
  exact ⟨_,e,rfl,he⟩
def ach (u v w:Int) (r:Option (Bool×Int)):Prop:=r=some (false,0)∨(r=some (true,0)∧0≤u∧0≤v∧0≤w)
theorem ach.ite {u v w:Int} {c:Prop} [Decidable c] {a b:Option (Bool×Int)} (h1:c→ach u v w a) (h2 : ¬ c→ach u v w b):ach u v w (if c then a else b):=by
 by_cases h:c
 ·rw [if_pos h]; exact h1 h
 ·rw [if_neg h]; exact h2 h
theorem adE (t:bt) (x y:Int):∃ c e,p0 t x y=some (c,e)∧(c=true→e=0→UD t∧Pix x y∧0≤W0 t (8 * x+4) (8 * y+4)∧0≤W1 t (8 * x+4) (8 * y+4)∧0≤W2 t (8 * x+4) (8 * y+4)):=by
 unfold p0 aj
 rcases VW t x y with ⟨h1,h2,h3⟩ | ⟨w,e,h3,h4⟩
 ·rw [h3]
  simp only [Option.isSome_some,cond_true,Option.getD_some,bne_self_eq_false,cond_false]
  generalize W0 t (8 * x+4) (8 * y+4)=u
  generalize W1 t (8 * x+4) (8 * y+4)=v
  generalize W2 t (8 * x+4) (8 * y+4)=w
  simp only [h1,h2,true_and]
  simp only [Bool.cond_eq_ite,Bool.not_eq_true',decide_eq_true_eq,decide_eq_false_iff_not,beq_iff_eq]
  have key:∀ r:Option (Bool×Int),ach u v w r→∃ c e,r=some (c,e)∧(c=true→e=0→0≤u∧0≤v∧0≤w):=by
   rintro r (rfl | ⟨rfl,h⟩)
   ·exact ⟨false,0,rfl,fun h=>by simp at h⟩
   ·exact ⟨true,0,rfl,fun _ _=>h⟩
  apply key
  repeat' (refine ach.ite (fun _=>?_) (fun _=>?_))
  all_goals first | exact .inl rfl | exact .inr ⟨rfl,by omega⟩
 ·rw [h3]
  have:(e != (0:Int))=true:=by simpa using h4
  exact ⟨false,e,by simp [this],fun h=>by simp at h⟩
theorem akg (a b c d e f x y:Int):((e-c)*(y-d)-(x-c)*(f-d))+((a-e)*(y-f)-(x-e)*(b-f))+((c-a)*(y-b)-(x-a)*(d-b))=(c-a)*(f-b)-(e-a)*(d-b):=by grind
theorem al4 (a b c d e f x y:Int):((e-c)*(y-d)-(x-c)*(f-d))*(a-x)+((a-e)*(y-f)-(x-e)*(b-f))*(c-x)+((c-a)*(y-b)-(x-a)*(d-b))*(e-x)=0:=by grind
theorem al5 (a b c d e f x y:Int):((e-c)*(y-d)-(x-c)*(f-d))*(b-y)+((a-e)*(y-f)-(x-e)*(b-f))*(d-y)+((c-a)*(y-b)-(x-a)*(d-b))*(f-y)=0:=by grind
theorem aas (p q r u v w:Int) (hp:0≤p) (hq:0≤q) (hr:0≤r) (hs:0 < p+q+r) (h:p * u+q * v+r * w=0):u≤0∨v≤0∨w≤0:=by
 by_cases h1:u≤0
 ·exact .inl h1
 by_cases h2:v≤0
 ·exact .inr (.inl h2)
 by_cases h3:w≤0
 ·exact .inr (.inr h3)
 exfalso
 have a1:p * 1≤p * u:=Int.mul_le_mul_of_nonneg_left (by omega) hp
 have a2:q * 1≤q * v:=Int.mul_le_mul_of_nonneg_left (by omega) hq
 have a3:r * 1≤r * w:=Int.mul_le_mul_of_nonneg_left (by omega) hr
 omega
theorem afA (p q r u v w:Int) (hp:0≤p) (hq:0≤q) (hr:0≤r) (hs:0 < p+q+r) (h:p * u+q * v+r * w=0):0≤u∨0≤v∨0≤w:=by
 have:=aas p q r (-u) (-v) (-w) hp hq hr hs (by rw [Int.mul_neg,Int.mul_neg,Int.mul_neg]; omega)
 omega
theorem between (t:bt) (p q:Int) (hf:UD t) (h0:0≤W0 t p q) (h1:0≤W1 t p q) (h2:0≤W2 t p q) :
  (min (min t.e0.x t.e1.x) t.e2.x≤p∧p≤max (max t.e0.x t.e1.x) t.e2.x)∧min (min t.e0.y t.e1.y) t.e2.y≤q∧q≤max (max t.e0.y t.e1.y) t.e2.y:=by
 have hs:0 < W0 t p q+W1 t p q+W2 t p q:=by
  have:=akg t.e0.x t.e0.y t.e1.x t.e1.y t.e2.x t.e2.y p q
  have h:=hf.2
  unfold afx at h
  unfold W0 W1 W2
  omega
 have hx:=al4 t.e0.x t.e0.y t.e1.x t.e1.y t.e2.x t.e2.y p q
 have hy:=al5 t.e0.x t.e0.y t.e1.x t.e1.y t.e2.x t.e2.y p q
 have a1:=aas _ _ _ _ _ _ h0 h1 h2 hs hx
 have a2:=afA _ _ _ _ _ _ h0 h1 h2 hs hx
 have a3:=aas _ _ _ _ _ _ h0 h1 h2 hs hy
 have a4:=afA _ _ _ _ _ _ h0 h1 h2 hs hy
 omega
theorem afB (t:bt) (x y:Int):∃ s e,oE t x y=some (s,e)∧(e=0→UD t∧Pix x y∧0≤W0 t (8 * x+4) (8 * y+4)∧0≤W1 t (8 * x+4) (8 * y+4)∧0≤W2 t (8 * x+4) (8 * y+4)):=by
 obtain ⟨c,e,h1,h2⟩:=adE t x y
 have hE:∃ w e,mo t x y=some (w,e):=by
  rcases VW t x y with ⟨_,_,h⟩ | ⟨w,e,h,_⟩
  ·exact ⟨_,_,h⟩
  ·exact ⟨_,_,h⟩
 obtain ⟨w,e',h3⟩:=hE
 unfold oE
 have e0:wK t x y=some (c,e):=h1
 have e1:dU t x y=some (w,e'):=h3
 rw [e0,e1]
 simp only [Option.isSome_some,cond_true,Option.getD_some]
 by_cases he:e=0
 ·subst he
  cases c with
  | true=>
   simp only [bne_self_eq_false,cond_false,Bool.not_true]
   obtain ⟨r2,g2⟩:∃ r,Fh t x y=some r:=Ey _ _
   obtain ⟨r3,g3⟩:∃ r,Fi t x y=some r:=Ey _ _
   obtain ⟨r4,g4⟩:∃ r,Fj t x y=some r:=Ey _ _
   rw [g2,g3,g4]
   cases hb:(e' != (0:Int)) with
   | true=>exact ⟨_,_,rfl,fun _=>h2 rfl rfl⟩
   | false=>exact ⟨_,_,rfl,fun _=>h2 rfl rfl⟩
  | false=>exact ⟨_,6,rfl,fun h=>by omega⟩
 ·have:(e != (0:Int))=true:=by simpa using he
  rw [this]
  exact ⟨_,e,rfl,fun h=>absurd h he⟩
end Go.Proofs.Ytahhdndhkgbcjaa.b
end
section
namespace Go.Proofs.Ytahhdndhkgbcjaa.b
open Go.K
open Go.aG (aw)
theorem ky {α:Type} {c:Bool} {a b:Option α} (ha:c=true→a.isSome=true) (hb:c=false→b.isSome=true):(cond c a b).isSome=true:=by
 cases c with
 | true=>exact ha rfl
 | false=>exact hb rfl
theorem al6 {α:Type} {a:Option α} (h:∃ r,a=some r):a.isSome=true:=by obtain ⟨r,h⟩:=h; rw [h]; rfl
theorem Pm {α:Type} {a:Option α} (h:a.isSome=true):∃ r,a=some r:=Option.isSome_iff_exists.1 h
theorem Fo (p:bW):(kU p).isSome=true:=by
 unfold kU
 repeat' (refine ky (fun _=>?_) (fun _=>?_))
 all_goals rfl
theorem aiw (aL:Int) (l:Sl bW) (hn:l.n≤1000):(tf aL l).isSome=true:=by
 obtain ⟨e,x',h1,h2⟩:=dx (step:=kD) (x:=⟨0,l,((l.n:Nat):Int),(0:Int)⟩)
  (fun j x=>x=⟨0,l,((l.n:Nat):Int),(j:Int)⟩∧j≤l.n)
  (fun e _=>e = .exit 0∨e = .ret) l.n (by have:mm=1000000000000:=rfl; omega)
  (fun j x hj ⟨hx,hle⟩=>by
   subst hx
   unfold kD
   by_cases bX:j < l.n
   ·have e1:decide ((j:Int) < ((l.n:Nat):Int))=true:=decide_eq_true (by omega)
    have e2:decide ((0:Int)≤(j:Int))=true:=decide_eq_true (by omega)
    obtain ⟨r,hr⟩:=Pm (Fo (l.get j))
    have e3:sA ⟨0,l,((l.n:Nat):Int),(j:Int)⟩=some r:=hr
    simp only [e1,e2,e3,cond_true,Bool.and_self,Option.isSome_some,Option.getD_some]
    cases (r != (0:Int)) with
    | true=>right; exact ⟨_,_,rfl,rfl,.inr rfl⟩
    | false=>
     left
     refine ⟨_,rfl,by omega,?_,by omega⟩
     rw [bz (by omega) (by omega)]; rfl
   ·have e1:decide ((j:Int) < ((l.n:Nat):Int))=false:=decide_eq_false (by omega)
    simp only [e1,cond_false]
    right
    exact ⟨_,_,rfl,rfl,.inl rfl⟩)
  ⟨rfl,by omega⟩
 have h0:w5 aL l = .out e x':=h1
 unfold tf
 rw [h0,aJ.kk,aJ.kk,aJ.kK]
 refine ky (fun _=>rfl) (fun _=>ky (fun _=>rfl) (fun _=>?_))
 rcases h2 with rfl | rfl <;> rfl
theorem vv (a b:Int):(eH a b).isSome=true:=al6 (Ey a b)
theorem ak6 (aL:Int) (a b:bW):(eJ aL a b).isSome=true:=by
 have e0:(wJ aL a b).isSome=true:=aiw _ _ (show 2≤1000 by omega)
 have e1:(Fb aL a b).isSome=true:=vv _ _
 have e2:(Fe aL a b).isSome=true:=vv _ _
 have e3:(Ff aL a b).isSome=true:=vv _ _
 have e4:(Fg aL a b).isSome=true:=vv _ _
 unfold eJ
 simp only [e0,e1,e2,e3,e4,cond_true]
 repeat' (refine ky (fun _=>?_) (fun _=>?_))
 all_goals rfl
theorem akh (m:gP):(x9 m).isSome=true:=by
 unfold x9
 repeat' (refine ky (fun _=>?_) (fun _=>?_))
 all_goals rfl
theorem aki (m:gP) (v:fg):(ya m v).isSome=true:=by
 have e0:(E7 m v).isSome=true:=vv _ _
 have e1:(E8 m v).isSome=true:=vv _ _
 have e2:(E9 m v).isSome=true:=vv _ _
 unfold ya
 simp only [e0,e1,e2,cond_true]
 rfl
theorem al7 (mn:Int) (l:Sl Int) (hn:l.n≤1000) (hm:0≤mn∧mn≤1000000):(x7 mn l).isSome=true:=by
 obtain ⟨b,h,_⟩:=afw mn l hn hm
 rw [h]; rfl
theorem akj (m:gP) (v:eB):(yb m v).isSome=true:=by
 have e0:(Fa m v).isSome=true:=akh _
 have e1:(AQ m v).isSome=true:=al7 _ _ (show 3≤1000 by omega) (by omega)
 have e2:(wI m v).isSome=true:=aki _ _
 unfold yb
 simp only [e0,e1,e2,cond_true]
 repeat' (refine ky (fun _=>?_) (fun _=>?_))
 all_goals rfl
theorem Sb (v:eB):(ou v).isSome=true:=by obtain ⟨e,h,_⟩:=Lq v; rw [h]; rfl
theorem agO (n a b:Int):dI n a b=some (decide (a≤n∧n≤b)):=by
 unfold dI
 by_cases h:n ≥ a
 ·simp only [decide_eq_true h,cond_true]
  congr 1
  by_cases h2:n≤b
  ·rw [decide_eq_true h2,decide_eq_true ⟨h,h2⟩]
  ·rw [decide_eq_false h2,decide_eq_false (fun q=>h2 q.2)]
 ·simp only [decide_eq_false h,cond_false]
  rw [decide_eq_false (fun q=>h q.1)]
def Iy (c:aU):Prop:=adC c.pos∧(1≤c.Ua∧c.Ua≤64)∧(256≤c.aL∧c.aL≤4096)∧(1≤c.w∧c.w≤64)∧1≤c.h∧c.h≤64
theorem tN (c:aU):∃ e,ln c=some e∧(e=0→Iy c):=by
 obtain ⟨e,h1,h2⟩:=Lq c.pos
 unfold ln yP yQ yR yS yT yU yV yW yX yY xv xw xx xy
 simp only [agO,h1,Option.isSome_some,Option.getD_some,cond_true]
 have key:∀ (b:Bool) (r:Option Int),(b=true→∃ e,r=some e∧(e=0→Iy c))→∃ e,cond b r (some 150)=some e∧(e=0→Iy c):=by
  intro b r h
  cases b with
  | true=>exact h rfl
  | false=>exact ⟨150,rfl,fun h=>by omega⟩
 refine key _ _ fun g0=>key _ _ fun g1=>key _ _ fun g2=>key _ _ fun g3=>key _ _ fun g4=>?_
 have ch:Iy c:=by
  simp only [decide_eq_true_eq] at g1 g2 g3 g4
  exact ⟨h2.1 (by simpa using g0),g1,g2,g3,g4⟩
 repeat' (refine key _ _ fun _=>?_)
 cases (!decide (-256≤c.m.e2.e2∧c.m.e2.e2≤256)) with
 | true=>exact ⟨150,rfl,fun h=>by omega⟩
 | false=>exact ⟨0,rfl,fun _=>ch⟩
theorem WU (c:aU):(ln c).isSome=true:=by obtain ⟨e,h,_⟩:=tN c; rw [h]; rfl
theorem aat (c:aU) (v:eB):(nw c v).isSome=true:=by
 have e0:(va c v).isSome=true:=WU _
 have e1:(vb c v).isSome=true:=Sb _
 have e2:(vc c v).isSome=true:=akj _ _
 unfold nw
 simp only [e0,e1,e2,cond_true]
 repeat' (refine ky (fun _=>?_) (fun _=>?_))
 all_goals rfl
theorem afC (t:bt):(nj t).isSome=true:=by
 rcases Lr t with ⟨_,h⟩ | ⟨_,e,h,_⟩ <;> rw [h] <;> rfl
theorem aix (t:bt) (k:Int):(ta t k).isSome=true:=by
 have e0:(nT t k).isSome=true:=afC t
 unfold ta
 simp only [e0,cond_true]
 repeat' (refine ky (fun _=>?_) (fun _=>?_))
 all_goals rfl
theorem aiy (t:bt):(te t).isSome=true:=by
 have e0:(pZ t).isSome=true:=afC t
 unfold te
 simp only [e0,cond_true]
 repeat' (refine ky (fun _=>?_) (fun _=>?_))
 all_goals rfl
end Go.Proofs.Ytahhdndhkgbcjaa.b
end
section
namespace Go.Proofs.Ytahhdndhkgbcjaa.b
open Go.K
open Go.aG (aw)
theorem uK {b n m:Nat} (hb:b≤1000) (hn:n≤1000000) (hm:0 < m∧m≤1000):eo b n m=true:=Iv (by omega) (by omega) (by omega) (.inl hm.1)
def NQ (j:Nat) (x:aC) (r:aJ aC):Prop:=∃ x',r = .next x'∧x'.t23=((j+1:Nat):Int)∧x'.l.n≤x.l.n+2∧x'.out=x.out∧x'.aL=x.aL
theorem NQ.cond {j:Nat} {x:aC} {c:Bool} {a b:aJ aC} (h1:c=true→NQ j x a) (h2:c=false→NQ j x b):NQ j x (_root_.cond c a b):=by
 cases c with
 | true=>exact h1 rfl
 | false=>exact h2 rfl
theorem agP (j:Nat) (hj:j < 3) (x:aC) (hx:x.t23=(j:Int)) (hl:x.l.n≤10):NQ j x (ik x):=by
 have c:∀ (aL:Int) (a b:bW),(eJ aL a b).isSome=true:=ak6
 have e0:(xA x).isSome=true:=c _ _ _
 have e1:(xB x).isSome=true:=c _ _ _
 have e2:(xC x).isSome=true:=c _ _ _
 have e3:(xD x).isSome=true:=c _ _ _
 have e4:(xE x).isSome=true:=c _ _ _
 have e5:(xF x).isSome=true:=c _ _ _
 have e6:(xG x).isSome=true:=c _ _ _
 have e7:(xH x).isSome=true:=c _ _ _
 have e8:(xI x).isSome=true:=c _ _ _
 have e9:(xJ x).isSome=true:=c _ _ _
 have e10:(vU x).isSome=true:=c _ _ _
 have e11:(vV x).isSome=true:=c _ _ _
 have e12:(vW x).isSome=true:=c _ _ _
 have e13:(vX x).isSome=true:=c _ _ _
 have e14:(vY x).isSome=true:=c _ _ _
 have e15:(vZ x).isSome=true:=c _ _ _
 have e16:(v7 x).isSome=true:=c _ _ _
 have e17:(v8 x).isSome=true:=c _ _ _
 have a1:eo 40 x.l.n 1=true:=uK (by omega) (by omega) (by omega)
 have a2:eo 40 (x.l.n+1) 1=true:=uK (by omega) (by omega) (by omega)
 have hw:ak ((j:Int)+1)=((j+1:Nat):Int):=by rw [bz (by omega) (by omega)]; rfl
 unfold ik
 simp only [e0,e1,e2,e3,e4,e5,e6,e7,e8,e9,e10,e11,e12,e13,e14,e15,e16,e17,a1,a2,a9,cond_true,Bool.and_self,hx,hw]
 match j,hj with
 | 0,_=>
  have d1:decide (((0:Nat):Int) < 3)=true:=by decide
  have d2:decide (((0:Nat):Int)=0)=true:=by decide
  have d3:decide (Int.tmod ((0+1:Nat):Int) 3=0)=false:=by decide
  have d4:decide (Int.tmod ((0+1:Nat):Int) 3=1)=true:=by decide
  simp only [d1,d2,d3,d4,cond_true,cond_false]
  repeat' (refine NQ.cond (fun _=>?_) (fun _=>?_))
  all_goals exact ⟨_,rfl,rfl,by first | (simp only [Sl.Ex]; omega) | omega,rfl,rfl⟩
 | 1,_=>
  have d1:decide (((1:Nat):Int) < 3)=true:=by decide
  have d2:decide (((1:Nat):Int)=0)=false:=by decide
  have d5:decide (((1:Nat):Int)=1)=true:=by decide
  have d3:decide (Int.tmod ((1+1:Nat):Int) 3=0)=false:=by decide
  have d4:decide (Int.tmod ((1+1:Nat):Int) 3=1)=false:=by decide
  have d6:decide (Int.tmod ((1+1:Nat):Int) 3=2)=true:=by decide
  simp only [d1,d2,d3,d4,d5,d6,cond_true,cond_false]
  repeat' (refine NQ.cond (fun _=>?_) (fun _=>?_))
  all_goals exact ⟨_,rfl,rfl,by first | (simp only [Sl.Ex]; omega) | omega,rfl,rfl⟩
 | 2,_=>
  have d1:decide (((2:Nat):Int) < 3)=true:=by decide
  have d2:decide (((2:Nat):Int)=0)=false:=by decide
  have d5:decide (((2:Nat):Int)=1)=false:=by decide
  have d7:decide (((2:Nat):Int)=2)=true:=by decide
  have d3:decide (Int.tmod ((2+1:Nat):Int) 3=0)=true:=by decide
  simp only [d1,d2,d3,d5,d7,cond_true,cond_false]
  repeat' (refine NQ.cond (fun _=>?_) (fun _=>?_))
  all_goals exact ⟨_,rfl,rfl,by first | (simp only [Sl.Ex]; omega) | omega,rfl,rfl⟩
theorem aci (aL:Int) (t:dJ):∃ x',cO aL t = .out (.exit 0) x'∧x'.l.n≤6∧x'.out.n=0:=by
 have key:∀ x:aC,_→_:=fun x h0=>dx (x:=x) (h0:=h0) (step:=ik) (fun j x=>x.t23=(j:Int)∧x.l.n≤2 * j∧x.out.n=0) (fun e x=>e = .exit 0∧x.l.n≤6∧x.out.n=0) 3 (by decide)
  (fun j x hj ⟨hx,hl,ho⟩=>by
   by_cases h:j < 3
   ·obtain ⟨x',h1,h2,h3,h4,_⟩:=agP j h x hx (by omega)
    exact .inl ⟨x',h1,h,h2,by omega,by rw [h4]; exact ho⟩
   ·have h3:j=3:=by omega
    subst h3
    refine .inr ⟨.exit 0,x,?_,rfl,rfl,by omega,ho⟩
    unfold ik
    simp only [hx,a9,cond_true,show decide (((3:Nat):Int) < 3)=false from by decide,cond_false])
 have fin:∃ e x',cO aL t = .out e x'∧(e = .exit 0∧x'.l.n≤6∧x'.out.n=0):=by
  unfold cO
  exact key _ ⟨rfl,Nat.le_refl _,rfl⟩
 obtain ⟨e,x',h1,rfl,h2,h3⟩:=fin
 exact ⟨x',h1,h2,h3⟩
theorem aiz (aL:Int) (t:dJ):∃ x',iA aL t = .out (.exit 2) x'∧x'.out.n≤6:=by
 obtain ⟨y,hy,hl,ho⟩:=aci aL t
 have key:∀ x:iz,_→_:=fun x h0=>dx (x:=x) (h0:=h0) (step:=kE) (fun j x=>x.i=((2+j:Nat):Int)∧x.l.n≤6∧x.out.n=j∧(x.i≤(x.l.n:Int)∨j=0)) (fun e x=>e = .exit 2∧x.out.n≤6) 6 (by decide)
  (fun j x hj ⟨hx,hl,ho,hi⟩=>by
   unfold kE
   by_cases h:x.i < ((x.l.n:Nat):Int)
   ·have w1:ak (x.i - 1)=x.i - 1:=bz (by omega) (by omega)
    have w2:ak (x.i+1)=x.i+1:=bz (by omega) (by omega)
    have a1:eo 120 x.out.n 1=true:=uK (by omega) (by omega) (by omega)
    refine .inl ⟨⟨(x.out.push (⟨(x.l.get 0),(x.l.get (Int.toNat (ak (x.i - (1:Int))))),(x.l.get (Int.toNat x.i))⟩:dJ)),x.l,(ak (x.i+(1:Int)))⟩,?_,by omega,?_,hl,?_,?_⟩
    ·simp only [w1,w2,a1,a9,cond_true,Bool.and_self,decide_eq_true h,decide_eq_true (show (0:Int) < ((x.l.n:Nat):Int) by omega),decide_eq_true (show (0:Int)≤x.i - 1 by omega),decide_eq_true (show x.i - 1 < ((x.l.n:Nat):Int) by omega),decide_eq_true (show (0:Int)≤x.i by omega)]
    ·show ak (x.i+1)=_
     omega
    ·simp only [Sl.Ex]; omega
    ·exact .inl (by show ak (x.i+1)≤((x.l.n:Nat):Int); omega)
   ·refine .inr ⟨.exit 2,x,?_,rfl,rfl,by omega⟩
    simp only [a9,cond_true,cond_false,decide_eq_false h])
 have fin:∃ e x',iA aL t = .out e x'∧(e = .exit 2∧x'.out.n≤6):=by
  unfold iA
  rw [hy]
  exact key _ ⟨rfl,hl,ho,.inr rfl⟩
 obtain ⟨e,x',h1,rfl,h2⟩:=fin
 exact ⟨x',h1,h2⟩
theorem akk (aL:Int) (t:dJ):∃ r,vi aL t=some r∧r.1.n≤6:=by
 obtain ⟨y,hy,hl,ho⟩:=aci aL t
 obtain ⟨z,hz,hn⟩:=aiz aL t
 have c:∀ (p:bW),(kU p).isSome=true:=Fo
 have e0:(uA aL t).isSome=true:=c _
 have e3:(uB aL t).isSome=true:=c _
 have e4:(uC aL t).isSome=true:=c _
 unfold vi
 have b1:(cO aL t).by (.exit 0)=true:=by rw [hy]; rfl
 have b2:(iA aL t).by (.exit 2)=true:=by rw [hz]; rfl
 have s2:(iA aL t).st=z:=by rw [hz]; rfl
 simp only [e0,e3,e4,b1,b2,s2,a9,cond_true]
 have q:∀ {c:Bool} {a b:Option (Sl dJ×Int)},(∃ r,a=some r∧r.1.n≤6)→(∃ r,b=some r∧r.1.n≤6)→∃ r,_root_.cond c a b=some r∧r.1.n≤6:=fun {c} {a} {b} h1 h2=>by
  cases c with
  | true=>exact h1
  | false=>exact h2
 repeat' (refine q ?_ ?_)
 all_goals first | exact ⟨_,rfl,Nat.zero_le _⟩ | exact ⟨(z.out,0),rfl,hn⟩
end Go.Proofs.Ytahhdndhkgbcjaa.b
end
section
namespace Go.Proofs.Ytahhdndhkgbcjaa.b
open Go.K
open Go.aG (aw)
theorem UE (c:aU) (p:bW):(oG c p).isSome=true:=by
 obtain ⟨e,h1,h2⟩:=tN c
 have e0:w7 c p=some e:=h1
 have e1:(w9 c p).isSome=true:=Fo _
 have e2:(BP c p).isSome=true:=vv _ _
 have e3:(BQ c p).isSome=true:=vv _ _
 unfold oG
 simp only [e0,e1,e2,e3,cond_true,Option.isSome_some,Option.getD_some]
 refine ky (fun _=>rfl) (fun he=>ky (fun _=>rfl) (fun _=>ky (fun _=>rfl) (fun hz=>?_)))
 have CS:e=0:=by simpa using he
 obtain ⟨_,_,hn,_⟩:=h2 CS
 have hz' : ¬ p.p.z < c.aL:=of_decide_eq_false hz
 have q:decide (p.p.z=(0:Int))=false:=decide_eq_false (by omega)
 rw [q]
 rfl
def Jw (x:Item):Prop:=x.uV.n=x.gI.n∧∀ i,i < x.fO.n→(0≤(x.fO.get i).e0∧(x.fO.get i).e0 < (x.gI.n:Int))∧(0≤(x.fO.get i).e1∧(x.fO.get i).e1 < (x.gI.n:Int))∧0≤(x.fO.get i).e2∧(x.fO.get i).e2 < (x.gI.n:Int)
theorem agQ (x:dp) (h0:x.t74=0) (h1:x.t73=(x.t72.n:Int)) (h2:x.t72.n≤6) (h3:x.out.n=0):∃ x',goN ia x = .out (.exit 2) x'∧x'.out.n≤6:=by
 have key:=dx (step:=ia) (x:=x) (fun j x=>x.t74=(j:Int)∧x.t73=(x.t72.n:Int)∧x.t72.n≤6∧x.out.n≤j∧j≤x.t72.n) (fun e x=>e = .exit 2∧x.out.n≤6) 6 (by decide)
  (fun j x hj ⟨hx,ht,hn,ho,hjn⟩=>by
   have e0:(qn x).isSome=true:=UE _ _
   have e1:(qo x).isSome=true:=UE _ _
   have e2:(qp x).isSome=true:=UE _ _
   have e3:(qq x).isSome=true:=aix _ _
   have e4:(uG x).isSome=true:=aiy _
   have w1:ak (x.t74+1)=x.t74+1:=bz (by omega) (by omega)
   have a1:eo 120 x.out.n 1=true:=uK (by omega) (by omega) (by omega)
   unfold ia
   by_cases h:x.t74 < x.t73
   ·simp only [e0,e1,e2,e3,e4,w1,a1,a9,cond_true,Bool.and_self,decide_eq_true h,decide_eq_true (show (0:Int)≤x.t74 by omega),decide_eq_true (show x.t74 < ((x.t72.n:Nat):Int) by omega)]
    left
    cases ((qq x).getD default).fst with
    | true=>exact ⟨_,rfl,by omega,by show x.t74+1=_; omega,ht,hn,by simp only [Sl.Ex]; omega,by show j+1≤x.t72.n; omega⟩
    | false=>exact ⟨_,rfl,by omega,by show x.t74+1=_; omega,ht,hn,by show x.out.n≤_; omega,by show j+1≤x.t72.n; omega⟩
   ·simp only [a9,cond_true,cond_false,decide_eq_false h]
    exact .inr ⟨_,_,rfl,rfl,rfl,by omega⟩)
  ⟨h0,h1,h2,by omega,Nat.zero_le _⟩
 obtain ⟨e,x',h1,rfl,h2⟩:=key
 exact ⟨x',h1,h2⟩
theorem afD (s:Show) (c:aU) (i j:Nat) (hi:i < s.items.n) (hj:j < (s.items.get i).fO.n) (ok:Jw (s.items.get i)):∃ r,pf s c (i:Int) (j:Int)=some r∧r.n≤6:=by
 obtain ⟨hu,hv⟩:=ok
 obtain ⟨⟨v1,v2⟩,⟨v3,v4⟩,v5,v6⟩:=hv j hj
 have e0:(Ai s c i j).isSome=true:=aat _ _
 have e1:(Aj s c i j).isSome=true:=aat _ _
 have e2:(Ak s c i j).isSome=true:=aat _ _
 obtain ⟨r,hr,hn⟩:∃ r,vl s c i j=some r∧r.1.n≤6:=akk _ _
 obtain ⟨z,hz,HL⟩:∃ x',oU s c i j = .out (.exit 2) x'∧x'.out.n≤6:=by
  unfold oU
  rw [hr]
  exact agQ _ rfl rfl hn rfl
 have b1:(oU s c i j).by (.exit 2)=true:=by rw [hz]; rfl
 have b2:(oU s c i j).st=z:=by rw [hz]; rfl
 refine ⟨z.out,?_,HL⟩
 unfold pf
 simp only [e0,e1,e2,hr,b1,b2,hu,Int.toNat_natCast,Option.isSome_some,cond_true,Bool.and_self,decide_eq_true v1,decide_eq_true v2,decide_eq_true v3,decide_eq_true v4,decide_eq_true v5,decide_eq_true v6,decide_eq_true (show (0:Int)≤(i:Int) by omega),decide_eq_true (show (0:Int)≤(j:Int) by omega),decide_eq_true (show (i:Int) < ((s.items.n:Nat):Int) by omega),decide_eq_true (show (j:Int) < (((s.items.get i).fO.n:Nat):Int) by omega)]
end Go.Proofs.Ytahhdndhkgbcjaa.b
end
section
namespace Go.Proofs.Ytahhdndhkgbcjaa.b
open Go.K
open Go.aG (aw)
theorem UF (n:Int):(yc n).isSome=true:=by
 unfold yc
 exact ky (fun _=>rfl) (fun _=>rfl)
theorem ak7 (l:Sl eB) (hn:l.n≤4096):∃ e x',gD l = .out e x'∧(e = .ret∨e = .exit 0∧x'.l=l):=by
 unfold gD
 refine dx (step:=nV) (fun j x=>x.l=l∧x.t17=l∧x.t18=(l.n:Int)∧x.t19=(j:Int)∧j≤l.n) (fun e x'=>e = .ret∨e = .exit 0∧x'.l=l) l.n (by have:mm=1000000000000:=rfl; omega) (fun j x hj ⟨h1,h2,h3,h4,h5⟩=>?_) ⟨rfl,rfl,rfl,rfl,Nat.zero_le _⟩
 have e0:(y0 x).isSome=true:=UF _
 have e1:(y7 x).isSome=true:=UF _
 have e2:(y8 x).isSome=true:=UF _
 have w1:ak (x.t19+1)=x.t19+1:=bz (by omega) (by omega)
 unfold nV
 by_cases h:x.t19 < x.t18
 ·simp only [e0,e1,e2,w1,cond_true,Bool.and_self,decide_eq_true h,decide_eq_true (show (0:Int)≤x.t19 by omega),decide_eq_true (show x.t19 < ((x.t17.n:Nat):Int) by rw [h2]; omega)]
  cases (!((y0 x).getD default)) with
  | true=>exact .inr ⟨_,_,rfl,rfl,.inl rfl⟩
  | false=>
   cases (!((y7 x).getD default)) with
   | true=>exact .inr ⟨_,_,rfl,rfl,.inl rfl⟩
   | false=>
    cases (!((y8 x).getD default)) with
    | true=>exact .inr ⟨_,_,rfl,rfl,.inl rfl⟩
    | false=>exact .inl ⟨_,rfl,by omega,h1,h2,h3,by show x.t19+1=_; omega,by omega⟩
 ·simp only [cond_false,decide_eq_false h]
  exact .inr ⟨_,_,rfl,rfl,.inr ⟨rfl,h1⟩⟩
theorem akl (x:kV) (hn:x.t49.n≤4096) (h0:x.t50=(x.t49.n:Int)) (h1:x.t51=0):∃ x',goN lO x = .out (.exit 2) x':=by
 obtain ⟨e,x',h,rfl⟩:=dx (step:=lO) (x:=x) (fun j y=>y.t49=x.t49∧y.t50=(x.t49.n:Int)∧y.t51=(j:Int)∧j≤x.t49.n) (fun e _=>e = .exit 2) x.t49.n (by have:mm=1000000000000:=rfl; omega) (fun j y hj ⟨h2,h3,h4,h5⟩=>by
  have w1:ak (y.t51+1)=y.t51+1:=bz (by omega) (by omega)
  unfold lO
  by_cases h:y.t51 < y.t50
  ·simp only [w1,cond_true,Bool.and_self,decide_eq_true h,decide_eq_true (show (0:Int)≤y.t51 by omega),decide_eq_true (show y.t51 < ((y.t49.n:Nat):Int) by rw [h2]; omega)]
   exact .inl ⟨_,rfl,by omega,h2,h3,by show y.t51+1=_; omega,by omega⟩
  ·simp only [cond_false,decide_eq_false h]
   exact .inr ⟨_,_,rfl,rfl,rfl⟩) ⟨rfl,h0,h1,Nat.zero_le _⟩
 exact ⟨x',h⟩
theorem aiA (l:Sl eB):(CG l).isSome=true:=by
 unfold CG
 refine ky (fun _=>rfl) (fun h0=>ky (fun _=>rfl) (fun h1=>?_))
 have hz:l.n≠0:=fun h=>by
  rw [h] at h0
  exact absurd h0 (by decide)
 have hn:l.n≤4096:=by
  have:=of_decide_eq_false h1
  omega
 obtain ⟨e,x',hx,h⟩:=ak7 l hn
 rcases h with rfl | ⟨rfl,hl⟩
 ·have b1:(gD l).by (.exit 0)=false:=by rw [hx]; rfl
  have b2:(gD l).by .ret=true:=by rw [hx]; rfl
  simp only [b1,b2,cond_true,cond_false]
  rfl
 ·have b1:(gD l).by (.exit 0)=true:=by rw [hx]; rfl
  have b2:(gD l).st.l=l:=by rw [hx]; exact hl
  obtain ⟨y,hy⟩:∃ y,Bm l = .out (.exit 2) y:=by
   unfold Bm
   simp only [b2]
   exact akl _ (by show Int.toNat _ - 1≤4096; omega) rfl rfl
  have b3:(Bm l).by (.exit 2)=true:=by rw [hy]; rfl
  simp only [b1,b2,b3,cond_true,Bool.and_self,decide_eq_true (show (0:Int) < ((l.n:Nat):Int) by omega),decide_eq_true (show (1:Int)≤((l.n:Nat):Int) by omega),decide_eq_true (show ((l.n:Nat):Int)≤((l.n:Nat):Int) by omega)]
  rfl
theorem Sc (n:Int):(lq n).isSome=true:=by
 unfold lq
 exact ky (fun _=>rfl) (fun _=>rfl)
theorem Sd (t:ew):(gf t).isSome=true:=by
 have e0:(sB t).isSome=true:=Sc _
 have e1:(sC t).isSome=true:=Sc _
 unfold gf
 simp only [e0,e1,cond_true]
 repeat' (refine ky (fun _=>?_) (fun _=>?_))
 all_goals rfl
theorem NS (l:Sl ew):(gj l).isSome=true:=by
 unfold gj
 refine ky (fun _=>rfl) (fun h0=>?_)
 have hn:l.n≤16:=by
  have:=of_decide_eq_false h0
  omega
 obtain ⟨e,x',h1,h2⟩:∃ e x',eC l = .out e x'∧(e = .ret∨e = .exit 0):=by
  unfold eC
  refine dx (step:=fy) (fun j x=>x.t9=l∧x.t10=(l.n:Int)∧x.t11=(j:Int)∧j≤l.n) (fun e _=>e = .ret∨e = .exit 0) l.n (by have:mm=1000000000000:=rfl; omega) (fun j x hj ⟨h2,h3,h4,h5⟩=>?_) ⟨rfl,rfl,rfl,Nat.zero_le _⟩
  have e0:(ki x).isSome=true:=Sd _
  have w1:ak (x.t11+1)=x.t11+1:=bz (by omega) (by omega)
  unfold fy
  by_cases h:x.t11 < x.t10
  ·simp only [e0,w1,cond_true,Bool.and_self,decide_eq_true h,decide_eq_true (show (0:Int)≤x.t11 by omega),decide_eq_true (show x.t11 < ((x.t9.n:Nat):Int) by rw [h2]; omega)]
   cases (((ki x).getD default) != (0:Int)) with
   | true=>exact .inr ⟨_,_,rfl,rfl,.inl rfl⟩
   | false=>exact .inl ⟨_,rfl,by omega,h2,h3,by show x.t11+1=_; omega,by omega⟩
  ·simp only [cond_false,decide_eq_false h]
   exact .inr ⟨_,_,rfl,rfl,.inr rfl⟩
 rcases h2 with rfl | rfl
 ·have b1:(eC l).by (.exit 0)=false:=by rw [h1]; rfl
  have b2:(eC l).by .ret=true:=by rw [h1]; rfl
  simp only [b1,b2,cond_true,cond_false]
  rfl
 ·have b1:(eC l).by (.exit 0)=true:=by rw [h1]; rfl
  simp only [b1,cond_true]
  rfl
theorem afE (l:uE) (t:Int):(fG l t).isSome=true:=by
 unfold fG
 repeat' (refine ky (fun _=>?_) (fun _=>?_))
 all_goals rfl
end Go.Proofs.Ytahhdndhkgbcjaa.b
end
section
namespace Go.Proofs.Ytahhdndhkgbcjaa.b
open Go.K
open Go.aG (aw)
theorem akm (x:Item) (t:Int) (hn:x.gI.n≤64) (hu:x.uV.n=x.gI.n):∃ e x',gq x t = .out e x'∧(e = .ret∧x'.t4=false∨e = .exit 0∧x'.n=(x.gI.n:Int)∧x'.x=x∧x'.t4=false):=by
 unfold gq
 refine dx (step:=kF) (fun j y=>y.x=x∧y.t38=x.gI∧y.t39=(x.gI.n:Int)∧y.t40=(j:Int)∧j≤x.gI.n∧y.n=(x.gI.n:Int)∧y.t4=false) (fun e y=>e = .ret∧y.t4=false∨e = .exit 0∧y.n=(x.gI.n:Int)∧y.x=x∧y.t4=false) x.gI.n (by have:mm=1000000000000:=rfl; omega) (fun j y hj ⟨h1,h2,h3,h4,h5,h6,h7⟩=>?_) ⟨rfl,rfl,rfl,rfl,Nat.zero_le _,rfl,rfl⟩
 have e0:(sD y).isSome=true:=Sb _
 have w1:ak (y.t40+1)=y.t40+1:=bz (by omega) (by omega)
 unfold kF
 by_cases h:y.t40 < y.t39
 ·simp only [e0,w1,cond_true,Bool.and_self,decide_eq_true h,decide_eq_true (show (0:Int)≤y.t40 by omega),decide_eq_true (show y.t40 < ((y.t38.n:Nat):Int) by rw [h2]; omega),decide_eq_true (show y.t40 < ((y.x.uV.n:Nat):Int) by rw [h1]; omega)]
  cases (((sD y).getD default) != (0:Int)) with
  | true=>exact .inr ⟨_,_,rfl,rfl,.inl ⟨rfl,rfl⟩⟩
  | false=>
   cases (decide ((min (y.x.uV.get (Int.toNat y.t40)).e0 (y.x.uV.get (Int.toNat y.t40)).e1) < (0:Int))) with
   | true=>exact .inr ⟨_,_,rfl,rfl,.inl ⟨rfl,rfl⟩⟩
   | false=>
    cases (decide ((max (y.x.uV.get (Int.toNat y.t40)).e0 (y.x.uV.get (Int.toNat y.t40)).e1) > (255:Int))) with
    | true=>exact .inr ⟨_,_,rfl,rfl,.inl ⟨rfl,rfl⟩⟩
    | false=>exact .inl ⟨_,rfl,by omega,h1,h2,h3,by show y.t40+1=_; omega,by omega,h6,h7⟩
 ·simp only [cond_false,decide_eq_false h]
  exact .inr ⟨_,_,rfl,rfl,.inr ⟨rfl,h6,h1,h7⟩⟩
def aau (l:Sl fg) (n:Int) (i:Nat):Prop:=(0≤(l.get i).e0∧(l.get i).e0 < n)∧(0≤(l.get i).e1∧(l.get i).e1 < n)∧0≤(l.get i).e2∧(l.get i).e2 < n
theorem akn (x:gg) (hn:x.t82.n≤64) (h0:x.t83=(x.t82.n:Int)) (h1:x.t84=0) (h2:x.t4=false):∃ e x',goN jy x = .out e x'∧(e = .ret∧x'.t4=false∨e = .exit 2∧x'.n=x.n∧x'.x=x.x∧∀ i,i < x.t82.n→aau x.t82 x.n i):=by
 refine dx (step:=jy) (fun j y=>y.x=x.x∧y.t82=x.t82∧y.t83=(x.t82.n:Int)∧y.t84=(j:Int)∧j≤x.t82.n∧y.n=x.n∧y.t4=false∧∀ i,i < j→aau x.t82 x.n i) (fun e y=>e = .ret∧y.t4=false∨e = .exit 2∧y.n=x.n∧y.x=x.x∧∀ i,i < x.t82.n→aau x.t82 x.n i) x.t82.n (by have:mm=1000000000000:=rfl; omega) (fun j y hj ⟨h1,h2,h3,h4,h5,h6,h7,h8⟩=>?_) ⟨rfl,rfl,h0,h1,Nat.zero_le _,rfl,h2,fun i h=>absurd h (Nat.not_lt_zero _)⟩
 have w1:ak (y.t84+1)=y.t84+1:=bz (by omega) (by omega)
 unfold jy
 by_cases h:y.t84 < y.t83
 ·simp only [w1,cond_true,Bool.and_self,decide_eq_true h,decide_eq_true (show (0:Int)≤y.t84 by omega),decide_eq_true (show y.t84 < ((y.t82.n:Nat):Int) by rw [h2]; omega)]
  cases g1:decide ((min (min (y.t82.get (Int.toNat y.t84)).e0 (y.t82.get (Int.toNat y.t84)).e1) (y.t82.get (Int.toNat y.t84)).e2) < (0:Int)) with
  | true=>exact .inr ⟨_,_,rfl,rfl,.inl ⟨rfl,rfl⟩⟩
  | false=>
   cases g2:decide ((max (max (y.t82.get (Int.toNat y.t84)).e0 (y.t82.get (Int.toNat y.t84)).e1) (y.t82.get (Int.toNat y.t84)).e2) ≥ y.n) with
   | true=>exact .inr ⟨_,_,rfl,rfl,.inl ⟨rfl,rfl⟩⟩
   | false=>
    refine .inl ⟨_,rfl,by omega,h1,h2,h3,by show y.t84+1=_; omega,by omega,h6,h7,fun i hi=>?_⟩
    by_cases OU:i < j
    ·exact h8 i OU
    ·have e:i=j:=by omega
     subst e
     have g1':=of_decide_eq_false g1
     have g2':=of_decide_eq_false g2
     rw [h2,h4,Int.toNat_natCast] at g1' g2'
     rw [h6] at g2'
     unfold aau
     omega
 ·simp only [cond_false,decide_eq_false h]
  exact .inr ⟨_,_,rfl,rfl,.inr ⟨rfl,h6,h1,fun i hi=>h8 i (by omega)⟩⟩
theorem acj (x:Item) (t:Int):∃ b,nm x t=some b∧(b=true→x.gI.n≤64∧x.fO.n≤64∧Jw x):=by
 have no:∃ b,(some false:Option Bool)=some b∧(b=true→x.gI.n≤64∧x.fO.n≤64∧Jw x):=⟨false,rfl,fun h=>absurd h (by decide)⟩
 unfold nm
 cases g1:decide (((x.gI.n:Nat):Int) > (64:Int)) with
 | true=>exact no
 | false=>
 cases g2:(((x.uV.n:Nat):Int) != ((x.gI.n:Nat):Int)) with
 | true=>exact no
 | false=>
 cases g3:decide (((x.fO.n:Nat):Int) > (64:Int)) with
 | true=>exact no
 | false=>
 have e0:(uF x t).isSome=true:=afE _ _
 simp only [cond_false,cond_true,e0]
 cases (((uF x t).getD default) != (0:Int)) with
 | true=>exact no
 | false=>
 have hv:x.gI.n≤64:=by
  have:=of_decide_eq_false g1
  omega
 have ht:x.fO.n≤64:=by
  have:=of_decide_eq_false g3
  omega
 have hu:x.uV.n=x.gI.n:=by
  have:((x.uV.n:Nat):Int)=((x.gI.n:Nat):Int):=by simpa using g2
  omega
 obtain ⟨e,y,hy,h⟩:=akm x t hv hu
 rcases h with ⟨rfl,hf⟩ | ⟨rfl,hn,hx,hf⟩
 ·have b1:(gq x t).by (.exit 0)=false:=by rw [hy]; rfl
  have b2:(gq x t).by .ret=true:=by rw [hy]; rfl
  have b3:(gq x t).st.t4=false:=by rw [hy]; exact hf
  simp only [b1,b2,b3,cond_true,cond_false]
  exact no
 ·have b1:(gq x t).by (.exit 0)=true:=by rw [hy]; rfl
  have s1:(gq x t).st=y:=by rw [hy]; rfl
  obtain ⟨e,z,hz,h⟩:∃ e z,fc x t = .out e z∧(e = .ret∧z.t4=false∨e = .exit 2∧z.n=(x.gI.n:Int)∧z.x=x∧∀ i,i < x.fO.n→aau x.fO (x.gI.n:Int) i):=by
   unfold fc
   rw [s1,hn,hx]
   exact akn _ ht rfl rfl hf
  rcases h with ⟨rfl,hf'⟩ | ⟨rfl,_,hx',o4⟩
  ·have b2:(fc x t).by (.exit 2)=false:=by rw [hz]; rfl
   have b3:(fc x t).by .ret=true:=by rw [hz]; rfl
   have b4:(fc x t).st.t4=false:=by rw [hz]; exact hf'
   simp only [b1,b2,b3,b4,cond_true,cond_false]
   exact no
  ·have b2:(fc x t).by (.exit 2)=true:=by rw [hz]; rfl
   have e3:(mq x t).isSome=true:=aiA _
   simp only [b1,b2,e3,cond_true]
   have ok:x.gI.n≤64∧x.fO.n≤64∧Jw x:=⟨hv,ht,hu,o4⟩
   have q:∀ {c:Bool} {a b:Option Bool},(∃ r,a=some r∧(r=true→x.gI.n≤64∧x.fO.n≤64∧Jw x))→(∃ r,b=some r∧(r=true→x.gI.n≤64∧x.fO.n≤64∧Jw x))→∃ r,_root_.cond c a b=some r∧(r=true→x.gI.n≤64∧x.fO.n≤64∧Jw x):=fun {c} {a} {b} h1 h2=>by
    cases c with
    | true=>exact h1
    | false=>exact h2
   repeat' (refine q ?_ ?_)
   all_goals first | exact no | exact ⟨_,rfl,fun _=>ok⟩
def Ez (s:Show):Prop:=s.items.n≤256∧∀ i,i < s.items.n→(s.items.get i).gI.n≤64∧(s.items.get i).fO.n≤64∧Jw (s.items.get i)
theorem Jx (s:Show):∃ e,kX s=some e∧(e=0→Ez s):=by
 have no:∀ k:Int,k≠0→∃ e,(some k:Option Int)=some e∧(e=0→Ez s):=fun k hk=>⟨k,rfl,fun h=>absurd h hk⟩
 unfold kX
 cases g1:decide (((s.items.n:Nat):Int) > (256:Int)) with
 | true=>exact no 4 (by decide)
 | false=>
 cases decide (((s.aR.n:Nat):Int) > (16:Int)) with
 | true=>exact no 4 (by decide)
 | false=>
 have hn:s.items.n≤256:=by
  have:=of_decide_eq_false g1
  omega
 have e0:(rL s).isSome=true:=NS _
 simp only [e0,cond_true,cond_false]
 cases (((rL s).getD default) != (0:Int)) with
 | true=>exact no 8 (by decide)
 | false=>
 obtain ⟨e,x',hx,h⟩:∃ e x',eO s = .out e x'∧(e = .ret∧x'.t4 ≥ 0∨e = .exit 0∧∀ i,i < s.items.n→(s.items.get i).gI.n≤64∧(s.items.get i).fO.n≤64∧Jw (s.items.get i)):=by
  unfold eO
  refine dx (step:=bG) (fun j y=>y.s=s.items∧y.t7=(s.items.n:Int)∧y.t8=(j:Int)∧j≤s.items.n∧∀ i,i < j→(s.items.get i).gI.n≤64∧(s.items.get i).fO.n≤64∧Jw (s.items.get i)) (fun e x'=>e = .ret∧x'.t4 ≥ 0∨e = .exit 0∧∀ i,i < s.items.n→(s.items.get i).gI.n≤64∧(s.items.get i).fO.n≤64∧Jw (s.items.get i)) s.items.n (by have:mm=1000000000000:=rfl; omega) (fun j y hj ⟨h1,h2,h3,h4,h5⟩=>?_) ⟨rfl,rfl,rfl,Nat.zero_le _,fun i h=>absurd h (Nat.not_lt_zero _)⟩
  obtain ⟨b,hb,ch⟩:=acj (y.s.get (Int.toNat y.t8)) ((y.aae.aR.n:Nat):Int)
  have e0:fK y=some b:=hb
  have w1:ak (y.t8+1)=y.t8+1:=bz (by omega) (by omega)
  unfold bG
  by_cases h:y.t8 < y.t7
  ·simp only [e0,w1,cond_true,Bool.and_self,Option.isSome_some,Option.getD_some,decide_eq_true h,decide_eq_true (show (0:Int)≤y.t8 by omega),decide_eq_true (show y.t8 < ((y.s.n:Nat):Int) by rw [h1]; omega)]
   cases b with
   | false=>exact .inr ⟨_,_,rfl,rfl,.inl ⟨rfl,by show y.t8 ≥ 0; omega⟩⟩
   | true=>
    refine .inl ⟨_,rfl,by omega,h1,h2,by show y.t8+1=_; omega,by omega,fun i hi=>?_⟩
    by_cases OU:i < j
    ·exact h5 i OU
    ·have e:i=j:=by omega
     subst e
     have:=ch rfl
     rw [h1,h3,Int.toNat_natCast] at this
     exact this
  ·simp only [cond_false,decide_eq_false h]
   exact .inr ⟨_,_,rfl,rfl,.inr ⟨rfl,fun i hi=>h5 i (by omega)⟩⟩
 rcases h with ⟨rfl,hp⟩ | ⟨rfl,o4⟩
 ·have b1:(eO s).by (.exit 0)=false:=by rw [hx]; rfl
  have b2:(eO s).by .ret=true:=by rw [hx]; rfl
  have b3:decide ((eO s).st.t4 ≥ (0:Int))=true:=by rw [hx]; exact decide_eq_true hp
  simp only [b1,b2,b3,cond_true,cond_false]
  exact no 8 (by decide)
 ·have b1:(eO s).by (.exit 0)=true:=by rw [hx]; rfl
  simp only [b1,cond_true]
  exact ⟨0,rfl,fun _=>⟨hn,o4⟩⟩
end Go.Proofs.Ytahhdndhkgbcjaa.b
end
section
namespace Go.Proofs.Ytahhdndhkgbcjaa.b
open Go.K
open Go.aG (aw)
theorem afF (s:Show) (c:aU):∃ e,iB s c=some e∧(e=0→Ez s∧Iy c):=by
 obtain ⟨e,h1,h2⟩:=Jx s
 obtain ⟨f,h3,h4⟩:=tN c
 have e0:rM s c=some e:=h1
 have e1:vm s c=some f:=h3
 unfold iB
 simp only [e0,e1,Option.isSome_some,Option.getD_some,cond_true]
 by_cases he:e=0
 ·subst he
  exact ⟨f,rfl,fun hf=>⟨h2 rfl,h4 hf⟩⟩
 ·have:(e != (0:Int))=true:=by simpa using he
  rw [this]
  exact ⟨e,rfl,fun h=>absurd h he⟩
end Go.Proofs.Ytahhdndhkgbcjaa.b
end
section
namespace Go.Proofs.Ytahhdndhkgbcjaa.b
open Go.K
open Go.aG (aw)
def eV {α:Type} (l:Sl α):List α:=(List.range l.n).map l.get
theorem UG {α:Type} [Inhabited α] (l:Sl α) (v:α):eV (l.push v)=eV l++[v]:=by
 unfold eV
 rw [Sl.Ex,List.range_succ,List.map_append]
 congr 1
 ·exact List.map_congr_left fun i hi=>Sl.acf (List.mem_range.1 hi)
 ·exact congrArg (fun a=>[a]) Sl.acg
theorem oI {α:Type} (l:Sl α):(eV l).length=l.n:=by simp [eV]
theorem UH {α:Type} (l:Sl α) (j:Nat) (h:j < l.n):(eV l).take (j+1)=(eV l).take j++[l.get j]:=by
 rw [List.take_add_one]
 congr 1
 unfold eV
 simp [h]
end Go.Proofs.Ytahhdndhkgbcjaa.b
end
section
namespace Go.Proofs.Ytahhdndhkgbcjaa.b
open Go.K
open Go.aG (aw)
def prt (s:Show) (c:aU) (i k:Nat):Sl bt:=(pf s c (i:Int) (k:Int)).getD default
def partAt (s:Show) (c:aU) (i k n:Nat):dq:=⟨(prt s c i k).get n,⟨(s.items.get i).look.Le,(i:Int),(k:Int),(n:Int),0,0⟩⟩
def ack (s:Show) (c:aU) (i k:Nat):List dq:=(List.range (prt s c i k).n).map (partAt s c i k)
def UI (s:Show) (c:aU) (i:Nat):List dq:=(List.range (s.items.get i).fO.n).flatMap (ack s c i)
def mT (s:Show) (c:aU):List dq:=(List.range s.items.n).flatMap (UI s c)
theorem VX {α:Type} (f:Nat→List α) (n:Nat):(List.range (n+1)).flatMap f=(List.range n).flatMap f++f n:=by
 rw [List.range_succ,List.flatMap_append]; simp
theorem ak8 (s:Show) (c:aU) (i k:Nat) (x:fP) (hi:x.i=(i:Int)) (hk:x.k=(k:Int)) (hr:x.t31=prt s c i k) (hb:x.x=s.items.get i) (hn:x.t31.n≤6) (h2:x.t32=(x.t31.n:Int)) (h3:x.t33=0) (hs:x.out.parts.n≤200000) :
  ∃ e y,goN gU x = .out e y∧(e = .exit 4∧y.i=x.i∧y.t14=x.t14∧y.t15=x.t15∧y.t16=x.t16∧y.t23=x.t23∧y.t24=x.t24∧y.s=x.s∧y.c=x.c∧y.t4=x.t4∧y.x=x.x∧y.out.cX=x.out.cX∧eV y.out.parts=eV x.out.parts++ack s c i k∧y.out.parts.n≤x.out.parts.n+6):=by
 refine dx (step:=gU) (fun j y=>(y.i=x.i∧y.t14=x.t14∧y.t15=x.t15∧y.t16=x.t16∧y.t23=x.t23∧y.t24=x.t24∧y.s=x.s∧y.c=x.c∧y.t4=x.t4∧y.x=x.x∧y.out.cX=x.out.cX)∧y.k=x.k∧y.t31=x.t31∧y.t32=(x.t31.n:Int)∧y.t33=(j:Int)∧j≤x.t31.n∧eV y.out.parts=eV x.out.parts++(List.range j).map (partAt s c i k)∧y.out.parts.n≤x.out.parts.n+j) (fun e y=>e = .exit 4∧y.i=x.i∧y.t14=x.t14∧y.t15=x.t15∧y.t16=x.t16∧y.t23=x.t23∧y.t24=x.t24∧y.s=x.s∧y.c=x.c∧y.t4=x.t4∧y.x=x.x∧y.out.cX=x.out.cX∧eV y.out.parts=eV x.out.parts++ack s c i k∧y.out.parts.n≤x.out.parts.n+6) x.t31.n (by have:mm=1000000000000:=rfl; omega) (fun j y hj ⟨hf,vO,h4,h5,h6,h7,h8,h9⟩=>?_) ⟨⟨rfl,rfl,rfl,rfl,rfl,rfl,rfl,rfl,rfl,rfl,rfl⟩,rfl,rfl,h2,h3,Nat.zero_le _,by simp,by omega⟩
 have w1:ak (y.t33+1)=y.t33+1:=bz (by omega) (by omega)
 have a1:eo 168 y.out.parts.n 1=true:=Iv (by omega) (by omega) (by omega) (.inl (by omega))
 obtain ⟨f1,f2,f3,f4,f5,f6,f7,f8,f9,f10,f11⟩:=hf
 unfold gU
 by_cases h:y.t33 < y.t32
 ·simp only [w1,a1,a9,cond_true,Bool.and_self,decide_eq_true h,decide_eq_true (show (0:Int)≤y.t33 by omega),decide_eq_true (show y.t33 < ((y.t31.n:Nat):Int) by rw [h4]; omega)]
  refine .inl ⟨_,rfl,by omega,⟨f1,f2,f3,f4,f5,f6,f7,f8,f9,f10,f11⟩,vO,h4,h5,by show y.t33+1=_; omega,by omega,?_,by simp only [Sl.Ex]; omega⟩
  show eV (Sl.push _ _)=_
  rw [UG,h8,List.range_succ,List.map_append,← List.append_assoc]
  have e1:(⟨(y.t31.get (Int.toNat y.t33)),(⟨y.x.look.Le,y.i,y.k,y.t33,(0:Int),(0:Int)⟩:aZ)⟩:dq)=partAt s c i k j:=by
   unfold partAt
   rw [h4,h6,Int.toNat_natCast,hr,f10,hb,f1,vO,hi,hk]
  rw [e1]
  rfl
 ·simp only [a9,cond_true,cond_false,decide_eq_false h]
  refine .inr ⟨_,_,rfl,rfl,rfl,f1,f2,f3,f4,f5,f6,f7,f8,f9,f10,f11,?_,by omega⟩
  rw [h8,show j=x.t31.n by omega,hr]
  rfl
theorem ako (s:Show) (c:aU) (n:Nat) (hn:n < s.items.n) (ch:Jw (s.items.get n)) (ht:(s.items.get n).fO.n≤64) (x:fB) (hs:x.s=s) (hc:x.c=c) (hx:x.x=s.items.get n) (hi:x.i=(n:Int)) (h2:x.t23=((s.items.get n).fO.n:Int)) (h3:x.t24=0) (fo:x.out.parts.n≤150000) :
  ∃ e y,goN ja x = .out e y∧(e = .exit 2∧y.t14=x.t14∧y.t15=x.t15∧y.t16=x.t16∧y.s=s∧y.c=c∧y.t4=x.t4∧y.out.cX=x.out.cX∧eV y.out.parts=eV x.out.parts++UI s c n∧y.out.parts.n≤x.out.parts.n+384):=by
 refine dx (step:=ja) (fun j y=>(y.i=x.i∧y.t14=x.t14∧y.t15=x.t15∧y.t16=x.t16∧y.t23=x.t23∧y.s=s∧y.c=c∧y.t4=x.t4∧y.x=x.x∧y.out.cX=x.out.cX)∧y.t24=(j:Int)∧j≤(s.items.get n).fO.n∧eV y.out.parts=eV x.out.parts++(List.range j).flatMap (ack s c n)∧y.out.parts.n≤x.out.parts.n+6 * j) (fun e y=>e = .exit 2∧y.t14=x.t14∧y.t15=x.t15∧y.t16=x.t16∧y.s=s∧y.c=c∧y.t4=x.t4∧y.out.cX=x.out.cX∧eV y.out.parts=eV x.out.parts++UI s c n∧y.out.parts.n≤x.out.parts.n+384) (s.items.get n).fO.n (by have:mm=1000000000000:=rfl; omega) (fun j y hj ⟨⟨f1,f2,f3,f4,f5,f6,f7,f8,f9,f10⟩,h4,h5,h6,h7⟩=>?_) ⟨⟨rfl,rfl,rfl,rfl,rfl,hs,hc,rfl,rfl,rfl⟩,h3,Nat.zero_le _,by simp,by omega⟩
 unfold ja
 by_cases h:y.t24 < y.t23
 ·obtain ⟨r,hr,hrn⟩:=afD s c n j hn (by omega) ch
  have e0:n8 y=some r:=by
   unfold n8
   rw [f6,f7,f1,hi,h4]
   exact hr
  have ep:prt s c n j=r:=by unfold prt; rw [hr]; rfl
  obtain ⟨e,z,hz,rfl,g1,g2,g3,g4,g5,g6,g7,g8,g9,g10,amZ,g11,g12⟩:∃ e z,cj y = .out e z∧(e = .exit 4∧z.i=y.i∧z.t14=y.t14∧z.t15=y.t15∧z.t16=y.t16∧z.t23=y.t23∧z.t24=y.t24∧z.s=y.s∧z.c=y.c∧z.t4=y.t4∧z.x=y.x∧z.out.cX=y.out.cX∧eV z.out.parts=eV y.out.parts++ack s c n j∧z.out.parts.n≤y.out.parts.n+6):=by
   unfold cj
   rw [e0]
   exact ak8 s c n j _ (by show y.i=_; rw [f1,hi]) h4 ep.symm (by show y.x=_; rw [f9,hx]) hrn rfl rfl (by show y.out.parts.n≤200000; omega)
  have b1:(cj y).by (.exit 4)=true:=by rw [hz]; rfl
  have b2:(cj y).st=z:=by rw [hz]; rfl
  have w1:ak (z.t24+1)=z.t24+1:=bz (by omega) (by omega)
  simp only [e0,b1,b2,w1,a9,cond_true,Option.isSome_some,decide_eq_true h]
  refine .inl ⟨_,rfl,by omega,⟨g1.trans f1,g2.trans f2,g3.trans f3,g4.trans f4,g5.trans f5,g7.trans f6,g8.trans f7,g9.trans f8,g10.trans f9,amZ.trans f10⟩,by show z.t24+1=_; omega,by omega,?_,by show z.out.parts.n≤_; omega⟩
  show eV z.out.parts=_
  rw [g11,h6,VX,List.append_assoc]
 ·simp only [a9,cond_true,cond_false,decide_eq_false h]
  refine .inr ⟨_,_,rfl,rfl,rfl,f2,f3,f4,f6,f7,f8,f10,?_,by omega⟩
  rw [h6,show j=(s.items.get n).fO.n by omega]
  rfl
theorem akp (s:Show) (c:aU) (hs:Ez s) (x:jo) (h14:x.t14=s.items) (h15:x.t15=(s.items.n:Int)) (h16:x.t16=0) (hxs:x.s=s) (hxc:x.c=c) (h0:x.out.parts.n=0) :
  ∃ e y,goN kJ x = .out e y∧(e = .exit 0∧y.out.cX=x.out.cX∧eV y.out.parts=mT s c∧y.out.parts.n≤98304):=by
 obtain ⟨hs1,kC⟩:=hs
 refine dx (step:=kJ) (fun j y=>y.t14=s.items∧y.t15=(s.items.n:Int)∧y.t16=(j:Int)∧y.s=s∧y.c=c∧y.out.cX=x.out.cX∧j≤s.items.n∧eV y.out.parts=(List.range j).flatMap (UI s c)∧y.out.parts.n≤384 * j) (fun e y=>e = .exit 0∧y.out.cX=x.out.cX∧eV y.out.parts=mT s c∧y.out.parts.n≤98304) s.items.n (by have:mm=1000000000000:=rfl; omega) (fun j y hj ⟨f1,f2,f3,f4,f5,f5',f6,f7,f8⟩=>?_) ⟨h14,h15,h16,hxs,hxc,rfl,Nat.zero_le _,by simp only [List.range_zero,List.flatMap_nil]; exact List.length_eq_zero_iff.1 (by rw [oI,h0]),by omega⟩
 unfold kJ
 by_cases h:y.t16 < y.t15
 ·have lX:j < s.items.n:=by omega
  obtain ⟨_,ht,ch⟩:=kC j lX
  have hg:y.t14.get (Int.toNat y.t16)=s.items.get j:=by rw [f1,f3,Int.toNat_natCast]
  obtain ⟨e,z,hz,rfl,g1,g2,g3,g4,g5,_,g6,g7,g8⟩:∃ e z,eD y = .out e z∧(e = .exit 2∧z.t14=y.t14∧z.t15=y.t15∧z.t16=y.t16∧z.s=s∧z.c=c∧z.t4=y.t4∧z.out.cX=y.out.cX∧eV z.out.parts=eV y.out.parts++UI s c j∧z.out.parts.n≤y.out.parts.n+384):=by
   unfold eD
   exact ako s c j lX ch ht _ f4 f5 hg f3 (by show (((y.t14.get (Int.toNat y.t16)).fO.n:Nat):Int)=_; rw [hg]) rfl (by show y.out.parts.n≤150000; omega)
  have b1:(eD y).by (.exit 2)=true:=by rw [hz]; rfl
  have b2:(eD y).st=z:=by rw [hz]; rfl
  have w1:ak (z.t16+1)=z.t16+1:=bz (by omega) (by omega)
  simp only [b1,b2,w1,a9,cond_true,Bool.and_self,decide_eq_true h,decide_eq_true (show (0:Int)≤y.t16 by omega),decide_eq_true (show y.t16 < ((y.t14.n:Nat):Int) by rw [f1]; omega)]
  refine .inl ⟨_,rfl,lX,g1.trans f1,g2.trans f2,by show z.t16+1=_; omega,g4,g5,g6.trans f5',by omega,?_,by show z.out.parts.n≤_; omega⟩
  show eV z.out.parts=_
  rw [g7,f7,VX]
 ·simp only [a9,cond_true,cond_false,decide_eq_false h]
  refine .inr ⟨_,_,rfl,rfl,rfl,f5',?_,by omega⟩
  rw [f7,show j=s.items.n by omega]
  rfl
theorem aiB (s:Show) (c:aU) (hs:Ez s):∃ r,ny s c=some r∧r.cX=s∧eV r.parts=mT s c∧r.parts.n≤98304:=by
 obtain ⟨e,y,hy,rfl,h0,h1,h2⟩:∃ e y,AX s c = .out e y∧(e = .exit 0∧y.out.cX=s∧eV y.out.parts=mT s c∧y.out.parts.n≤98304):=by
  unfold AX
  exact akp s c hs _ rfl rfl rfl rfl rfl rfl
 refine ⟨y.out,?_,h0,h1,h2⟩
 unfold ny
 rw [hy]
 rfl
end Go.Proofs.Ytahhdndhkgbcjaa.b
end
section
namespace Go.Proofs.Ytahhdndhkgbcjaa.b
open Go.K
set_option linter.unusedVariables false
set_option linter.unusedSimpArgs false
noncomputable section
def GG:List (Nat×(List KV→KR KV)):=[]
def GH:List Lp:=[]
theorem Pn:aq Try.prog GG:=aq.nil
theorem Po:aA Try.prog GH:=aA.nil
def nW (x:Int):Option (Bool):=
 (some ((x != x)))
theorem Se (x:Int):dn Try.prog (bp Try.prog GG GH (fun q=>Nat.beq q 47)) 9 9 71 [(kI .i64) x] = (nW x).map kB:=by
 unfold nW
 kernel_rfl
def Jy:List KV→KR KV:=cr Try.prog 71 (cD kB fun vs=>nW (intOf (vs.getD 0 .ax)))
theorem Pp (w:Nat→KV):cM Try.prog [3] w 0 = [(kI .i64) (intOf (ay Try.prog (ao Try.prog av) 3 (w 0)))]:=by kernel_rfl
theorem Pq:b9 Try.prog 71 Jy:=aX funcs mixed Pn Po (L:=9) (n:=9) fun w=>by
 have e:aK Try.prog 71 = [3]:=by kernel_rfl
 rw [e,Pp]
 exact (Se (intOf (ay Try.prog (ao Try.prog av) 3 (w 0)))).trans (by kernel_rfl)
def Dw:List (Nat×(List KV→KR KV)):=[(71,Jy)]
def Dx:List Lp:=[]
theorem Ls:aq Try.prog Dw:=(aq.cons Pq aq.nil)
theorem Lt:aA Try.prog Dx:=aA.nil
def wa (x:Int) (y:Int):(Option Bool):=(nW x)
def qY (x:Int) (y:Int):(Option Bool):=(nW y)
def eA (x:Int) (y:Int):Option (Int):=
 (cond ((wa x y).getD default)
 (cond ((qY x y).getD default)
 (some ((0:Int)))
 (some ((-(1:Int)))))
 (cond ((qY x y).getD default)
 (some ((1:Int)))
 (cond (decide (x < y))
 (some ((-(1:Int))))
 (cond (decide (x > y))
 (some ((1:Int)))
 (some ((0:Int)))))))
theorem MP (x:Int) (y:Int):dn Try.prog (bp Try.prog Dw Dx (fun q=>Nat.beq q 47)) 9 9 35 [(kI .i64) x,(kI .i64) y] = (eA x y).map (kI .i64):=by
 unfold eA
 try simp only [b7]
 kernel_rfl
def cc:List KV→KR KV:=cr Try.prog 35 (cD (kI .i64) fun vs=>eA (intOf (vs.getD 0 .ax)) (intOf (vs.getD 1 .ax)))
theorem Lu (w:Nat→KV):cM Try.prog [3,3] w 0 = [(kI .i64) (intOf (ay Try.prog (ao Try.prog av) 3 (w 0))),(kI .i64) (intOf (ay Try.prog (ao Try.prog av) 3 (w 1)))]:=by kernel_rfl
theorem bI:b9 Try.prog 35 cc:=aX funcs mixed Ls Lt (L:=9) (n:=9) fun w=>by
 have e:aK Try.prog 35 = [3,3]:=by kernel_rfl
 rw [e,Lu]
 exact (MP (intOf (ay Try.prog (ao Try.prog av) 3 (w 0))) (intOf (ay Try.prog (ao Try.prog av) 3 (w 1)))).trans (by kernel_rfl)
end
end Go.Proofs.Ytahhdndhkgbcjaa.b
end
section
namespace Go.Proofs.Ytahhdndhkgbcjaa.b
open Go.K
set_option linter.unusedVariables false
set_option linter.unusedSimpArgs false
noncomputable section
structure nA where
 data:(Sl aaf)
 a:Int
 m:Int
 b:Int
 held:Show
instance:Inhabited nA:=⟨⟨default,default,default,default,default⟩⟩
end
end Go.Proofs.Ytahhdndhkgbcjaa.b
end
section
namespace Go.Proofs.Ytahhdndhkgbcjaa.b
open Go.K
set_option linter.unusedVariables false
set_option linter.unusedSimpArgs false
noncomputable section
end
end Go.Proofs.Ytahhdndhkgbcjaa.b
end
section
namespace Go.Proofs.Ytahhdndhkgbcjaa.b
open Go.K
set_option linter.unusedVariables false
set_option linter.unusedSimpArgs false
noncomputable section
end
end Go.Proofs.Ytahhdndhkgbcjaa.b
end
