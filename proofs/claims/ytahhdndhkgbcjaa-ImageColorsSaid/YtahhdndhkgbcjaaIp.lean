/- Part of the proof of ImageColors: a machine that runs the program's code over open terms, shown to be the model's, and the plain models of its functions. No conditions. -/
import Derived.Test.YtahhdndhkgbcjaaHp
section
namespace Go.Proofs.Ytahhdndhkgbcjaa.b
open Go.K
set_option linter.unusedVariables false
set_option linter.unusedSimpArgs false
noncomputable section
def ZJ:List (Nat×(List KV→KR KV)):=[]
def ZK:List Lp:=[]
theorem ac4:ao Try.prog ZJ:=ao.nil
theorem ac5:az Try.prog ZK:=az.nil
def yh (n:Int):Option (Bool):=
 (cond (decide (n ≥ (-(32768:Int))))
 (some ((decide (n≤(32768:Int)))))
 (some (false)))
theorem ae6 (n:Int):dp Try.prog (bu Try.prog ZJ ZK (fun _=>false)) 9 9 125 [(kI .i64) n] = (yh n).map kB:=by
 unfold yh
 try simp only [ch]
 kernel_rfl
def Ma:List KV→KR KV:=cA Try.prog 125 (cF kB fun vs=>yh (intOf (vs.getD 0 .aw)))
theorem ac6 (w:Nat→KV):cM Try.prog [3] w 0 = [(kI .i64) (intOf (ay Try.prog (ak Try.prog au) 3 (w 0)))]:=by kernel_rfl
theorem Ia:ca Try.prog 125 Ma:=aY funcs mixed ac4 ac5 (L:=9) (n:=9) fun w=>by
 have e:aJ Try.prog 125 = [3]:=by kernel_rfl
 rw [e,ac6]
 exact (ae6 (intOf (ay Try.prog (ak Try.prog au) 3 (w 0)))).trans (by kernel_rfl)
structure ua where
 low:eE
 high:eE
instance:Inhabited ua:=⟨⟨default,default⟩⟩
def ajP (x:ua):List KV:=[.int .i64 x.low.x,.int .i64 x.low.y,.int .i64 x.low.z,.int .i64 x.high.x,.int .i64 x.high.y,.int .i64 x.high.z]
def zC (x:ua):KV:=.agg (ajP x)
def ajQ (c:Nat→KV):ua:=⟨⟨intOf (c 0),intOf (c 1),intOf (c 2)⟩,⟨intOf (c 3),intOf (c 4),intOf (c 5)⟩⟩
def Rw (v:KV):ua:=ajQ fun k=>v.cells.getD k .aw
structure Span where
 low:Int
 high:Int
instance:Inhabited Span:=⟨⟨default,default⟩⟩
structure zb where
 e0:Span
 e1:Span
 e2:Span
instance:Inhabited zb:=⟨⟨default,default,default⟩⟩
def ah2 (x:zb):List KV:=[.int .i64 x.e0.low,.int .i64 x.e0.high,.int .i64 x.e1.low,.int .i64 x.e1.high,.int .i64 x.e2.low,.int .i64 x.e2.high]
def Mb (x:zb):KV:=.agg (ah2 x)
def ah3 (c:Nat→KV):zb:=⟨⟨intOf (c 0),intOf (c 1)⟩,⟨intOf (c 2),intOf (c 3)⟩,⟨intOf (c 4),intOf (c 5)⟩⟩
def TW (v:KV):zb:=ah3 fun k=>v.cells.getD k .aw
def Nv:List (Nat×(List KV→KR KV)):=[]
def Nw:List Lp:=[]
theorem Wi:ao Try.prog Nv:=ao.nil
theorem Wj:az Try.prog Nw:=az.nil
def Ib (b:ua):Option (zb):=
 (some ((⟨(⟨b.low.x,b.high.x⟩:Span),(⟨b.low.y,b.high.y⟩:Span),(⟨b.low.z,b.high.z⟩:Span)⟩:zb)))
theorem ZL (b:ua):dp Try.prog (bu Try.prog Nv Nw (fun _=>false)) 9 9 136 [zC b] = (Ib b).map Mb:=by
 unfold Ib
 kernel_rfl
def Rx:List KV→KR KV:=cA Try.prog 136 (cF Mb fun vs=>Ib (Rw (vs.getD 0 .aw)))
theorem Wk (w:Nat→KV):cM Try.prog [43] w 0 = [zC (Rw (ay Try.prog (ak Try.prog au) 43 (w 0)))]:=by kernel_rfl
theorem Wl:ca Try.prog 136 Rx:=aY funcs mixed Wi Wj (L:=9) (n:=9) fun w=>by
 have e:aJ Try.prog 136 = [43]:=by kernel_rfl
 rw [e,Wk]
 exact (ZL (Rw (ay Try.prog (ak Try.prog au) 43 (w 0)))).trans (by kernel_rfl)
def Nx:List (Nat×(List KV→KR KV)):=[]
def Ny:List Lp:=[]
theorem Wm:ao Try.prog Nx:=ao.nil
theorem Wn:az Try.prog Ny:=az.nil
def Ic (s:zb):Option (ua):=
 (some ((⟨(⟨s.e0.low,s.e1.low,s.e2.low⟩:eE),(⟨s.e0.high,s.e1.high,s.e2.high⟩:eE)⟩:ua)))
theorem ZM (s:zb):dp Try.prog (bu Try.prog Nx Ny (fun _=>false)) 9 9 137 [Mb s] = (Ic s).map zC:=by
 unfold Ic
 kernel_rfl
def Ry:List KV→KR KV:=cA Try.prog 137 (cF zC fun vs=>Ic (TW (vs.getD 0 .aw)))
theorem Wo (w:Nat→KV):cM Try.prog [217] w 0 = [Mb (TW (ay Try.prog (ak Try.prog au) 217 (w 0)))]:=by kernel_rfl
theorem Wp:ca Try.prog 137 Ry:=aY funcs mixed Wm Wn (L:=9) (n:=9) fun w=>by
 have e:aJ Try.prog 137 = [217]:=by kernel_rfl
 rw [e,Wo]
 exact (ZM (TW (ay Try.prog (ak Try.prog au) 217 (w 0)))).trans (by kernel_rfl)
def Rz:List (Nat×(List KV→KR KV)):=[(137,Ry),(136,Rx)]
def RA:List Lp:=[]
theorem ZN:ao Try.prog Rz:=(ao.cons Wp (ao.cons Wl ao.nil))
theorem ZO:az Try.prog RA:=az.nil
def KY (a:ua) (b:ua):Option (ua):=
 (some ((⟨(⟨(min a.low.x b.low.x),(min a.low.y b.low.y),(min a.low.z b.low.z)⟩:eE),(⟨(max a.high.x b.high.x),(max a.high.y b.high.y),(max a.high.z b.high.z)⟩:eE)⟩:ua)))
theorem aaZ (a:ua) (b:ua):dp Try.prog (bu Try.prog Rz RA (fun _=>false)) 9 9 126 [zC a,zC b] = (KY a b).map zC:=by
 unfold KY
 kernel_rfl
def Et:List KV→KR KV:=cA Try.prog 126 (cF zC fun vs=>KY (Rw (vs.getD 0 .aw)) (Rw (vs.getD 1 .aw)))
theorem ZP (w:Nat→KV):cM Try.prog [43,43] w 0 = [zC (Rw (ay Try.prog (ak Try.prog au) 43 (w 0))),zC (Rw (ay Try.prog (ak Try.prog au) 43 (w 1)))]:=by kernel_rfl
theorem Ds:ca Try.prog 126 Et:=aY funcs mixed ZN ZO (L:=9) (n:=9) fun w=>by
 have e:aJ Try.prog 126 = [43,43]:=by kernel_rfl
 rw [e,ZP]
 exact (aaZ (Rw (ay Try.prog (ak Try.prog au) 43 (w 0))) (Rw (ay Try.prog (ak Try.prog au) 43 (w 1)))).trans (by kernel_rfl)
structure ib where
 l:(Sl eE)
 e:Int
 t17:(Sl eE)
 t18:Int
 t19:Int
 b:ua
instance:Inhabited ib:=⟨⟨default,default,default,default,default,default⟩⟩
def AP (x:ib):List KV:=[jf 41 wM x.l,.int .i64 x.e,jf 41 wM x.t17,.int .i64 x.t18,.int .i64 x.t19]
def AQ (x:ib):List (List KV):=[ajP x.b]
def Nz (vs:List KV) (rs:List (List KV)):ib:=⟨iQ yb (vs.getD 0 .aw),intOf (vs.getD 1 .aw),iQ yb (vs.getD 2 .aw),intOf (vs.getD 3 .aw),intOf (vs.getD 4 .aw),ajQ (fun k=>(rs.getD 0 []).getD k .aw)⟩
def RB:aQ:=⟨[(0,⟨false,[.k (.slice 41)]⟩),(3,⟨false,[.k (.int .i64)]⟩),(17,⟨false,[.k (.slice 41)]⟩),(18,⟨false,[.k (.int .i64)]⟩),(19,⟨false,[.k (.int .i64)]⟩)],[(2,[.k (.int .i64),.k (.int .i64),.k (.int .i64),.k (.int .i64),.k (.int .i64),.k (.int .i64)],1)],[(2,0,0)]⟩
def aa0:=jk Try.prog (bu Try.prog [(126,Et),(125,Ma)] [] (fun _=>false)) 9 9 109 58 (fh Try.prog 109 58) RB
def zc (x:ib):(Option Bool):=(yh (x.t17.get (Int.toNat x.t19)).x)
def zd (x:ib):(Option Bool):=(yh (x.t17.get (Int.toNat x.t19)).y)
def ze (x:ib):(Option Bool):=(yh (x.t17.get (Int.toNat x.t19)).z)
def n5 (x:ib):aI ib:=
 (cond (decide (x.t19 < x.t18))
 (cond ((decide ((0:Int)≤x.t19))&&(decide (x.t19 < ((x.t17.n:Nat):Int))))
 (cond (zc x).isSome
 (cond (!((zc x).getD default))
 (.out aE.aq.ret (⟨x.l,(20:Int),x.t17,x.t18,x.t19,(⟨(⟨(0:Int),(0:Int),(0:Int)⟩:eE),(⟨(0:Int),(0:Int),(0:Int)⟩:eE)⟩:ua)⟩:ib))
 (cond (zd x).isSome
 (cond (!((zd x).getD default))
 (.out aE.aq.ret (⟨x.l,(20:Int),x.t17,x.t18,x.t19,(⟨(⟨(0:Int),(0:Int),(0:Int)⟩:eE),(⟨(0:Int),(0:Int),(0:Int)⟩:eE)⟩:ua)⟩:ib))
 (cond (ze x).isSome
 (cond (!((ze x).getD default))
 (.out aE.aq.ret (⟨x.l,(20:Int),x.t17,x.t18,x.t19,(⟨(⟨(0:Int),(0:Int),(0:Int)⟩:eE),(⟨(0:Int),(0:Int),(0:Int)⟩:eE)⟩:ua)⟩:ib))
 (.next (⟨x.l,x.e,x.t17,x.t18,(aj (x.t19+(1:Int))),x.b⟩:ib)))
 .fail))
 .fail))
 .fail)
 .fail)
 (.out (aE.aq.exit 0) x))
theorem Wq (x:ib):aa0 (AP x) (AQ x)=aI.enc AP AQ (n5 x):=by
 unfold n5
 try simp only [aI.dn]
 kernel_rfl
def zf:Lp:=⟨109,58,RB,fun vs rs=>dL AP AQ (goN n5 (Nz vs rs)) [aE.aq.exit 0,aE.aq.ret],false⟩
theorem NA:zf.Ok Try.prog:=eM funcs mixed (ao.cons Ds (ao.cons Ia ao.nil)) az.nil (L:=9) (n:=9) (step:=n5) (ev:=AP) (er:=AQ) (pa:=Nz) rfl (fun wv wr=>⟨by kernel_rfl,by kernel_rfl⟩) Wq
theorem Gu:cC Try.prog zf.f zf.p=true:=by kernel_rfl
structure kW where
 t49:(Sl eE)
 t50:Int
 t51:Int
 b:ua
instance:Inhabited kW:=⟨⟨default,default,default,default⟩⟩
def zg (x:kW):List KV:=[jf 41 wM x.t49,.int .i64 x.t50,.int .i64 x.t51]
def zh (x:kW):List (List KV):=[ajP x.b]
def KZ (vs:List KV) (rs:List (List KV)):kW:=⟨iQ yb (vs.getD 0 .aw),intOf (vs.getD 1 .aw),intOf (vs.getD 2 .aw),ajQ (fun k=>(rs.getD 0 []).getD k .aw)⟩
def NB:aQ:=⟨[(49,⟨false,[.k (.slice 41)]⟩),(50,⟨false,[.k (.int .i64)]⟩),(51,⟨false,[.k (.int .i64)]⟩)],[(2,[.k (.int .i64),.k (.int .i64),.k (.int .i64),.k (.int .i64),.k (.int .i64),.k (.int .i64)],1)],[(2,0,0)]⟩
def ZQ:=jk Try.prog (bu Try.prog [(126,Et),(125,Ma)] [zf] (fun _=>false)) 9 9 109 250 (fh Try.prog 109 250) NB
def lP (x:kW):aI kW:=
 (cond (decide (x.t51 < x.t50))
 (cond ((decide ((0:Int)≤x.t51))&&(decide (x.t51 < ((x.t49.n:Nat):Int))))
 (.next (⟨x.t49,x.t50,(aj (x.t51+(1:Int))),(⟨(⟨(min x.b.low.x (x.t49.get (Int.toNat x.t51)).x),(min x.b.low.y (x.t49.get (Int.toNat x.t51)).y),(min x.b.low.z (x.t49.get (Int.toNat x.t51)).z)⟩:eE),(⟨(max x.b.high.x (x.t49.get (Int.toNat x.t51)).x),(max x.b.high.y (x.t49.get (Int.toNat x.t51)).y),(max x.b.high.z (x.t49.get (Int.toNat x.t51)).z)⟩:eE)⟩:ua)⟩:kW))
 .fail)
 (.out (aE.aq.exit 2) x))
theorem TX (x:kW):ZQ (zg x) (zh x)=aI.enc zg zh (lP x):=by
 unfold lP
 try simp only [aI.dn]
 kernel_rfl
def AU:Lp:=⟨109,250,NB,fun vs rs=>dL zg zh (goN lP (KZ vs rs)) [aE.aq.exit 2],false⟩
theorem ZR:AU.Ok Try.prog:=eM funcs mixed (ao.cons Ds (ao.cons Ia ao.nil)) (az.cons NA Gu az.nil) (L:=9) (n:=9) (step:=lP) (ev:=zg) (er:=zh) (pa:=KZ) rfl (fun wv wr=>⟨by kernel_rfl,by kernel_rfl⟩) TX
theorem RC:cC Try.prog AU.f AU.p=true:=by kernel_rfl
def ZS:List (Nat×(List KV→KR KV)):=[(126,Et),(125,Ma)]
def ZT:List Lp:=[zf,AU]
theorem ac7:ao Try.prog ZS:=(ao.cons Ds (ao.cons Ia ao.nil))
theorem ac8:az Try.prog ZT:=(az.cons NA Gu (az.cons ZR RC az.nil))
def gA (l:(Sl eE)):(aI ib):=(goN n5 (⟨l,(0:Int),l,((l.n:Nat):Int),(0:Int),(⟨(⟨(0:Int),(0:Int),(0:Int)⟩:eE),(⟨(0:Int),(0:Int),(0:Int)⟩:eE)⟩:ua)⟩:ib))
def Bh (l:(Sl eE)):(aI kW):=(goN lP (⟨(⟨((Int.toNat (((gA l).st.l.n:Nat):Int)) - 1),(fun i=>((gA l).st.l.get (1+i)))⟩:Sl _),((((Int.toNat (((gA l).st.l.n:Nat):Int)) - 1):Nat):Int),(0:Int),(⟨((gA l).st.l.get 0),((gA l).st.l.get 0)⟩:ua)⟩:kW))
def CL (l:(Sl eE)):Option (ua×Int):=
 (cond (((l.n:Nat):Int)==(0:Int))
 (some ((⟨(⟨(0:Int),(0:Int),(0:Int)⟩:eE),(⟨(0:Int),(0:Int),(0:Int)⟩:eE)⟩:ua),(4:Int)))
 (cond (decide (((l.n:Nat):Int) > (4096:Int)))
 (some ((⟨(⟨(0:Int),(0:Int),(0:Int)⟩:eE),(⟨(0:Int),(0:Int),(0:Int)⟩:eE)⟩:ua),(4:Int)))
 (cond ((gA l).by (aE.aq.exit 0))
 (cond (decide ((0:Int) < (((gA l).st.l.n:Nat):Int)))
 (cond (decide ((0:Int) < (((gA l).st.l.n:Nat):Int)))
 (cond ((decide ((1:Int)≤(((gA l).st.l.n:Nat):Int)))&&(decide ((((gA l).st.l.n:Nat):Int)≤(((gA l).st.l.n:Nat):Int))))
 (cond ((Bh l).by (aE.aq.exit 2))
 (some ((Bh l).st.b,(0:Int)))
 none)
 none)
 none)
 none)
 (cond ((gA l).by aE.aq.ret)
 (some ((gA l).st.b,(gA l).st.e))
 none))))
theorem ae7 (l:(Sl eE)):dp Try.prog (bu Try.prog ZS ZT (fun _=>false)) 9 9 109 [(jf 41 wM) l] = (CL l).map (fun (r:ua×Int)=>KV.jI [zC r.1,(kI .i64) r.2]):=by
 unfold CL
 try simp only [ch]
 kernel_rfl
def Mc:List KV→KR KV:=cA Try.prog 109 (cF (fun (r:ua×Int)=>KV.jI [zC r.1,(kI .i64) r.2]) fun vs=>CL ((iQ yb) (vs.getD 0 .aw)))
theorem ac9 (w:Nat→KV):cM Try.prog [33] w 0 = [(jf 41 wM) ((iQ yb) (ay Try.prog (ak Try.prog au) 33 (w 0)))]:=by kernel_rfl
theorem Ie:ca Try.prog 109 Mc:=aY funcs mixed ac7 ac8 (L:=9) (n:=9) fun w=>by
 have e:aJ Try.prog 109 = [33]:=by kernel_rfl
 rw [e,ac9]
 exact (ae7 ((iQ yb) (ay Try.prog (ak Try.prog au) 33 (w 0)))).trans (by kernel_rfl)
def Gv:List (Nat×(List KV→KR KV)):=[]
def Gw:List Lp:=[]
theorem O2:ao Try.prog Gv:=ao.nil
theorem O3:az Try.prog Gw:=az.nil
def lq (n:Int):Option (Bool):=
 (cond (decide (n > (0:Int)))
 (some ((decide (n≤(16:Int)))))
 (some (false)))
theorem RD (n:Int):dp Try.prog (bu Try.prog Gv Gw (fun _=>false)) 9 9 106 [(kI .i64) n] = (lq n).map kB:=by
 unfold lq
 try simp only [ch]
 kernel_rfl
def I8:List KV→KR KV:=cA Try.prog 106 (cF kB fun vs=>lq (intOf (vs.getD 0 .aw)))
theorem O4 (w:Nat→KV):cM Try.prog [3] w 0 = [(kI .i64) (intOf (ay Try.prog (ak Try.prog au) 3 (w 0)))]:=by kernel_rfl
theorem O5:ca Try.prog 106 I8:=aY funcs mixed O2 O3 (L:=9) (n:=9) fun w=>by
 have e:aJ Try.prog 106 = [3]:=by kernel_rfl
 rw [e,O4]
 exact (RD (intOf (ay Try.prog (ak Try.prog au) 3 (w 0)))).trans (by kernel_rfl)
structure Color where
 e0:Int
 e1:Int
 e2:Int
 e3:Int
instance:Inhabited Color:=⟨⟨default,default,default,default⟩⟩
def Ig (x:Color):List KV:=[.int .u8 x.e0,.int .u8 x.e1,.int .u8 x.e2,.int .u8 x.e3]
def ic (x:Color):KV:=.agg (Ig x)
def Ih (c:Nat→KV):Color:=⟨intOf (c 0),intOf (c 1),intOf (c 2),intOf (c 3)⟩
def nR (v:KV):Color:=Ih fun k=>v.cells.getD k .aw
structure eC where
 w:Int
 h:Int
 Eu:(Sl Color)
instance:Inhabited eC:=⟨⟨default,default,default⟩⟩
def ah4 (x:eC):List KV:=[.int .i64 x.w,.int .i64 x.h,jf 37 ic x.Eu]
def nS (x:eC):KV:=.agg (ah4 x)
def ah5 (c:Nat→KV):eC:=⟨intOf (c 0),intOf (c 1),iQ nR (c 2)⟩
def kk (v:KV):eC:=ah5 fun k=>v.cells.getD k .aw
def Ew:List (Nat×(List KV→KR KV)):=[(106,I8)]
def Ex:List Lp:=[]
theorem MC:ao Try.prog Ew:=(ao.cons O5 ao.nil)
theorem MD:az Try.prog Ex:=az.nil
def su (t:eC):(Option Bool):=(lq t.w)
def sv (t:eC):(Option Bool):=(lq t.h)
def gb (t:eC):Option (Int):=
 (cond (su t).isSome
 (cond (!((su t).getD default))
 (some ((8:Int)))
 (cond (sv t).isSome
 (cond (!((sv t).getD default))
 (some ((8:Int)))
 (cond (((t.Eu.n:Nat):Int) != (aj (t.w * t.h)))
 (some ((8:Int)))
 (some ((0:Int)))))
 none))
 none)
theorem O6 (t:eC):dp Try.prog (bu Try.prog Ew Ex (fun _=>false)) 9 9 78 [nS t] = (gb t).map (kI .i64):=by
 unfold gb
 try simp only [ch]
 kernel_rfl
def vt:List KV→KR KV:=cA Try.prog 78 (cF (kI .i64) fun vs=>gb (kk (vs.getD 0 .aw)))
theorem MF (w:Nat→KV):cM Try.prog [108] w 0 = [nS (kk (ay Try.prog (ak Try.prog au) 108 (w 0)))]:=by kernel_rfl
theorem wi:ca Try.prog 78 vt:=aY funcs mixed MC MD (L:=9) (n:=9) fun w=>by
 have e:aJ Try.prog 78 = [108]:=by kernel_rfl
 rw [e,MF]
 exact (O6 (kk (ay Try.prog (ak Try.prog au) 108 (w 0)))).trans (by kernel_rfl)
structure eI where
 t2:Int
 t9:(Sl eC)
 t10:Int
 t11:Int
instance:Inhabited eI:=⟨⟨default,default,default,default⟩⟩
def pz (x:eI):List KV:=[.int .i64 x.t2,jf 108 nS x.t9,.int .i64 x.t10,.int .i64 x.t11]
def pA (x:eI):List (List KV):=[]
def zG (vs:List KV) (rs:List (List KV)):eI:=⟨intOf (vs.getD 0 .aw),iQ kk (vs.getD 1 .aw),intOf (vs.getD 2 .aw),intOf (vs.getD 3 .aw)⟩
def Bi:aQ:=⟨[(2,⟨false,[.k (.int .i64)]⟩),(9,⟨false,[.k (.slice 108)]⟩),(10,⟨false,[.k (.int .i64)]⟩),(11,⟨false,[.k (.int .i64)]⟩)],[],[]⟩
def Jy:=jk Try.prog (bu Try.prog [(78,vt)] [] (fun _=>false)) 9 9 45 58 (fh Try.prog 45 58) Bi
def kl (x:eI):(Option Int):=(gb (x.t9.get (Int.toNat x.t11)))
def fB (x:eI):aI eI:=
 (cond (decide (x.t11 < x.t10))
 (cond ((decide ((0:Int)≤x.t11))&&(decide (x.t11 < ((x.t9.n:Nat):Int))))
 (cond (kl x).isSome
 (cond (((kl x).getD default) != (0:Int))
 (.out aE.aq.ret (⟨((kl x).getD default),x.t9,x.t10,x.t11⟩:eI))
 (.next (⟨x.t2,x.t9,x.t10,(aj (x.t11+(1:Int)))⟩:eI)))
 .fail)
 .fail)
 (.out (aE.aq.exit 0) x))
theorem Gx (x:eI):Jy (pz x) (pA x)=aI.enc pz pA (fB x):=by
 unfold fB
 try simp only [aI.dn]
 kernel_rfl
def qh:Lp:=⟨45,58,Bi,fun vs rs=>dL pz pA (goN fB (zG vs rs)) [aE.aq.exit 0,aE.aq.ret],false⟩
theorem Jz:qh.Ok Try.prog:=eM funcs mixed (ao.cons wi ao.nil) az.nil (L:=9) (n:=9) (step:=fB) (ev:=pz) (er:=pA) (pa:=zG) rfl (fun wv wr=>⟨by kernel_rfl,by kernel_rfl⟩) Gx
theorem Fj:cC Try.prog qh.f qh.p=true:=by kernel_rfl
def Dt:List (Nat×(List KV→KR KV)):=[(78,vt)]
def Du:List Lp:=[qh]
theorem K0:ao Try.prog Dt:=(ao.cons wi ao.nil)
theorem K1:az Try.prog Du:=(az.cons Jz Fj az.nil)
def eF (l:(Sl eC)):(aI eI):=(goN fB (⟨(0:Int),l,((l.n:Nat):Int),(0:Int)⟩:eI))
def gh (l:(Sl eC)):Option (Int):=
 (cond (decide (((l.n:Nat):Int) > (16:Int)))
 (some ((4:Int)))
 (cond ((eF l).by (aE.aq.exit 0))
 (some ((0:Int)))
 (cond ((eF l).by aE.aq.ret)
 (some ((eF l).st.t2))
 none)))
theorem MG (l:(Sl eC)):dp Try.prog (bu Try.prog Dt Du (fun _=>false)) 9 9 45 [(jf 108 nS) l] = (gh l).map (kI .i64):=by
 unfold gh
 try simp only [ch]
 kernel_rfl
def tJ:List KV→KR KV:=cA Try.prog 45 (cF (kI .i64) fun vs=>gh ((iQ kk) (vs.getD 0 .aw)))
theorem K2 (w:Nat→KV):cM Try.prog [23] w 0 = [(jf 108 nS) ((iQ kk) (ay Try.prog (ak Try.prog au) 23 (w 0)))]:=by kernel_rfl
theorem uJ:ca Try.prog 45 tJ:=aY funcs mixed K0 K1 (L:=9) (n:=9) fun w=>by
 have e:aJ Try.prog 45 = [23]:=by kernel_rfl
 rw [e,K2]
 exact (MG ((iQ kk) (ay Try.prog (ak Try.prog au) 23 (w 0)))).trans (by kernel_rfl)
structure uK where
 color:Color
 oe:Int
 yS:Int
 K3:Int
 Ii:Bool
 bin:Int
instance:Inhabited uK:=⟨⟨default,default,default,default,default,default⟩⟩
def alI (x:uK):List KV:=[.int .u8 x.color.e0,.int .u8 x.color.e1,.int .u8 x.color.e2,.int .u8 x.color.e3,.int .i64 x.oe,.int .u8 x.yS,.int .i64 x.K3,.bool x.Ii,.int .i64 x.bin]
def ada (x:uK):KV:=.agg (alI x)
def alJ (c:Nat→KV):uK:=⟨⟨intOf (c 0),intOf (c 1),intOf (c 2),intOf (c 3)⟩,intOf (c 4),intOf (c 5),intOf (c 6),nP (c 7),intOf (c 8)⟩
def TY (v:KV):uK:=alJ fun k=>v.cells.getD k .aw
def B7:List (Nat×(List KV→KR KV)):=[]
def B8:List Lp:=[]
theorem JA:ao Try.prog B7:=ao.nil
theorem JB:az Try.prog B8:=az.nil
def fJ (l:uK) (aK:Int):Option (Int):=
 (cond (decide (aK < (0:Int)))
 (some ((2:Int)))
 (cond (decide (aK > (16:Int)))
 (some ((2:Int)))
 (cond (decide (l.oe < (-(1:Int))))
 (some ((8:Int)))
 (cond (decide (l.oe ≥ aK))
 (some ((8:Int)))
 (cond (decide (l.yS > (2:Int)))
 (some ((8:Int)))
 (cond (decide (l.K3 < (-(1024:Int))))
 (some ((8:Int)))
 (cond (decide (l.K3 > (1024:Int)))
 (some ((8:Int)))
 (cond (decide (l.bin < (0:Int)))
 (some ((8:Int)))
 (cond (decide (l.bin > (15:Int)))
 (some ((8:Int)))
 (some ((0:Int))))))))))))
theorem K4 (l:uK) (aK:Int):dp Try.prog (bu Try.prog B7 B8 (fun _=>false)) 9 9 46 [ada l,(kI .i64) aK] = (fJ l aK).map (kI .i64):=by
 unfold fJ
 try simp only [ch]
 kernel_rfl
def pd:List KV→KR KV:=cA Try.prog 46 (cF (kI .i64) fun vs=>fJ (TY (vs.getD 0 .aw)) (intOf (vs.getD 1 .aw)))
theorem JC (w:Nat→KV):cM Try.prog [39,3] w 0 = [ada (TY (ay Try.prog (ak Try.prog au) 39 (w 0))),(kI .i64) (intOf (ay Try.prog (ak Try.prog au) 3 (w 1)))]:=by kernel_rfl
theorem pB:ca Try.prog 46 pd:=aY funcs mixed JA JB (L:=9) (n:=9) fun w=>by
 have e:aJ Try.prog 46 = [39,3]:=by kernel_rfl
 rw [e,JC]
 exact (K4 (TY (ay Try.prog (ak Try.prog au) 39 (w 0))) (intOf (ay Try.prog (ak Try.prog au) 3 (w 1)))).trans (by kernel_rfl)
structure xe where
 e0:Int
 e1:Int
instance:Inhabited xe:=⟨⟨default,default⟩⟩
def ajR (x:xe):List KV:=[.int .i64 x.e0,.int .i64 x.e1]
def ajS (x:xe):KV:=.agg (ajR x)
def ajT (c:Nat→KV):xe:=⟨intOf (c 0),intOf (c 1)⟩
def ajU (v:KV):xe:=ajT fun k=>v.cells.getD k .aw
structure Item where
 gF:(Sl eE)
 uV:(Sl xe)
 fQ:(Sl fj)
 look:uK
 box:ua
instance:Inhabited Item:=⟨⟨default,default,default,default,default⟩⟩
def TZ (x:Item):List KV:=[jf 41 wM x.gF,jf 176 ajS x.uV,jf 50 sV x.fQ,.int .u8 x.look.color.e0,.int .u8 x.look.color.e1,.int .u8 x.look.color.e2,.int .u8 x.look.color.e3,.int .i64 x.look.oe,.int .u8 x.look.yS,.int .i64 x.look.K3,.bool x.look.Ii,.int .i64 x.look.bin,.int .i64 x.box.low.x,.int .i64 x.box.low.y,.int .i64 x.box.low.z,.int .i64 x.box.high.x,.int .i64 x.box.high.y,.int .i64 x.box.high.z]
def K5 (x:Item):KV:=.agg (TZ x)
def T9 (c:Nat→KV):Item:=⟨iQ yb (c 0),iQ ajU (c 1),iQ Bf (c 2),⟨⟨intOf (c 3),intOf (c 4),intOf (c 5),intOf (c 6)⟩,intOf (c 7),intOf (c 8),intOf (c 9),nP (c 10),intOf (c 11)⟩,⟨⟨intOf (c 12),intOf (c 13),intOf (c 14)⟩,⟨intOf (c 15),intOf (c 16),intOf (c 17)⟩⟩⟩
def Ij (v:KV):Item:=T9 fun k=>v.cells.getD k .aw
structure fC where
 t4:Bool
 n:Int
 t38:(Sl eE)
 t39:Int
 t40:Int
 x:Item
instance:Inhabited fC:=⟨⟨default,default,default,default,default,default⟩⟩
def tK (x:fC):List KV:=[.bool x.t4,.int .i64 x.n,jf 41 wM x.t38,.int .i64 x.t39,.int .i64 x.t40]
def tL (x:fC):List (List KV):=[TZ x.x]
def Ey (vs:List KV) (rs:List (List KV)):fC:=⟨nP (vs.getD 0 .aw),intOf (vs.getD 1 .aw),iQ yb (vs.getD 2 .aw),intOf (vs.getD 3 .aw),intOf (vs.getD 4 .aw),T9 (fun k=>(rs.getD 0 []).getD k .aw)⟩
def Gy:aQ:=⟨[(4,⟨false,[.k .bool]⟩),(5,⟨false,[.k (.int .i64)]⟩),(38,⟨false,[.k (.slice 41)]⟩),(39,⟨false,[.k (.int .i64)]⟩),(40,⟨false,[.k (.int .i64)]⟩)],[(2,[.k (.slice 41),.k (.slice 176),.k (.slice 50),.k (.int .u8),.k (.int .u8),.k (.int .u8),.k (.int .u8),.k (.int .i64),.k (.int .u8),.k (.int .i64),.k .bool,.k (.int .i64),.k (.int .i64),.k (.int .i64),.k (.int .i64),.k (.int .i64),.k (.int .i64),.k (.int .i64)],1)],[(2,0,0)]⟩
def RE:=jk Try.prog (bu Try.prog [(109,Mc),(108,vh),(46,pd)] [] (fun _=>false)) 9 9 81 122 (fh Try.prog 81 122) Gy
def sA (x:fC):(Option Int):=(oy (x.t38.get (Int.toNat x.t40)))
def kG (x:fC):aI fC:=
 (cond (decide (x.t40 < x.t39))
 (cond ((decide ((0:Int)≤x.t40))&&(decide (x.t40 < ((x.t38.n:Nat):Int))))
 (cond (sA x).isSome
 (cond (((sA x).getD default) != (0:Int))
 (.out aE.aq.ret (⟨false,x.n,x.t38,x.t39,x.t40,x.x⟩:fC))
 (cond ((decide ((0:Int)≤x.t40))&&(decide (x.t40 < ((x.x.uV.n:Nat):Int))))
 (cond ((decide ((0:Int)≤x.t40))&&(decide (x.t40 < ((x.x.uV.n:Nat):Int))))
 (cond (decide ((min (x.x.uV.get (Int.toNat x.t40)).e0 (x.x.uV.get (Int.toNat x.t40)).e1) < (0:Int)))
 (.out aE.aq.ret (⟨false,x.n,x.t38,x.t39,x.t40,x.x⟩:fC))
 (cond ((decide ((0:Int)≤x.t40))&&(decide (x.t40 < ((x.x.uV.n:Nat):Int))))
 (cond ((decide ((0:Int)≤x.t40))&&(decide (x.t40 < ((x.x.uV.n:Nat):Int))))
 (cond (decide ((max (x.x.uV.get (Int.toNat x.t40)).e0 (x.x.uV.get (Int.toNat x.t40)).e1) > (255:Int)))
 (.out aE.aq.ret (⟨false,x.n,x.t38,x.t39,x.t40,x.x⟩:fC))
 (.next (⟨x.t4,x.n,x.t38,x.t39,(aj (x.t40+(1:Int))),x.x⟩:fC)))
 .fail)
 .fail))
 .fail)
 .fail))
 .fail)
 .fail)
 (.out (aE.aq.exit 0) x))
theorem MH (x:fC):RE (tK x) (tL x)=aI.enc tK tL (kG x):=by
 unfold kG
 try simp only [aI.dn]
 kernel_rfl
def rE:Lp:=⟨81,122,Gy,fun vs rs=>dL tK tL (goN kG (Ey vs rs)) [aE.aq.exit 0,aE.aq.ret],false⟩
theorem Ez:rE.Ok Try.prog:=eM funcs mixed (ao.cons Ie (ao.cons sU (ao.cons pB ao.nil))) az.nil (L:=9) (n:=9) (step:=kG) (ev:=tK) (er:=tL) (pa:=Ey) rfl (fun wv wr=>⟨by kernel_rfl,by kernel_rfl⟩) MH
theorem Bj:cC Try.prog rE.f rE.p=true:=by kernel_rfl
structure gd where
 t4:Bool
 n:Int
 t82:(Sl fj)
 t83:Int
 t84:Int
 x:Item
instance:Inhabited gd:=⟨⟨default,default,default,default,default,default⟩⟩
def tM (x:gd):List KV:=[.bool x.t4,.int .i64 x.n,jf 50 sV x.t82,.int .i64 x.t83,.int .i64 x.t84]
def tN (x:gd):List (List KV):=[TZ x.x]
def EA (vs:List KV) (rs:List (List KV)):gd:=⟨nP (vs.getD 0 .aw),intOf (vs.getD 1 .aw),iQ Bf (vs.getD 2 .aw),intOf (vs.getD 3 .aw),intOf (vs.getD 4 .aw),T9 (fun k=>(rs.getD 0 []).getD k .aw)⟩
def Gz:aQ:=⟨[(4,⟨false,[.k .bool]⟩),(5,⟨false,[.k (.int .i64)]⟩),(82,⟨false,[.k (.slice 50)]⟩),(83,⟨false,[.k (.int .i64)]⟩),(84,⟨false,[.k (.int .i64)]⟩)],[(2,[.k (.slice 41),.k (.slice 176),.k (.slice 50),.k (.int .u8),.k (.int .u8),.k (.int .u8),.k (.int .u8),.k (.int .i64),.k (.int .u8),.k (.int .i64),.k .bool,.k (.int .i64),.k (.int .i64),.k (.int .i64),.k (.int .i64),.k (.int .i64),.k (.int .i64),.k (.int .i64)],1)],[(2,0,0)]⟩
def RF:=jk Try.prog (bu Try.prog [(109,Mc),(108,vh),(46,pd)] [rE] (fun _=>false)) 9 9 81 250 (fh Try.prog 81 250) Gz
def ju (x:gd):aI gd:=
 (cond (decide (x.t84 < x.t83))
 (cond ((decide ((0:Int)≤x.t84))&&(decide (x.t84 < ((x.t82.n:Nat):Int))))
 (cond (decide ((min (min (x.t82.get (Int.toNat x.t84)).e0 (x.t82.get (Int.toNat x.t84)).e1) (x.t82.get (Int.toNat x.t84)).e2) < (0:Int)))
 (.out aE.aq.ret (⟨false,x.n,x.t82,x.t83,x.t84,x.x⟩:gd))
 (cond (decide ((max (max (x.t82.get (Int.toNat x.t84)).e0 (x.t82.get (Int.toNat x.t84)).e1) (x.t82.get (Int.toNat x.t84)).e2) ≥ x.n))
 (.out aE.aq.ret (⟨false,x.n,x.t82,x.t83,x.t84,x.x⟩:gd))
 (.next (⟨x.t4,x.n,x.t82,x.t83,(aj (x.t84+(1:Int))),x.x⟩:gd))))
 .fail)
 (.out (aE.aq.exit 2) x))
theorem MI (x:gd):RF (tM x) (tN x)=aI.enc tM tN (ju x):=by
 unfold ju
 try simp only [aI.dn]
 kernel_rfl
def vu:Lp:=⟨81,250,Gz,fun vs rs=>dL tM tN (goN ju (EA vs rs)) [aE.aq.exit 2,aE.aq.ret],false⟩
theorem RG:vu.Ok Try.prog:=eM funcs mixed (ao.cons Ie (ao.cons sU (ao.cons pB ao.nil))) (az.cons Ez Bj az.nil) (L:=9) (n:=9) (step:=ju) (ev:=tM) (er:=tN) (pa:=EA) rfl (fun wv wr=>⟨by kernel_rfl,by kernel_rfl⟩) MI
theorem K6:cC Try.prog vu.f vu.p=true:=by kernel_rfl
def NC:List (Nat×(List KV→KR KV)):=[(109,Mc),(108,vh),(46,pd)]
def ND:List Lp:=[rE,vu]
theorem Wr:ao Try.prog NC:=(ao.cons Ie (ao.cons sU (ao.cons pB ao.nil)))
theorem Ws:az Try.prog ND:=(az.cons Ez Bj (az.cons RG K6 az.nil))
def uL (x:Item) (aK:Int):(Option Int):=(fJ x.look aK)
def gp (x:Item) (aK:Int):(aI fC):=(goN kG (⟨false,((x.gF.n:Nat):Int),x.gF,((x.gF.n:Nat):Int),(0:Int),x⟩:fC))
def fe (x:Item) (aK:Int):(aI gd):=(goN ju (⟨(gp x aK).st.t4,(gp x aK).st.n,(gp x aK).st.x.fQ,(((gp x aK).st.x.fQ.n:Nat):Int),(0:Int),(gp x aK).st.x⟩:gd))
def mu (x:Item) (aK:Int):(Option (Prod ua Int)):=(CL (fe x aK).st.x.gF)
def nv (x:Item) (aK:Int):Option (Bool):=
 (cond (decide (((x.gF.n:Nat):Int) > (64:Int)))
 (some (false))
 (cond (((x.uV.n:Nat):Int) != ((x.gF.n:Nat):Int))
 (some (false))
 (cond (decide (((x.fQ.n:Nat):Int) > (64:Int)))
 (some (false))
 (cond (uL x aK).isSome
 (cond (((uL x aK).getD default) != (0:Int))
 (some (false))
 (cond ((gp x aK).by (aE.aq.exit 0))
 (cond ((fe x aK).by (aE.aq.exit 2))
 (cond (mu x aK).isSome
 (cond ((((mu x aK).getD default).fst.low.x==(fe x aK).st.x.box.low.x)&&((((mu x aK).getD default).fst.low.y==(fe x aK).st.x.box.low.y)&&((((mu x aK).getD default).fst.low.z==(fe x aK).st.x.box.low.z)&&((((mu x aK).getD default).fst.high.x==(fe x aK).st.x.box.high.x)&&((((mu x aK).getD default).fst.high.y==(fe x aK).st.x.box.high.y)&&((((mu x aK).getD default).fst.high.z==(fe x aK).st.x.box.high.z)&&true))))))
 (cond (((mu x aK).getD default).snd==(0:Int))
 (some (true))
 (some (((fe x aK).st.n==(0:Int)))))
 (some (false)))
 none)
 (cond ((fe x aK).by aE.aq.ret)
 (some ((fe x aK).st.t4))
 none))
 (cond ((gp x aK).by aE.aq.ret)
 (some ((gp x aK).st.t4))
 none)))
 none))))
theorem ZU (x:Item) (aK:Int):dp Try.prog (bu Try.prog NC ND (fun _=>false)) 9 9 81 [K5 x,(kI .i64) aK] = (nv x aK).map kB:=by
 unfold nv
 try simp only [ch]
 kernel_rfl
def Ik:List KV→KR KV:=cA Try.prog 81 (cF kB fun vs=>nv (Ij (vs.getD 0 .aw)) (intOf (vs.getD 1 .aw)))
theorem Wt (w:Nat→KV):cM Try.prog [45,3] w 0 = [K5 (Ij (ay Try.prog (ak Try.prog au) 45 (w 0))),(kI .i64) (intOf (ay Try.prog (ak Try.prog au) 3 (w 1)))]:=by kernel_rfl
theorem I9:ca Try.prog 81 Ik:=aY funcs mixed Wr Ws (L:=9) (n:=9) fun w=>by
 have e:aJ Try.prog 81 = [45,3]:=by kernel_rfl
 rw [e,Wt]
 exact (ZU (Ij (ay Try.prog (ak Try.prog au) 45 (w 0))) (intOf (ay Try.prog (ak Try.prog au) 3 (w 1)))).trans (by kernel_rfl)
structure Show where
 items:(Sl Item)
 aK:(Sl eC)
instance:Inhabited Show:=⟨⟨default,default⟩⟩
def K7 (x:Show):List KV:=[jf 45 K5 x.items,jf 108 nS x.aK]
def pP (x:Show):KV:=.agg (K7 x)
def K8 (c:Nat→KV):Show:=⟨iQ Ij (c 0),iQ kk (c 1)⟩
def mv (v:KV):Show:=K8 fun k=>v.cells.getD k .aw
structure bm where
 s:(Sl Item)
 t4:Int
 t7:Int
 t8:Int
 ZV:Show
instance:Inhabited bm:=⟨⟨default,default,default,default,default⟩⟩
def fW (x:bm):List KV:=[jf 45 K5 x.s,.fn (.func 80) [] [.ptr 0 0],.int .i64 x.t4,.int .i64 x.t7,.int .i64 x.t8]
def fX (x:bm):List (List KV):=[K7 x.ZV]
def mw (vs:List KV) (rs:List (List KV)):bm:=⟨iQ Ij (vs.getD 0 .aw),intOf (vs.getD 2 .aw),intOf (vs.getD 3 .aw),intOf (vs.getD 4 .aw),K8 (fun k=>(rs.getD 0 []).getD k .aw)⟩
def mN:aQ:=⟨[(0,⟨false,[.k (.slice 45)]⟩),(1,⟨false,[.ref (.fn (.func 80) [] [.ptr 0 0])]⟩),(4,⟨false,[.k (.int .i64)]⟩),(7,⟨false,[.k (.int .i64)]⟩),(8,⟨false,[.k (.int .i64)]⟩)],[(100001,[.k (.slice 45),.k (.slice 108)],1)],[]⟩
def sB:=jk Try.prog (bu Try.prog [(81,Ik),(45,tJ)] [] (fun _=>false)) 9 9 107 26 (fh Try.prog 107 26) mN
def fM (x:bm):(Option Bool):=(nv (x.s.get (Int.toNat x.t8)) ((x.ZV.aK.n:Nat):Int))
def bG (x:bm):aI bm:=
 (cond (decide (x.t8 < x.t7))
 (cond ((decide ((0:Int)≤x.t8))&&(decide (x.t8 < ((x.s.n:Nat):Int))))
 (cond (fM x).isSome
 (cond (!((fM x).getD default))
 (.out aE.aq.ret (⟨x.s,x.t8,x.t7,x.t8,x.ZV⟩:bm))
 (.next (⟨x.s,x.t4,x.t7,(aj (x.t8+(1:Int))),x.ZV⟩:bm)))
 .fail)
 .fail)
 (.out (aE.aq.exit 0) x))
theorem rF (x:bm):sB (fW x) (fX x)=aI.enc fW fX (bG x):=by
 unfold bG
 try simp only [aI.dn]
 kernel_rfl
def gi:Lp:=⟨107,26,mN,fun vs rs=>dL fW fX (goN bG (mw vs rs)) [aE.aq.exit 0,aE.aq.ret],false⟩
theorem sC:gi.Ok Try.prog:=eM funcs mixed (ao.cons I9 (ao.cons uJ ao.nil)) az.nil (L:=9) (n:=9) (step:=bG) (ev:=fW) (er:=fX) (pa:=mw) rfl (fun wv wr=>⟨by kernel_rfl,by kernel_rfl⟩) rF
theorem qQ:cC Try.prog gi.f gi.p=true:=by kernel_rfl
def Ja:List (Nat×(List KV→KR KV)):=[(81,Ik),(45,tJ)]
def Jb:List Lp:=[gi]
theorem RH:ao Try.prog Ja:=(ao.cons I9 (ao.cons uJ ao.nil))
theorem RI:az Try.prog Jb:=(az.cons sC qQ az.nil)
def rG (s:Show):(Option Int):=(gh s.aK)
def eR (s:Show):(aI bm):=(goN bG (⟨s.items,(0:Int),((s.items.n:Nat):Int),(0:Int),s⟩:bm))
def kX (s:Show):Option (Int):=
 (cond (decide (((s.items.n:Nat):Int) > (256:Int)))
 (some ((4:Int)))
 (cond (decide (((s.aK.n:Nat):Int) > (16:Int)))
 (some ((4:Int)))
 (cond (rG s).isSome
 (cond (((rG s).getD default) != (0:Int))
 (some ((8:Int)))
 (cond ((eR s).by (aE.aq.exit 0))
 (some ((0:Int)))
 (cond ((eR s).by aE.aq.ret)
 (cond (decide ((eR s).st.t4 ≥ (0:Int)))
 (some ((8:Int)))
 (some ((0:Int))))
 none)))
 none)))
theorem Ua (s:Show):dp Try.prog (bu Try.prog Ja Jb (fun _=>false)) 9 9 50 [pP s] = (kX s).map (kI .i64):=by
 unfold kX
 try simp only [ch]
 kernel_rfl
def K9:List KV→KR KV:=cA Try.prog 50 (cF (kI .i64) fun vs=>kX (mv (vs.getD 0 .aw)))
theorem RJ (w:Nat→KV):cM Try.prog [25] w 0 = [pP (mv (ay Try.prog (ak Try.prog au) 25 (w 0)))]:=by kernel_rfl
theorem RK:ca Try.prog 50 K9:=aY funcs mixed RH RI (L:=9) (n:=9) fun w=>by
 have e:aJ Try.prog 50 = [25]:=by kernel_rfl
 rw [e,RJ]
 exact (Ua (mv (ay Try.prog (ak Try.prog au) 25 (w 0)))).trans (by kernel_rfl)
end
end Go.Proofs.Ytahhdndhkgbcjaa.b
end
section
namespace Go.Proofs.Ytahhdndhkgbcjaa.b
open Go.K
set_option linter.unusedVariables false
set_option linter.unusedSimpArgs false
noncomputable section
def Lb:List (Nat×(List KV→KR KV)):=[(99,uF),(130,qE),(82,xc)]
def Lc:List Lp:=[]
theorem Ub:ao Try.prog Lb:=(ao.cons tB (ao.cons oQ (ao.cons xG ao.nil)))
theorem Uc:az Try.prog Lc:=az.nil
def xf (c:a8) (p:bZ):(Option Int):=(ln c)
def xg (c:a8) (p:bZ):(Option Int):=(kV p)
def BM (c:a8) (p:bZ):(Option (Prod Int Int)):=(dQ (aj ((aj ((8:Int) * c.TL)) * p.p.x)) p.p.z)
def BN (c:a8) (p:bZ):(Option (Prod Int Int)):=(dQ (aj ((aj ((8:Int) * c.TL)) * p.p.y)) p.p.z)
def oG (c:a8) (p:bZ):Option (fU×Int):=
 (cond (xf c p).isSome
 (cond (((xf c p).getD default) != (0:Int))
 (some ((⟨(0:Int),(0:Int),(0:Int),(0:Int),(0:Int)⟩:fU),((xf c p).getD default)))
 (cond (xg c p).isSome
 (cond (((xg c p).getD default) != (0:Int))
 (some ((⟨(0:Int),(0:Int),(0:Int),(0:Int),(0:Int)⟩:fU),((xg c p).getD default)))
 (cond (decide (p.p.z < c.aL))
 (some ((⟨(0:Int),(0:Int),(0:Int),(0:Int),(0:Int)⟩:fU),(6:Int)))
 (cond (BM c p).isSome
 (cond (BN c p).isSome
 (cond (!(decide (p.p.z=(0:Int))))
 (some ((⟨(aj (((BM c p).getD default).fst+(aj ((4:Int) * c.w)))),(aj ((aj ((4:Int) * c.h)) - ((BN c p).getD default).fst)),(aj (Int.tdiv (16777216:Int) p.p.z)),p.u,p.v⟩:fU),(0:Int)))
 none)
 none)
 none)))
 none))
 none)
theorem Wu (c:a8) (p:bZ):dp Try.prog (bu Try.prog Lb Lc (fun _=>false)) 9 9 112 [jB c,mU p] = (oG c p).map (fun (r:fU×Int)=>KV.jI [Ty r.1,(kI .i64) r.2]):=by
 unfold oG
 try simp only [ch]
 kernel_rfl
def Fk:List KV→KR KV:=cA Try.prog 112 (cF (fun (r:fU×Int)=>KV.jI [Ty r.1,(kI .i64) r.2]) fun vs=>oG (gn (vs.getD 0 .aw)) (jK (vs.getD 1 .aw)))
theorem Ud (w:Nat→KV):cM Try.prog [53,180] w 0 = [jB (gn (ay Try.prog (ak Try.prog au) 53 (w 0))),mU (jK (ay Try.prog (ak Try.prog au) 180 (w 1)))]:=by kernel_rfl
theorem GA:ca Try.prog 112 Fk:=aY funcs mixed Ub Uc (L:=9) (n:=9) fun w=>by
 have e:aJ Try.prog 112 = [53,180]:=by kernel_rfl
 rw [e,Ud]
 exact (Wu (gn (ay Try.prog (ak Try.prog au) 53 (w 0))) (jK (ay Try.prog (ak Try.prog au) 180 (w 1)))).trans (by kernel_rfl)
structure dq where
 out:(Sl bt)
 t72:(Sl dK)
 t73:Int
 t74:Int
 c:a8
 x:Item
instance:Inhabited dq:=⟨⟨default,default,default,default,default,default⟩⟩
def qT (x:dq):List KV:=[jf 118 im x.out,jf 181 pb x.t72,.int .i64 x.t73,.int .i64 x.t74]
def qU (x:dq):List (List KV):=[KM x.c,TZ x.x]
def B9 (vs:List KV) (rs:List (List KV)):dq:=⟨iQ gz (vs.getD 0 .aw),iQ qF (vs.getD 1 .aw),intOf (vs.getD 2 .aw),intOf (vs.getD 3 .aw),KN (fun k=>(rs.getD 0 []).getD k .aw),T9 (fun k=>(rs.getD 1 []).getD k .aw)⟩
def Dv:aQ:=⟨[(8,⟨false,[.bf 118]⟩),(72,⟨false,[.k (.slice 181)]⟩),(73,⟨false,[.k (.int .i64)]⟩),(74,⟨false,[.k (.int .i64)]⟩)],[(5,[.k (.int .i64),.k (.int .i64),.k (.int .i64),.k (.int .i64),.k (.int .i64),.k (.int .i64),.k (.int .i64),.k (.int .i64),.k (.int .i64),.k (.int .i64),.k (.int .i64),.k (.int .i64),.k (.int .i64),.k (.int .i64),.k (.int .i64),.k (.int .i64)],1),(9,[.k (.slice 41),.k (.slice 176),.k (.slice 50),.k (.int .u8),.k (.int .u8),.k (.int .u8),.k (.int .u8),.k (.int .i64),.k (.int .u8),.k (.int .i64),.k .bool,.k (.int .i64),.k (.int .i64),.k (.int .i64),.k (.int .i64),.k (.int .i64),.k (.int .i64),.k (.int .i64)],1)],[(5,0,0),(9,1,0)]⟩
def MJ:=jk Try.prog (bu Try.prog [(114,E8),(113,E7),(112,Fk),(111,H9),(110,Dn)] [] (fun _=>false)) 9 9 84 506 (fh Try.prog 84 506) Dv
def qi (x:dq):(Option (Prod fU Int)):=(oG x.c (x.t72.get (Int.toNat x.t74)).e0)
def qj (x:dq):(Option (Prod fU Int)):=(oG x.c (x.t72.get (Int.toNat x.t74)).e1)
def qk (x:dq):(Option (Prod fU Int)):=(oG x.c (x.t72.get (Int.toNat x.t74)).e2)
def ql (x:dq):(Option (Prod Bool Int)):=(ta (⟨((qi x).getD default).fst,((qj x).getD default).fst,((qk x).getD default).fst⟩:bt) x.x.look.yS)
def uM (x:dq):(Option (Prod bt Int)):=(te (⟨((qi x).getD default).fst,((qj x).getD default).fst,((qk x).getD default).fst⟩:bt))
def hQ (x:dq):aI dq:=
 (cond (decide (x.t74 < x.t73))
 (cond ((decide ((0:Int)≤x.t74))&&(decide (x.t74 < ((x.t72.n:Nat):Int))))
 (cond (qi x).isSome
 (cond (qj x).isSome
 (cond (qk x).isSome
 (cond (ql x).isSome
 (cond ((ql x).getD default).fst
 (cond (uM x).isSome
 (cond ((av x.out.n x.out.n)&&(fI 120 x.out.n 1))
 (cond (av (x.out.n+1) (x.out.n+1))
 (.next (⟨(x.out.push ((uM x).getD default).fst),x.t72,x.t73,(aj (x.t74+(1:Int))),x.c,x.x⟩:dq))
 .fail)
 .fail)
 .fail)
 (cond (av x.out.n x.out.n)
 (.next (⟨x.out,x.t72,x.t73,(aj (x.t74+(1:Int))),x.c,x.x⟩:dq))
 .fail))
 .fail)
 .fail)
 .fail)
 .fail)
 .fail)
 (cond (av x.out.n x.out.n)
 (.out (aE.aq.exit 2) x)
 .fail))
theorem JD (x:dq):MJ (qT x) (qU x)=aI.enc qT qU (hQ x):=by
 unfold hQ
 try simp only [aI.dn,aaQ]
 kernel_rfl
def sD:Lp:=⟨84,506,Dv,fun vs rs=>dL qT qU (goN hQ (B9 vs rs)) [aE.aq.exit 2],false⟩
theorem MK:sD.Ok Try.prog:=eM funcs mixed (ao.cons Gi (ao.cons Gh (ao.cons GA (ao.cons I7 (ao.cons El ao.nil))))) az.nil (L:=9) (n:=9) (step:=hQ) (ev:=qT) (er:=qU) (pa:=B9) rfl (fun wv wr=>⟨by kernel_rfl,by kernel_rfl⟩) JD
theorem Il:cC Try.prog sD.f sD.p=true:=by kernel_rfl
def Jc:List (Nat×(List KV→KR KV)):=[(114,E8),(113,E7),(112,Fk),(111,H9),(110,Dn)]
def Jd:List Lp:=[sD]
theorem RL:ao Try.prog Jc:=(ao.cons Gi (ao.cons Gh (ao.cons GA (ao.cons I7 (ao.cons El ao.nil)))))
theorem RM:az Try.prog Jd:=(az.cons MK Il az.nil)
def Ag (s:Show) (c:a8) (item:Int) (gW:Int):(Option (Prod eE Int)):=(nE c ((s.items.get (Int.toNat item)).gF.get (Int.toNat ((s.items.get (Int.toNat item)).fQ.get (Int.toNat gW)).e0)))
def Ah (s:Show) (c:a8) (item:Int) (gW:Int):(Option (Prod eE Int)):=(nE c ((s.items.get (Int.toNat item)).gF.get (Int.toNat ((s.items.get (Int.toNat item)).fQ.get (Int.toNat gW)).e1)))
def Ai (s:Show) (c:a8) (item:Int) (gW:Int):(Option (Prod eE Int)):=(nE c ((s.items.get (Int.toNat item)).gF.get (Int.toNat ((s.items.get (Int.toNat item)).fQ.get (Int.toNat gW)).e2)))
def vv (s:Show) (c:a8) (item:Int) (gW:Int):(Option (Prod (Sl dK) Int)):=(vr c.aL (⟨(⟨((Ag s c item gW).getD default).fst,((s.items.get (Int.toNat item)).uV.get (Int.toNat ((s.items.get (Int.toNat item)).fQ.get (Int.toNat gW)).e0)).e0,((s.items.get (Int.toNat item)).uV.get (Int.toNat ((s.items.get (Int.toNat item)).fQ.get (Int.toNat gW)).e0)).e1⟩:bZ),(⟨((Ah s c item gW).getD default).fst,((s.items.get (Int.toNat item)).uV.get (Int.toNat ((s.items.get (Int.toNat item)).fQ.get (Int.toNat gW)).e1)).e0,((s.items.get (Int.toNat item)).uV.get (Int.toNat ((s.items.get (Int.toNat item)).fQ.get (Int.toNat gW)).e1)).e1⟩:bZ),(⟨((Ai s c item gW).getD default).fst,((s.items.get (Int.toNat item)).uV.get (Int.toNat ((s.items.get (Int.toNat item)).fQ.get (Int.toNat gW)).e2)).e0,((s.items.get (Int.toNat item)).uV.get (Int.toNat ((s.items.get (Int.toNat item)).fQ.get (Int.toNat gW)).e2)).e1⟩:bZ)⟩:dK))
def oT (s:Show) (c:a8) (item:Int) (gW:Int):(aI dq):=(goN hQ (⟨(⟨0,(fun i=>(⟨(⟨(0:Int),(0:Int),(0:Int),(0:Int),(0:Int)⟩:fU),(⟨(0:Int),(0:Int),(0:Int),(0:Int),(0:Int)⟩:fU),(⟨(0:Int),(0:Int),(0:Int),(0:Int),(0:Int)⟩:fU)⟩:bt))⟩:Sl _),((vv s c item gW).getD default).fst,((((vv s c item gW).getD default).fst.n:Nat):Int),(0:Int),c,(s.items.get (Int.toNat item))⟩:dq))
def pe (s:Show) (c:a8) (item:Int) (gW:Int):Option ((Sl bt)):=
 (cond ((decide ((0:Int)≤item))&&(decide (item < ((s.items.n:Nat):Int))))
 (cond ((decide ((0:Int)≤gW))&&(decide (gW < (((s.items.get (Int.toNat item)).fQ.n:Nat):Int))))
 (cond ((decide ((0:Int)≤((s.items.get (Int.toNat item)).fQ.get (Int.toNat gW)).e0))&&(decide (((s.items.get (Int.toNat item)).fQ.get (Int.toNat gW)).e0 < (((s.items.get (Int.toNat item)).gF.n:Nat):Int))))
 (cond (Ag s c item gW).isSome
 (cond ((decide ((0:Int)≤((s.items.get (Int.toNat item)).fQ.get (Int.toNat gW)).e0))&&(decide (((s.items.get (Int.toNat item)).fQ.get (Int.toNat gW)).e0 < (((s.items.get (Int.toNat item)).uV.n:Nat):Int))))
 (cond ((decide ((0:Int)≤((s.items.get (Int.toNat item)).fQ.get (Int.toNat gW)).e0))&&(decide (((s.items.get (Int.toNat item)).fQ.get (Int.toNat gW)).e0 < (((s.items.get (Int.toNat item)).uV.n:Nat):Int))))
 (cond ((decide ((0:Int)≤((s.items.get (Int.toNat item)).fQ.get (Int.toNat gW)).e1))&&(decide (((s.items.get (Int.toNat item)).fQ.get (Int.toNat gW)).e1 < (((s.items.get (Int.toNat item)).gF.n:Nat):Int))))
 (cond (Ah s c item gW).isSome
 (cond ((decide ((0:Int)≤((s.items.get (Int.toNat item)).fQ.get (Int.toNat gW)).e1))&&(decide (((s.items.get (Int.toNat item)).fQ.get (Int.toNat gW)).e1 < (((s.items.get (Int.toNat item)).uV.n:Nat):Int))))
 (cond ((decide ((0:Int)≤((s.items.get (Int.toNat item)).fQ.get (Int.toNat gW)).e1))&&(decide (((s.items.get (Int.toNat item)).fQ.get (Int.toNat gW)).e1 < (((s.items.get (Int.toNat item)).uV.n:Nat):Int))))
 (cond ((decide ((0:Int)≤((s.items.get (Int.toNat item)).fQ.get (Int.toNat gW)).e2))&&(decide (((s.items.get (Int.toNat item)).fQ.get (Int.toNat gW)).e2 < (((s.items.get (Int.toNat item)).gF.n:Nat):Int))))
 (cond (Ai s c item gW).isSome
 (cond ((decide ((0:Int)≤((s.items.get (Int.toNat item)).fQ.get (Int.toNat gW)).e2))&&(decide (((s.items.get (Int.toNat item)).fQ.get (Int.toNat gW)).e2 < (((s.items.get (Int.toNat item)).uV.n:Nat):Int))))
 (cond ((decide ((0:Int)≤((s.items.get (Int.toNat item)).fQ.get (Int.toNat gW)).e2))&&(decide (((s.items.get (Int.toNat item)).fQ.get (Int.toNat gW)).e2 < (((s.items.get (Int.toNat item)).uV.n:Nat):Int))))
 (cond (vv s c item gW).isSome
 (cond ((oT s c item gW).by (aE.aq.exit 2))
 (some ((oT s c item gW).st.out))
 none)
 none)
 none)
 none)
 none)
 none)
 none)
 none)
 none)
 none)
 none)
 none)
 none)
 none)
 none)
 none)
theorem Ue (s:Show) (c:a8) (item:Int) (gW:Int):dp Try.prog (bu Try.prog Jc Jd (fun _=>false)) 9 9 84 [pP s,jB c,(kI .i64) item,(kI .i64) gW] = (pe s c item gW).map (jf 118 im):=by
 unfold pe
 try simp only [ch]
 kernel_rfl
def uN:List KV→KR KV:=cA Try.prog 84 (cF (jf 118 im) fun vs=>pe (mv (vs.getD 0 .aw)) (gn (vs.getD 1 .aw)) (intOf (vs.getD 2 .aw)) (intOf (vs.getD 3 .aw)))
theorem RN (w:Nat→KV):cM Try.prog [25,53,3,3] w 0 = [pP (mv (ay Try.prog (ak Try.prog au) 25 (w 0))),jB (gn (ay Try.prog (ak Try.prog au) 53 (w 1))),(kI .i64) (intOf (ay Try.prog (ak Try.prog au) 3 (w 2))),(kI .i64) (intOf (ay Try.prog (ak Try.prog au) 3 (w 3)))]:=by kernel_rfl
theorem tP:ca Try.prog 84 uN:=aY funcs mixed RL RM (L:=9) (n:=9) fun w=>by
 have e:aJ Try.prog 84 = [25,53,3,3]:=by kernel_rfl
 rw [e,RN]
 exact (Ue (mv (ay Try.prog (ak Try.prog au) 25 (w 0))) (gn (ay Try.prog (ak Try.prog au) 53 (w 1))) (intOf (ay Try.prog (ak Try.prog au) 3 (w 2))) (intOf (ay Try.prog (ak Try.prog au) 3 (w 3)))).trans (by kernel_rfl)
def Je:List (Nat×(List KV→KR KV)):=[(82,xc),(50,K9)]
def Jf:List Lp:=[]
theorem RO:ao Try.prog Je:=(ao.cons xG (ao.cons RK ao.nil))
theorem RP:az Try.prog Jf:=az.nil
def rH (s:Show) (c:a8):(Option Int):=(kX s)
def vw (s:Show) (c:a8):(Option Int):=(ln c)
def jX (s:Show) (c:a8):Option (Int):=
 (cond (rH s c).isSome
 (cond (((rH s c).getD default) != (0:Int))
 (some (((rH s c).getD default)))
 (cond (vw s c).isSome
 (some (((vw s c).getD default)))
 none))
 none)
theorem Uf (s:Show) (c:a8):dp Try.prog (bu Try.prog Je Jf (fun _=>false)) 9 9 56 [pP s,jB c] = (jX s c).map (kI .i64):=by
 unfold jX
 try simp only [ch]
 kernel_rfl
def Ld:List KV→KR KV:=cA Try.prog 56 (cF (kI .i64) fun vs=>jX (mv (vs.getD 0 .aw)) (gn (vs.getD 1 .aw)))
theorem RQ (w:Nat→KV):cM Try.prog [25,53] w 0 = [pP (mv (ay Try.prog (ak Try.prog au) 25 (w 0))),jB (gn (ay Try.prog (ak Try.prog au) 53 (w 1)))]:=by kernel_rfl
theorem RR:ca Try.prog 56 Ld:=aY funcs mixed RO RP (L:=9) (n:=9) fun w=>by
 have e:aJ Try.prog 56 = [25,53]:=by kernel_rfl
 rw [e,RQ]
 exact (Uf (mv (ay Try.prog (ak Try.prog au) 25 (w 0))) (gn (ay Try.prog (ak Try.prog au) 53 (w 1)))).trans (by kernel_rfl)
end
end Go.Proofs.Ytahhdndhkgbcjaa.b
end
section
namespace Go.Proofs.Ytahhdndhkgbcjaa.b
open Go.K
set_option linter.unusedVariables false
set_option linter.unusedSimpArgs false
noncomputable section
structure ZW where
 item:Int
 gW:Int
instance:Inhabited ZW:=⟨⟨default,default⟩⟩
structure aU where
 d:Int
 item:Int
 gW:Int
 part:Int
 u:Int
 v:Int
instance:Inhabited aU:=⟨⟨default,default,default,default,default,default⟩⟩
def ZX (x:aU):List KV:=[.int .i64 x.d,.int .i64 x.item,.int .i64 x.gW,.int .i64 x.part,.int .i64 x.u,.int .i64 x.v]
def iJ (x:aU):KV:=.agg (ZX x)
def ZY (c:Nat→KV):aU:=⟨intOf (c 0),intOf (c 1),intOf (c 2),intOf (c 3),intOf (c 4),intOf (c 5)⟩
def jh (v:KV):aU:=ZY fun k=>v.cells.getD k .aw
theorem ZZ (x:aU):jh (iJ x)=x:=rfl
theorem ajV:jh .aw=default:=rfl
theorem Z0 (s:Sl aU) (v:aU):s.push v=ki jh (s.n+1) (fw s.n (fun i=>iJ (s.get i)) (r8 [iJ v])):=(Ae ZZ ajV s v).symm
theorem Md (s:Sl aU) (i:Nat) (v:aU):s.set i v=ki jh s.n (r9 (fun j=>iJ (s.get j)) i (iJ v)):=(Zc ZZ s i v).symm
theorem Mf (m n' i:Nat) (acc:Nat→KV) (v:KV):ki jh m (r9 (fun j=>iJ ((ki jh n' acc).get j)) i v)=ki jh m (r9 acc i v):=aeX ZZ ..
structure di where
 t:bt
 cU:aU
instance:Inhabited di:=⟨⟨default,default⟩⟩
def adb (x:di):List KV:=[.int .i64 x.t.e0.x,.int .i64 x.t.e0.y,.int .i64 x.t.e0.d,.int .i64 x.t.e0.u,.int .i64 x.t.e0.v,.int .i64 x.t.e1.x,.int .i64 x.t.e1.y,.int .i64 x.t.e1.d,.int .i64 x.t.e1.u,.int .i64 x.t.e1.v,.int .i64 x.t.e2.x,.int .i64 x.t.e2.y,.int .i64 x.t.e2.d,.int .i64 x.t.e2.u,.int .i64 x.t.e2.v,.int .i64 x.cU.d,.int .i64 x.cU.item,.int .i64 x.cU.gW,.int .i64 x.cU.part,.int .i64 x.cU.u,.int .i64 x.cU.v]
def sE (x:di):KV:=.agg (adb x)
def ade (c:Nat→KV):di:=⟨⟨⟨intOf (c 0),intOf (c 1),intOf (c 2),intOf (c 3),intOf (c 4)⟩,⟨intOf (c 5),intOf (c 6),intOf (c 7),intOf (c 8),intOf (c 9)⟩,⟨intOf (c 10),intOf (c 11),intOf (c 12),intOf (c 13),intOf (c 14)⟩⟩,⟨intOf (c 15),intOf (c 16),intOf (c 17),intOf (c 18),intOf (c 19),intOf (c 20)⟩⟩
def sF (v:KV):di:=ade fun k=>v.cells.getD k .aw
theorem Z1 (x:di):sF (sE x)=x:=rfl
theorem Z2:sF .aw=default:=rfl
theorem Ug (s:Sl di) (v:di):s.push v=ki sF (s.n+1) (fw s.n (fun i=>sE (s.get i)) (r8 [sE v])):=(Ae Z1 Z2 s v).symm
structure aB where
 cN:Show
 parts:(Sl di)
instance:Inhabited aB:=⟨⟨default,default⟩⟩
def cX (x:aB):List KV:=[jf 45 K5 x.cN.items,jf 108 nS x.cN.aK,jf 139 sE x.parts]
def l9 (x:aB):KV:=.agg (cX x)
def cY (c:Nat→KV):aB:=⟨⟨iQ Ij (c 0),iQ kk (c 1)⟩,iQ sF (c 2)⟩
def nw (v:KV):aB:=cY fun k=>v.cells.getD k .aw
structure ji where
 t14:(Sl Item)
 t15:Int
 t16:Int
 s:Show
 c:a8
 t4:aB
 out:aB
instance:Inhabited ji:=⟨⟨default,default,default,default,default,default,default⟩⟩
def xh (x:ji):List KV:=[jf 45 K5 x.t14,.int .i64 x.t15,.int .i64 x.t16]
def xi (x:ji):List (List KV):=[K7 x.s,KM x.c,cX x.t4,cX x.out]
def Jg (vs:List KV) (rs:List (List KV)):ji:=⟨iQ Ij (vs.getD 0 .aw),intOf (vs.getD 1 .aw),intOf (vs.getD 2 .aw),K8 (fun k=>(rs.getD 0 []).getD k .aw),KN (fun k=>(rs.getD 1 []).getD k .aw),cY (fun k=>(rs.getD 2 []).getD k .aw),cY (fun k=>(rs.getD 3 []).getD k .aw)⟩
def Le:aQ:=⟨[(14,⟨false,[.k (.slice 45)]⟩),(15,⟨false,[.k (.int .i64)]⟩),(16,⟨false,[.k (.int .i64)]⟩)],[(2,[.k (.slice 45),.k (.slice 108)],1),(3,[.k (.int .i64),.k (.int .i64),.k (.int .i64),.k (.int .i64),.k (.int .i64),.k (.int .i64),.k (.int .i64),.k (.int .i64),.k (.int .i64),.k (.int .i64),.k (.int .i64),.k (.int .i64),.k (.int .i64),.k (.int .i64),.k (.int .i64),.k (.int .i64)],1),(4,[.k (.slice 45),.k (.slice 108),.bf 139],1),(5,[.k (.slice 45),.k (.slice 108),.bf 139],1)],[(2,0,0),(3,1,0),(4,2,0),(5,3,0)]⟩
structure fD where
 i:Int
 t14:(Sl Item)
 t15:Int
 t16:Int
 t23:Int
 t24:Int
 s:Show
 c:a8
 t4:aB
 out:aB
 x:Item
instance:Inhabited fD:=⟨⟨default,default,default,default,default,default,default,default,default,default,default⟩⟩
def sG (x:fD):List KV:=[.int .i64 x.i,jf 45 K5 x.t14,.int .i64 x.t15,.int .i64 x.t16,.int .i64 x.t23,.int .i64 x.t24]
def sH (x:fD):List (List KV):=[K7 x.s,KM x.c,cX x.t4,cX x.out,TZ x.x]
def Dw (vs:List KV) (rs:List (List KV)):fD:=⟨intOf (vs.getD 0 .aw),iQ Ij (vs.getD 1 .aw),intOf (vs.getD 2 .aw),intOf (vs.getD 3 .aw),intOf (vs.getD 4 .aw),intOf (vs.getD 5 .aw),K8 (fun k=>(rs.getD 0 []).getD k .aw),KN (fun k=>(rs.getD 1 []).getD k .aw),cY (fun k=>(rs.getD 2 []).getD k .aw),cY (fun k=>(rs.getD 3 []).getD k .aw),T9 (fun k=>(rs.getD 4 []).getD k .aw)⟩
def EB:aQ:=⟨[(6,⟨false,[.k (.int .i64)]⟩),(14,⟨false,[.k (.slice 45)]⟩),(15,⟨false,[.k (.int .i64)]⟩),(16,⟨false,[.k (.int .i64)]⟩),(23,⟨false,[.k (.int .i64)]⟩),(24,⟨false,[.k (.int .i64)]⟩)],[(2,[.k (.slice 45),.k (.slice 108)],1),(3,[.k (.int .i64),.k (.int .i64),.k (.int .i64),.k (.int .i64),.k (.int .i64),.k (.int .i64),.k (.int .i64),.k (.int .i64),.k (.int .i64),.k (.int .i64),.k (.int .i64),.k (.int .i64),.k (.int .i64),.k (.int .i64),.k (.int .i64),.k (.int .i64)],1),(4,[.k (.slice 45),.k (.slice 108),.bf 139],1),(5,[.k (.slice 45),.k (.slice 108),.bf 139],1),(7,[.k (.slice 41),.k (.slice 176),.k (.slice 50),.k (.int .u8),.k (.int .u8),.k (.int .u8),.k (.int .u8),.k (.int .i64),.k (.int .u8),.k (.int .i64),.k .bool,.k (.int .i64),.k (.int .i64),.k (.int .i64),.k (.int .i64),.k (.int .i64),.k (.int .i64),.k (.int .i64)],1)],[(2,0,0),(3,1,0),(4,2,0),(5,3,0),(7,4,0)]⟩
structure fR where
 i:Int
 k:Int
 t14:(Sl Item)
 t15:Int
 t16:Int
 t23:Int
 t24:Int
 t31:(Sl bt)
 t32:Int
 t33:Int
 s:Show
 c:a8
 t4:aB
 out:aB
 x:Item
instance:Inhabited fR:=⟨⟨default,default,default,default,default,default,default,default,default,default,default,default,default,default,default⟩⟩
def qm (x:fR):List KV:=[.int .i64 x.i,.int .i64 x.k,jf 45 K5 x.t14,.int .i64 x.t15,.int .i64 x.t16,.int .i64 x.t23,.int .i64 x.t24,jf 118 im x.t31,.int .i64 x.t32,.int .i64 x.t33]
def qn (x:fR):List (List KV):=[K7 x.s,KM x.c,cX x.t4,cX x.out,TZ x.x]
def Bk (vs:List KV) (rs:List (List KV)):fR:=⟨intOf (vs.getD 0 .aw),intOf (vs.getD 1 .aw),iQ Ij (vs.getD 2 .aw),intOf (vs.getD 3 .aw),intOf (vs.getD 4 .aw),intOf (vs.getD 5 .aw),intOf (vs.getD 6 .aw),iQ gz (vs.getD 7 .aw),intOf (vs.getD 8 .aw),intOf (vs.getD 9 .aw),K8 (fun k=>(rs.getD 0 []).getD k .aw),KN (fun k=>(rs.getD 1 []).getD k .aw),cY (fun k=>(rs.getD 2 []).getD k .aw),cY (fun k=>(rs.getD 3 []).getD k .aw),T9 (fun k=>(rs.getD 4 []).getD k .aw)⟩
def Ca:aQ:=⟨[(6,⟨false,[.k (.int .i64)]⟩),(8,⟨false,[.k (.int .i64)]⟩),(14,⟨false,[.k (.slice 45)]⟩),(15,⟨false,[.k (.int .i64)]⟩),(16,⟨false,[.k (.int .i64)]⟩),(23,⟨false,[.k (.int .i64)]⟩),(24,⟨false,[.k (.int .i64)]⟩),(31,⟨false,[.k (.slice 118)]⟩),(32,⟨false,[.k (.int .i64)]⟩),(33,⟨false,[.k (.int .i64)]⟩)],[(2,[.k (.slice 45),.k (.slice 108)],1),(3,[.k (.int .i64),.k (.int .i64),.k (.int .i64),.k (.int .i64),.k (.int .i64),.k (.int .i64),.k (.int .i64),.k (.int .i64),.k (.int .i64),.k (.int .i64),.k (.int .i64),.k (.int .i64),.k (.int .i64),.k (.int .i64),.k (.int .i64),.k (.int .i64)],1),(4,[.k (.slice 45),.k (.slice 108),.bf 139],1),(5,[.k (.slice 45),.k (.slice 108),.bf 139],1),(7,[.k (.slice 41),.k (.slice 176),.k (.slice 50),.k (.int .u8),.k (.int .u8),.k (.int .u8),.k (.int .u8),.k (.int .i64),.k (.int .u8),.k (.int .i64),.k .bool,.k (.int .i64),.k (.int .i64),.k (.int .i64),.k (.int .i64),.k (.int .i64),.k (.int .i64),.k (.int .i64)],1)],[(2,0,0),(3,1,0),(4,2,0),(5,3,0),(7,4,0)]⟩
def Lf:=jk Try.prog (bu Try.prog [(84,uN)] [] (fun _=>false)) 9 9 57 3827302 (fh Try.prog 57 3827302) Ca
def gR (x:fR):aI fR:=
 (cond (decide (x.t33 < x.t32))
 (cond ((decide ((0:Int)≤x.t33))&&(decide (x.t33 < ((x.t31.n:Nat):Int))))
 (cond ((av x.out.parts.n x.out.parts.n)&&(fI 168 x.out.parts.n 1))
 (cond (cond (av (x.out.parts.n+1) (x.out.parts.n+1)) (av x.t4.parts.n x.t4.parts.n) false)
 (.next (⟨x.i,x.k,x.t14,x.t15,x.t16,x.t23,x.t24,x.t31,x.t32,(aj (x.t33+(1:Int))),x.s,x.c,x.t4,(⟨x.out.cN,(x.out.parts.push (⟨(x.t31.get (Int.toNat x.t33)),(⟨x.x.look.K3,x.i,x.k,x.t33,(0:Int),(0:Int)⟩:aU)⟩:di))⟩:aB),x.x⟩:fR))
 .fail)
 .fail)
 .fail)
 (cond (cond (av x.out.parts.n x.out.parts.n) (av x.t4.parts.n x.t4.parts.n) false)
 (.out (aE.aq.exit 4) x)
 .fail))
theorem Im (x:fR):Lf (qm x) (qn x)=aI.enc qm qn (gR x):=by
 unfold gR
 try simp only [aI.dn,Ug]
 kernel_rfl
def mG:Lp:=⟨57,3827302,Ca,fun vs rs=>dL qm qn (goN gR (Bk vs rs)) [aE.aq.exit 4],false⟩
theorem uO:mG.Ok Try.prog:=eM funcs mixed (ao.cons tP ao.nil) az.nil (L:=9) (n:=9) (step:=gR) (ev:=qm) (er:=qn) (pa:=Bk) rfl (fun wv wr=>⟨by kernel_rfl,by kernel_rfl⟩) Im
theorem rI:cC Try.prog mG.f mG.p=true:=by kernel_rfl
def O7:=jk Try.prog (bu Try.prog [(84,uN)] [mG] (fun _=>false)) 9 9 57 14950 (fh Try.prog 57 14950) EB
def og (x:fD):(Option (Sl bt)):=(pe x.s x.c x.i x.t24)
def cj (x:fD):(aI fR):=(goN gR (⟨x.i,x.t24,x.t14,x.t15,x.t16,x.t23,x.t24,((og x).getD default),((((og x).getD default).n:Nat):Int),(0:Int),x.s,x.c,x.t4,x.out,x.x⟩:fR))
def iR (x:fD):aI fD:=
 (cond (decide (x.t24 < x.t23))
 (cond (og x).isSome
 (cond (cond (av x.out.parts.n x.out.parts.n) (av x.t4.parts.n x.t4.parts.n) false)
 (cond ((cj x).by (aE.aq.exit 4))
 (cond (cond (av (cj x).st.out.parts.n (cj x).st.out.parts.n) (av (cj x).st.t4.parts.n (cj x).st.t4.parts.n) false)
 (.next (⟨(cj x).st.i,(cj x).st.t14,(cj x).st.t15,(cj x).st.t16,(cj x).st.t23,(aj ((cj x).st.t24+(1:Int))),(cj x).st.s,(cj x).st.c,(cj x).st.t4,(cj x).st.out,(cj x).st.x⟩:fD))
 .fail)
 .fail)
 .fail)
 .fail)
 (cond (cond (av x.out.parts.n x.out.parts.n) (av x.t4.parts.n x.t4.parts.n) false)
 (.out (aE.aq.exit 2) x)
 .fail))
theorem Lg (x:fD):O7 (sG x) (sH x)=aI.enc sG sH (iR x):=by
 unfold iR
 try simp only [aI.dn]
 kernel_rfl
def qo:Lp:=⟨57,14950,EB,fun vs rs=>dL sG sH (goN iR (Dw vs rs)) [aE.aq.exit 2],false⟩
theorem Dx:qo.Ok Try.prog:=eM funcs mixed (ao.cons tP ao.nil) (az.cons uO rI az.nil) (L:=9) (n:=9) (step:=iR) (ev:=sG) (er:=sH) (pa:=Dw) rfl (fun wv wr=>⟨by kernel_rfl,by kernel_rfl⟩) Lg
theorem zH:cC Try.prog qo.f qo.p=true:=by kernel_rfl
def Wv:=jk Try.prog (bu Try.prog [(84,uN)] [mG,qo] (fun _=>false)) 9 9 57 58 (fh Try.prog 57 58) Le
def eG (x:ji):(aI fD):=(goN iR (⟨x.t16,x.t14,x.t15,x.t16,(((x.t14.get (Int.toNat x.t16)).fQ.n:Nat):Int),(0:Int),x.s,x.c,x.t4,x.out,(x.t14.get (Int.toNat x.t16))⟩:fD))
def kL (x:ji):aI ji:=
 (cond (decide (x.t16 < x.t15))
 (cond ((decide ((0:Int)≤x.t16))&&(decide (x.t16 < ((x.t14.n:Nat):Int))))
 (cond (cond (av x.out.parts.n x.out.parts.n) (av x.t4.parts.n x.t4.parts.n) false)
 (cond ((eG x).by (aE.aq.exit 2))
 (cond (cond (av (eG x).st.out.parts.n (eG x).st.out.parts.n) (av (eG x).st.t4.parts.n (eG x).st.t4.parts.n) false)
 (.next (⟨(eG x).st.t14,(eG x).st.t15,(aj ((eG x).st.t16+(1:Int))),(eG x).st.s,(eG x).st.c,(eG x).st.t4,(eG x).st.out⟩:ji))
 .fail)
 .fail)
 .fail)
 .fail)
 (cond (cond (av x.out.parts.n x.out.parts.n) (av x.t4.parts.n x.t4.parts.n) false)
 (.out (aE.aq.exit 0) x)
 .fail))
theorem RS (x:ji):Wv (xh x) (xi x)=aI.enc xh xi (kL x):=by
 unfold kL
 try simp only [aI.dn]
 kernel_rfl
def zi:Lp:=⟨57,58,Le,fun vs rs=>dL xh xi (goN kL (Jg vs rs)) [aE.aq.exit 0],false⟩
theorem Ww:zi.Ok Try.prog:=eM funcs mixed (ao.cons tP ao.nil) (az.cons uO rI (az.cons Dx zH az.nil)) (L:=9) (n:=9) (step:=kL) (ev:=xh) (er:=xi) (pa:=Jg) rfl (fun wv wr=>⟨by kernel_rfl,by kernel_rfl⟩) RS
theorem O8:cC Try.prog zi.f zi.p=true:=by kernel_rfl
def RT:List (Nat×(List KV→KR KV)):=[(84,uN)]
def RU:List Lp:=[mG,qo,zi]
theorem Z3:ao Try.prog RT:=(ao.cons tP ao.nil)
theorem Z4:az Try.prog RU:=(az.cons uO rI (az.cons Dx zH (az.cons Ww O8 az.nil)))
def AV (s:Show) (c:a8):(aI ji):=(goN kL (⟨s.items,((s.items.n:Nat):Int),(0:Int),s,c,(⟨(⟨(⟨0,(fun i=>(⟨(⟨0,(fun i=>(⟨(0:Int),(0:Int),(0:Int)⟩:eE))⟩:Sl _),(⟨0,(fun i=>(⟨(0:Int),(0:Int)⟩:xe))⟩:Sl _),(⟨0,(fun i=>(⟨(0:Int),(0:Int),(0:Int)⟩:fj))⟩:Sl _),(⟨(⟨(0:Int),(0:Int),(0:Int),(0:Int)⟩:Color),(0:Int),(0:Int),(0:Int),false,(0:Int)⟩:uK),(⟨(⟨(0:Int),(0:Int),(0:Int)⟩:eE),(⟨(0:Int),(0:Int),(0:Int)⟩:eE)⟩:ua)⟩:Item))⟩:Sl _),(⟨0,(fun i=>(⟨(0:Int),(0:Int),(⟨0,(fun i=>(⟨(0:Int),(0:Int),(0:Int),(0:Int)⟩:Color))⟩:Sl _)⟩:eC))⟩:Sl _)⟩:Show),(⟨0,(fun i=>(⟨(⟨(⟨(0:Int),(0:Int),(0:Int),(0:Int),(0:Int)⟩:fU),(⟨(0:Int),(0:Int),(0:Int),(0:Int),(0:Int)⟩:fU),(⟨(0:Int),(0:Int),(0:Int),(0:Int),(0:Int)⟩:fU)⟩:bt),(⟨(0:Int),(0:Int),(0:Int),(0:Int),(0:Int),(0:Int)⟩:aU)⟩:di))⟩:Sl _)⟩:aB),(⟨s,(⟨0,(fun i=>(⟨(⟨(⟨(0:Int),(0:Int),(0:Int),(0:Int),(0:Int)⟩:fU),(⟨(0:Int),(0:Int),(0:Int),(0:Int),(0:Int)⟩:fU),(⟨(0:Int),(0:Int),(0:Int),(0:Int),(0:Int)⟩:fU)⟩:bt),(⟨(0:Int),(0:Int),(0:Int),(0:Int),(0:Int),(0:Int)⟩:aU)⟩:di))⟩:Sl _)⟩:aB)⟩:ji))
def qp (s:Show) (c:a8):Option (aB):=
 (cond ((AV s c).by (aE.aq.exit 0))
 (some ((AV s c).st.out))
 none)
theorem aa1 (s:Show) (c:a8):dp Try.prog (bu Try.prog RT RU (fun _=>false)) 9 9 57 [pP s,jB c] = (qp s c).map l9:=by
 unfold qp
 try simp only [ch]
 kernel_rfl
def VB:List KV→KR KV:=cA Try.prog 57 (cF l9 fun vs=>qp (mv (vs.getD 0 .aw)) (gn (vs.getD 1 .aw)))
theorem Z5 (w:Nat→KV):cM Try.prog [25,53] w 0 = [pP (mv (ay Try.prog (ak Try.prog au) 25 (w 0))),jB (gn (ay Try.prog (ak Try.prog au) 53 (w 1)))]:=by kernel_rfl
theorem Z6:ca Try.prog 57 VB:=aY funcs mixed Z3 Z4 (L:=9) (n:=9) fun w=>by
 have e:aJ Try.prog 57 = [25,53]:=by kernel_rfl
 rw [e,Z5]
 exact (aa1 (mv (ay Try.prog (ak Try.prog au) 25 (w 0))) (gn (ay Try.prog (ak Try.prog au) 53 (w 1)))).trans (by kernel_rfl)
def RV:List (Nat×(List KV→KR KV)):=[(57,VB),(56,Ld)]
def RW:List Lp:=[]
theorem Z7:ao Try.prog RV:=(ao.cons Z6 (ao.cons RR ao.nil))
theorem Z8:az Try.prog RW:=az.nil
def AW (s:Show) (c:a8) (x:Int) (y:Int):(Option Int):=(jX s c)
def Fl (s:Show) (c:a8) (x:Int) (y:Int):(Option aB):=(qp s c)
def oH (s:Show) (c:a8) (x:Int) (y:Int):Option (aB×Int):=
 (cond (AW s c x y).isSome
 (cond (((AW s c x y).getD default) != (0:Int))
 (some ((⟨(⟨(⟨0,(fun i=>(⟨(⟨0,(fun i=>(⟨(0:Int),(0:Int),(0:Int)⟩:eE))⟩:Sl _),(⟨0,(fun i=>(⟨(0:Int),(0:Int)⟩:xe))⟩:Sl _),(⟨0,(fun i=>(⟨(0:Int),(0:Int),(0:Int)⟩:fj))⟩:Sl _),(⟨(⟨(0:Int),(0:Int),(0:Int),(0:Int)⟩:Color),(0:Int),(0:Int),(0:Int),false,(0:Int)⟩:uK),(⟨(⟨(0:Int),(0:Int),(0:Int)⟩:eE),(⟨(0:Int),(0:Int),(0:Int)⟩:eE)⟩:ua)⟩:Item))⟩:Sl _),(⟨0,(fun i=>(⟨(0:Int),(0:Int),(⟨0,(fun i=>(⟨(0:Int),(0:Int),(0:Int),(0:Int)⟩:Color))⟩:Sl _)⟩:eC))⟩:Sl _)⟩:Show),(⟨0,(fun i=>(⟨(⟨(⟨(0:Int),(0:Int),(0:Int),(0:Int),(0:Int)⟩:fU),(⟨(0:Int),(0:Int),(0:Int),(0:Int),(0:Int)⟩:fU),(⟨(0:Int),(0:Int),(0:Int),(0:Int),(0:Int)⟩:fU)⟩:bt),(⟨(0:Int),(0:Int),(0:Int),(0:Int),(0:Int),(0:Int)⟩:aU)⟩:di))⟩:Sl _)⟩:aB),((AW s c x y).getD default)))
 (cond (decide (x < (0:Int)))
 (some ((⟨(⟨(⟨0,(fun i=>(⟨(⟨0,(fun i=>(⟨(0:Int),(0:Int),(0:Int)⟩:eE))⟩:Sl _),(⟨0,(fun i=>(⟨(0:Int),(0:Int)⟩:xe))⟩:Sl _),(⟨0,(fun i=>(⟨(0:Int),(0:Int),(0:Int)⟩:fj))⟩:Sl _),(⟨(⟨(0:Int),(0:Int),(0:Int),(0:Int)⟩:Color),(0:Int),(0:Int),(0:Int),false,(0:Int)⟩:uK),(⟨(⟨(0:Int),(0:Int),(0:Int)⟩:eE),(⟨(0:Int),(0:Int),(0:Int)⟩:eE)⟩:ua)⟩:Item))⟩:Sl _),(⟨0,(fun i=>(⟨(0:Int),(0:Int),(⟨0,(fun i=>(⟨(0:Int),(0:Int),(0:Int),(0:Int)⟩:Color))⟩:Sl _)⟩:eC))⟩:Sl _)⟩:Show),(⟨0,(fun i=>(⟨(⟨(⟨(0:Int),(0:Int),(0:Int),(0:Int),(0:Int)⟩:fU),(⟨(0:Int),(0:Int),(0:Int),(0:Int),(0:Int)⟩:fU),(⟨(0:Int),(0:Int),(0:Int),(0:Int),(0:Int)⟩:fU)⟩:bt),(⟨(0:Int),(0:Int),(0:Int),(0:Int),(0:Int),(0:Int)⟩:aU)⟩:di))⟩:Sl _)⟩:aB),(2:Int)))
 (cond (decide (x ≥ c.w))
 (some ((⟨(⟨(⟨0,(fun i=>(⟨(⟨0,(fun i=>(⟨(0:Int),(0:Int),(0:Int)⟩:eE))⟩:Sl _),(⟨0,(fun i=>(⟨(0:Int),(0:Int)⟩:xe))⟩:Sl _),(⟨0,(fun i=>(⟨(0:Int),(0:Int),(0:Int)⟩:fj))⟩:Sl _),(⟨(⟨(0:Int),(0:Int),(0:Int),(0:Int)⟩:Color),(0:Int),(0:Int),(0:Int),false,(0:Int)⟩:uK),(⟨(⟨(0:Int),(0:Int),(0:Int)⟩:eE),(⟨(0:Int),(0:Int),(0:Int)⟩:eE)⟩:ua)⟩:Item))⟩:Sl _),(⟨0,(fun i=>(⟨(0:Int),(0:Int),(⟨0,(fun i=>(⟨(0:Int),(0:Int),(0:Int),(0:Int)⟩:Color))⟩:Sl _)⟩:eC))⟩:Sl _)⟩:Show),(⟨0,(fun i=>(⟨(⟨(⟨(0:Int),(0:Int),(0:Int),(0:Int),(0:Int)⟩:fU),(⟨(0:Int),(0:Int),(0:Int),(0:Int),(0:Int)⟩:fU),(⟨(0:Int),(0:Int),(0:Int),(0:Int),(0:Int)⟩:fU)⟩:bt),(⟨(0:Int),(0:Int),(0:Int),(0:Int),(0:Int),(0:Int)⟩:aU)⟩:di))⟩:Sl _)⟩:aB),(2:Int)))
 (cond (decide (y < (0:Int)))
 (some ((⟨(⟨(⟨0,(fun i=>(⟨(⟨0,(fun i=>(⟨(0:Int),(0:Int),(0:Int)⟩:eE))⟩:Sl _),(⟨0,(fun i=>(⟨(0:Int),(0:Int)⟩:xe))⟩:Sl _),(⟨0,(fun i=>(⟨(0:Int),(0:Int),(0:Int)⟩:fj))⟩:Sl _),(⟨(⟨(0:Int),(0:Int),(0:Int),(0:Int)⟩:Color),(0:Int),(0:Int),(0:Int),false,(0:Int)⟩:uK),(⟨(⟨(0:Int),(0:Int),(0:Int)⟩:eE),(⟨(0:Int),(0:Int),(0:Int)⟩:eE)⟩:ua)⟩:Item))⟩:Sl _),(⟨0,(fun i=>(⟨(0:Int),(0:Int),(⟨0,(fun i=>(⟨(0:Int),(0:Int),(0:Int),(0:Int)⟩:Color))⟩:Sl _)⟩:eC))⟩:Sl _)⟩:Show),(⟨0,(fun i=>(⟨(⟨(⟨(0:Int),(0:Int),(0:Int),(0:Int),(0:Int)⟩:fU),(⟨(0:Int),(0:Int),(0:Int),(0:Int),(0:Int)⟩:fU),(⟨(0:Int),(0:Int),(0:Int),(0:Int),(0:Int)⟩:fU)⟩:bt),(⟨(0:Int),(0:Int),(0:Int),(0:Int),(0:Int),(0:Int)⟩:aU)⟩:di))⟩:Sl _)⟩:aB),(2:Int)))
 (cond (decide (y ≥ c.h))
 (some ((⟨(⟨(⟨0,(fun i=>(⟨(⟨0,(fun i=>(⟨(0:Int),(0:Int),(0:Int)⟩:eE))⟩:Sl _),(⟨0,(fun i=>(⟨(0:Int),(0:Int)⟩:xe))⟩:Sl _),(⟨0,(fun i=>(⟨(0:Int),(0:Int),(0:Int)⟩:fj))⟩:Sl _),(⟨(⟨(0:Int),(0:Int),(0:Int),(0:Int)⟩:Color),(0:Int),(0:Int),(0:Int),false,(0:Int)⟩:uK),(⟨(⟨(0:Int),(0:Int),(0:Int)⟩:eE),(⟨(0:Int),(0:Int),(0:Int)⟩:eE)⟩:ua)⟩:Item))⟩:Sl _),(⟨0,(fun i=>(⟨(0:Int),(0:Int),(⟨0,(fun i=>(⟨(0:Int),(0:Int),(0:Int),(0:Int)⟩:Color))⟩:Sl _)⟩:eC))⟩:Sl _)⟩:Show),(⟨0,(fun i=>(⟨(⟨(⟨(0:Int),(0:Int),(0:Int),(0:Int),(0:Int)⟩:fU),(⟨(0:Int),(0:Int),(0:Int),(0:Int),(0:Int)⟩:fU),(⟨(0:Int),(0:Int),(0:Int),(0:Int),(0:Int)⟩:fU)⟩:bt),(⟨(0:Int),(0:Int),(0:Int),(0:Int),(0:Int),(0:Int)⟩:aU)⟩:di))⟩:Sl _)⟩:aB),(2:Int)))
 (cond (Fl s c x y).isSome
 (some (((Fl s c x y).getD default),(0:Int)))
 none))))))
 none)
theorem aa2 (s:Show) (c:a8) (x:Int) (y:Int):dp Try.prog (bu Try.prog RV RW (fun _=>false)) 9 9 40 [pP s,jB c,(kI .i64) x,(kI .i64) y] = (oH s c x y).map (fun (r:aB×Int)=>KV.jI [l9 r.1,(kI .i64) r.2]):=by
 unfold oH
 try simp only [ch]
 kernel_rfl
def Bm:List KV→KR KV:=cA Try.prog 40 (cF (fun (r:aB×Int)=>KV.jI [l9 r.1,(kI .i64) r.2]) fun vs=>oH (mv (vs.getD 0 .aw)) (gn (vs.getD 1 .aw)) (intOf (vs.getD 2 .aw)) (intOf (vs.getD 3 .aw)))
theorem Z9 (w:Nat→KV):cM Try.prog [25,53,3,3] w 0 = [pP (mv (ay Try.prog (ak Try.prog au) 25 (w 0))),jB (gn (ay Try.prog (ak Try.prog au) 53 (w 1))),(kI .i64) (intOf (ay Try.prog (ak Try.prog au) 3 (w 2))),(kI .i64) (intOf (ay Try.prog (ak Try.prog au) 3 (w 3)))]:=by kernel_rfl
theorem zj:ca Try.prog 40 Bm:=aY funcs mixed Z7 Z8 (L:=9) (n:=9) fun w=>by
 have e:aJ Try.prog 40 = [25,53,3,3]:=by kernel_rfl
 rw [e,Z9]
 exact (aa2 (mv (ay Try.prog (ak Try.prog au) 25 (w 0))) (gn (ay Try.prog (ak Try.prog au) 53 (w 1))) (intOf (ay Try.prog (ak Try.prog au) 3 (w 2))) (intOf (ay Try.prog (ak Try.prog au) 3 (w 3)))).trans (by kernel_rfl)
structure bn where
 x:Int
 y:Int
 t14:(Sl di)
 t15:Int
 t16:Int
 dU:(Sl aU)
instance:Inhabited bn:=⟨⟨default,default,default,default,default,default⟩⟩
def gH (x:bn):List KV:=[.int .i64 x.x,.int .i64 x.y,.fn (.func 42) [] [.ptr 0 0],jf 139 sE x.t14,.int .i64 x.t15,.int .i64 x.t16]
def gI (x:bn):List (List KV):=[[jf 58 iJ x.dU]]
def np (vs:List KV) (rs:List (List KV)):bn:=⟨intOf (vs.getD 0 .aw),intOf (vs.getD 1 .aw),iQ sF (vs.getD 3 .aw),intOf (vs.getD 4 .aw),intOf (vs.getD 5 .aw),iQ jh ((rs.getD 0 []).getD 0 .aw)⟩
def nF:aQ:=⟨[(1,⟨false,[.k (.int .i64)]⟩),(2,⟨false,[.k (.int .i64)]⟩),(3,⟨false,[.ref (.fn (.func 42) [] [.ptr 0 0])]⟩),(14,⟨false,[.k (.slice 139)]⟩),(15,⟨false,[.k (.int .i64)]⟩),(16,⟨false,[.k (.int .i64)]⟩)],[(100003,[.bf 58],1)],[]⟩
def ub:=jk Try.prog (bu Try.prog [(66,rW),(40,Bm)] [] (fun _=>false)) 9 9 41 14 (fh Try.prog 41 14) nF
def df (x:bn):(Option (Prod fU Int)):=(mM (x.t14.get (Int.toNat x.t16)).t x.x x.y)
def cn (x:bn):aI bn:=
 (cond (decide (x.t16 < x.t15))
 (cond ((decide ((0:Int)≤x.t16))&&(decide (x.t16 < ((x.t14.n:Nat):Int))))
 (cond (df x).isSome
 (cond (((df x).getD default).snd==(0:Int))
 (cond ((av x.dU.n x.dU.n)&&(fI 48 x.dU.n 1))
 (cond (av x.dU.n x.dU.n)
 (.next (⟨x.x,x.y,x.t14,x.t15,(aj (x.t16+(1:Int))),(x.dU.push (⟨(aj ((x.t14.get (Int.toNat x.t16)).cU.d+((df x).getD default).fst.d)),(x.t14.get (Int.toNat x.t16)).cU.item,(x.t14.get (Int.toNat x.t16)).cU.gW,(x.t14.get (Int.toNat x.t16)).cU.part,((df x).getD default).fst.u,((df x).getD default).fst.v⟩:aU))⟩:bn))
 .fail)
 .fail)
 (cond (av x.dU.n x.dU.n)
 (.next (⟨x.x,x.y,x.t14,x.t15,(aj (x.t16+(1:Int))),x.dU⟩:bn))
 .fail))
 .fail)
 .fail)
 (cond (av x.dU.n x.dU.n)
 (.out (aE.aq.exit 0) x)
 .fail))
theorem sX (x:bn):ub (gH x) (gI x)=aI.enc gH gI (cn x):=by
 unfold cn
 try simp only [aI.dn,Z0]
 kernel_rfl
def gS:Lp:=⟨41,14,nF,fun vs rs=>dL gH gI (goN cn (np vs rs)) [aE.aq.exit 0],false⟩
theorem uc:gS.Ok Try.prog:=eM funcs mixed (ao.cons o9 (ao.cons zj ao.nil)) az.nil (L:=9) (n:=9) (step:=cn) (ev:=gH) (er:=gI) (pa:=np) rfl (fun wv wr=>⟨by kernel_rfl,by kernel_rfl⟩) sX
theorem sI:cC Try.prog gS.f gS.p=true:=by kernel_rfl
def Jh:List (Nat×(List KV→KR KV)):=[(66,rW),(40,Bm)]
def Ji:List Lp:=[gS]
theorem RX:ao Try.prog Jh:=(ao.cons o9 (ao.cons zj ao.nil))
theorem RY:az Try.prog Ji:=(az.cons uc sI az.nil)
def ng (s:Show) (c:a8) (x:Int) (y:Int):(Option (Prod aB Int)):=(oH s c x y)
def oU (s:Show) (c:a8) (x:Int) (y:Int):(aI bn):=(goN cn (⟨x,y,((ng s c x y).getD default).fst.parts,((((ng s c x y).getD default).fst.parts.n:Nat):Int),(0:Int),(⟨0,(fun i=>(⟨(0:Int),(0:Int),(0:Int),(0:Int),(0:Int),(0:Int)⟩:aU))⟩:Sl _)⟩:bn))
def mz (s:Show) (c:a8) (x:Int) (y:Int):Option ((Sl aU)×Int):=
 (cond (ng s c x y).isSome
 (cond (((ng s c x y).getD default).snd==(0:Int))
 (cond ((oU s c x y).by (aE.aq.exit 0))
 (some ((oU s c x y).st.dU,((ng s c x y).getD default).snd))
 none)
 (some ((⟨0,(fun i=>(⟨(0:Int),(0:Int),(0:Int),(0:Int),(0:Int),(0:Int)⟩:aU))⟩:Sl _),((ng s c x y).getD default).snd)))
 none)
theorem Uh (s:Show) (c:a8) (x:Int) (y:Int):dp Try.prog (bu Try.prog Jh Ji (fun _=>false)) 9 9 15 [pP s,jB c,(kI .i64) x,(kI .i64) y] = (mz s c x y).map (fun (r:(Sl aU)×Int)=>KV.jI [(jf 58 iJ) r.1,(kI .i64) r.2]):=by
 unfold mz
 try simp only [ch]
 kernel_rfl
def zk:List KV→KR KV:=cA Try.prog 15 (cF (fun (r:(Sl aU)×Int)=>KV.jI [(jf 58 iJ) r.1,(kI .i64) r.2]) fun vs=>mz (mv (vs.getD 0 .aw)) (gn (vs.getD 1 .aw)) (intOf (vs.getD 2 .aw)) (intOf (vs.getD 3 .aw)))
theorem RZ (w:Nat→KV):cM Try.prog [25,53,3,3] w 0 = [pP (mv (ay Try.prog (ak Try.prog au) 25 (w 0))),jB (gn (ay Try.prog (ak Try.prog au) 53 (w 1))),(kI .i64) (intOf (ay Try.prog (ak Try.prog au) 3 (w 2))),(kI .i64) (intOf (ay Try.prog (ak Try.prog au) 3 (w 3)))]:=by kernel_rfl
theorem zl:ca Try.prog 15 zk:=aY funcs mixed RX RY (L:=9) (n:=9) fun w=>by
 have e:aJ Try.prog 15 = [25,53,3,3]:=by kernel_rfl
 rw [e,RZ]
 exact (Uh (mv (ay Try.prog (ak Try.prog au) 25 (w 0))) (gn (ay Try.prog (ak Try.prog au) 53 (w 1))) (intOf (ay Try.prog (ak Try.prog au) 3 (w 2))) (intOf (ay Try.prog (ak Try.prog au) 3 (w 3)))).trans (by kernel_rfl)
structure j8 where
 l:(Sl eC)
 n:Int
 i:Int
instance:Inhabited j8:=⟨⟨default,default,default⟩⟩
def vx (x:j8):List KV:=[jf 108 nS x.l,.int .i64 x.n,.int .i64 x.i]
def vy (x:j8):List (List KV):=[]
def GB (vs:List KV) (rs:List (List KV)):j8:=⟨iQ kk (vs.getD 0 .aw),intOf (vs.getD 1 .aw),intOf (vs.getD 2 .aw)⟩
def Jj:aQ:=⟨[(0,⟨false,[.k (.slice 108)]⟩),(3,⟨false,[.k (.int .i64)]⟩),(4,⟨false,[.k (.int .i64)]⟩)],[],[]⟩
def Ui:=jk Try.prog (bu Try.prog [] [] (fun _=>false)) 9 9 31 58 (fh Try.prog 31 58) Jj
def lH (x:j8):aI j8:=
 (cond (decide (x.i < ((x.l.n:Nat):Int)))
 (cond (decide (x.i < (100:Int)))
 (cond ((decide ((0:Int)≤x.i))&&(decide (x.i < ((x.l.n:Nat):Int))))
 (.next (⟨x.l,(aj (x.n+(min (((x.l.get (Int.toNat x.i)).Eu.n:Nat):Int) (100000:Int)))),(aj (x.i+(1:Int)))⟩:j8))
 .fail)
 (.out (aE.aq.exit 0) x))
 (.out (aE.aq.exit 0) x))
theorem O9 (x:j8):Ui (vx x) (vy x)=aI.enc vx vy (lH x):=by
 unfold lH
 try simp only [aI.dn]
 kernel_rfl
def xj:Lp:=⟨31,58,Jj,fun vs rs=>dL vx vy (goN lH (GB vs rs)) [aE.aq.exit 0],false⟩
theorem Uj:xj.Ok Try.prog:=eM funcs mixed ao.nil az.nil (L:=9) (n:=9) (step:=lH) (ev:=vx) (er:=vy) (pa:=GB) rfl (fun wv wr=>⟨by kernel_rfl,by kernel_rfl⟩) O9
theorem ML:cC Try.prog xj.f xj.p=true:=by kernel_rfl
def NF:List (Nat×(List KV→KR KV)):=[]
def NG:List Lp:=[xj]
theorem Wx:ao Try.prog NF:=ao.nil
theorem Wy:az Try.prog NG:=(az.cons Uj ML az.nil)
def rJ (l:(Sl eC)):(aI j8):=(goN lH (⟨l,(0:Int),(0:Int)⟩:j8))
def vz (l:(Sl eC)):Option (Bool):=
 (cond ((rJ l).by (aE.aq.exit 0))
 (cond (decide ((((rJ l).st.l.n:Nat):Int) > (40:Int)))
 (some (true))
 (some ((decide ((rJ l).st.n > (20000:Int))))))
 none)
theorem aaa (l:(Sl eC)):dp Try.prog (bu Try.prog NF NG (fun _=>false)) 9 9 31 [(jf 108 nS) l] = (vz l).map kB:=by
 unfold vz
 try simp only [ch]
 kernel_rfl
def Ip:List KV→KR KV:=cA Try.prog 31 (cF kB fun vs=>vz ((iQ kk) (vs.getD 0 .aw)))
theorem Wz (w:Nat→KV):cM Try.prog [23] w 0 = [(jf 108 nS) ((iQ kk) (ay Try.prog (ak Try.prog au) 23 (w 0)))]:=by kernel_rfl
theorem Jk:ca Try.prog 31 Ip:=aY funcs mixed Wx Wy (L:=9) (n:=9) fun w=>by
 have e:aJ Try.prog 31 = [23]:=by kernel_rfl
 rw [e,Wz]
 exact (aaa ((iQ kk) (ay Try.prog (ak Try.prog au) 23 (w 0)))).trans (by kernel_rfl)
structure j9 where
 n:Int
 i:Int
 s:Show
instance:Inhabited j9:=⟨⟨default,default,default⟩⟩
def vA (x:j9):List KV:=[.int .i64 x.n,.int .i64 x.i]
def vB (x:j9):List (List KV):=[K7 x.s]
def GC (vs:List KV) (rs:List (List KV)):j9:=⟨intOf (vs.getD 0 .aw),intOf (vs.getD 1 .aw),K8 (fun k=>(rs.getD 0 []).getD k .aw)⟩
def Jl:aQ:=⟨[(3,⟨false,[.k (.int .i64)]⟩),(4,⟨false,[.k (.int .i64)]⟩)],[(1,[.k (.slice 45),.k (.slice 108)],1)],[(1,0,0)]⟩
def Uk:=jk Try.prog (bu Try.prog [(31,Ip)] [] (fun _=>false)) 9 9 10 58 (fh Try.prog 10 58) Jl
def lI (x:j9):aI j9:=
 (cond (decide (x.i < ((x.s.items.n:Nat):Int)))
 (cond (decide (x.i < (300:Int)))
 (cond ((decide ((0:Int)≤x.i))&&(decide (x.i < ((x.s.items.n:Nat):Int))))
 (cond ((decide ((0:Int)≤x.i))&&(decide (x.i < ((x.s.items.n:Nat):Int))))
 (cond ((decide ((0:Int)≤x.i))&&(decide (x.i < ((x.s.items.n:Nat):Int))))
 (.next (⟨(aj ((aj ((aj (x.n+(min (((x.s.items.get (Int.toNat x.i)).gF.n:Nat):Int) (10000:Int))))+(min (((x.s.items.get (Int.toNat x.i)).uV.n:Nat):Int) (10000:Int))))+(aj ((2:Int) * (min (((x.s.items.get (Int.toNat x.i)).fQ.n:Nat):Int) (10000:Int)))))),(aj (x.i+(1:Int))),x.s⟩:j9))
 .fail)
 .fail)
 .fail)
 (.out (aE.aq.exit 0) x))
 (.out (aE.aq.exit 0) x))
theorem Pa (x:j9):Uk (vA x) (vB x)=aI.enc vA vB (lI x):=by
 unfold lI
 try simp only [aI.dn]
 kernel_rfl
def xk:Lp:=⟨10,58,Jl,fun vs rs=>dL vA vB (goN lI (GC vs rs)) [aE.aq.exit 0],false⟩
theorem Ul:xk.Ok Try.prog:=eM funcs mixed (ao.cons Jk ao.nil) az.nil (L:=9) (n:=9) (step:=lI) (ev:=vA) (er:=vB) (pa:=GC) rfl (fun wv wr=>⟨by kernel_rfl,by kernel_rfl⟩) Pa
theorem MM:cC Try.prog xk.f xk.p=true:=by kernel_rfl
def NH:List (Nat×(List KV→KR KV)):=[(31,Ip)]
def NI:List Lp:=[xk]
theorem WA:ao Try.prog NH:=(ao.cons Jk ao.nil)
theorem WB:az Try.prog NI:=(az.cons Ul MM az.nil)
def pf (s:Show):(aI j9):=(goN lI (⟨(0:Int),(0:Int),s⟩:j9))
def Dy (s:Show):(Option Bool):=(vz (pf s).st.s.aK)
def vC (s:Show):Option (Bool):=
 (cond ((pf s).by (aE.aq.exit 0))
 (cond (decide ((((pf s).st.s.items.n:Nat):Int) > (260:Int)))
 (some (true))
 (cond (decide ((pf s).st.n > (800:Int)))
 (some (true))
 (cond (Dy s).isSome
 (some (((Dy s).getD default)))
 none)))
 none)
theorem aab (s:Show):dp Try.prog (bu Try.prog NH NI (fun _=>false)) 9 9 10 [pP s] = (vC s).map kB:=by
 unfold vC
 try simp only [ch]
 kernel_rfl
def Cw:List KV→KR KV:=cA Try.prog 10 (cF kB fun vs=>vC (mv (vs.getD 0 .aw)))
theorem WC (w:Nat→KV):cM Try.prog [25] w 0 = [pP (mv (ay Try.prog (ak Try.prog au) 25 (w 0)))]:=by kernel_rfl
theorem BO:ca Try.prog 10 Cw:=aY funcs mixed WA WB (L:=9) (n:=9) fun w=>by
 have e:aJ Try.prog 10 = [25]:=by kernel_rfl
 rw [e,WC]
 exact (aab (mv (ay Try.prog (ak Try.prog au) 25 (w 0)))).trans (by kernel_rfl)
end
end Go.Proofs.Ytahhdndhkgbcjaa.b
end
section
namespace Go.K
open Go Go.aE
theorem aI.ae8 {X:Type} {step:X→aI X} {I:Nat→X→Prop} {Q:aq→X→Prop} {n:Nat}
  (h:∀ j x,j≤n→I j x→(∃ x',step x = .next x'∧j < n∧I (j+1) x')∨∃ e x',step x = .out e x'∧x8 e=false∧Q e x') :
  ∀ (r j:Nat) (x:X),j+r=n→I j x→∀ N,r < N→∃ e x',aI.go step N x = .out e x'∧Q e x'
 | r,j,x,hj,hI,0,hN=>by omega
 | r,j,x,hj,hI,N+1,hN=>by
  rcases h j x (by omega) hI with ⟨x',h1,h2,h3⟩ | ⟨e,x',h1,h2,h3⟩
  ·obtain ⟨r',rfl⟩:∃ r',r=r' + 1:=⟨r - 1,by omega⟩
   obtain ⟨e,y,h4,h5⟩:=aI.ae8 h r' (j+1) x' (by omega) h3 N (by omega)
   exact ⟨e,y,by simp only [aI.go,h1,h4],h5⟩
  ·exact ⟨e,x',by simp only [aI.go,h1,h2,cond_false],h3⟩
theorem dE {X:Type} {step:X→aI X} (I:Nat→X→Prop) (Q:aq→X→Prop) (n:Nat) (hn:n < m6)
  (h:∀ j x,j≤n→I j x→(∃ x',step x = .next x'∧j < n∧I (j+1) x')∨∃ e x',step x = .out e x'∧x8 e=false∧Q e x') {x:X} (h0:I 0 x) :
  ∃ e x',goN step x = .out e x'∧Q e x':=aI.ae8 h n 0 x (by omega) h0 m6 hn
theorem aI.jC {X:Type} (e:aq) (x:X) (e' : aq):(aI.out e x).by e' = fc e e':=rfl
theorem aI.jL {X:Type} [Inhabited X] (e:aq) (x:X):(aI.out e x).st=x:=rfl
theorem xl {n:Int} (h : -9223372036854775808≤n) (h' : n < 9223372036854775808):aj n=n:=by
 show IntKind.wrap .i64 n=n
 unfold IntKind.wrap
 by_cases hn:0≤n
 ·have h1:n % (2 ^ IntKind.i64.bits:Int)=n:=Int.emod_eq_of_lt hn (by show n < 18446744073709551616; omega)
  simp only [h1]
  rw [if_neg]
  intro hc
  simp only [Bool.and_eq_true,decide_eq_true_eq] at hc
  have:n ≥ 9223372036854775808:=hc.2
  omega
 ·have h1:n % (2 ^ IntKind.i64.bits:Int)=n+18446744073709551616:=by
   show n % 18446744073709551616=n+18446744073709551616
   omega
  simp only [h1]
  rw [if_pos]
  ·show n+18446744073709551616 - 18446744073709551616=n
   omega
  ·simp only [Bool.and_eq_true,decide_eq_true_eq]
   refine ⟨rfl,?_⟩
   show n+18446744073709551616 ≥ 9223372036854775808
   omega
theorem Iq {b n m:Nat} (hb:b≤1000000) (hn:n≤1000000) (hm:m≤1000000) (h:0 < m∨n=0):fI b n m=true:=by
 unfold fI
 simp only [Bool.and_eq_true,Bool.or_eq_true]
 refine ⟨⟨Nat.ble_eq_true_of_le ?_,Nat.ble_eq_true_of_le (by omega)⟩,?_⟩
 ·calc (n+m+512) * b≤2000512 * 1000000:=Nat.mul_le_mul (by omega) hb
   _≤17592186044416:=by decide
 ·rcases h with h | h
  ·exact .inl (by rw [Nat.blt_eq]; exact h)
  ·exact .inr (by subst h; rfl)
@[simp] theorem bc (n:Nat):av n n=true:=Nat.beq_refl n
theorem Sl.EC {α:Type} [Inhabited α] (s:Sl α) (v:α):(s.push v).n=s.n+1:=rfl
theorem Sl.ah6 {α:Type} [Inhabited α] {s:Sl α} {v:α} {i:Nat} (h:i < s.n):(s.push v).get i=s.get i:=by
 have:Nat.blt i s.n=true:=by rw [Nat.blt_eq]; exact h
 simp only [Sl.push,this,cond_true]
theorem Sl.ah7 {α:Type} [Inhabited α] {s:Sl α} {v:α} : (s.push v).get s.n=v:=by
 have:Nat.blt s.n s.n=false:=by
  cases h:Nat.blt s.n s.n with
  | false=>rfl
  | true=>rw [Nat.blt_eq] at h; omega
 simp only [Sl.push,this,cond_false,Nat.beq_refl,cond_true]
end Go.K
end
section
namespace Go.Proofs.Ytahhdndhkgbcjaa.b
open Go.K
open Go.aE (aq)
theorem a9 {n:Int} (h : -4611686018427387904≤n) (h' : n≤4611686018427387904):aj n=n:=xl (by omega) (by omega)
theorem Ir (lo hi:Int) (l:Sl Int) (hn:l.n≤1000):∃ b,nD lo hi l=some b∧(b=true↔∀ i,i < l.n→lo≤l.get i∧l.get i≤hi):=by
 obtain ⟨e,x',h1,h2⟩:=dE (step:=jW) (x:=⟨lo,hi,false,l,((l.n:Nat):Int),(0:Int)⟩)
  (fun j x=>x=⟨lo,hi,false,l,((l.n:Nat):Int),(j:Int)⟩∧j≤l.n∧∀ i,i < j→lo≤l.get i∧l.get i≤hi)
  (fun e x=>(e = .exit 0∧∀ i,i < l.n→lo≤l.get i∧l.get i≤hi)∨(e = .ret∧x.t6=false∧¬ ∀ i,i < l.n→lo≤l.get i∧l.get i≤hi)) l.n (by have:m6=1000000000000:=rfl; omega)
  (fun j x hj ⟨hx,hle,hI⟩=>by
   subst hx
   unfold jW
   by_cases bU:j < l.n
   ·have e1:decide ((j:Int) < ((l.n:Nat):Int))=true:=decide_eq_true (by omega)
    have e2:decide ((0:Int)≤(j:Int))=true:=decide_eq_true (by omega)
    simp only [e1,e2,cond_true,Bool.and_self,Int.toNat_natCast]
    cases ha:decide (l.get j < lo) with
    | true=>
     right
     refine ⟨_,_,rfl,rfl,.inr ⟨rfl,rfl,fun h=>?_⟩⟩
     have:=h j bU; have:=of_decide_eq_true ha; omega
    | false=>
     cases hb:decide (l.get j > hi) with
     | true=>
      right
      refine ⟨_,_,rfl,rfl,.inr ⟨rfl,rfl,fun h=>?_⟩⟩
      have:=h j bU; have:=of_decide_eq_true hb; omega
     | false=>
      left
      refine ⟨_,rfl,by omega,?_,by omega,fun i Pu=>?_⟩
      ·rw [a9 (by omega) (by omega)]; rfl
      ·by_cases Ct:i=j
       ·subst Ct
        have:=of_decide_eq_false ha; have:=of_decide_eq_false hb; omega
       ·exact hI i (by omega)
   ·have e1:decide ((j:Int) < ((l.n:Nat):Int))=false:=decide_eq_false (by omega)
    simp only [e1,cond_false]
    right
    exact ⟨_,_,rfl,rfl,.inl ⟨rfl,fun i Pu=>hI i (by omega)⟩⟩)
  ⟨rfl,by omega,fun i Pu=>by omega⟩
 have h0:vg lo hi l = .out e x':=h1
 unfold nD
 rw [h0,aI.jC,aI.jC,aI.jL]
 rcases h2 with ⟨rfl,h2⟩ | ⟨rfl,h3,h2⟩
 ·exact ⟨true,rfl,by simpa using h2⟩
 ·exact ⟨false,by simp [fc,h3],by simpa using h2⟩
theorem ae9 (mq:Int) (l:Sl Int) (hn:l.n≤1000) (hm:0≤mq∧mq≤1000000):∃ b,yc mq l=some b∧(b=true↔∀ i,i < l.n→-mq≤l.get i∧l.get i≤mq):=by
 have hw:aj (0 - mq) = -mq:=by rw [a9 (by omega) (by omega)]; omega
 obtain ⟨e,x',h1,h2⟩:=dE (step:=n4) (x:=⟨mq,false,l,((l.n:Nat):Int),(0:Int)⟩)
  (fun j x=>x=⟨mq,false,l,((l.n:Nat):Int),(j:Int)⟩∧j≤l.n∧∀ i,i < j→-mq≤l.get i∧l.get i≤mq)
  (fun e x=>(e = .exit 0∧∀ i,i < l.n→-mq≤l.get i∧l.get i≤mq)∨(e = .ret∧x.t4=false∧¬ ∀ i,i < l.n→-mq≤l.get i∧l.get i≤mq)) l.n (by have:m6=1000000000000:=rfl; omega)
  (fun j x hj ⟨hx,hle,hI⟩=>by
   subst hx
   unfold n4
   by_cases bU:j < l.n
   ·have e1:decide ((j:Int) < ((l.n:Nat):Int))=true:=decide_eq_true (by omega)
    have e2:decide ((0:Int)≤(j:Int))=true:=decide_eq_true (by omega)
    simp only [e1,e2,cond_true,Bool.and_self,Int.toNat_natCast,hw]
    cases ha:decide (l.get j < -mq) with
    | true=>
     right
     refine ⟨_,_,rfl,rfl,.inr ⟨rfl,rfl,fun h=>?_⟩⟩
     have:=h j bU; have:=of_decide_eq_true ha; omega
    | false=>
     cases hb:decide (l.get j > mq) with
     | true=>
      right
      refine ⟨_,_,rfl,rfl,.inr ⟨rfl,rfl,fun h=>?_⟩⟩
      have:=h j bU; have:=of_decide_eq_true hb; omega
     | false=>
      left
      refine ⟨_,rfl,by omega,?_,by omega,fun i Pu=>?_⟩
      ·rw [a9 (by omega) (by omega)]; rfl
      ·by_cases Ct:i=j
       ·subst Ct
        have:=of_decide_eq_false ha; have:=of_decide_eq_false hb; omega
       ·exact hI i (by omega)
   ·have e1:decide ((j:Int) < ((l.n:Nat):Int))=false:=decide_eq_false (by omega)
    simp only [e1,cond_false]
    right
    exact ⟨_,_,rfl,rfl,.inl ⟨rfl,fun i Pu=>hI i (by omega)⟩⟩)
  ⟨rfl,by omega,fun i Pu=>by omega⟩
 have h0:Ei mq l = .out e x':=h1
 unfold yc
 rw [h0,aI.jC,aI.jC,aI.jL]
 rcases h2 with ⟨rfl,h2⟩ | ⟨rfl,h3,h2⟩
 ·exact ⟨true,rfl,by simpa using h2⟩
 ·exact ⟨false,by simp [fc,h3],by simpa using h2⟩
def adf (v:eE):Prop:=-4096≤v.x∧v.x≤4096∧-4096≤v.y∧v.y≤4096∧-4096≤v.z∧v.z≤4096
theorem amD {p:Int→Prop} (a b c:Int):(∀ i,i < (Sl.lit [a,b,c]).n→p ((Sl.lit [a,b,c]).get i))↔p a∧p b∧p c:=by
 constructor
 ·intro h
  exact ⟨h 0 (show 0 < 3 by omega),h 1 (show 1 < 3 by omega),h 2 (show 2 < 3 by omega)⟩
 ·rintro ⟨h1,h2,h3⟩ i hi
  have hi:i < 3:=hi
  match i,hi with
  | 0,_=>exact h1
  | 1,_=>exact h2
  | 2,_=>exact h3
theorem ale {p:Int→Prop} (a b:Int):(∀ i,i < (Sl.lit [a,b]).n→p ((Sl.lit [a,b]).get i))↔p a∧p b:=by
 constructor
 ·intro h
  exact ⟨h 0 (show 0 < 2 by omega),h 1 (show 1 < 2 by omega)⟩
 ·rintro ⟨h1,h2⟩ i hi
  have hi:i < 2:=hi
  match i,hi with
  | 0,_=>exact h1
  | 1,_=>exact h2
theorem amE {p:Int→Prop} (a:Int):(∀ i,i < (Sl.lit [a]).n→p ((Sl.lit [a]).get i))↔p a:=by
 constructor
 ·intro h
  exact h 0 (show 0 < 1 by omega)
 ·intro h1 i hi
  have hi:i < 1:=hi
  match i,hi with
  | 0,_=>exact h1
theorem Lh (v:eE):∃ e,oy v=some e∧(e=0↔adf v):=by
 obtain ⟨b,h1,h2⟩:=ae9 4096 (Sl.lit [v.x,v.y,v.z]) (show 3≤1000 by omega) (by omega)
 rw [amD (p:=fun n=>-4096≤n∧n≤4096)] at h2
 unfold oy yT
 rw [h1]
 cases b with
 | true=>exact ⟨0,rfl,by simpa [adf,and_assoc] using h2⟩
 | false=>exact ⟨20,rfl,by simp only [Bool.false_eq_true,false_iff] at h2; simp only [adf]; omega⟩
def R0 (s:fU):Prop:=(-131072≤s.x∧s.x≤131072)∧(-131072≤s.y∧s.y≤131072)∧(1≤s.d∧s.d≤65536)∧(0≤s.u∧s.u≤255)∧0≤s.v∧s.v≤255
theorem BP (s:fU):∃ e,oE s=some e∧(e=0↔R0 s):=by
 obtain ⟨b,h1,h2⟩:=Ir (-131072) 131072 (Sl.lit [s.x,s.y]) (show 2≤1000 by omega)
 rw [ale (p:=fun n=>-131072≤n∧n≤131072)] at h2
 obtain ⟨c,h3,h4⟩:=Ir 1 65536 (Sl.lit [s.d]) (show 1≤1000 by omega)
 rw [amE (p:=fun n=>1≤n∧n≤65536)] at h4
 obtain ⟨d,h5,h6⟩:=Ir 0 255 (Sl.lit [s.u,s.v]) (show 2≤1000 by omega)
 rw [ale (p:=fun n=>0≤n∧n≤255)] at h6
 unfold oE w9 xa xb
 rw [h1,h3,h5]
 unfold R0
 cases b with
 | false=>exact ⟨8,rfl,by simp only [Bool.false_eq_true,false_iff] at h2; omega⟩
 | true=>
  simp only [true_iff] at h2
  cases c with
  | false=>exact ⟨8,rfl,by simp only [Bool.false_eq_true,false_iff] at h4; omega⟩
  | true=>
   simp only [true_iff] at h4
   cases d with
   | false=>exact ⟨8,rfl,by simp only [Bool.false_eq_true,false_iff] at h6; omega⟩
   | true=>
    simp only [true_iff] at h6
    exact ⟨0,rfl,by simp only [true_iff]; exact ⟨h2.1,h2.2,h4,h6.1,h6.2⟩⟩
def adg (t:bt):Prop:=R0 t.e0∧R0 t.e1∧R0 t.e2
def VE (t:bt):Int:=(t.e1.x - t.e0.x) * (t.e2.y - t.e0.y) - (t.e2.x - t.e0.x) * (t.e1.y - t.e0.y)
theorem Aj {a b c d:Int} (hc:0≤c) (h1 : -c≤a∧a≤c) (h2 : -d≤b∧b≤d) : -(c * d)≤a * b∧a * b≤c * d:=by
 have hd:0≤d:=by omega
 have h3:a.natAbs * b.natAbs≤c.natAbs * d.natAbs:=Nat.mul_le_mul (by omega) (by omega)
 have h4:(a * b).natAbs=a.natAbs * b.natAbs:=Int.natAbs_mul a b
 have h5:(c * d).natAbs=c.natAbs * d.natAbs:=Int.natAbs_mul c d
 have h6:0≤c * d:=Int.mul_nonneg hc hd
 omega
theorem Li (t:bt):(adg t∧nu t=some (VE t,0))∨(¬ adg t∧∃ e,nu t=some (0,e)∧e≠0):=by
 obtain ⟨e0,h1,h2⟩:=BP t.e0
 obtain ⟨e1,h3,h4⟩:=BP t.e1
 obtain ⟨e2,h5,h6⟩:=BP t.e2
 unfold nu yP yQ yR
 rw [h1,h3,h5]
 unfold adg
 by_cases HJ:e0=0
 ·by_cases Mn:e1=0
  ·by_cases Bx:e2=0
   ·left
    have g0:=h2.1 HJ; have g1:=h4.1 Mn; have g2:=h6.1 Bx
    refine ⟨⟨g0,g1,g2⟩,?_⟩
    subst HJ Mn Bx
    obtain ⟨a1,a2,_⟩:=g0
    obtain ⟨b1,b2,_⟩:=g1
    obtain ⟨c1,c2,_⟩:=g2
    have m1:=Aj (a:=t.e1.x - t.e0.x) (b:=t.e2.y - t.e0.y) (c:=262144) (d:=262144) (by omega) (by omega) (by omega)
    have m2:=Aj (a:=t.e2.x - t.e0.x) (b:=t.e1.y - t.e0.y) (c:=262144) (d:=262144) (by omega) (by omega) (by omega)
    show some (aj (aj (aj (t.e1.x - t.e0.x) * aj (t.e2.y - t.e0.y)) - aj (aj (t.e2.x - t.e0.x) * aj (t.e1.y - t.e0.y))),(0:Int))=some (VE t,0)
    rw [a9 (n:=t.e1.x - t.e0.x) (by omega) (by omega),a9 (n:=t.e2.y - t.e0.y) (by omega) (by omega),a9 (n:=t.e2.x - t.e0.x) (by omega) (by omega),a9 (n:=t.e1.y - t.e0.y) (by omega) (by omega),
     a9 (n:=(t.e1.x - t.e0.x) * (t.e2.y - t.e0.y)) (by omega) (by omega),a9 (n:=(t.e2.x - t.e0.x) * (t.e1.y - t.e0.y)) (by omega) (by omega)]
    rw [a9 (by omega) (by omega)]
    rfl
   ·right
    refine ⟨fun h=>Bx (h6.2 h.2.2),e2,?_,Bx⟩
    subst HJ Mn
    have:(e2 != (0:Int))=true:=by simpa using Bx
    simp [this]
  ·right
   refine ⟨fun h=>Mn (h4.2 h.2.1),e1,?_,Mn⟩
   subst HJ
   have:(e1 != (0:Int))=true:=by simpa using Mn
   simp [this]
 ·right
  refine ⟨fun h=>HJ (h2.2 h.1),e0,?_,HJ⟩
  have:(e0 != (0:Int))=true:=by simpa using HJ
  simp [this]
theorem afa (a b:Int) (hb:1≤b) (ha : -4611686018427387904≤a∧a≤4611686018427387904):dQ a b=some (a / b,0):=by
 have h1:decide (b < 1)=false:=decide_eq_false (by omega)
 have h2:decide (b=0)=false:=decide_eq_false (by omega)
 have h3:=Int.mul_tdiv_add_tmod a b
 have h4:=Int.natAbs_tdiv_le_natAbs a b
 have h5:(Int.tmod a b).natAbs < b.natAbs:=by rw [Int.natAbs_tmod]; exact Nat.mod_lt _ (by omega)
 unfold dQ
 simp only [h1,h2,cond_false,Bool.not_false,cond_true]
 cases hr:decide (Int.tmod a b < 0) with
 | true=>
  have hr:=of_decide_eq_true hr
  have e:a / b=Int.tdiv a b - 1:=((Int.ediv_emod_unique (by omega:0 < b)).2 ⟨(show (Int.tmod a b+b)+b * (Int.tdiv a b - 1)=a by rw [Int.mul_sub]; omega),by omega,by omega⟩).1
  rw [cond_true,a9 (n:=Int.tdiv a b) (by omega) (by omega),xl (by omega) (by omega),e]
 | false=>
  have hr:=of_decide_eq_false hr
  have e:a / b=Int.tdiv a b:=((Int.ediv_emod_unique (by omega:0 < b)).2 ⟨(show Int.tmod a b+b * Int.tdiv a b=a by omega),by omega,by omega⟩).1
  rw [cond_false,a9 (by omega) (by omega),e]
theorem Bn (a b:Int):∃ r,dQ a b=some r:=by
 unfold dQ
 cases h1:decide (b < 1) with
 | true=>exact ⟨_,rfl⟩
 | false=>
  have h1:=of_decide_eq_false h1
  have h2:decide (b=0)=false:=decide_eq_false (by omega)
  simp only [h2,cond_false,Bool.not_false,cond_true]
  cases decide (Int.tmod a b < 0) <;> exact ⟨_,rfl⟩
end Go.Proofs.Ytahhdndhkgbcjaa.b
end
section
namespace Go.Proofs.Ytahhdndhkgbcjaa.b
open Go.K
def Um (t:bt):Prop:=adg t∧0 < VE t
theorem afb (t:bt):∃ e,rB t=some e∧(e=0↔Um t):=by
 unfold rB oS Um
 rcases Li t with ⟨h1,h2⟩ | ⟨h1,e,h2,h3⟩
 ·rw [h2]
  cases hb:decide (VE t≤0) with
  | true=>
   have:=of_decide_eq_true hb
   refine ⟨6,by simp [hb],by simp; omega⟩
  | false=>
   have:=of_decide_eq_false hb
   exact ⟨0,by simp [hb],by simp [h1]; omega⟩
 ·rw [h2]
  have:(e==(0:Int))=false:=by simpa using h3
  exact ⟨e,by simp [this],by simp [h1,h3]⟩
def Pix (x y:Int):Prop:=(0≤x∧x < 64)∧0≤y∧y < 64
theorem afc (x y:Int):∃ b,rC x y=some b∧(b=true↔Pix x y):=by
 unfold rC Pix
 cases hb:decide (min x y ≥ 0) with
 | true=>
  have:=of_decide_eq_true hb
  refine ⟨decide (max x y < 64),rfl,?_⟩
  rw [decide_eq_true_eq]
  omega
 | false=>
  have:=of_decide_eq_false hb
  refine ⟨false,rfl,?_⟩
  simp only [Bool.false_eq_true,false_iff]
  omega
def W0 (t:bt) (p q:Int):Int:=(t.e2.x - t.e1.x) * (q - t.e1.y) - (p - t.e1.x) * (t.e2.y - t.e1.y)
def W1 (t:bt) (p q:Int):Int:=(t.e0.x - t.e2.x) * (q - t.e2.y) - (p - t.e2.x) * (t.e0.y - t.e2.y)
def W2 (t:bt) (p q:Int):Int:=(t.e1.x - t.e0.x) * (q - t.e0.y) - (p - t.e0.x) * (t.e1.y - t.e0.y)
theorem agn {a b c d p q:Int} (ha : -131072≤a∧a≤131072) (hb : -131072≤b∧b≤131072) (hc : -131072≤c∧c≤131072) (hd : -131072≤d∧d≤131072) (hp:0≤p∧p≤1000) (hq:0≤q∧q≤1000) :
  aj (aj (aj (c - a) * aj (q - b)) - aj (aj (p - a) * aj (d - b)))=(c - a) * (q - b) - (p - a) * (d - b):=by
 have m1:=Aj (a:=c - a) (b:=q - b) (c:=262144) (d:=262144) (by omega) (by omega) (by omega)
 have m2:=Aj (a:=p - a) (b:=d - b) (c:=262144) (d:=262144) (by omega) (by omega) (by omega)
 rw [a9 (n:=c - a) (by omega) (by omega),a9 (n:=q - b) (by omega) (by omega),a9 (n:=p - a) (by omega) (by omega),a9 (n:=d - b) (by omega) (by omega),a9 (n:=(c - a) * (q - b)) (by omega) (by omega),a9 (n:=(p - a) * (d - b)) (by omega) (by omega),a9 (by omega) (by omega)]
theorem Lj (t:bt) (x y:Int):(Um t∧Pix x y∧mr t x y=some (⟨W0 t (8 * x+4) (8 * y+4),W1 t (8 * x+4) (8 * y+4),W2 t (8 * x+4) (8 * y+4)⟩,0))∨∃ w e,mr t x y=some (w,e)∧e≠0:=by
 obtain ⟨e,h1,h2⟩:=afb t
 obtain ⟨b,h3,h4⟩:=afc x y
 unfold mr vm Af
 rw [h1,h3]
 by_cases he:e=0
 ·have hf:=h2.1 he
  subst he
  cases b with
  | true=>
   have hp:=h4.1 rfl
   left
   refine ⟨hf,hp,?_⟩
   obtain ⟨hp1,hp2⟩:=hp
   have e2:vo t x y=some (8 * y+4):=by
    show some (aj (aj (8 * y)+4))=_
    rw [a9 (n:=8 * y) (by omega) (by omega),a9 (by omega) (by omega)]
   have e3:vp t x y=some (8 * x+4):=by
    show some (aj (aj (8 * x)+4))=_
    rw [a9 (n:=8 * x) (by omega) (by omega),a9 (by omega) (by omega)]
   obtain ⟨⟨⟨a1,a2,_⟩,⟨b1,b2,_⟩,c1,c2,_⟩,_⟩:=hf
   rw [e2,e3]
   simp only [Option.isSome_some,cond_true,Option.getD_some,Bool.not_true,cond_false,bne_self_eq_false]
   rw [agn b1 b2 c1 c2 (by omega) (by omega),agn c1 c2 a1 a2 (by omega) (by omega),agn a1 a2 b1 b2 (by omega) (by omega)]
   rfl
  | false=>right; exact ⟨_,2,rfl,by omega⟩
 ·right
  have:(e != (0:Int))=true:=by simpa using he
  simp only [Option.isSome_some,cond_true,Option.getD_some]
  rw [this]
  exact ⟨_,e,rfl,he⟩
def abX (u v w:Int) (r:Option (Bool×Int)):Prop:=r=some (false,0)∨(r=some (true,0)∧0≤u∧0≤v∧0≤w)
theorem abX.ite {u v w:Int} {c:Prop} [Decidable c] {a b:Option (Bool×Int)} (h1:c→abX u v w a) (h2 : ¬ c→abX u v w b):abX u v w (if c then a else b):=by
 by_cases h:c
 ·rw [if_pos h]; exact h1 h
 ·rw [if_neg h]; exact h2 h
theorem R1 (t:bt) (x y:Int):∃ c e,pV t x y=some (c,e)∧(c=true→e=0→Um t∧Pix x y∧0≤W0 t (8 * x+4) (8 * y+4)∧0≤W1 t (8 * x+4) (8 * y+4)∧0≤W2 t (8 * x+4) (8 * y+4)):=by
 unfold pV ai
 rcases Lj t x y with ⟨h1,h2,h3⟩ | ⟨w,e,h3,h4⟩
 ·rw [h3]
  simp only [Option.isSome_some,cond_true,Option.getD_some,bne_self_eq_false,cond_false]
  generalize W0 t (8 * x+4) (8 * y+4)=u
  generalize W1 t (8 * x+4) (8 * y+4)=v
  generalize W2 t (8 * x+4) (8 * y+4)=w
  simp only [h1,h2,true_and]
  simp only [Bool.cond_eq_ite,Bool.not_eq_true',decide_eq_true_eq,decide_eq_false_iff_not,beq_iff_eq]
  have key:∀ r:Option (Bool×Int),abX u v w r→∃ c e,r=some (c,e)∧(c=true→e=0→0≤u∧0≤v∧0≤w):=by
   rintro r (rfl | ⟨rfl,h⟩)
   ·exact ⟨false,0,rfl,fun h=>by simp at h⟩
   ·exact ⟨true,0,rfl,fun _ _=>h⟩
  apply key
  repeat' (refine abX.ite (fun _=>?_) (fun _=>?_))
  all_goals first | exact .inl rfl | exact .inr ⟨rfl,by omega⟩
 ·rw [h3]
  have:(e != (0:Int))=true:=by simpa using h4
  exact ⟨false,e,by simp [this],fun h=>by simp at h⟩
theorem afd (a b c d e f x y:Int):((e-c)*(y-d)-(x-c)*(f-d))+((a-e)*(y-f)-(x-e)*(b-f))+((c-a)*(y-b)-(x-a)*(d-b))=(c-a)*(f-b)-(e-a)*(d-b):=by grind
theorem alK (a b c d e f x y:Int):((e-c)*(y-d)-(x-c)*(f-d))*(a-x)+((a-e)*(y-f)-(x-e)*(b-f))*(c-x)+((c-a)*(y-b)-(x-a)*(d-b))*(e-x)=0:=by grind
theorem alL (a b c d e f x y:Int):((e-c)*(y-d)-(x-c)*(f-d))*(b-y)+((a-e)*(y-f)-(x-e)*(b-f))*(d-y)+((c-a)*(y-b)-(x-a)*(d-b))*(f-y)=0:=by grind
theorem aac (p q r u v w:Int) (hp:0≤p) (hq:0≤q) (hr:0≤r) (hs:0 < p+q+r) (h:p * u+q * v+r * w=0):u≤0∨v≤0∨w≤0:=by
 by_cases h1:u≤0
 ·exact .inl h1
 by_cases h2:v≤0
 ·exact .inr (.inl h2)
 by_cases h3:w≤0
 ·exact .inr (.inr h3)
 exfalso
 have a1:p * 1≤p * u:=Int.mul_le_mul_of_nonneg_left (by omega) hp
 have a2:q * 1≤q * v:=Int.mul_le_mul_of_nonneg_left (by omega) hq
 have a3:r * 1≤r * w:=Int.mul_le_mul_of_nonneg_left (by omega) hr
 omega
theorem afe (p q r u v w:Int) (hp:0≤p) (hq:0≤q) (hr:0≤r) (hs:0 < p+q+r) (h:p * u+q * v+r * w=0):0≤u∨0≤v∨0≤w:=by
 have:=aac p q r (-u) (-v) (-w) hp hq hr hs (by rw [Int.mul_neg,Int.mul_neg,Int.mul_neg]; omega)
 omega
theorem between (t:bt) (p q:Int) (hf:Um t) (h0:0≤W0 t p q) (h1:0≤W1 t p q) (h2:0≤W2 t p q) :
  (min (min t.e0.x t.e1.x) t.e2.x≤p∧p≤max (max t.e0.x t.e1.x) t.e2.x)∧min (min t.e0.y t.e1.y) t.e2.y≤q∧q≤max (max t.e0.y t.e1.y) t.e2.y:=by
 have hs:0 < W0 t p q+W1 t p q+W2 t p q:=by
  have:=afd t.e0.x t.e0.y t.e1.x t.e1.y t.e2.x t.e2.y p q
  have h:=hf.2
  unfold VE at h
  unfold W0 W1 W2
  omega
 have hx:=alK t.e0.x t.e0.y t.e1.x t.e1.y t.e2.x t.e2.y p q
 have hy:=alL t.e0.x t.e0.y t.e1.x t.e1.y t.e2.x t.e2.y p q
 have a1:=aac _ _ _ _ _ _ h0 h1 h2 hs hx
 have a2:=afe _ _ _ _ _ _ h0 h1 h2 hs hx
 have a3:=aac _ _ _ _ _ _ h0 h1 h2 hs hy
 have a4:=afe _ _ _ _ _ _ h0 h1 h2 hs hy
 omega
theorem VF (t:bt) (x y:Int):∃ s e,mM t x y=some (s,e)∧(e=0→Um t∧Pix x y∧0≤W0 t (8 * x+4) (8 * y+4)∧0≤W1 t (8 * x+4) (8 * y+4)∧0≤W2 t (8 * x+4) (8 * y+4)):=by
 obtain ⟨c,e,h1,h2⟩:=R1 t x y
 have hE:∃ w e,mr t x y=some (w,e):=by
  rcases Lj t x y with ⟨_,_,h⟩ | ⟨w,e,h,_⟩
  ·exact ⟨_,_,h⟩
  ·exact ⟨_,_,h⟩
 obtain ⟨w,e',h3⟩:=hE
 unfold mM
 have e0:tg t x y=some (c,e):=h1
 have e1:dD t x y=some (w,e'):=h3
 rw [e0,e1]
 simp only [Option.isSome_some,cond_true,Option.getD_some]
 by_cases he:e=0
 ·subst he
  cases c with
  | true=>
   simp only [bne_self_eq_false,cond_false,Bool.not_true]
   obtain ⟨r2,g2⟩:∃ r,AO t x y=some r:=Bn _ _
   obtain ⟨r3,g3⟩:∃ r,wP t x y=some r:=Bn _ _
   obtain ⟨r4,g4⟩:∃ r,wQ t x y=some r:=Bn _ _
   rw [g2,g3,g4]
   cases hb:(e' != (0:Int)) with
   | true=>exact ⟨_,_,rfl,fun _=>h2 rfl rfl⟩
   | false=>exact ⟨_,_,rfl,fun _=>h2 rfl rfl⟩
  | false=>exact ⟨_,6,rfl,fun h=>by omega⟩
 ·have:(e != (0:Int))=true:=by simpa using he
  rw [this]
  exact ⟨_,e,rfl,fun h=>absurd h he⟩
end Go.Proofs.Ytahhdndhkgbcjaa.b
end
section
namespace Go.Proofs.Ytahhdndhkgbcjaa.b
open Go.K
open Go.aE (aq)
theorem kA {α:Type} {c:Bool} {a b:Option α} (ha:c=true→a.isSome=true) (hb:c=false→b.isSome=true):(cond c a b).isSome=true:=by
 cases c with
 | true=>exact ha rfl
 | false=>exact hb rfl
theorem alM {α:Type} {a:Option α} (h:∃ r,a=some r):a.isSome=true:=by obtain ⟨r,h⟩:=h; rw [h]; rfl
theorem Pb {α:Type} {a:Option α} (h:a.isSome=true):∃ r,a=some r:=Option.isSome_iff_exists.1 h
theorem Fm (p:bZ):(kV p).isSome=true:=by
 unfold kV
 repeat' (refine kA (fun _=>?_) (fun _=>?_))
 all_goals rfl
theorem ah8 (aL:Int) (l:Sl bZ) (hn:l.n≤1000):(tf aL l).isSome=true:=by
 obtain ⟨e,x',h1,h2⟩:=dE (step:=kE) (x:=⟨0,l,((l.n:Nat):Int),(0:Int)⟩)
  (fun j x=>x=⟨0,l,((l.n:Nat):Int),(j:Int)⟩∧j≤l.n)
  (fun e _=>e = .exit 0∨e = .ret) l.n (by have:m6=1000000000000:=rfl; omega)
  (fun j x hj ⟨hx,hle⟩=>by
   subst hx
   unfold kE
   by_cases bU:j < l.n
   ·have e1:decide ((j:Int) < ((l.n:Nat):Int))=true:=decide_eq_true (by omega)
    have e2:decide ((0:Int)≤(j:Int))=true:=decide_eq_true (by omega)
    obtain ⟨r,hr⟩:=Pb (Fm (l.get j))
    have e3:ss ⟨0,l,((l.n:Nat):Int),(j:Int)⟩=some r:=hr
    simp only [e1,e2,e3,cond_true,Bool.and_self,Option.isSome_some,Option.getD_some]
    cases (r != (0:Int)) with
    | true=>right; exact ⟨_,_,rfl,rfl,.inr rfl⟩
    | false=>
     left
     refine ⟨_,rfl,by omega,?_,by omega⟩
     rw [a9 (by omega) (by omega)]; rfl
   ·have e1:decide ((j:Int) < ((l.n:Nat):Int))=false:=decide_eq_false (by omega)
    simp only [e1,cond_false]
    right
    exact ⟨_,_,rfl,rfl,.inl rfl⟩)
  ⟨rfl,by omega⟩
 have h0:xd aL l = .out e x':=h1
 unfold tf
 rw [h0,aI.jC,aI.jC,aI.jL]
 refine kA (fun _=>rfl) (fun _=>kA (fun _=>rfl) (fun _=>?_))
 rcases h2 with rfl | rfl <;> rfl
theorem vD (a b:Int):(dQ a b).isSome=true:=alM (Bn a b)
theorem akM (aL:Int) (a b:bZ):(eN aL a b).isSome=true:=by
 have e0:(wO aL a b).isSome=true:=ah8 _ _ (show 2≤1000 by omega)
 have e1:(Ff aL a b).isSome=true:=vD _ _
 have e2:(Fg aL a b).isSome=true:=vD _ _
 have e3:(Fh aL a b).isSome=true:=vD _ _
 have e4:(Fi aL a b).isSome=true:=vD _ _
 unfold eN
 simp only [e0,e1,e2,e3,e4,cond_true]
 repeat' (refine kA (fun _=>?_) (fun _=>?_))
 all_goals rfl
theorem ajW (m:gL):(ye m).isSome=true:=by
 unfold ye
 repeat' (refine kA (fun _=>?_) (fun _=>?_))
 all_goals rfl
theorem ajX (m:gL) (v:fj):(yf m v).isSome=true:=by
 have e0:(E9 m v).isSome=true:=vD _ _
 have e1:(Fa m v).isSome=true:=vD _ _
 have e2:(Fb m v).isSome=true:=vD _ _
 unfold yf
 simp only [e0,e1,e2,cond_true]
 rfl
theorem alN (mq:Int) (l:Sl Int) (hn:l.n≤1000) (hm:0≤mq∧mq≤1000000):(yc mq l).isSome=true:=by
 obtain ⟨b,h,_⟩:=ae9 mq l hn hm
 rw [h]; rfl
theorem ajY (m:gL) (v:eE):(yg m v).isSome=true:=by
 have e0:(Fe m v).isSome=true:=ajW _
 have e1:(AL m v).isSome=true:=alN _ _ (show 3≤1000 by omega) (by omega)
 have e2:(wN m v).isSome=true:=ajX _ _
 unfold yg
 simp only [e0,e1,e2,cond_true]
 repeat' (refine kA (fun _=>?_) (fun _=>?_))
 all_goals rfl
theorem R2 (v:eE):(oy v).isSome=true:=by obtain ⟨e,h,_⟩:=Lh v; rw [h]; rfl
theorem ago (n a b:Int):dJ n a b=some (decide (a≤n∧n≤b)):=by
 unfold dJ
 by_cases h:n ≥ a
 ·simp only [decide_eq_true h,cond_true]
  congr 1
  by_cases h2:n≤b
  ·rw [decide_eq_true h2,decide_eq_true ⟨h,h2⟩]
  ·rw [decide_eq_false h2,decide_eq_false (fun q=>h2 q.2)]
 ·simp only [decide_eq_false h,cond_false]
  rw [decide_eq_false (fun q=>h q.1)]
def Ll (c:a8):Prop:=adf c.pos∧(1≤c.TL∧c.TL≤64)∧(256≤c.aL∧c.aL≤4096)∧(1≤c.w∧c.w≤64)∧1≤c.h∧c.h≤64
theorem tQ (c:a8):∃ e,ln c=some e∧(e=0→Ll c):=by
 obtain ⟨e,h1,h2⟩:=Lh c.pos
 unfold ln yU yV yW yX yY yZ y7 y8 y9 za xC xD xE xF
 simp only [ago,h1,Option.isSome_some,Option.getD_some,cond_true]
 have key:∀ (b:Bool) (r:Option Int),(b=true→∃ e,r=some e∧(e=0→Ll c))→∃ e,cond b r (some 150)=some e∧(e=0→Ll c):=by
  intro b r h
  cases b with
  | true=>exact h rfl
  | false=>exact ⟨150,rfl,fun h=>by omega⟩
 refine key _ _ fun g0=>key _ _ fun g1=>key _ _ fun g2=>key _ _ fun g3=>key _ _ fun g4=>?_
 have cg:Ll c:=by
  simp only [decide_eq_true_eq] at g1 g2 g3 g4
  exact ⟨h2.1 (by simpa using g0),g1,g2,g3,g4⟩
 repeat' (refine key _ _ fun _=>?_)
 cases (!decide (-256≤c.m.e2.e2∧c.m.e2.e2≤256)) with
 | true=>exact ⟨150,rfl,fun h=>by omega⟩
 | false=>exact ⟨0,rfl,fun _=>cg⟩
theorem WD (c:a8):(ln c).isSome=true:=by obtain ⟨e,h,_⟩:=tQ c; rw [h]; rfl
theorem aad (c:a8) (v:eE):(nE c v).isSome=true:=by
 have e0:(vi c v).isSome=true:=WD _
 have e1:(vj c v).isSome=true:=R2 _
 have e2:(vk c v).isSome=true:=ajY _ _
 unfold nE
 simp only [e0,e1,e2,cond_true]
 repeat' (refine kA (fun _=>?_) (fun _=>?_))
 all_goals rfl
theorem aff (t:bt):(nu t).isSome=true:=by
 rcases Li t with ⟨_,h⟩ | ⟨_,e,h,_⟩ <;> rw [h] <;> rfl
theorem ah9 (t:bt) (k:Int):(ta t k).isSome=true:=by
 have e0:(n3 t k).isSome=true:=aff t
 unfold ta
 simp only [e0,cond_true]
 repeat' (refine kA (fun _=>?_) (fun _=>?_))
 all_goals rfl
theorem aia (t:bt):(te t).isSome=true:=by
 have e0:(pU t).isSome=true:=aff t
 unfold te
 simp only [e0,cond_true]
 repeat' (refine kA (fun _=>?_) (fun _=>?_))
 all_goals rfl
end Go.Proofs.Ytahhdndhkgbcjaa.b
end
section
namespace Go.Proofs.Ytahhdndhkgbcjaa.b
open Go.K
open Go.aE (aq)
theorem Iu {b n m:Nat} (hb:b≤1000) (hn:n≤1000000) (hm:0 < m∧m≤1000):fI b n m=true:=Iq (by omega) (by omega) (by omega) (.inl hm.1)
def NQ (j:Nat) (x:aA) (r:aI aA):Prop:=∃ x',r = .next x'∧x'.t23=((j+1:Nat):Int)∧x'.l.n≤x.l.n+2∧x'.out=x.out∧x'.aL=x.aL
theorem NQ.cond {j:Nat} {x:aA} {c:Bool} {a b:aI aA} (h1:c=true→NQ j x a) (h2:c=false→NQ j x b):NQ j x (_root_.cond c a b):=by
 cases c with
 | true=>exact h1 rfl
 | false=>exact h2 rfl
theorem agp (j:Nat) (hj:j < 3) (x:aA) (hx:x.t23=(j:Int)) (hl:x.l.n≤10):NQ j x (ia x):=by
 have c:∀ (aL:Int) (a b:bZ),(eN aL a b).isSome=true:=akM
 have e0:(xH x).isSome=true:=c _ _ _
 have e1:(xI x).isSome=true:=c _ _ _
 have e2:(xJ x).isSome=true:=c _ _ _
 have e3:(xK x).isSome=true:=c _ _ _
 have e4:(xL x).isSome=true:=c _ _ _
 have e5:(xM x).isSome=true:=c _ _ _
 have e6:(xN x).isSome=true:=c _ _ _
 have e7:(xO x).isSome=true:=c _ _ _
 have e8:(xP x).isSome=true:=c _ _ _
 have e9:(xQ x).isSome=true:=c _ _ _
 have e10:(v7 x).isSome=true:=c _ _ _
 have e11:(v8 x).isSome=true:=c _ _ _
 have e12:(v9 x).isSome=true:=c _ _ _
 have e13:(wa x).isSome=true:=c _ _ _
 have e14:(wb x).isSome=true:=c _ _ _
 have e15:(wc x).isSome=true:=c _ _ _
 have e16:(wg x).isSome=true:=c _ _ _
 have e17:(wh x).isSome=true:=c _ _ _
 have a1:fI 40 x.l.n 1=true:=Iu (by omega) (by omega) (by omega)
 have a2:fI 40 (x.l.n+1) 1=true:=Iu (by omega) (by omega) (by omega)
 have hw:aj ((j:Int)+1)=((j+1:Nat):Int):=by rw [a9 (by omega) (by omega)]; rfl
 unfold ia
 simp only [e0,e1,e2,e3,e4,e5,e6,e7,e8,e9,e10,e11,e12,e13,e14,e15,e16,e17,a1,a2,bc,cond_true,Bool.and_self,hx,hw]
 match j,hj with
 | 0,_=>
  have d1:decide (((0:Nat):Int) < 3)=true:=by decide
  have d2:decide (((0:Nat):Int)=0)=true:=by decide
  have d3:decide (Int.tmod ((0+1:Nat):Int) 3=0)=false:=by decide
  have d4:decide (Int.tmod ((0+1:Nat):Int) 3=1)=true:=by decide
  simp only [d1,d2,d3,d4,cond_true,cond_false]
  repeat' (refine NQ.cond (fun _=>?_) (fun _=>?_))
  all_goals exact ⟨_,rfl,rfl,by first | (simp only [Sl.EC]; omega) | omega,rfl,rfl⟩
 | 1,_=>
  have d1:decide (((1:Nat):Int) < 3)=true:=by decide
  have d2:decide (((1:Nat):Int)=0)=false:=by decide
  have d5:decide (((1:Nat):Int)=1)=true:=by decide
  have d3:decide (Int.tmod ((1+1:Nat):Int) 3=0)=false:=by decide
  have d4:decide (Int.tmod ((1+1:Nat):Int) 3=1)=false:=by decide
  have d6:decide (Int.tmod ((1+1:Nat):Int) 3=2)=true:=by decide
  simp only [d1,d2,d3,d4,d5,d6,cond_true,cond_false]
  repeat' (refine NQ.cond (fun _=>?_) (fun _=>?_))
  all_goals exact ⟨_,rfl,rfl,by first | (simp only [Sl.EC]; omega) | omega,rfl,rfl⟩
 | 2,_=>
  have d1:decide (((2:Nat):Int) < 3)=true:=by decide
  have d2:decide (((2:Nat):Int)=0)=false:=by decide
  have d5:decide (((2:Nat):Int)=1)=false:=by decide
  have d7:decide (((2:Nat):Int)=2)=true:=by decide
  have d3:decide (Int.tmod ((2+1:Nat):Int) 3=0)=true:=by decide
  simp only [d1,d2,d3,d5,d7,cond_true,cond_false]
  repeat' (refine NQ.cond (fun _=>?_) (fun _=>?_))
  all_goals exact ⟨_,rfl,rfl,by first | (simp only [Sl.EC]; omega) | omega,rfl,rfl⟩
theorem abY (aL:Int) (t:dK):∃ x',cK aL t = .out (.exit 0) x'∧x'.l.n≤6∧x'.out.n=0:=by
 have key:∀ x:aA,_→_:=fun x h0=>dE (x:=x) (h0:=h0) (step:=ia) (fun j x=>x.t23=(j:Int)∧x.l.n≤2 * j∧x.out.n=0) (fun e x=>e = .exit 0∧x.l.n≤6∧x.out.n=0) 3 (by decide)
  (fun j x hj ⟨hx,hl,ho⟩=>by
   by_cases h:j < 3
   ·obtain ⟨x',h1,h2,h3,h4,_⟩:=agp j h x hx (by omega)
    exact .inl ⟨x',h1,h,h2,by omega,by rw [h4]; exact ho⟩
   ·have h3:j=3:=by omega
    subst h3
    refine .inr ⟨.exit 0,x,?_,rfl,rfl,by omega,ho⟩
    unfold ia
    simp only [hx,bc,cond_true,show decide (((3:Nat):Int) < 3)=false from by decide,cond_false])
 have fin:∃ e x',cK aL t = .out e x'∧(e = .exit 0∧x'.l.n≤6∧x'.out.n=0):=by
  unfold cK
  exact key _ ⟨rfl,Nat.le_refl _,rfl⟩
 obtain ⟨e,x',h1,rfl,h2,h3⟩:=fin
 exact ⟨x',h1,h2,h3⟩
theorem aib (aL:Int) (t:dK):∃ x',ir aL t = .out (.exit 2) x'∧x'.out.n≤6:=by
 obtain ⟨y,hy,hl,ho⟩:=abY aL t
 have key:∀ x:iq,_→_:=fun x h0=>dE (x:=x) (h0:=h0) (step:=kF) (fun j x=>x.i=((2+j:Nat):Int)∧x.l.n≤6∧x.out.n=j∧(x.i≤(x.l.n:Int)∨j=0)) (fun e x=>e = .exit 2∧x.out.n≤6) 6 (by decide)
  (fun j x hj ⟨hx,hl,ho,hi⟩=>by
   unfold kF
   by_cases h:x.i < ((x.l.n:Nat):Int)
   ·have w1:aj (x.i - 1)=x.i - 1:=a9 (by omega) (by omega)
    have w2:aj (x.i+1)=x.i+1:=a9 (by omega) (by omega)
    have a1:fI 120 x.out.n 1=true:=Iu (by omega) (by omega) (by omega)
    refine .inl ⟨⟨(x.out.push (⟨(x.l.get 0),(x.l.get (Int.toNat (aj (x.i - (1:Int))))),(x.l.get (Int.toNat x.i))⟩:dK)),x.l,(aj (x.i+(1:Int)))⟩,?_,by omega,?_,hl,?_,?_⟩
    ·simp only [w1,w2,a1,bc,cond_true,Bool.and_self,decide_eq_true h,decide_eq_true (show (0:Int) < ((x.l.n:Nat):Int) by omega),decide_eq_true (show (0:Int)≤x.i - 1 by omega),decide_eq_true (show x.i - 1 < ((x.l.n:Nat):Int) by omega),decide_eq_true (show (0:Int)≤x.i by omega)]
    ·show aj (x.i+1)=_
     omega
    ·simp only [Sl.EC]; omega
    ·exact .inl (by show aj (x.i+1)≤((x.l.n:Nat):Int); omega)
   ·refine .inr ⟨.exit 2,x,?_,rfl,rfl,by omega⟩
    simp only [bc,cond_true,cond_false,decide_eq_false h])
 have fin:∃ e x',ir aL t = .out e x'∧(e = .exit 2∧x'.out.n≤6):=by
  unfold ir
  rw [hy]
  exact key _ ⟨rfl,hl,ho,.inr rfl⟩
 obtain ⟨e,x',h1,rfl,h2⟩:=fin
 exact ⟨x',h1,h2⟩
theorem ajZ (aL:Int) (t:dK):∃ r,vr aL t=some r∧r.1.n≤6:=by
 obtain ⟨y,hy,hl,ho⟩:=abY aL t
 obtain ⟨z,hz,hn⟩:=aib aL t
 have c:∀ (p:bZ),(kV p).isSome=true:=Fm
 have e0:(uG aL t).isSome=true:=c _
 have e3:(uH aL t).isSome=true:=c _
 have e4:(uI aL t).isSome=true:=c _
 unfold vr
 have b1:(cK aL t).by (.exit 0)=true:=by rw [hy]; rfl
 have b2:(ir aL t).by (.exit 2)=true:=by rw [hz]; rfl
 have s2:(ir aL t).st=z:=by rw [hz]; rfl
 simp only [e0,e3,e4,b1,b2,s2,bc,cond_true]
 have q:∀ {c:Bool} {a b:Option (Sl dK×Int)},(∃ r,a=some r∧r.1.n≤6)→(∃ r,b=some r∧r.1.n≤6)→∃ r,_root_.cond c a b=some r∧r.1.n≤6:=fun {c} {a} {b} h1 h2=>by
  cases c with
  | true=>exact h1
  | false=>exact h2
 repeat' (refine q ?_ ?_)
 all_goals first | exact ⟨_,rfl,Nat.zero_le _⟩ | exact ⟨(z.out,0),rfl,hn⟩
end Go.Proofs.Ytahhdndhkgbcjaa.b
end
section
namespace Go.Proofs.Ytahhdndhkgbcjaa.b
open Go.K
open Go.aE (aq)
theorem Un (c:a8) (p:bZ):(oG c p).isSome=true:=by
 obtain ⟨e,h1,h2⟩:=tQ c
 have e0:xf c p=some e:=h1
 have e1:(xg c p).isSome=true:=Fm _
 have e2:(BM c p).isSome=true:=vD _ _
 have e3:(BN c p).isSome=true:=vD _ _
 unfold oG
 simp only [e0,e1,e2,e3,cond_true,Option.isSome_some,Option.getD_some]
 refine kA (fun _=>rfl) (fun he=>kA (fun _=>rfl) (fun _=>kA (fun _=>rfl) (fun hz=>?_)))
 have A6:e=0:=by simpa using he
 obtain ⟨_,_,hn,_⟩:=h2 A6
 have hz' : ¬ p.p.z < c.aL:=of_decide_eq_false hz
 have q:decide (p.p.z=(0:Int))=false:=decide_eq_false (by omega)
 rw [q]
 rfl
def Jm (x:Item):Prop:=x.uV.n=x.gF.n∧∀ i,i < x.fQ.n→(0≤(x.fQ.get i).e0∧(x.fQ.get i).e0 < (x.gF.n:Int))∧(0≤(x.fQ.get i).e1∧(x.fQ.get i).e1 < (x.gF.n:Int))∧0≤(x.fQ.get i).e2∧(x.fQ.get i).e2 < (x.gF.n:Int)
theorem agq (x:dq) (h0:x.t74=0) (h1:x.t73=(x.t72.n:Int)) (h2:x.t72.n≤6) (h3:x.out.n=0):∃ x',goN hQ x = .out (.exit 2) x'∧x'.out.n≤6:=by
 have key:=dE (step:=hQ) (x:=x) (fun j x=>x.t74=(j:Int)∧x.t73=(x.t72.n:Int)∧x.t72.n≤6∧x.out.n≤j∧j≤x.t72.n) (fun e x=>e = .exit 2∧x.out.n≤6) 6 (by decide)
  (fun j x hj ⟨hx,ht,hn,ho,hjn⟩=>by
   have e0:(qi x).isSome=true:=Un _ _
   have e1:(qj x).isSome=true:=Un _ _
   have e2:(qk x).isSome=true:=Un _ _
   have e3:(ql x).isSome=true:=ah9 _ _
   have e4:(uM x).isSome=true:=aia _
   have w1:aj (x.t74+1)=x.t74+1:=a9 (by omega) (by omega)
   have a1:fI 120 x.out.n 1=true:=Iu (by omega) (by omega) (by omega)
   unfold hQ
   by_cases h:x.t74 < x.t73
   ·simp only [e0,e1,e2,e3,e4,w1,a1,bc,cond_true,Bool.and_self,decide_eq_true h,decide_eq_true (show (0:Int)≤x.t74 by omega),decide_eq_true (show x.t74 < ((x.t72.n:Nat):Int) by omega)]
    left
    cases ((ql x).getD default).fst with
    | true=>exact ⟨_,rfl,by omega,by show x.t74+1=_; omega,ht,hn,by simp only [Sl.EC]; omega,by show j+1≤x.t72.n; omega⟩
    | false=>exact ⟨_,rfl,by omega,by show x.t74+1=_; omega,ht,hn,by show x.out.n≤_; omega,by show j+1≤x.t72.n; omega⟩
   ·simp only [bc,cond_true,cond_false,decide_eq_false h]
    exact .inr ⟨_,_,rfl,rfl,rfl,by omega⟩)
  ⟨h0,h1,h2,by omega,Nat.zero_le _⟩
 obtain ⟨e,x',h1,rfl,h2⟩:=key
 exact ⟨x',h1,h2⟩
theorem afg (s:Show) (c:a8) (i j:Nat) (hi:i < s.items.n) (hj:j < (s.items.get i).fQ.n) (ok:Jm (s.items.get i)):∃ r,pe s c (i:Int) (j:Int)=some r∧r.n≤6:=by
 obtain ⟨hu,hv⟩:=ok
 obtain ⟨⟨v1,v2⟩,⟨v3,v4⟩,v5,v6⟩:=hv j hj
 have e0:(Ag s c i j).isSome=true:=aad _ _
 have e1:(Ah s c i j).isSome=true:=aad _ _
 have e2:(Ai s c i j).isSome=true:=aad _ _
 obtain ⟨r,hr,hn⟩:∃ r,vv s c i j=some r∧r.1.n≤6:=ajZ _ _
 obtain ⟨z,hz,HH⟩:∃ x',oT s c i j = .out (.exit 2) x'∧x'.out.n≤6:=by
  unfold oT
  rw [hr]
  exact agq _ rfl rfl hn rfl
 have b1:(oT s c i j).by (.exit 2)=true:=by rw [hz]; rfl
 have b2:(oT s c i j).st=z:=by rw [hz]; rfl
 refine ⟨z.out,?_,HH⟩
 unfold pe
 simp only [e0,e1,e2,hr,b1,b2,hu,Int.toNat_natCast,Option.isSome_some,cond_true,Bool.and_self,decide_eq_true v1,decide_eq_true v2,decide_eq_true v3,decide_eq_true v4,decide_eq_true v5,decide_eq_true v6,decide_eq_true (show (0:Int)≤(i:Int) by omega),decide_eq_true (show (0:Int)≤(j:Int) by omega),decide_eq_true (show (i:Int) < ((s.items.n:Nat):Int) by omega),decide_eq_true (show (j:Int) < (((s.items.get i).fQ.n:Nat):Int) by omega)]
end Go.Proofs.Ytahhdndhkgbcjaa.b
end
section
namespace Go.Proofs.Ytahhdndhkgbcjaa.b
open Go.K
open Go.aE (aq)
theorem Uo (n:Int):(yh n).isSome=true:=by
 unfold yh
 exact kA (fun _=>rfl) (fun _=>rfl)
theorem akN (l:Sl eE) (hn:l.n≤4096):∃ e x',gA l = .out e x'∧(e = .ret∨e = .exit 0∧x'.l=l):=by
 unfold gA
 refine dE (step:=n5) (fun j x=>x.l=l∧x.t17=l∧x.t18=(l.n:Int)∧x.t19=(j:Int)∧j≤l.n) (fun e x'=>e = .ret∨e = .exit 0∧x'.l=l) l.n (by have:m6=1000000000000:=rfl; omega) (fun j x hj ⟨h1,h2,h3,h4,h5⟩=>?_) ⟨rfl,rfl,rfl,rfl,Nat.zero_le _⟩
 have e0:(zc x).isSome=true:=Uo _
 have e1:(zd x).isSome=true:=Uo _
 have e2:(ze x).isSome=true:=Uo _
 have w1:aj (x.t19+1)=x.t19+1:=a9 (by omega) (by omega)
 unfold n5
 by_cases h:x.t19 < x.t18
 ·simp only [e0,e1,e2,w1,cond_true,Bool.and_self,decide_eq_true h,decide_eq_true (show (0:Int)≤x.t19 by omega),decide_eq_true (show x.t19 < ((x.t17.n:Nat):Int) by rw [h2]; omega)]
  cases (!((zc x).getD default)) with
  | true=>exact .inr ⟨_,_,rfl,rfl,.inl rfl⟩
  | false=>
   cases (!((zd x).getD default)) with
   | true=>exact .inr ⟨_,_,rfl,rfl,.inl rfl⟩
   | false=>
    cases (!((ze x).getD default)) with
    | true=>exact .inr ⟨_,_,rfl,rfl,.inl rfl⟩
    | false=>exact .inl ⟨_,rfl,by omega,h1,h2,h3,by show x.t19+1=_; omega,by omega⟩
 ·simp only [cond_false,decide_eq_false h]
  exact .inr ⟨_,_,rfl,rfl,.inr ⟨rfl,h1⟩⟩
theorem aj0 (x:kW) (hn:x.t49.n≤4096) (h0:x.t50=(x.t49.n:Int)) (h1:x.t51=0):∃ x',goN lP x = .out (.exit 2) x':=by
 obtain ⟨e,x',h,rfl⟩:=dE (step:=lP) (x:=x) (fun j y=>y.t49=x.t49∧y.t50=(x.t49.n:Int)∧y.t51=(j:Int)∧j≤x.t49.n) (fun e _=>e = .exit 2) x.t49.n (by have:m6=1000000000000:=rfl; omega) (fun j y hj ⟨h2,h3,h4,h5⟩=>by
  have w1:aj (y.t51+1)=y.t51+1:=a9 (by omega) (by omega)
  unfold lP
  by_cases h:y.t51 < y.t50
  ·simp only [w1,cond_true,Bool.and_self,decide_eq_true h,decide_eq_true (show (0:Int)≤y.t51 by omega),decide_eq_true (show y.t51 < ((y.t49.n:Nat):Int) by rw [h2]; omega)]
   exact .inl ⟨_,rfl,by omega,h2,h3,by show y.t51+1=_; omega,by omega⟩
  ·simp only [cond_false,decide_eq_false h]
   exact .inr ⟨_,_,rfl,rfl,rfl⟩) ⟨rfl,h0,h1,Nat.zero_le _⟩
 exact ⟨x',h⟩
theorem aic (l:Sl eE):(CL l).isSome=true:=by
 unfold CL
 refine kA (fun _=>rfl) (fun h0=>kA (fun _=>rfl) (fun h1=>?_))
 have hz:l.n≠0:=fun h=>by
  rw [h] at h0
  exact absurd h0 (by decide)
 have hn:l.n≤4096:=by
  have:=of_decide_eq_false h1
  omega
 obtain ⟨e,x',hx,h⟩:=akN l hn
 rcases h with rfl | ⟨rfl,hl⟩
 ·have b1:(gA l).by (.exit 0)=false:=by rw [hx]; rfl
  have b2:(gA l).by .ret=true:=by rw [hx]; rfl
  simp only [b1,b2,cond_true,cond_false]
  rfl
 ·have b1:(gA l).by (.exit 0)=true:=by rw [hx]; rfl
  have b2:(gA l).st.l=l:=by rw [hx]; exact hl
  obtain ⟨y,hy⟩:∃ y,Bh l = .out (.exit 2) y:=by
   unfold Bh
   simp only [b2]
   exact aj0 _ (by show Int.toNat _ - 1≤4096; omega) rfl rfl
  have b3:(Bh l).by (.exit 2)=true:=by rw [hy]; rfl
  simp only [b1,b2,b3,cond_true,Bool.and_self,decide_eq_true (show (0:Int) < ((l.n:Nat):Int) by omega),decide_eq_true (show (1:Int)≤((l.n:Nat):Int) by omega),decide_eq_true (show ((l.n:Nat):Int)≤((l.n:Nat):Int) by omega)]
  rfl
theorem R3 (n:Int):(lq n).isSome=true:=by
 unfold lq
 exact kA (fun _=>rfl) (fun _=>rfl)
theorem R4 (t:eC):(gb t).isSome=true:=by
 have e0:(su t).isSome=true:=R3 _
 have e1:(sv t).isSome=true:=R3 _
 unfold gb
 simp only [e0,e1,cond_true]
 repeat' (refine kA (fun _=>?_) (fun _=>?_))
 all_goals rfl
theorem NJ (l:Sl eC):(gh l).isSome=true:=by
 unfold gh
 refine kA (fun _=>rfl) (fun h0=>?_)
 have hn:l.n≤16:=by
  have:=of_decide_eq_false h0
  omega
 obtain ⟨e,x',h1,h2⟩:∃ e x',eF l = .out e x'∧(e = .ret∨e = .exit 0):=by
  unfold eF
  refine dE (step:=fB) (fun j x=>x.t9=l∧x.t10=(l.n:Int)∧x.t11=(j:Int)∧j≤l.n) (fun e _=>e = .ret∨e = .exit 0) l.n (by have:m6=1000000000000:=rfl; omega) (fun j x hj ⟨h2,h3,h4,h5⟩=>?_) ⟨rfl,rfl,rfl,Nat.zero_le _⟩
  have e0:(kl x).isSome=true:=R4 _
  have w1:aj (x.t11+1)=x.t11+1:=a9 (by omega) (by omega)
  unfold fB
  by_cases h:x.t11 < x.t10
  ·simp only [e0,w1,cond_true,Bool.and_self,decide_eq_true h,decide_eq_true (show (0:Int)≤x.t11 by omega),decide_eq_true (show x.t11 < ((x.t9.n:Nat):Int) by rw [h2]; omega)]
   cases (((kl x).getD default) != (0:Int)) with
   | true=>exact .inr ⟨_,_,rfl,rfl,.inl rfl⟩
   | false=>exact .inl ⟨_,rfl,by omega,h2,h3,by show x.t11+1=_; omega,by omega⟩
  ·simp only [cond_false,decide_eq_false h]
   exact .inr ⟨_,_,rfl,rfl,.inr rfl⟩
 rcases h2 with rfl | rfl
 ·have b1:(eF l).by (.exit 0)=false:=by rw [h1]; rfl
  have b2:(eF l).by .ret=true:=by rw [h1]; rfl
  simp only [b1,b2,cond_true,cond_false]
  rfl
 ·have b1:(eF l).by (.exit 0)=true:=by rw [h1]; rfl
  simp only [b1,cond_true]
  rfl
theorem afh (l:uK) (t:Int):(fJ l t).isSome=true:=by
 unfold fJ
 repeat' (refine kA (fun _=>?_) (fun _=>?_))
 all_goals rfl
end Go.Proofs.Ytahhdndhkgbcjaa.b
end
section
namespace Go.Proofs.Ytahhdndhkgbcjaa.b
open Go.K
open Go.aE (aq)
theorem aj1 (x:Item) (t:Int) (hn:x.gF.n≤64) (hu:x.uV.n=x.gF.n):∃ e x',gp x t = .out e x'∧(e = .ret∧x'.t4=false∨e = .exit 0∧x'.n=(x.gF.n:Int)∧x'.x=x∧x'.t4=false):=by
 unfold gp
 refine dE (step:=kG) (fun j y=>y.x=x∧y.t38=x.gF∧y.t39=(x.gF.n:Int)∧y.t40=(j:Int)∧j≤x.gF.n∧y.n=(x.gF.n:Int)∧y.t4=false) (fun e y=>e = .ret∧y.t4=false∨e = .exit 0∧y.n=(x.gF.n:Int)∧y.x=x∧y.t4=false) x.gF.n (by have:m6=1000000000000:=rfl; omega) (fun j y hj ⟨h1,h2,h3,h4,h5,h6,h7⟩=>?_) ⟨rfl,rfl,rfl,rfl,Nat.zero_le _,rfl,rfl⟩
 have e0:(sA y).isSome=true:=R2 _
 have w1:aj (y.t40+1)=y.t40+1:=a9 (by omega) (by omega)
 unfold kG
 by_cases h:y.t40 < y.t39
 ·simp only [e0,w1,cond_true,Bool.and_self,decide_eq_true h,decide_eq_true (show (0:Int)≤y.t40 by omega),decide_eq_true (show y.t40 < ((y.t38.n:Nat):Int) by rw [h2]; omega),decide_eq_true (show y.t40 < ((y.x.uV.n:Nat):Int) by rw [h1]; omega)]
  cases (((sA y).getD default) != (0:Int)) with
  | true=>exact .inr ⟨_,_,rfl,rfl,.inl ⟨rfl,rfl⟩⟩
  | false=>
   cases (decide ((min (y.x.uV.get (Int.toNat y.t40)).e0 (y.x.uV.get (Int.toNat y.t40)).e1) < (0:Int))) with
   | true=>exact .inr ⟨_,_,rfl,rfl,.inl ⟨rfl,rfl⟩⟩
   | false=>
    cases (decide ((max (y.x.uV.get (Int.toNat y.t40)).e0 (y.x.uV.get (Int.toNat y.t40)).e1) > (255:Int))) with
    | true=>exact .inr ⟨_,_,rfl,rfl,.inl ⟨rfl,rfl⟩⟩
    | false=>exact .inl ⟨_,rfl,by omega,h1,h2,h3,by show y.t40+1=_; omega,by omega,h6,h7⟩
 ·simp only [cond_false,decide_eq_false h]
  exact .inr ⟨_,_,rfl,rfl,.inr ⟨rfl,h6,h1,h7⟩⟩
def aae (l:Sl fj) (n:Int) (i:Nat):Prop:=(0≤(l.get i).e0∧(l.get i).e0 < n)∧(0≤(l.get i).e1∧(l.get i).e1 < n)∧0≤(l.get i).e2∧(l.get i).e2 < n
theorem aj2 (x:gd) (hn:x.t82.n≤64) (h0:x.t83=(x.t82.n:Int)) (h1:x.t84=0) (h2:x.t4=false):∃ e x',goN ju x = .out e x'∧(e = .ret∧x'.t4=false∨e = .exit 2∧x'.n=x.n∧x'.x=x.x∧∀ i,i < x.t82.n→aae x.t82 x.n i):=by
 refine dE (step:=ju) (fun j y=>y.x=x.x∧y.t82=x.t82∧y.t83=(x.t82.n:Int)∧y.t84=(j:Int)∧j≤x.t82.n∧y.n=x.n∧y.t4=false∧∀ i,i < j→aae x.t82 x.n i) (fun e y=>e = .ret∧y.t4=false∨e = .exit 2∧y.n=x.n∧y.x=x.x∧∀ i,i < x.t82.n→aae x.t82 x.n i) x.t82.n (by have:m6=1000000000000:=rfl; omega) (fun j y hj ⟨h1,h2,h3,h4,h5,h6,h7,h8⟩=>?_) ⟨rfl,rfl,h0,h1,Nat.zero_le _,rfl,h2,fun i h=>absurd h (Nat.not_lt_zero _)⟩
 have w1:aj (y.t84+1)=y.t84+1:=a9 (by omega) (by omega)
 unfold ju
 by_cases h:y.t84 < y.t83
 ·simp only [w1,cond_true,Bool.and_self,decide_eq_true h,decide_eq_true (show (0:Int)≤y.t84 by omega),decide_eq_true (show y.t84 < ((y.t82.n:Nat):Int) by rw [h2]; omega)]
  cases g1:decide ((min (min (y.t82.get (Int.toNat y.t84)).e0 (y.t82.get (Int.toNat y.t84)).e1) (y.t82.get (Int.toNat y.t84)).e2) < (0:Int)) with
  | true=>exact .inr ⟨_,_,rfl,rfl,.inl ⟨rfl,rfl⟩⟩
  | false=>
   cases g2:decide ((max (max (y.t82.get (Int.toNat y.t84)).e0 (y.t82.get (Int.toNat y.t84)).e1) (y.t82.get (Int.toNat y.t84)).e2) ≥ y.n) with
   | true=>exact .inr ⟨_,_,rfl,rfl,.inl ⟨rfl,rfl⟩⟩
   | false=>
    refine .inl ⟨_,rfl,by omega,h1,h2,h3,by show y.t84+1=_; omega,by omega,h6,h7,fun i hi=>?_⟩
    by_cases Ct:i < j
    ·exact h8 i Ct
    ·have e:i=j:=by omega
     subst e
     have g1':=of_decide_eq_false g1
     have g2':=of_decide_eq_false g2
     rw [h2,h4,Int.toNat_natCast] at g1' g2'
     rw [h6] at g2'
     unfold aae
     omega
 ·simp only [cond_false,decide_eq_false h]
  exact .inr ⟨_,_,rfl,rfl,.inr ⟨rfl,h6,h1,fun i hi=>h8 i (by omega)⟩⟩
theorem abZ (x:Item) (t:Int):∃ b,nv x t=some b∧(b=true→x.gF.n≤64∧x.fQ.n≤64∧Jm x):=by
 have no:∃ b,(some false:Option Bool)=some b∧(b=true→x.gF.n≤64∧x.fQ.n≤64∧Jm x):=⟨false,rfl,fun h=>absurd h (by decide)⟩
 unfold nv
 cases g1:decide (((x.gF.n:Nat):Int) > (64:Int)) with
 | true=>exact no
 | false=>
 cases g2:(((x.uV.n:Nat):Int) != ((x.gF.n:Nat):Int)) with
 | true=>exact no
 | false=>
 cases g3:decide (((x.fQ.n:Nat):Int) > (64:Int)) with
 | true=>exact no
 | false=>
 have e0:(uL x t).isSome=true:=afh _ _
 simp only [cond_false,cond_true,e0]
 cases (((uL x t).getD default) != (0:Int)) with
 | true=>exact no
 | false=>
 have hv:x.gF.n≤64:=by
  have:=of_decide_eq_false g1
  omega
 have ht:x.fQ.n≤64:=by
  have:=of_decide_eq_false g3
  omega
 have hu:x.uV.n=x.gF.n:=by
  have:((x.uV.n:Nat):Int)=((x.gF.n:Nat):Int):=by simpa using g2
  omega
 obtain ⟨e,y,hy,h⟩:=aj1 x t hv hu
 rcases h with ⟨rfl,hf⟩ | ⟨rfl,hn,hx,hf⟩
 ·have b1:(gp x t).by (.exit 0)=false:=by rw [hy]; rfl
  have b2:(gp x t).by .ret=true:=by rw [hy]; rfl
  have b3:(gp x t).st.t4=false:=by rw [hy]; exact hf
  simp only [b1,b2,b3,cond_true,cond_false]
  exact no
 ·have b1:(gp x t).by (.exit 0)=true:=by rw [hy]; rfl
  have s1:(gp x t).st=y:=by rw [hy]; rfl
  obtain ⟨e,z,hz,h⟩:∃ e z,fe x t = .out e z∧(e = .ret∧z.t4=false∨e = .exit 2∧z.n=(x.gF.n:Int)∧z.x=x∧∀ i,i < x.fQ.n→aae x.fQ (x.gF.n:Int) i):=by
   unfold fe
   rw [s1,hn,hx]
   exact aj2 _ ht rfl rfl hf
  rcases h with ⟨rfl,hf'⟩ | ⟨rfl,_,hx',o3⟩
  ·have b2:(fe x t).by (.exit 2)=false:=by rw [hz]; rfl
   have b3:(fe x t).by .ret=true:=by rw [hz]; rfl
   have b4:(fe x t).st.t4=false:=by rw [hz]; exact hf'
   simp only [b1,b2,b3,b4,cond_true,cond_false]
   exact no
  ·have b2:(fe x t).by (.exit 2)=true:=by rw [hz]; rfl
   have e3:(mu x t).isSome=true:=aic _
   simp only [b1,b2,e3,cond_true]
   have ok:x.gF.n≤64∧x.fQ.n≤64∧Jm x:=⟨hv,ht,hu,o3⟩
   have q:∀ {c:Bool} {a b:Option Bool},(∃ r,a=some r∧(r=true→x.gF.n≤64∧x.fQ.n≤64∧Jm x))→(∃ r,b=some r∧(r=true→x.gF.n≤64∧x.fQ.n≤64∧Jm x))→∃ r,_root_.cond c a b=some r∧(r=true→x.gF.n≤64∧x.fQ.n≤64∧Jm x):=fun {c} {a} {b} h1 h2=>by
    cases c with
    | true=>exact h1
    | false=>exact h2
   repeat' (refine q ?_ ?_)
   all_goals first | exact no | exact ⟨_,rfl,fun _=>ok⟩
def ED (s:Show):Prop:=s.items.n≤256∧∀ i,i < s.items.n→(s.items.get i).gF.n≤64∧(s.items.get i).fQ.n≤64∧Jm (s.items.get i)
theorem Jn (s:Show):∃ e,kX s=some e∧(e=0→ED s):=by
 have no:∀ k:Int,k≠0→∃ e,(some k:Option Int)=some e∧(e=0→ED s):=fun k hk=>⟨k,rfl,fun h=>absurd h hk⟩
 unfold kX
 cases g1:decide (((s.items.n:Nat):Int) > (256:Int)) with
 | true=>exact no 4 (by decide)
 | false=>
 cases decide (((s.aK.n:Nat):Int) > (16:Int)) with
 | true=>exact no 4 (by decide)
 | false=>
 have hn:s.items.n≤256:=by
  have:=of_decide_eq_false g1
  omega
 have e0:(rG s).isSome=true:=NJ _
 simp only [e0,cond_true,cond_false]
 cases (((rG s).getD default) != (0:Int)) with
 | true=>exact no 8 (by decide)
 | false=>
 obtain ⟨e,x',hx,h⟩:∃ e x',eR s = .out e x'∧(e = .ret∧x'.t4 ≥ 0∨e = .exit 0∧∀ i,i < s.items.n→(s.items.get i).gF.n≤64∧(s.items.get i).fQ.n≤64∧Jm (s.items.get i)):=by
  unfold eR
  refine dE (step:=bG) (fun j y=>y.s=s.items∧y.t7=(s.items.n:Int)∧y.t8=(j:Int)∧j≤s.items.n∧∀ i,i < j→(s.items.get i).gF.n≤64∧(s.items.get i).fQ.n≤64∧Jm (s.items.get i)) (fun e x'=>e = .ret∧x'.t4 ≥ 0∨e = .exit 0∧∀ i,i < s.items.n→(s.items.get i).gF.n≤64∧(s.items.get i).fQ.n≤64∧Jm (s.items.get i)) s.items.n (by have:m6=1000000000000:=rfl; omega) (fun j y hj ⟨h1,h2,h3,h4,h5⟩=>?_) ⟨rfl,rfl,rfl,Nat.zero_le _,fun i h=>absurd h (Nat.not_lt_zero _)⟩
  obtain ⟨b,hb,cg⟩:=abZ (y.s.get (Int.toNat y.t8)) ((y.ZV.aK.n:Nat):Int)
  have e0:fM y=some b:=hb
  have w1:aj (y.t8+1)=y.t8+1:=a9 (by omega) (by omega)
  unfold bG
  by_cases h:y.t8 < y.t7
  ·simp only [e0,w1,cond_true,Bool.and_self,Option.isSome_some,Option.getD_some,decide_eq_true h,decide_eq_true (show (0:Int)≤y.t8 by omega),decide_eq_true (show y.t8 < ((y.s.n:Nat):Int) by rw [h1]; omega)]
   cases b with
   | false=>exact .inr ⟨_,_,rfl,rfl,.inl ⟨rfl,by show y.t8 ≥ 0; omega⟩⟩
   | true=>
    refine .inl ⟨_,rfl,by omega,h1,h2,by show y.t8+1=_; omega,by omega,fun i hi=>?_⟩
    by_cases Ct:i < j
    ·exact h5 i Ct
    ·have e:i=j:=by omega
     subst e
     have:=cg rfl
     rw [h1,h3,Int.toNat_natCast] at this
     exact this
  ·simp only [cond_false,decide_eq_false h]
   exact .inr ⟨_,_,rfl,rfl,.inr ⟨rfl,fun i hi=>h5 i (by omega)⟩⟩
 rcases h with ⟨rfl,hp⟩ | ⟨rfl,o3⟩
 ·have b1:(eR s).by (.exit 0)=false:=by rw [hx]; rfl
  have b2:(eR s).by .ret=true:=by rw [hx]; rfl
  have b3:decide ((eR s).st.t4 ≥ (0:Int))=true:=by rw [hx]; exact decide_eq_true hp
  simp only [b1,b2,b3,cond_true,cond_false]
  exact no 8 (by decide)
 ·have b1:(eR s).by (.exit 0)=true:=by rw [hx]; rfl
  simp only [b1,cond_true]
  exact ⟨0,rfl,fun _=>⟨hn,o3⟩⟩
end Go.Proofs.Ytahhdndhkgbcjaa.b
end
section
namespace Go.Proofs.Ytahhdndhkgbcjaa.b
open Go.K
open Go.aE (aq)
theorem afi (s:Show) (c:a8):∃ e,jX s c=some e∧(e=0→ED s∧Ll c):=by
 obtain ⟨e,h1,h2⟩:=Jn s
 obtain ⟨f,h3,h4⟩:=tQ c
 have e0:rH s c=some e:=h1
 have e1:vw s c=some f:=h3
 unfold jX
 simp only [e0,e1,Option.isSome_some,Option.getD_some,cond_true]
 by_cases he:e=0
 ·subst he
  exact ⟨f,rfl,fun hf=>⟨h2 rfl,h4 hf⟩⟩
 ·have:(e != (0:Int))=true:=by simpa using he
  rw [this]
  exact ⟨e,rfl,fun h=>absurd h he⟩
end Go.Proofs.Ytahhdndhkgbcjaa.b
end
section
namespace Go.Proofs.Ytahhdndhkgbcjaa.b
open Go.K
open Go.aE (aq)
def eh {α:Type} (l:Sl α):List α:=(List.range l.n).map l.get
theorem Uq {α:Type} [Inhabited α] (l:Sl α) (v:α):eh (l.push v)=eh l++[v]:=by
 unfold eh
 rw [Sl.EC,List.range_succ,List.map_append]
 congr 1
 ·exact List.map_congr_left fun i hi=>Sl.ah6 (List.mem_range.1 hi)
 ·exact congrArg (fun a=>[a]) Sl.ah7
theorem lQ {α:Type} (l:Sl α):(eh l).length=l.n:=by simp [eh]
theorem Ur {α:Type} (l:Sl α) (j:Nat) (h:j < l.n):(eh l).take (j+1)=(eh l).take j++[l.get j]:=by
 rw [List.take_add_one]
 congr 1
 unfold eh
 simp [h]
end Go.Proofs.Ytahhdndhkgbcjaa.b
end
section
namespace Go.Proofs.Ytahhdndhkgbcjaa.b
open Go.K
open Go.aE (aq)
def prt (s:Show) (c:a8) (i k:Nat):Sl bt:=(pe s c (i:Int) (k:Int)).getD default
def partAt (s:Show) (c:a8) (i k n:Nat):di:=⟨(prt s c i k).get n,⟨(s.items.get i).look.K3,(i:Int),(k:Int),(n:Int),0,0⟩⟩
def R5 (s:Show) (c:a8) (i k:Nat):List di:=(List.range (prt s c i k).n).map (partAt s c i k)
def Lm (s:Show) (c:a8) (i:Nat):List di:=(List.range (s.items.get i).fQ.n).flatMap (R5 s c i)
def lA (s:Show) (c:a8):List di:=(List.range s.items.n).flatMap (Lm s c)
theorem Ln {α:Type} (f:Nat→List α) (n:Nat):(List.range (n+1)).flatMap f=(List.range n).flatMap f++f n:=by
 rw [List.range_succ,List.flatMap_append]; simp
theorem akO (s:Show) (c:a8) (i k:Nat) (x:fR) (hi:x.i=(i:Int)) (hk:x.k=(k:Int)) (hr:x.t31=prt s c i k) (hb:x.x=s.items.get i) (hn:x.t31.n≤6) (h2:x.t32=(x.t31.n:Int)) (h3:x.t33=0) (hs:x.out.parts.n≤200000) :
  ∃ e y,goN gR x = .out e y∧(e = .exit 4∧y.i=x.i∧y.t14=x.t14∧y.t15=x.t15∧y.t16=x.t16∧y.t23=x.t23∧y.t24=x.t24∧y.s=x.s∧y.c=x.c∧y.t4=x.t4∧y.x=x.x∧y.out.cN=x.out.cN∧eh y.out.parts=eh x.out.parts++R5 s c i k∧y.out.parts.n≤x.out.parts.n+6):=by
 refine dE (step:=gR) (fun j y=>(y.i=x.i∧y.t14=x.t14∧y.t15=x.t15∧y.t16=x.t16∧y.t23=x.t23∧y.t24=x.t24∧y.s=x.s∧y.c=x.c∧y.t4=x.t4∧y.x=x.x∧y.out.cN=x.out.cN)∧y.k=x.k∧y.t31=x.t31∧y.t32=(x.t31.n:Int)∧y.t33=(j:Int)∧j≤x.t31.n∧eh y.out.parts=eh x.out.parts++(List.range j).map (partAt s c i k)∧y.out.parts.n≤x.out.parts.n+j) (fun e y=>e = .exit 4∧y.i=x.i∧y.t14=x.t14∧y.t15=x.t15∧y.t16=x.t16∧y.t23=x.t23∧y.t24=x.t24∧y.s=x.s∧y.c=x.c∧y.t4=x.t4∧y.x=x.x∧y.out.cN=x.out.cN∧eh y.out.parts=eh x.out.parts++R5 s c i k∧y.out.parts.n≤x.out.parts.n+6) x.t31.n (by have:m6=1000000000000:=rfl; omega) (fun j y hj ⟨hf,vU,h4,h5,h6,h7,h8,h9⟩=>?_) ⟨⟨rfl,rfl,rfl,rfl,rfl,rfl,rfl,rfl,rfl,rfl,rfl⟩,rfl,rfl,h2,h3,Nat.zero_le _,by simp,by omega⟩
 have w1:aj (y.t33+1)=y.t33+1:=a9 (by omega) (by omega)
 have a1:fI 168 y.out.parts.n 1=true:=Iq (by omega) (by omega) (by omega) (.inl (by omega))
 obtain ⟨f1,f2,f3,f4,f5,f6,f7,f8,f9,f10,f11⟩:=hf
 unfold gR
 by_cases h:y.t33 < y.t32
 ·simp only [w1,a1,bc,cond_true,Bool.and_self,decide_eq_true h,decide_eq_true (show (0:Int)≤y.t33 by omega),decide_eq_true (show y.t33 < ((y.t31.n:Nat):Int) by rw [h4]; omega)]
  refine .inl ⟨_,rfl,by omega,⟨f1,f2,f3,f4,f5,f6,f7,f8,f9,f10,f11⟩,vU,h4,h5,by show y.t33+1=_; omega,by omega,?_,by simp only [Sl.EC]; omega⟩
  show eh (Sl.push _ _)=_
  rw [Uq,h8,List.range_succ,List.map_append,← List.append_assoc]
  have e1:(⟨(y.t31.get (Int.toNat y.t33)),(⟨y.x.look.K3,y.i,y.k,y.t33,(0:Int),(0:Int)⟩:aU)⟩:di)=partAt s c i k j:=by
   unfold partAt
   rw [h4,h6,Int.toNat_natCast,hr,f10,hb,f1,vU,hi,hk]
  rw [e1]
  rfl
 ·simp only [bc,cond_true,cond_false,decide_eq_false h]
  refine .inr ⟨_,_,rfl,rfl,rfl,f1,f2,f3,f4,f5,f6,f7,f8,f9,f10,f11,?_,by omega⟩
  rw [h8,show j=x.t31.n by omega,hr]
  rfl
theorem aj3 (s:Show) (c:a8) (n:Nat) (hn:n < s.items.n) (cg:Jm (s.items.get n)) (ht:(s.items.get n).fQ.n≤64) (x:fD) (hs:x.s=s) (hc:x.c=c) (hx:x.x=s.items.get n) (hi:x.i=(n:Int)) (h2:x.t23=((s.items.get n).fQ.n:Int)) (h3:x.t24=0) (fq:x.out.parts.n≤150000) :
  ∃ e y,goN iR x = .out e y∧(e = .exit 2∧y.t14=x.t14∧y.t15=x.t15∧y.t16=x.t16∧y.s=s∧y.c=c∧y.t4=x.t4∧y.out.cN=x.out.cN∧eh y.out.parts=eh x.out.parts++Lm s c n∧y.out.parts.n≤x.out.parts.n+384):=by
 refine dE (step:=iR) (fun j y=>(y.i=x.i∧y.t14=x.t14∧y.t15=x.t15∧y.t16=x.t16∧y.t23=x.t23∧y.s=s∧y.c=c∧y.t4=x.t4∧y.x=x.x∧y.out.cN=x.out.cN)∧y.t24=(j:Int)∧j≤(s.items.get n).fQ.n∧eh y.out.parts=eh x.out.parts++(List.range j).flatMap (R5 s c n)∧y.out.parts.n≤x.out.parts.n+6 * j) (fun e y=>e = .exit 2∧y.t14=x.t14∧y.t15=x.t15∧y.t16=x.t16∧y.s=s∧y.c=c∧y.t4=x.t4∧y.out.cN=x.out.cN∧eh y.out.parts=eh x.out.parts++Lm s c n∧y.out.parts.n≤x.out.parts.n+384) (s.items.get n).fQ.n (by have:m6=1000000000000:=rfl; omega) (fun j y hj ⟨⟨f1,f2,f3,f4,f5,f6,f7,f8,f9,f10⟩,h4,h5,h6,h7⟩=>?_) ⟨⟨rfl,rfl,rfl,rfl,rfl,hs,hc,rfl,rfl,rfl⟩,h3,Nat.zero_le _,by simp,by omega⟩
 unfold iR
 by_cases h:y.t24 < y.t23
 ·obtain ⟨r,hr,hrn⟩:=afg s c n j hn (by omega) cg
  have e0:og y=some r:=by
   unfold og
   rw [f6,f7,f1,hi,h4]
   exact hr
  have ep:prt s c n j=r:=by unfold prt; rw [hr]; rfl
  obtain ⟨e,z,hz,rfl,g1,g2,g3,g4,g5,g6,g7,g8,g9,g10,amF,g11,g12⟩:∃ e z,cj y = .out e z∧(e = .exit 4∧z.i=y.i∧z.t14=y.t14∧z.t15=y.t15∧z.t16=y.t16∧z.t23=y.t23∧z.t24=y.t24∧z.s=y.s∧z.c=y.c∧z.t4=y.t4∧z.x=y.x∧z.out.cN=y.out.cN∧eh z.out.parts=eh y.out.parts++R5 s c n j∧z.out.parts.n≤y.out.parts.n+6):=by
   unfold cj
   rw [e0]
   exact akO s c n j _ (by show y.i=_; rw [f1,hi]) h4 ep.symm (by show y.x=_; rw [f9,hx]) hrn rfl rfl (by show y.out.parts.n≤200000; omega)
  have b1:(cj y).by (.exit 4)=true:=by rw [hz]; rfl
  have b2:(cj y).st=z:=by rw [hz]; rfl
  have w1:aj (z.t24+1)=z.t24+1:=a9 (by omega) (by omega)
  simp only [e0,b1,b2,w1,bc,cond_true,Option.isSome_some,decide_eq_true h]
  refine .inl ⟨_,rfl,by omega,⟨g1.trans f1,g2.trans f2,g3.trans f3,g4.trans f4,g5.trans f5,g7.trans f6,g8.trans f7,g9.trans f8,g10.trans f9,amF.trans f10⟩,by show z.t24+1=_; omega,by omega,?_,by show z.out.parts.n≤_; omega⟩
  show eh z.out.parts=_
  rw [g11,h6,Ln,List.append_assoc]
 ·simp only [bc,cond_true,cond_false,decide_eq_false h]
  refine .inr ⟨_,_,rfl,rfl,rfl,f2,f3,f4,f6,f7,f8,f10,?_,by omega⟩
  rw [h6,show j=(s.items.get n).fQ.n by omega]
  rfl
theorem aj4 (s:Show) (c:a8) (hs:ED s) (x:ji) (h14:x.t14=s.items) (h15:x.t15=(s.items.n:Int)) (h16:x.t16=0) (hxs:x.s=s) (hxc:x.c=c) (h0:x.out.parts.n=0) :
  ∃ e y,goN kL x = .out e y∧(e = .exit 0∧y.out.cN=x.out.cN∧eh y.out.parts=lA s c∧y.out.parts.n≤98304):=by
 obtain ⟨hs1,kf⟩:=hs
 refine dE (step:=kL) (fun j y=>y.t14=s.items∧y.t15=(s.items.n:Int)∧y.t16=(j:Int)∧y.s=s∧y.c=c∧y.out.cN=x.out.cN∧j≤s.items.n∧eh y.out.parts=(List.range j).flatMap (Lm s c)∧y.out.parts.n≤384 * j) (fun e y=>e = .exit 0∧y.out.cN=x.out.cN∧eh y.out.parts=lA s c∧y.out.parts.n≤98304) s.items.n (by have:m6=1000000000000:=rfl; omega) (fun j y hj ⟨f1,f2,f3,f4,f5,f5',f6,f7,f8⟩=>?_) ⟨h14,h15,h16,hxs,hxc,rfl,Nat.zero_le _,by simp only [List.range_zero,List.flatMap_nil]; exact List.length_eq_zero_iff.1 (by rw [lQ,h0]),by omega⟩
 unfold kL
 by_cases h:y.t16 < y.t15
 ·have nW:j < s.items.n:=by omega
  obtain ⟨_,ht,cg⟩:=kf j nW
  have hg:y.t14.get (Int.toNat y.t16)=s.items.get j:=by rw [f1,f3,Int.toNat_natCast]
  obtain ⟨e,z,hz,rfl,g1,g2,g3,g4,g5,_,g6,g7,g8⟩:∃ e z,eG y = .out e z∧(e = .exit 2∧z.t14=y.t14∧z.t15=y.t15∧z.t16=y.t16∧z.s=s∧z.c=c∧z.t4=y.t4∧z.out.cN=y.out.cN∧eh z.out.parts=eh y.out.parts++Lm s c j∧z.out.parts.n≤y.out.parts.n+384):=by
   unfold eG
   exact aj3 s c j nW cg ht _ f4 f5 hg f3 (by show (((y.t14.get (Int.toNat y.t16)).fQ.n:Nat):Int)=_; rw [hg]) rfl (by show y.out.parts.n≤150000; omega)
  have b1:(eG y).by (.exit 2)=true:=by rw [hz]; rfl
  have b2:(eG y).st=z:=by rw [hz]; rfl
  have w1:aj (z.t16+1)=z.t16+1:=a9 (by omega) (by omega)
  simp only [b1,b2,w1,bc,cond_true,Bool.and_self,decide_eq_true h,decide_eq_true (show (0:Int)≤y.t16 by omega),decide_eq_true (show y.t16 < ((y.t14.n:Nat):Int) by rw [f1]; omega)]
  refine .inl ⟨_,rfl,nW,g1.trans f1,g2.trans f2,by show z.t16+1=_; omega,g4,g5,g6.trans f5',by omega,?_,by show z.out.parts.n≤_; omega⟩
  show eh z.out.parts=_
  rw [g7,f7,Ln]
 ·simp only [bc,cond_true,cond_false,decide_eq_false h]
  refine .inr ⟨_,_,rfl,rfl,rfl,f5',?_,by omega⟩
  rw [f7,show j=s.items.n by omega]
  rfl
theorem aid (s:Show) (c:a8) (hs:ED s):∃ r,qp s c=some r∧r.cN=s∧eh r.parts=lA s c∧r.parts.n≤98304:=by
 obtain ⟨e,y,hy,rfl,h0,h1,h2⟩:∃ e y,AV s c = .out e y∧(e = .exit 0∧y.out.cN=s∧eh y.out.parts=lA s c∧y.out.parts.n≤98304):=by
  unfold AV
  exact aj4 s c hs _ rfl rfl rfl rfl rfl rfl
 refine ⟨y.out,?_,h0,h1,h2⟩
 unfold qp
 rw [hy]
 rfl
end Go.Proofs.Ytahhdndhkgbcjaa.b
end
section
namespace Go.Proofs.Ytahhdndhkgbcjaa.b
open Go.K
set_option linter.unusedVariables false
set_option linter.unusedSimpArgs false
noncomputable section
def GD:List (Nat×(List KV→KR KV)):=[]
def GF:List Lp:=[]
theorem Pc:ao Try.prog GD:=ao.nil
theorem Pd:az Try.prog GF:=az.nil
def n6 (x:Int):Option (Bool):=
 (some ((x != x)))
theorem R6 (x:Int):dp Try.prog (bu Try.prog GD GF (fun q=>Nat.beq q 47)) 9 9 71 [(kI .i64) x] = (n6 x).map kB:=by
 unfold n6
 kernel_rfl
def Jo:List KV→KR KV:=cA Try.prog 71 (cF kB fun vs=>n6 (intOf (vs.getD 0 .aw)))
theorem Pe (w:Nat→KV):cM Try.prog [3] w 0 = [(kI .i64) (intOf (ay Try.prog (ak Try.prog au) 3 (w 0)))]:=by kernel_rfl
theorem Pf:ca Try.prog 71 Jo:=aY funcs mixed Pc Pd (L:=9) (n:=9) fun w=>by
 have e:aJ Try.prog 71 = [3]:=by kernel_rfl
 rw [e,Pe]
 exact (R6 (intOf (ay Try.prog (ak Try.prog au) 3 (w 0)))).trans (by kernel_rfl)
def Dz:List (Nat×(List KV→KR KV)):=[(71,Jo)]
def DA:List Lp:=[]
theorem Lo:ao Try.prog Dz:=(ao.cons Pf ao.nil)
theorem Lq:az Try.prog DA:=az.nil
def wj (x:Int) (y:Int):(Option Bool):=(n6 x)
def qV (x:Int) (y:Int):(Option Bool):=(n6 y)
def eD (x:Int) (y:Int):Option (Int):=
 (cond ((wj x y).getD default)
 (cond ((qV x y).getD default)
 (some ((0:Int)))
 (some ((-(1:Int)))))
 (cond ((qV x y).getD default)
 (some ((1:Int)))
 (cond (decide (x < y))
 (some ((-(1:Int))))
 (cond (decide (x > y))
 (some ((1:Int)))
 (some ((0:Int)))))))
theorem MN (x:Int) (y:Int):dp Try.prog (bu Try.prog Dz DA (fun q=>Nat.beq q 47)) 9 9 35 [(kI .i64) x,(kI .i64) y] = (eD x y).map (kI .i64):=by
 unfold eD
 try simp only [ch]
 kernel_rfl
def cc:List KV→KR KV:=cA Try.prog 35 (cF (kI .i64) fun vs=>eD (intOf (vs.getD 0 .aw)) (intOf (vs.getD 1 .aw)))
theorem Lr (w:Nat→KV):cM Try.prog [3,3] w 0 = [(kI .i64) (intOf (ay Try.prog (ak Try.prog au) 3 (w 0))),(kI .i64) (intOf (ay Try.prog (ak Try.prog au) 3 (w 1)))]:=by kernel_rfl
theorem bI:ca Try.prog 35 cc:=aY funcs mixed Lo Lq (L:=9) (n:=9) fun w=>by
 have e:aJ Try.prog 35 = [3,3]:=by kernel_rfl
 rw [e,Lr]
 exact (MN (intOf (ay Try.prog (ak Try.prog au) 3 (w 0))) (intOf (ay Try.prog (ak Try.prog au) 3 (w 1)))).trans (by kernel_rfl)
end
end Go.Proofs.Ytahhdndhkgbcjaa.b
end
section
namespace Go.Proofs.Ytahhdndhkgbcjaa.b
open Go.K
set_option linter.unusedVariables false
set_option linter.unusedSimpArgs false
noncomputable section
structure nG where
 data:(Sl ZW)
 a:Int
 m:Int
 b:Int
 held:Show
instance:Inhabited nG:=⟨⟨default,default,default,default,default⟩⟩
end
end Go.Proofs.Ytahhdndhkgbcjaa.b
end
section
namespace Go.Proofs.Ytahhdndhkgbcjaa.b
open Go.K
set_option linter.unusedVariables false
set_option linter.unusedSimpArgs false
noncomputable section
end
end Go.Proofs.Ytahhdndhkgbcjaa.b
end
section
namespace Go.Proofs.Ytahhdndhkgbcjaa.b
open Go.K
set_option linter.unusedVariables false
set_option linter.unusedSimpArgs false
noncomputable section
end
end Go.Proofs.Ytahhdndhkgbcjaa.b
end
