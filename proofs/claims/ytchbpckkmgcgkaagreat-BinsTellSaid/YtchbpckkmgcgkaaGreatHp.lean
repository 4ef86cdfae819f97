/- Part of the proof of BinsTell: the machine, shown to be the model's, and plain models. No conditions. -/
import Derived.Test.YtchbpckkmgcgkaaGreatGp
set_option linter.unusedSimpArgs false
set_option linter.unusedVariables false
section
namespace Go.Proofs.YtchbpckkmgcgkaaGreat.b
open Go.K
noncomputable section
structure r5 where
 t4:Bool
 i:Int
 a:ch
 b:ch
instance:Inhabited r5:=⟨⟨default,default,default,default⟩⟩
def GX (x:r5):List KV:=[.bool x.t4,.int .i64 x.i]
def GY (x:r5):List (List KV):=[aa1 x.a,aa1 x.b]
def QB (vs:List KV) (rs:List (List KV)):r5:=⟨iH (v9 vs 0),intOf (v9 vs 1),aa2 (r9 rs 0),aa2 (r9 rs 1)⟩
def SC:aL:=⟨[(4,w9 b9),(5,w9 i9)],[(2,[i9,i9,n9 33],1),(3,[i9,i9,n9 33],1)],[(2,0,0),(3,1,0)]⟩
def adb:=sB [] [] 132 58 SC
def qc (x:r5):aO r5:=(cond (decide (x.i < (x.a.fw.n:Int))) (cond (bj x.i x.a.fw.n) (cond (bj x.i x.b.fw.n) (cond (!(((x.a.fw.get (Int.toNat x.i)).e0==(x.b.fw.get (Int.toNat x.i)).e0)&&(((x.a.fw.get (Int.toNat x.i)).e1==(x.b.fw.get (Int.toNat x.i)).e1)&&(((x.a.fw.get (Int.toNat x.i)).e2==(x.b.fw.get (Int.toNat x.i)).e2)&&(((x.a.fw.get (Int.toNat x.i)).e3==(x.b.fw.get (Int.toNat x.i)).e3)&&true))))) (.out aB.ai.ret ⟨false,x.i,x.a,x.b⟩) (.next ⟨x.t4,(az (x.i+1)),x.a,x.b⟩)) .fail) .fail) (.out (aB.ai.exit 0) x))
theorem Zq (x:r5):adb (GX x) (GY x)=aO.enc GX GY (qc x):=by
 unfold qc bj
 try simp only [aO.bw]
 kernel_rfl
def SD:Lp:=⟨132,58,SC,fun vs rs=>bP GX GY (goN qc (QB vs rs)) [aB.ai.exit 0,aB.ai.ret],false⟩
theorem ade:SD.Ok PG:=rF ak.nil aK.nil (pa:=QB) Zq
def wO (a:ch) (b:ch):=goN qc ⟨false,0,a,b⟩
def Cy (a:ch) (b:ch):Option (Bool):=(cond (a.w != b.w) (some (false)) (cond (a.h != b.h) (some (false)) (cond ((a.fw.n:Int) != (b.fw.n:Int)) (some (false)) (cond ((wO a b).by (aB.ai.exit 0)) (some (true)) (cond ((wO a b).by aB.ai.ret) (some ((wO a b).st.t4)) none)))))
theorem ag8 (a:ch) (b:ch):gn [] [SD] 132 [jM a,jM b] = (Cy a b).map kB:=by
 unfold Cy
 try simp only [aV]
 kernel_rfl
def SE:List KV->KR KV:=bk PG 132 (bn kB fun vs=>Cy (fO (v9 vs 0)) (fO (v9 vs 1)))
theorem SF:bg PG 132 SE:=bQ ak.nil (gm ade aK.nil) fun w=>ag8 (fO (g0 114 (w 0))) (fO (g0 114 (w 1)))
structure lO where
 a:(Sl ch)
 b:(Sl ch)
 t4:Bool
 i:Int
instance:Inhabited lO:=⟨⟨default,default,default,default⟩⟩
def BQ (x:lO):List KV:=[cT 114 jM x.a,cT 114 jM x.b,.bool x.t4,.int .i64 x.i]
def BR (x:lO):List (List KV):=[]
def JA (vs:List KV) (rs:List (List KV)):lO:=⟨dp fO (v9 vs 0),dp fO (v9 vs 1),iH (v9 vs 2),intOf (v9 vs 3)⟩
def KX:aL:=⟨[(0,w9 (n9 114)),(1,w9 (n9 114)),(4,w9 b9),(5,w9 i9)],[],[]⟩
def W4:=sB [(132,SE)] [] 67 58 KX
def ui (x:lO):=Cy (x.a.get (Int.toNat x.i)) (x.b.get (Int.toNat x.i))
def ni (x:lO):aO lO:=(cond (decide (x.i < (x.a.n:Int))) (cond (bj x.i x.a.n) (cond (bj x.i x.b.n) (cond (ui x).isSome (cond (!((ui x).getD default)) (.out aB.ai.ret ⟨x.a,x.b,false,x.i⟩) (.next ⟨x.a,x.b,x.t4,(az (x.i+1))⟩)) .fail) .fail) .fail) (.out (aB.ai.exit 0) x))
theorem SG (x:lO):W4 (BQ x) (BR x)=aO.enc BQ BR (ni x):=by
 unfold ni bj
 try simp only [aO.bw]
 kernel_rfl
def KY:Lp:=⟨67,58,KX,fun vs rs=>bP BQ BR (goN ni (JA vs rs)) [aB.ai.exit 0,aB.ai.ret],false⟩
theorem W5:KY.Ok PG:=rF (ak.cons SF ak.nil) aK.nil (pa:=JA) SG
def rM (a:(Sl ch)) (b:(Sl ch)):=goN ni ⟨a,b,false,0⟩
def uX (a:(Sl ch)) (b:(Sl ch)):Option (Bool):=(cond ((a.n:Int) != (b.n:Int)) (some (false)) (cond ((rM a b).by (aB.ai.exit 0)) (some (true)) (cond ((rM a b).by aB.ai.ret) (some ((rM a b).st.t4)) none)))
theorem abf (a:(Sl ch)) (b:(Sl ch)):gn [(132,SE)] [KY] 67 [(cT 114 jM) a,(cT 114 jM) b] = (uX a b).map kB:=by
 unfold uX
 try simp only [aV]
 kernel_rfl
def JB:List KV->KR KV:=bk PG 67 (bn kB fun vs=>uX ((dp fO) (v9 vs 0)) ((dp fO) (v9 vs 1)))
theorem KZ:bg PG 67 JB:=bQ (ak.cons SF ak.nil) (gm W5 aK.nil) fun w=>abf ((dp fO) (g0 23 (w 0))) ((dp fO) (g0 23 (w 1)))
structure mU where
 t4:Bool
 i:Int
 a:Item
 b:Item
instance:Inhabited mU:=⟨⟨default,default,default,default⟩⟩
def zU (x:mU):List KV:=[.bool x.t4,.int .i64 x.i]
def zV (x:mU):List (List KV):=[Dt x.a,Dt x.b]
def HH (vs:List KV) (rs:List (List KV)):mU:=⟨iH (v9 vs 0),intOf (v9 vs 1),EM (r9 rs 0),EM (r9 rs 1)⟩
def JC:aL:=⟨[(4,w9 b9),(5,w9 i9)],[(2,[n9 27,n9 181,n9 28,u9,u9,u9,u9,i9,u9,i9,b9,i9,i9,i9,i9,i9,i9,i9],1),(3,[n9 27,n9 181,n9 28,u9,u9,u9,u9,i9,u9,i9,b9,i9,i9,i9,i9,i9,i9,i9],1)],[(2,0,0),(3,1,0)]⟩
def UF:=sB [] [] 68 58 JC
def mh (x:mU):aO mU:=(cond (decide (x.i < (x.a.aG.n:Int))) (cond (bj x.i x.a.aG.n) (cond (bj x.i x.b.aG.n) (cond (!(((x.a.aG.get (Int.toNat x.i)).x==(x.b.aG.get (Int.toNat x.i)).x)&&(((x.a.aG.get (Int.toNat x.i)).y==(x.b.aG.get (Int.toNat x.i)).y)&&(((x.a.aG.get (Int.toNat x.i)).z==(x.b.aG.get (Int.toNat x.i)).z)&&true)))) (.out aB.ai.ret ⟨false,x.i,x.a,x.b⟩) (.next ⟨x.t4,(az (x.i+1)),x.a,x.b⟩)) .fail) .fail) (.out (aB.ai.exit 0) x))
theorem Q8 (x:mU):UF (zU x) (zV x)=aO.enc zU zV (mh x):=by
 unfold mh bj
 try simp only [aO.bw]
 kernel_rfl
def vZ:Lp:=⟨68,58,JC,fun vs rs=>bP zU zV (goN mh (HH vs rs)) [aB.ai.exit 0,aB.ai.ret],false⟩
theorem zW:vZ.Ok PG:=rF ak.nil aK.nil (pa:=HH) Q8
structure lC where
 t4:Bool
 i:Int
 a:Item
 b:Item
instance:Inhabited lC:=⟨⟨default,default,default,default⟩⟩
def yp (x:lC):List KV:=[.bool x.t4,.int .i64 x.i]
def yq (x:lC):List (List KV):=[Dt x.a,Dt x.b]
def Gj (vs:List KV) (rs:List (List KV)):lC:=⟨iH (v9 vs 0),intOf (v9 vs 1),EM (r9 rs 0),EM (r9 rs 1)⟩
def HI:aL:=⟨[(4,w9 b9),(6,w9 i9)],[(2,[n9 27,n9 181,n9 28,u9,u9,u9,u9,i9,u9,i9,b9,i9,i9,i9,i9,i9,i9,i9],1),(3,[n9 27,n9 181,n9 28,u9,u9,u9,u9,i9,u9,i9,b9,i9,i9,i9,i9,i9,i9,i9],1)],[(2,0,0),(3,1,0)]⟩
def SH:=sB [] [vZ] 68 122 HI
def lj (x:lC):aO lC:=(cond (decide (x.i < (x.a.uV.n:Int))) (cond (bj x.i x.a.uV.n) (cond (bj x.i x.b.uV.n) (cond (!(((x.a.uV.get (Int.toNat x.i)).e0==(x.b.uV.get (Int.toNat x.i)).e0)&&(((x.a.uV.get (Int.toNat x.i)).e1==(x.b.uV.get (Int.toNat x.i)).e1)&&true))) (.out aB.ai.ret ⟨false,x.i,x.a,x.b⟩) (.next ⟨x.t4,(az (x.i+1)),x.a,x.b⟩)) .fail) .fail) (.out (aB.ai.exit 2) x))
theorem PN (x:lC):SH (yp x) (yq x)=aO.enc yp yq (lj x):=by
 unfold lj bj
 try simp only [aO.bw]
 kernel_rfl
def zX:Lp:=⟨68,122,HI,fun vs rs=>bP yp yq (goN lj (Gj vs rs)) [aB.ai.exit 2,aB.ai.ret],false⟩
theorem Gk:zX.Ok PG:=rF ak.nil (gm zW aK.nil) (pa:=Gj) PN
structure lD where
 t4:Bool
 i:Int
 a:Item
 b:Item
instance:Inhabited lD:=⟨⟨default,default,default,default⟩⟩
def yr (x:lD):List KV:=[.bool x.t4,.int .i64 x.i]
def yu (x:lD):List (List KV):=[Dt x.a,Dt x.b]
def Gl (vs:List KV) (rs:List (List KV)):lD:=⟨iH (v9 vs 0),intOf (v9 vs 1),EM (r9 rs 0),EM (r9 rs 1)⟩
def HJ:aL:=⟨[(4,w9 b9),(7,w9 i9)],[(2,[n9 27,n9 181,n9 28,u9,u9,u9,u9,i9,u9,i9,b9,i9,i9,i9,i9,i9,i9,i9],1),(3,[n9 27,n9 181,n9 28,u9,u9,u9,u9,i9,u9,i9,b9,i9,i9,i9,i9,i9,i9,i9],1)],[(2,0,0),(3,1,0)]⟩
def SI:=sB [] [vZ,zX] 68 250 HJ
def lk (x:lD):aO lD:=(cond (decide (x.i < (x.a.aP.n:Int))) (cond (bj x.i x.a.aP.n) (cond (bj x.i x.b.aP.n) (cond (!(((x.a.aP.get (Int.toNat x.i)).e0==(x.b.aP.get (Int.toNat x.i)).e0)&&(((x.a.aP.get (Int.toNat x.i)).e1==(x.b.aP.get (Int.toNat x.i)).e1)&&(((x.a.aP.get (Int.toNat x.i)).e2==(x.b.aP.get (Int.toNat x.i)).e2)&&true)))) (.out aB.ai.ret ⟨false,x.i,x.a,x.b⟩) (.next ⟨x.t4,(az (x.i+1)),x.a,x.b⟩)) .fail) .fail) (.out (aB.ai.exit 4) x))
theorem PO (x:lD):SI (yr x) (yu x)=aO.enc yr yu (lk x):=by
 unfold lk bj
 try simp only [aO.bw]
 kernel_rfl
def HK:Lp:=⟨68,250,HJ,fun vs rs=>bP yr yu (goN lk (Gl vs rs)) [aB.ai.exit 4,aB.ai.ret],false⟩
theorem SJ:HK.Ok PG:=rF ak.nil (gm zW (gm Gk aK.nil)) (pa:=Gl) PO
def iK (a:Item) (b:Item):=goN mh ⟨false,0,a,b⟩
def iL (a:Item) (b:Item):=goN lj ⟨(iK a b).st.t4,0,(iK a b).st.a,(iK a b).st.b⟩
def qd (a:Item) (b:Item):=goN lk ⟨(iL a b).st.t4,0,(iL a b).st.a,(iL a b).st.b⟩
def s5 (a:Item) (b:Item):Option (Bool):=(cond ((a.aG.n:Int) != (b.aG.n:Int)) (some (false)) (cond ((a.uV.n:Int) != (b.uV.n:Int)) (some (false)) (cond ((a.aP.n:Int) != (b.aP.n:Int)) (some (false)) (cond (!((a.look.color.e0==b.look.color.e0)&&((a.look.color.e1==b.look.color.e1)&&((a.look.color.e2==b.look.color.e2)&&((a.look.color.e3==b.look.color.e3)&&((a.look.Aw==b.look.Aw)&&((a.look.cz==b.look.cz)&&((a.look.Vy==b.look.Vy)&&((a.look.cI==b.look.cI)&&((a.look.bin==b.look.bin)&&true)))))))))) (some (false)) (cond (!((a.box.low.x==b.box.low.x)&&((a.box.low.y==b.box.low.y)&&((a.box.low.z==b.box.low.z)&&((a.box.high.x==b.box.high.x)&&((a.box.high.y==b.box.high.y)&&((a.box.high.z==b.box.high.z)&&true))))))) (some (false)) (cond ((iK a b).by (aB.ai.exit 0)) (cond ((iL a b).by (aB.ai.exit 2)) (cond ((qd a b).by (aB.ai.exit 4)) (some (true)) (cond ((qd a b).by aB.ai.ret) (some ((qd a b).st.t4)) none)) (cond ((iL a b).by aB.ai.ret) (some ((iL a b).st.t4)) none)) (cond ((iK a b).by aB.ai.ret) (some ((iK a b).st.t4)) none)))))))
theorem Zr (a:Item) (b:Item):gn [] [vZ,zX,HK] 68 [Mi a,Mi b] = (s5 a b).map kB:=by
 unfold s5
 try simp only [aV]
 kernel_rfl
def GZ:List KV->KR KV:=bk PG 68 (bn kB fun vs=>s5 (BN (v9 vs 0)) (BN (v9 vs 1)))
theorem JD:bg PG 68 GZ:=bQ ak.nil (gm zW (gm Gk (gm SJ aK.nil))) fun w=>Zr (BN (g0 111 (w 0))) (BN (g0 111 (w 1)))
structure kO where
 t4:Bool
 i:Int
 a:Show
 b:Show
instance:Inhabited kO:=⟨⟨default,default,default,default⟩⟩
def zY (x:kO):List KV:=[.bool x.t4,.int .i64 x.i]
def zZ (x:kO):List (List KV):=[hD x.a,hD x.b]
def HL (vs:List KV) (rs:List (List KV)):kO:=⟨iH (v9 vs 0),intOf (v9 vs 1),hH (r9 rs 0),hH (r9 rs 1)⟩
def JE:aL:=⟨[(4,w9 b9),(5,w9 i9)],[(2,[n9 111,n9 114],1),(3,[n9 111,n9 114],1)],[(2,0,0),(3,1,0)]⟩
def UG:=sB [(68,GZ),(67,JB)] [] 21 58 JE
def tC (x:kO):=s5 (x.a.items.get (Int.toNat x.i)) (x.b.items.get (Int.toNat x.i))
def mi (x:kO):aO kO:=(cond (decide (x.i < (x.a.items.n:Int))) (cond (bj x.i x.a.items.n) (cond (bj x.i x.b.items.n) (cond (tC x).isSome (cond (!((tC x).getD default)) (.out aB.ai.ret ⟨false,x.i,x.a,x.b⟩) (.next ⟨x.t4,(az (x.i+1)),x.a,x.b⟩)) .fail) .fail) .fail) (.out (aB.ai.exit 0) x))
theorem Q9 (x:kO):UG (zY x) (zZ x)=aO.enc zY zZ (mi x):=by
 unfold mi bj
 try simp only [aO.bw]
 kernel_rfl
def JF:Lp:=⟨21,58,JE,fun vs rs=>bP zY zZ (goN mi (HL vs rs)) [aB.ai.exit 0,aB.ai.ret],false⟩
theorem UH:JF.Ok PG:=rF (ak.cons JD (ak.cons KZ ak.nil)) aK.nil (pa:=HL) Q9
def DA (a:Show) (b:Show):=uX a.av b.av
def qe (a:Show) (b:Show):=goN mi ⟨false,0,a,b⟩
def s6 (a:Show) (b:Show):Option (Bool):=(cond ((a.items.n:Int) != (b.items.n:Int)) (some (false)) (cond (DA a b).isSome (cond (!((DA a b).getD default)) (some (false)) (cond ((qe a b).by (aB.ai.exit 0)) (some (true)) (cond ((qe a b).by aB.ai.ret) (some ((qe a b).st.t4)) none))) none))
theorem Zs (a:Show) (b:Show):gn [(68,GZ),(67,JB)] [JF] 21 [qy a,qy b] = (s6 a b).map kB:=by
 unfold s6
 try simp only [aV]
 kernel_rfl
def G0:List KV->KR KV:=bk PG 21 (bn kB fun vs=>s6 (hJ (v9 vs 0)) (hJ (v9 vs 1)))
theorem JG:bg PG 21 G0:=bQ (ak.cons JD (ak.cons KZ ak.nil)) (gm UH aK.nil) fun w=>Zs (hJ (g0 25 (w 0))) (hJ (g0 25 (w 1)))
def EU (t:ch):Option (Bool):=(cond (decide (t.w >= 1)) (cond (decide (t.w<=16)) (cond (decide (t.h >= 1)) (cond (decide (t.h<=16)) (some (((t.fw.n:Int)==(az (t.w * t.h))))) (some (false))) (some (false))) (some (false))) (some (false)))
theorem ajb (t:ch):gn [] [] 128 [jM t] = (EU t).map kB:=by
 unfold EU
 try simp only [aV]
 kernel_rfl
def W6:List KV->KR KV:=bk PG 128 (bn kB fun vs=>EU (fO (v9 vs 0)))
theorem VE:bg PG 128 W6:=bQ ak.nil aK.nil fun w=>ajb (fO (g0 114 (w 0)))
structure nj where
 l:(Sl ch)
 t2:Int
 i:Int
instance:Inhabited nj:=⟨⟨default,default,default⟩⟩
def DB (x:nj):List KV:=[cT 114 jM x.l,.int .i64 x.t2,.int .i64 x.i]
def DC (x:nj):List (List KV):=[]
def K0 (vs:List KV) (rs:List (List KV)):nj:=⟨dp fO (v9 vs 0),intOf (v9 vs 1),intOf (v9 vs 2)⟩
def NQ:aL:=⟨[(0,w9 (n9 114)),(2,w9 i9),(3,w9 i9)],[],[]⟩
def Zt:=sB [(128,W6)] [] 65 58 NQ
def v7 (x:nj):=EU (x.l.get (Int.toNat x.i))
def og (x:nj):aO nj:=(cond (decide (x.i < (x.l.n:Int))) (cond (bj x.i x.l.n) (cond (v7 x).isSome (cond (!((v7 x).getD default)) (.out aB.ai.ret ⟨x.l,8,x.i⟩) (.next ⟨x.l,x.t2,(az (x.i+1))⟩)) .fail) .fail) (.out (aB.ai.exit 0) x))
theorem UI (x:nj):Zt (DB x) (DC x)=aO.enc DB DC (og x):=by
 unfold og bj
 try simp only [aO.bw]
 kernel_rfl
def NR:Lp:=⟨65,58,NQ,fun vs rs=>bP DB DC (goN og (K0 vs rs)) [aB.ai.exit 0,aB.ai.ret],false⟩
theorem Zu:NR.Ok PG:=rF (ak.cons VE ak.nil) aK.nil (pa:=K0) UI
def mM (l:(Sl ch)):=goN og ⟨l,0,0⟩
def wP (l:(Sl ch)):Option (Int):=(cond (decide ((l.n:Int) > 16)) (some (4)) (cond ((mM l).by (aB.ai.exit 0)) (some (0)) (cond ((mM l).by aB.ai.ret) (some ((mM l).st.t2)) none)))
theorem adf (l:(Sl ch)):gn [(128,W6)] [NR] 65 [(cT 114 jM) l] = (wP l).map (kI .i64):=by
 unfold wP
 try simp only [aV]
 kernel_rfl
def Mw:List KV->KR KV:=bk PG 65 (bn (kI .i64) fun vs=>wP ((dp fO) (v9 vs 0)))
theorem NS:bg PG 65 Mw:=bQ (ak.cons VE ak.nil) (gm Zu aK.nil) fun w=>adf ((dp fO) (g0 23 (w 0)))
def EV (l:KQ) (av:Int):Option (Bool):=(cond (decide (l.Aw >= (-(1:Int)))) (cond (decide (l.Aw < av)) (cond (decide (l.cz<=2)) (cond (decide (l.Vy >= (-(1024:Int)))) (cond (decide (l.Vy<=1024)) (cond (decide (l.bin >= 0)) (some ((decide (l.bin<=15)))) (some (false))) (some (false))) (some (false))) (some (false))) (some (false))) (some (false)))
theorem ajc (l:KQ) (av:Int):gn [] [] 129 [aqr l,(kI .i64) av] = (EV l av).map kB:=by
 unfold EV
 try simp only [aV]
 kernel_rfl
def PQ:List KV->KR KV:=bk PG 129 (bn kB fun vs=>EV (ai6 (v9 vs 0)) (intOf (v9 vs 1)))
theorem Mx:bg PG 129 PQ:=bQ ak.nil aK.nil fun w=>ajc (ai6 (g0 107 (w 0))) (intOf (g0 3 (w 1)))
def W7 (a:gY) (b:gY):Option (gY):=(some (⟨(min a.x b.x),(min a.y b.y),(min a.z b.z)⟩))
theorem ajd (a:gY) (b:gY):gn [] [] 181 [pn a,pn b] = (W7 a b).map pn:=by
 unfold W7
 kernel_rfl
def W8:List KV->KR KV:=bk PG 181 (bn pn fun vs=>W7 (pY (v9 vs 0)) (pY (v9 vs 1)))
theorem VF:bg PG 181 W8:=bQ ak.nil aK.nil fun w=>ajd (pY (g0 27 (w 0))) (pY (g0 27 (w 1)))
def SK (a:gY) (b:gY):Option (gY):=(some (⟨(max a.x b.x),(max a.y b.y),(max a.z b.z)⟩))
theorem ag9 (a:gY) (b:gY):gn [] [] 182 [pn a,pn b] = (SK a b).map pn:=by
 unfold SK
 kernel_rfl
def SL:List KV->KR KV:=bk PG 182 (bn pn fun vs=>SK (pY (v9 vs 0)) (pY (v9 vs 1)))
theorem SM:bg PG 182 SL:=bQ ak.nil aK.nil fun w=>ag9 (pY (g0 27 (w 0))) (pY (g0 27 (w 1)))
structure qC where
 l:(Sl gY)
 i:Int
 t2:Dr
 b:Dr
instance:Inhabited qC:=⟨⟨default,default,default,default⟩⟩
def EW (x:qC):List KV:=[cT 27 pn x.l,.int .i64 x.i]
def EX (x:qC):List (List KV):=[alh x.t2,alh x.b]
def NT (vs:List KV) (rs:List (List KV)):qC:=⟨dp pY (v9 vs 0),intOf (v9 vs 1),ali (r9 rs 0),ali (r9 rs 1)⟩
def QC:aL:=⟨[(0,w9 (n9 27)),(4,w9 i9)],[(2,[i9,i9,i9,i9,i9,i9],1),(3,[i9,i9,i9,i9,i9,i9],1)],[(2,0,0),(3,1,0)]⟩
def abg:=sB [(182,SL),(181,W8)] [] 131 58 QC
def o7 (x:qC):aO qC:=(cond (decide (x.i < (x.l.n:Int))) (cond (bj x.i x.l.n) (cond (bj x.i x.l.n) (.next ⟨x.l,(az (x.i+1)),x.t2,⟨⟨(min x.b.low.x (x.l.get (Int.toNat x.i)).x),(min x.b.low.y (x.l.get (Int.toNat x.i)).y),(min x.b.low.z (x.l.get (Int.toNat x.i)).z)⟩,⟨(max x.b.high.x (x.l.get (Int.toNat x.i)).x),(max x.b.high.y (x.l.get (Int.toNat x.i)).y),(max x.b.high.z (x.l.get (Int.toNat x.i)).z)⟩⟩⟩) .fail) .fail) (.out (aB.ai.exit 0) x))
theorem W9 (x:qC):abg (EW x) (EX x)=aO.enc EW EX (o7 x):=by
 unfold o7 bj
 try simp only [aO.bw]
 kernel_rfl
def QD:Lp:=⟨131,58,QC,fun vs rs=>bP EW EX (goN o7 (NT vs rs)) [aB.ai.exit 0],false⟩
theorem abh:QD.Ok PG:=rF (ak.cons SM (ak.cons VF ak.nil)) aK.nil (pa:=NT) W9
def uY (l:(Sl gY)):=goN o7 ⟨l,1,⟨⟨0,0,0⟩,⟨0,0,0⟩⟩,⟨(l.get 0),(l.get 0)⟩⟩
def v8 (l:(Sl gY)):Option (Dr):=(cond (decide (0 < (l.n:Int))) (cond (decide (0 < (l.n:Int))) (cond ((uY l).by (aB.ai.exit 0)) (some ((uY l).st.b)) none) none) none)
theorem af8 (l:(Sl gY)):gn [(182,SL),(181,W8)] [QD] 131 [(cT 27 pn) l] = (v8 l).map F2:=by
 unfold v8
 try simp only [aV]
 kernel_rfl
def Ic:List KV->KR KV:=bk PG 131 (bn F2 fun vs=>v8 ((dp pY) (v9 vs 0)))
theorem G7:bg PG 131 Ic:=bQ (ak.cons SM (ak.cons VF ak.nil)) (gm abh aK.nil) fun w=>af8 ((dp pY) (g0 103 (w 0)))
structure kP where
 t4:Bool
 n:Int
 i:Int
 x:Item
instance:Inhabited kP:=⟨⟨default,default,default,default⟩⟩
def G8 (x:kP):List KV:=[.bool x.t4,.int .i64 x.n,.int .i64 x.i]
def G9 (x:kP):List (List KV):=[Dt x.x]
def QE (vs:List KV) (rs:List (List KV)):kP:=⟨iH (v9 vs 0),intOf (v9 vs 1),intOf (v9 vs 2),EM (r9 rs 0)⟩
def SN:aL:=⟨[(4,w9 b9),(5,w9 i9),(6,w9 i9)],[(2,[n9 27,n9 181,n9 28,u9,u9,u9,u9,i9,u9,i9,b9,i9,i9,i9,i9,i9,i9,i9],1)],[(2,0,0)]⟩
def adg:=sB [(131,Ic),(130,Jx),(129,PQ)] [] 66 122 SN
def zo (x:kP):=BP (x.x.aG.get (Int.toNat x.i)) 4096
def qf (x:kP):aO kP:=(cond (decide (x.i < x.n)) (cond (bj x.i x.x.aG.n) (cond (zo x).isSome (cond (!((zo x).getD default)) (.out aB.ai.ret ⟨false,x.n,x.i,x.x⟩) (cond (bj x.i x.x.uV.n) (cond (decide ((x.x.uV.get (Int.toNat x.i)).e0 < 0)) (.out aB.ai.ret ⟨false,x.n,x.i,x.x⟩) (cond (bj x.i x.x.uV.n) (cond (decide ((x.x.uV.get (Int.toNat x.i)).e0 > 255)) (.out aB.ai.ret ⟨false,x.n,x.i,x.x⟩) (cond (bj x.i x.x.uV.n) (cond (decide ((x.x.uV.get (Int.toNat x.i)).e1 < 0)) (.out aB.ai.ret ⟨false,x.n,x.i,x.x⟩) (cond (bj x.i x.x.uV.n) (cond (decide ((x.x.uV.get (Int.toNat x.i)).e1 > 255)) (.out aB.ai.ret ⟨false,x.n,x.i,x.x⟩) (.next ⟨x.t4,x.n,(az (x.i+1)),x.x⟩)) .fail)) .fail)) .fail)) .fail)) .fail) .fail) (.out (aB.ai.exit 0) x))
theorem Zv (x:kP):adg (G8 x) (G9 x)=aO.enc G8 G9 (qf x):=by
 unfold qf bj
 try simp only [aO.bw]
 kernel_rfl
def JH:Lp:=⟨66,122,SN,fun vs rs=>bP G8 G9 (goN qf (QE vs rs)) [aB.ai.exit 0,aB.ai.ret],false⟩
theorem QF:JH.Ok PG:=rF (ak.cons G7 (ak.cons FW (ak.cons Mx ak.nil))) aK.nil (pa:=QE) Zv
structure mv where
 t4:Bool
 n:Int
 i:Int
 x:Item
instance:Inhabited mv:=⟨⟨default,default,default,default⟩⟩
def Ha (x:mv):List KV:=[.bool x.t4,.int .i64 x.n,.int .i64 x.i]
def Hb (x:mv):List (List KV):=[Dt x.x]
def QG (vs:List KV) (rs:List (List KV)):mv:=⟨iH (v9 vs 0),intOf (v9 vs 1),intOf (v9 vs 2),EM (r9 rs 0)⟩
def SP:aL:=⟨[(4,w9 b9),(5,w9 i9),(7,w9 i9)],[(2,[n9 27,n9 181,n9 28,u9,u9,u9,u9,i9,u9,i9,b9,i9,i9,i9,i9,i9,i9,i9],1)],[(2,0,0)]⟩
def adh:=sB [(131,Ic),(130,Jx),(129,PQ)] [JH] 66 250 SP
def n0 (x:mv):aO mv:=(cond (decide (x.i < (x.x.aP.n:Int))) (cond (bj x.i x.x.aP.n) (cond (decide ((x.x.aP.get (Int.toNat x.i)).e0 < 0)) (.out aB.ai.ret ⟨false,x.n,x.i,x.x⟩) (cond (bj x.i x.x.aP.n) (cond (decide ((x.x.aP.get (Int.toNat x.i)).e0 >= x.n)) (.out aB.ai.ret ⟨false,x.n,x.i,x.x⟩) (cond (bj x.i x.x.aP.n) (cond (decide ((x.x.aP.get (Int.toNat x.i)).e1 < 0)) (.out aB.ai.ret ⟨false,x.n,x.i,x.x⟩) (cond (bj x.i x.x.aP.n) (cond (decide ((x.x.aP.get (Int.toNat x.i)).e1 >= x.n)) (.out aB.ai.ret ⟨false,x.n,x.i,x.x⟩) (cond (bj x.i x.x.aP.n) (cond (decide ((x.x.aP.get (Int.toNat x.i)).e2 < 0)) (.out aB.ai.ret ⟨false,x.n,x.i,x.x⟩) (cond (bj x.i x.x.aP.n) (cond (decide ((x.x.aP.get (Int.toNat x.i)).e2 >= x.n)) (.out aB.ai.ret ⟨false,x.n,x.i,x.x⟩) (.next ⟨x.t4,x.n,(az (x.i+1)),x.x⟩)) .fail)) .fail)) .fail)) .fail)) .fail)) .fail) (.out (aB.ai.exit 2) x))
theorem Zw (x:mv):adh (Ha x) (Hb x)=aO.enc Ha Hb (n0 x):=by
 unfold n0 bj
 try simp only [aO.bw]
 kernel_rfl
def SQ:Lp:=⟨66,250,SP,fun vs rs=>bP Ha Hb (goN n0 (QG vs rs)) [aB.ai.exit 2,aB.ai.ret],false⟩
theorem adi:SQ.Ok PG:=rF (ak.cons G7 (ak.cons FW (ak.cons Mx ak.nil))) (gm QF aK.nil) (pa:=QG) Zw
def PR (x:Item) (av:Int):=EV x.look av
def ll (x:Item) (av:Int):=goN qf ⟨false,(x.aG.n:Int),0,x⟩
def eD (x:Item) (av:Int):=goN n0 ⟨(ll x av).st.t4,(ll x av).st.n,0,(ll x av).st.x⟩
def ra (x:Item) (av:Int):=v8 (eD x av).st.x.aG
def EY (x:Item) (av:Int):Option (Bool):=(cond (decide ((x.aG.n:Int) > 64)) (some (false)) (cond ((x.uV.n:Int) != (x.aG.n:Int)) (some (false)) (cond (decide ((x.aP.n:Int) > 64)) (some (false)) (cond (PR x av).isSome (cond (!((PR x av).getD default)) (some (false)) (cond ((ll x av).by (aB.ai.exit 0)) (cond ((eD x av).by (aB.ai.exit 2)) (cond ((eD x av).st.n==0) (some ((((eD x av).st.x.box.low.x==0)&&(((eD x av).st.x.box.low.y==0)&&(((eD x av).st.x.box.low.z==0)&&(((eD x av).st.x.box.high.x==0)&&(((eD x av).st.x.box.high.y==0)&&(((eD x av).st.x.box.high.z==0)&&true)))))))) (cond (ra x av).isSome (some ((((eD x av).st.x.box.low.x==((ra x av).getD default).low.x)&&(((eD x av).st.x.box.low.y==((ra x av).getD default).low.y)&&(((eD x av).st.x.box.low.z==((ra x av).getD default).low.z)&&(((eD x av).st.x.box.high.x==((ra x av).getD default).high.x)&&(((eD x av).st.x.box.high.y==((ra x av).getD default).high.y)&&(((eD x av).st.x.box.high.z==((ra x av).getD default).high.z)&&true)))))))) none)) (cond ((eD x av).by aB.ai.ret) (some ((eD x av).st.t4)) none)) (cond ((ll x av).by aB.ai.ret) (some ((ll x av).st.t4)) none))) none))))
theorem aje (x:Item) (av:Int):gn [(131,Ic),(130,Jx),(129,PQ)] [JH,SQ] 66 [Mi x,(kI .i64) av] = (EY x av).map kB:=by
 unfold EY
 try simp only [aV]
 kernel_rfl
def Xa:List KV->KR KV:=bk PG 66 (bn kB fun vs=>EY (BN (v9 vs 0)) (intOf (v9 vs 1)))
theorem VG:bg PG 66 Xa:=bQ (ak.cons G7 (ak.cons FW (ak.cons Mx ak.nil))) (gm QF (gm adi aK.nil)) fun w=>aje (BN (g0 111 (w 0))) (intOf (g0 3 (w 1)))
structure nm where
 t2:Int
 i:Int
 s:Show
instance:Inhabited nm:=⟨⟨default,default,default⟩⟩
def DD (x:nm):List KV:=[.int .i64 x.t2,.int .i64 x.i]
def DE (x:nm):List (List KV):=[hD x.s]
def K1 (vs:List KV) (rs:List (List KV)):nm:=⟨intOf (v9 vs 0),intOf (v9 vs 1),hH (r9 rs 0)⟩
def NU:aL:=⟨[(2,w9 i9),(3,w9 i9)],[(1,[n9 111,n9 114],1)],[(1,0,0)]⟩
def Zx:=sB [(66,Xa),(65,Mw)] [] 20 122 NU
def wa (x:nm):=EY (x.s.items.get (Int.toNat x.i)) (x.s.av.n:Int)
def oh (x:nm):aO nm:=(cond (decide (x.i < (x.s.items.n:Int))) (cond (bj x.i x.s.items.n) (cond (wa x).isSome (cond (!((wa x).getD default)) (.out aB.ai.ret ⟨8,x.i,x.s⟩) (.next ⟨x.t2,(az (x.i+1)),x.s⟩)) .fail) .fail) (.out (aB.ai.exit 0) x))
theorem UJ (x:nm):Zx (DD x) (DE x)=aO.enc DD DE (oh x):=by
 unfold oh bj
 try simp only [aO.bw]
 kernel_rfl
def NV:Lp:=⟨20,122,NU,fun vs rs=>bP DD DE (goN oh (K1 vs rs)) [aB.ai.exit 0,aB.ai.ret],false⟩
theorem Zy:NV.Ok PG:=rF (ak.cons VG (ak.cons NS ak.nil)) aK.nil (pa:=K1) UJ
def JI (s:Show):=wP s.av
def n3 (s:Show):=goN oh ⟨0,0,s⟩
def pB (s:Show):Option (Int):=(cond (decide ((s.items.n:Int) > 256)) (some (4)) (cond (decide ((s.av.n:Int) > 16)) (some (4)) (cond (JI s).isSome (cond (((JI s).getD default) != 0) (some (8)) (cond ((n3 s).by (aB.ai.exit 0)) (some (0)) (cond ((n3 s).by aB.ai.ret) (some ((n3 s).st.t2)) none))) none)))
theorem af9 (s:Show):gn [(66,Xa),(65,Mw)] [NV] 20 [qy s] = (pB s).map (kI .i64):=by
 unfold pB
 try simp only [aV]
 kernel_rfl
def zp:List KV->KR KV:=bk PG 20 (bn (kI .i64) fun vs=>pB (hJ (v9 vs 0)))
theorem wx:bg PG 20 zp:=bQ (ak.cons VG (ak.cons NS ak.nil)) (gm Zy aK.nil) fun w=>af9 (hJ (g0 25 (w 0)))
def rN (x:Int):Option (Bool):=(some ((x != x)))
theorem Xb (x:Int):GC PG (iZ PG [] [] (fun q=>Nat.beq q 48)) 9 9 134 [(kI .i64) x] = (rN x).map kB:=by
 unfold rN
 kernel_rfl
def NW:List KV->KR KV:=bk PG 134 (bn kB fun vs=>rN (intOf (v9 vs 0)))
theorem UK:bg PG 134 NW:=bQ ak.nil aK.nil fun w=>Xb (intOf (g0 3 (w 0)))
def HM (x:Int) (y:Int):=rN x
def z0 (x:Int) (y:Int):=rN y
def ka (x:Int) (y:Int):Option (Int):=(cond ((HM x y).getD default) (cond ((z0 x y).getD default) (some (0)) (some ((-(1:Int))))) (cond ((z0 x y).getD default) (some (1)) (cond (decide (x < y)) (some ((-(1:Int)))) (cond (decide (x > y)) (some (1)) (some (0))))))
theorem UL (x:Int) (y:Int):GC PG (iZ PG [(134,NW)] [] (fun q=>Nat.beq q 48)) 9 9 75 [(kI .i64) x,(kI .i64) y] = (ka x y).map (kI .i64):=by
 unfold ka
 try simp only [aV]
 kernel_rfl
def cA:List KV->KR KV:=bk PG 75 (bn (kI .i64) fun vs=>ka (intOf (v9 vs 0)) (intOf (v9 vs 1)))
theorem bS:bg PG 75 cA:=bQ (ak.cons UK ak.nil) aK.nil fun w=>UL (intOf (g0 3 (w 0))) (intOf (g0 3 (w 1)))
structure pL where
 data:(Sl Zn)
 a:Int
 m:Int
 b:Int
 held:Ia
instance:Inhabited pL:=⟨⟨default,default,default,default,default⟩⟩
structure aJ where
 item:Int
 dB:Int
instance:Inhabited aJ:=⟨⟨default,default⟩⟩
def asR (x:aJ):List KV:=[.int .i64 x.item,.int .i64 x.dB]
def du (x:aJ):KV:=.agg (asR x)
def asS (c:Nat->KV):aJ:=⟨intOf (c 0),intOf (c 1)⟩
def eJ (v:KV):aJ:=asS fun k=>v.cells.getD k .bD
theorem Zz (x:aJ):eJ (du x)=x:=rfl
theorem aqv:eJ .bD=default:=rfl
theorem JJ (s:Sl aJ) (v:aJ):s.push v=jT eJ (s.n+1) (dK s.n (fun i=>du (s.get i)) (pW [du v])):=(Ct Zz aqv s v).symm
theorem Xc (s t:Sl aJ):s.join t=jT eJ (s.n+t.n) (dK s.n (fun i=>du (s.get i)) (fun i=>du (t.get i))):=(TZ Zz s t).symm
theorem Uc (s:Sl aJ) (i:Nat) (v:aJ):s.set i v=jT eJ s.n (vD (fun j=>du (s.get j)) i (du v)):=(afF Zz s i v).symm
theorem Ud (m n' i:Nat) (acc:Nat->KV) (v:KV):jT eJ m (vD (fun j=>du ((jT eJ n' acc).get j)) i v)=jT eJ m (vD acc i v):=ak3 Zz ..
structure cU where
 data:(Sl aJ)
 a:Int
 b:Int
 n:Int
 held:Show
instance:Inhabited cU:=⟨⟨default,default,default,default,default⟩⟩
def kr (x:cU):List KV:=[cT 93 du x.data,.int .i64 x.a,.int .i64 x.b,.int .i64 x.n,.fn (.func 74) [] [.ptr 0 0]]
def ku (x:cU):List (List KV):=[hD x.held]
def tX (vs:List KV) (rs:List (List KV)):cU:=⟨dp eJ (v9 vs 0),intOf (v9 vs 1),intOf (v9 vs 2),intOf (v9 vs 3),hH (r9 rs 0)⟩
def uZ:aL:=⟨[(0,⟨false,[.arr 93]⟩),(1,w9 i9),(2,w9 i9),(3,w9 i9),(4,⟨false,[.ref (.fn (.func 74) [] [.ptr 0 0])]⟩)],[(100004,[n9 111,n9 114],1)],[]⟩
structure eN where
 data:(Sl aJ)
 a:Int
 b:Int
 n:Int
 i:Int
 eX:Show
instance:Inhabited eN:=⟨by constructor<;>exact default⟩
def jF (x:eN):List KV:=[cT 93 du x.data,.int .i64 x.a,.int .i64 x.b,.int .i64 x.n,.fn (.func 74) [] [.ptr 0 0],.int .i64 x.i]
def jG (x:eN):List (List KV):=[hD x.eX]
def sD (vs:List KV) (rs:List (List KV)):eN:=⟨dp eJ (v9 vs 0),intOf (v9 vs 1),intOf (v9 vs 2),intOf (v9 vs 3),intOf (v9 vs 5),hH (r9 rs 0)⟩
def tD:aL:=⟨[(0,⟨false,[.arr 93]⟩),(1,w9 i9),(2,w9 i9),(3,w9 i9),(4,⟨false,[.ref (.fn (.func 74) [] [.ptr 0 0])]⟩),(10,w9 i9)],[(100004,[n9 111,n9 114],1)],[]⟩
def CH:=sv PG (iZ PG [(75,cA)] [] (fun q=>Nat.beq q 93)) 9 9 219 6 (nz PG 219 6) tD
def dg (x:eN):aO eN:=(cond (decide (x.i < x.n)) (cond (bj (az (x.b+x.i)) x.data.n) (cond (bj (az (x.a+x.i)) x.data.n) (cond (bj (az (x.a+x.i)) x.data.n) (cond (bj (az (x.b+x.i)) x.data.n) (cond (aF x.data.n) (.next ⟨((x.data.set (0+(Int.toNat (az (x.a+x.i)))) (x.data.get (0+(Int.toNat (az (x.b+x.i)))))).set (0+(Int.toNat (az (x.b+x.i)))) (x.data.get (0+(Int.toNat (az (x.a+x.i)))))),x.a,x.b,x.n,(az (x.i+1)),x.eX⟩) .fail) .fail) .fail) .fail) .fail) (cond (aF x.data.n) (.out (aB.ai.exit 0) x) .fail))
theorem Az (x:eN):CH (jF x) (jG x)=aO.enc jF jG (dg x):=by
 unfold dg bj aF
 try simp only [aO.bw,Ud,Uc]
 kernel_rfl
def tE:Lp:=⟨219,6,tD,fun vs rs=>bP jF jG (goN dg (sD vs rs)) [aB.ai.exit 0],true⟩
theorem CI:tE.Ok PG:=mH funcs mixed (ak.cons bS ak.nil) aK.nil (L:=9) (n:=9) (step:=dg) (ev:=jF) (er:=jG) (pa:=sD) rfl (fun wv wr=>⟨by kernel_rfl,by kernel_rfl⟩) Az
def DZ:=LX PG (iZ PG [(75,cA)] [tE] (fun q=>Nat.beq q 93)) 9 9 219 uZ
def dQ (x:cU):=goN dg ⟨x.data,x.a,x.b,x.n,0,x.held⟩
def jH (x:cU):aO cU:=(cond (aF x.data.n) (cond ((dQ x).by (aB.ai.exit 0)) (cond (aF (dQ x).st.data.n) (.out aB.ai.ret ⟨(dQ x).st.data,(dQ x).st.a,(dQ x).st.b,(dQ x).st.n,(dQ x).st.eX⟩) .fail) .fail) .fail)
theorem CJ (x:cU):DZ (kr x) (ku x)=aO.enc kr ku (jH x):=by
 unfold jH aF
 try simp only [aO.bw]
 kernel_rfl
def fe (x:cU):aO cU:=jH x
def o8:Fc:=⟨219,uZ,fun vs rs=>bP kr ku (fe (tX vs rs)) [aB.ai.ret]⟩
theorem tF:o8.Ok PG:=F9 funcs mixed (ak.cons bS ak.nil) (gm CI aK.nil) (L:=9) (n:=9) (step:=fe) (ev:=kr) (er:=ku) (pa:=tX) rfl (fun wv wr=>⟨by kernel_rfl,by kernel_rfl⟩) CJ
structure df where
 data:(Sl aJ)
 a:Int
 m:Int
 b:Int
 held:Show
instance:Inhabited df:=⟨⟨default,default,default,default,default⟩⟩
def mN (x:df):List KV:=[cT 93 du x.data,.int .i64 x.a,.int .i64 x.m,.int .i64 x.b,.fn (.func 74) [] [.ptr 0 0]]
def mO (x:df):List (List KV):=[hD x.held]
def wy (vs:List KV) (rs:List (List KV)):df:=⟨dp eJ (v9 vs 0),intOf (v9 vs 1),intOf (v9 vs 2),intOf (v9 vs 3),hH (r9 rs 0)⟩
def xD:aL:=⟨[(0,⟨false,[.arr 93]⟩),(1,w9 i9),(2,w9 i9),(3,w9 i9),(4,⟨false,[.ref (.fn (.func 74) [] [.ptr 0 0])]⟩)],[(100004,[n9 111,n9 114],1)],[]⟩
structure dC where
 data:(Sl aJ)
 a:Int
 m:Int
 b:Int
 i:Int
 j:Int
 eX:Show
instance:Inhabited dC:=⟨by constructor<;>exact default⟩
def kv (x:dC):List KV:=[cT 93 du x.data,.int .i64 x.a,.int .i64 x.m,.int .i64 x.b,.fn (.func 74) [] [.ptr 0 0],.int .i64 x.i,.int .i64 x.j]
def kx (x:dC):List (List KV):=[hD x.eX]
def tY (vs:List KV) (rs:List (List KV)):dC:=⟨dp eJ (v9 vs 0),intOf (v9 vs 1),intOf (v9 vs 2),intOf (v9 vs 3),intOf (v9 vs 5),intOf (v9 vs 6),hH (r9 rs 0)⟩
def u3:aL:=⟨[(0,⟨false,[.arr 93]⟩),(1,w9 i9),(2,w9 i9),(3,w9 i9),(4,⟨false,[.ref (.fn (.func 74) [] [.ptr 0 0])]⟩),(10,w9 i9),(11,w9 i9)],[(100004,[n9 111,n9 114],1)],[]⟩
def D4:=sv PG (iZ PG [(75,cA)] [] (fun q=>Nat.beq q 93) false false [o8]) 9 9 212 28 (nz PG 212 28) u3
def fP (x:dC):=fe ⟨x.data,(az (x.m - x.i)),x.m,x.j,x.eX⟩
def fQ (x:dC):=fe ⟨x.data,(az (x.m - x.i)),(az ((az (x.m+x.j)) - x.i)),x.i,x.eX⟩
def dE (x:dC):aO dC:=(cond (x.i != x.j) (cond (decide (x.i > x.j)) (cond (aF x.data.n) (cond ((fP x).by aB.ai.ret) (cond (dk (fP x).st.data.n x.data.n) (.next ⟨(fP x).st.data,x.a,x.m,x.b,(az (x.i - x.j)),x.j,(fP x).st.held⟩) .fail) .fail) .fail) (cond (aF x.data.n) (cond ((fQ x).by aB.ai.ret) (cond (dk (fQ x).st.data.n x.data.n) (.next ⟨(fQ x).st.data,x.a,x.m,x.b,x.i,(az (x.j - x.i)),(fQ x).st.held⟩) .fail) .fail) .fail)) (cond (aF x.data.n) (.out (aB.ai.exit 0) x) .fail))
theorem CL (x:dC):D4 (kv x) (kx x)=aO.enc kv kx (dE x):=by
 unfold dE aF
 try simp only [aO.bw]
 kernel_rfl
def u4:Lp:=⟨212,28,u3,fun vs rs=>bP kv kx (goN dE (tY vs rs)) [aB.ai.exit 0],true⟩
theorem D5:u4.Ok PG:=mH funcs mixed (ak.cons bS ak.nil) aK.nil (L:=9) (n:=9) (step:=dE) (ev:=kv) (er:=kx) (pa:=tY) rfl (fun wv wr=>⟨by kernel_rfl,by kernel_rfl⟩) CL (GK:=(fT.cons tF fT.nil))
def Hc:=LX PG (iZ PG [(75,cA)] [u4] (fun q=>Nat.beq q 93) false false [o8]) 9 9 212 xD
def bM (x:df):=goN dE ⟨x.data,x.a,x.m,x.b,(az (x.m - x.a)),(az (x.b - x.m)),x.held⟩
def gD (x:df):=fe ⟨(bM x).st.data,(az ((bM x).st.m - (bM x).st.i)),(bM x).st.m,(bM x).st.i,(bM x).st.eX⟩
def ln (x:df):aO df:=(cond (aF x.data.n) (cond ((bM x).by (aB.ai.exit 0)) (cond (aF (bM x).st.data.n) (cond ((gD x).by aB.ai.ret) (cond (dk (gD x).st.data.n (bM x).st.data.n) (.out aB.ai.ret ⟨(gD x).st.data,(bM x).st.a,(bM x).st.m,(bM x).st.b,(gD x).st.held⟩) .fail) .fail) .fail) .fail) .fail)
theorem EZ (x:df):Hc (mN x) (mO x)=aO.enc mN mO (ln x):=by
 unfold ln aF
 try simp only [aO.bw]
 kernel_rfl
def eE (x:df):aO df:=ln x
def eY:Fc:=⟨212,xD,fun vs rs=>bP mN mO (eE (wy vs rs)) [aB.ai.ret]⟩
theorem fF:eY.Ok PG:=F9 funcs mixed (ak.cons bS ak.nil) (gm D5 aK.nil) (L:=9) (n:=9) (step:=eE) (ev:=mN) (er:=mO) (pa:=wy) rfl (fun wv wr=>⟨by kernel_rfl,by kernel_rfl⟩) EZ (GK:=(fT.cons tF fT.nil))
structure cp where
 data:(Sl aJ)
 a:Int
 b:Int
 held:Show
instance:Inhabited cp:=⟨⟨default,default,default,default⟩⟩
def iM (x:cp):List KV:=[cT 93 du x.data,.int .i64 x.a,.int .i64 x.b,.fn (.func 74) [] [.ptr 0 0]]
def iP (x:cp):List (List KV):=[hD x.held]
def rv (vs:List KV) (rs:List (List KV)):cp:=⟨dp eJ (v9 vs 0),intOf (v9 vs 1),intOf (v9 vs 2),hH (r9 rs 0)⟩
def r6:aL:=⟨[(0,⟨false,[.arr 93]⟩),(1,w9 i9),(2,w9 i9),(3,⟨false,[.ref (.fn (.func 74) [] [.ptr 0 0])]⟩)],[(100003,[n9 111,n9 114],1)],[]⟩
structure cV where
 data:(Sl aJ)
 a:Int
 b:Int
 i:Int
 JK:Show
instance:Inhabited cV:=⟨⟨default,default,default,default,default⟩⟩
def hU (x:cV):List KV:=[cT 93 du x.data,.int .i64 x.a,.int .i64 x.b,.fn (.func 74) [] [.ptr 0 0],.int .i64 x.i]
def hX (x:cV):List (List KV):=[hD x.JK]
def qg (vs:List KV) (rs:List (List KV)):cV:=⟨dp eJ (v9 vs 0),intOf (v9 vs 1),intOf (v9 vs 2),intOf (v9 vs 4),hH (r9 rs 0)⟩
def qL:aL:=⟨[(0,⟨false,[.arr 93]⟩),(1,w9 i9),(2,w9 i9),(3,⟨false,[.ref (.fn (.func 74) [] [.ptr 0 0])]⟩),(8,w9 i9)],[(100003,[n9 111,n9 114],1)],[]⟩
structure cJ where
 data:(Sl aJ)
 a:Int
 b:Int
 i:Int
 j:Int
 JK:Show
instance:Inhabited cJ:=⟨by constructor<;>exact default⟩
def gL (x:cJ):List KV:=[cT 93 du x.data,.int .i64 x.a,.int .i64 x.b,.fn (.func 74) [] [.ptr 0 0],.int .i64 x.i,.int .i64 x.j]
def gM (x:cJ):List (List KV):=[hD x.JK]
def po (vs:List KV) (rs:List (List KV)):cJ:=⟨dp eJ (v9 vs 0),intOf (v9 vs 1),intOf (v9 vs 2),intOf (v9 vs 4),intOf (v9 vs 5),hH (r9 rs 0)⟩
def pM:aL:=⟨[(0,⟨false,[.arr 93]⟩),(1,w9 i9),(2,w9 i9),(3,⟨false,[.ref (.fn (.func 74) [] [.ptr 0 0])]⟩),(8,w9 i9),(9,w9 i9)],[(100003,[n9 111,n9 114],1)],[]⟩
def xL:=sv PG (iZ PG [(75,cA)] [] (fun q=>Nat.beq q 93)) 9 9 183 402 (nz PG 183 402) pM
def gz (x:cJ):=ka (x.JK.items.get (Int.toNat (x.data.get (0+(Int.toNat x.j))).item)).look.bin (x.JK.items.get (Int.toNat (x.data.get (0+(Int.toNat (az (x.j - 1))))).item)).look.bin
def cr (x:cJ):aO cJ:=(cond (decide (x.j > x.a)) (cond (bj x.j x.data.n) (cond (bj (az (x.j - 1)) x.data.n) (cond (bj (x.data.get (0+(Int.toNat x.j))).item x.JK.items.n) (cond (bj (x.data.get (0+(Int.toNat (az (x.j - 1))))).item x.JK.items.n) (cond (gz x).isSome (cond (decide (((gz x).getD default) < 0)) (cond (bj (az (x.j - 1)) x.data.n) (cond (bj x.j x.data.n) (cond (bj x.j x.data.n) (cond (bj (az (x.j - 1)) x.data.n) (cond (aF x.data.n) (.next ⟨((x.data.set (0+(Int.toNat x.j)) (x.data.get (0+(Int.toNat (az (x.j - 1)))))).set (0+(Int.toNat (az (x.j - 1)))) (x.data.get (0+(Int.toNat x.j)))),x.a,x.b,x.i,(az (x.j - 1)),x.JK⟩) .fail) .fail) .fail) .fail) .fail) (cond (aF x.data.n) (.out (aB.ai.exit 2) x) .fail)) .fail) .fail) .fail) .fail) .fail) (cond (aF x.data.n) (.out (aB.ai.exit 2) x) .fail))
theorem wz (x:cJ):xL (gL x) (gM x)=aO.enc gL gM (cr x):=by
 unfold cr bj aF
 try simp only [aO.bw,Ud,Uc]
 kernel_rfl
def kQ:Lp:=⟨183,402,pM,fun vs rs=>bP gL gM (goN cr (po vs rs)) [aB.ai.exit 2],true⟩
theorem pq:kQ.Ok PG:=mH funcs mixed (ak.cons bS ak.nil) aK.nil (L:=9) (n:=9) (step:=cr) (ev:=gL) (er:=gM) (pa:=po) rfl (fun wv wr=>⟨by kernel_rfl,by kernel_rfl⟩) wz
def zq:=sv PG (iZ PG [(75,cA)] [kQ] (fun q=>Nat.beq q 93)) 9 9 183 6 (nz PG 183 6) qL
def cj (x:cV):=goN cr ⟨x.data,x.a,x.b,x.i,x.i,x.JK⟩
def cD (x:cV):aO cV:=(cond (decide (x.i < x.b)) (cond (aF x.data.n) (cond ((cj x).by (aB.ai.exit 2)) (cond (aF (cj x).st.data.n) (.next ⟨(cj x).st.data,(cj x).st.a,(cj x).st.b,(az ((cj x).st.i+1)),(cj x).st.JK⟩) .fail) .fail) .fail) (cond (aF x.data.n) (.out (aB.ai.exit 0) x) .fail))
theorem xM (x:cV):zq (hU x) (hX x)=aO.enc hU hX (cD x):=by
 unfold cD aF
 try simp only [aO.bw]
 kernel_rfl
def qM:Lp:=⟨183,6,qL,fun vs rs=>bP hU hX (goN cD (qg vs rs)) [aB.ai.exit 0],true⟩
theorem zr:qM.Ok PG:=mH funcs mixed (ak.cons bS ak.nil) (gm pq aK.nil) (L:=9) (n:=9) (step:=cD) (ev:=hU) (er:=hX) (pa:=qg) rfl (fun wv wr=>⟨by kernel_rfl,by kernel_rfl⟩) xM
def AA:=LX PG (iZ PG [(75,cA)] [kQ,qM] (fun q=>Nat.beq q 93)) 9 9 183 r6
def cW (x:cp):=goN cD ⟨x.data,x.a,x.b,(az (x.a+1)),x.held⟩
def hY (x:cp):aO cp:=(cond (aF x.data.n) (cond ((cW x).by (aB.ai.exit 0)) (cond (aF (cW x).st.data.n) (.out aB.ai.ret ⟨(cW x).st.data,(cW x).st.a,(cW x).st.b,(cW x).st.JK⟩) .fail) .fail) .fail)
theorem zt (x:cp):AA (iM x) (iP x)=aO.enc iM iP (hY x):=by
 unfold hY aF
 try simp only [aO.bw]
 kernel_rfl
def ff (x:cp):aO cp:=hY x
def gu:Fc:=⟨183,r6,fun vs rs=>bP iM iP (ff (rv vs rs)) [aB.ai.ret]⟩
theorem im:gu.Ok PG:=F9 funcs mixed (ak.cons bS ak.nil) (gm pq (gm zr aK.nil)) (L:=9) (n:=9) (step:=ff) (ev:=iM) (er:=iP) (pa:=rv) rfl (fun wv wr=>⟨by kernel_rfl,by kernel_rfl⟩) zt
structure lP where
 w:Int
 h:Int
 l:(Sl bO)
 e:Int
 Ie:Int
 t31:Int
 t32:Int
instance:Inhabited lP:=⟨by constructor<;>exact default⟩
def BS (x:lP):List KV:=[.int .i64 x.w,.int .i64 x.h,cT 77 oK x.l,.int .i64 x.e,.int .i64 x.Ie,.int .i64 x.t31,.int .i64 x.t32]
def BT (x:lP):List (List KV):=[]
def JL (vs:List KV) (rs:List (List KV)):lP:=⟨intOf (v9 vs 0),intOf (v9 vs 1),dp o3 (v9 vs 2),intOf (v9 vs 3),intOf (v9 vs 4),intOf (v9 vs 5),intOf (v9 vs 6)⟩
def K2:aL:=⟨[(0,w9 i9),(1,w9 i9),(4,⟨false,[.bc 77]⟩),(5,w9 i9),(6,w9 i9),(31,w9 i9),(32,w9 i9)],[],[]⟩
def Xd:=sB [] [] 25 122 K2
def np (x:lP):aO lP:=(cond (decide (x.t32 < x.t31)) (cond (!(decide (x.Ie=0))) (cond (!(decide (x.Ie=0))) (cond (mI 32 x.l.n 1) (cond (aF (x.l.n+1)) (.next ⟨x.w,x.h,(x.l.push ⟨(az ((Int.tmod x.t32 x.Ie) * 8)),(az ((az (Int.tdiv x.t32 x.Ie)) * 8)),(az ((min (az ((az ((Int.tmod x.t32 x.Ie) * 8))+8)) x.w) - 1)),(az ((min (az ((az ((az (Int.tdiv x.t32 x.Ie)) * 8))+8)) x.h) - 1))⟩),x.e,x.Ie,x.t31,(az (x.t32+1))⟩) .fail) .fail) .fail) .fail) (cond (aF x.l.n) (.out (aB.ai.exit 0) x) .fail))
theorem SR (x:lP):Xd (BS x) (BT x)=aO.enc BS BT (np x):=by
 unfold np mI aF
 try simp only [aO.bw,afN]
 kernel_rfl
def K3:Lp:=⟨25,122,K2,fun vs rs=>bP BS BT (goN np (JL vs rs)) [aB.ai.exit 0],false⟩
theorem Xe:K3.Ok PG:=rF ak.nil aK.nil (pa:=JL) SR
def Bd (w:Int) (h:Int):=goN np ⟨w,h,⟨0,(fun i=>⟨0,0,0,0⟩)⟩,0,(az (Int.tdiv (az ((az (w+8)) - 1)) 8)),(az ((az (Int.tdiv (az ((az (w+8)) - 1)) 8)) * (az (Int.tdiv (az ((az (h+8)) - 1)) 8)))),0⟩
def pC (w:Int) (h:Int):Option ((Sl bO)×Int):=(cond (decide ((min w h) < 1)) (some (⟨0,(fun i=>⟨0,0,0,0⟩)⟩,2)) (cond (decide ((max w h) > 64)) (some (⟨0,(fun i=>⟨0,0,0,0⟩)⟩,2)) (cond ((Bd w h).by (aB.ai.exit 0)) (some ((Bd w h).st.l,0)) none)))
theorem adj (w:Int) (h:Int):gn [] [K3] 25 [(kI .i64) w,(kI .i64) h] = (pC w h).map (fun (r:(Sl bO)×Int)=>KV.iv [(cT 77 oK) r.1,(kI .i64) r.2]):=by
 unfold pC
 try simp only [aV]
 kernel_rfl
def Mz:List KV->KR KV:=bk PG 25 (bn (fun (r:(Sl bO)×Int)=>KV.iv [(cT 77 oK) r.1,(kI .i64) r.2]) fun vs=>pC (intOf (v9 vs 0)) (intOf (v9 vs 1)))
theorem NX:bg PG 25 Mz:=bQ ak.nil (gm Xe aK.nil) fun w=>adj (intOf (g0 3 (w 0))) (intOf (g0 3 (w 1)))
structure nq where
 w:Int
 h:Int
 t4:(Sl bO)
 t5:Int
 l:(Sl bO)
 y:Int
instance:Inhabited nq:=⟨by constructor<;>exact default⟩
def DF (x:nq):List KV:=[.int .i64 x.w,.int .i64 x.h,cT 77 oK x.t4,.int .i64 x.t5,cT 77 oK x.l,.int .i64 x.y]
def DG (x:nq):List (List KV):=[]
def K4 (vs:List KV) (rs:List (List KV)):nq:=⟨intOf (v9 vs 0),intOf (v9 vs 1),dp o3 (v9 vs 2),intOf (v9 vs 3),dp o3 (v9 vs 4),intOf (v9 vs 5)⟩
def NY:aL:=⟨[(0,w9 i9),(1,w9 i9),(4,w9 (n9 77)),(5,w9 i9),(6,⟨false,[.bc 77]⟩),(7,w9 i9)],[],[]⟩
structure n4 where
 w:Int
 h:Int
 t4:(Sl bO)
 t5:Int
 l:(Sl bO)
 y:Int
 x:Int
instance:Inhabited n4:=⟨by constructor<;>exact default⟩
def BU (x:n4):List KV:=[.int .i64 x.w,.int .i64 x.h,cT 77 oK x.t4,.int .i64 x.t5,cT 77 oK x.l,.int .i64 x.y,.int .i64 x.x]
def BV (x:n4):List (List KV):=[]
def JM (vs:List KV) (rs:List (List KV)):n4:=⟨intOf (v9 vs 0),intOf (v9 vs 1),dp o3 (v9 vs 2),intOf (v9 vs 3),dp o3 (v9 vs 4),intOf (v9 vs 5),intOf (v9 vs 6)⟩
def K5:aL:=⟨[(0,w9 i9),(1,w9 i9),(4,w9 (n9 77)),(5,w9 i9),(6,⟨false,[.bc 77]⟩),(7,w9 i9),(8,w9 i9)],[],[]⟩
def Xf:=sB [] [] 26 7826 K5
def jf (x:n4):aO n4:=(cond (decide (x.x < x.w)) (cond (mI 32 x.l.n 1) (cond (aF (x.l.n+1)) (.next ⟨x.w,x.h,x.t4,x.t5,(x.l.push ⟨x.x,x.y,(az ((min (az (x.x+8)) x.w) - 1)),(az ((min (az (x.y+8)) x.h) - 1))⟩),x.y,(az (x.x+8))⟩) .fail) .fail) (cond (aF x.l.n) (.out (aB.ai.exit 2) x) .fail))
theorem SS (x:n4):Xf (BU x) (BV x)=aO.enc BU BV (jf x):=by
 unfold jf mI aF
 try simp only [aO.bw,afN]
 kernel_rfl
def DH:Lp:=⟨26,7826,K5,fun vs rs=>bP BU BV (goN jf (JM vs rs)) [aB.ai.exit 2],false⟩
theorem JN:DH.Ok PG:=rF ak.nil aK.nil (pa:=JM) SS
def ZA:=sB [] [DH] 26 122 NY
def jm (x:nq):=goN jf ⟨x.w,x.h,x.t4,x.t5,x.l,x.y,0⟩
def oi (x:nq):aO nq:=(cond (decide (x.y < x.h)) (cond (aF x.l.n) (cond ((jm x).by (aB.ai.exit 2)) (cond (aF (jm x).st.l.n) (.next ⟨(jm x).st.w,(jm x).st.h,(jm x).st.t4,(jm x).st.t5,(jm x).st.l,(az ((jm x).st.y+8))⟩) .fail) .fail) .fail) (cond (aF x.l.n) (.out (aB.ai.exit 0) x) .fail))
theorem UM (x:nq):ZA (DF x) (DG x)=aO.enc DF DG (oi x):=by
 unfold oi aF
 try simp only [aO.bw]
 kernel_rfl
def NZ:Lp:=⟨26,122,NY,fun vs rs=>bP DF DG (goN oi (K4 vs rs)) [aB.ai.exit 0],false⟩
theorem ZB:NZ.Ok PG:=rF ak.nil (gm JN aK.nil) (pa:=K4) UM
def u5 (w:Int) (h:Int):=goN oi ⟨w,h,⟨0,(fun i=>⟨0,0,0,0⟩)⟩,0,⟨0,(fun i=>⟨0,0,0,0⟩)⟩,0⟩
def rb (w:Int) (h:Int):Option ((Sl bO)×Int):=(cond (decide (w < 1)) (some (⟨0,(fun i=>⟨0,0,0,0⟩)⟩,2)) (cond (decide (w > 64)) (some (⟨0,(fun i=>⟨0,0,0,0⟩)⟩,2)) (cond (decide (h < 1)) (some (⟨0,(fun i=>⟨0,0,0,0⟩)⟩,2)) (cond (decide (h > 64)) (some (⟨0,(fun i=>⟨0,0,0,0⟩)⟩,2)) (cond ((u5 w h).by (aB.ai.exit 0)) (some ((u5 w h).st.l,0)) none)))))
theorem aga (w:Int) (h:Int):gn [] [DH,NZ] 26 [(kI .i64) w,(kI .i64) h] = (rb w h).map (fun (r:(Sl bO)×Int)=>KV.iv [(cT 77 oK) r.1,(kI .i64) r.2]):=by
 unfold rb
 try simp only [aV]
 kernel_rfl
def PS:List KV->KR KV:=bk PG 26 (bn (fun (r:(Sl bO)×Int)=>KV.iv [(cT 77 oK) r.1,(kI .i64) r.2]) fun vs=>rb (intOf (v9 vs 0)) (intOf (v9 vs 1)))
theorem QH:bg PG 26 PS:=bQ ak.nil (gm JN (gm ZB aK.nil)) fun w=>aga (intOf (g0 3 (w 0))) (intOf (g0 3 (w 1)))
structure n5 where
 items:(Sl Int)
 t4:Int
 i:Int
 s:Show
instance:Inhabited n5:=⟨⟨default,default,default,default⟩⟩
def BW (x:n5):List KV:=[cT 3 (kI .i64) x.items,.int .i64 x.t4,.int .i64 x.i]
def BX (x:n5):List (List KV):=[hD x.s]
def JO (vs:List KV) (rs:List (List KV)):n5:=⟨dp intOf (v9 vs 0),intOf (v9 vs 1),intOf (v9 vs 2),hH (r9 rs 0)⟩
def K6:aL:=⟨[(1,w9 (n9 3)),(4,w9 i9),(6,w9 i9)],[(2,[n9 111,n9 114],1)],[(2,0,0)]⟩
def Xg:=sB [(20,zp)] [] 71 122 K6
def ns (x:n5):aO n5:=(cond (decide (x.i < (x.items.n:Int))) (cond (bj x.i x.items.n) (cond (decide ((x.items.get (Int.toNat x.i)) < 0)) (.out aB.ai.ret ⟨x.items,2,x.i,x.s⟩) (cond (bj x.i x.items.n) (cond (decide ((x.items.get (Int.toNat x.i)) >= (x.s.items.n:Int))) (.out aB.ai.ret ⟨x.items,2,x.i,x.s⟩) (cond (decide (x.i > 0)) (cond (bj x.i x.items.n) (cond (bj (az (x.i - 1)) x.items.n) (cond (decide ((x.items.get (Int.toNat x.i))<=(x.items.get (Int.toNat (az (x.i - 1)))))) (.out aB.ai.ret ⟨x.items,2,x.i,x.s⟩) (.next ⟨x.items,x.t4,(az (x.i+1)),x.s⟩)) .fail) .fail) (.next ⟨x.items,x.t4,(az (x.i+1)),x.s⟩))) .fail)) .fail) (.out (aB.ai.exit 0) x))
theorem SU (x:n5):Xg (BW x) (BX x)=aO.enc BW BX (ns x):=by
 unfold ns bj
 try simp only [aO.bw]
 kernel_rfl
def K7:Lp:=⟨71,122,K6,fun vs rs=>bP BW BX (goN ns (JO vs rs)) [aB.ai.exit 0,aB.ai.ret],false⟩
theorem Xh:K7.Ok PG:=rF (ak.cons wx ak.nil) aK.nil (pa:=JO) SU
def Bf (s:Show) (items:(Sl Int)):=pB s
def wA (s:Show) (items:(Sl Int)):=goN ns ⟨items,0,0,s⟩
def tS (s:Show) (items:(Sl Int)):Option (Int):=(cond (Bf s items).isSome (cond (((Bf s items).getD default) != 0) (some (((Bf s items).getD default))) (cond ((wA s items).by (aB.ai.exit 0)) (some (0)) (cond ((wA s items).by aB.ai.ret) (some ((wA s items).st.t4)) none))) none)
theorem adk (s:Show) (items:(Sl Int)):gn [(20,zp)] [K7] 71 [qy s,(cT 3 (kI .i64)) items] = (tS s items).map (kI .i64):=by
 unfold tS
 try simp only [aV]
 kernel_rfl
def wQ:List KV->KR KV:=bk PG 71 (bn (kI .i64) fun vs=>tS (hJ (v9 vs 0)) ((dp intOf) (v9 vs 1)))
theorem u6:bg PG 71 wQ:=bQ (ak.cons wx ak.nil) (gm Xh aK.nil) fun w=>adk (hJ (g0 25 (w 0))) ((dp intOf) (g0 66 (w 1)))
structure wb where
 n:Int
 t4:(Sl aJ)
 l:(Sl aJ)
 k:Int
 s:Show
instance:Inhabited wb:=⟨⟨default,default,default,default,default⟩⟩
def MA (x:wb):List KV:=[.int .i64 x.n,cT 93 du x.t4,cT 93 du x.l,.int .i64 x.k]
def MB (x:wb):List (List KV):=[hD x.s]
def VH (vs:List KV) (rs:List (List KV)):wb:=⟨intOf (v9 vs 0),dp eJ (v9 vs 1),dp eJ (v9 vs 2),intOf (v9 vs 3),hH (r9 rs 0)⟩
def ZC:aL:=⟨[(1,w9 i9),(4,w9 (n9 93)),(5,⟨false,[.bc 93]⟩),(6,w9 i9)],[(2,[n9 111,n9 114],1)],[(2,0,0)]⟩
def aha:=sB [] [] 72 58 ZC
def s7 (x:wb):aO wb:=(cond (bj x.n x.s.items.n) (cond (decide (x.k < ((x.s.items.get (Int.toNat x.n)).aP.n:Int))) (cond (mI 16 x.l.n 1) (cond (aF (x.l.n+1)) (.next ⟨x.n,x.t4,(x.l.push ⟨x.n,x.k⟩),(az (x.k+1)),x.s⟩) .fail) .fail) (cond (aF x.l.n) (.out (aB.ai.exit 0) x) .fail)) .fail)
theorem adl (x:wb):aha (MA x) (MB x)=aO.enc MA MB (s7 x):=by
 unfold s7 bj mI aF
 try simp only [aO.bw,JJ]
 kernel_rfl
def ZD:Lp:=⟨72,58,ZC,fun vs rs=>bP MA MB (goN s7 (VH vs rs)) [aB.ai.exit 0],false⟩
theorem ahb:ZD.Ok PG:=rF ak.nil aK.nil (pa:=VH) adl
def K8 (s:Show) (n:Int):=goN s7 ⟨n,⟨0,(fun i=>⟨0,0⟩)⟩,⟨0,(fun i=>⟨0,0⟩)⟩,0,s⟩
def E4 (s:Show) (n:Int):Option ((Sl aJ)):=(cond ((K8 s n).by (aB.ai.exit 0)) (some ((K8 s n).st.l)) none)
theorem alq (s:Show) (n:Int):gn [] [ZD] 72 [qy s,(kI .i64) n] = (E4 s n).map (cT 93 du):=by
 unfold E4
 try simp only [aV]
 kernel_rfl
def Iy:List KV->KR KV:=bk PG 72 (bn (cT 93 du) fun vs=>E4 (hJ (v9 vs 0)) (intOf (v9 vs 1)))
theorem DI:bg PG 72 Iy:=bQ ak.nil (gm ahb aK.nil) fun w=>alq (hJ (g0 25 (w 0))) (intOf (g0 3 (w 1)))
structure lQ where
 items:(Sl Int)
 t4:(Sl aJ)
 t5:Int
 l:(Sl aJ)
 i:Int
 s:Show
instance:Inhabited lQ:=⟨by constructor<;>exact default⟩
def BZ (x:lQ):List KV:=[cT 3 (kI .i64) x.items,cT 93 du x.t4,.int .i64 x.t5,cT 93 du x.l,.int .i64 x.i]
def B4 (x:lQ):List (List KV):=[hD x.s]
def JP (vs:List KV) (rs:List (List KV)):lQ:=⟨dp intOf (v9 vs 0),dp eJ (v9 vs 1),intOf (v9 vs 2),dp eJ (v9 vs 3),intOf (v9 vs 4),hH (r9 rs 0)⟩
def K9:aL:=⟨[(1,w9 (n9 3)),(4,w9 (n9 93)),(5,w9 i9),(7,⟨false,[.bc 93]⟩),(8,w9 i9)],[(2,[n9 111,n9 114],1)],[(2,0,0)]⟩
def Xi:=sB [(72,Iy),(71,wQ)] [] 28 250 K9
def oj (x:lQ):=E4 x.s (x.items.get (Int.toNat x.i))
def nt (x:lQ):aO lQ:=(cond (decide (x.i < (x.items.n:Int))) (cond (bj x.i x.items.n) (cond (bj (x.items.get (Int.toNat x.i)) x.s.items.n) (cond (!(x.s.items.get (Int.toNat (x.items.get (Int.toNat x.i)))).look.cI) (cond (bj x.i x.items.n) (cond (oj x).isSome (cond (mI 16 x.l.n ((oj x).getD default).n) (cond (aF (x.l.n+((oj x).getD default).n)) (.next ⟨x.items,x.t4,x.t5,(x.l.join ((oj x).getD default)),(az (x.i+1)),x.s⟩) .fail) .fail) .fail) .fail) (cond (aF x.l.n) (.next ⟨x.items,x.t4,x.t5,x.l,(az (x.i+1)),x.s⟩) .fail)) .fail) .fail) (cond (aF x.l.n) (.out (aB.ai.exit 0) x) .fail))
theorem SV (x:lQ):Xi (BZ x) (B4 x)=aO.enc BZ B4 (nt x):=by
 unfold nt bj mI aF
 try simp only [aO.bw,Xc]
 kernel_rfl
def Lb:Lp:=⟨28,250,K9,fun vs rs=>bP BZ B4 (goN nt (JP vs rs)) [aB.ai.exit 0],false⟩
theorem Xj:Lb.Ok PG:=rF (ak.cons DI (ak.cons u6 ak.nil)) aK.nil (pa:=JP) SV
def Bg (s:Show) (items:(Sl Int)):=tS s items
def Bh (s:Show) (items:(Sl Int)):=goN nt ⟨items,⟨0,(fun i=>⟨0,0⟩)⟩,0,⟨0,(fun i=>⟨0,0⟩)⟩,0,s⟩
def tT (s:Show) (items:(Sl Int)):Option ((Sl aJ)×Int):=(cond (Bg s items).isSome (cond (((Bg s items).getD default) != 0) (some (⟨0,(fun i=>⟨0,0⟩)⟩,((Bg s items).getD default))) (cond ((Bh s items).by (aB.ai.exit 0)) (some ((Bh s items).st.l,0)) none)) none)
theorem adm (s:Show) (items:(Sl Int)):gn [(72,Iy),(71,wQ)] [Lb] 28 [qy s,(cT 3 (kI .i64)) items] = (tT s items).map (fun (r:(Sl aJ)×Int)=>KV.iv [(cT 93 du) r.1,(kI .i64) r.2]):=by
 unfold tT
 try simp only [aV]
 kernel_rfl
def MC:List KV->KR KV:=bk PG 28 (bn (fun (r:(Sl aJ)×Int)=>KV.iv [(cT 93 du) r.1,(kI .i64) r.2]) fun vs=>tT (hJ (v9 vs 0)) ((dp intOf) (v9 vs 1)))
theorem N3:bg PG 28 MC:=bQ (ak.cons DI (ak.cons u6 ak.nil)) (gm Xj aK.nil) fun w=>adm (hJ (g0 25 (w 0))) ((dp intOf) (g0 66 (w 1)))
structure kR where
 items:(Sl Int)
 t4:(Sl aJ)
 t5:Int
 l:(Sl aJ)
 bin:Int
 s:Show
instance:Inhabited kR:=⟨by constructor<;>exact default⟩
def z6 (x:kR):List KV:=[cT 3 (kI .i64) x.items,cT 93 du x.t4,.int .i64 x.t5,cT 93 du x.l,.int .i64 x.bin]
def z7 (x:kR):List (List KV):=[hD x.s]
def HN (vs:List KV) (rs:List (List KV)):kR:=⟨dp intOf (v9 vs 0),dp eJ (v9 vs 1),intOf (v9 vs 2),dp eJ (v9 vs 3),intOf (v9 vs 4),hH (r9 rs 0)⟩
def JQ:aL:=⟨[(1,w9 (n9 3)),(4,w9 (n9 93)),(5,w9 i9),(7,⟨false,[.bc 93]⟩),(8,w9 i9)],[(2,[n9 111,n9 114],1)],[(2,0,0)]⟩
structure jg where
 items:(Sl Int)
 t4:(Sl aJ)
 t5:Int
 l:(Sl aJ)
 bin:Int
 i:Int
 s:Show
instance:Inhabited jg:=⟨by constructor<;>exact default⟩
def xc (x:jg):List KV:=[cT 3 (kI .i64) x.items,cT 93 du x.t4,.int .i64 x.t5,cT 93 du x.l,.int .i64 x.bin,.int .i64 x.i]
def xd (x:jg):List (List KV):=[hD x.s]
def Ef (vs:List KV) (rs:List (List KV)):jg:=⟨dp intOf (v9 vs 0),dp eJ (v9 vs 1),intOf (v9 vs 2),dp eJ (v9 vs 3),intOf (v9 vs 4),intOf (v9 vs 5),hH (r9 rs 0)⟩
def Gm:aL:=⟨[(1,w9 (n9 3)),(4,w9 (n9 93)),(5,w9 i9),(7,⟨false,[.bc 93]⟩),(8,w9 i9),(9,w9 i9)],[(2,[n9 111,n9 114],1)],[(2,0,0)]⟩
def Ra:=sB [(72,Iy),(71,wQ)] [] 30 16018 Gm
def lq (x:jg):=E4 x.s (x.items.get (Int.toNat x.i))
def iz (x:jg):aO jg:=(cond (decide (x.i < (x.items.n:Int))) (cond (bj x.i x.items.n) (cond (bj (x.items.get (Int.toNat x.i)) x.s.items.n) (cond (x.s.items.get (Int.toNat (x.items.get (Int.toNat x.i)))).look.cI (cond ((x.s.items.get (Int.toNat (x.items.get (Int.toNat x.i)))).look.bin==x.bin) (cond (bj x.i x.items.n) (cond (lq x).isSome (cond (mI 16 x.l.n ((lq x).getD default).n) (cond (aF (x.l.n+((lq x).getD default).n)) (.next ⟨x.items,x.t4,x.t5,(x.l.join ((lq x).getD default)),x.bin,(az (x.i+1)),x.s⟩) .fail) .fail) .fail) .fail) (cond (aF x.l.n) (.next ⟨x.items,x.t4,x.t5,x.l,x.bin,(az (x.i+1)),x.s⟩) .fail)) (cond (aF x.l.n) (.next ⟨x.items,x.t4,x.t5,x.l,x.bin,(az (x.i+1)),x.s⟩) .fail)) .fail) .fail) (cond (aF x.l.n) (.out (aB.ai.exit 2) x) .fail))
theorem N4 (x:jg):Ra (xc x) (xd x)=aO.enc xc xd (iz x):=by
 unfold iz bj mI aF
 try simp only [aO.bw,Xc]
 kernel_rfl
def yv:Lp:=⟨30,16018,Gm,fun vs rs=>bP xc xd (goN iz (Ef vs rs)) [aB.ai.exit 2],false⟩
theorem Eg:yv.Ok PG:=rF (ak.cons DI (ak.cons u6 ak.nil)) aK.nil (pa:=Ef) N4
def UN:=sB [(72,Iy),(71,wQ)] [yv] 30 250 JQ
def gV (x:kR):=goN iz ⟨x.items,x.t4,x.t5,x.l,x.bin,0,x.s⟩
def mj (x:kR):aO kR:=(cond (decide (x.bin<=15)) (cond (aF x.l.n) (cond ((gV x).by (aB.ai.exit 2)) (cond (aF (gV x).st.l.n) (.next ⟨(gV x).st.items,(gV x).st.t4,(gV x).st.t5,(gV x).st.l,(az ((gV x).st.bin+1)),(gV x).st.s⟩) .fail) .fail) .fail) (cond (aF x.l.n) (.out (aB.ai.exit 0) x) .fail))
theorem Rb (x:kR):UN (z6 x) (z7 x)=aO.enc z6 z7 (mj x):=by
 unfold mj aF
 try simp only [aO.bw]
 kernel_rfl
def JR:Lp:=⟨30,250,JQ,fun vs rs=>bP z6 z7 (goN mj (HN vs rs)) [aB.ai.exit 0],false⟩
theorem UO:JR.Ok PG:=rF (ak.cons DI (ak.cons u6 ak.nil)) (gm Eg aK.nil) (pa:=HN) Rb
def zu (s:Show) (items:(Sl Int)):=tS s items
def zv (s:Show) (items:(Sl Int)):=goN mj ⟨items,⟨0,(fun i=>⟨0,0⟩)⟩,0,⟨0,(fun i=>⟨0,0⟩)⟩,0,s⟩
def r7 (s:Show) (items:(Sl Int)):Option ((Sl aJ)×Int):=(cond (zu s items).isSome (cond (((zu s items).getD default) != 0) (some (⟨0,(fun i=>⟨0,0⟩)⟩,((zu s items).getD default))) (cond ((zv s items).by (aB.ai.exit 0)) (some ((zv s items).st.l,0)) none)) none)
theorem abi (s:Show) (items:(Sl Int)):gn [(72,Iy),(71,wQ)] [yv,JR] 30 [qy s,(cT 3 (kI .i64)) items] = (r7 s items).map (fun (r:(Sl aJ)×Int)=>KV.iv [(cT 93 du) r.1,(kI .i64) r.2]):=by
 unfold r7
 try simp only [aV]
 kernel_rfl
def JS:List KV->KR KV:=bk PG 30 (bn (fun (r:(Sl aJ)×Int)=>KV.iv [(cT 93 du) r.1,(kI .i64) r.2]) fun vs=>r7 (hJ (v9 vs 0)) ((dp intOf) (v9 vs 1)))
theorem Lc:bg PG 30 JS:=bQ (ak.cons DI (ak.cons u6 ak.nil)) (gm Eg (gm UO aK.nil)) fun w=>abi (hJ (g0 25 (w 0))) ((dp intOf) (g0 66 (w 1)))
structure r8 where
 a:(Sl aJ)
 b:(Sl aJ)
 t4:Bool
 i:Int
instance:Inhabited r8:=⟨⟨default,default,default,default⟩⟩
def Hd (x:r8):List KV:=[cT 93 du x.a,cT 93 du x.b,.bool x.t4,.int .i64 x.i]
def Hf (x:r8):List (List KV):=[]
def QI (vs:List KV) (rs:List (List KV)):r8:=⟨dp eJ (v9 vs 0),dp eJ (v9 vs 1),iH (v9 vs 2),intOf (v9 vs 3)⟩
def SW:aL:=⟨[(0,w9 (n9 93)),(1,w9 (n9 93)),(4,w9 b9),(5,w9 i9)],[],[]⟩
def adn:=sB [] [] 33 58 SW
def qh (x:r8):aO r8:=(cond (decide (x.i < (x.a.n:Int))) (cond (bj x.i x.a.n) (cond (bj x.i x.b.n) (cond (!(((x.a.get (Int.toNat x.i)).item==(x.b.get (Int.toNat x.i)).item)&&(((x.a.get (Int.toNat x.i)).dB==(x.b.get (Int.toNat x.i)).dB)&&true))) (.out aB.ai.ret ⟨x.a,x.b,false,x.i⟩) (.next ⟨x.a,x.b,x.t4,(az (x.i+1))⟩)) .fail) .fail) (.out (aB.ai.exit 0) x))
theorem ZE (x:r8):adn (Hd x) (Hf x)=aO.enc Hd Hf (qh x):=by
 unfold qh bj
 try simp only [aO.bw]
 kernel_rfl
def SX:Lp:=⟨33,58,SW,fun vs rs=>bP Hd Hf (goN qh (QI vs rs)) [aB.ai.exit 0,aB.ai.ret],false⟩
theorem ado:SX.Ok PG:=rF ak.nil aK.nil (pa:=QI) ZE
def wR (a:(Sl aJ)) (b:(Sl aJ)):=goN qh ⟨a,b,false,0⟩
def tG (a:(Sl aJ)) (b:(Sl aJ)):Option (Bool):=(cond ((a.n:Int) != (b.n:Int)) (some (false)) (cond ((wR a b).by (aB.ai.exit 0)) (some (true)) (cond ((wR a b).by aB.ai.ret) (some ((wR a b).st.t4)) none)))
theorem ahc (a:(Sl aJ)) (b:(Sl aJ)):gn [] [SX] 33 [(cT 93 du) a,(cT 93 du) b] = (tG a b).map kB:=by
 unfold tG
 try simp only [aV]
 kernel_rfl
def SY:List KV->KR KV:=bk PG 33 (bn kB fun vs=>tG ((dp eJ) (v9 vs 0)) ((dp eJ) (v9 vs 1)))
theorem SZ:bg PG 33 SY:=bQ ak.nil (gm ado aK.nil) fun w=>ahc ((dp eJ) (g0 75 (w 0))) ((dp eJ) (g0 75 (w 1)))
def Bi (c:aE) (w:bO):=zn c
def wS (c:aE) (w:bO):Option (Int):=(cond (Bi c w).isSome (cond (((Bi c w).getD default) != 0) (some (((Bi c w).getD default))) (cond (decide (w.x0 < 0)) (some (2)) (cond (decide (w.x0 > w.x1)) (some (2)) (cond (decide (w.x1 >= c.w)) (some (2)) (cond (decide (w.y0 < 0)) (some (2)) (cond (decide (w.y0 > w.y1)) (some (2)) (cond (decide (w.y1 >= c.h)) (some (2)) (some (0))))))))) none)
theorem adp (c:aE) (w:bO):gn [(89,Zp)] [] 80 [nX c,oK w] = (wS c w).map (kI .i64):=by
 unfold wS
 try simp only [aV]
 kernel_rfl
def FX:List KV->KR KV:=bk PG 80 (bn (kI .i64) fun vs=>wS (fD (v9 vs 0)) (o3 (v9 vs 1)))
theorem E5:bg PG 80 FX:=bQ (ak.cons ada ak.nil) aK.nil fun w=>adp (fD (g0 31 (w 0))) (o3 (g0 77 (w 1)))
def JT (t:aW):=BO t
def S0 (t:aW):=tB t
def zw (t:aW):Option (Int):=(cond (JT t).isSome (cond (!((JT t).getD default)) (some (8)) (cond (decide (((S0 t).getD default)<=0)) (some (6)) (some (0)))) none)
theorem agb (t:aW):gn [(169,Ib),(168,WZ)] [] 186 [fN t] = (zw t).map (kI .i64):=by
 unfold zw
 try simp only [aV]
 kernel_rfl
def ZF:List KV->KR KV:=bk PG 186 (bn (kI .i64) fun vs=>zw (fA (v9 vs 0)))
theorem adq:bg PG 186 ZF:=bQ (ak.cons GQ (ak.cons Vz ak.nil)) aK.nil fun w=>agb (fA (g0 62 (w 0)))
def wc (x:Int) (y:Int):Option (Bool):=(cond (decide (x >= 0)) (cond (decide (x < 64)) (cond (decide (y >= 0)) (some ((decide (y < 64)))) (some (false))) (some (false))) (some (false)))
theorem agc (x:Int) (y:Int):gn [] [] 213 [(kI .i64) x,(kI .i64) y] = (wc x y).map kB:=by
 unfold wc
 try simp only [aV]
 kernel_rfl
def ZG:List KV->KR KV:=bk PG 213 (bn kB fun vs=>wc (intOf (v9 vs 0)) (intOf (v9 vs 1)))
theorem adr:bg PG 213 ZG:=bQ ak.nil aK.nil fun w=>agc (intOf (g0 3 (w 0))) (intOf (g0 3 (w 1)))
def Hg (w:bO):=wc w.x0 w.y0
def Hh (w:bO):=wc w.x1 w.y1
def wT (w:bO):Option (Bool):=(cond (Hg w).isSome (cond ((Hg w).getD default) (cond (Hh w).isSome (cond ((Hh w).getD default) (cond (decide (w.x0<=w.x1)) (some ((decide (w.y0<=w.y1)))) (some (false))) (some (false))) none) (some (false))) none)
theorem ads (w:bO):gn [(213,ZG)] [] 187 [oK w] = (wT w).map kB:=by
 unfold wT
 try simp only [aV]
 kernel_rfl
def VI:List KV->KR KV:=bk PG 187 (bn kB fun vs=>wT (o3 (v9 vs 0)))
theorem abj:bg PG 187 VI:=bQ (ak.cons adr ak.nil) aK.nil fun w=>ads (o3 (g0 77 (w 0)))
def E6 (a:Int) (b:Int):Option (Int):=(cond (!(decide (b=0))) (cond (decide ((az ((az (Int.tdiv a b)) * b)) < a)) (some ((az ((az (Int.tdiv a b))+1)))) (some ((az (Int.tdiv a b))))) none)
theorem alr (a:Int) (b:Int):gn [] [] 188 [(kI .i64) a,(kI .i64) b] = (E6 a b).map (kI .i64):=by
 unfold E6
 try simp only [aV]
 kernel_rfl
def ah5:List KV->KR KV:=bk PG 188 (bn (kI .i64) fun vs=>E6 (intOf (v9 vs 0)) (intOf (v9 vs 1)))
theorem ajf:bg PG 188 ah5:=bQ ak.nil aK.nil fun w=>alr (intOf (g0 3 (w 0))) (intOf (g0 3 (w 1)))
def qD (t:aW) (w:bO):=zw t
def Hi (t:aW) (w:bO):=wT w
def oz (t:aW) (w:bO):=E6 (az ((min (min t.e0.x t.e1.x) t.e2.x) - 4)) 8
def oA (t:aW) (w:bO):=oy (az ((max (max t.e0.x t.e1.x) t.e2.x) - 4)) 8
def oB (t:aW) (w:bO):=E6 (az ((min (min t.e0.y t.e1.y) t.e2.y) - 4)) 8
def oC (t:aW) (w:bO):=oy (az ((max (max t.e0.y t.e1.y) t.e2.y) - 4)) 8
def wU (t:aW) (w:bO):Option (bO×Bool×Int):=(cond (qD t w).isSome (cond (((qD t w).getD default)==0) (cond (Hi t w).isSome (cond (!((Hi t w).getD default)) (some (⟨0,0,0,0⟩,false,2)) (cond (((qD t w).getD default) != 0) (some (⟨0,0,0,0⟩,false,((qD t w).getD default))) (cond (oz t w).isSome (cond (oA t w).isSome (cond (oB t w).isSome (cond (oC t w).isSome (cond (decide ((max w.x0 ((oz t w).getD default)) > (min w.x1 ((oA t w).getD default)))) (some (⟨0,0,0,0⟩,false,0)) (cond (decide ((max w.y0 ((oB t w).getD default)) > (min w.y1 ((oC t w).getD default)))) (some (⟨0,0,0,0⟩,false,0)) (some (⟨(max w.x0 ((oz t w).getD default)),(max w.y0 ((oB t w).getD default)),(min w.x1 ((oA t w).getD default)),(min w.y1 ((oC t w).getD default))⟩,true,0)))) none) none) none) none))) none) (cond (((qD t w).getD default) != 0) (some (⟨0,0,0,0⟩,false,((qD t w).getD default))) (cond (oz t w).isSome (cond (oA t w).isSome (cond (oB t w).isSome (cond (oC t w).isSome (cond (decide ((max w.x0 ((oz t w).getD default)) > (min w.x1 ((oA t w).getD default)))) (some (⟨0,0,0,0⟩,false,0)) (cond (decide ((max w.y0 ((oB t w).getD default)) > (min w.y1 ((oC t w).getD default)))) (some (⟨0,0,0,0⟩,false,0)) (some (⟨(max w.x0 ((oz t w).getD default)),(max w.y0 ((oB t w).getD default)),(min w.x1 ((oA t w).getD default)),(min w.y1 ((oC t w).getD default))⟩,true,0)))) none) none) none) none))) none)
theorem adt (t:aW) (w:bO):gn [(172,Cv),(188,ah5),(187,VI),(186,ZF)] [] 140 [fN t,oK w] = (wU t w).map (fun (r:bO×Bool×Int)=>KV.iv [oK r.1,kB r.2.1,(kI .i64) r.2.2]):=by
 unfold wU
 try simp only [aV]
 kernel_rfl
def MD:List KV->KR KV:=bk PG 140 (bn (fun (r:bO×Bool×Int)=>KV.iv [oK r.1,kB r.2.1,(kI .i64) r.2.2]) fun vs=>wU (fA (v9 vs 0)) (o3 (v9 vs 1)))
theorem N5:bg PG 140 MD:=bQ (ak.cons yn (ak.cons ajf (ak.cons abj (ak.cons adq ak.nil)))) aK.nil fun w=>adt (fA (g0 62 (w 0))) (o3 (g0 77 (w 1)))
structure ah where
 data:(Sl aJ)
 a:Int
 m:Int
 b:Int
 held:Show
instance:Inhabited ah:=⟨⟨default,default,default,default,default⟩⟩
def iA (x:ah):List KV:=[cT 93 du x.data,.int .i64 x.a,.int .i64 x.m,.int .i64 x.b,.fn (.func 74) [] [.ptr 0 0]]
def iB (x:ah):List (List KV):=[hD x.held]
def o9 (vs:List KV) (rs:List (List KV)):ah:=⟨dp eJ (v9 vs 0),intOf (v9 vs 1),intOf (v9 vs 2),intOf (v9 vs 3),hH (r9 rs 0)⟩
def pN:aL:=⟨[(0,⟨false,[.arr 93]⟩),(1,w9 i9),(2,w9 i9),(3,w9 i9),(4,⟨false,[.ref (.fn (.func 74) [] [.ptr 0 0])]⟩)],[(100004,[n9 111,n9 114],1)],[]⟩
structure dF where
 data:(Sl aJ)
 a:Int
 m:Int
 b:Int
 i:Int
 j:Int
 eX:Show
instance:Inhabited dF:=⟨by constructor<;>exact default⟩
def jn (x:dF):List KV:=[cT 93 du x.data,.int .i64 x.a,.int .i64 x.m,.int .i64 x.b,.fn (.func 74) [] [.ptr 0 0],.int .i64 x.i,.int .i64 x.j]
def jo (x:dF):List (List KV):=[hD x.eX]
def sa (vs:List KV) (rs:List (List KV)):dF:=⟨dp eJ (v9 vs 0),intOf (v9 vs 1),intOf (v9 vs 2),intOf (v9 vs 3),intOf (v9 vs 5),intOf (v9 vs 6),hH (r9 rs 0)⟩
def sE:aL:=⟨[(0,⟨false,[.arr 93]⟩),(1,w9 i9),(2,w9 i9),(3,w9 i9),(4,⟨false,[.ref (.fn (.func 74) [] [.ptr 0 0])]⟩),(10,w9 i9),(11,w9 i9)],[(100004,[n9 111,n9 114],1)],[]⟩
def B5:=sv PG (iZ PG [(75,cA)] [] (fun q=>Nat.beq q 93) false false [eY]) 9 9 184 172 (nz PG 184 172) sE
def iQ (x:dF):=ka (x.eX.items.get (Int.toNat (x.data.get (0+(Int.toNat (az (Int.fdiv (sC (az (x.i+x.j))) 2))))).item)).look.bin (x.eX.items.get (Int.toNat (x.data.get (0+(Int.toNat x.a))).item)).look.bin
def cX (x:dF):aO dF:=(cond (decide (x.i < x.j)) (cond (bj (az (Int.fdiv (sC (az (x.i+x.j))) 2)) x.data.n) (cond (bj x.a x.data.n) (cond (bj (x.data.get (0+(Int.toNat (az (Int.fdiv (sC (az (x.i+x.j))) 2))))).item x.eX.items.n) (cond (bj (x.data.get (0+(Int.toNat x.a))).item x.eX.items.n) (cond (iQ x).isSome (cond (decide (((iQ x).getD default) < 0)) (cond (aF x.data.n) (.next ⟨x.data,x.a,x.m,x.b,(az ((az (Int.fdiv (sC (az (x.i+x.j))) 2))+1)),x.j,x.eX⟩) .fail) (cond (aF x.data.n) (.next ⟨x.data,x.a,x.m,x.b,x.i,(az (Int.fdiv (sC (az (x.i+x.j))) 2)),x.eX⟩) .fail)) .fail) .fail) .fail) .fail) .fail) (cond (aF x.data.n) (.out (aB.ai.exit 0) x) .fail))
theorem z8 (x:dF):B5 (jn x) (jo x)=aO.enc jn jo (cX x):=by
 unfold cX bj aF
 try simp only [aO.bw]
 kernel_rfl
def eG:Lp:=⟨184,172,sE,fun vs rs=>bP jn jo (goN cX (sa vs rs)) [aB.ai.exit 0],true⟩
theorem fg:eG.Ok PG:=mH funcs mixed (ak.cons bS ak.nil) aK.nil (L:=9) (n:=9) (step:=cX) (ev:=jn) (er:=jo) (pa:=sa) rfl (fun wv wr=>⟨by kernel_rfl,by kernel_rfl⟩) z8 (GK:=(fT.cons fF fT.nil))
structure dG where
 data:(Sl aJ)
 a:Int
 m:Int
 b:Int
 i:Int
 j:Int
 eX:Show
instance:Inhabited dG:=⟨by constructor<;>exact default⟩
def jq (x:dG):List KV:=[cT 93 du x.data,.int .i64 x.a,.int .i64 x.m,.int .i64 x.b,.fn (.func 74) [] [.ptr 0 0],.int .i64 x.i,.int .i64 x.j]
def jr (x:dG):List (List KV):=[hD x.eX]
def se (vs:List KV) (rs:List (List KV)):dG:=⟨dp eJ (v9 vs 0),intOf (v9 vs 1),intOf (v9 vs 2),intOf (v9 vs 3),intOf (v9 vs 5),intOf (v9 vs 6),hH (r9 rs 0)⟩
def sF:aL:=⟨[(0,⟨false,[.arr 93]⟩),(1,w9 i9),(2,w9 i9),(3,w9 i9),(4,⟨false,[.ref (.fn (.func 74) [] [.ptr 0 0])]⟩),(14,w9 i9),(15,w9 i9)],[(100004,[n9 111,n9 114],1)],[]⟩
def B6:=sv PG (iZ PG [(75,cA)] [eG] (fun q=>Nat.beq q 93) false false [eY]) 9 9 184 428 (nz PG 184 428) sF
def iR (x:dG):=ka (x.eX.items.get (Int.toNat (x.data.get (0+(Int.toNat x.m))).item)).look.bin (x.eX.items.get (Int.toNat (x.data.get (0+(Int.toNat (az (Int.fdiv (sC (az (x.i+x.j))) 2))))).item)).look.bin
def cY (x:dG):aO dG:=(cond (decide (x.i < x.j)) (cond (bj x.m x.data.n) (cond (bj (az (Int.fdiv (sC (az (x.i+x.j))) 2)) x.data.n) (cond (bj (x.data.get (0+(Int.toNat x.m))).item x.eX.items.n) (cond (bj (x.data.get (0+(Int.toNat (az (Int.fdiv (sC (az (x.i+x.j))) 2))))).item x.eX.items.n) (cond (iR x).isSome (cond (!(decide (((iR x).getD default) < 0))) (cond (aF x.data.n) (.next ⟨x.data,x.a,x.m,x.b,(az ((az (Int.fdiv (sC (az (x.i+x.j))) 2))+1)),x.j,x.eX⟩) .fail) (cond (aF x.data.n) (.next ⟨x.data,x.a,x.m,x.b,x.i,(az (Int.fdiv (sC (az (x.i+x.j))) 2)),x.eX⟩) .fail)) .fail) .fail) .fail) .fail) .fail) (cond (aF x.data.n) (.out (aB.ai.exit 4) x) .fail))
theorem z9 (x:dG):B6 (jq x) (jr x)=aO.enc jq jr (cY x):=by
 unfold cY bj aF
 try simp only [aO.bw]
 kernel_rfl
def fB:Lp:=⟨184,428,sF,fun vs rs=>bP jq jr (goN cY (se vs rs)) [aB.ai.exit 4],true⟩
theorem gv:fB.Ok PG:=mH funcs mixed (ak.cons bS ak.nil) (gm fg aK.nil) (L:=9) (n:=9) (step:=cY) (ev:=jq) (er:=jr) (pa:=se) rfl (fun wv wr=>⟨by kernel_rfl,by kernel_rfl⟩) z9 (GK:=(fT.cons fF fT.nil))
structure eH where
 data:(Sl aJ)
 a:Int
 m:Int
 b:Int
 i:Int
 k:Int
 eX:Show
instance:Inhabited eH:=⟨by constructor<;>exact default⟩
def js (x:eH):List KV:=[cT 93 du x.data,.int .i64 x.a,.int .i64 x.m,.int .i64 x.b,.fn (.func 74) [] [.ptr 0 0],.int .i64 x.i,.int .i64 x.k]
def jt (x:eH):List (List KV):=[hD x.eX]
def sf (vs:List KV) (rs:List (List KV)):eH:=⟨dp eJ (v9 vs 0),intOf (v9 vs 1),intOf (v9 vs 2),intOf (v9 vs 3),intOf (v9 vs 5),intOf (v9 vs 6),hH (r9 rs 0)⟩
def sG:aL:=⟨[(0,⟨false,[.arr 93]⟩),(1,w9 i9),(2,w9 i9),(3,w9 i9),(4,⟨false,[.ref (.fn (.func 74) [] [.ptr 0 0])]⟩),(10,w9 i9),(13,w9 i9)],[(100004,[n9 111,n9 114],1)],[]⟩
def B7:=sv PG (iZ PG [(75,cA)] [eG,fB] (fun q=>Nat.beq q 93) false false [eY]) 9 9 184 698 (nz PG 184 698) sG
def cZ (x:eH):aO eH:=(cond (decide (x.k < (az (x.i - 1)))) (cond (bj (az (x.k+1)) x.data.n) (cond (bj x.k x.data.n) (cond (bj x.k x.data.n) (cond (bj (az (x.k+1)) x.data.n) (cond (aF x.data.n) (.next ⟨((x.data.set (0+(Int.toNat x.k)) (x.data.get (0+(Int.toNat (az (x.k+1)))))).set (0+(Int.toNat (az (x.k+1)))) (x.data.get (0+(Int.toNat x.k)))),x.a,x.m,x.b,x.i,(az (x.k+1)),x.eX⟩) .fail) .fail) .fail) .fail) .fail) (cond (aF x.data.n) (.out (aB.ai.exit 2) x) .fail))
theorem Aa (x:eH):B7 (js x) (jt x)=aO.enc js jt (cZ x):=by
 unfold cZ bj aF
 try simp only [aO.bw,Ud,Uc]
 kernel_rfl
def gI:Lp:=⟨184,698,sG,fun vs rs=>bP js jt (goN cZ (sf vs rs)) [aB.ai.exit 2],true⟩
theorem ju:gI.Ok PG:=mH funcs mixed (ak.cons bS ak.nil) (gm fg (gm gv aK.nil)) (L:=9) (n:=9) (step:=cZ) (ev:=js) (er:=jt) (pa:=sf) rfl (fun wv wr=>⟨by kernel_rfl,by kernel_rfl⟩) Aa (GK:=(fT.cons fF fT.nil))
structure bX where
 data:(Sl aJ)
 a:Int
 m:Int
 b:Int
 cn:Int
 n:Int
 start:Int
 r:Int
 p:Int
 eX:Show
instance:Inhabited bX:=⟨by constructor<;>exact default⟩
def iU (x:bX):List KV:=[cT 93 du x.data,.int .i64 x.a,.int .i64 x.m,.int .i64 x.b,.fn (.func 74) [] [.ptr 0 0],.int .i64 x.cn,.int .i64 x.n,.int .i64 x.start,.int .i64 x.r,.int .i64 x.p]
def iV (x:bX):List (List KV):=[hD x.eX]
def rz (vs:List KV) (rs:List (List KV)):bX:=⟨dp eJ (v9 vs 0),intOf (v9 vs 1),intOf (v9 vs 2),intOf (v9 vs 3),intOf (v9 vs 5),intOf (v9 vs 6),intOf (v9 vs 7),intOf (v9 vs 8),intOf (v9 vs 9),hH (r9 rs 0)⟩
def sg:aL:=⟨[(0,⟨false,[.arr 93]⟩),(1,w9 i9),(2,w9 i9),(3,w9 i9),(4,⟨false,[.ref (.fn (.func 74) [] [.ptr 0 0])]⟩),(18,w9 i9),(19,w9 i9),(20,w9 i9),(21,w9 i9),(22,w9 i9)],[(100004,[n9 111,n9 114],1)],[]⟩
def AB:=sv PG (iZ PG [(75,cA)] [eG,fB,gI] (fun q=>Nat.beq q 93) false false [eY]) 9 9 184 1020 (nz PG 184 1020) sg
def iq (x:bX):=ka (x.eX.items.get (Int.toNat (x.data.get (0+(Int.toNat (az (x.p - (az (Int.fdiv (sC (az (x.start+x.r))) 2))))))).item)).look.bin (x.eX.items.get (Int.toNat (x.data.get (0+(Int.toNat (az (Int.fdiv (sC (az (x.start+x.r))) 2))))).item)).look.bin
def cu (x:bX):aO bX:=(cond (decide (x.start < x.r)) (cond (bj (az (x.p - (az (Int.fdiv (sC (az (x.start+x.r))) 2)))) x.data.n) (cond (bj (az (Int.fdiv (sC (az (x.start+x.r))) 2)) x.data.n) (cond (bj (x.data.get (0+(Int.toNat (az (x.p - (az (Int.fdiv (sC (az (x.start+x.r))) 2))))))).item x.eX.items.n) (cond (bj (x.data.get (0+(Int.toNat (az (Int.fdiv (sC (az (x.start+x.r))) 2))))).item x.eX.items.n) (cond (iq x).isSome (cond (!(decide (((iq x).getD default) < 0))) (cond (aF x.data.n) (.next ⟨x.data,x.a,x.m,x.b,x.cn,x.n,(az ((az (Int.fdiv (sC (az (x.start+x.r))) 2))+1)),x.r,x.p,x.eX⟩) .fail) (cond (aF x.data.n) (.next ⟨x.data,x.a,x.m,x.b,x.cn,x.n,x.start,(az (Int.fdiv (sC (az (x.start+x.r))) 2)),x.p,x.eX⟩) .fail)) .fail) .fail) .fail) .fail) .fail) (cond (aF x.data.n) (.out (aB.ai.exit 8) x) .fail))
theorem zx (x:bX):AB (iU x) (iV x)=aO.enc iU iV (cu x):=by
 unfold cu bj aF
 try simp only [aO.bw]
 kernel_rfl
def jv:Lp:=⟨184,1020,sg,fun vs rs=>bP iU iV (goN cu (rz vs rs)) [aB.ai.exit 8],true⟩
theorem mw:jv.Ok PG:=mH funcs mixed (ak.cons bS ak.nil) (gm fg (gm gv (gm ju aK.nil))) (L:=9) (n:=9) (step:=cu) (ev:=iU) (er:=iV) (pa:=rz) rfl (fun wv wr=>⟨by kernel_rfl,by kernel_rfl⟩) zx (GK:=(fT.cons fF fT.nil))
structure ek where
 data:(Sl aJ)
 a:Int
 m:Int
 b:Int
 i:Int
 k:Int
 eX:Show
instance:Inhabited ek:=⟨by constructor<;>exact default⟩
def iW (x:ek):List KV:=[cT 93 du x.data,.int .i64 x.a,.int .i64 x.m,.int .i64 x.b,.fn (.func 74) [] [.ptr 0 0],.int .i64 x.i,.int .i64 x.k]
def iX (x:ek):List (List KV):=[hD x.eX]
def rA (vs:List KV) (rs:List (List KV)):ek:=⟨dp eJ (v9 vs 0),intOf (v9 vs 1),intOf (v9 vs 2),intOf (v9 vs 3),intOf (v9 vs 5),intOf (v9 vs 6),hH (r9 rs 0)⟩
def sh:aL:=⟨[(0,⟨false,[.arr 93]⟩),(1,w9 i9),(2,w9 i9),(3,w9 i9),(4,⟨false,[.ref (.fn (.func 74) [] [.ptr 0 0])]⟩),(14,w9 i9),(17,w9 i9)],[(100004,[n9 111,n9 114],1)],[]⟩
def AD:=sv PG (iZ PG [(75,cA)] [eG,fB,gI,jv] (fun q=>Nat.beq q 93) false false [eY]) 9 9 184 1722 (nz PG 184 1722) sh
def cP (x:ek):aO ek:=(cond (decide (x.k > x.i)) (cond (bj (az (x.k - 1)) x.data.n) (cond (bj x.k x.data.n) (cond (bj x.k x.data.n) (cond (bj (az (x.k - 1)) x.data.n) (cond (aF x.data.n) (.next ⟨((x.data.set (0+(Int.toNat x.k)) (x.data.get (0+(Int.toNat (az (x.k - 1)))))).set (0+(Int.toNat (az (x.k - 1)))) (x.data.get (0+(Int.toNat x.k)))),x.a,x.m,x.b,x.i,(az (x.k - 1)),x.eX⟩) .fail) .fail) .fail) .fail) .fail) (cond (aF x.data.n) (.out (aB.ai.exit 6) x) .fail))
theorem zy (x:ek):AD (iW x) (iX x)=aO.enc iW iX (cP x):=by
 unfold cP bj aF
 try simp only [aO.bw,Ud,Uc]
 kernel_rfl
def mV:Lp:=⟨184,1722,sh,fun vs rs=>bP iW iX (goN cP (rA vs rs)) [aB.ai.exit 6],true⟩
theorem rB:mV.Ok PG:=mH funcs mixed (ak.cons bS ak.nil) (gm fg (gm gv (gm ju (gm mw aK.nil)))) (L:=9) (n:=9) (step:=cP) (ev:=iW) (er:=iX) (pa:=rA) rfl (fun wv wr=>⟨by kernel_rfl,by kernel_rfl⟩) zy (GK:=(fT.cons fF fT.nil))
def E7 (rc:ah->aO ah):=LX PG (iZ PG [(75,cA)] [eG,fB,gI,jv,mV] (fun q=>Nat.beq q 93) false false ((⟨184,pN,fun vs rs=>bP iA iB (rc (o9 vs rs)) [aB.ai.ret]⟩:Fc)::[eY])) 9 9 184 pN
def cM (rc:ah->aO ah) (x:ah):=goN cX ⟨x.data,x.a,x.m,x.b,x.m,x.b,x.held⟩
def dq (rc:ah->aO ah) (x:ah):=goN cZ ⟨(cM rc x).st.data,(cM rc x).st.a,(cM rc x).st.m,(cM rc x).st.b,(cM rc x).st.i,(cM rc x).st.a,(cM rc x).st.eX⟩
def cN (rc:ah->aO ah) (x:ah):=goN cY ⟨x.data,x.a,x.m,x.b,x.a,x.m,x.held⟩
def dr (rc:ah->aO ah) (x:ah):=goN cP ⟨(cN rc x).st.data,(cN rc x).st.a,(cN rc x).st.m,(cN rc x).st.b,(cN rc x).st.i,(cN rc x).st.m,(cN rc x).st.eX⟩
def ae (rc:ah->aO ah) (x:ah):=goN cu ⟨x.data,x.a,x.m,x.b,(az (Int.fdiv (sC (az (x.a+x.b))) 2)),(az ((az (Int.fdiv (sC (az (x.a+x.b))) 2))+x.m)),(az ((az ((az (Int.fdiv (sC (az (x.a+x.b))) 2))+x.m)) - x.b)),(az (Int.fdiv (sC (az (x.a+x.b))) 2)),(az ((az ((az (Int.fdiv (sC (az (x.a+x.b))) 2))+x.m)) - 1)),x.held⟩
def aY (rc:ah->aO ah) (x:ah):=eE ⟨(ae rc x).st.data,(ae rc x).st.start,(ae rc x).st.m,(az ((ae rc x).st.n - (ae rc x).st.start)),(ae rc x).st.eX⟩
def cO (rc:ah->aO ah) (x:ah):=rc ⟨(aY rc x).st.data,(ae rc x).st.a,(ae rc x).st.start,(ae rc x).st.cn,(aY rc x).st.held⟩
def ky (rc:ah->aO ah) (x:ah):=rc ⟨(cO rc x).st.data,(ae rc x).st.cn,(az ((ae rc x).st.n - (ae rc x).st.start)),(ae rc x).st.b,(cO rc x).st.held⟩
def dZ (rc:ah->aO ah) (x:ah):=rc ⟨(aY rc x).st.data,(ae rc x).st.cn,(az ((ae rc x).st.n - (ae rc x).st.start)),(ae rc x).st.b,(aY rc x).st.held⟩
def bf (rc:ah->aO ah) (x:ah):=rc ⟨(ae rc x).st.data,(ae rc x).st.a,(ae rc x).st.start,(ae rc x).st.cn,(ae rc x).st.eX⟩
def dR (rc:ah->aO ah) (x:ah):=rc ⟨(bf rc x).st.data,(ae rc x).st.cn,(az ((ae rc x).st.n - (ae rc x).st.start)),(ae rc x).st.b,(bf rc x).st.held⟩
def bq (rc:ah->aO ah) (x:ah):=rc ⟨(ae rc x).st.data,(ae rc x).st.cn,(az ((ae rc x).st.n - (ae rc x).st.start)),(ae rc x).st.b,(ae rc x).st.eX⟩
def aa (rc:ah->aO ah) (x:ah):=goN cu ⟨x.data,x.a,x.m,x.b,(az (Int.fdiv (sC (az (x.a+x.b))) 2)),(az ((az (Int.fdiv (sC (az (x.a+x.b))) 2))+x.m)),x.a,x.m,(az ((az ((az (Int.fdiv (sC (az (x.a+x.b))) 2))+x.m)) - 1)),x.held⟩
def aX (rc:ah->aO ah) (x:ah):=eE ⟨(aa rc x).st.data,(aa rc x).st.start,(aa rc x).st.m,(az ((aa rc x).st.n - (aa rc x).st.start)),(aa rc x).st.eX⟩
def cF (rc:ah->aO ah) (x:ah):=rc ⟨(aX rc x).st.data,(aa rc x).st.a,(aa rc x).st.start,(aa rc x).st.cn,(aX rc x).st.held⟩
def kb (rc:ah->aO ah) (x:ah):=rc ⟨(cF rc x).st.data,(aa rc x).st.cn,(az ((aa rc x).st.n - (aa rc x).st.start)),(aa rc x).st.b,(cF rc x).st.held⟩
def dS (rc:ah->aO ah) (x:ah):=rc ⟨(aX rc x).st.data,(aa rc x).st.cn,(az ((aa rc x).st.n - (aa rc x).st.start)),(aa rc x).st.b,(aX rc x).st.held⟩
def bb (rc:ah->aO ah) (x:ah):=rc ⟨(aa rc x).st.data,(aa rc x).st.a,(aa rc x).st.start,(aa rc x).st.cn,(aa rc x).st.eX⟩
def dT (rc:ah->aO ah) (x:ah):=rc ⟨(bb rc x).st.data,(aa rc x).st.cn,(az ((aa rc x).st.n - (aa rc x).st.start)),(aa rc x).st.b,(bb rc x).st.held⟩
def bt (rc:ah->aO ah) (x:ah):=rc ⟨(aa rc x).st.data,(aa rc x).st.cn,(az ((aa rc x).st.n - (aa rc x).st.start)),(aa rc x).st.b,(aa rc x).st.eX⟩
def dU (rc:ah->aO ah) (x:ah):aO ah:=(cond ((az (x.m - x.a))==1) (cond (aF x.data.n) (cond ((cM rc x).by (aB.ai.exit 0)) (cond (aF (cM rc x).st.data.n) (cond ((dq rc x).by (aB.ai.exit 2)) (cond (aF (dq rc x).st.data.n) (.out aB.ai.ret ⟨(dq rc x).st.data,(dq rc x).st.a,(dq rc x).st.m,(dq rc x).st.b,(dq rc x).st.eX⟩) .fail) .fail) .fail) .fail) .fail) (cond ((az (x.b - x.m))==1) (cond (aF x.data.n) (cond ((cN rc x).by (aB.ai.exit 4)) (cond (aF (cN rc x).st.data.n) (cond ((dr rc x).by (aB.ai.exit 6)) (cond (aF (dr rc x).st.data.n) (.out aB.ai.ret ⟨(dr rc x).st.data,(dr rc x).st.a,(dr rc x).st.m,(dr rc x).st.b,(dr rc x).st.eX⟩) .fail) .fail) .fail) .fail) .fail) (cond (decide (x.m > (az (Int.fdiv (sC (az (x.a+x.b))) 2)))) (cond (aF x.data.n) (cond ((ae rc x).by (aB.ai.exit 8)) (cond (decide ((ae rc x).st.start < (ae rc x).st.m)) (cond (decide ((ae rc x).st.m < (az ((ae rc x).st.n - (ae rc x).st.start)))) (cond (aF (ae rc x).st.data.n) (cond ((aY rc x).by aB.ai.ret) (cond (decide ((ae rc x).st.a < (ae rc x).st.start)) (cond (decide ((ae rc x).st.start < (ae rc x).st.cn)) (cond (dk (aY rc x).st.data.n (ae rc x).st.data.n) (cond ((cO rc x).by aB.ai.ret) (cond (decide ((ae rc x).st.cn < (az ((ae rc x).st.n - (ae rc x).st.start)))) (cond (decide ((az ((ae rc x).st.n - (ae rc x).st.start)) < (ae rc x).st.b)) (cond (dk (cO rc x).st.data.n (ae rc x).st.data.n) (cond ((ky rc x).by aB.ai.ret) (cond (dk (ky rc x).st.data.n (ae rc x).st.data.n) (.out aB.ai.ret ⟨(ky rc x).st.data,(ae rc x).st.a,(ae rc x).st.m,(ae rc x).st.b,(ky rc x).st.held⟩) .fail) .fail) .fail) (cond (dk (cO rc x).st.data.n (ae rc x).st.data.n) (.out aB.ai.ret ⟨(cO rc x).st.data,(ae rc x).st.a,(ae rc x).st.m,(ae rc x).st.b,(cO rc x).st.held⟩) .fail)) (cond (dk (cO rc x).st.data.n (ae rc x).st.data.n) (.out aB.ai.ret ⟨(cO rc x).st.data,(ae rc x).st.a,(ae rc x).st.m,(ae rc x).st.b,(cO rc x).st.held⟩) .fail)) .fail) .fail) (cond (decide ((ae rc x).st.cn < (az ((ae rc x).st.n - (ae rc x).st.start)))) (cond (decide ((az ((ae rc x).st.n - (ae rc x).st.start)) < (ae rc x).st.b)) (cond (dk (aY rc x).st.data.n (ae rc x).st.data.n) (cond ((dZ rc x).by aB.ai.ret) (cond (dk (dZ rc x).st.data.n (ae rc x).st.data.n) (.out aB.ai.ret ⟨(dZ rc x).st.data,(ae rc x).st.a,(ae rc x).st.m,(ae rc x).st.b,(dZ rc x).st.held⟩) .fail) .fail) .fail) (cond (dk (aY rc x).st.data.n (ae rc x).st.data.n) (.out aB.ai.ret ⟨(aY rc x).st.data,(ae rc x).st.a,(ae rc x).st.m,(ae rc x).st.b,(aY rc x).st.held⟩) .fail)) (cond (dk (aY rc x).st.data.n (ae rc x).st.data.n) (.out aB.ai.ret ⟨(aY rc x).st.data,(ae rc x).st.a,(ae rc x).st.m,(ae rc x).st.b,(aY rc x).st.held⟩) .fail))) (cond (decide ((ae rc x).st.cn < (az ((ae rc x).st.n - (ae rc x).st.start)))) (cond (decide ((az ((ae rc x).st.n - (ae rc x).st.start)) < (ae rc x).st.b)) (cond (dk (aY rc x).st.data.n (ae rc x).st.data.n) (cond ((dZ rc x).by aB.ai.ret) (cond (dk (dZ rc x).st.data.n (ae rc x).st.data.n) (.out aB.ai.ret ⟨(dZ rc x).st.data,(ae rc x).st.a,(ae rc x).st.m,(ae rc x).st.b,(dZ rc x).st.held⟩) .fail) .fail) .fail) (cond (dk (aY rc x).st.data.n (ae rc x).st.data.n) (.out aB.ai.ret ⟨(aY rc x).st.data,(ae rc x).st.a,(ae rc x).st.m,(ae rc x).st.b,(aY rc x).st.held⟩) .fail)) (cond (dk (aY rc x).st.data.n (ae rc x).st.data.n) (.out aB.ai.ret ⟨(aY rc x).st.data,(ae rc x).st.a,(ae rc x).st.m,(ae rc x).st.b,(aY rc x).st.held⟩) .fail))) .fail) .fail) (cond (decide ((ae rc x).st.a < (ae rc x).st.start)) (cond (decide ((ae rc x).st.start < (ae rc x).st.cn)) (cond (aF (ae rc x).st.data.n) (cond ((bf rc x).by aB.ai.ret) (cond (decide ((ae rc x).st.cn < (az ((ae rc x).st.n - (ae rc x).st.start)))) (cond (decide ((az ((ae rc x).st.n - (ae rc x).st.start)) < (ae rc x).st.b)) (cond (dk (bf rc x).st.data.n (ae rc x).st.data.n) (cond ((dR rc x).by aB.ai.ret) (cond (dk (dR rc x).st.data.n (ae rc x).st.data.n) (.out aB.ai.ret ⟨(dR rc x).st.data,(ae rc x).st.a,(ae rc x).st.m,(ae rc x).st.b,(dR rc x).st.held⟩) .fail) .fail) .fail) (cond (dk (bf rc x).st.data.n (ae rc x).st.data.n) (.out aB.ai.ret ⟨(bf rc x).st.data,(ae rc x).st.a,(ae rc x).st.m,(ae rc x).st.b,(bf rc x).st.held⟩) .fail)) (cond (dk (bf rc x).st.data.n (ae rc x).st.data.n) (.out aB.ai.ret ⟨(bf rc x).st.data,(ae rc x).st.a,(ae rc x).st.m,(ae rc x).st.b,(bf rc x).st.held⟩) .fail)) .fail) .fail) (cond (decide ((ae rc x).st.cn < (az ((ae rc x).st.n - (ae rc x).st.start)))) (cond (decide ((az ((ae rc x).st.n - (ae rc x).st.start)) < (ae rc x).st.b)) (cond (aF (ae rc x).st.data.n) (cond ((bq rc x).by aB.ai.ret) (cond (dk (bq rc x).st.data.n (ae rc x).st.data.n) (.out aB.ai.ret ⟨(bq rc x).st.data,(ae rc x).st.a,(ae rc x).st.m,(ae rc x).st.b,(bq rc x).st.held⟩) .fail) .fail) .fail) (cond (aF (ae rc x).st.data.n) (.out aB.ai.ret ⟨(ae rc x).st.data,(ae rc x).st.a,(ae rc x).st.m,(ae rc x).st.b,(ae rc x).st.eX⟩) .fail)) (cond (aF (ae rc x).st.data.n) (.out aB.ai.ret ⟨(ae rc x).st.data,(ae rc x).st.a,(ae rc x).st.m,(ae rc x).st.b,(ae rc x).st.eX⟩) .fail))) (cond (decide ((ae rc x).st.cn < (az ((ae rc x).st.n - (ae rc x).st.start)))) (cond (decide ((az ((ae rc x).st.n - (ae rc x).st.start)) < (ae rc x).st.b)) (cond (aF (ae rc x).st.data.n) (cond ((bq rc x).by aB.ai.ret) (cond (dk (bq rc x).st.data.n (ae rc x).st.data.n) (.out aB.ai.ret ⟨(bq rc x).st.data,(ae rc x).st.a,(ae rc x).st.m,(ae rc x).st.b,(bq rc x).st.held⟩) .fail) .fail) .fail) (cond (aF (ae rc x).st.data.n) (.out aB.ai.ret ⟨(ae rc x).st.data,(ae rc x).st.a,(ae rc x).st.m,(ae rc x).st.b,(ae rc x).st.eX⟩) .fail)) (cond (aF (ae rc x).st.data.n) (.out aB.ai.ret ⟨(ae rc x).st.data,(ae rc x).st.a,(ae rc x).st.m,(ae rc x).st.b,(ae rc x).st.eX⟩) .fail)))) (cond (decide ((ae rc x).st.a < (ae rc x).st.start)) (cond (decide ((ae rc x).st.start < (ae rc x).st.cn)) (cond (aF (ae rc x).st.data.n) (cond ((bf rc x).by aB.ai.ret) (cond (decide ((ae rc x).st.cn < (az ((ae rc x).st.n - (ae rc x).st.start)))) (cond (decide ((az ((ae rc x).st.n - (ae rc x).st.start)) < (ae rc x).st.b)) (cond (dk (bf rc x).st.data.n (ae rc x).st.data.n) (cond ((dR rc x).by aB.ai.ret) (cond (dk (dR rc x).st.data.n (ae rc x).st.data.n) (.out aB.ai.ret ⟨(dR rc x).st.data,(ae rc x).st.a,(ae rc x).st.m,(ae rc x).st.b,(dR rc x).st.held⟩) .fail) .fail) .fail) (cond (dk (bf rc x).st.data.n (ae rc x).st.data.n) (.out aB.ai.ret ⟨(bf rc x).st.data,(ae rc x).st.a,(ae rc x).st.m,(ae rc x).st.b,(bf rc x).st.held⟩) .fail)) (cond (dk (bf rc x).st.data.n (ae rc x).st.data.n) (.out aB.ai.ret ⟨(bf rc x).st.data,(ae rc x).st.a,(ae rc x).st.m,(ae rc x).st.b,(bf rc x).st.held⟩) .fail)) .fail) .fail) (cond (decide ((ae rc x).st.cn < (az ((ae rc x).st.n - (ae rc x).st.start)))) (cond (decide ((az ((ae rc x).st.n - (ae rc x).st.start)) < (ae rc x).st.b)) (cond (aF (ae rc x).st.data.n) (cond ((bq rc x).by aB.ai.ret) (cond (dk (bq rc x).st.data.n (ae rc x).st.data.n) (.out aB.ai.ret ⟨(bq rc x).st.data,(ae rc x).st.a,(ae rc x).st.m,(ae rc x).st.b,(bq rc x).st.held⟩) .fail) .fail) .fail) (cond (aF (ae rc x).st.data.n) (.out aB.ai.ret ⟨(ae rc x).st.data,(ae rc x).st.a,(ae rc x).st.m,(ae rc x).st.b,(ae rc x).st.eX⟩) .fail)) (cond (aF (ae rc x).st.data.n) (.out aB.ai.ret ⟨(ae rc x).st.data,(ae rc x).st.a,(ae rc x).st.m,(ae rc x).st.b,(ae rc x).st.eX⟩) .fail))) (cond (decide ((ae rc x).st.cn < (az ((ae rc x).st.n - (ae rc x).st.start)))) (cond (decide ((az ((ae rc x).st.n - (ae rc x).st.start)) < (ae rc x).st.b)) (cond (aF (ae rc x).st.data.n) (cond ((bq rc x).by aB.ai.ret) (cond (dk (bq rc x).st.data.n (ae rc x).st.data.n) (.out aB.ai.ret ⟨(bq rc x).st.data,(ae rc x).st.a,(ae rc x).st.m,(ae rc x).st.b,(bq rc x).st.held⟩) .fail) .fail) .fail) (cond (aF (ae rc x).st.data.n) (.out aB.ai.ret ⟨(ae rc x).st.data,(ae rc x).st.a,(ae rc x).st.m,(ae rc x).st.b,(ae rc x).st.eX⟩) .fail)) (cond (aF (ae rc x).st.data.n) (.out aB.ai.ret ⟨(ae rc x).st.data,(ae rc x).st.a,(ae rc x).st.m,(ae rc x).st.b,(ae rc x).st.eX⟩) .fail)))) .fail) .fail) (cond (aF x.data.n) (cond ((aa rc x).by (aB.ai.exit 8)) (cond (decide ((aa rc x).st.start < (aa rc x).st.m)) (cond (decide ((aa rc x).st.m < (az ((aa rc x).st.n - (aa rc x).st.start)))) (cond (aF (aa rc x).st.data.n) (cond ((aX rc x).by aB.ai.ret) (cond (decide ((aa rc x).st.a < (aa rc x).st.start)) (cond (decide ((aa rc x).st.start < (aa rc x).st.cn)) (cond (dk (aX rc x).st.data.n (aa rc x).st.data.n) (cond ((cF rc x).by aB.ai.ret) (cond (decide ((aa rc x).st.cn < (az ((aa rc x).st.n - (aa rc x).st.start)))) (cond (decide ((az ((aa rc x).st.n - (aa rc x).st.start)) < (aa rc x).st.b)) (cond (dk (cF rc x).st.data.n (aa rc x).st.data.n) (cond ((kb rc x).by aB.ai.ret) (cond (dk (kb rc x).st.data.n (aa rc x).st.data.n) (.out aB.ai.ret ⟨(kb rc x).st.data,(aa rc x).st.a,(aa rc x).st.m,(aa rc x).st.b,(kb rc x).st.held⟩) .fail) .fail) .fail) (cond (dk (cF rc x).st.data.n (aa rc x).st.data.n) (.out aB.ai.ret ⟨(cF rc x).st.data,(aa rc x).st.a,(aa rc x).st.m,(aa rc x).st.b,(cF rc x).st.held⟩) .fail)) (cond (dk (cF rc x).st.data.n (aa rc x).st.data.n) (.out aB.ai.ret ⟨(cF rc x).st.data,(aa rc x).st.a,(aa rc x).st.m,(aa rc x).st.b,(cF rc x).st.held⟩) .fail)) .fail) .fail) (cond (decide ((aa rc x).st.cn < (az ((aa rc x).st.n - (aa rc x).st.start)))) (cond (decide ((az ((aa rc x).st.n - (aa rc x).st.start)) < (aa rc x).st.b)) (cond (dk (aX rc x).st.data.n (aa rc x).st.data.n) (cond ((dS rc x).by aB.ai.ret) (cond (dk (dS rc x).st.data.n (aa rc x).st.data.n) (.out aB.ai.ret ⟨(dS rc x).st.data,(aa rc x).st.a,(aa rc x).st.m,(aa rc x).st.b,(dS rc x).st.held⟩) .fail) .fail) .fail) (cond (dk (aX rc x).st.data.n (aa rc x).st.data.n) (.out aB.ai.ret ⟨(aX rc x).st.data,(aa rc x).st.a,(aa rc x).st.m,(aa rc x).st.b,(aX rc x).st.held⟩) .fail)) (cond (dk (aX rc x).st.data.n (aa rc x).st.data.n) (.out aB.ai.ret ⟨(aX rc x).st.data,(aa rc x).st.a,(aa rc x).st.m,(aa rc x).st.b,(aX rc x).st.held⟩) .fail))) (cond (decide ((aa rc x).st.cn < (az ((aa rc x).st.n - (aa rc x).st.start)))) (cond (decide ((az ((aa rc x).st.n - (aa rc x).st.start)) < (aa rc x).st.b)) (cond (dk (aX rc x).st.data.n (aa rc x).st.data.n) (cond ((dS rc x).by aB.ai.ret) (cond (dk (dS rc x).st.data.n (aa rc x).st.data.n) (.out aB.ai.ret ⟨(dS rc x).st.data,(aa rc x).st.a,(aa rc x).st.m,(aa rc x).st.b,(dS rc x).st.held⟩) .fail) .fail) .fail) (cond (dk (aX rc x).st.data.n (aa rc x).st.data.n) (.out aB.ai.ret ⟨(aX rc x).st.data,(aa rc x).st.a,(aa rc x).st.m,(aa rc x).st.b,(aX rc x).st.held⟩) .fail)) (cond (dk (aX rc x).st.data.n (aa rc x).st.data.n) (.out aB.ai.ret ⟨(aX rc x).st.data,(aa rc x).st.a,(aa rc x).st.m,(aa rc x).st.b,(aX rc x).st.held⟩) .fail))) .fail) .fail) (cond (decide ((aa rc x).st.a < (aa rc x).st.start)) (cond (decide ((aa rc x).st.start < (aa rc x).st.cn)) (cond (aF (aa rc x).st.data.n) (cond ((bb rc x).by aB.ai.ret) (cond (decide ((aa rc x).st.cn < (az ((aa rc x).st.n - (aa rc x).st.start)))) (cond (decide ((az ((aa rc x).st.n - (aa rc x).st.start)) < (aa rc x).st.b)) (cond (dk (bb rc x).st.data.n (aa rc x).st.data.n) (cond ((dT rc x).by aB.ai.ret) (cond (dk (dT rc x).st.data.n (aa rc x).st.data.n) (.out aB.ai.ret ⟨(dT rc x).st.data,(aa rc x).st.a,(aa rc x).st.m,(aa rc x).st.b,(dT rc x).st.held⟩) .fail) .fail) .fail) (cond (dk (bb rc x).st.data.n (aa rc x).st.data.n) (.out aB.ai.ret ⟨(bb rc x).st.data,(aa rc x).st.a,(aa rc x).st.m,(aa rc x).st.b,(bb rc x).st.held⟩) .fail)) (cond (dk (bb rc x).st.data.n (aa rc x).st.data.n) (.out aB.ai.ret ⟨(bb rc x).st.data,(aa rc x).st.a,(aa rc x).st.m,(aa rc x).st.b,(bb rc x).st.held⟩) .fail)) .fail) .fail) (cond (decide ((aa rc x).st.cn < (az ((aa rc x).st.n - (aa rc x).st.start)))) (cond (decide ((az ((aa rc x).st.n - (aa rc x).st.start)) < (aa rc x).st.b)) (cond (aF (aa rc x).st.data.n) (cond ((bt rc x).by aB.ai.ret) (cond (dk (bt rc x).st.data.n (aa rc x).st.data.n) (.out aB.ai.ret ⟨(bt rc x).st.data,(aa rc x).st.a,(aa rc x).st.m,(aa rc x).st.b,(bt rc x).st.held⟩) .fail) .fail) .fail) (cond (aF (aa rc x).st.data.n) (.out aB.ai.ret ⟨(aa rc x).st.data,(aa rc x).st.a,(aa rc x).st.m,(aa rc x).st.b,(aa rc x).st.eX⟩) .fail)) (cond (aF (aa rc x).st.data.n) (.out aB.ai.ret ⟨(aa rc x).st.data,(aa rc x).st.a,(aa rc x).st.m,(aa rc x).st.b,(aa rc x).st.eX⟩) .fail))) (cond (decide ((aa rc x).st.cn < (az ((aa rc x).st.n - (aa rc x).st.start)))) (cond (decide ((az ((aa rc x).st.n - (aa rc x).st.start)) < (aa rc x).st.b)) (cond (aF (aa rc x).st.data.n) (cond ((bt rc x).by aB.ai.ret) (cond (dk (bt rc x).st.data.n (aa rc x).st.data.n) (.out aB.ai.ret ⟨(bt rc x).st.data,(aa rc x).st.a,(aa rc x).st.m,(aa rc x).st.b,(bt rc x).st.held⟩) .fail) .fail) .fail) (cond (aF (aa rc x).st.data.n) (.out aB.ai.ret ⟨(aa rc x).st.data,(aa rc x).st.a,(aa rc x).st.m,(aa rc x).st.b,(aa rc x).st.eX⟩) .fail)) (cond (aF (aa rc x).st.data.n) (.out aB.ai.ret ⟨(aa rc x).st.data,(aa rc x).st.a,(aa rc x).st.m,(aa rc x).st.b,(aa rc x).st.eX⟩) .fail)))) (cond (decide ((aa rc x).st.a < (aa rc x).st.start)) (cond (decide ((aa rc x).st.start < (aa rc x).st.cn)) (cond (aF (aa rc x).st.data.n) (cond ((bb rc x).by aB.ai.ret) (cond (decide ((aa rc x).st.cn < (az ((aa rc x).st.n - (aa rc x).st.start)))) (cond (decide ((az ((aa rc x).st.n - (aa rc x).st.start)) < (aa rc x).st.b)) (cond (dk (bb rc x).st.data.n (aa rc x).st.data.n) (cond ((dT rc x).by aB.ai.ret) (cond (dk (dT rc x).st.data.n (aa rc x).st.data.n) (.out aB.ai.ret ⟨(dT rc x).st.data,(aa rc x).st.a,(aa rc x).st.m,(aa rc x).st.b,(dT rc x).st.held⟩) .fail) .fail) .fail) (cond (dk (bb rc x).st.data.n (aa rc x).st.data.n) (.out aB.ai.ret ⟨(bb rc x).st.data,(aa rc x).st.a,(aa rc x).st.m,(aa rc x).st.b,(bb rc x).st.held⟩) .fail)) (cond (dk (bb rc x).st.data.n (aa rc x).st.data.n) (.out aB.ai.ret ⟨(bb rc x).st.data,(aa rc x).st.a,(aa rc x).st.m,(aa rc x).st.b,(bb rc x).st.held⟩) .fail)) .fail) .fail) (cond (decide ((aa rc x).st.cn < (az ((aa rc x).st.n - (aa rc x).st.start)))) (cond (decide ((az ((aa rc x).st.n - (aa rc x).st.start)) < (aa rc x).st.b)) (cond (aF (aa rc x).st.data.n) (cond ((bt rc x).by aB.ai.ret) (cond (dk (bt rc x).st.data.n (aa rc x).st.data.n) (.out aB.ai.ret ⟨(bt rc x).st.data,(aa rc x).st.a,(aa rc x).st.m,(aa rc x).st.b,(bt rc x).st.held⟩) .fail) .fail) .fail) (cond (aF (aa rc x).st.data.n) (.out aB.ai.ret ⟨(aa rc x).st.data,(aa rc x).st.a,(aa rc x).st.m,(aa rc x).st.b,(aa rc x).st.eX⟩) .fail)) (cond (aF (aa rc x).st.data.n) (.out aB.ai.ret ⟨(aa rc x).st.data,(aa rc x).st.a,(aa rc x).st.m,(aa rc x).st.b,(aa rc x).st.eX⟩) .fail))) (cond (decide ((aa rc x).st.cn < (az ((aa rc x).st.n - (aa rc x).st.start)))) (cond (decide ((az ((aa rc x).st.n - (aa rc x).st.start)) < (aa rc x).st.b)) (cond (aF (aa rc x).st.data.n) (cond ((bt rc x).by aB.ai.ret) (cond (dk (bt rc x).st.data.n (aa rc x).st.data.n) (.out aB.ai.ret ⟨(bt rc x).st.data,(aa rc x).st.a,(aa rc x).st.m,(aa rc x).st.b,(bt rc x).st.held⟩) .fail) .fail) .fail) (cond (aF (aa rc x).st.data.n) (.out aB.ai.ret ⟨(aa rc x).st.data,(aa rc x).st.a,(aa rc x).st.m,(aa rc x).st.b,(aa rc x).st.eX⟩) .fail)) (cond (aF (aa rc x).st.data.n) (.out aB.ai.ret ⟨(aa rc x).st.data,(aa rc x).st.a,(aa rc x).st.m,(aa rc x).st.b,(aa rc x).st.eX⟩) .fail)))) .fail) .fail))))
theorem DJ (rc:ah->aO ah) (x:ah):E7 rc (iA x) (iB x)=aO.enc iA iB (dU rc x):=by
 unfold dU aF
 try simp only [aO.bw]
 kernel_rfl
def gE:Nat->ah->aO ah:=fun n=>Nat.rec (fun _=>.fail) (fun _ ih x=>dU ih x) n
def jh (n:Nat):Fc:=⟨184,pN,fun vs rs=>bP iA iB (gE n (o9 vs rs)) [aB.ai.ret]⟩
theorem ic:∀ n,(jh n).Ok PG
 | 0=>amN (cfg:=iZ PG [(75,cA)] [eG,fB,gI,jv,mV] (fun q=>Nat.beq q 93) false false [eY]) ((ak.cons bS ak.nil):ak PG _).pc (TX funcs mixed (TY funcs mixed (fT.cons fF fT.nil)) (gm fg (gm gv (gm ju (gm mw (gm rB aK.nil)))))) rfl fun _ _=>rfl
 | n+1=>F9 funcs mixed (ak.cons bS ak.nil) (gm fg (gm gv (gm ju (gm mw (gm rB aK.nil))))) (L:=9) (n:=9) (step:=gE (n+1)) (ev:=iA) (er:=iB) (pa:=o9) rfl (fun wv wr=>⟨by kernel_rfl,by kernel_rfl⟩) (DJ (gE n)) (GK:=(fT.cons (ic n) (fT.cons fF fT.nil)))
structure cH where
 data:(Sl aJ)
 n:Int
 held:Show
instance:Inhabited cH:=⟨⟨default,default,default⟩⟩
def mP (x:cH):List KV:=[cT 93 du x.data,.int .i64 x.n,.fn (.func 74) [] [.ptr 0 0]]
def mQ (x:cH):List (List KV):=[hD x.held]
def wB (vs:List KV) (rs:List (List KV)):cH:=⟨dp eJ (v9 vs 0),intOf (v9 vs 1),hH (r9 rs 0)⟩
def xE:aL:=⟨[(0,⟨false,[.arr 93]⟩),(1,w9 i9),(2,⟨false,[.ref (.fn (.func 74) [] [.ptr 0 0])]⟩)],[(100002,[n9 111,n9 114],1)],[]⟩
structure eB where
 data:(Sl aJ)
 n:Int
 jV:Int
 a:Int
 b:Int
 QJ:Show
instance:Inhabited eB:=⟨by constructor<;>exact default⟩
def kz (x:eB):List KV:=[cT 93 du x.data,.int .i64 x.n,.fn (.func 74) [] [.ptr 0 0],.int .i64 x.jV,.int .i64 x.a,.int .i64 x.b]
def kA (x:eB):List (List KV):=[hD x.QJ]
def tZ (vs:List KV) (rs:List (List KV)):eB:=⟨dp eJ (v9 vs 0),intOf (v9 vs 1),intOf (v9 vs 3),intOf (v9 vs 4),intOf (v9 vs 5),hH (r9 rs 0)⟩
def u7:aL:=⟨[(0,⟨false,[.arr 93]⟩),(1,w9 i9),(2,⟨false,[.ref (.fn (.func 74) [] [.ptr 0 0])]⟩),(6,w9 i9),(7,w9 i9),(8,w9 i9)],[(100002,[n9 111,n9 114],1)],[]⟩
def D6:=sv PG (iZ PG [(75,cA)] [] (fun q=>Nat.beq q 93) false false [gu,(jh Sg)]) 9 9 133 28 (nz PG 133 28) u7
def gW (x:eB):=ff ⟨x.data,x.a,x.b,x.QJ⟩
def dH (x:eB):aO eB:=(cond (decide (x.b<=x.n)) (cond (aF x.data.n) (cond ((gW x).by aB.ai.ret) (cond (dk (gW x).st.data.n x.data.n) (.next ⟨(gW x).st.data,x.n,x.jV,x.b,(az (x.b+x.jV)),(gW x).st.held⟩) .fail) .fail) .fail) (cond (aF x.data.n) (.out (aB.ai.exit 0) x) .fail))
theorem CM (x:eB):D6 (kz x) (kA x)=aO.enc kz kA (dH x):=by
 unfold dH aF
 try simp only [aO.bw]
 kernel_rfl
def lu:Lp:=⟨133,28,u7,fun vs rs=>bP kz kA (goN dH (tZ vs rs)) [aB.ai.exit 0],true⟩
theorem oL:lu.Ok PG:=mH funcs mixed (ak.cons bS ak.nil) aK.nil (L:=9) (n:=9) (step:=dH) (ev:=kz) (er:=kA) (pa:=tZ) rfl (fun wv wr=>⟨by kernel_rfl,by kernel_rfl⟩) CM (GK:=(fT.cons im (fT.cons (ic Sg) fT.nil)))
structure dD where
 data:(Sl aJ)
 n:Int
 jV:Int
 QJ:Show
instance:Inhabited dD:=⟨⟨default,default,default,default⟩⟩
def kC (x:dD):List KV:=[cT 93 du x.data,.int .i64 x.n,.fn (.func 74) [] [.ptr 0 0],.int .i64 x.jV]
def kD (x:dD):List (List KV):=[hD x.QJ]
def uc (vs:List KV) (rs:List (List KV)):dD:=⟨dp eJ (v9 vs 0),intOf (v9 vs 1),intOf (v9 vs 3),hH (r9 rs 0)⟩
def vc:aL:=⟨[(0,⟨false,[.arr 93]⟩),(1,w9 i9),(2,⟨false,[.ref (.fn (.func 74) [] [.ptr 0 0])]⟩),(6,w9 i9)],[(100002,[n9 111,n9 114],1)],[]⟩
structure dV where
 data:(Sl aJ)
 n:Int
 jV:Int
 a:Int
 b:Int
 QJ:Show
instance:Inhabited dV:=⟨by constructor<;>exact default⟩
def jI (x:dV):List KV:=[cT 93 du x.data,.int .i64 x.n,.fn (.func 74) [] [.ptr 0 0],.int .i64 x.jV,.int .i64 x.a,.int .i64 x.b]
def jJ (x:dV):List (List KV):=[hD x.QJ]
def sH (vs:List KV) (rs:List (List KV)):dV:=⟨dp eJ (v9 vs 0),intOf (v9 vs 1),intOf (v9 vs 3),intOf (v9 vs 4),intOf (v9 vs 5),hH (r9 rs 0)⟩
def tH:aL:=⟨[(0,⟨false,[.arr 93]⟩),(1,w9 i9),(2,⟨false,[.ref (.fn (.func 74) [] [.ptr 0 0])]⟩),(6,w9 i9),(7,w9 i9),(8,w9 i9)],[(100002,[n9 111,n9 114],1)],[]⟩
def CN:=sv PG (iZ PG [(75,cA)] [lu] (fun q=>Nat.beq q 93) false false [gu,(jh Sg)]) 9 9 133 3988 (nz PG 133 3988) tH
def fh (x:dV):=gE 64 ⟨x.data,x.a,(az (x.a+x.jV)),x.b,x.QJ⟩
def dh (x:dV):aO dV:=(cond (decide (x.b<=x.n)) (cond (aF x.data.n) (cond ((fh x).by aB.ai.ret) (cond (dk (fh x).st.data.n x.data.n) (.next ⟨(fh x).st.data,x.n,x.jV,x.b,(az (x.b+(az (2 * x.jV)))),(fh x).st.held⟩) .fail) .fail) .fail) (cond (aF x.data.n) (.out (aB.ai.exit 4) x) .fail))
theorem AE (x:dV):CN (jI x) (jJ x)=aO.enc jI jJ (dh x):=by
 unfold dh aF
 try simp only [aO.bw]
 kernel_rfl
def n6:Lp:=⟨133,3988,tH,fun vs rs=>bP jI jJ (goN dh (sH vs rs)) [aB.ai.exit 4],true⟩
theorem sI:n6.Ok PG:=mH funcs mixed (ak.cons bS ak.nil) (gm oL aK.nil) (L:=9) (n:=9) (step:=dh) (ev:=jI) (er:=jJ) (pa:=sH) rfl (fun wv wr=>⟨by kernel_rfl,by kernel_rfl⟩) AE (GK:=(fT.cons im (fT.cons (ic Sg) fT.nil)))
def D7:=sv PG (iZ PG [(75,cA)] [lu,n6] (fun q=>Nat.beq q 93) false false [gu,(jh Sg)]) 9 9 133 62 (nz PG 133 62) vc
def aU (x:dD):=goN dh ⟨x.data,x.n,x.jV,0,(az (2 * x.jV)),x.QJ⟩
def fR (x:dD):=gE 64 ⟨(aU x).st.data,(aU x).st.a,(az ((aU x).st.a+(aU x).st.jV)),(aU x).st.n,(aU x).st.QJ⟩
def dI (x:dD):aO dD:=(cond (decide (x.jV < x.n)) (cond (aF x.data.n) (cond ((aU x).by (aB.ai.exit 4)) (cond (decide ((az ((aU x).st.a+(aU x).st.jV)) < (aU x).st.n)) (cond (aF (aU x).st.data.n) (cond ((fR x).by aB.ai.ret) (cond (dk (fR x).st.data.n (aU x).st.data.n) (.next ⟨(fR x).st.data,(aU x).st.n,(az ((aU x).st.jV * 2)),(fR x).st.held⟩) .fail) .fail) .fail) (cond (aF (aU x).st.data.n) (.next ⟨(aU x).st.data,(aU x).st.n,(az ((aU x).st.jV * 2)),(aU x).st.QJ⟩) .fail)) .fail) .fail) (cond (aF x.data.n) (.out (aB.ai.exit 2) x) .fail))
theorem CO (x:dD):D7 (kC x) (kD x)=aO.enc kC kD (dI x):=by
 unfold dI aF
 try simp only [aO.bw]
 kernel_rfl
def vd:Lp:=⟨133,62,vc,fun vs rs=>bP kC kD (goN dI (uc vs rs)) [aB.ai.exit 2],true⟩
theorem D8:vd.Ok PG:=mH funcs mixed (ak.cons bS ak.nil) (gm oL (gm sI aK.nil)) (L:=9) (n:=9) (step:=dI) (ev:=kC) (er:=kD) (pa:=uc) rfl (fun wv wr=>⟨by kernel_rfl,by kernel_rfl⟩) CO (GK:=(fT.cons im (fT.cons (ic Sg) fT.nil)))
def Hj:=LX PG (iZ PG [(75,cA)] [lu,n6,vd] (fun q=>Nat.beq q 93) false false [gu,(jh Sg)]) 9 9 133 xE
def di (x:cH):=goN dH ⟨x.data,x.n,20,0,20,x.held⟩
def gF (x:cH):=ff ⟨(di x).st.data,(di x).st.a,(di x).st.n,(di x).st.QJ⟩
def fG (x:cH):=goN dI ⟨(gF x).st.data,(di x).st.n,(di x).st.jV,(gF x).st.held⟩
def lv (x:cH):aO cH:=(cond (aF x.data.n) (cond ((di x).by (aB.ai.exit 0)) (cond (aF (di x).st.data.n) (cond ((gF x).by aB.ai.ret) (cond (dk (gF x).st.data.n (di x).st.data.n) (cond ((fG x).by (aB.ai.exit 2)) (cond (aF (fG x).st.data.n) (.out aB.ai.ret ⟨(fG x).st.data,(fG x).st.n,(fG x).st.QJ⟩) .fail) .fail) .fail) .fail) .fail) .fail) .fail)
theorem E8 (x:cH):Hj (mP x) (mQ x)=aO.enc mP mQ (lv x):=by
 unfold lv aF
 try simp only [aO.bw]
 kernel_rfl
def kc (x:cH):aO cH:=lv x
def nA:Fc:=⟨133,xE,fun vs rs=>bP mP mQ (kc (wB vs rs)) [aB.ai.ret]⟩
theorem pO:nA.Ok PG:=F9 funcs mixed (ak.cons bS ak.nil) (gm oL (gm sI (gm D8 aK.nil))) (L:=9) (n:=9) (step:=kc) (ev:=mP) (er:=mQ) (pa:=wB) rfl (fun wv wr=>⟨by kernel_rfl,by kernel_rfl⟩) E8 (GK:=(fT.cons im (fT.cons (ic Sg) fT.nil)))
structure dJ where
 cI:Bool
 l:(Sl aJ)
 e:Int
 last:Int
 t18:(Sl Int)
 t19:Int
 t20:Int
 s:Show
instance:Inhabited dJ:=⟨by constructor<;>exact default⟩
def jw (x:dJ):List KV:=[.bool x.cI,cT 93 du x.l,.int .i64 x.e,.int .i64 x.last,cT 3 (kI .i64) x.t18,.int .i64 x.t19,.int .i64 x.t20]
def jx (x:dJ):List (List KV):=[hD x.s]
def si (vs:List KV) (rs:List (List KV)):dJ:=⟨iH (v9 vs 0),dp eJ (v9 vs 1),intOf (v9 vs 2),intOf (v9 vs 3),dp intOf (v9 vs 4),intOf (v9 vs 5),intOf (v9 vs 6),hH (r9 rs 0)⟩
def sJ:aL:=⟨[(2,w9 b9),(6,⟨false,[.arr 93]⟩),(7,w9 i9),(9,w9 i9),(18,w9 (n9 3)),(19,w9 i9),(20,w9 i9)],[(3,[n9 111,n9 114],1)],[(3,0,0)]⟩
structure dN where
 cI:Bool
 l:(Sl aJ)
 e:Int
 last:Int
 n:Int
 t18:(Sl Int)
 t19:Int
 t20:Int
 t41:Int
 t42:Int
 s:Show
instance:Inhabited dN:=⟨by constructor<;>exact default⟩
def hZ (x:dN):List KV:=[.bool x.cI,cT 93 du x.l,.int .i64 x.e,.int .i64 x.last,.int .i64 x.n,cT 3 (kI .i64) x.t18,.int .i64 x.t19,.int .i64 x.t20,.int .i64 x.t41,.int .i64 x.t42]
def ia (x:dN):List (List KV):=[hD x.s]
def qi (vs:List KV) (rs:List (List KV)):dN:=⟨iH (v9 vs 0),dp eJ (v9 vs 1),intOf (v9 vs 2),intOf (v9 vs 3),intOf (v9 vs 4),dp intOf (v9 vs 5),intOf (v9 vs 6),intOf (v9 vs 7),intOf (v9 vs 8),intOf (v9 vs 9),hH (r9 rs 0)⟩
def qN:aL:=⟨[(2,w9 b9),(6,⟨false,[.arr 93]⟩),(7,w9 i9),(9,w9 i9),(11,w9 i9),(18,w9 (n9 3)),(19,w9 i9),(20,w9 i9),(41,w9 i9),(42,w9 i9)],[(3,[n9 111,n9 114],1)],[(3,0,0)]⟩
def zz:=AX PG (iZ PG [(75,cA),(19,kK)] [] (fun q=>Nat.beq q 93) false false [nA]) 9 9 70 125342 (nz PG 70 125342) qN
def cE (x:dN):aO dN:=(cond (decide (x.t42 < x.t41)) (cond (bj x.n x.s.items.n) (cond ((x.s.items.get (Int.toNat x.n)).look.cI==x.cI) (cond ((Nat.ble ((x.l.n+1) * 16) 140737488355328)&&(Nat.ble (x.l.n+1) 17592186044416)) (cond (aF (x.l.n+1)) (.next ⟨x.cI,(x.l.push ⟨x.n,x.t42⟩),x.e,x.last,x.n,x.t18,x.t19,x.t20,x.t41,(az (x.t42+1)),x.s⟩) .fail) .fail) (cond (aF x.l.n) (.next ⟨x.cI,x.l,x.e,x.last,x.n,x.t18,x.t19,x.t20,x.t41,(az (x.t42+1)),x.s⟩) .fail)) .fail) (cond (aF x.l.n) (.out (aB.ai.exit 2) x) .fail))
theorem xN (x:dN):zz (hZ x) (ia x)=aO.enc hZ ia (cE x):=by
 unfold cE bj aF
 try simp only [aO.bw,JJ]
 kernel_rfl
def lE:Lp:=⟨70,125342,qN,fun vs rs=>bP hZ ia (goN cE (qi vs rs)) [aB.ai.exit 2],false⟩
theorem qj:lE.Ok PG:=Si funcs mixed (ak.cons bS (ak.cons iJ ak.nil)) aK.nil (L:=9) (n:=9) (step:=cE) (ev:=hZ) (er:=ia) (pa:=qi) rfl (fun wv wr=>⟨by kernel_rfl,by kernel_rfl⟩) xN (GK:=(fT.cons pO fT.nil))
def B8:=AX PG (iZ PG [(75,cA),(19,kK)] [lE] (fun q=>Nat.beq q 93) false false [nA]) 9 9 70 122 (nz PG 70 122) sJ
def bH (x:dJ):=goN cE ⟨x.cI,x.l,x.e,(x.t18.get (Int.toNat x.t20)),(x.t18.get (Int.toNat x.t20)),x.t18,x.t19,x.t20,((x.s.items.get (Int.toNat (x.t18.get (Int.toNat x.t20)))).aP.n:Int),0,x.s⟩
def c7 (x:dJ):aO dJ:=(cond (decide (x.t20 < x.t19)) (cond (bj x.t20 x.t18.n) (cond (decide ((x.t18.get (Int.toNat x.t20))<=x.last)) (.out aB.ai.ret ⟨x.cI,⟨0,(fun i=>⟨0,0⟩)⟩,2,x.last,x.t18,x.t19,x.t20,x.s⟩) (cond (decide ((x.t18.get (Int.toNat x.t20)) >= (x.s.items.n:Int))) (.out aB.ai.ret ⟨x.cI,⟨0,(fun i=>⟨0,0⟩)⟩,2,x.last,x.t18,x.t19,x.t20,x.s⟩) (cond (bj (x.t18.get (Int.toNat x.t20)) x.s.items.n) (cond (aF x.l.n) (cond ((bH x).by (aB.ai.exit 2)) (cond (aF (bH x).st.l.n) (.next ⟨(bH x).st.cI,(bH x).st.l,(bH x).st.e,(bH x).st.last,(bH x).st.t18,(bH x).st.t19,(az ((bH x).st.t20+1)),(bH x).st.s⟩) .fail) .fail) .fail) .fail))) .fail) (cond (aF x.l.n) (.out (aB.ai.exit 0) x) .fail))
theorem Ab (x:dJ):B8 (jw x) (jx x)=aO.enc jw jx (c7 x):=by
 unfold c7 bj aF
 try simp only [aO.bw]
 kernel_rfl
def sK:Lp:=⟨70,122,sJ,fun vs rs=>bP jw jx (goN c7 (si vs rs)) [aB.ai.exit 0,aB.ai.ret],false⟩
theorem B9:sK.Ok PG:=Si funcs mixed (ak.cons bS (ak.cons iJ ak.nil)) (gm qj aK.nil) (L:=9) (n:=9) (step:=c7) (ev:=jw) (er:=jx) (pa:=si) rfl (fun wv wr=>⟨by kernel_rfl,by kernel_rfl⟩) Ab (GK:=(fT.cons pO fT.nil))
def N6:List (Nat×(List KV->KR KV)):=[(75,cA),(19,kK)]
def N7:List Lp:=[lE,sK]
theorem Xk:ak PG N6:=(ak.cons bS (ak.cons iJ ak.nil))
theorem Xl:aK PG N7:=(gm qj (gm B9 aK.nil))
def xF (s:Show) (items:(Sl Int)):=eU s
def iY (s:Show) (items:(Sl Int)):=goN c7 ⟨true,⟨0,(fun i=>⟨0,0⟩)⟩,0,(-(1:Int)),items,(items.n:Int),0,s⟩
def lR (s:Show) (items:(Sl Int)):=kc ⟨(iY s items).st.l,((iY s items).st.l.n:Int),s⟩
def qE (s:Show) (items:(Sl Int)):Option ((Sl aJ)×Int):=(cond (xF s items).isSome (cond (((xF s items).getD default) != 0) (some (⟨0,(fun i=>⟨0,0⟩)⟩,((xF s items).getD default))) (cond ((iY s items).by (aB.ai.exit 0)) (cond (aF (iY s items).st.l.n) (cond ((lR s items).by aB.ai.ret) (some (⟨(iY s items).st.l.n,(fun i=>((lR s items).st.data.get (0+i)))⟩,0)) none) none) (cond ((iY s items).by aB.ai.ret) (cond (aF (iY s items).st.l.n) (cond ((lR s items).by aB.ai.ret) (some (⟨(iY s items).st.l.n,(fun i=>((lR s items).st.data.get (0+i)))⟩,(iY s items).st.e)) none) none) none))) none)
theorem ZH (s:Show) (items:(Sl Int)):GC PG (iZ PG N6 N7 (fun q=>Nat.beq q 93) false false [nA]) 9 9 29 [qy s,(cT 3 (kI .i64)) items] = (qE s items).map (fun (r:(Sl aJ)×Int)=>KV.iv [(cT 93 du) r.1,(kI .i64) r.2]):=by
 unfold qE aF
 try simp only [aV]
 kernel_rfl
def Hk:List KV->KR KV:=bk PG 29 (bn (fun (r:(Sl aJ)×Int)=>KV.iv [(cT 93 du) r.1,(kI .i64) r.2]) fun vs=>qE (hJ (v9 vs 0)) ((dp intOf) (v9 vs 1)))
theorem Xm (w:Nat->KV):ye PG [25,66] w 0 = [qy (hJ (g0 25 (w 0))),(cT 3 (kI .i64)) ((dp intOf) (g0 66 (w 1)))]:=by kernel_rfl
theorem JU:bg PG 29 Hk:=acx funcs mixed Xk Xl (L:=9) (n:=9) (GK:=(fT.cons pO fT.nil)) fun w=>by
 have e:fy PG 29 = [25,66]:=by kernel_rfl
 rw [e,Xm]
 exact (ZH (hJ (g0 25 (w 0))) ((dp intOf) (g0 66 (w 1)))).trans (by kernel_rfl)
structure lT where
 cI:Bool
 l:(Sl aJ)
 e:Int
 last:Int
 t18:(Sl Int)
 t19:Int
 t20:Int
 s:Show
instance:Inhabited lT:=⟨by constructor<;>exact default⟩
def Ca (x:lT):List KV:=[.bool x.cI,cT 93 du x.l,.int .i64 x.e,.int .i64 x.last,cT 3 (kI .i64) x.t18,.int .i64 x.t19,.int .i64 x.t20]
def Cb (x:lT):List (List KV):=[hD x.s]
def JV (vs:List KV) (rs:List (List KV)):lT:=⟨iH (v9 vs 0),dp eJ (v9 vs 1),intOf (v9 vs 2),intOf (v9 vs 3),dp intOf (v9 vs 4),intOf (v9 vs 5),intOf (v9 vs 6),hH (r9 rs 0)⟩
def Ld:aL:=⟨[(2,w9 b9),(6,⟨false,[.bc 93]⟩),(7,w9 i9),(9,w9 i9),(18,w9 (n9 3)),(19,w9 i9),(20,w9 i9)],[(3,[n9 111,n9 114],1)],[(3,0,0)]⟩
structure kS where
 cI:Bool
 l:(Sl aJ)
 e:Int
 last:Int
 n:Int
 t18:(Sl Int)
 t19:Int
 t20:Int
 t41:Int
 t42:Int
 s:Show
instance:Inhabited kS:=⟨by constructor<;>exact default⟩
def xe (x:kS):List KV:=[.bool x.cI,cT 93 du x.l,.int .i64 x.e,.int .i64 x.last,.int .i64 x.n,cT 3 (kI .i64) x.t18,.int .i64 x.t19,.int .i64 x.t20,.int .i64 x.t41,.int .i64 x.t42]
def xf (x:kS):List (List KV):=[hD x.s]
def Eh (vs:List KV) (rs:List (List KV)):kS:=⟨iH (v9 vs 0),dp eJ (v9 vs 1),intOf (v9 vs 2),intOf (v9 vs 3),intOf (v9 vs 4),dp intOf (v9 vs 5),intOf (v9 vs 6),intOf (v9 vs 7),intOf (v9 vs 8),intOf (v9 vs 9),hH (r9 rs 0)⟩
def Gn:aL:=⟨[(2,w9 b9),(6,⟨false,[.bc 93]⟩),(7,w9 i9),(9,w9 i9),(11,w9 i9),(18,w9 (n9 3)),(19,w9 i9),(20,w9 i9),(41,w9 i9),(42,w9 i9)],[(3,[n9 111,n9 114],1)],[(3,0,0)]⟩
def Rc:=sB [(19,kK)] [] 70 125342 Gn
def iC (x:kS):aO kS:=(cond (decide (x.t42 < x.t41)) (cond (bj x.n x.s.items.n) (cond ((x.s.items.get (Int.toNat x.n)).look.cI==x.cI) (cond (mI 16 x.l.n 1) (cond (aF (x.l.n+1)) (.next ⟨x.cI,(x.l.push ⟨x.n,x.t42⟩),x.e,x.last,x.n,x.t18,x.t19,x.t20,x.t41,(az (x.t42+1)),x.s⟩) .fail) .fail) (cond (aF x.l.n) (.next ⟨x.cI,x.l,x.e,x.last,x.n,x.t18,x.t19,x.t20,x.t41,(az (x.t42+1)),x.s⟩) .fail)) .fail) (cond (aF x.l.n) (.out (aB.ai.exit 2) x) .fail))
theorem N8 (x:kS):Rc (xe x) (xf x)=aO.enc xe xf (iC x):=by
 unfold iC bj mI aF
 try simp only [aO.bw,JJ]
 kernel_rfl
def yw:Lp:=⟨70,125342,Gn,fun vs rs=>bP xe xf (goN iC (Eh vs rs)) [aB.ai.exit 2],false⟩
theorem Ei:yw.Ok PG:=rF (ak.cons iJ ak.nil) aK.nil (pa:=Eh) N8
def Xn:=sB [(19,kK)] [yw] 70 122 Ld
def fp (x:lT):=goN iC ⟨x.cI,x.l,x.e,(x.t18.get (Int.toNat x.t20)),(x.t18.get (Int.toNat x.t20)),x.t18,x.t19,x.t20,((x.s.items.get (Int.toNat (x.t18.get (Int.toNat x.t20)))).aP.n:Int),0,x.s⟩
def kT (x:lT):aO lT:=(cond (decide (x.t20 < x.t19)) (cond (bj x.t20 x.t18.n) (cond (decide ((x.t18.get (Int.toNat x.t20))<=x.last)) (.out aB.ai.ret ⟨x.cI,⟨0,(fun i=>⟨0,0⟩)⟩,2,x.last,x.t18,x.t19,x.t20,x.s⟩) (cond (decide ((x.t18.get (Int.toNat x.t20)) >= (x.s.items.n:Int))) (.out aB.ai.ret ⟨x.cI,⟨0,(fun i=>⟨0,0⟩)⟩,2,x.last,x.t18,x.t19,x.t20,x.s⟩) (cond (bj (x.t18.get (Int.toNat x.t20)) x.s.items.n) (cond (aF x.l.n) (cond ((fp x).by (aB.ai.exit 2)) (cond (aF (fp x).st.l.n) (.next ⟨(fp x).st.cI,(fp x).st.l,(fp x).st.e,(fp x).st.last,(fp x).st.t18,(fp x).st.t19,(az ((fp x).st.t20+1)),(fp x).st.s⟩) .fail) .fail) .fail) .fail))) .fail) (cond (aF x.l.n) (.out (aB.ai.exit 0) x) .fail))
theorem S9 (x:lT):Xn (Ca x) (Cb x)=aO.enc Ca Cb (kT x):=by
 unfold kT bj aF
 try simp only [aO.bw]
 kernel_rfl
def Le:Lp:=⟨70,122,Ld,fun vs rs=>bP Ca Cb (goN kT (JV vs rs)) [aB.ai.exit 0,aB.ai.ret],false⟩
theorem Xo:Le.Ok PG:=rF (ak.cons iJ ak.nil) (gm Ei aK.nil) (pa:=JV) S9
def Bj (s:Show) (items:(Sl Int)) (cI:Bool):=eU s
def s8 (s:Show) (items:(Sl Int)) (cI:Bool):=goN kT ⟨cI,⟨0,(fun i=>⟨0,0⟩)⟩,0,(-(1:Int)),items,(items.n:Int),0,s⟩
def wV (s:Show) (items:(Sl Int)) (cI:Bool):Option ((Sl aJ)×Int):=(cond (Bj s items cI).isSome (cond (((Bj s items cI).getD default) != 0) (some (⟨0,(fun i=>⟨0,0⟩)⟩,((Bj s items cI).getD default))) (cond ((s8 s items cI).by (aB.ai.exit 0)) (some ((s8 s items cI).st.l,0)) (cond ((s8 s items cI).by aB.ai.ret) (some ((s8 s items cI).st.l,(s8 s items cI).st.e)) none))) none)
theorem adu (s:Show) (items:(Sl Int)) (cI:Bool):gn [(19,kK)] [yw,Le] 70 [qy s,(cT 3 (kI .i64)) items,kB cI] = (wV s items cI).map (fun (r:(Sl aJ)×Int)=>KV.iv [(cT 93 du) r.1,(kI .i64) r.2]):=by
 unfold wV
 try simp only [aV]
 kernel_rfl
def VJ:List KV->KR KV:=bk PG 70 (bn (fun (r:(Sl aJ)×Int)=>KV.iv [(cT 93 du) r.1,(kI .i64) r.2]) fun vs=>wV (hJ (v9 vs 0)) ((dp intOf) (v9 vs 1)) (iH (v9 vs 2)))
theorem abk:bg PG 70 VJ:=bQ (ak.cons iJ ak.nil) (gm Ei (gm Xo aK.nil)) fun w=>adu (hJ (g0 25 (w 0))) ((dp intOf) (g0 66 (w 1))) (iH (g0 4 (w 2)))
def zA (s:Show) (items:(Sl Int)):=wV s items false
def sj (s:Show) (items:(Sl Int)):Option ((Sl aJ)×Int):=(cond (zA s items).isSome (some (((zA s items).getD default).fst,((zA s items).getD default).snd)) none)
theorem abl (s:Show) (items:(Sl Int)):gn [(70,VJ)] [] 27 [qy s,(cT 3 (kI .i64)) items] = (sj s items).map (fun (r:(Sl aJ)×Int)=>KV.iv [(cT 93 du) r.1,(kI .i64) r.2]):=by
 unfold sj
 try simp only [aV]
 kernel_rfl
def JW:List KV->KR KV:=bk PG 27 (bn (fun (r:(Sl aJ)×Int)=>KV.iv [(cT 93 du) r.1,(kI .i64) r.2]) fun vs=>sj (hJ (v9 vs 0)) ((dp intOf) (v9 vs 1)))
theorem Lf:bg PG 27 JW:=bQ (ak.cons abk ak.nil) aK.nil fun w=>abl (hJ (g0 25 (w 0))) ((dp intOf) (g0 66 (w 1)))
def zB (a:Int) (b:Int) (part:Int) (whole:Int):=oy (az ((az (b - a)) * part)) whole
def n7 (a:Int) (b:Int) (part:Int) (whole:Int):Option (Int):=(cond (zB a b part whole).isSome (some ((az (a+((zB a b part whole).getD default))))) none)
theorem abm (a:Int) (b:Int) (part:Int) (whole:Int):gn [(172,Cv)] [] 205 [(kI .i64) a,(kI .i64) b,(kI .i64) part,(kI .i64) whole] = (n7 a b part whole).map (kI .i64):=by
 unfold n7
 try simp only [aV]
 kernel_rfl
def Ta:List KV->KR KV:=bk PG 205 (bn (kI .i64) fun vs=>n7 (intOf (v9 vs 0)) (intOf (v9 vs 1)) (intOf (v9 vs 2)) (intOf (v9 vs 3)))
theorem ZI:bg PG 205 Ta:=bQ (ak.cons yn ak.nil) aK.nil fun w=>abm (intOf (g0 3 (w 0))) (intOf (g0 3 (w 1))) (intOf (g0 3 (w 2))) (intOf (g0 3 (w 3)))
def Ig (au:Int) (a:bK) (b:bK):=n7 a.p.x b.p.x (az (au - a.p.z)) (az (b.p.z - a.p.z))
def Ih (au:Int) (a:bK) (b:bK):=n7 a.p.y b.p.y (az (au - a.p.z)) (az (b.p.z - a.p.z))
def Ii (au:Int) (a:bK) (b:bK):=n7 a.u b.u (az (au - a.p.z)) (az (b.p.z - a.p.z))
def Ij (au:Int) (a:bK) (b:bK):=n7 a.v b.v (az (au - a.p.z)) (az (b.p.z - a.p.z))
def n8 (au:Int) (a:bK) (b:bK):Option (bK):=(cond (Ig au a b).isSome (cond (Ih au a b).isSome (cond (Ii au a b).isSome (cond (Ij au a b).isSome (some (⟨⟨((Ig au a b).getD default),((Ih au a b).getD default),au⟩,((Ii au a b).getD default),((Ij au a b).getD default)⟩)) none) none) none) none)
theorem ajg (au:Int) (a:bK) (b:bK):gn [(205,Ta)] [] 165 [(kI .i64) au,nV a,nV b] = (n8 au a b).map nV:=by
 unfold n8
 try simp only [aV]
 kernel_rfl
def PT:List KV->KR KV:=bk PG 165 (bn nV fun vs=>n8 (intOf (v9 vs 0)) (jE (v9 vs 1)) (jE (v9 vs 2)))
theorem MF:bg PG 165 PT:=bQ (ak.cons ZI ak.nil) aK.nil fun w=>ajg (intOf (g0 3 (w 0))) (jE (g0 177 (w 1))) (jE (g0 177 (w 2)))
structure cv where
 au:Int
 t4:(Sl bo)
 l:(Sl bK)
 i:Int
 t:bo
instance:Inhabited cv:=⟨⟨default,default,default,default,default⟩⟩
def Hl (x:cv):List KV:=[.int .i64 x.au,cT 178 kH x.t4,cT 177 nV x.l,.int .i64 x.i]
def Hm (x:cv):List (List KV):=[WK x.t]
def QK (vs:List KV) (rs:List (List KV)):cv:=⟨intOf (v9 vs 0),dp mT (v9 vs 1),dp jE (v9 vs 2),intOf (v9 vs 3),WL (r9 rs 0)⟩
def Tb:aL:=⟨[(0,w9 i9),(4,w9 (n9 178)),(5,⟨false,[.bc 177]⟩),(6,w9 i9)],[(3,[i9,i9,i9,i9,i9,i9,i9,i9,i9,i9,i9,i9,i9,i9,i9],5)],[(3,0,0)]⟩
def adv:=sB [(165,PT)] [] 107 58 Tb
def N9 (x:cv):=n8 x.au x.t.e0 x.t.e0
def E9 (x:cv):=n8 x.au x.t.e0 x.t.e1
def Fa (x:cv):=n8 x.au x.t.e1 x.t.e0
def Fb (x:cv):=n8 x.au x.t.e0 x.t.e2
def Fe (x:cv):=n8 x.au x.t.e2 x.t.e0
def Oa (x:cv):=n8 x.au x.t.e1 x.t.e1
def Ff (x:cv):=n8 x.au x.t.e1 x.t.e2
def Fg (x:cv):=n8 x.au x.t.e2 x.t.e1
def Ob (x:cv):=n8 x.au x.t.e2 x.t.e2
def lF (x:cv) (aA bA:bK) (pA qA:(Option bK)):aO cv:=(cond (aF ((x.l.n+1)+1)) (.next ⟨x.au,x.t4,((x.l.push aA).push (pA.getD default)),(az (x.i+1)),x.t⟩) .fail)
def lG (x:cv) (aA bA:bK) (pA qA:(Option bK)):aO cv:=(cond (aF (x.l.n+1)) (.next ⟨x.au,x.t4,(x.l.push aA),(az (x.i+1)),x.t⟩) .fail)
def lH (x:cv) (aA bA:bK) (pA qA:(Option bK)):aO cv:=(cond (decide (aA.p.z >= x.au)) (cond (decide (bA.p.z < x.au)) (cond qA.isSome (cond (mI 40 (x.l.n+1) 1) (cond (aF ((x.l.n+1)+1)) (.next ⟨x.au,x.t4,((x.l.push aA).push (qA.getD default)),(az (x.i+1)),x.t⟩) .fail) .fail) .fail)
  (lG x aA bA pA qA))
  (lG x aA bA pA qA))
def lI (x:cv) (aA bA:bK) (pA qA:(Option bK)):aO cv:=(cond (aF (x.l.n+1)) (.next ⟨x.au,x.t4,(x.l.push (pA.getD default)),(az (x.i+1)),x.t⟩) .fail)
def lJ (x:cv) (aA bA:bK) (pA qA:(Option bK)):aO cv:=(cond (decide (aA.p.z >= x.au)) (cond (decide (bA.p.z < x.au)) (cond qA.isSome (cond (mI 40 x.l.n 1) (cond (aF (x.l.n+1)) (.next ⟨x.au,x.t4,(x.l.push (qA.getD default)),(az (x.i+1)),x.t⟩) .fail) .fail) .fail) (cond (aF x.l.n) (.next ⟨x.au,x.t4,x.l,(az (x.i+1)),x.t⟩) .fail)) (cond (aF x.l.n) (.next ⟨x.au,x.t4,x.l,(az (x.i+1)),x.t⟩) .fail))
def fS (x:cv) (aA bA:bK) (pA qA:(Option bK)):aO cv:=(cond (decide (aA.p.z >= x.au)) (cond (mI 40 x.l.n 1) (cond (decide (aA.p.z < x.au)) (cond (decide (bA.p.z >= x.au)) (cond pA.isSome (cond (mI 40 (x.l.n+1) 1) (cond (decide (aA.p.z >= x.au)) (cond (decide (bA.p.z < x.au)) (cond qA.isSome (cond (mI 40 ((x.l.n+1)+1) 1) (cond (aF (((x.l.n+1)+1)+1)) (.next ⟨x.au,x.t4,(((x.l.push aA).push (pA.getD default)).push (qA.getD default)),(az (x.i+1)),x.t⟩) .fail) .fail) .fail)
     (lF x aA bA pA qA))
     (lF x aA bA pA qA)) .fail) .fail)
   (lH x aA bA pA qA))
   (lH x aA bA pA qA)) .fail) (cond (decide (aA.p.z < x.au)) (cond (decide (bA.p.z >= x.au)) (cond pA.isSome (cond (mI 40 x.l.n 1) (cond (decide (aA.p.z >= x.au)) (cond (decide (bA.p.z < x.au)) (cond qA.isSome (cond (mI 40 (x.l.n+1) 1) (cond (aF ((x.l.n+1)+1)) (.next ⟨x.au,x.t4,((x.l.push (pA.getD default)).push (qA.getD default)),(az (x.i+1)),x.t⟩) .fail) .fail) .fail)
     (lI x aA bA pA qA))
    (lI x aA bA pA qA)) .fail) .fail)
   (lJ x aA bA pA qA))
  (lJ x aA bA pA qA)))
def gj (x:cv):aO cv:=(cond (decide (x.i < 3)) (cond (decide (x.i=0)) (cond (decide ((Int.tmod (az (x.i+1)) 3)=0)) (fS x x.t.e0 x.t.e0 (N9 x) (N9 x)) (cond (decide ((Int.tmod (az (x.i+1)) 3)=1)) (fS x x.t.e0 x.t.e1 (E9 x) (Fa x)) (cond (decide ((Int.tmod (az (x.i+1)) 3)=2)) (fS x x.t.e0 x.t.e2 (Fb x) (Fe x)) .fail))) (cond (decide (x.i=1)) (cond (decide ((Int.tmod (az (x.i+1)) 3)=0)) (fS x x.t.e1 x.t.e0 (Fa x) (E9 x)) (cond (decide ((Int.tmod (az (x.i+1)) 3)=1)) (fS x x.t.e1 x.t.e1 (Oa x) (Oa x)) (cond (decide ((Int.tmod (az (x.i+1)) 3)=2)) (fS x x.t.e1 x.t.e2 (Ff x) (Fg x)) .fail))) (cond (decide (x.i=2)) (cond (decide ((Int.tmod (az (x.i+1)) 3)=0)) (fS x x.t.e2 x.t.e0 (Fe x) (Fb x)) (cond (decide ((Int.tmod (az (x.i+1)) 3)=1)) (fS x x.t.e2 x.t.e1 (Fg x) (Ff x)) (cond (decide ((Int.tmod (az (x.i+1)) 3)=2)) (fS x x.t.e2 x.t.e2 (Ob x) (Ob x)) .fail))) .fail))) (cond (aF x.l.n) (.out (aB.ai.exit 0) x) .fail))
theorem ZJ (x:cv):adv (Hl x) (Hm x)=aO.enc Hl Hm (gj x):=by
 unfold gj fS lJ lI lH lG lF mI aF
 try simp only [aO.bw,acy,afK]
 kernel_rfl
def JX:Lp:=⟨107,58,Tb,fun vs rs=>bP Hl Hm (goN gj (QK vs rs)) [aB.ai.exit 0],false⟩
theorem QL:JX.Ok PG:=rF (ak.cons MF ak.nil) aK.nil (pa:=QK) ZJ
structure qF where
 t4:(Sl bo)
 l:(Sl bK)
 out:(Sl bo)
 i:Int
instance:Inhabited qF:=⟨⟨default,default,default,default⟩⟩
def Fh (x:qF):List KV:=[cT 178 kH x.t4,cT 177 nV x.l,cT 178 kH x.out,.int .i64 x.i]
def Fi (x:qF):List (List KV):=[]
def Oc (vs:List KV) (rs:List (List KV)):qF:=⟨dp mT (v9 vs 0),dp jE (v9 vs 1),dp mT (v9 vs 2),intOf (v9 vs 3)⟩
def QM:aL:=⟨[(4,w9 (n9 178)),(5,⟨false,[.bc 177]⟩),(9,⟨false,[.bc 178]⟩),(10,w9 i9)],[],[]⟩
def abn:=sB [(165,PT)] [JX] 107 250 QM
def pb (x:qF):aO qF:=(cond (decide (x.i < (x.l.n:Int))) (cond (decide (0 < (x.l.n:Int))) (cond (bj (az (x.i - 1)) x.l.n) (cond (bj x.i x.l.n) (cond (mI 120 x.out.n 1) (cond (cond (aF (x.out.n+1)) (aF x.l.n) false) (.next ⟨x.t4,x.l,(x.out.push ⟨(x.l.get 0),(x.l.get (Int.toNat (az (x.i - 1)))),(x.l.get (Int.toNat x.i))⟩),(az (x.i+1))⟩) .fail) .fail) .fail) .fail) .fail) (cond (cond (aF x.out.n) (aF x.l.n) false) (.out (aB.ai.exit 2) x) .fail))
theorem Xp (x:qF):abn (Fh x) (Fi x)=aO.enc Fh Fi (pb x):=by
 unfold pb bj mI aF
 try simp only [aO.bw,Sr]
 kernel_rfl
def QN:Lp:=⟨107,250,QM,fun vs rs=>bP Fh Fi (goN pb (Oc vs rs)) [aB.ai.exit 2],false⟩
theorem abo:QN.Ok PG:=rF (ak.cons MF ak.nil) (gm QL aK.nil) (pa:=Oc) Xp
def pD (au:Int) (t:bo):=goN gj ⟨au,⟨0,(fun i=>⟨⟨⟨0,0,0⟩,0,0⟩,⟨⟨0,0,0⟩,0,0⟩,⟨⟨0,0,0⟩,0,0⟩⟩)⟩,⟨0,(fun i=>⟨⟨0,0,0⟩,0,0⟩)⟩,0,t⟩
def wW (au:Int) (t:bo):=goN pb ⟨(pD au t).st.t4,(pD au t).st.l,⟨0,(fun i=>⟨⟨⟨0,0,0⟩,0,0⟩,⟨⟨0,0,0⟩,0,0⟩,⟨⟨0,0,0⟩,0,0⟩⟩)⟩,2⟩
def Cz (au:Int) (t:bo):Option ((Sl bo)):=(cond ((pD au t).by (aB.ai.exit 0)) (cond (aF (pD au t).st.l.n) (cond ((wW au t).by (aB.ai.exit 2)) (some ((wW au t).st.out)) none) none) none)
theorem ahd (au:Int) (t:bo):gn [(165,PT)] [JX,QN] 107 [(kI .i64) au,kH t] = (Cz au t).map (cT 178 kH):=by
 unfold Cz aF
 try simp only [aV]
 kernel_rfl
def Td:List KV->KR KV:=bk PG 107 (bn (cT 178 kH) fun vs=>Cz (intOf (v9 vs 0)) (mT (v9 vs 1)))
theorem Te:bg PG 107 Td:=bQ (ak.cons MF ak.nil) (gm QL (gm abo aK.nil)) fun w=>ahd (intOf (g0 3 (w 0))) (mT (g0 178 (w 1)))
structure iD where
 t8:(Sl aW)
 l:(Sl bo)
 out:(Sl aW)
 i:Int
 c:aE
 x:Item
instance:Inhabited iD:=⟨by constructor<;>exact default⟩
def Hn (x:iD):List KV:=[cT 62 fN x.t8,cT 178 kH x.l,cT 62 fN x.out,.int .i64 x.i]
def Ho (x:iD):List (List KV):=[Ny x.c,Dt x.x]
def QO (vs:List KV) (rs:List (List KV)):iD:=⟨dp fA (v9 vs 0),dp mT (v9 vs 1),dp fA (v9 vs 2),intOf (v9 vs 3),Nz (r9 rs 0),EM (r9 rs 1)⟩
def Tf:aL:=⟨[(8,w9 (n9 62)),(13,w9 (n9 178)),(14,⟨false,[.bc 62]⟩),(15,w9 i9)],[(5,[i9,i9,i9,i9,i9,i9,i9,i9,i9,i9,i9,i9,i9,i9,i9,i9],1),(9,[n9 27,n9 181,n9 28,u9,u9,u9,u9,i9,u9,i9,b9,i9,i9,i9,i9,i9,i9,i9],1)],[(5,0,0),(9,1,0)]⟩
def adw:=sB [(110,Jw),(109,PJ),(108,Mm),(107,Td),(106,SA)] [] 50 1018 Tf
def ve (x:iD):=ru x.c (x.l.get (Int.toNat x.i)).e0
def vf (x:iD):=ru x.c (x.l.get (Int.toNat x.i)).e1
def vg (x:iD):=ru x.c (x.l.get (Int.toNat x.i)).e2
def zC (x:iD):=zm ⟨((ve x).getD default),((vf x).getD default),((vg x).getD default)⟩ x.x.look.cz
def zD (x:iD):=uW ⟨((ve x).getD default),((vf x).getD default),((vg x).getD default)⟩
def oa (x:iD):aO iD:=(cond (decide (x.i < (x.l.n:Int))) (cond (bj x.i x.l.n) (cond (ve x).isSome (cond (bj x.i x.l.n) (cond (vf x).isSome (cond (bj x.i x.l.n) (cond (vg x).isSome (cond (zC x).isSome (cond ((zC x).getD default).fst (cond (zD x).isSome (cond (mI 120 x.out.n 1) (cond (aF (x.out.n+1)) (.next ⟨x.t8,x.l,(x.out.push ((zD x).getD default)),(az (x.i+1)),x.c,x.x⟩) .fail) .fail) .fail) (cond (aF x.out.n) (.next ⟨x.t8,x.l,x.out,(az (x.i+1)),x.c,x.x⟩) .fail)) .fail) .fail) .fail) .fail) .fail) .fail) .fail) (cond (aF x.out.n) (.out (aB.ai.exit 2) x) .fail))
theorem ZK (x:iD):adw (Hn x) (Ho x)=aO.enc Hn Ho (oa x):=by
 unfold oa bj mI aF
 try simp only [aO.bw,Vr]
 kernel_rfl
def Tg:Lp:=⟨50,1018,Tf,fun vs rs=>bP Hn Ho (goN oa (QO vs rs)) [aB.ai.exit 2],false⟩
theorem adx:Tg.Ok PG:=rF (ak.cons KW (ak.cons QA (ak.cons NP (ak.cons Te (ak.cons SB ak.nil))))) aK.nil (pa:=QO) ZK
def Lg (s:Show) (c:aE) (item:Int) (dB:Int):=vu c ((s.items.get (Int.toNat item)).aG.get (Int.toNat ((s.items.get (Int.toNat item)).aP.get (Int.toNat dB)).e0))
def Lh (s:Show) (c:aE) (item:Int) (dB:Int):=vu c ((s.items.get (Int.toNat item)).aG.get (Int.toNat ((s.items.get (Int.toNat item)).aP.get (Int.toNat dB)).e1))
def Li (s:Show) (c:aE) (item:Int) (dB:Int):=vu c ((s.items.get (Int.toNat item)).aG.get (Int.toNat ((s.items.get (Int.toNat item)).aP.get (Int.toNat dB)).e2))
def Lj (s:Show) (c:aE) (item:Int) (dB:Int):=Cz c.au ⟨⟨((Lg s c item dB).getD default),((s.items.get (Int.toNat item)).uV.get (Int.toNat ((s.items.get (Int.toNat item)).aP.get (Int.toNat dB)).e0)).e0,((s.items.get (Int.toNat item)).uV.get (Int.toNat ((s.items.get (Int.toNat item)).aP.get (Int.toNat dB)).e0)).e1⟩,⟨((Lh s c item dB).getD default),((s.items.get (Int.toNat item)).uV.get (Int.toNat ((s.items.get (Int.toNat item)).aP.get (Int.toNat dB)).e1)).e0,((s.items.get (Int.toNat item)).uV.get (Int.toNat ((s.items.get (Int.toNat item)).aP.get (Int.toNat dB)).e1)).e1⟩,⟨((Li s c item dB).getD default),((s.items.get (Int.toNat item)).uV.get (Int.toNat ((s.items.get (Int.toNat item)).aP.get (Int.toNat dB)).e2)).e0,((s.items.get (Int.toNat item)).uV.get (Int.toNat ((s.items.get (Int.toNat item)).aP.get (Int.toNat dB)).e2)).e1⟩⟩
def CA (s:Show) (c:aE) (item:Int) (dB:Int):=goN oa ⟨⟨0,(fun i=>⟨⟨0,0,0,0,0⟩,⟨0,0,0,0,0⟩,⟨0,0,0,0,0⟩⟩)⟩,((Lj s c item dB).getD default),⟨0,(fun i=>⟨⟨0,0,0,0,0⟩,⟨0,0,0,0,0⟩,⟨0,0,0,0,0⟩⟩)⟩,0,c,(s.items.get (Int.toNat item))⟩
def Iz (s:Show) (c:aE) (item:Int) (dB:Int):Option ((Sl aW)):=(cond (bj item s.items.n) (cond (bj dB (s.items.get (Int.toNat item)).aP.n) (cond (bj ((s.items.get (Int.toNat item)).aP.get (Int.toNat dB)).e0 (s.items.get (Int.toNat item)).aG.n) (cond (Lg s c item dB).isSome (cond (bj ((s.items.get (Int.toNat item)).aP.get (Int.toNat dB)).e0 (s.items.get (Int.toNat item)).uV.n) (cond (bj ((s.items.get (Int.toNat item)).aP.get (Int.toNat dB)).e0 (s.items.get (Int.toNat item)).uV.n) (cond (bj dB (s.items.get (Int.toNat item)).aP.n) (cond (bj ((s.items.get (Int.toNat item)).aP.get (Int.toNat dB)).e1 (s.items.get (Int.toNat item)).aG.n) (cond (Lh s c item dB).isSome (cond (bj ((s.items.get (Int.toNat item)).aP.get (Int.toNat dB)).e1 (s.items.get (Int.toNat item)).uV.n) (cond (bj ((s.items.get (Int.toNat item)).aP.get (Int.toNat dB)).e1 (s.items.get (Int.toNat item)).uV.n) (cond (bj dB (s.items.get (Int.toNat item)).aP.n) (cond (bj ((s.items.get (Int.toNat item)).aP.get (Int.toNat dB)).e2 (s.items.get (Int.toNat item)).aG.n) (cond (Li s c item dB).isSome (cond (bj ((s.items.get (Int.toNat item)).aP.get (Int.toNat dB)).e2 (s.items.get (Int.toNat item)).uV.n) (cond (bj ((s.items.get (Int.toNat item)).aP.get (Int.toNat dB)).e2 (s.items.get (Int.toNat item)).uV.n) (cond (Lj s c item dB).isSome (cond ((CA s c item dB).by (aB.ai.exit 2)) (some ((CA s c item dB).st.out)) none) none) none) none) none) none) none) none) none) none) none) none) none) none) none) none) none) none)
theorem als (s:Show) (c:aE) (item:Int) (dB:Int):gn [(110,Jw),(109,PJ),(108,Mm),(107,Td),(106,SA)] [Tg] 50 [qy s,nX c,(kI .i64) item,(kI .i64) dB] = (Iz s c item dB).map (cT 62 fN):=by
 unfold Iz bj
 try simp only [aV]
 kernel_rfl
def abp:List KV->KR KV:=bk PG 50 (bn (cT 62 fN) fun vs=>Iz (hJ (v9 vs 0)) (fD (v9 vs 1)) (intOf (v9 vs 2)) (intOf (v9 vs 3)))
theorem ZL:bg PG 50 abp:=bQ (ak.cons KW (ak.cons QA (ak.cons NP (ak.cons Te (ak.cons SB ak.nil))))) (gm adx aK.nil) fun w=>als (hJ (g0 25 (w 0))) (fD (g0 31 (w 1))) (intOf (g0 3 (w 2))) (intOf (g0 3 (w 3)))
def CB (t:ch):Option (ch):=(cond (gi 4 0 t.fw.n) (some (⟨t.w,t.h,((⟨0,(fun i=>⟨0,0,0,0⟩)⟩:Sl _).join t.fw)⟩)) none)
theorem ahe (t:ch):gn [] [] 46 [jM t] = (CB t).map jM:=by
 unfold CB
 try simp only [aV,alk]
 kernel_rfl
def Ll:List KV->KR KV:=bk PG 46 (bn jM fun vs=>CB (fO (v9 vs 0)))
theorem JY:bg PG 46 Ll:=bQ ak.nil aK.nil fun w=>ahe (fO (g0 114 (w 0)))
structure sk where
 i:Int
 s:Show
 t2:Show
 out:Show
instance:Inhabited sk:=⟨⟨default,default,default,default⟩⟩
def Hp (x:sk):List KV:=[.int .i64 x.i]
def Hq (x:sk):List (List KV):=[hD x.s,hD x.t2,hD x.out]
def QP (vs:List KV) (rs:List (List KV)):sk:=⟨intOf (v9 vs 0),hH (r9 rs 0),hH (r9 rs 1),hH (r9 rs 2)⟩
def Th:aL:=⟨[(4,w9 i9)],[(1,[n9 111,n9 114],1),(2,[.bc 111,.bc 114],1),(3,[.bc 111,.bc 114],1)],[(1,0,0),(2,1,0),(3,2,0)]⟩
def ady:=sB [(46,Ll)] [] 9 58 Th
def Ti (x:Item):KV:=.agg ([.ts 27 .any (0+x.aG.n) ([]++(List.range x.aG.n).map fun i=>pn (x.aG.get i)) (dK 0 nQ fun i=>pn (x.aG.get i)),.ts 181 .any (0+x.uV.n) ([]++(List.range x.uV.n).map fun i=>afY (x.uV.get i)) (dK 0 nQ fun i=>afY (x.uV.get i)),.ts 28 .any (0+x.aP.n) ([]++(List.range x.aP.n).map fun i=>yh (x.aP.get i)) (dK 0 nQ fun i=>yh (x.aP.get i))]++(Dt x).drop 3)
def qk (x:sk):aO sk:=(cond (decide (x.i < (x.s.items.n:Int))) (cond (bj x.i x.s.items.n) (cond (gi 24 0 (x.s.items.get (Int.toNat x.i)).aG.n) (cond (gi 16 0 (x.s.items.get (Int.toNat x.i)).uV.n) (cond (gi 24 0 (x.s.items.get (Int.toNat x.i)).aP.n) (cond (mI 168 x.out.items.n 1) (cond (cond (cond (cond (aF x.out.av.n) (aF (x.out.items.n+1)) false) (aF x.t2.av.n) false) (aF x.t2.items.n) false) (.next ⟨(az (x.i+1)),x.s,x.t2,⟨(jT BN (x.out.items.n+1) (dK x.out.items.n (fun i=>Mi (x.out.items.get i)) (pW [Ti (x.s.items.get (Int.toNat x.i))]))),x.out.av⟩⟩) .fail) .fail) .fail) .fail) .fail) .fail) (cond (cond (cond (cond (aF x.out.av.n) (aF x.out.items.n) false) (aF x.t2.av.n) false) (aF x.t2.items.n) false) (.out (aB.ai.exit 0) x) .fail))
theorem ZM (x:sk):ady (Hp x) (Hq x)=aO.enc Hp Hq (qk x):=by
 unfold qk bj mI aF
 try simp only [aO.bw]
 kernel_rfl
def JZ:Lp:=⟨9,58,Th,fun vs rs=>bP Hp Hq (goN qk (QP vs rs)) [aB.ai.exit 0],false⟩
theorem QQ:JZ.Ok PG:=rF (ak.cons JY ak.nil) aK.nil (pa:=QP) ZM
structure oD where
 i:Int
 s:Show
 t2:Show
 out:Show
instance:Inhabited oD:=⟨⟨default,default,default,default⟩⟩
def Fj (x:oD):List KV:=[.int .i64 x.i]
def Fk (x:oD):List (List KV):=[hD x.s,hD x.t2,hD x.out]
def Od (vs:List KV) (rs:List (List KV)):oD:=⟨intOf (v9 vs 0),hH (r9 rs 0),hH (r9 rs 1),hH (r9 rs 2)⟩
def QR:aL:=⟨[(6,w9 i9)],[(1,[n9 111,n9 114],1),(2,[.bc 111,.bc 114],1),(3,[.bc 111,.bc 114],1)],[(1,0,0),(2,1,0),(3,2,0)]⟩
def abq:=sB [(46,Ll)] [JZ] 9 122 QR
def xG (x:oD):=CB (x.s.av.get (Int.toNat x.i))
def pd (x:oD):aO oD:=(cond (decide (x.i < (x.s.av.n:Int))) (cond (bj x.i x.s.av.n) (cond (xG x).isSome (cond (mI 40 x.out.av.n 1) (cond (cond (cond (cond (aF (x.out.av.n+1)) (aF x.out.items.n) false) (aF x.t2.av.n) false) (aF x.t2.items.n) false) (.next ⟨(az (x.i+1)),x.s,x.t2,⟨x.out.items,(x.out.av.push ((xG x).getD default))⟩⟩) .fail) .fail) .fail) .fail) (cond (cond (cond (cond (aF x.out.av.n) (aF x.out.items.n) false) (aF x.t2.av.n) false) (aF x.t2.items.n) false) (.out (aB.ai.exit 2) x) .fail))
theorem Xq (x:oD):abq (Fj x) (Fk x)=aO.enc Fj Fk (pd x):=by
 unfold pd bj mI aF
 try simp only [aO.bw,ag2]
 kernel_rfl
def QS:Lp:=⟨9,122,QR,fun vs rs=>bP Fj Fk (goN pd (Od vs rs)) [aB.ai.exit 2],false⟩
theorem abr:QS.Ok PG:=rF (ak.cons JY ak.nil) (gm QQ aK.nil) (pa:=Od) Xq
def jN (s:Show):=goN qk ⟨0,s,⟨⟨0,(fun i=>⟨⟨0,(fun i=>⟨0,0,0⟩)⟩,⟨0,(fun i=>⟨0,0⟩)⟩,⟨0,(fun i=>⟨0,0,0⟩)⟩,⟨⟨0,0,0,0⟩,0,0,0,false,0⟩,⟨⟨0,0,0⟩,⟨0,0,0⟩⟩⟩)⟩,⟨0,(fun i=>⟨0,0,⟨0,(fun i=>⟨0,0,0,0⟩)⟩⟩)⟩⟩,⟨⟨0,(fun i=>⟨⟨0,(fun i=>⟨0,0,0⟩)⟩,⟨0,(fun i=>⟨0,0⟩)⟩,⟨0,(fun i=>⟨0,0,0⟩)⟩,⟨⟨0,0,0,0⟩,0,0,0,false,0⟩,⟨⟨0,0,0⟩,⟨0,0,0⟩⟩⟩)⟩,⟨0,(fun i=>⟨0,0,⟨0,(fun i=>⟨0,0,0,0⟩)⟩⟩)⟩⟩⟩
def wX (s:Show):=goN pd ⟨0,(jN s).st.s,(jN s).st.t2,(jN s).st.out⟩
def CC (s:Show):Option (Show):=(cond ((jN s).by (aB.ai.exit 0)) (cond (cond (cond (cond (aF (jN s).st.out.av.n) (aF (jN s).st.out.items.n) false) (aF (jN s).st.t2.av.n) false) (aF (jN s).st.t2.items.n) false) (cond ((wX s).by (aB.ai.exit 2)) (some ((wX s).st.out)) none) none) none)
theorem ahf (s:Show):gn [(46,Ll)] [JZ,QS] 9 [qy s] = (CC s).map qy:=by
 unfold CC aF
 try simp only [aV]
 kernel_rfl
def Tj:List KV->KR KV:=bk PG 9 (bn qy fun vs=>CC (hJ (v9 vs 0)))
theorem Tk:bg PG 9 Tj:=bQ (ak.cons JY ak.nil) (gm QQ (gm abr aK.nil)) fun w=>ahf (hJ (g0 25 (w 0)))
structure bZ where
 s:(Sl aW)
 t4:Int
 t7:Int
 t8:Int
 Ee:bO
instance:Inhabited bZ:=⟨⟨default,default,default,default,default⟩⟩
def jB (x:bZ):List KV:=[cT 62 fN x.s,.fn (.func 78) [] [.ptr 0 0],.int .i64 x.t4,.int .i64 x.t7,.int .i64 x.t8]
def jC (x:bZ):List (List KV):=[aaS x.Ee]
def oE (vs:List KV) (rs:List (List KV)):bZ:=⟨dp fA (v9 vs 0),intOf (v9 vs 2),intOf (v9 vs 3),intOf (v9 vs 4),aaT (r9 rs 0)⟩
def oU:aL:=⟨[(0,w9 (n9 62)),(1,⟨false,[.ref (.fn (.func 78) [] [.ptr 0 0])]⟩),(4,w9 i9),(7,w9 i9),(8,w9 i9)],[(100001,[i9,i9,i9,i9],1)],[]⟩
def wC:=sB [(79,A6),(10,Dy),(76,zc),(19,kK)] [] 136 26 oU
def gd (x:bZ):=sZ (x.s.get (Int.toNat x.t8)) x.Ee
def cG (x:bZ):aO bZ:=(cond (decide (x.t8 < x.t7)) (cond (bj x.t8 x.s.n) (cond (gd x).isSome (cond ((gd x).getD default).snd.fst (.out aB.ai.ret ⟨x.s,x.t8,x.t7,x.t8,x.Ee⟩) (.next ⟨x.s,x.t4,x.t7,(az (x.t8+1)),x.Ee⟩)) .fail) .fail) (.out (aB.ai.exit 0) x))
theorem vm (x:bZ):wC (jB x) (jC x)=aO.enc jB jC (cG x):=by
 unfold cG bj
 try simp only [aO.bw]
 kernel_rfl
def jW:Lp:=⟨136,26,oU,fun vs rs=>bP jB jC (goN cG (oE vs rs)) [aB.ai.exit 0,aB.ai.ret],false⟩
theorem oG:jW.Ok PG:=rF (ak.cons BM (ak.cons Dz (ak.cons zR (ak.cons iJ ak.nil)))) aK.nil (pa:=oE) vm
structure kd where
 out:(Sl aJ)
 e:Int
 t30:(Sl aJ)
 t31:Int
 t32:Int
 s:Show
 c:aE
 w:bO
instance:Inhabited kd:=⟨by constructor<;>exact default⟩
def Cc (x:kd):List KV:=[cT 93 du x.out,.int .i64 x.e,cT 93 du x.t30,.int .i64 x.t31,.int .i64 x.t32]
def Cd (x:kd):List (List KV):=[hD x.s,Ny x.c,aaS x.w]
def J0 (vs:List KV) (rs:List (List KV)):kd:=⟨dp eJ (v9 vs 0),intOf (v9 vs 1),dp eJ (v9 vs 2),intOf (v9 vs 3),intOf (v9 vs 4),hH (r9 rs 0),Nz (r9 rs 1),aaT (r9 rs 2)⟩
def Lm:aL:=⟨[(8,⟨false,[.bc 93]⟩),(9,w9 i9),(30,w9 (n9 93)),(31,w9 i9),(32,w9 i9)],[(4,[n9 111,n9 114],1),(5,[i9,i9,i9,i9,i9,i9,i9,i9,i9,i9,i9,i9,i9,i9,i9,i9],1),(7,[i9,i9,i9,i9],1)],[(4,0,0),(5,1,0),(7,2,0)]⟩
def Xr:=sB [(79,A6),(10,Dy),(76,zc),(19,kK)] [jW] 31 250 Lm
def lK (x:kd):=uU x.s x.c (x.t30.get (Int.toNat x.t32)).item (x.t30.get (Int.toNat x.t32)).dB
def fq (x:kd):=goN cG ⟨((lK x).getD default).fst,0,(((lK x).getD default).fst.n:Int),0,x.w⟩
def nu (x:kd):aO kd:=(cond (decide (x.t32 < x.t31)) (cond (bj x.t32 x.t30.n) (cond (lK x).isSome (cond (((lK x).getD default).snd != 0) (.out aB.ai.ret ⟨⟨0,(fun i=>⟨0,0⟩)⟩,((lK x).getD default).snd,x.t30,x.t31,x.t32,x.s,x.c,x.w⟩) (cond ((fq x).by (aB.ai.exit 0)) (cond (aF x.out.n) (.next ⟨x.out,x.e,x.t30,x.t31,(az (x.t32+1)),x.s,x.c,(fq x).st.Ee⟩) .fail) (cond ((fq x).by aB.ai.ret) (cond (decide ((fq x).st.t4 >= 0)) (cond (mI 16 x.out.n 1) (cond (aF (x.out.n+1)) (.next ⟨(x.out.push (x.t30.get (Int.toNat x.t32))),x.e,x.t30,x.t31,(az (x.t32+1)),x.s,x.c,(fq x).st.Ee⟩) .fail) .fail) (cond (aF x.out.n) (.next ⟨x.out,x.e,x.t30,x.t31,(az (x.t32+1)),x.s,x.c,(fq x).st.Ee⟩) .fail)) .fail))) .fail) .fail) (cond (aF x.out.n) (.out (aB.ai.exit 0) x) .fail))
theorem Tl (x:kd):Xr (Cc x) (Cd x)=aO.enc Cc Cd (nu x):=by
 unfold nu bj mI aF
 try simp only [aO.bw,JJ]
 kernel_rfl
def Ln:Lp:=⟨31,250,Lm,fun vs rs=>bP Cc Cd (goN nu (J0 vs rs)) [aB.ai.exit 0,aB.ai.ret],false⟩
theorem Xs:Ln.Ok PG:=rF (ak.cons BM (ak.cons Dz (ak.cons zR (ak.cons iJ ak.nil)))) (gm oG aK.nil) (pa:=J0) Tl
def Bk (s:Show) (c:aE) (l:(Sl aJ)) (w:bO):=eU s
def Bm (s:Show) (c:aE) (l:(Sl aJ)) (w:bO):=rH c w
def jD (s:Show) (c:aE) (l:(Sl aJ)) (w:bO):=goN nu ⟨⟨0,(fun i=>⟨0,0⟩)⟩,0,l,(l.n:Int),0,s,c,w⟩
def tU (s:Show) (c:aE) (l:(Sl aJ)) (w:bO):Option ((Sl aJ)×Int):=(cond (Bk s c l w).isSome (cond (((Bk s c l w).getD default) != 0) (some (⟨0,(fun i=>⟨0,0⟩)⟩,((Bk s c l w).getD default))) (cond (Bm s c l w).isSome (cond (((Bm s c l w).getD default) != 0) (some (⟨0,(fun i=>⟨0,0⟩)⟩,((Bm s c l w).getD default))) (cond (decide ((l.n:Int) > 16384)) (some (⟨0,(fun i=>⟨0,0⟩)⟩,4)) (cond ((jD s c l w).by (aB.ai.exit 0)) (some ((jD s c l w).st.out,0)) (cond ((jD s c l w).by aB.ai.ret) (some ((jD s c l w).st.out,(jD s c l w).st.e)) none)))) none)) none)
theorem adz (s:Show) (c:aE) (l:(Sl aJ)) (w:bO):gn [(79,A6),(10,Dy),(76,zc),(19,kK)] [Ln,jW] 31 [qy s,nX c,(cT 93 du) l,oK w] = (tU s c l w).map (fun (r:(Sl aJ)×Int)=>KV.iv [(cT 93 du) r.1,(kI .i64) r.2]):=by
 unfold tU
 try simp only [aV]
 kernel_rfl
def MG:List KV->KR KV:=bk PG 31 (bn (fun (r:(Sl aJ)×Int)=>KV.iv [(cT 93 du) r.1,(kI .i64) r.2]) fun vs=>tU (hJ (v9 vs 0)) (fD (v9 vs 1)) ((dp eJ) (v9 vs 2)) (o3 (v9 vs 3)))
theorem Oe:bg PG 31 MG:=bQ (ak.cons BM (ak.cons Dz (ak.cons zR (ak.cons iJ ak.nil)))) (gm Xs (gm oG aK.nil)) fun w=>adz (hJ (g0 25 (w 0))) (fD (g0 31 (w 1))) ((dp eJ) (g0 75 (w 2))) (o3 (g0 77 (w 3)))
structure rC where
 t8:Bool
 l:(Sl aW)
 i:Int
 w:bO
instance:Inhabited rC:=⟨⟨default,default,default,default⟩⟩
def J1 (x:rC):List KV:=[.bool x.t8,cT 62 fN x.l,.int .i64 x.i]
def J2 (x:rC):List (List KV):=[aaS x.w]
def Tn (vs:List KV) (rs:List (List KV)):rC:=⟨iH (v9 vs 0),dp fA (v9 vs 1),intOf (v9 vs 2),aaT (r9 rs 0)⟩
def VL:aL:=⟨[(8,w9 b9),(9,w9 (n9 62)),(10,w9 i9)],[(7,[i9,i9,i9,i9],1)],[(7,0,0)]⟩
def agd:=sB [(140,MD),(50,abp)] [] 81 58 VL
def Bn (x:rC):=wU (x.l.get (Int.toNat x.i)) x.w
def rO (x:rC):aO rC:=(cond (decide (x.i < (x.l.n:Int))) (cond (bj x.i x.l.n) (cond (Bn x).isSome (cond ((Bn x).getD default).snd.fst (.out aB.ai.ret ⟨true,x.l,x.i,x.w⟩) (.next ⟨x.t8,x.l,(az (x.i+1)),x.w⟩)) .fail) .fail) (.out (aB.ai.exit 0) x))
theorem abt (x:rC):agd (J1 x) (J2 x)=aO.enc J1 J2 (rO x):=by
 unfold rO bj
 try simp only [aO.bw]
 kernel_rfl
def VM:Lp:=⟨81,58,VL,fun vs rs=>bP J1 J2 (goN rO (Tn vs rs)) [aB.ai.exit 0,aB.ai.ret],false⟩
theorem age:VM.Ok PG:=rF (ak.cons N5 (ak.cons ZL ak.nil)) aK.nil (pa:=Tn) abt
def PU (s:Show) (c:aE) (d:aJ) (w:bO):=Iz s c d.item d.dB
def rf (s:Show) (c:aE) (d:aJ) (w:bO):=goN rO ⟨false,((PU s c d w).getD default),0,w⟩
def Fl (s:Show) (c:aE) (d:aJ) (w:bO):Option (Bool):=(cond (PU s c d w).isSome (cond ((rf s c d w).by (aB.ai.exit 0)) (some (false)) (cond ((rf s c d w).by aB.ai.ret) (some ((rf s c d w).st.t8)) none)) none)
theorem ajh (s:Show) (c:aE) (d:aJ) (w:bO):gn [(140,MD),(50,abp)] [VM] 81 [qy s,nX c,du d,oK w] = (Fl s c d w).map kB:=by
 unfold Fl
 try simp only [aV]
 kernel_rfl
def PV:List KV->KR KV:=bk PG 81 (bn kB fun vs=>Fl (hJ (v9 vs 0)) (fD (v9 vs 1)) (eJ (v9 vs 2)) (o3 (v9 vs 3)))
theorem MH:bg PG 81 PV:=bQ (ak.cons N5 (ak.cons ZL ak.nil)) (gm age aK.nil) fun w=>ajh (hJ (g0 25 (w 0))) (fD (g0 31 (w 1))) (eJ (g0 93 (w 2))) (o3 (g0 77 (w 3)))
structure nv where
 l:(Sl aJ)
 t8:(Sl aJ)
 t9:Int
 e:Int
 i:Int
 s:Show
 c:aE
 w:bO
instance:Inhabited nv:=⟨by constructor<;>exact default⟩
def DK (x:nv):List KV:=[cT 93 du x.l,cT 93 du x.t8,.int .i64 x.t9,.int .i64 x.e,.int .i64 x.i]
def DL (x:nv):List (List KV):=[hD x.s,Ny x.c,aaS x.w]
def Lo (vs:List KV) (rs:List (List KV)):nv:=⟨dp eJ (v9 vs 0),dp eJ (v9 vs 1),intOf (v9 vs 2),intOf (v9 vs 3),intOf (v9 vs 4),hH (r9 rs 0),Nz (r9 rs 1),aaT (r9 rs 2)⟩
def Og:aL:=⟨[(2,w9 (n9 93)),(8,w9 (n9 93)),(9,w9 i9),(10,w9 i9),(11,w9 i9)],[(4,[n9 111,n9 114],1),(5,[i9,i9,i9,i9,i9,i9,i9,i9,i9,i9,i9,i9,i9,i9,i9,i9],1),(7,[i9,i9,i9,i9],1)],[(4,0,0),(5,1,0),(7,2,0)]⟩
def ZN:=sB [(81,PV),(80,FX),(20,zp)] [] 32 250 Og
def en (x:nv):aO nv:=(cond (decide (x.i < (x.l.n:Int))) (cond (x.e==0) (cond (bj x.i x.l.n) (cond (decide ((x.l.get (Int.toNat x.i)).item < 0)) (.next ⟨x.l,x.t8,x.t9,2,(az (x.i+1)),x.s,x.c,x.w⟩) (cond (bj x.i x.l.n) (cond (decide ((x.l.get (Int.toNat x.i)).item >= (x.s.items.n:Int))) (.next ⟨x.l,x.t8,x.t9,2,(az (x.i+1)),x.s,x.c,x.w⟩) (cond (bj x.i x.l.n) (cond (decide ((x.l.get (Int.toNat x.i)).dB < 0)) (.next ⟨x.l,x.t8,x.t9,2,(az (x.i+1)),x.s,x.c,x.w⟩) (cond (bj x.i x.l.n) (cond (bj x.i x.l.n) (cond (bj (x.l.get (Int.toNat x.i)).item x.s.items.n) (cond (decide ((x.l.get (Int.toNat x.i)).dB >= ((x.s.items.get (Int.toNat (x.l.get (Int.toNat x.i)).item)).aP.n:Int))) (.next ⟨x.l,x.t8,x.t9,2,(az (x.i+1)),x.s,x.c,x.w⟩) (.next ⟨x.l,x.t8,x.t9,x.e,(az (x.i+1)),x.s,x.c,x.w⟩)) .fail) .fail) .fail)) .fail)) .fail)) .fail) (.out (aB.ai.exit 0) x)) (.out (aB.ai.exit 0) x))
theorem UQ (x:nv):ZN (DK x) (DL x)=aO.enc DK DL (en x):=by
 unfold en bj
 try simp only [aO.bw]
 kernel_rfl
def Fm:Lp:=⟨32,250,Og,fun vs rs=>bP DK DL (goN en (Lo vs rs)) [aB.ai.exit 0],false⟩
theorem Lq:Fm.Ok PG:=rF (ak.cons MH (ak.cons E5 (ak.cons wx ak.nil))) aK.nil (pa:=Lo) UQ
structure lU where
 l:(Sl aJ)
 t8:(Sl aJ)
 t9:Int
 out:(Sl aJ)
 i:Int
 s:Show
 c:aE
 w:bO
instance:Inhabited lU:=⟨by constructor<;>exact default⟩
def Ce (x:lU):List KV:=[cT 93 du x.l,cT 93 du x.t8,.int .i64 x.t9,cT 93 du x.out,.int .i64 x.i]
def Cf (x:lU):List (List KV):=[hD x.s,Ny x.c,aaS x.w]
def J3 (vs:List KV) (rs:List (List KV)):lU:=⟨dp eJ (v9 vs 0),dp eJ (v9 vs 1),intOf (v9 vs 2),dp eJ (v9 vs 3),intOf (v9 vs 4),hH (r9 rs 0),Nz (r9 rs 1),aaT (r9 rs 2)⟩
def Lr:aL:=⟨[(2,w9 (n9 93)),(8,w9 (n9 93)),(9,w9 i9),(12,⟨false,[.bc 93]⟩),(13,w9 i9)],[(4,[n9 111,n9 114],1),(5,[i9,i9,i9,i9,i9,i9,i9,i9,i9,i9,i9,i9,i9,i9,i9,i9],1),(7,[i9,i9,i9,i9],1)],[(4,0,0),(5,1,0),(7,2,0)]⟩
def Xt:=sB [(81,PV),(80,FX),(20,zp)] [Fm] 32 2042 Lr
def uj (x:lU):=Fl x.s x.c (x.l.get (Int.toNat x.i)) x.w
def gg (x:lU):aO lU:=(cond (decide (x.i < (x.l.n:Int))) (cond (bj x.i x.l.n) (cond (uj x).isSome (cond ((uj x).getD default) (cond (bj x.i x.l.n) (cond (mI 16 x.out.n 1) (cond (aF (x.out.n+1)) (.next ⟨x.l,x.t8,x.t9,(x.out.push (x.l.get (Int.toNat x.i))),(az (x.i+1)),x.s,x.c,x.w⟩) .fail) .fail) .fail) (cond (aF x.out.n) (.next ⟨x.l,x.t8,x.t9,x.out,(az (x.i+1)),x.s,x.c,x.w⟩) .fail)) .fail) .fail) (cond (aF x.out.n) (.out (aB.ai.exit 2) x) .fail))
theorem Tp (x:lU):Xt (Ce x) (Cf x)=aO.enc Ce Cf (gg x):=by
 unfold gg bj mI aF
 try simp only [aO.bw,JJ]
 kernel_rfl
def Ls:Lp:=⟨32,2042,Lr,fun vs rs=>bP Ce Cf (goN gg (J3 vs rs)) [aB.ai.exit 2],false⟩
theorem Xu:Ls.Ok PG:=rF (ak.cons MH (ak.cons E5 (ak.cons wx ak.nil))) (gm Lq aK.nil) (pa:=J3) Tp
def yx (s:Show) (c:aE) (l:(Sl aJ)) (w:bO):=pB s
def DM (s:Show) (c:aE) (l:(Sl aJ)) (w:bO):=wS c w
def gw (s:Show) (c:aE) (l:(Sl aJ)) (w:bO):=goN en ⟨l,⟨0,(fun i=>⟨0,0⟩)⟩,0,4,0,s,c,w⟩
def DN (s:Show) (c:aE) (l:(Sl aJ)) (w:bO):=goN gg ⟨(gw s c l w).st.l,(gw s c l w).st.t8,(gw s c l w).st.t9,⟨0,(fun i=>⟨0,0⟩)⟩,0,(gw s c l w).st.s,(gw s c l w).st.c,(gw s c l w).st.w⟩
def eC (s:Show) (c:aE) (l:(Sl aJ)) (w:bO):=goN en ⟨l,⟨0,(fun i=>⟨0,0⟩)⟩,0,((DM s c l w).getD default),0,s,c,w⟩
def pP (s:Show) (c:aE) (l:(Sl aJ)) (w:bO):=goN gg ⟨(eC s c l w).st.l,(eC s c l w).st.t8,(eC s c l w).st.t9,⟨0,(fun i=>⟨0,0⟩)⟩,0,(eC s c l w).st.s,(eC s c l w).st.c,(eC s c l w).st.w⟩
def fZ (s:Show) (c:aE) (l:(Sl aJ)) (w:bO):=goN en ⟨l,⟨0,(fun i=>⟨0,0⟩)⟩,0,((yx s c l w).getD default),0,s,c,w⟩
def DP (s:Show) (c:aE) (l:(Sl aJ)) (w:bO):=goN gg ⟨(fZ s c l w).st.l,(fZ s c l w).st.t8,(fZ s c l w).st.t9,⟨0,(fun i=>⟨0,0⟩)⟩,0,(fZ s c l w).st.s,(fZ s c l w).st.c,(fZ s c l w).st.w⟩
def wg (s:Show) (c:aE) (l:(Sl aJ)) (w:bO):Option ((Sl aJ)×Int):=(cond (yx s c l w).isSome (cond (((yx s c l w).getD default)==0) (cond (DM s c l w).isSome (cond (((DM s c l w).getD default)==0) (cond (decide ((l.n:Int) > 16384)) (cond ((gw s c l w).by (aB.ai.exit 0)) (cond ((gw s c l w).st.e != 0) (some (⟨0,(fun i=>⟨0,0⟩)⟩,(gw s c l w).st.e)) (cond ((DN s c l w).by (aB.ai.exit 2)) (some ((DN s c l w).st.out,0)) none)) none) (cond ((eC s c l w).by (aB.ai.exit 0)) (cond ((eC s c l w).st.e != 0) (some (⟨0,(fun i=>⟨0,0⟩)⟩,(eC s c l w).st.e)) (cond ((pP s c l w).by (aB.ai.exit 2)) (some ((pP s c l w).st.out,0)) none)) none)) (cond ((eC s c l w).by (aB.ai.exit 0)) (cond ((eC s c l w).st.e != 0) (some (⟨0,(fun i=>⟨0,0⟩)⟩,(eC s c l w).st.e)) (cond ((pP s c l w).by (aB.ai.exit 2)) (some ((pP s c l w).st.out,0)) none)) none)) none) (cond (((yx s c l w).getD default)==0) (cond (decide ((l.n:Int) > 16384)) (cond ((gw s c l w).by (aB.ai.exit 0)) (cond ((gw s c l w).st.e != 0) (some (⟨0,(fun i=>⟨0,0⟩)⟩,(gw s c l w).st.e)) (cond ((DN s c l w).by (aB.ai.exit 2)) (some ((DN s c l w).st.out,0)) none)) none) (cond ((fZ s c l w).by (aB.ai.exit 0)) (cond ((fZ s c l w).st.e != 0) (some (⟨0,(fun i=>⟨0,0⟩)⟩,(fZ s c l w).st.e)) (cond ((DP s c l w).by (aB.ai.exit 2)) (some ((DP s c l w).st.out,0)) none)) none)) (cond ((fZ s c l w).by (aB.ai.exit 0)) (cond ((fZ s c l w).st.e != 0) (some (⟨0,(fun i=>⟨0,0⟩)⟩,(fZ s c l w).st.e)) (cond ((DP s c l w).by (aB.ai.exit 2)) (some ((DP s c l w).st.out,0)) none)) none))) none)
theorem agf (s:Show) (c:aE) (l:(Sl aJ)) (w:bO):gn [(81,PV),(80,FX),(20,zp)] [Fm,Ls] 32 [qy s,nX c,(cT 93 du) l,oK w] = (wg s c l w).map (fun (r:(Sl aJ)×Int)=>KV.iv [(cT 93 du) r.1,(kI .i64) r.2]):=by
 unfold wg
 try simp only [aV]
 kernel_rfl
def PW:List KV->KR KV:=bk PG 32 (bn (fun (r:(Sl aJ)×Int)=>KV.iv [(cT 93 du) r.1,(kI .i64) r.2]) fun vs=>wg (hJ (v9 vs 0)) (fD (v9 vs 1)) ((dp eJ) (v9 vs 2)) (o3 (v9 vs 3)))
theorem QT:bg PG 32 PW:=bQ (ak.cons MH (ak.cons E5 (ak.cons wx ak.nil))) (gm Lq (gm Xu aK.nil)) fun w=>agf (hJ (g0 25 (w 0))) (fD (g0 31 (w 1))) ((dp eJ) (g0 75 (w 2))) (o3 (g0 77 (w 3)))
structure mW where
 a:(Sl Int)
 b:(Sl Int)
 t4:Bool
 i:Int
instance:Inhabited mW:=⟨⟨default,default,default,default⟩⟩
def Ac (x:mW):List KV:=[cT 3 (kI .i64) x.a,cT 3 (kI .i64) x.b,.bool x.t4,.int .i64 x.i]
def Ad (x:mW):List (List KV):=[]
def HO (vs:List KV) (rs:List (List KV)):mW:=⟨dp intOf (v9 vs 0),dp intOf (v9 vs 1),iH (v9 vs 2),intOf (v9 vs 3)⟩
def J4:aL:=⟨[(0,w9 (n9 3)),(1,w9 (n9 3)),(4,w9 b9),(5,w9 i9)],[],[]⟩
def UR:=sB [] [] 34 58 J4
def ml (x:mW):aO mW:=(cond (decide (x.i < (x.a.n:Int))) (cond (bj x.i x.a.n) (cond (bj x.i x.b.n) (cond ((x.a.get (Int.toNat x.i)) != (x.b.get (Int.toNat x.i))) (.out aB.ai.ret ⟨x.a,x.b,false,x.i⟩) (.next ⟨x.a,x.b,x.t4,(az (x.i+1))⟩)) .fail) .fail) (.out (aB.ai.exit 0) x))
theorem Rd (x:mW):UR (Ac x) (Ad x)=aO.enc Ac Ad (ml x):=by
 unfold ml bj
 try simp only [aO.bw]
 kernel_rfl
def J5:Lp:=⟨34,58,J4,fun vs rs=>bP Ac Ad (goN ml (HO vs rs)) [aB.ai.exit 0,aB.ai.ret],false⟩
theorem UT:J5.Ok PG:=rF ak.nil aK.nil (pa:=HO) Rd
def ql (a:(Sl Int)) (b:(Sl Int)):=goN ml ⟨a,b,false,0⟩
def s9 (a:(Sl Int)) (b:(Sl Int)):Option (Bool):=(cond ((a.n:Int) != (b.n:Int)) (some (false)) (cond ((ql a b).by (aB.ai.exit 0)) (some (true)) (cond ((ql a b).by aB.ai.ret) (some ((ql a b).st.t4)) none)))
theorem ZO (a:(Sl Int)) (b:(Sl Int)):gn [] [J5] 34 [(cT 3 (kI .i64)) a,(cT 3 (kI .i64)) b] = (s9 a b).map kB:=by
 unfold s9
 try simp only [aV]
 kernel_rfl
def Hr:List KV->KR KV:=bk PG 34 (bn kB fun vs=>s9 ((dp intOf) (v9 vs 0)) ((dp intOf) (v9 vs 1)))
theorem J6:bg PG 34 Hr:=bQ ak.nil (gm UT aK.nil) fun w=>ZO ((dp intOf) (g0 66 (w 0))) ((dp intOf) (g0 66 (w 1)))
structure jy where
 items:(Sl Int)
 l:(Sl aJ)
 t14:Bool
 in_:(Sl Int)
 Xv:(Sl aJ)
 t:(Sl bO)
 u:(Sl bO)
 i:Int
 s:Show
 own:Show
instance:Inhabited jy:=⟨by constructor<;>exact default⟩
def vh (x:jy):List KV:=[cT 3 (kI .i64) x.items,cT 93 du x.l,.bool x.t14,cT 3 (kI .i64) x.in_,cT 93 du x.Xv,cT 77 oK x.t,cT 77 oK x.u,.int .i64 x.i]
def vi (x:jy):List (List KV):=[hD x.s,hD x.own]
def CE (vs:List KV) (rs:List (List KV)):jy:=⟨dp intOf (v9 vs 0),dp eJ (v9 vs 1),iH (v9 vs 2),dp intOf (v9 vs 3),dp eJ (v9 vs 4),dp o3 (v9 vs 5),dp o3 (v9 vs 6),intOf (v9 vs 7),hH (r9 rs 0),hH (r9 rs 1)⟩
def DQ:aL:=⟨[(4,w9 (n9 3)),(5,w9 (n9 93)),(14,w9 b9),(16,⟨false,[.bc 3]⟩),(17,⟨false,[.bc 93]⟩),(18,w9 (n9 77)),(20,w9 (n9 77)),(34,w9 i9)],[(9,[n9 111,n9 114],1),(15,[n9 111,n9 114],1)],[(9,0,0),(15,1,0)]⟩
def Oh:=sB [(34,Hr),(21,G0),(33,SY),(32,PW),(31,MG),(30,JS),(29,Hk),(28,MC),(27,JW),(26,PS),(25,Mz),(9,Tj),(8,PE)] [] 5 262138 DQ
def fV (x:jy):aO jy:=(cond (decide (x.i < (x.t.n:Int))) (cond (bj x.i x.t.n) (cond (bj x.i x.u.n) (cond (!(((x.t.get (Int.toNat x.i)).x0==(x.u.get (Int.toNat x.i)).x0)&&(((x.t.get (Int.toNat x.i)).y0==(x.u.get (Int.toNat x.i)).y0)&&(((x.t.get (Int.toNat x.i)).x1==(x.u.get (Int.toNat x.i)).x1)&&(((x.t.get (Int.toNat x.i)).y1==(x.u.get (Int.toNat x.i)).y1)&&true))))) (cond (cond (aF x.Xv.n) (aF x.in_.n) false) (.out aB.ai.ret ⟨x.items,x.l,false,x.in_,x.Xv,x.t,x.u,x.i,x.s,x.own⟩) .fail) (cond (cond (aF x.Xv.n) (aF x.in_.n) false) (.next ⟨x.items,x.l,x.t14,x.in_,x.Xv,x.t,x.u,(az (x.i+1)),x.s,x.own⟩) .fail)) .fail) .fail) (cond (cond (aF x.Xv.n) (aF x.in_.n) false) (.out (aB.ai.exit 0) x) .fail))
theorem Ki (x:jy):Oh (vh x) (vi x)=aO.enc vh vi (fV x):=by
 unfold fV bj aF
 try simp only [aO.bw]
 kernel_rfl
def DR:Lp:=⟨5,262138,DQ,fun vs rs=>bP vh vi (goN fV (CE vs rs)) [aB.ai.exit 0,aB.ai.ret],false⟩
theorem Oi:DR.Ok PG:=rF (ak.cons J6 (ak.cons JG (ak.cons SZ (ak.cons QT (ak.cons Oe (ak.cons Lc (ak.cons JU (ak.cons N3 (ak.cons Lf (ak.cons QH (ak.cons NX (ak.cons Tk (ak.cons Qz ak.nil))))))))))))) aK.nil (pa:=CE) Ki
def Fo:List (Nat×(List KV->KR KV)):=[(34,Hr),(21,G0),(33,SY),(32,PW),(31,MG),(30,JS),(29,Hk),(28,MC),(27,JW),(26,PS),(25,Mz),(9,Tj),(8,PE)]
def Fp:List Lp:=[DR]
theorem Xw:ak PG Fo:=(ak.cons J6 (ak.cons JG (ak.cons SZ (ak.cons QT (ak.cons Oe (ak.cons Lc (ak.cons JU (ak.cons N3 (ak.cons Lf (ak.cons QH (ak.cons NX (ak.cons Tk (ak.cons Qz ak.nil)))))))))))))
theorem Xx:aK PG Fp:=(gm Oi aK.nil)
def DS (x:Int) (y:Int) (s:Show) (c:aE) (items:(Sl Int)) (l:(Sl aJ)) (w:bO):=tA s
def ob (x:Int) (y:Int) (s:Show) (c:aE) (items:(Sl Int)) (l:(Sl aJ)) (w:bO):=CC s
def lV (x:Int) (y:Int) (s:Show) (c:aE) (items:(Sl Int)) (l:(Sl aJ)) (w:bO):=pC x y
def lW (x:Int) (y:Int) (s:Show) (c:aE) (items:(Sl Int)) (l:(Sl aJ)) (w:bO):=rb x y
def lX (x:Int) (y:Int) (s:Show) (c:aE) (items:(Sl Int)) (l:(Sl aJ)) (w:bO):=sj ((ob x y s c items l w).getD default) ((⟨0,(fun i=>0)⟩:Sl _).join items)
def qm (x:Int) (y:Int) (s:Show) (c:aE) (items:(Sl Int)) (l:(Sl aJ)) (w:bO):=tT s items
def lY (x:Int) (y:Int) (s:Show) (c:aE) (items:(Sl Int)) (l:(Sl aJ)) (w:bO):=qE ((ob x y s c items l w).getD default) ((⟨0,(fun i=>0)⟩:Sl _).join items)
def qo (x:Int) (y:Int) (s:Show) (c:aE) (items:(Sl Int)) (l:(Sl aJ)) (w:bO):=r7 s items
def lZ (x:Int) (y:Int) (s:Show) (c:aE) (items:(Sl Int)) (l:(Sl aJ)) (w:bO):=tU ((ob x y s c items l w).getD default) c ((⟨0,(fun i=>⟨0,0⟩)⟩:Sl _).join l) w
def qp (x:Int) (y:Int) (s:Show) (c:aE) (items:(Sl Int)) (l:(Sl aJ)) (w:bO):=wg s c l w
def pe (x:Int) (y:Int) (s:Show) (c:aE) (items:(Sl Int)) (l:(Sl aJ)) (w:bO):=tG ((lX x y s c items l w).getD default).fst ((qm x y s c items l w).getD default).fst
def pf (x:Int) (y:Int) (s:Show) (c:aE) (items:(Sl Int)) (l:(Sl aJ)) (w:bO):=tG ((lY x y s c items l w).getD default).fst ((qo x y s c items l w).getD default).fst
def pg (x:Int) (y:Int) (s:Show) (c:aE) (items:(Sl Int)) (l:(Sl aJ)) (w:bO):=tG ((lZ x y s c items l w).getD default).fst ((qp x y s c items l w).getD default).fst
def dP (x:Int) (y:Int) (s:Show) (c:aE) (items:(Sl Int)) (l:(Sl aJ)) (w:bO):=goN fV ⟨items,l,false,((⟨0,(fun i=>0)⟩:Sl _).join items),((⟨0,(fun i=>⟨0,0⟩)⟩:Sl _).join l),((lV x y s c items l w).getD default).fst,((lW x y s c items l w).getD default).fst,0,s,((ob x y s c items l w).getD default)⟩
def ph (x:Int) (y:Int) (s:Show) (c:aE) (items:(Sl Int)) (l:(Sl aJ)) (w:bO):=s6 (dP x y s c items l w).st.own (dP x y s c items l w).st.s
def pj (x:Int) (y:Int) (s:Show) (c:aE) (items:(Sl Int)) (l:(Sl aJ)) (w:bO):=s9 (dP x y s c items l w).st.in_ (dP x y s c items l w).st.items
def pk (x:Int) (y:Int) (s:Show) (c:aE) (items:(Sl Int)) (l:(Sl aJ)) (w:bO):=tG (dP x y s c items l w).st.Xv (dP x y s c items l w).st.l
def Bo (x:Int) (y:Int) (s:Show) (c:aE) (items:(Sl Int)) (l:(Sl aJ)) (w:bO):Option (Bool):=(cond (DS x y s c items l w).isSome (cond ((DS x y s c items l w).getD default) (some (true)) (cond (decide ((items.n:Int) > 500)) (some (true)) (cond (decide ((l.n:Int) > 500)) (cond (decide ((l.n:Int)<=16384)) (some (true)) (cond (ob x y s c items l w).isSome (cond (gi 8 0 items.n) (cond (gi 16 0 l.n) (cond (lV x y s c items l w).isSome (cond (lW x y s c items l w).isSome (cond (lX x y s c items l w).isSome (cond (qm x y s c items l w).isSome (cond (lY x y s c items l w).isSome (cond (qo x y s c items l w).isSome (cond (lZ x y s c items l w).isSome (cond (qp x y s c items l w).isSome (cond ((((lV x y s c items l w).getD default).fst.n:Int) != (((lW x y s c items l w).getD default).fst.n:Int)) (some (false)) (cond (((lV x y s c items l w).getD default).snd != ((lW x y s c items l w).getD default).snd) (some (false)) (cond (pe x y s c items l w).isSome (cond (!((pe x y s c items l w).getD default)) (some (false)) (cond (((lX x y s c items l w).getD default).snd != ((qm x y s c items l w).getD default).snd) (some (false)) (cond (pf x y s c items l w).isSome (cond (!((pf x y s c items l w).getD default)) (some (false)) (cond (((lY x y s c items l w).getD default).snd != ((qo x y s c items l w).getD default).snd) (some (false)) (cond (pg x y s c items l w).isSome (cond (!((pg x y s c items l w).getD default)) (some (false)) (cond (((lZ x y s c items l w).getD default).snd != ((qp x y s c items l w).getD default).snd) (some (false)) (cond (cond (aF (0+l.n)) (aF (0+items.n)) false) (cond ((dP x y s c items l w).by (aB.ai.exit 0)) (cond (ph x y s c items l w).isSome (cond ((ph x y s c items l w).getD default) (cond (pj x y s c items l w).isSome (cond ((pj x y s c items l w).getD default) (cond (pk x y s c items l w).isSome (some (((pk x y s c items l w).getD default))) none) (some (false))) none) (some (false))) none) (cond ((dP x y s c items l w).by aB.ai.ret) (some ((dP x y s c items l w).st.t14)) none)) none))) none))) none))) none))) none) none) none) none) none) none) none) none) none) none) none)) (cond (ob x y s c items l w).isSome (cond (gi 8 0 items.n) (cond (gi 16 0 l.n) (cond (lV x y s c items l w).isSome (cond (lW x y s c items l w).isSome (cond (lX x y s c items l w).isSome (cond (qm x y s c items l w).isSome (cond (lY x y s c items l w).isSome (cond (qo x y s c items l w).isSome (cond (lZ x y s c items l w).isSome (cond (qp x y s c items l w).isSome (cond ((((lV x y s c items l w).getD default).fst.n:Int) != (((lW x y s c items l w).getD default).fst.n:Int)) (some (false)) (cond (((lV x y s c items l w).getD default).snd != ((lW x y s c items l w).getD default).snd) (some (false)) (cond (pe x y s c items l w).isSome (cond (!((pe x y s c items l w).getD default)) (some (false)) (cond (((lX x y s c items l w).getD default).snd != ((qm x y s c items l w).getD default).snd) (some (false)) (cond (pf x y s c items l w).isSome (cond (!((pf x y s c items l w).getD default)) (some (false)) (cond (((lY x y s c items l w).getD default).snd != ((qo x y s c items l w).getD default).snd) (some (false)) (cond (pg x y s c items l w).isSome (cond (!((pg x y s c items l w).getD default)) (some (false)) (cond (((lZ x y s c items l w).getD default).snd != ((qp x y s c items l w).getD default).snd) (some (false)) (cond (cond (aF (0+l.n)) (aF (0+items.n)) false) (cond ((dP x y s c items l w).by (aB.ai.exit 0)) (cond (ph x y s c items l w).isSome (cond ((ph x y s c items l w).getD default) (cond (pj x y s c items l w).isSome (cond ((pj x y s c items l w).getD default) (cond (pk x y s c items l w).isSome (some (((pk x y s c items l w).getD default))) none) (some (false))) none) (some (false))) none) (cond ((dP x y s c items l w).by aB.ai.ret) (some ((dP x y s c items l w).st.t14)) none)) none))) none))) none))) none))) none) none) none) none) none) none) none) none) none) none) none)))) none)
theorem ZP (x:Int) (y:Int) (s:Show) (c:aE) (items:(Sl Int)) (l:(Sl aJ)) (w:bO):GC PG (iZ PG Fo Fp) 9 9 5 [(kI .i64) x,(kI .i64) y,qy s,nX c,(cT 3 (kI .i64)) items,(cT 93 du) l,oK w] = (Bo x y s c items l w).map kB:=by
 unfold Bo aF
 try simp only [aV,lX,lY,lZ,dP,Xc,aaK]
 kernel_rfl
theorem Xy (w:Nat->KV):ye PG [3,3,25,31,66,75,77] w 0 = [(kI .i64) (intOf (g0 3 (w 0))),(kI .i64) (intOf (g0 3 (w 1))),qy (hJ (g0 25 (w 2))),nX (fD (g0 31 (w 3))),(cT 3 (kI .i64)) ((dp intOf) (g0 66 (w 4))),(cT 93 du) ((dp eJ) (g0 75 (w 5))),oK (o3 (g0 77 (w 6)))]:=by kernel_rfl
end
end Go.Proofs.YtchbpckkmgcgkaaGreat.b
end
