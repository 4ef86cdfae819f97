/- Part of the proof of ImageWhole: the machine, shown to be the model's, and plain models. No conditions. -/
import Derived.Test.YtchbpckkmgcgkaaGreatHp
import Derived.Test.YtchbpckkmgcgkaaGreatGp
set_option linter.unusedSimpArgs false
set_option linter.unusedVariables false
section
namespace Go.Proofs.YtchbpckkmgcgkaaGreat.b
open Go.K
noncomputable section
def yG (t:bF) (u:Int) (v:Int):=eS t
def th (t:bF) (u:Int) (v:Int):Option (Color×Int):=(cond (yG t u v).isSome (cond (((yG t u v).getD default) != 0) (some (⟨0,0,0,0⟩,((yG t u v).getD default))) (cond (decide ((min u v) < 0)) (some (⟨0,0,0,0⟩,2)) (cond (decide ((max u v) > 255)) (some (⟨0,0,0,0⟩,2)) (cond (bj (ak ((ak ((Int.fdiv (ak (v * t.h)) 256) * t.w))+(Int.fdiv (ak (u * t.w)) 256))) t.dH.n) (some ((t.dH.get (Int.toNat (ak ((ak ((Int.fdiv (ak (v * t.h)) 256) * t.w))+(Int.fdiv (ak (u * t.w)) 256))))),0)) none)))) none)
theorem aft (t:bF) (u:Int) (v:Int):zW PG (iK PG [(123,Bu)] [] (fun q=>Nat.beq q 48)) 9 9 149 [iy t,(kI .i64) u,(kI .i64) v] = (th t u v).map (fun (r:Color×Int)=>KV.lP [fH r.1,(kI .i64) r.2]):=by
 unfold th bj
 try simp only [aY]
 kernel_rfl
def Yk:List KV->KR KV:=bd PG 149 (bg (fun (r:Color×Int)=>KV.lP [fH r.1,(kI .i64) r.2]) fun vs=>th (en (v9 vs 0)) (intOf (v9 vs 1)) (intOf (v9 vs 2)))
theorem adn:a9 PG 149 Yk:=bM (ao.cons Ck ao.nil) aL.nil fun w=>aft (en (g0 114 (w 0))) (intOf (g0 3 (w 1))) (intOf (g0 3 (w 2)))
def Sz (a:Color) (b:Color):Option (Color):=(some (⟨(w8 (ak (Int.tdiv (ak ((ak a.e0) * (ak b.e0))) 255))),(w8 (ak (Int.tdiv (ak ((ak a.e1) * (ak b.e1))) 255))),(w8 (ak (Int.tdiv (ak ((ak a.e2) * (ak b.e2))) 255))),(w8 (ak (Int.tdiv (ak ((ak a.e3) * (ak b.e3))) 255)))⟩))
theorem aiw (a:Color) (b:Color):zW PG (iK PG [] [] (fun q=>Nat.beq q 48)) 9 9 150 [fH a,fH b] = (Sz a b).map fH:=by
 unfold Sz
 kernel_rfl
def abj:List KV->KR KV:=bd PG 150 (bg fH fun vs=>Sz (jA (v9 vs 0)) (jA (v9 vs 1)))
theorem afu:a9 PG 150 abj:=bM ao.nil aL.nil fun w=>aiw (jA (g0 33 (w 0))) (jA (g0 33 (w 1)))
def xh (l:yx) (au:(Sl bF)) (u:Int) (v:Int):=gf au
def xi (l:yx) (au:(Sl bF)) (u:Int) (v:Int):=eO l (au.n:Int)
def pd (l:yx) (au:(Sl bF)) (u:Int) (v:Int):=th (au.get (Int.toNat l.iG)) u v
def rH (l:yx) (au:(Sl bF)) (u:Int) (v:Int):Option (Color×Int):=(cond (xh l au u v).isSome (cond (((xh l au u v).getD default) != 0) (some (⟨0,0,0,0⟩,((xh l au u v).getD default))) (cond (xi l au u v).isSome (cond (((xi l au u v).getD default) != 0) (some (⟨0,0,0,0⟩,((xi l au u v).getD default))) (cond (decide ((min u v) < 0)) (some (⟨0,0,0,0⟩,2)) (cond (decide ((max u v) > 255)) (some (⟨0,0,0,0⟩,2)) (cond (decide (l.iG < 0)) (some (l.color,0)) (cond (bj l.iG au.n) (cond (pd l au u v).isSome (some (⟨(w8 (ak (Int.tdiv (ak ((ak l.color.e0) * (ak ((pd l au u v).getD default).fst.e0))) 255))),(w8 (ak (Int.tdiv (ak ((ak l.color.e1) * (ak ((pd l au u v).getD default).fst.e1))) 255))),(w8 (ak (Int.tdiv (ak ((ak l.color.e2) * (ak ((pd l au u v).getD default).fst.e2))) 255))),(w8 (ak (Int.tdiv (ak ((ak l.color.e3) * (ak ((pd l au u v).getD default).fst.e3))) 255)))⟩,((pd l au u v).getD default).snd)) none) none))))) none)) none)
theorem ado (l:yx) (au:(Sl bF)) (u:Int) (v:Int):zW PG (iK PG [(150,abj),(149,Yk),(125,tS),(61,zz)] [] (fun q=>Nat.beq q 48)) 9 9 86 [alG l,(fL 114 iy) au,(kI .i64) u,(kI .i64) v] = (rH l au u v).map (fun (r:Color×Int)=>KV.lP [fH r.1,(kI .i64) r.2]):=by
 unfold rH bj
 try simp only [aY]
 kernel_rfl
def Vw:List KV->KR KV:=bd PG 86 (bg (fun (r:Color×Int)=>KV.lP [fH r.1,(kI .i64) r.2]) fun vs=>rH (Vd (v9 vs 0)) ((fg en) (v9 vs 1)) (intOf (v9 vs 2)) (intOf (v9 vs 3)))
theorem abk:a9 PG 86 Vw:=bM (ao.cons afu (ao.cons adn (ao.cons ui (ao.cons Ah ao.nil)))) aL.nil fun w=>ado (Vd (g0 107 (w 0))) ((fg en) (g0 23 (w 1))) (intOf (g0 3 (w 2))) (intOf (g0 3 (w 3)))
def yd (s:aI) (f:aU):=rH (s.dc.items.get (Int.toNat f.item)).look s.dc.au f.u f.v
def mB (s:aI) (f:aU):Option (Color):=(cond (bj f.item s.dc.items.n) (cond (yd s f).isSome (some (((yd s f).getD default).fst)) none) none)
theorem SA (s:aI) (f:aU):zW PG (iK PG [(86,Vw)] [] (fun q=>Nat.beq q 48)) 9 9 116 [yR s,iY f] = (mB s f).map fH:=by
 unfold mB bj
 try simp only [aY]
 kernel_rfl
def vo:List KV->KR KV:=bd PG 116 (bg fH fun vs=>mB (vJ (v9 vs 0)) (im (v9 vs 1)))
theorem xj:a9 PG 116 vo:=bM (ao.cons abk ao.nil) aL.nil fun w=>SA (vJ (g0 121 (w 0))) (im (g0 48 (w 1)))
def Da (top:Color) (under:Color):Option (Color):=(some (⟨(w8 (ak (Int.tdiv (ak ((ak ((ak top.e0) * (ak top.e3)))+(ak ((ak under.e0) * (ak (255 - (ak top.e3))))))) 255))),(w8 (ak (Int.tdiv (ak ((ak ((ak top.e1) * (ak top.e3)))+(ak ((ak under.e1) * (ak (255 - (ak top.e3))))))) 255))),(w8 (ak (Int.tdiv (ak ((ak ((ak top.e2) * (ak top.e3)))+(ak ((ak under.e2) * (ak (255 - (ak top.e3))))))) 255))),(w8 (ak (Int.tdiv (ak ((ak (255 * (ak top.e3)))+(ak ((ak under.e3) * (ak (255 - (ak top.e3))))))) 255)))⟩))
theorem afv (top:Color) (under:Color):zW PG (iK PG [] [] (fun q=>Nat.beq q 48)) 9 9 120 [fH top,fH under] = (Da top under).map fH:=by
 unfold Da
 kernel_rfl
def Ih:List KV->KR KV:=bd PG 120 (bg fH fun vs=>Da (jA (v9 vs 0)) (jA (v9 vs 1)))
theorem Hj:a9 PG 120 Ih:=bM ao.nil aL.nil fun w=>afv (jA (g0 33 (w 0))) (jA (g0 33 (w 1)))
structure aP where
 x:Int
 y:Int
 t14:(Sl eT)
 t15:Int
 t16:Int
 jG:aI
 yF:Bool
 xg:aU
 lq:(Sl aU)
instance:Inhabited aP:=⟨by constructor<;>exact default⟩
def gG (x:aP):List KV:=[.int .i64 x.x,.int .i64 x.y,.fn (.func 117) [] [.ptr 0 0,.ptr 1 0,.ptr 2 0,.ptr 3 0],fL 197 Bw x.t14,.int .i64 x.t15,.int .i64 x.t16]
def gH (x:aP):List (List KV):=[cJ x.jG,[.bool x.yF],Ze x.xg,[fL 48 iY x.lq]]
def oA (vs:List KV) (rs:List (List KV)):aP:=⟨intOf (v9 vs 0),intOf (v9 vs 1),fg Bx (v9 vs 3),intOf (v9 vs 4),intOf (v9 vs 5),cK (r9 rs 0),kN ((rs.getD 1 []).getD 0 .bG),Zf (r9 rs 2),fg im ((rs.getD 3 []).getD 0 .bG)⟩
def pe:aQ:=⟨[(1,w9 i9),(2,w9 i9),(3,⟨false,[.ref (.fn (.func 117) [] [.ptr 0 0,.ptr 1 0,.ptr 2 0,.ptr 3 0])]⟩),(14,w9 (n9 197)),(15,w9 i9),(16,w9 i9)],[(100003,[n9 111,n9 114,n9 197],1),(200003,[b9],1),(300003,[i9,i9,i9,i9,i9,i9],1),(400003,[.arr 48],1)],[]⟩
def vT:=Dk PG (iK PG [(120,Ih),(75,cu),(85,En),(116,vo),(57,lx)] [] (fun q=>Nat.beq q 48) false false [pr]) 9 9 52 14 (pn PG 52 14) pe
def bW (x:aP):=lj (x.t14.get (Int.toNat x.t16)).t x.x x.y
def fC (x:aP):aJ aP:=(cond ((Nat.ble (((x.lq.n+1)+512) * 48) 17592186044416)&&(Nat.ble (x.lq.n+1) 17592186044416)) (cond (aC x.lq.n) (.next ⟨x.x,x.y,x.t14,x.t15,(ak (x.t16+1)),x.jG,x.yF,x.xg,(x.lq.push ⟨(ak ((x.t14.get (Int.toNat x.t16)).dX.d+((bW x).getD default).fst.d)),(x.t14.get (Int.toNat x.t16)).dX.item,(x.t14.get (Int.toNat x.t16)).dX.cl,(x.t14.get (Int.toNat x.t16)).dX.part,((bW x).getD default).fst.u,((bW x).getD default).fst.v⟩)⟩) .fail) .fail)
def dM (x:aP):aJ aP:=(cond (aC x.lq.n) (.next ⟨x.x,x.y,x.t14,x.t15,(ak (x.t16+1)),x.jG,x.yF,x.xg,x.lq⟩) .fail)
def bS (x:aP):aJ aP:=(cond (decide (x.t16 < x.t15)) (cond (bj x.t16 x.t14.n) (cond (bW x).isSome (cond (((bW x).getD default).snd==0) (cond (bj (x.t14.get (Int.toNat x.t16)).dX.item x.jG.dc.items.n) (cond (x.jG.dc.items.get (Int.toNat (x.t14.get (Int.toNat x.t16)).dX.item)).look.Ai (cond (!x.yF)
     (fC x) (cond (decide ((ak ((x.t14.get (Int.toNat x.t16)).dX.d+((bW x).getD default).fst.d)) > x.xg.d))
     (fC x)
     (dM x)))
    (dM x)) .fail)
   (dM x)) .fail) .fail) (cond (aC x.lq.n) (.out (aF.aq.exit 0) x) .fail))
theorem vp (x:aP):vT (gG x) (gH x)=aJ.enc gG gH (bS x):=by
 unfold bS dM fC bj aC
 try simp only [aJ.bz,aii]
 kernel_rfl
def jJ:Lp:=⟨52,14,pe,fun vs rs=>bT gG gH (goN bS (oA vs rs)) [aF.aq.exit 0],false⟩
theorem oB:jJ.Ok PG:=U0 funcs mixed (ao.cons Hj (ao.cons bP (ao.cons Ag (ao.cons xj (ao.cons kZ ao.nil))))) aL.nil (L:=9) (n:=9) (step:=bS) (ev:=gG) (er:=gH) (pa:=oA) rfl (fun wv wr=>⟨by kernel_rfl,by kernel_rfl⟩) vp (Jg:=(gT.cons rG gT.nil))
structure fZ where
 t33:(Sl aU)
 t34:Int
 t35:Int
 s:aI
 ground:Color
 t8:Color
instance:Inhabited fZ:=⟨by constructor<;>exact default⟩
def pT (x:fZ):List KV:=[fL 48 iY x.t33,.int .i64 x.t34,.int .i64 x.t35]
def pU (x:fZ):List (List KV):=[cJ x.s,Fz x.ground,Fz x.t8]
def AD (vs:List KV) (rs:List (List KV)):fZ:=⟨fg im (v9 vs 0),intOf (v9 vs 1),intOf (v9 vs 2),cK (r9 rs 0),FB (r9 rs 1),FB (r9 rs 2)⟩
def B6:aQ:=⟨[(33,⟨false,[.arr 48]⟩),(34,w9 i9),(35,w9 i9)],[(4,[n9 111,n9 114,n9 197],1),(5,[u9,u9,u9,u9],1),(8,[u9,u9,u9,u9],1)],[(4,0,0),(5,1,0),(8,2,0)]⟩
def Mo:=Dk PG (iK PG [(120,Ih),(75,cu),(85,En),(116,vo),(57,lx)] [jJ] (fun q=>Nat.beq q 48) false false [pr]) 9 9 59 1018 (pn PG 59 1018) B6
def ck (x:fZ):=mB x.s (x.t33.get (0+(Int.toNat x.t35)))
def eK (x:fZ):aJ fZ:=(cond (decide (x.t35 < x.t34)) (cond (bj x.t35 x.t33.n) (cond (ck x).isSome (cond (aC x.t33.n) (.next ⟨x.t33,x.t34,(ak (x.t35+1)),x.s,⟨(w8 (ak (Int.tdiv (ak ((ak ((ak ((ck x).getD default).e0) * (ak ((ck x).getD default).e3)))+(ak ((ak x.ground.e0) * (ak (255 - (ak ((ck x).getD default).e3))))))) 255))),(w8 (ak (Int.tdiv (ak ((ak ((ak ((ck x).getD default).e1) * (ak ((ck x).getD default).e3)))+(ak ((ak x.ground.e1) * (ak (255 - (ak ((ck x).getD default).e3))))))) 255))),(w8 (ak (Int.tdiv (ak ((ak ((ak ((ck x).getD default).e2) * (ak ((ck x).getD default).e3)))+(ak ((ak x.ground.e2) * (ak (255 - (ak ((ck x).getD default).e3))))))) 255))),(w8 (ak (Int.tdiv (ak ((ak (255 * (ak ((ck x).getD default).e3)))+(ak ((ak x.ground.e3) * (ak (255 - (ak ((ck x).getD default).e3))))))) 255)))⟩,x.t8⟩) .fail) .fail) .fail) (cond (aC x.t33.n) (.out (aF.aq.exit 0) x) .fail))
theorem Jx (x:fZ):Mo (pT x) (pU x)=aJ.enc pT pU (eK x):=by
 unfold eK bj aC
 try simp only [aJ.bz]
 kernel_rfl
def B7:Lp:=⟨59,1018,B6,fun vs rs=>bT pT pU (goN eK (AD vs rs)) [aF.aq.exit 0],false⟩
theorem Mp:B7.Ok PG:=U0 funcs mixed (ao.cons Hj (ao.cons bP (ao.cons Ag (ao.cons xj (ao.cons kZ ao.nil))))) (hH oB aL.nil) (L:=9) (n:=9) (step:=eK) (ev:=pT) (er:=pU) (pa:=AD) rfl (fun wv wr=>⟨by kernel_rfl,by kernel_rfl⟩) Jx (Jg:=(gT.cons rG gT.nil))
def Gu:List (Nat×(List KV->KR KV)):=[(120,Ih),(75,cu),(85,En),(116,vo),(57,lx)]
def Gv:List Lp:=[B7,jJ]
theorem Qm:ao PG Gu:=(ao.cons Hj (ao.cons bP (ao.cons Ag (ao.cons xj (ao.cons kZ ao.nil)))))
theorem Qn:aL PG Gv:=(hH Mp (hH oB aL.nil))
def m9 (s:aI) (ground:Color) (x:Int) (y:Int):=jt s x y
def sS (s:aI) (ground:Color) (x:Int) (y:Int):=mB s ((m9 s ground x y).getD default).fst
def cV (s:aI) (ground:Color) (x:Int) (y:Int):=goN bS ⟨x,y,s.parts,(s.parts.n:Int),0,s,((m9 s ground x y).getD default).snd,((m9 s ground x y).getD default).fst,⟨0,(fun i=>⟨0,0,0,0,0,0⟩)⟩⟩
def eL (s:aI) (ground:Color) (x:Int) (y:Int):=lN ⟨(cV s ground x y).st.lq,((cV s ground x y).st.lq.n:Int),(cV s ground x y).st.jG⟩
def na (s:aI) (ground:Color) (x:Int) (y:Int):=goN eK ⟨(eL s ground x y).st.data,((cV s ground x y).st.lq.n:Int),0,(eL s ground x y).st.held,((sS s ground x y).getD default),⟨0,0,0,0⟩⟩
def nb (s:aI) (ground:Color) (x:Int) (y:Int):=goN eK ⟨(eL s ground x y).st.data,((cV s ground x y).st.lq.n:Int),0,(eL s ground x y).st.held,ground,⟨0,0,0,0⟩⟩
def hQ (s:aI) (ground:Color) (x:Int) (y:Int):Option (Color):=(cond (m9 s ground x y).isSome (cond ((m9 s ground x y).getD default).snd (cond (sS s ground x y).isSome (cond ((cV s ground x y).by (aF.aq.exit 0)) (cond (aC (cV s ground x y).st.lq.n) (cond ((eL s ground x y).by aF.aq.ret) (cond (ik (eL s ground x y).st.data.n (cV s ground x y).st.lq.n) (cond ((na s ground x y).by (aF.aq.exit 0)) (some ((na s ground x y).st.ground)) none) none) none) none) none) none) (cond ((cV s ground x y).by (aF.aq.exit 0)) (cond (aC (cV s ground x y).st.lq.n) (cond ((eL s ground x y).by aF.aq.ret) (cond (ik (eL s ground x y).st.data.n (cV s ground x y).st.lq.n) (cond ((nb s ground x y).by (aF.aq.exit 0)) (some ((nb s ground x y).st.ground)) none) none) none) none) none)) none)
theorem SB (s:aI) (ground:Color) (x:Int) (y:Int):zW PG (iK PG Gu Gv (fun q=>Nat.beq q 48) false false [pr]) 9 9 59 [yR s,fH ground,(kI .i64) x,(kI .i64) y] = (hQ s ground x y).map fH:=by
 unfold hQ aC
 try simp only [aY]
 kernel_rfl
def vq:List KV->KR KV:=bd PG 59 (bg fH fun vs=>hQ (vJ (v9 vs 0)) (jA (v9 vs 1)) (intOf (v9 vs 2)) (intOf (v9 vs 3)))
theorem Qo (w:Nat->KV):Ac PG [121,33,3,3] w 0 = [yR (vJ (g0 121 (w 0))),fH (jA (g0 33 (w 1))),(kI .i64) (intOf (g0 3 (w 2))),(kI .i64) (intOf (g0 3 (w 3)))]:=by kernel_rfl
theorem xk:a9 PG 59 vq:=aex funcs mixed Qm Qn (L:=9) (n:=9) (Jg:=(gT.cons rG gT.nil)) fun w=>by
 have e:gw PG 59 = [121,33,3,3]:=by kernel_rfl
 rw [e,Qo]
 exact (SB (vJ (g0 121 (w 0))) (jA (g0 33 (w 1))) (intOf (g0 3 (w 2))) (intOf (g0 3 (w 3)))).trans (by kernel_rfl)
structure Frame where
 w:Int
 h:Int
 color:(Sl Color)
 depth:(Sl Int)
 item:(Sl Int)
 cl:(Sl Int)
instance:Inhabited Frame:=⟨by constructor<;>exact default⟩
def FZ (x:Frame):List KV:=[.int .i64 x.w,.int .i64 x.h,fL 33 fH x.color,fL 3 (kI .i64) x.depth,fL 3 (kI .i64) x.item,fL 3 (kI .i64) x.cl]
def WK (x:Frame):KV:=.agg (FZ x)
def F1 (c:Nat->KV):Frame:=⟨intOf (c 0),intOf (c 1),fg jA (c 2),fg intOf (c 3),fg intOf (c 4),fg intOf (c 5)⟩
def agb (v:KV):Frame:=F1 fun k=>v.cells.getD k .bG
structure kG where
 t7:Int
 t31:Int
 t32:Int
 c:aE
 ground:Color
 t6:Frame
 all:aI
 f:Frame
instance:Inhabited kG:=⟨by constructor<;>exact default⟩
def Cz (x:kG):List KV:=[.int .i64 x.t7,.int .i64 x.t31,.int .i64 x.t32]
def CA (x:kG):List (List KV):=[wL x.c,Fz x.ground,FZ x.t6,cJ x.all,FZ x.f]
def J6 (vs:List KV) (rs:List (List KV)):kG:=⟨intOf (v9 vs 0),intOf (v9 vs 1),intOf (v9 vs 2),wM (r9 rs 0),FB (r9 rs 1),F1 (r9 rs 2),cK (r9 rs 3),F1 (r9 rs 4)⟩
def Mq:aQ:=⟨[(7,w9 i9),(31,w9 i9),(32,w9 i9)],[(4,[i9,i9,i9,i9,i9,i9,i9,i9,i9,i9,i9,i9,i9,i9,i9,i9],1),(5,[u9,u9,u9,u9],1),(6,[i9,i9,.aZ 33,.aZ 3,.aZ 3,.aZ 3],1),(9,[n9 111,n9 114,n9 197],1),(10,[i9,i9,.aZ 33,.aZ 3,.aZ 3,.aZ 3],1)],[(4,0,0),(5,1,0),(6,2,0),(9,3,0),(10,4,0)]⟩
structure hU where
 t7:Int
 y:Int
 t31:Int
 t32:Int
 t36:Int
 t37:Int
 c:aE
 ground:Color
 t6:Frame
 all:aI
 f:Frame
instance:Inhabited hU:=⟨by constructor<;>exact default⟩
def zd (x:hU):List KV:=[.int .i64 x.t7,.int .i64 x.y,.int .i64 x.t31,.int .i64 x.t32,.int .i64 x.t36,.int .i64 x.t37]
def ze (x:hU):List (List KV):=[wL x.c,Fz x.ground,FZ x.t6,cJ x.all,FZ x.f]
def Gw (vs:List KV) (rs:List (List KV)):hU:=⟨intOf (v9 vs 0),intOf (v9 vs 1),intOf (v9 vs 2),intOf (v9 vs 3),intOf (v9 vs 4),intOf (v9 vs 5),wM (r9 rs 0),FB (r9 rs 1),F1 (r9 rs 2),cK (r9 rs 3),F1 (r9 rs 4)⟩
def IW:aQ:=⟨[(7,w9 i9),(11,w9 i9),(31,w9 i9),(32,w9 i9),(36,w9 i9),(37,w9 i9)],[(4,[i9,i9,i9,i9,i9,i9,i9,i9,i9,i9,i9,i9,i9,i9,i9,i9],1),(5,[u9,u9,u9,u9],1),(6,[i9,i9,.aZ 33,.aZ 3,.aZ 3,.aZ 3],1),(9,[n9 111,n9 114,n9 197],1),(10,[i9,i9,.aZ 33,.aZ 3,.aZ 3,.aZ 3],1)],[(4,0,0),(5,1,0),(6,2,0),(9,3,0),(10,4,0)]⟩
def TK:=uj [(59,vq),(57,lx),(69,NC),(47,FJ)] [] 22 64102 IW
def nf (x:hU):=jt x.all x.t37 x.y
def sT (x:hU):=hQ x.all x.ground x.t37 x.y
def jK (x:hU):aJ hU:=(cond (decide (x.t37 < x.t36)) (cond (nf x).isSome (cond (sT x).isSome (cond (nm 4 x.f.color.n 1) (cond (nm 8 x.f.depth.n 1) (cond (nm 8 x.f.item.n 1) (cond (nm 8 x.f.cl.n 1) (cond (cond (cond (cond (cond (cond (cond (cond (aC (x.f.cl.n+1)) (aC (x.f.item.n+1)) false) (aC (x.f.depth.n+1)) false) (aC (x.f.color.n+1)) false) (aC x.t6.cl.n) false) (aC x.t6.item.n) false) (aC x.t6.depth.n) false) (aC x.t6.color.n) false) (.next ⟨x.t7,x.y,x.t31,x.t32,x.t36,(ak (x.t37+1)),x.c,x.ground,x.t6,x.all,⟨x.f.w,x.f.h,(x.f.color.push ((sT x).getD default)),(x.f.depth.push ((nf x).getD default).fst.d),(x.f.item.push ((nf x).getD default).fst.item),(x.f.cl.push ((nf x).getD default).fst.cl)⟩⟩) .fail) .fail) .fail) .fail) .fail) .fail) .fail) (cond (cond (cond (cond (cond (cond (cond (cond (aC x.f.cl.n) (aC x.f.item.n) false) (aC x.f.depth.n) false) (aC x.f.color.n) false) (aC x.t6.cl.n) false) (aC x.t6.item.n) false) (aC x.t6.depth.n) false) (aC x.t6.color.n) false) (.out (aF.aq.exit 2) x) .fail))
theorem Qp (x:hU):TK (zd x) (ze x)=aJ.enc zd ze (jK x):=by
 unfold jK nm aC
 try simp only [aJ.bz,aeF,acH]
 kernel_rfl
def AE:Lp:=⟨22,64102,IW,fun vs rs=>bT zd ze (goN jK (Gw vs rs)) [aF.aq.exit 2],false⟩
theorem Gx:AE.Ok PG:=tl (ao.cons xk (ao.cons kZ (ao.cons L6 (ao.cons FK ao.nil)))) aL.nil (pa:=Gw) Qp
def Xi:=uj [(59,vq),(57,lx),(69,NC),(47,FJ)] [AE] 22 250 Mq
def bX (x:kG):=goN jK ⟨x.t7,x.t32,x.t31,x.t32,x.c.w,0,x.c,x.ground,x.t6,x.all,x.f⟩
def ly (x:kG):aJ kG:=(cond (decide (x.t32 < x.t31)) (cond (cond (cond (cond (cond (cond (cond (cond (aC x.f.cl.n) (aC x.f.item.n) false) (aC x.f.depth.n) false) (aC x.f.color.n) false) (aC x.t6.cl.n) false) (aC x.t6.item.n) false) (aC x.t6.depth.n) false) (aC x.t6.color.n) false) (cond ((bX x).by (aF.aq.exit 2)) (cond (cond (cond (cond (cond (cond (cond (cond (aC (bX x).st.f.cl.n) (aC (bX x).st.f.item.n) false) (aC (bX x).st.f.depth.n) false) (aC (bX x).st.f.color.n) false) (aC (bX x).st.t6.cl.n) false) (aC (bX x).st.t6.item.n) false) (aC (bX x).st.t6.depth.n) false) (aC (bX x).st.t6.color.n) false) (.next ⟨(bX x).st.t7,(bX x).st.t31,(ak ((bX x).st.t32+1)),(bX x).st.c,(bX x).st.ground,(bX x).st.t6,(bX x).st.all,(bX x).st.f⟩) .fail) .fail) .fail) (cond (cond (cond (cond (cond (cond (cond (cond (aC x.f.cl.n) (aC x.f.item.n) false) (aC x.f.depth.n) false) (aC x.f.color.n) false) (aC x.t6.cl.n) false) (aC x.t6.item.n) false) (aC x.t6.depth.n) false) (aC x.t6.color.n) false) (.out (aF.aq.exit 0) x) .fail))
theorem TL (x:kG):Xi (Cz x) (CA x)=aJ.enc Cz CA (ly x):=by
 unfold ly aC
 try simp only [aJ.bz]
 kernel_rfl
def Mr:Lp:=⟨22,250,Mq,fun vs rs=>bT Cz CA (goN ly (J6 vs rs)) [aF.aq.exit 0],false⟩
theorem Xj:Mr.Ok PG:=tl (ao.cons xk (ao.cons kZ (ao.cons L6 (ao.cons FK ao.nil)))) (hH Gx aL.nil) (pa:=J6) TL
def xl (s:Show) (c:aE) (ground:Color):=dw s c
def Hk (s:Show) (c:aE) (ground:Color):=xD s c
def tA (s:Show) (c:aE) (ground:Color):=goN ly ⟨0,c.h,0,c,ground,⟨0,0,⟨0,(fun i=>⟨0,0,0,0⟩)⟩,⟨0,(fun i=>0)⟩,⟨0,(fun i=>0)⟩,⟨0,(fun i=>0)⟩⟩,((Hk s c ground).getD default),⟨c.w,c.h,⟨0,(fun i=>⟨0,0,0,0⟩)⟩,⟨0,(fun i=>0)⟩,⟨0,(fun i=>0)⟩,⟨0,(fun i=>0)⟩⟩⟩
def rI (s:Show) (c:aE) (ground:Color):Option (Frame×Int):=(cond (xl s c ground).isSome (cond (((xl s c ground).getD default) != 0) (some (⟨0,0,⟨0,(fun i=>⟨0,0,0,0⟩)⟩,⟨0,(fun i=>0)⟩,⟨0,(fun i=>0)⟩,⟨0,(fun i=>0)⟩⟩,((xl s c ground).getD default))) (cond (Hk s c ground).isSome (cond ((tA s c ground).by (aF.aq.exit 0)) (some ((tA s c ground).st.f,0)) none) none)) none)
theorem adp (s:Show) (c:aE) (ground:Color):hJ [(59,vq),(57,lx),(69,NC),(47,FJ)] [AE,Mr] 22 [uB s,qF c,fH ground] = (rI s c ground).map (fun (r:Frame×Int)=>KV.lP [WK r.1,(kI .i64) r.2]):=by
 unfold rI
 try simp only [aY]
 kernel_rfl
def Vx:List KV->KR KV:=bd PG 22 (bg (fun (r:Frame×Int)=>KV.lP [WK r.1,(kI .i64) r.2]) fun vs=>rI (kL (v9 vs 0)) (gZ (v9 vs 1)) (jA (v9 vs 2)))
theorem abl:a9 PG 22 Vx:=bM (ao.cons xk (ao.cons kZ (ao.cons L6 (ao.cons FK ao.nil)))) (hH Gx (hH Xj aL.nil)) fun w=>adp (kL (g0 25 (w 0))) (gZ (g0 31 (w 1))) (jA (g0 33 (w 2)))
structure oJ where
 a:(Sl Int)
 b:(Sl Int)
 t4:Bool
 i:Int
instance:Inhabited oJ:=⟨⟨default,default,default,default⟩⟩
def CB (x:oJ):List KV:=[fL 3 (kI .i64) x.a,fL 3 (kI .i64) x.b,.bool x.t4,.int .i64 x.i]
def CC (x:oJ):List (List KV):=[]
def J7 (vs:List KV) (rs:List (List KV)):oJ:=⟨fg intOf (v9 vs 0),fg intOf (v9 vs 1),kN (v9 vs 2),intOf (v9 vs 3)⟩
def Ms:aQ:=⟨[(0,w9 (n9 3)),(1,w9 (n9 3)),(4,w9 b9),(5,w9 i9)],[],[]⟩
def Xk:=uj [] [] 34 58 Ms
def nQ (x:oJ):aJ oJ:=(cond (decide (x.i < (x.a.n:Int))) (cond (bj x.i x.a.n) (cond (bj x.i x.b.n) (cond ((x.a.get (Int.toNat x.i)) != (x.b.get (Int.toNat x.i))) (.out aF.aq.ret ⟨x.a,x.b,false,x.i⟩) (.next ⟨x.a,x.b,x.t4,(ak (x.i+1))⟩)) .fail) .fail) (.out (aF.aq.exit 0) x))
theorem TM (x:oJ):Xk (CB x) (CC x)=aJ.enc CB CC (nQ x):=by
 unfold nQ bj
 try simp only [aJ.bz]
 kernel_rfl
def Mt:Lp:=⟨34,58,Ms,fun vs rs=>bT CB CC (goN nQ (J7 vs rs)) [aF.aq.exit 0,aF.aq.ret],false⟩
theorem Xl:Mt.Ok PG:=tl ao.nil aL.nil (pa:=J7) TM
def rT (a:(Sl Int)) (b:(Sl Int)):=goN nQ ⟨a,b,false,0⟩
def qn (a:(Sl Int)) (b:(Sl Int)):Option (Bool):=(cond ((a.n:Int) != (b.n:Int)) (some (false)) (cond ((rT a b).by (aF.aq.exit 0)) (some (true)) (cond ((rT a b).by aF.aq.ret) (some ((rT a b).st.t4)) none)))
theorem abm (a:(Sl Int)) (b:(Sl Int)):hJ [] [Mt] 34 [(fL 3 (kI .i64)) a,(fL 3 (kI .i64)) b] = (qn a b).map kB:=by
 unfold qn
 try simp only [aY]
 kernel_rfl
def Jy:List KV->KR KV:=bd PG 34 (bg kB fun vs=>qn ((fg intOf) (v9 vs 0)) ((fg intOf) (v9 vs 1)))
theorem Mu:a9 PG 34 Jy:=bM ao.nil (hH Xl aL.nil) fun w=>abm ((fg intOf) (g0 66 (w 0))) ((fg intOf) (g0 66 (w 1)))
structure nv where
 t4:Bool
 i:Int
 a:Frame
 b:Frame
instance:Inhabited nv:=⟨⟨default,default,default,default⟩⟩
def AG (x:nv):List KV:=[.bool x.t4,.int .i64 x.i]
def AH (x:nv):List (List KV):=[FZ x.a,FZ x.b]
def IX (vs:List KV) (rs:List (List KV)):nv:=⟨kN (v9 vs 0),intOf (v9 vs 1),F1 (r9 rs 0),F1 (r9 rs 1)⟩
def J8:aQ:=⟨[(4,w9 b9),(5,w9 i9)],[(2,[i9,i9,n9 33,n9 3,n9 3,n9 3],1),(3,[i9,i9,n9 33,n9 3,n9 3,n9 3],1)],[(2,0,0),(3,1,0)]⟩
def Vy:=uj [(34,Jy)] [] 24 58 J8
def ng (x:nv):aJ nv:=(cond (decide (x.i < (x.a.color.n:Int))) (cond (bj x.i x.a.color.n) (cond (bj x.i x.b.color.n) (cond (!(((x.a.color.get (Int.toNat x.i)).e0==(x.b.color.get (Int.toNat x.i)).e0)&&(((x.a.color.get (Int.toNat x.i)).e1==(x.b.color.get (Int.toNat x.i)).e1)&&(((x.a.color.get (Int.toNat x.i)).e2==(x.b.color.get (Int.toNat x.i)).e2)&&(((x.a.color.get (Int.toNat x.i)).e3==(x.b.color.get (Int.toNat x.i)).e3)&&true))))) (.out aF.aq.ret ⟨false,x.i,x.a,x.b⟩) (.next ⟨x.t4,(ak (x.i+1)),x.a,x.b⟩)) .fail) .fail) (.out (aF.aq.exit 0) x))
theorem SC (x:nv):Vy (AG x) (AH x)=aJ.enc AG AH (ng x):=by
 unfold ng bj
 try simp only [aJ.bz]
 kernel_rfl
def J9:Lp:=⟨24,58,J8,fun vs rs=>bT AG AH (goN ng (IX vs rs)) [aF.aq.exit 0,aF.aq.ret],false⟩
theorem Vz:J9.Ok PG:=tl (ao.cons Mu ao.nil) aL.nil (pa:=IX) SC
def gq (a:Frame) (b:Frame):=goN ng ⟨false,0,a,b⟩
def ye (a:Frame) (b:Frame):=qn (gq a b).st.a.depth (gq a b).st.b.depth
def yf (a:Frame) (b:Frame):=qn (gq a b).st.a.item (gq a b).st.b.item
def yg (a:Frame) (b:Frame):=qn (gq a b).st.a.cl (gq a b).st.b.cl
def tB (a:Frame) (b:Frame):Option (Bool):=(cond (a.w != b.w) (some (false)) (cond (a.h != b.h) (some (false)) (cond ((a.color.n:Int) != (b.color.n:Int)) (some (false)) (cond ((gq a b).by (aF.aq.exit 0)) (cond (ye a b).isSome (cond ((ye a b).getD default) (cond (yf a b).isSome (cond ((yf a b).getD default) (cond (yg a b).isSome (some (((yg a b).getD default))) none) (some (false))) none) (some (false))) none) (cond ((gq a b).by aF.aq.ret) (some ((gq a b).st.t4)) none)))))
theorem Zo (a:Frame) (b:Frame):hJ [(34,Jy)] [J9] 24 [WK a,WK b] = (tB a b).map kB:=by
 unfold tB
 try simp only [aY]
 kernel_rfl
def Qq:List KV->KR KV:=bd PG 24 (bg kB fun vs=>tB (agb (v9 vs 0)) (agb (v9 vs 1)))
theorem Xm:a9 PG 24 Qq:=bM (ao.cons Mu ao.nil) (hH Vz aL.nil) fun w=>Zo (agb (g0 68 (w 0))) (agb (g0 68 (w 1)))
end
end Go.Proofs.YtchbpckkmgcgkaaGreat.b
end
section
namespace Go.Proofs.YtchbpckkmgcgkaaGreat.b
open Go.K Go.K.hY
open Go.aF (aq)
theorem adq (a b:Sl Int) (hn:a.n=b.n) (hb:a.n<=98304) (h:∀ i,i < a.n->a.get i=b.get i):qn a b=some true:=by
 obtain ⟨e,z,hz,rfl⟩:∃ e z,rT a b = .out e z/\e = .exit 0:=by
  unfold rT;refine bn (step:=nQ) (fun j y=>y.a=a/\y.b=b/\y.i=(j:Int)/\j<=a.n) (fun e _=>e = .exit 0) a.n (by have:gd=1000000000000:=rfl; omega) (fun j y hj ⟨f1,f2,f3,f4⟩=>?_) ⟨rfl,rfl,rfl,cP _⟩;have w1:ak (y.i+1)=y.i+1:=aj;unfold nQ bj;by_cases bt:y.i < ((y.a.n:Nat):Int)
  ·have eH:j < a.n:=by rw [f1] at bt; omega
   have hg:y.a.get (Int.toNat y.i)=y.b.get (Int.toNat y.i):=by rw [f1,f2,f3,bU]; exact h j eH
   simp only [hg,w1,ai,aw,bD,jO,av bt,av (show (0:Int)<=y.i by omega),av (show y.i < ((y.b.n:Nat):Int) by rw [f2]; omega)];exact .inl ⟨_,rfl,eH,f1,f2,by show y.i+1=_; omega,by omega⟩
  ·simp only [aw,az bt]
   exact .inr ⟨_,_,rfl,rfl,rfl⟩
 have b1:(rT a b).by (.exit 0)=true:=by rw [hz]; rfl
 unfold qn;rw [hn,jO,aw,b1,ai]
structure atC (a b:Frame):Prop where
 w:a.w=b.w
 h:a.h=b.h
 cn:a.color.n=b.color.n
 cb:a.color.n<=98304
 cg:∀ i,i < a.color.n->a.color.get i=b.color.get i
 dn:a.depth.n=b.depth.n
 db:a.depth.n<=98304
 dg:∀ i,i < a.depth.n->a.depth.get i=b.depth.get i
 n1:a.item.n=b.item.n
 b1:a.item.n<=98304
 g1:∀ i,i < a.item.n->a.item.get i=b.item.get i
 n2:a.cl.n=b.cl.n
 b2:a.cl.n<=98304
 g2:∀ i,i < a.cl.n->a.cl.get i=b.cl.get i
theorem apm {a b:Frame} (k:atC a b):tB a b=some true:=by
 have hb:=k.cb;obtain ⟨e,z,hz,rfl,z1,z2⟩:∃ e z,gq a b = .out e z/\(e = .exit 0/\z.a=a/\z.b=b):=by
  unfold gq;refine bn (step:=ng) (fun j y=>y.a=a/\y.b=b/\y.i=(j:Int)/\j<=a.color.n) _ a.color.n (by have:gd=1000000000000:=rfl; omega) (fun j y hj ⟨f1,f2,f3,f4⟩=>?_) ⟨rfl,rfl,rfl,cP _⟩;have w1:ak (y.i+1)=y.i+1:=aj;unfold ng bj;by_cases bt:y.i < ((y.a.color.n:Nat):Int)
  ·have eH:j < a.color.n:=by rw [f1] at bt; omega
   have hg:y.a.color.get (Int.toNat y.i)=y.b.color.get (Int.toNat y.i):=by rw [f1,f2,f3,bU]; exact k.cg j eH
   have TD:y.i < ((y.b.color.n:Nat):Int):=by rw [f2,<- k.cn]; omega
   simp only [hg,w1,ai,aw,bD,QO,jk,av bt,av (show (0:Int)<=y.i by omega),av TD];exact .inl ⟨_,rfl,eH,f1,f2,by show y.i+1=_; omega,by omega⟩
  ·simp only [aw,az bt]
   exact .inr ⟨_,_,rfl,rfl,rfl,f1,f2⟩
 have s0:(gq a b).st=z:=by rw [hz]; rfl
 have b0:(gq a b).by (.exit 0)=true:=by rw [hz]; rfl
 have e1:ye a b=some true:=by unfold ye; rw [s0,z1,z2]; exact adq _ _ k.dn k.db k.dg
 have e2:yf a b=some true:=by unfold yf; rw [s0,z1,z2]; exact adq _ _ k.n1 k.b1 k.g1
 have e3:yg a b=some true:=by unfold yg; rw [s0,z1,z2]; exact adq _ _ k.n2 k.b2 k.g2
 unfold tB;rw [k.w,k.h,k.cn];simp only [jO,aw,b0,e1,e2,e3,bx,bq,ai]
def In (a b:Int):Prop:=-b<=a/\a<=b
def adr (r:jz) (b:Int):Prop:=In r.e0 b/\In r.e1 b/\In r.e2 b
def MIn (m:cN) (b:Int):Prop:=adr m.e0 b/\adr m.e1 b/\adr m.e2 b
def mC (c:aE):Prop:=Vg c/\MIn c.m 256
theorem yh (c:aE):∃ e,jD c=some e/\(e=0\/e=150)/\(e=0↔mC c):=by
 obtain ⟨e,h1,h2⟩:=Ak c.pos;unfold jD zo zp zq zr zt zu zv zw zx zy xY xZ x4 x5;simp only [aid,h1,bx,bq,ai];have key:∀ (p:Prop) (b:Bool) (r:Option Int),(b=true↔p)->(mC c->p)->(p->∃ e,r=some e/\(e=0\/e=150)/\(e=0↔mC c))->∃ e,cond b r (some 150)=some e/\(e=0\/e=150)/\(e=0↔mC c):=by
  intro p b r hp hc h;cases b with
  | true=>exact h (hp.1 rfl)
  | false=>exact ⟨150,rfl,.inr rfl,fun h=>by omega,fun h=>by have:=hp.2 (hc h); simp at this⟩
 refine key (zc c.pos) _ _ (by simpa using h2) (fun h=>h.1.1) fun g0=>?_;refine key _ _ _ decide_eq_true_iff (fun h=>h.1.2.1) fun g1=>?_;refine key _ _ _ decide_eq_true_iff (fun h=>h.1.2.2.1) fun g2=>?_;refine key _ _ _ decide_eq_true_iff (fun h=>h.1.2.2.2.1) fun g3=>?_;refine key _ _ _ decide_eq_true_iff (fun h=>h.1.2.2.2.2) fun g4=>?_;refine key _ _ _ decide_eq_true_iff (fun h=>h.2.1.1) fun m0=>?_;refine key _ _ _ decide_eq_true_iff (fun h=>h.2.1.2.1) fun m1=>?_;refine key _ _ _ decide_eq_true_iff (fun h=>h.2.1.2.2) fun m2=>?_;refine key _ _ _ decide_eq_true_iff (fun h=>h.2.2.1.1) fun m3=>?_;refine key _ _ _ decide_eq_true_iff (fun h=>h.2.2.1.2.1) fun m4=>?_;refine key _ _ _ decide_eq_true_iff (fun h=>h.2.2.1.2.2) fun m5=>?_;refine key _ _ _ decide_eq_true_iff (fun h=>h.2.2.2.1) fun m6=>?_;refine key _ _ _ decide_eq_true_iff (fun h=>h.2.2.2.2.1) fun m7=>?_;by_cases m8 : -256<=c.m.e2.e2/\c.m.e2.e2<=256
 ·rw [av m8]
  exact ⟨0,rfl,.inl rfl,fun _=>⟨⟨g0,g1,g2,g3,g4⟩,⟨m0,m1,m2⟩,⟨m3,m4,m5⟩,m6,m7,m8⟩,fun _=>rfl⟩
 ·rw [az m8]
  exact ⟨150,rfl,.inr rfl,fun h=>by omega,fun h=>absurd h.2.2.2.2.2 m8⟩
def aeP (r:jz) (x y z:Int):Int:=r.e0 * x+r.e1 * y+r.e2 * z
def nh (c:aE) (v:iP):iP:=⟨aeP c.m.e0 (v.x - c.pos.x) (v.y - c.pos.y) (v.z - c.pos.z) / 256,aeP c.m.e1 (v.x - c.pos.x) (v.y - c.pos.y) (v.z - c.pos.z) / 256,aeP c.m.e2 (v.x - c.pos.x) (v.y - c.pos.y) (v.z - c.pos.z) / 256⟩
theorem apn {m:cN} (h:MIn m 256):xC m=some true:=by
 obtain ⟨⟨⟨a1,a2⟩,⟨a3,a4⟩,a5,a6⟩,⟨⟨b1,b2⟩,⟨b3,b4⟩,b5,b6⟩,⟨c1,c2⟩,⟨c3,c4⟩,c5,c6⟩:=h;unfold xC;simp only [az (show ¬ m.e0.e0 < -(1024:Int) by omega),az (show ¬ m.e0.e0 > (1024:Int) by omega),az (show ¬ m.e0.e1 < -(1024:Int) by omega),az (show ¬ m.e0.e1 > (1024:Int) by omega),az (show ¬ m.e0.e2 < -(1024:Int) by omega),az (show ¬ m.e0.e2 > (1024:Int) by omega),
  az (show ¬ m.e1.e0 < -(1024:Int) by omega),az (show ¬ m.e1.e0 > (1024:Int) by omega),az (show ¬ m.e1.e1 < -(1024:Int) by omega),az (show ¬ m.e1.e1 > (1024:Int) by omega),az (show ¬ m.e1.e2 < -(1024:Int) by omega),az (show ¬ m.e1.e2 > (1024:Int) by omega),
  az (show ¬ m.e2.e0 < -(1024:Int) by omega),az (show ¬ m.e2.e0 > (1024:Int) by omega),az (show ¬ m.e2.e1 < -(1024:Int) by omega),az (show ¬ m.e2.e1 > (1024:Int) by omega),az (show ¬ m.e2.e2 < -(1024:Int) by omega),az (show ¬ m.e2.e2 > (1024:Int) by omega),aw]
theorem aqD {r:jz} {x y z:Int} (h:adr r 256) (hx:In x 8192) (hy:In y 8192) (hz:In z 8192):In (r.e0 * x) 2097152/\In (r.e1 * y) 2097152/\In (r.e2 * z) 2097152:=by
 unfold In at *;have a:=mq (a:=r.e0) (b:=x) (c:=256) (d:=8192) (by omega) h.1 hx;have b:=mq (a:=r.e1) (b:=y) (c:=256) (d:=8192) (by omega) h.2.1 hy;have c:=mq (a:=r.e2) (b:=z) (c:=256) (d:=8192) (by omega) h.2.2 hz;omega
theorem Zp {r:jz} {x y z:Int} (h:adr r 256) (hx:In x 8192) (hy:In y 8192) (hz:In z 8192):cR (ak ((ak ((ak ((0:Int)+(ak (r.e0 * x))))+(ak (r.e1 * y))))+(ak (r.e2 * z)))) (256:Int)=some (aeP r x y z / 256,0)/\In (aeP r x y z / 256) 24576:=by
 obtain ⟨a,b,c⟩:=aqD h hx hy hz;unfold In at *;unfold aeP;generalize r.e0 * x=p at *;generalize r.e1 * y=q at *;generalize r.e2 * z=u at *;rw [aj (n:=p),aj (n:=q),aj (n:=u),aj (n:=0+p),aj (n:=0+p+q),aj (n:=0+p+q+u),Eo _ _ (by omega) (by omega)];rw [show 0+p+q+u=p+q+u by omega];exact ⟨rfl,by omega⟩
theorem an3 {c:aE} {v:iP} (hc:mC c) (hv:zc v):mj c v=some (nh c v,0)/\In (nh c v).x 24576/\In (nh c v).y 24576/\In (nh c v).z 24576:=by
 obtain ⟨⟨⟨p1,p2,p3,p4,p5,p6⟩,_⟩,m0,m1,m2⟩:=id hc;obtain ⟨v1,v2,v3,v4,v5,v6⟩:=id hv;have hx:In (v.x - c.pos.x) 8192:=by unfold In; omega
 have hy:In (v.y - c.pos.y) 8192:=by unfold In; omega
 have hz:In (v.z - c.pos.z) 8192:=by unfold In; omega
 obtain ⟨f0,i0⟩:=Zp m0 hx hy hz;obtain ⟨f1,i1⟩:=Zp m1 hx hy hz;obtain ⟨f2,i2⟩:=Zp m2 hx hy hz;refine ⟨?_,i0,i1,i2⟩;obtain ⟨e,h1,_,h2⟩:=yh c;have he:e=0:=h2.2 hc;subst he;have e0:wN c v=some 0:=h1;obtain ⟨e,h3,h4⟩:=Ak v;have he:e=0:=h4.2 hv;subst he;have e1:wO c v=some 0:=h3;have e2:tt c v=some (nh c v,0):=by
  unfold tt;rw [aj (n:=v.x - c.pos.x),aj (n:=v.y - c.pos.y),aj (n:=v.z - c.pos.z)];obtain ⟨b,EE,vy⟩:=aia 32768 (Sl.lit [v.x - c.pos.x,v.y - c.pos.y,v.z - c.pos.z]) (by show 3<=1000; omega) (by decide);have hb:b=true:=vy.2 ((avj (p:=fun n=>-32768<=n/\n<=32768) _ _ _).2 (by unfold In at *; omega));subst hb;have t0:H5 c.m ⟨v.x - c.pos.x,v.y - c.pos.y,v.z - c.pos.z⟩=some true:=apn hc.2;have t1:C1 c.m ⟨v.x - c.pos.x,v.y - c.pos.y,v.z - c.pos.z⟩=some true:=EE;have t2:vF c.m ⟨v.x - c.pos.x,v.y - c.pos.y,v.z - c.pos.z⟩=some ⟨(nh c v).x,(nh c v).y,(nh c v).z⟩:=by
   unfold vF Ae;have q0:H2 c.m ⟨v.x - c.pos.x,v.y - c.pos.y,v.z - c.pos.z⟩=some ((nh c v).x,0):=f0;have q1:H3 c.m ⟨v.x - c.pos.x,v.y - c.pos.y,v.z - c.pos.z⟩=some ((nh c v).y,0):=f1;have q2:H4 c.m ⟨v.x - c.pos.x,v.y - c.pos.y,v.z - c.pos.z⟩=some ((nh c v).z,0):=f2;simp only [q0,q1,q2,bx,bq,ai]
  unfold Af;simp only [t0,t1,t2,bx,bq,ai,jk,aw]
 unfold mj;simp only [e0,e1,e2,bx,bq,ai,jO,aw]
structure mD (p:bK):Prop where
 x:In p.p.x 32768
 y:In p.p.y 32768
 z:In p.p.z 32768
 u:0<=p.u/\p.u<=255
 v:0<=p.v/\p.v<=255
theorem Db {p:bK} (h:mD p):kY p=some 0:=by
 obtain ⟨⟨x1,x2⟩,⟨y1,y2⟩,⟨z1,z2⟩,⟨u1,u2⟩,v1,v2⟩:=h;unfold kY;simp only [az (show ¬ p.p.x < -(32768:Int) by omega),az (show ¬ p.p.x > (32768:Int) by omega),az (show ¬ p.p.y < -(32768:Int) by omega),az (show ¬ p.p.y > (32768:Int) by omega),az (show ¬ p.p.z < -(32768:Int) by omega),az (show ¬ p.p.z > (32768:Int) by omega),az (show ¬ p.u < (0:Int) by omega),az (show ¬ p.u > (255:Int) by omega),az (show ¬ p.v < (0:Int) by omega),az (show ¬ p.v > (255:Int) by omega),aw]
theorem ajB {ax:Int} {l:Sl bK} (hn:256<=ax/\ax<=4096) (hl:l.n<=1000) (h:∀ i,i < l.n->mD (l.get i)):s6 ax l=some 0:=by
 obtain ⟨e,z,hz,rfl⟩:∃ e z,sa ax l = .out e z/\e = .exit 0:=by
  unfold sa;refine bn (step:=lh) (fun j y=>y.t14=l/\y.t15=(l.n:Int)/\y.t16=(j:Int)/\j<=l.n) (fun e _=>e = .exit 0) l.n (by have:gd=1000000000000:=rfl; omega) (fun j y hj ⟨f1,f2,f3,f4⟩=>?_) ⟨rfl,rfl,rfl,cP _⟩;have w1:ak (y.t16+1)=y.t16+1:=aj;unfold lh bj;by_cases bt:y.t16 < y.t15
  ·have e0:qN y=some 0:=by
    unfold qN;rw [f1,f3,bU];exact Db (h j (by omega))
   simp only [e0,w1,bx,bq,ai,jO,aw,bD,av bt,av (show (0:Int)<=y.t16 by omega),av (show y.t16 < ((y.t14.n:Nat):Int) by rw [f1]; omega)];exact .inl ⟨_,rfl,by omega,f1,f2,by show y.t16+1=_; omega,by omega⟩
  ·simp only [aw,az bt]
   exact .inr ⟨_,_,rfl,rfl,rfl⟩
 have b1:(sa ax l).by (.exit 0)=true:=by rw [hz]; rfl
 unfold s6;simp only [b1,ai,az (show ¬ ax < 256 by omega),az (show ¬ ax > 4096 by omega),aw]
def rU (a b p w:Int):Int:=a+((b - a) * p) / w
theorem abn {a b p w:Int} (hp:0<=p/\p<=w) (hw:1<=w):min a b<=rU a b p w/\rU a b p w<=max a b:=by
 unfold rU;rcases Int.le_total a b with h | h
 ·have h1:0<=(b - a) * p:=wi (by omega) hp.1
  have h2:(b - a) * p<=(b - a) * w:=Int.mul_le_mul_of_nonneg_left hp.2 (by omega);have h3:0<=(b - a) * p / w:=Int.ediv_nonneg h1 (by omega);have h4:(b - a) * p / w<=b - a:=Int.ediv_le_of_le_mul (by omega) h2;omega
 ·have h1:(b - a) * p<=0:=Int.mul_nonpos_of_nonpos_of_nonneg (by omega) hp.1
  have h2:(b - a) * w<=(b - a) * p:=Int.mul_le_mul_of_nonpos_left (by omega) hp.2;have h3:b - a<=(b - a) * p / w:=Int.le_ediv_of_mul_le (by omega) h2;have h4:(b - a) * p / w<=0:=Int.ediv_le_of_le_mul (by omega) (by omega);omega
def IY (ax:Int) (a b:bK):bK:=⟨⟨rU a.p.x b.p.x (ax - a.p.z) (b.p.z - a.p.z),rU a.p.y b.p.y (ax - a.p.z) (b.p.z - a.p.z),ax⟩,rU a.u b.u (ax - a.p.z) (b.p.z - a.p.z),rU a.v b.v (ax - a.p.z) (b.p.z - a.p.z)⟩
theorem SD {a b p w m:Int} (ha:In a m) (hb:In b m) (hm:0<=m/\m<=32768) (hp:0<=p/\p<=w) (hw:1<=w/\w<=65536):cR (ak ((ak (b - a)) * (ak p))) (ak w)=some (((b - a) * p) / w,0):=by
 unfold In at *;have h:=mq (a:=b - a) (b:=p) (c:=65536) (d:=65536) (by omega) (by omega) (by omega);rw [aj (n:=b - a),aj (n:=p),aj (n:=w),aj (n:=(b - a) * p),Eo _ _ (by omega) (by omega)]
theorem AI {ax:Int} {a b:bK} (hn:256<=ax/\ax<=4096) (ha:mD a) (hb:mD b) (haz:a.p.z < ax) (hbz:ax<=b.p.z):fk ax a b=some (IY ax a b,0)/\mD (IY ax a b):=by
 have e0:yO ax a b=some 0:=ajB hn (by show 2<=1000; omega) (fun i hi=>by
  have hi:i < 2:=hi;rcases i with _ | _ | i
  ·exact ha
  ·exact hb
  ·omega)
 obtain ⟨xa,ya,za,ua,va⟩:=id ha;obtain ⟨xb,yb,zb,ub,vb⟩:=id hb;unfold In at za zb;have hp:0<=ax - a.p.z/\ax - a.p.z<=b.p.z - a.p.z:=by omega
 have hw:1<=b.p.z - a.p.z/\b.p.z - a.p.z<=65536:=by omega
 have e1:H6 ax a b=_:=SD xa xb (by decide) hp hw;have e2:H7 ax a b=_:=SD ya yb (by decide) hp hw;have e3:H8 ax a b=_:=SD (m:=255) (a:=a.u) (b:=b.u) (by unfold In; omega) (by unfold In; omega) (by decide) hp hw;have e4:H9 ax a b=_:=SD (m:=255) (a:=a.v) (b:=b.v) (by unfold In; omega) (by unfold In; omega) (by decide) hp hw;have r1:=abn (a:=a.p.x) (b:=b.p.x) hp hw.1;have r2:=abn (a:=a.p.y) (b:=b.p.y) hp hw.1;have r3:=abn (a:=a.u) (b:=b.u) hp hw.1;have r4:=abn (a:=a.v) (b:=b.v) hp hw.1;unfold In at xa ya xb yb;refine ⟨?_,⟨by show In (rU _ _ _ _) _; unfold In; omega,by show In (rU _ _ _ _) _; unfold In; omega,by show In ax _; unfold In; omega,by show 0<=rU _ _ _ _/\rU _ _ _ _<=_; omega,by show 0<=rU _ _ _ _/\rU _ _ _ _<=_; omega⟩⟩;unfold rU at r1 r2 r3 r4;unfold fk;simp only [e0,e1,e2,e3,e4,bx,bq,ai,jO,aw,az (show ¬ a.p.z >= ax by omega),az (show ¬ b.p.z < ax by omega)];rw [aj (n:=a.p.x+_),aj (n:=a.p.y+_),aj (n:=a.u+_),aj (n:=a.v+_)];rfl
def uD (ax:Int) (a b:bK):List bK:=cond (decide (a.p.z >= ax)) (cond (decide (b.p.z >= ax)) [a] [a,IY ax b a]) (cond (decide (b.p.z >= ax)) [IY ax a b] [])
def AJ (ax:Int) (t:bk):List bK:=uD ax t.e0 t.e1++uD ax t.e1 t.e2++uD ax t.e2 t.e0
def Qr (L:List bK):List bk:=(List.range (L.length - 2)).map fun k=>⟨L.getD 0 default,L.getD (k+1) default,L.getD (k+2) default⟩
structure D5 (t:bk):Prop where
 e0:mD t.e0
 e1:mD t.e1
 e2:mD t.e2
theorem Hl {α:Type} [Inhabited α] (l:Sl α) (a b:α):bH ((l.push a).push b)=bH l++[a,b]:=by
 rw [ki,ki,HJ];rfl
theorem atD {ax:Int} {t:bk} (hn:256<=ax/\ax<=4096) (ht:D5 t) (out:Sl bk) (ee:Int) (l:Sl bK) (hl:l.n<=10):∃ l',dK ⟨ax,out,ee,l,t,0,t⟩ = .next ⟨ax,out,ee,l',t,1,t⟩/\bH l' = bH l++uD ax t.e0 t.e1/\l'.n<=l.n+2:=by
 have w1:ak ((0:Int)+1)=1:=aj;have m1:Int.tmod (1:Int) 3=1:=rfl;have a1:ij 40 l.n 1=true:=eZ;have a2:ij 40 (l.n+1) 1=true:=eZ;unfold dK eo uD nm aC;simp only [w1,m1,a1,a2,aG,ai,aw,bD,av (show (0:Int) < 3 by omega),av (show (0:Int)=0 from rfl),av (show (1:Int)=1 from rfl),az (show ¬ (1:Int)=0 by omega)];by_cases c1:t.e0.p.z >= ax
 ·by_cases c2:t.e1.p.z >= ax
  ·rw [av c1,av c2]
   exact ⟨_,rfl,ki _ _,Dd _⟩
  ·have e:DP ⟨ax,out,ee,l,t,0,t⟩=some (IY ax t.e1 t.e0,0):=(AI hn ht.e1 ht.e0 (by omega) c1).1
   rw [av c1,az c2];simp only [e,ai,aw,bx,bq];exact ⟨_,rfl,Hl _ _ _,aW _⟩
 ·by_cases c2:t.e1.p.z >= ax
  ·have e:DQ ⟨ax,out,ee,l,t,0,t⟩=some (IY ax t.e0 t.e1,0):=(AI hn ht.e0 ht.e1 (by omega) c2).1
   rw [az c1,av c2];simp only [e,ai,aw,bx,bq];exact ⟨_,rfl,ki _ _,Dd _⟩
  ·rw [az c1,az c2]
   exact ⟨_,rfl,(py _).symm,MV _ _⟩
theorem atE {ax:Int} {t:bk} (hn:256<=ax/\ax<=4096) (ht:D5 t) (out:Sl bk) (ee:Int) (l:Sl bK) (hl:l.n<=10):∃ l',dK ⟨ax,out,ee,l,t,1,t⟩ = .next ⟨ax,out,ee,l',t,2,t⟩/\bH l' = bH l++uD ax t.e1 t.e2/\l'.n<=l.n+2:=by
 have w1:ak ((1:Int)+1)=2:=aj;have m1:Int.tmod (2:Int) 3=2:=rfl;have a1:ij 40 l.n 1=true:=eZ;have a2:ij 40 (l.n+1) 1=true:=eZ;unfold dK eo uD nm aC;simp only [w1,m1,a1,a2,aG,ai,aw,bD,av (show (1:Int) < 3 by omega),av (show (1:Int)=1 from rfl),av (show (2:Int)=2 from rfl),az (show ¬ (1:Int)=0 by omega),az (show ¬ (2:Int)=0 by omega),az (show ¬ (2:Int)=1 by omega)];by_cases c1:t.e1.p.z >= ax
 ·by_cases c2:t.e2.p.z >= ax
  ·rw [av c1,av c2]
   exact ⟨_,rfl,ki _ _,Dd _⟩
  ·have e:Cg ⟨ax,out,ee,l,t,1,t⟩=some (IY ax t.e2 t.e1,0):=(AI hn ht.e2 ht.e1 (by omega) c1).1
   rw [av c1,az c2];simp only [e,ai,aw,bx,bq];exact ⟨_,rfl,Hl _ _ _,aW _⟩
 ·by_cases c2:t.e2.p.z >= ax
  ·have e:Ch ⟨ax,out,ee,l,t,1,t⟩=some (IY ax t.e1 t.e2,0):=(AI hn ht.e1 ht.e2 (by omega) c2).1
   rw [az c1,av c2];simp only [e,ai,aw,bx,bq];exact ⟨_,rfl,ki _ _,Dd _⟩
  ·rw [az c1,az c2]
   exact ⟨_,rfl,(py _).symm,MV _ _⟩
theorem atF {ax:Int} {t:bk} (hn:256<=ax/\ax<=4096) (ht:D5 t) (out:Sl bk) (ee:Int) (l:Sl bK) (hl:l.n<=10):∃ l',dK ⟨ax,out,ee,l,t,2,t⟩ = .next ⟨ax,out,ee,l',t,3,t⟩/\bH l' = bH l++uD ax t.e2 t.e0/\l'.n<=l.n+2:=by
 have w1:ak ((2:Int)+1)=3:=aj;have m1:Int.tmod (3:Int) 3=0:=rfl;have a1:ij 40 l.n 1=true:=eZ;have a2:ij 40 (l.n+1) 1=true:=eZ;unfold dK eo uD nm aC;simp only [w1,m1,a1,a2,aG,ai,aw,bD,av (show (2:Int) < 3 by omega),av (show (2:Int)=2 from rfl),av (show (0:Int)=0 from rfl),az (show ¬ (2:Int)=0 by omega),az (show ¬ (2:Int)=1 by omega)];by_cases c1:t.e2.p.z >= ax
 ·by_cases c2:t.e0.p.z >= ax
  ·rw [av c1,av c2]
   exact ⟨_,rfl,ki _ _,Dd _⟩
  ·have e:Ci ⟨ax,out,ee,l,t,2,t⟩=some (IY ax t.e0 t.e2,0):=(AI hn ht.e0 ht.e2 (by omega) c1).1
   rw [av c1,az c2];simp only [e,ai,aw,bx,bq];exact ⟨_,rfl,Hl _ _ _,aW _⟩
 ·by_cases c2:t.e0.p.z >= ax
  ·have e:Cj ⟨ax,out,ee,l,t,2,t⟩=some (IY ax t.e2 t.e0,0):=(AI hn ht.e2 ht.e0 (by omega) c2).1
   rw [az c1,av c2];simp only [e,ai,aw,bx,bq];exact ⟨_,rfl,ki _ _,Dd _⟩
  ·rw [az c1,az c2]
   exact ⟨_,rfl,(py _).symm,MV _ _⟩
def avl (ax:Int) (t:bk):Nat->List bK
 | 0=>[]
 | 1=>uD ax t.e0 t.e1
 | 2=>uD ax t.e0 t.e1++uD ax t.e1 t.e2
 | _=>AJ ax t
theorem aix {ax:Int} {t:bk} (hn:256<=ax/\ax<=4096) (ht:D5 t):∃ z,il ax t = .out (.exit 0) z/\bH z.l=AJ ax t/\z.l.n<=6/\z.out.n=0:=by
 obtain ⟨e,z,hz,rfl,h⟩:∃ e z,il ax t = .out e z/\(e = .exit 0/\bH z.l=AJ ax t/\z.l.n<=6/\z.out.n=0):=by
  unfold il;refine bn (step:=dK) (fun j y=>∃ (out:Sl bk) (ee:Int) (l:Sl bK),y=⟨ax,out,ee,l,t,(j:Int),t⟩/\out.n=0/\bH l=avl ax t j/\l.n<=2 * j/\j<=3) _ 3 (by have:gd=1000000000000:=rfl; omega) (fun j y hj ⟨out,ee,l,hy,h0,h1,h2,h3⟩=>?_) ⟨_,_,_,rfl,rfl,rfl,aW _,by omega⟩;subst hy;rcases j with _ | _ | _ | j
  ·obtain ⟨l',q1,q2,q3⟩:=atD hn ht out ee l (by omega)
   exact .inl ⟨_,q1,by omega,out,ee,l',rfl,h0,by rw [q2,h1]; rfl,by omega,by omega⟩
  ·obtain ⟨l',q1,q2,q3⟩:=atE hn ht out ee l (by omega)
   exact .inl ⟨_,q1,by omega,out,ee,l',rfl,h0,by rw [q2,h1]; rfl,by omega,by omega⟩
  ·obtain ⟨l',q1,q2,q3⟩:=atF hn ht out ee l (by omega)
   exact .inl ⟨_,q1,by omega,out,ee,l',rfl,h0,by rw [q2,h1]; rfl,by omega,by omega⟩
  ·have hj3:j=0:=by omega
   subst hj3;refine .inr ⟨.exit 0,⟨ax,out,ee,l,t,((0+1+1+1:Nat):Int),t⟩,?_,rfl,rfl,h1,by show l.n<=6; omega,h0⟩;unfold dK eo nm aC;simp only [aG,ai,aw,az (show ¬ ((((0+1+1+1:Nat):Int)) < 3) by omega)]
 exact ⟨z,hz,h⟩
theorem K2 {α:Type} [Inhabited α] (l:Sl α) {i:Nat} (h:i < l.n):(bH l).getD i default=l.get i:=by
 rw [iQ,Ep l i h];rfl
theorem apo {ax:Int} {t:bk} (hn:256<=ax/\ax<=4096) (ht:D5 t):∃ z,kJ ax t = .out (.exit 2) z/\bH z.out=Qr (AJ ax t):=by
 obtain ⟨y,hy,y1,y2,y3⟩:=aix hn ht;have hs:(il ax t).st=y:=by rw [hy]; rfl
 obtain ⟨e,z,hz,rfl,h⟩:∃ e z,kJ ax t = .out e z/\(e = .exit 2/\bH z.out=Qr (AJ ax t)):=by
  unfold kJ;rw [hs];refine bn (step:=lk) (fun j x=>x.l=y.l/\x.i=((j+2:Nat):Int)/\(j=0\/j+2<=y.l.n)/\x.out.n=j/\bH x.out=(List.range j).map fun k=>(⟨y.l.get 0,y.l.get (k+1),y.l.get (k+2)⟩:bk)) _ 10 (by have:gd=1000000000000:=rfl; omega) (fun j x hj ⟨f1,f2,f3,f4,f5⟩=>?_) ⟨rfl,rfl,.inl rfl,y3,qv.1 (by rw [gg,y3])⟩;have w1:ak (x.i+1)=((j+1+2:Nat):Int):=by rw [aj (by omega) (by omega)]; omega
  have w2:ak (x.i - 1)=((j+1:Nat):Int):=by rw [aj (by omega) (by omega)]; omega
  have a1:ij 120 x.out.n 1=true:=eZ;unfold lk bj nm aC;by_cases h:x.i < ((x.l.n:Nat):Int)
  ·have hln:j+2 < y.l.n:=by rw [f1] at h; omega
   simp only [w1,w2,a1,aG,ai,bD,av h,av (show (0:Int) < ((x.l.n:Nat):Int) by omega),av (show (0:Int)<=((j+1:Nat):Int) by omega),av (show ((j+1:Nat):Int) < ((x.l.n:Nat):Int) by omega),av (show (0:Int)<=x.i by omega)];refine .inl ⟨_,rfl,by omega,f1,rfl,.inr (by omega),by show x.out.n+1=_; omega,?_⟩;show bH (Sl.push _ _)=_;rw [ki,f5,QP,HM,f1,f2,bU,bU];rfl
  ·simp only [aG,ai,aw,az h]
   refine .inr ⟨_,_,rfl,rfl,rfl,?_⟩;rw [f5];unfold Qr;rw [<- y1,gg];have hjn:y.l.n - 2=j:=by rw [f1] at h; omega
   rw [hjn];refine List.map_congr_left fun k hk=>?_;have:=A4.1 hk;rw [K2 _ (by omega),K2 _ (by omega),K2 _ (by omega)]
 exact ⟨z,hz,h⟩
theorem an4 {ax:Int} {t:bk} (hn:256<=ax/\ax<=4096) (ht:D5 t):∃ r,vd ax t=some (r,0)/\bH r=Qr (AJ ax t):=by
 obtain ⟨y,hy,_⟩:=aix hn ht;obtain ⟨z,hz,h⟩:=apo hn ht;have e0:wS ax t=some 0:=Db ht.e0;have e3:wT ax t=some 0:=Db ht.e1;have e4:wU ax t=some 0:=Db ht.e2;have b1:(il ax t).by (.exit 0)=true:=by rw [hy]; rfl
 have b2:(kJ ax t).by (.exit 2)=true:=by rw [hz]; rfl
 have b3:(kJ ax t).st=z:=by rw [hz]; rfl
 refine ⟨z.out,?_,h⟩;unfold vd se yw aC;simp only [e0,e3,e4,b1,b2,b3,aG,bx,bq,ai,jO,aw,az (show ¬ ax < 256 by omega),az (show ¬ ax > 4096 by omega)]
theorem aiy {ax:Int} {a b p:bK} (hn:256<=ax/\ax<=4096) (ha:mD a) (hb:mD b) (h:p∈uD ax a b):mD p/\ax<=p.p.z:=by
 unfold uD at h;by_cases c1:a.p.z >= ax
 ·by_cases c2:b.p.z >= ax
  ·rw [av c1,av c2] at h
   rw [EM.1 h];exact ⟨ha,c1⟩
  ·rw [av c1,az c2] at h
   rcases fp.1 h with h | h
   ·rw [h]; exact ⟨ha,c1⟩
   ·rw [EM.1 h]
    exact ⟨(AI hn hb ha (by omega) c1).2,Int.le_refl _⟩
 ·by_cases c2:b.p.z >= ax
  ·rw [az c1,av c2] at h
   rw [EM.1 h];exact ⟨(AI hn ha hb (by omega) c2).2,Int.le_refl _⟩
  ·rw [az c1,az c2] at h
   simp at h
theorem aiz {ax:Int} {t:bk} {p:bK} (hn:256<=ax/\ax<=4096) (ht:D5 t) (h:p∈AJ ax t):mD p/\ax<=p.p.z:=by
 unfold AJ at h;rcases mI.1 h with h | h
 ·rcases mI.1 h with h | h
  ·exact aiy hn ht.e0 ht.e1 h
  ·exact aiy hn ht.e1 ht.e2 h
 ·exact aiy hn ht.e2 ht.e0 h
theorem ads {α:Type} {L:List α} {i:Nat} {d:α} (h:i < L.length):L.getD i d∈L:=by
 rw [iQ,dF h];exact Wc h
theorem aqE {ax:Int} {t q:bk} (hn:256<=ax/\ax<=4096) (ht:D5 t) (h:q∈Qr (AJ ax t)):(mD q.e0/\ax<=q.e0.p.z)/\(mD q.e1/\ax<=q.e1.p.z)/\mD q.e2/\ax<=q.e2.p.z:=by
 unfold Qr at h;obtain ⟨k,hk,rfl⟩:=HK.1 h;have:=A4.1 hk;exact ⟨aiz hn ht (ads (by omega)),aiz hn ht (ads (by omega)),aiz hn ht (ads (by omega))⟩
def tC (c:aE) (p:bK):oT:=⟨(8 * c.sN * p.p.x) / p.p.z+4 * c.w,4 * c.h - (8 * c.sN * p.p.y) / p.p.z,Int.tdiv 16777216 p.p.z,p.u,p.v⟩
theorem SE {f x z:Int} (hf:1<=f/\f<=64) (hx:In x 32768) (hz:256<=z/\z<=32768):cR (ak ((ak ((8:Int) * f)) * x)) z=some ((8 * f * x) / z,0)/\In ((8 * f * x) / z) 16777216:=by
 unfold In at *;have h:=mq (a:=8 * f) (b:=x) (c:=512) (d:=32768) (by omega) (by omega) hx;rw [aj (n:=8 * f),aj (n:=8 * f * x),Eo _ _ (by omega) (by omega)];generalize 8 * f * x=q at *;have l1 : -16777216<=q / z:=Int.le_ediv_of_mul_le (by omega) (by omega);have l2:q / z<=16777216:=Int.ediv_le_of_le_mul (by omega) (by omega);exact ⟨rfl,l1,l2⟩
theorem SF {c:aE} {p:bK} (hc:mC c) (hp:mD p) (hz:c.ax<=p.p.z):px c p=some (tC c p,0):=by
 obtain ⟨e,h1,_,h2⟩:=yh c;have he:e=0:=h2.2 hc;subst he;obtain ⟨⟨_,hf,hn,hw,hh⟩,_⟩:=id hc;obtain ⟨hx,hy,⟨z1,z2⟩,_,_⟩:=id hp;have e0:yz c p=some 0:=h1;have e1:yA c p=some 0:=Db hp;obtain ⟨f2,i2⟩:=SE hf hx (z:=p.p.z) (by omega);obtain ⟨f3,i3⟩:=SE hf hy (z:=p.p.z) (by omega);have e2:Ds c p=some ((8 * c.sN * p.p.x) / p.p.z,0):=f2;have e3:Dt c p=some ((8 * c.sN * p.p.y) / p.p.z,0):=f3;have ht:Int.tdiv 16777216 p.p.z=16777216 / p.p.z:=O0 (by decide);have t1:0<=(16777216:Int) / p.p.z:=Int.ediv_nonneg (by decide) (by omega);have t2:(16777216:Int) / p.p.z<=16777216:=Int.ediv_le_self _ (by decide);unfold In at i2 i3;unfold px tC;simp only [e0,e1,e2,e3,bx,bq,ai,jO,aw,az (show ¬ p.p.z < c.ax by omega),az (show ¬ p.p.z=0 by omega),rK];rw [aj (n:=4 * c.w),aj (n:=4 * c.h),aj (n:=_+4 * c.w),aj (n:=4 * c.h - _),aj (n:=Int.tdiv 16777216 p.p.z)]
def rV (t:aK) (cA:Int):Bool:=((rq t cA).getD default).1
theorem alP (t:aK) (cA:Int):∃ e,rq t cA=some (rV t cA,e):=by
 obtain ⟨⟨b,e⟩,h⟩:=OD (akD t cA);refine ⟨e,?_⟩;unfold rV;rw [h];rfl
theorem Zq (t:aK) (cA:Int):rV t cA=true↔Sc t/\(cA=0/\su t≠0\/cA=1/\0 < su t\/cA=2/\su t < 0):=by
 unfold rV rq;rcases FL t with ⟨ht,h⟩ | ⟨ht,e,h,he⟩
 ·have e0:oi t cA=some (su t,0):=h
  simp only [e0,bx,bq,ai,jO,aw];by_cases c0:cA=0
  ·subst c0
   simp [ht]
  ·rw [show (cA==(0:Int))=false by simpa using c0,aw]
   by_cases c1:cA=1
   ·subst c1
    simp [ht]
   ·rw [show (cA==(1:Int))=false by simpa using c1,aw]
    by_cases c2:cA=2
    ·subst c2
     simp [ht]
    ·rw [show (cA==(2:Int))=false by simpa using c2,aw]
     simp [c0,c1,c2]
 ·have e0:oi t cA=some (0,e):=h
  simp only [e0,bx,bq,ai,show (e != (0:Int))=true by simpa using he];simp [ht]
def AK (t:aK):aK:=cond (decide (su t < 0)) ⟨t.e0,t.e2,t.e1⟩ t
theorem apq (t:aK):su ⟨t.e0,t.e2,t.e1⟩ = - su t:=by
 show (t.e2.x - t.e0.x) * (t.e1.y - t.e0.y) - (t.e1.x - t.e0.x) * (t.e2.y - t.e0.y) = -((t.e1.x - t.e0.x) * (t.e2.y - t.e0.y) - (t.e2.x - t.e0.x) * (t.e1.y - t.e0.y));omega
theorem abo {t:aK} {cA:Int} (h:rV t cA=true):s4 t=some (AK t,0)/\DS (AK t):=by
 obtain ⟨ht,hc⟩:=(Zq t cA).1 h;have eY:su t≠0:=by omega
 rcases FL t with ⟨_,ha⟩ | ⟨hn,_⟩
 ·have e0:r8 t=some (su t,0):=ha
  unfold s4 AK;simp only [e0,bx,bq,ai,jO,aw,show (su t==(0:Int))=false by simpa using eY];by_cases bt:su t < 0
  ·rw [av bt]
   exact ⟨rfl,⟨ht.1,ht.2.2,ht.2.1⟩,by show 0 < su ⟨t.e0,t.e2,t.e1⟩; rw [apq]; omega⟩
  ·rw [az bt]
   exact ⟨rfl,ht,by show 0 < su t; omega⟩
 ·exact absurd ht hn
def qG (c:aE) (q:bk):aK:=⟨tC c q.e0,tC c q.e1,tC c q.e2⟩
def CE (c:aE) (cA:Int) (L:List bk):List aK:=L.filterMap fun q=>cond (rV (qG c q) cA) (some (AK (qG c q))) none
theorem aeQ (c:aE) (cA:Int) (L:List bk) (q:bk):CE c cA (L++[q])=CE c cA L++cond (rV (qG c q) cA) [AK (qG c q)] []:=by
 unfold CE;rw [List.filterMap_append,List.filterMap_cons,List.filterMap_nil];cases rV (qG c q) cA <;> rfl
theorem alQ {c:aE} {cA:Int} {L:List bk} {t:aK} (h:t∈CE c cA L):DS t:=by
 obtain ⟨q,_,hq⟩:=List.mem_filterMap.1 h;cases hs:rV (qG c q) cA with
 | true=>
  rw [hs,ai] at hq;rw [<- qw hq];exact (abo hs).2
 | false=>rw [hs] at hq; simp at hq
structure QOk (c:aE) (q:bk):Prop where
 o0:mD q.e0/\c.ax<=q.e0.p.z
 o1:mD q.e1/\c.ax<=q.e1.p.z
 o2:mD q.e2/\c.ax<=q.e2.p.z
theorem alR {c:aE} (hc:mC c) (x:fq) (hxc:x.c=c) (hq:∀ j,j < x.t72.n->QOk c (x.t72.get j)) (hn:x.t72.n<=1000) (h1:x.t73=(x.t72.n:Int)) (h0:x.t74=0) (ho:x.out.n=0) :
  ∃ e z,goN gS x = .out e z/\(e = .exit 2/\bH z.out=CE c x.x.look.cA (bH x.t72)):=by
 refine bn (step:=gS) (fun j y=>y.t72=x.t72/\y.t73=(x.t72.n:Int)/\y.t74=(j:Int)/\j<=x.t72.n/\y.c=c/\y.x=x.x/\y.out.n<=j/\bH y.out=CE c x.x.look.cA ((bH x.t72).take j)) _ x.t72.n (by have:gd=1000000000000:=rfl; omega) (fun j y hj ⟨f1,f2,f3,f4,f5,f6,f7,f8⟩=>?_) ⟨rfl,h1,h0,cP _,hxc,rfl,by omega,qv.1 (by rw [gg,ho])⟩;have w1:ak (y.t74+1)=y.t74+1:=aj;have a1:ij 120 y.out.n 1=true:=eZ;unfold gS bj nm aC;by_cases h:y.t74 < y.t73
 ·have eH:j < x.t72.n:=by omega
  have hg:y.t72.get (Int.toNat y.t74)=x.t72.get j:=by rw [f1,f3,bU]
  obtain ⟨o0,o1,o2⟩:=hq j eH;have e0:oX y=some (tC c (x.t72.get j).e0,0):=by unfold oX; rw [hg,f5]; exact SF hc o0.1 o0.2
  have e1:oY y=some (tC c (x.t72.get j).e1,0):=by unfold oY; rw [hg,f5]; exact SF hc o1.1 o1.2
  have e2:oZ y=some (tC c (x.t72.get j).e2,0):=by unfold oZ; rw [hg,f5]; exact SF hc o2.1 o2.2
  obtain ⟨e,hs⟩:=alP (qG c (x.t72.get j)) x.x.look.cA;have e3:o4 y=some (rV (qG c (x.t72.get j)) x.x.look.cA,e):=by
   unfold o4;rw [e0,e1,e2,f6];exact hs
  have tk:CE c x.x.look.cA ((bH x.t72).take (j+1))=CE c x.x.look.cA ((bH x.t72).take j)++cond (rV (qG c (x.t72.get j)) x.x.look.cA) [AK (qG c (x.t72.get j))] []:=by
   rw [K0 x.t72 j eH,aeQ]
  simp only [e0,e1,e2,e3,w1,a1,aG,ai,bD,bx,bq,av h,av (show (0:Int)<=y.t74 by omega),av (show y.t74 < ((y.t72.n:Nat):Int) by rw [f1]; omega)];cases hb:rV (qG c (x.t72.get j)) x.x.look.cA with
  | true=>
   have e4:rD y=some (AK (qG c (x.t72.get j)),0):=by
    unfold rD;rw [e0,e1,e2];exact (abo hb).1
   rw [hb] at tk;simp only [e4,bx,bq,ai];refine .inl ⟨_,rfl,eH,f1,f2,by show y.t74+1=_; omega,by omega,f5,f6,by show y.out.n+1<=_; omega,?_⟩;show bH (Sl.push _ _)=_;rw [ki,f8,tk];rfl
  | false=>
   rw [hb] at tk;rw [aw];refine .inl ⟨_,rfl,eH,f1,f2,by show y.t74+1=_; omega,by omega,f5,f6,by show y.out.n<=_; omega,?_⟩;show bH y.out=_;rw [f8,tk,aw,py]
 ·simp only [aG,ai,aw,az h]
  refine .inr ⟨_,_,rfl,rfl,rfl,?_⟩;rw [f8,show j=x.t72.n by omega,EO (by rw [gg]; exact aW _)]
structure abp (x:Item):Prop where
 ok:Qd x
 v:∀ j,j < x.aH.n->zc (x.aH.get j)
 uv:∀ j,j < x.aH.n->(0<=(x.uV.get j).e0/\(x.uV.get j).e0<=255)/\0<=(x.uV.get j).e1/\(x.uV.get j).e1<=255
def aqF (c:aE) (x:Item) (n:Int):bK:=⟨nh c (x.aH.get (Int.toNat n)),(x.uV.get (Int.toNat n)).e0,(x.uV.get (Int.toNat n)).e1⟩
def adt (c:aE) (x:Item) (k:Nat):bk:=⟨aqF c x (x.bf.get k).e0,aqF c x (x.bf.get k).e1,aqF c x (x.bf.get k).e2⟩
theorem adu {c:aE} {x:Item} {n:Int} (hc:mC c) (hx:abp x) (hn:0<=n/\n < (x.aH.n:Int)):mD (aqF c x n)/\mj c (x.aH.get (Int.toNat n))=some (nh c (x.aH.get (Int.toNat n)),0):=by
 obtain ⟨h1,h2,h3,h4⟩:=an3 hc (hx.v (Int.toNat n) (by omega));obtain ⟨h5,h6⟩:=hx.uv (Int.toNat n) (by omega);unfold In at h2 h3 h4;refine ⟨⟨?_,?_,?_,h5,h6⟩,h1⟩
 ·show In (nh c _).x _; unfold In; omega
 ·show In (nh c _).y _; unfold In; omega
 ·show In (nh c _).z _; unfold In; omega
theorem akI (ax:Int) (t:bk):(AJ ax t).length<=6:=by
 have h:∀ a b,(uD ax a b).length<=2:=by
  intro a b;unfold uD;cases decide (a.p.z >= ax) <;> cases decide (b.p.z >= ax) <;> simp
 unfold AJ;rw [n7,n7];have h1:=h t.e0 t.e1; have h2:=h t.e1 t.e2; have h3:=h t.e2 t.e0;omega
theorem alS (s:Show) (c:aE) (i k:Nat) (hi:i < s.items.n) (hk:k < (s.items.get i).bf.n) (hc:mC c) (hx:abp (s.items.get i)):∃ r,kM s c (i:Int) (k:Int)=some r/\bH r=CE c (s.items.get i).look.cA (Qr (AJ c.ax (adt c (s.items.get i) k))):=by
 obtain ⟨huv,atG⟩:=hx.ok;obtain ⟨t0,t1,t2⟩:=atG k hk;obtain ⟨p0,v0⟩:=adu hc hx t0;obtain ⟨p1,v1⟩:=adu hc hx t1;obtain ⟨p2,v2⟩:=adu hc hx t2;have an5:D5 (adt c (s.items.get i) k):=⟨p0,p1,p2⟩
 have hn:256<=c.ax/\c.ax<=4096:=hc.1.2.2.1;have e0:o5 s c i k=some (nh c ((s.items.get i).aH.get (Int.toNat ((s.items.get i).bf.get k).e0)),0):=by unfold o5; rw [bU,bU]; exact v0
 have e1:o6 s c i k=some (nh c ((s.items.get i).aH.get (Int.toNat ((s.items.get i).bf.get k).e1)),0):=by unfold o6; rw [bU,bU]; exact v1
 have e2:o7 s c i k=some (nh c ((s.items.get i).aH.get (Int.toNat ((s.items.get i).bf.get k).e2)),0):=by unfold o7; rw [bU,bU]; exact v2
 obtain ⟨r,hr,Ip⟩:=an4 hn an5;have e3:mT s c i k=some (r,0):=by
  unfold mT;rw [e0,e1,e2,bU,bU];exact hr
 have hrn:r.n<=1000:=by
  rw [<- gg r,Ip];unfold Qr;rw [List.length_map,List.length_range];have:=akI c.ax (adt c (s.items.get i) k);omega
 obtain ⟨e,z,hz,rfl,hzl⟩:∃ e z,hZ s c i k = .out e z/\(e = .exit 2/\bH z.out=CE c (s.items.get i).look.cA (bH r)):=by
  unfold hZ;rw [e3,bU];refine alR hc _ rfl (fun j hj=>?_) hrn rfl rfl rfl;have hm:r.get j∈bH r:=FN hj;rw [Ip] at hm;obtain ⟨o0,o1,o2⟩:=aqE hn an5 hm;exact ⟨o0,o1,o2⟩
 have b1:(hZ s c i k).by (.exit 2)=true:=by rw [hz]; rfl
 have b2:(hZ s c i k).st=z:=by rw [hz]; rfl
 refine ⟨z.out,?_,by rw [hzl,Ip]⟩;unfold kM bj;simp only [e0,e1,e2,e3,b1,b2,bU,bx,ai,bD,av (show 0<=(i:Int) by omega),av (show (i:Int) < ((s.items.n:Nat):Int) by omega),av (show 0<=(k:Int) by omega),av (show (k:Int) < (((s.items.get i).bf.n:Nat):Int) by omega),
  av t0.1,av t0.2,av t1.1,av t1.2,av t2.1,av t2.2,huv]
end Go.Proofs.YtchbpckkmgcgkaaGreat.b
end
section
namespace Go.Proofs.YtchbpckkmgcgkaaGreat.b
open Go.K
open Go.aF (aq)
def agc (s:Show):Prop:=∀ i,i < s.items.n->om (s.items.get i) (s.au.n:Int)=some true
theorem aeR (s:Show) (hn:s.items.n<=256):∃ e x',dU s = .out e x'/\(e = .ret/\x'.t4 >= 0/\¬ agc s\/e = .exit 0/\agc s):=by
 unfold dU;refine bn (step:=cj) (fun j y=>y.s=s.items/\y.t7=(s.items.n:Int)/\y.t8=(j:Int)/\j<=s.items.n/\y.ah9=s/\∀ i,i < j->om (s.items.get i) (s.au.n:Int)=some true) _ s.items.n (by have:gd=1000000000000:=rfl; omega) (fun j y hj ⟨h1,h2,h3,h4,h5,h6⟩=>?_) ⟨rfl,rfl,rfl,cP _,rfl,fun i hi=>absurd hi (mJ _)⟩;obtain ⟨b,hb,_⟩:=akF (y.s.get (Int.toNat y.t8)) ((y.ah9.au.n:Nat):Int);have e0:gW y=some b:=hb;have w1:ak (y.t8+1)=y.t8+1:=aj;rw [h1,h3,h5,bU] at hb;unfold cj bj;by_cases h:y.t8 < y.t7
 ·have eH:j < s.items.n:=by omega
  simp only [e0,w1,ai,bD,bx,bq,av h,av (show (0:Int)<=y.t8 by omega),av (show y.t8 < ((y.s.n:Nat):Int) by rw [h1]; omega)];cases b with
  | false=>exact .inr ⟨_,_,rfl,rfl,.inl ⟨rfl,by show y.t8 >= 0; omega,fun qD=>by have:=qD j eH; rw [hb] at this; simp at this⟩⟩
  | true=>
   refine .inl ⟨_,rfl,eH,h1,h2,by show y.t8+1=_; omega,by omega,h5,fun i hi=>?_⟩;by_cases vD:i < j
   ·exact h6 i vD
   ·have:i=j:=by omega
    subst this; exact hb
 ·simp only [aw,az h]
  exact .inr ⟨_,_,rfl,rfl,.inr ⟨rfl,fun i hi=>h6 i (by omega)⟩⟩
theorem aiA (s:Show):iX s=some 0↔s.items.n<=256/\s.au.n<=16/\gf s.au=some 0/\agc s:=by
 unfold iX;by_cases g1:((s.items.n:Nat):Int) > 256
 ·rw [av g1,ai]
  exact ⟨fun h=>by simp at h,fun h=>by omega⟩
 by_cases g2:((s.au.n:Nat):Int) > 16
 ·rw [az g1,av g2,aw,ai]
  exact ⟨fun h=>by simp at h,fun h=>by omega⟩
 obtain ⟨v,hv⟩:=OD (OG s.au);have e0:tv s=some v:=hv;rw [az g1,az g2,hv];simp only [e0,ai,aw,bx,bq];cases hz:(v != (0:Int)) with
 | true=>
  rw [ai];exact ⟨fun h=>by simp at h,fun h=>by have:=qw h.2.2.1; simp [this] at hz⟩
 | false=>
  have hz:v=0:=by simpa using hz
  rw [aw,hz];obtain ⟨e,x',hx,h⟩:=aeR s (by omega);rcases h with ⟨rfl,h1,h2⟩ | ⟨rfl,h1⟩
  ·have b1:(dU s).by (.exit 0)=false:=by rw [hx]; rfl
   have b2:(dU s).by .ret=true:=by rw [hx]; rfl
   have b3:(dU s).st=x':=by rw [hx]; rfl
   rw [b1,b2,b3,av h1,aw,ai,ai];exact ⟨fun h=>by simp at h,fun h=>absurd h.2.2.2 h2⟩
  ·have b1:(dU s).by (.exit 0)=true:=by rw [hx]; rfl
   rw [b1,ai];exact ⟨fun _=>⟨by omega,by omega,rfl,h1⟩,fun _=>rfl⟩
theorem arF {x:Item} {t:Int} (h:om x t=some true):eO x.look t=some 0:=by
 unfold om at h;obtain ⟨v,hv⟩:=OD (aif x.look t);have e0:wY x t=some v:=hv;simp only [e0,bx,bq,ai] at h;cases g1:decide (((x.aH.n:Nat):Int) > (64:Int)) with
 | true=>rw [g1] at h; simp at h
 | false=>
 cases g2:(((x.uV.n:Nat):Int) != ((x.aH.n:Nat):Int)) with
 | true=>rw [g1,g2] at h; simp at h
 | false=>
 cases g3:decide (((x.bf.n:Nat):Int) > (64:Int)) with
 | true=>rw [g1,g2,g3] at h; simp at h
 | false=>
 cases g4:(v != (0:Int)) with
 | true=>rw [g1,g2,g3,g4] at h; simp at h
 | false=>
  have:v=0:=by simpa using g4
  rw [hv,this]
structure auJ (l:yx) (t:Int):Prop where
 t0:0<=t
 t16:t<=16
 lo : -1<=l.iG
 hi:l.iG < t
 b0 : -1024<=l.FC
 b1:l.FC<=1024
 n0:0<=l.bin
 n1:l.bin<=15
theorem Qs {l:yx} {t:Int} (h:eO l t=some 0):auJ l t:=by
 unfold eO at h;by_cases c1:t < 0
 ·rw [av c1] at h; simp at h
 by_cases c2:t > 16
 ·rw [az c1,av c2] at h; simp at h
 by_cases c3:l.iG < (-(1:Int))
 ·rw [az c1,az c2,av c3] at h; simp at h
 by_cases c4:l.iG >= t
 ·rw [az c1,az c2,az c3,av c4] at h; simp at h
 by_cases c5:l.cA > 2
 ·rw [az c1,az c2,az c3,az c4,av c5] at h; simp at h
 by_cases c6:l.FC < (-(1024:Int))
 ·rw [az c1,az c2,az c3,az c4,az c5,av c6] at h; simp at h
 by_cases c7:l.FC > 1024
 ·rw [az c1,az c2,az c3,az c4,az c5,az c6,av c7] at h; simp at h
 by_cases c8:l.bin < 0
 ·rw [az c1,az c2,az c3,az c4,az c5,az c6,az c7,av c8] at h; simp at h
 by_cases c9:l.bin > 15
 ·rw [az c1,az c2,az c3,az c4,az c5,az c6,az c7,az c8,av c9] at h; simp at h
 exact ⟨by omega,by omega,by omega,by omega,by omega,by omega,by omega,by omega⟩
theorem Mv {l:Sl bF} (h:gf l=some 0):∀ i,i < l.n->eS (l.get i)=some 0:=by
 unfold gf at h;by_cases c1:((l.n:Nat):Int) > 16
 ·rw [av c1] at h; simp at h
 obtain ⟨e,x',h1,h2⟩:∃ e x',dL l = .out e x'/\(e = .ret/\x'.t2≠0\/e = .exit 0/\∀ i,i < l.n->eS (l.get i)=some 0):=by
  unfold dL;refine bn (step:=fO) (fun j x=>x.t9=l/\x.t10=(l.n:Int)/\x.t11=(j:Int)/\j<=l.n/\∀ i,i < j->eS (l.get i)=some 0) _ l.n (by have:gd=1000000000000:=rfl; omega) (fun j x hj ⟨h2,h3,h4,h5,h6⟩=>?_) ⟨rfl,rfl,rfl,cP _,fun i hi=>absurd hi (mJ _)⟩;obtain ⟨v,hv⟩:=OD (aa6 (x.t9.get (Int.toNat x.t11)));have e0:iW x=some v:=hv;have w1:ak (x.t11+1)=x.t11+1:=aj;rw [h2,h4,bU] at hv;unfold fO bj;by_cases h:x.t11 < x.t10
  ·simp only [e0,w1,ai,bD,bx,bq,av h,av (show (0:Int)<=x.t11 by omega),av (show x.t11 < ((x.t9.n:Nat):Int) by rw [h2]; omega)]
   cases hz:(v != (0:Int)) with
   | true=>exact .inr ⟨_,_,rfl,rfl,.inl ⟨rfl,by show v≠0; simpa using hz⟩⟩
   | false=>
    refine .inl ⟨_,rfl,by omega,h2,h3,by show x.t11+1=_; omega,by omega,fun i hi=>?_⟩;by_cases vD:i < j
    ·exact h6 i vD
    ·have:i=j:=by omega
     subst this;rw [hv,show v=0 by simpa using hz]
  ·simp only [aw,az h]
   exact .inr ⟨_,_,rfl,rfl,.inr ⟨rfl,fun i hi=>h6 i (by omega)⟩⟩
 rw [az c1,aw] at h;rcases h2 with ⟨rfl,h2⟩ | ⟨rfl,h2⟩
 ·have b1:(dL l).by (.exit 0)=false:=by rw [h1]; rfl
  have b2:(dL l).by .ret=true:=by rw [h1]; rfl
  have b3:(dL l).st=x':=by rw [h1]; rfl
  rw [b1,b2,b3,aw,ai] at h;exact absurd (qw h) h2
 ·exact h2
theorem an6 {n:Int} (h:kK n=some true):1<=n/\n<=16:=by
 unfold kK at h;by_cases c1:n > 0
 ·rw [av c1,ai] at h
  have:=rl (qw h);omega
 ·rw [az c1] at h; simp at h
theorem aqG {t:bF} (h:eS t=some 0):(1<=t.w/\t.w<=16)/\(1<=t.h/\t.h<=16)/\(t.dH.n:Int)=t.w * t.h:=by
 unfold eS at h;obtain ⟨a,ha⟩:=OD (aa5 t.w);obtain ⟨b,hb⟩:=OD (aa5 t.h);have e0:tQ t=some a:=ha;have e1:tR t=some b:=hb;simp only [e0,e1,bx,bq,ai] at h;cases a with
 | false=>simp at h
 | true=>
 cases b with
 | false=>simp at h
 | true=>
  have h1:=an6 ha;have h2:=an6 hb;have h3:0<=t.w * t.h/\t.w * t.h<=16 * 16:=⟨wi (by omega) (by omega),CM h1.2 h2.2 (by omega) (by omega)⟩
  rw [aj (by omega) (by omega)] at h;simp only [jk,aw] at h;cases hz:(((t.dH.n:Nat):Int) != t.w * t.h) with
  | true=>rw [hz] at h; simp at h
  | false=>exact ⟨h1,h2,by simpa using hz⟩
theorem KC {s:Show} {c:aE} (h:dw s c=some 0):iX s=some 0:=by
 obtain ⟨e,h1,_⟩:=S0 s;obtain ⟨f,h3,_⟩:=vf c;have e0:qQ s c=some e:=h1;have e1:tw s c=some f:=h3;unfold dw at h;simp only [e0,e1,bx,bq,ai] at h;cases he:(e != (0:Int)) with
 | true=>
  rw [he,ai] at h;simp at he;exact absurd (qw h) he
 | false=>rw [h1]; simp at he; rw [he]
end Go.Proofs.YtchbpckkmgcgkaaGreat.b
end
section
namespace Go.Proofs.YtchbpckkmgcgkaaGreat.b
open Go.K Go.K.hY
open Go.aF (aq)
def apr (b:Fy) (v:iP):Fy:=⟨⟨min b.low.x v.x,min b.low.y v.y,min b.low.z v.z⟩,⟨max b.high.x v.x,max b.high.y v.y,max b.high.z v.z⟩⟩
def yi (l:Sl iP):Nat->Fy
 | 0=>⟨l.get 0,l.get 0⟩
 | n+1=>apr (yi l n) (l.get (n+1))
theorem adv {n:Int} (h:In n 32768):yQ n=some true:=by
 unfold In at h;unfold yQ;rw [av (show n >= -(32768:Int) by omega),av h.2];rfl
theorem alT {l:Sl iP} (h0:0 < l.n) (hn:l.n<=64) (h:∀ i,i < l.n->zc (l.get i)):Bt l=some (yi l (l.n - 1),0):=by
 obtain ⟨e,x',hx,rfl,hl⟩:∃ e x',fJ l = .out e x'/\(e = .exit 0/\x'.l=l):=by
  unfold fJ;refine bn (step:=qk) (fun j x=>x.l=l/\x.t17=l/\x.t18=(l.n:Int)/\x.t19=(j:Int)/\j<=l.n) (fun e x'=>e = .exit 0/\x'.l=l) l.n (by have:gd=1000000000000:=rfl; omega) (fun j x hj ⟨h1,h2,h3,h4,h5⟩=>?_) ⟨rfl,rfl,rfl,rfl,cP _⟩;have w1:ak (x.t19+1)=x.t19+1:=aj;unfold qk qO bj;by_cases bt:x.t19 < x.t18
  ·have hv:=h j (by omega)
   unfold zc at hv;have hg:x.t17.get (Int.toNat x.t19)=l.get j:=by rw [h2,h4,bU]
   have e0:wV x=some true:=by unfold wV; rw [hg]; exact adv (by unfold In; omega)
   have e1:wW x=some true:=by unfold wW; rw [hg]; exact adv (by unfold In; omega)
   have e2:wX x=some true:=by unfold wX; rw [hg]; exact adv (by unfold In; omega)
   simp only [e0,e1,e2,w1,bx,bq,ai,aw,jk,bD,av bt,av (show (0:Int)<=x.t19 by omega),av (show x.t19 < ((x.t17.n:Nat):Int) by rw [h2]; omega)];exact .inl ⟨_,rfl,by omega,h1,h2,h3,by show x.t19+1=_; omega,by omega⟩
  ·simp only [aw,az bt]
   exact .inr ⟨_,_,rfl,rfl,rfl,h1⟩
 have b1:(fJ l).by (.exit 0)=true:=by rw [hx]; rfl
 have b2:(fJ l).st.l=l:=by rw [hx]; exact hl
 obtain ⟨e,y,hy,rfl,hyb⟩:∃ e y,ve l = .out e y/\(e = .exit 2/\y.b=yi l (l.n - 1)):=by
  unfold ve;rw [b2,bU];refine bn (step:=mR) (fun j y=>y.t49=⟨l.n - 1,fun i=>l.get (1+i)⟩/\y.t50=((l.n - 1:Nat):Int)/\y.t51=(j:Int)/\j<=l.n - 1/\y.b=yi l j) _ (l.n - 1) (by have:gd=1000000000000:=rfl; omega) (fun j y hj ⟨h2,h3,h4,h5,h6⟩=>?_) ⟨rfl,rfl,rfl,cP _,rfl⟩;have w1:ak (y.t51+1)=y.t51+1:=aj;unfold mR bj;by_cases bt:y.t51 < y.t50
  ·have hg:y.t49.get (Int.toNat y.t51)=l.get (j+1):=by rw [h2,h4,bU,Nat.add_comm]
   simp only [w1,hg,ai,bD,av bt,av (show (0:Int)<=y.t51 by omega),av (show y.t51 < ((y.t49.n:Nat):Int) by rw [h2]; show y.t51 < ((l.n - 1:Nat):Int); omega)];refine .inl ⟨_,rfl,by omega,h2,h3,by show y.t51+1=_; omega,by omega,?_⟩;show apr y.b (l.get (j+1))=_;rw [h6];rfl
  ·simp only [aw,az bt]
   refine .inr ⟨_,_,rfl,rfl,rfl,?_⟩;rw [h6,show j=l.n - 1 by omega]
 have b3:(ve l).by (.exit 2)=true:=by rw [hy]; rfl
 have b4:(ve l).st=y:=by rw [hy]; rfl
 unfold Bt Bs;simp only [b1,b2,b3,b4,hyb,ai,aw,bD,show (((l.n:Nat):Int)==(0:Int))=false by simpa using by omega,az (show ¬ ((l.n:Nat):Int) > 4096 by omega),av (show (0:Int) < ((l.n:Nat):Int) by omega),av (show (1:Int)<=((l.n:Nat):Int) by omega),av (show ((l.n:Nat):Int)<=((l.n:Nat):Int) by omega)]
def AL:Fy:=⟨⟨0,0,0⟩,⟨0,0,0⟩⟩
def F2 (l:Sl iP):Fy:=if l.n=0 then AL else yi l (l.n - 1)
structure Mw (x:Item) (t:Int):Prop where
 n64:x.aH.n<=64
 uvn:x.uV.n=x.aH.n
 t64:x.bf.n<=64
 look:eO x.look t=some 0
 v:∀ j,j < x.aH.n->zc (x.aH.get j)/\(0<=(x.uV.get j).e0/\(x.uV.get j).e0<=255)/\0<=(x.uV.get j).e1/\(x.uV.get j).e1<=255
 cl:∀ i,i < x.bf.n->pt x.bf (x.aH.n:Int) i
 box:F2 x.aH=x.box
theorem Mw.full {x:Item} {t:Int} (h:Mw x t):abp x:=⟨⟨h.uvn,h.cl⟩,fun j hj=>(h.v j hj).1,fun j hj=>(h.v j hj).2⟩
theorem WL (a b:Fy):((a.low.x==b.low.x)&&((a.low.y==b.low.y)&&((a.low.z==b.low.z)&&((a.high.x==b.high.x)&&((a.high.y==b.high.y)&&((a.high.z==b.high.z)&&true))))))=true↔a=b:=by
 simp only [aD,beq_iff_eq];constructor
 ·rintro ⟨h1,h2,h3,h4,h5,h6,_⟩
  obtain ⟨⟨_,_,_⟩,_,_,_⟩:=a;obtain ⟨⟨_,_,_⟩,_,_,_⟩:=b
  simp_all
 ·rintro rfl
  exact ⟨rfl,rfl,rfl,rfl,rfl,rfl,trivial⟩
theorem aps (x:Item) (t:Int) (hn:x.aH.n<=64) (hu:x.uV.n=x.aH.n):∃ e z,ek x t = .out e z/\((e = .ret/\z.t4=false/\∃ j,j < x.aH.n/\¬ (zc (x.aH.get j)/\(0<=(x.uV.get j).e0/\(x.uV.get j).e0<=255)/\0<=(x.uV.get j).e1/\(x.uV.get j).e1<=255))\/e = .exit 0/\z.n=(x.aH.n:Int)/\z.x=x/\z.t4=false/\∀ j,j < x.aH.n->zc (x.aH.get j)/\(0<=(x.uV.get j).e0/\(x.uV.get j).e0<=255)/\0<=(x.uV.get j).e1/\(x.uV.get j).e1<=255):=by
 unfold ek;refine bn (step:=ll) (fun j y=>y.t4=false/\y.n=(x.aH.n:Int)/\y.t38=x.aH/\y.t39=(x.aH.n:Int)/\y.t40=(j:Int)/\j<=x.aH.n/\y.x=x/\∀ i,i < j->zc (x.aH.get i)/\(0<=(x.uV.get i).e0/\(x.uV.get i).e0<=255)/\0<=(x.uV.get i).e1/\(x.uV.get i).e1<=255) _ x.aH.n (by have:gd=1000000000000:=rfl; omega) (fun j y hj ⟨f1,f2,f3,f4,f5,f6,f7,f8⟩=>?_) ⟨rfl,rfl,rfl,rfl,rfl,cP _,rfl,fun i hi=>absurd hi (mJ _)⟩;have w1:ak (y.t40+1)=y.t40+1:=aj;unfold ll bj;by_cases h:y.t40 < y.t39
 ·have eH:j < x.aH.n:=by omega
  have hg:y.t38.get (Int.toNat y.t40)=x.aH.get j:=by rw [f3,f5,bU]
  have hg2:y.x.uV.get (Int.toNat y.t40)=x.uV.get j:=by rw [f7,f5,bU]
  obtain ⟨e,h1,h2⟩:=Ak (x.aH.get j);have e0:qP y=some e:=by unfold qP; rw [hg]; exact h1
  simp only [e0,w1,hg2,bx,bq,ai,bD,av h,av (show (0:Int)<=y.t40 by omega),av (show y.t40 < ((y.t38.n:Nat):Int) by rw [f3]; omega),av (show y.t40 < ((y.x.uV.n:Nat):Int) by rw [f7]; omega)];by_cases he:e=0
  ·rw [show (e != (0:Int))=false by simpa using he,aw]
   by_cases c1:min (x.uV.get j).e0 (x.uV.get j).e1 < 0
   ·rw [av c1,ai]
    exact .inr ⟨_,_,rfl,rfl,.inl ⟨rfl,rfl,j,eH,fun hq=>by omega⟩⟩
   ·rw [az c1,aw]
    by_cases c2:max (x.uV.get j).e0 (x.uV.get j).e1 > 255
    ·rw [av c2,ai]
     exact .inr ⟨_,_,rfl,rfl,.inl ⟨rfl,rfl,j,eH,fun hq=>by omega⟩⟩
    ·rw [az c2,aw]
     refine .inl ⟨_,rfl,eH,f1,f2,f3,f4,by show y.t40+1=_; omega,by omega,f7,fun i hi=>?_⟩;by_cases vD:i < j
     ·exact f8 i vD
     ·have:i=j:=by omega
      subst this;exact ⟨h2.1 he,by omega,by omega⟩
  ·rw [show (e != (0:Int))=true by simpa using he,ai]
   exact .inr ⟨_,_,rfl,rfl,.inl ⟨rfl,rfl,j,eH,fun hq=>he (h2.2 hq.1)⟩⟩
 ·simp only [aw,az h]
  exact .inr ⟨_,_,rfl,rfl,.inr ⟨rfl,f2,f7,f1,fun i hi=>f8 i (by omega)⟩⟩
theorem apt (x:mS) (hn:x.t82.n<=64) (h0:x.t83=(x.t82.n:Int)) (h1:x.t84=0) (h2:x.t4=false):∃ e z,goN iD x = .out e z/\(e = .ret/\z.t4=false/\(∃ i,i < x.t82.n/\¬ pt x.t82 x.n i)\/e = .exit 2/\z.n=x.n/\z.x=x.x/\∀ i,i < x.t82.n->pt x.t82 x.n i):=by
 refine bn (step:=iD) (fun j y=>y.t4=false/\y.n=x.n/\y.t82=x.t82/\y.t83=(x.t82.n:Int)/\y.t84=(j:Int)/\j<=x.t82.n/\y.x=x.x/\∀ i,i < j->pt x.t82 x.n i) _ x.t82.n (by have:gd=1000000000000:=rfl; omega) (fun j y hj ⟨f1,f2,f3,f4,f5,f6,f7,f8⟩=>?_) ⟨h2,rfl,rfl,h0,h1,cP _,rfl,fun i hi=>absurd hi (mJ _)⟩;have w1:ak (y.t84+1)=y.t84+1:=aj;unfold iD bj;by_cases h:y.t84 < y.t83
 ·have eH:j < x.t82.n:=by omega
  have hg:y.t82.get (Int.toNat y.t84)=x.t82.get j:=by rw [f3,f5,bU]
  simp only [w1,hg,f2,ai,bD,av h,av (show (0:Int)<=y.t84 by omega),av (show y.t84 < ((y.t82.n:Nat):Int) by rw [f3]; omega)];by_cases c1:min (min (x.t82.get j).e0 (x.t82.get j).e1) (x.t82.get j).e2 < 0
  ·rw [av c1,ai]
   exact .inr ⟨_,_,rfl,rfl,.inl ⟨rfl,rfl,j,eH,fun hq=>by unfold pt at hq; omega⟩⟩
  ·rw [az c1,aw]
   by_cases c2:max (max (x.t82.get j).e0 (x.t82.get j).e1) (x.t82.get j).e2 >= x.n
   ·rw [av c2,ai]
    exact .inr ⟨_,_,rfl,rfl,.inl ⟨rfl,rfl,j,eH,fun hq=>by unfold pt at hq; omega⟩⟩
   ·rw [az c2,aw]
    refine .inl ⟨_,rfl,eH,f1,rfl,f3,f4,by show y.t84+1=_; omega,by omega,f7,fun i hi=>?_⟩;by_cases vD:i < j
    ·exact f8 i vD
    ·have:i=j:=by omega
     subst this;unfold pt;omega
 ·simp only [aw,az h]
  exact .inr ⟨_,_,rfl,rfl,.inr ⟨rfl,f2,f7,fun i hi=>f8 i (by omega)⟩⟩
theorem Zr (x:Item) (t:Int):∃ b,om x t=some b/\(b=true↔Mw x t):=by
 have no:∀ {P:Prop},¬ P->∃ b,(some false:Option Bool)=some b/\(b=true↔P):=fun h=>⟨false,rfl,fun h'=>by simp at h',fun h'=>absurd h' h⟩
 obtain ⟨v,hv⟩:=OD (aif x.look t);have e0:wY x t=some v:=hv;unfold om;simp only [e0,bx,bq,ai];by_cases g1:((x.aH.n:Nat):Int) > 64
 ·rw [av g1,ai]; exact no fun h=>by have:=h.n64; omega
 rw [az g1,aw];by_cases g2:x.uV.n=x.aH.n
 case neg=>
  rw [show (((x.uV.n:Nat):Int) != ((x.aH.n:Nat):Int))=true by simpa using by omega,ai];exact no fun h=>g2 h.uvn
 rw [show (((x.uV.n:Nat):Int) != ((x.aH.n:Nat):Int))=false by simpa using by omega,aw];by_cases g3:((x.bf.n:Nat):Int) > 64
 ·rw [av g3,ai]; exact no fun h=>by have:=h.t64; omega
 rw [az g3,aw];by_cases g4:v=0
 case neg=>
  rw [show (v != (0:Int))=true by simpa using g4,ai];exact no fun h=>by have:=h.look; rw [hv] at this; exact g4 (qw this)
 rw [show (v != (0:Int))=false by simpa using g4,aw];obtain ⟨e,y,hy,h⟩:=aps x t (by omega) g2;rcases h with ⟨rfl,hf,j,hj,RG⟩ | ⟨rfl,hn,hx,hf,hvs⟩
 ·have b1:(ek x t).by (.exit 0)=false:=by rw [hy]; rfl
  have b2:(ek x t).by .ret=true:=by rw [hy]; rfl
  have b3:(ek x t).st.t4=false:=by rw [hy]; exact hf
  simp only [b1,b2,b3,ai,aw];exact no fun h=>RG (h.v j hj)
 ·have b1:(ek x t).by (.exit 0)=true:=by rw [hy]; rfl
  have s1:(ek x t).st=y:=by rw [hy]; rfl
  obtain ⟨e,z,hz,h⟩:∃ e z,dv x t = .out e z/\(e = .ret/\z.t4=false/\(∃ i,i < x.bf.n/\¬ pt x.bf (x.aH.n:Int) i)\/e = .exit 2/\z.n=(x.aH.n:Int)/\z.x=x/\∀ i,i < x.bf.n->pt x.bf (x.aH.n:Int) i):=by
   unfold dv;rw [s1,hn,hx];exact apt _ (by show x.bf.n<=64; omega) rfl rfl hf
  rcases h with ⟨rfl,hf',i,hi,RG⟩ | ⟨rfl,MS,hx',qD⟩
  ·have b2:(dv x t).by (.exit 2)=false:=by rw [hz]; rfl
   have b3:(dv x t).by .ret=true:=by rw [hz]; rfl
   have b4:(dv x t).st.t4=false:=by rw [hz]; exact hf'
   simp only [b1,b2,b3,b4,ai,aw];exact no fun h=>RG (h.cl i hi)
  ·have b2:(dv x t).by (.exit 2)=true:=by rw [hz]; rfl
   have s2:(dv x t).st=z:=by rw [hz]; rfl
   have ok:F2 x.aH=x.box->Mw x t:=fun hb=>⟨by omega,g2,by omega,by rw [hv,g4],hvs,qD,hb⟩
   by_cases GM:x.aH.n=0
   ·have e3:jF x t=some (AL,4):=by
     unfold jF;rw [s2,hx'];unfold Bt Bs;rw [GM];rfl
    have IA:F2 x.aH=AL:=by unfold F2; rw [aV GM]
    simp only [b1,b2,e3,s2,hx',MS,bx,bq,ai];cases hq:((AL.low.x==x.box.low.x)&&((AL.low.y==x.box.low.y)&&((AL.low.z==x.box.low.z)&&((AL.high.x==x.box.high.x)&&((AL.high.y==x.box.high.y)&&((AL.high.z==x.box.high.z)&&true)))))) with
    | true=>
     refine ⟨true,?_,fun _=>ok (IA.trans ((WL _ _).1 hq)),fun _=>rfl⟩;rw [GM];rfl
    | false=>exact no fun h=>by rw [(WL _ _).2 (IA.symm.trans h.box)] at hq; simp at hq
   ·have e3:jF x t=some (yi x.aH (x.aH.n - 1),0):=by
     unfold jF;rw [s2,hx'];exact alT (by omega) (by omega) (fun i hi=>(hvs i hi).1)
    have IA:F2 x.aH=yi x.aH (x.aH.n - 1):=by unfold F2; rw [ay GM]
    simp only [b1,b2,e3,s2,hx',MS,bx,bq,ai];cases hq:(((yi x.aH (x.aH.n - 1)).low.x==x.box.low.x)&&(((yi x.aH (x.aH.n - 1)).low.y==x.box.low.y)&&(((yi x.aH (x.aH.n - 1)).low.z==x.box.low.z)&&(((yi x.aH (x.aH.n - 1)).high.x==x.box.high.x)&&(((yi x.aH (x.aH.n - 1)).high.y==x.box.high.y)&&(((yi x.aH (x.aH.n - 1)).high.z==x.box.high.z)&&true)))))) with
    | true=>exact ⟨true,rfl,fun _=>ok (IA.trans ((WL _ _).1 hq)),fun _=>rfl⟩
    | false=>exact no fun h=>by rw [(WL _ _).2 (IA.symm.trans h.box)] at hq; simp at hq
theorem apu {s:Show} (h:iX s=some 0):∀ i,i < s.items.n->Mw (s.items.get i) (s.au.n:Int):=fun i hi=>by
 obtain ⟨_,_,_,h4⟩:=(aiA s).1 h;obtain ⟨b,h5,h6⟩:=Zr (s.items.get i) (s.au.n:Int);have:=h4 i hi;rw [this] at h5;exact h6.1 (qw h5).symm
def aqH (a b:oT):Prop:=b.y < a.y\/b.y=a.y/\b.x > a.x
def F3 (n:Int) (a b:oT):Prop:=0 < n\/n=0/\aqH a b
def VA (t:aK) (x y:Int):Prop:=F3 (W0 t (8 * x+4) (8 * y+4)) t.e1 t.e2/\F3 (W1 t (8 * x+4) (8 * y+4)) t.e2 t.e0/\F3 (W2 t (8 * x+4) (8 * y+4)) t.e0 t.e1
def akJ (P:Prop) (r:Option (Bool×Int)):Prop:=∃ b,r=some (b,0)/\(b=true↔P)
theorem akJ.ite {P:Prop} {c:Prop} [Decidable c] {a b:Option (Bool×Int)} (h1:c->akJ P a) (h2 : ¬ c->akJ P b):akJ P (if c then a else b):=by
 by_cases h:c
 ·rw [aV h]; exact h1 h
 ·rw [ay h]; exact h2 h
theorem akK {t:aK} {x y:Int} (hf:DS t) (hp:Pix x y):ml t x y=some (⟨W0 t (8 * x+4) (8 * y+4),W1 t (8 * x+4) (8 * y+4),W2 t (8 * x+4) (8 * y+4)⟩,0):=by
 rcases NA t x y with ⟨_,_,h⟩ | ⟨w,e,h,he⟩
 ·exact h
 ·exfalso
  obtain ⟨e1,h1,h2⟩:=aeG t;obtain ⟨b,h3,h4⟩:=aeH x y;have q1:e1=0:=h2.2 hf;have q2:b=true:=h4.2 hp;subst q1 q2;have e0:wR t x y=some 0:=h1;have e1:Bp t x y=some true:=h3;unfold ml at h;simp only [e0,e1,bx,bq,ai,jO,aw,jk] at h;injection h with h;injection h with _ h;exact he h.symm
theorem ajC {t:aK} {x y:Int} (hf:DS t) (hp:Pix x y):akJ (VA t x y) (qj t x y):=by
 have e0:ct t x y=_:=akK hf hp;unfold qj mn mm;rw [e0];simp only [bx,ai,bq,jO,aw];unfold VA F3 aqH;generalize W0 t (8 * x+4) (8 * y+4)=u;generalize W1 t (8 * x+4) (8 * y+4)=v;generalize W2 t (8 * x+4) (8 * y+4)=w;simp only [Bool.cond_eq_ite,nD,lA,decide_eq_false_iff_not,beq_iff_eq]
 repeat' (refine akJ.ite (fun _=>?_) (fun _=>?_))
 all_goals first | exact ⟨false,rfl,fun h=>by simp at h,fun h=>by omega⟩ | exact ⟨true,rfl,fun _=>by omega,fun _=>rfl⟩
def Ka (p q r a b c:Int):Int:=p * a+q * b+r * c
def TN (t:aK) (x y:Int):oT:=
 let p:=W0 t (8 * x+4) (8 * y+4); let q:=W1 t (8 * x+4) (8 * y+4); let r:=W2 t (8 * x+4) (8 * y+4)
 ⟨8 * x+4,8 * y+4,Ka p q r t.e0.d t.e1.d t.e2.d / (p+q+r),Ka (p * t.e0.d) (q * t.e1.d) (r * t.e2.d) t.e0.u t.e1.u t.e2.u / Ka p q r t.e0.d t.e1.d t.e2.d,Ka (p * t.e0.d) (q * t.e1.d) (r * t.e2.d) t.e0.v t.e1.v t.e2.v / Ka p q r t.e0.d t.e1.d t.e2.d⟩
theorem aeS {p q r d0 d1 d2 u0 u1 u2:Int} (hp:0<=p) (hq:0<=q) (hr:0<=r) (hs:1<=p+q+r/\p+q+r<=137438953472) (h0:1<=d0/\d0<=65536) (h1:1<=d1/\d1<=65536) (h2:1<=d2/\d2<=65536) (k0:0<=u0/\u0<=255) (k1:0<=u1/\u1<=255) (k2:0<=u2/\u2<=255) :
  cR (ak ((ak ((ak ((0:Int)+(ak ((ak (p * d0)) * u0))))+(ak ((ak (q * d1)) * u1))))+(ak ((ak (r * d2)) * u2)))) (ak ((ak ((ak ((0:Int)+(ak ((ak (p * d0)) * (1:Int)))))+(ak ((ak (q * d1)) * (1:Int)))))+(ak ((ak (r * d2)) * (1:Int)))))=some (Ka (p * d0) (q * d1) (r * d2) u0 u1 u2 / Ka p q r d0 d1 d2,0):=by
 have a0:=qR ⟨hp,by omega⟩ h0;have a1:=qR ⟨hq,by omega⟩ h1;have a2:=qR ⟨hr,by omega⟩ h2;have b0:=KB (show 0<=p * d0 by omega) k0;have b1:=KB (show 0<=q * d1 by omega) k1;have b2:=KB (show 0<=r * d2 by omega) k2;unfold Ka;rw [aj (n:=p * d0),aj (n:=q * d1),aj (n:=r * d2)];generalize p * d0=A0 at *;generalize q * d1=A1 at *;generalize r * d2=A2 at *;generalize A0 * u0=B0 at *;generalize A1 * u1=B1 at *;generalize A2 * u2=B2 at *;rw [Int.mul_one,Int.mul_one,Int.mul_one,aj (n:=A0),aj (n:=A1),aj (n:=A2),aj (n:=B0),aj (n:=B1),aj (n:=B2),
  aj (n:=0+A0),aj (n:=0+A0+A1),aj (n:=0+A0+A1+A2),aj (n:=0+B0),aj (n:=0+B0+B1),aj (n:=0+B0+B1+B2)]
 rw [Eo _ _ (by omega) (by omega),Ij,Ij]
theorem apv {p q r d0 d1 d2:Int} (hp:0<=p) (hq:0<=q) (hr:0<=r) (hs:1<=p+q+r/\p+q+r<=137438953472) (h0:1<=d0/\d0<=65536) (h1:1<=d1/\d1<=65536) (h2:1<=d2/\d2<=65536) :
  cR (ak ((ak ((ak ((0:Int)+(ak ((ak (p * d0)) * (1:Int)))))+(ak ((ak (q * d1)) * (1:Int)))))+(ak ((ak (r * d2)) * (1:Int))))) (ak ((ak ((ak ((0:Int)+p))+q))+r))=some (Ka p q r d0 d1 d2 / (p+q+r),0)/\0<=Ka p q r d0 d1 d2 / (p+q+r)/\Ka p q r d0 d1 d2 / (p+q+r)<=65536:=by
 have a0:=qR ⟨hp,by omega⟩ h0;have a1:=qR ⟨hq,by omega⟩ h1;have a2:=qR ⟨hr,by omega⟩ h2;unfold Ka;rw [aj (n:=p * d0),aj (n:=q * d1),aj (n:=r * d2)];generalize p * d0=A0 at *;generalize q * d1=A1 at *;generalize r * d2=A2 at *;rw [Int.mul_one,Int.mul_one,Int.mul_one,aj (n:=A0),aj (n:=A1),aj (n:=A2),
  aj (n:=0+A0),aj (n:=0+A0+A1),aj (n:=0+A0+A1+A2),aj (n:=0+p),aj (n:=0+p+q),aj (n:=0+p+q+r)]
 rw [Eo _ _ (by omega) (by omega),Ij,Ij];refine ⟨rfl,Int.ediv_nonneg (by omega) (by omega),?_⟩;have:(A0+A1+A2) / (p+q+r) < 65537:=Int.ediv_lt_of_lt_mul (by omega) (by omega);omega
theorem aeT {t:aK} (hf:DS t) (p q:Int):W0 t p q+W1 t p q+W2 t p q=su t/\1<=su t/\su t<=137438953472:=by
 obtain ⟨⟨⟨x0,y0,_⟩,⟨x1,y1,_⟩,x2,y2,_⟩,apl⟩:=hf;refine ⟨aib _ _ _ _ _ _ _ _,by omega,?_⟩;unfold su;have m1:=mq (a:=t.e1.x - t.e0.x) (b:=t.e2.y - t.e0.y) (c:=262144) (d:=262144) (by omega) (by omega) (by omega);have m2:=mq (a:=t.e2.x - t.e0.x) (b:=t.e1.y - t.e0.y) (c:=262144) (d:=262144) (by omega) (by omega) (by omega);omega
theorem abq {t:aK} {x y:Int} (hf:DS t) (hp:Pix x y):(VA t x y/\lj t x y=some (TN t x y,0)/\0<=(TN t x y).d/\(TN t x y).d<=65536)\/¬ VA t x y/\lj t x y=some (⟨0,0,0,0,0⟩,6):=by
 obtain ⟨b,hb,hbi⟩:=ajC hf hp;have E0:vG t x y=some (b,0):=hb;have E1:dN t x y=some (⟨W0 t (8 * x+4) (8 * y+4),W1 t (8 * x+4) (8 * y+4),W2 t (8 * x+4) (8 * y+4)⟩,0):=akK hf hp;unfold lj;rw [E0,E1];simp only [bx,ai,bq,jO,aw];cases b with
 | false=>exact .inr ⟨fun h=>by have:=hbi.2 h; simp at this,rfl⟩
 | true=>
  have hh:=hbi.1 rfl;refine .inl ⟨hh,?_⟩;obtain ⟨s0,s1,s2⟩:=id hh;have g0:0<=W0 t (8 * x+4) (8 * y+4):=by unfold F3 at s0; omega
  have g1:0<=W1 t (8 * x+4) (8 * y+4):=by unfold F3 at s1; omega
  have g2:0<=W2 t (8 * x+4) (8 * y+4):=by unfold F3 at s2; omega
  obtain ⟨a1,a2,a3⟩:=aeT hf (8 * x+4) (8 * y+4);obtain ⟨⟨⟨x0,y0,d0,u0,v0⟩,⟨x1,y1,d1,u1,v1⟩,x2,y2,d2,u2,v2⟩,apl⟩:=hf;obtain ⟨D,D0,D1⟩:=apv (p:=W0 t (8 * x+4) (8 * y+4)) (q:=W1 t (8 * x+4) (8 * y+4)) (r:=W2 t (8 * x+4) (8 * y+4)) g0 g1 g2 (by omega) d0 d1 d2;have G2:yP t x y=some ((TN t x y).d,0):=by
   unfold yP;rw [E1];exact D
  have G3:vH t x y=some ((TN t x y).u,0):=by
   unfold vH;rw [E1];exact aeS (p:=W0 t (8 * x+4) (8 * y+4)) (q:=W1 t (8 * x+4) (8 * y+4)) (r:=W2 t (8 * x+4) (8 * y+4)) g0 g1 g2 (by omega) d0 d1 d2 u0 u1 u2
  have G4:vI t x y=some ((TN t x y).v,0):=by
   unfold vI;rw [E1];exact aeS (p:=W0 t (8 * x+4) (8 * y+4)) (q:=W1 t (8 * x+4) (8 * y+4)) (r:=W2 t (8 * x+4) (8 * y+4)) g0 g1 g2 (by omega) d0 d1 d2 v0 v1 v2
  obtain ⟨⟨p1,p2⟩,p3,p4⟩:=hp;simp only [G2,G3,G4,bx,ai,bq,jk,aw];rw [aj (n:=8 * x),aj (n:=8 * y),aj (n:=8 * x+4),aj (n:=8 * y+4)];exact ⟨rfl,D0,D1⟩
def partsOf (s:Show) (c:aE) (i k:Nat):List aK:=CE c (s.items.get i).look.cA (Qr (AJ c.ax (adt c (s.items.get i) k)))
theorem apw {s:Show} {c:aE} (h:iX s=some 0):dw s c=jD c:=by
 obtain ⟨f,h3,_⟩:=vf c;have e0:qQ s c=some 0:=h;have e1:tw s c=some f:=h3;unfold dw;simp only [e0,e1,bx,bq,ai,jO,aw];exact h3.symm
theorem IZ {s:Show} {c:aE} (h:dw s c=some 0):mC c/\∀ i,i < s.items.n->Mw (s.items.get i) (s.au.n:Int):=by
 have hc:=KC h;obtain ⟨e,h1,_,h2⟩:=yh c;rw [apw hc,h1] at h;exact ⟨h2.1 (qw h),apu hc⟩
theorem akL {s:Show} {c:aE} (h:dw s c=some 0) {i k:Nat} (hi:i < s.items.n) (hk:k < (s.items.get i).bf.n):bH (C2 s c i k)=partsOf s c i k:=by
 obtain ⟨hc,hm⟩:=IZ h;obtain ⟨r,hr,hl⟩:=alS s c i k hi hk hc (hm i hi).full;unfold C2;rw [hr];exact hl
theorem aiB {s:Show} {c:aE} (h:dw s c=some 0) {i k n:Nat} (hi:i < s.items.n) (hk:k < (s.items.get i).bf.n) (hn:n < (C2 s c i k).n):DS ((C2 s c i k).get n):=by
 have hm:(C2 s c i k).get n∈bH (C2 s c i k):=FN hn;rw [akL h hi hk] at hm;exact alQ hm
def avW (x y:Int) (p:eT):aU:=⟨(TN p.t x y).d+p.dX.d,p.dX.item,p.dX.cl,p.dX.part,(TN p.t x y).u,(TN p.t x y).v⟩
theorem ajD {s:Show} {c:aE} (h:dw s c=some 0) {x y:Int} (hp:Pix x y) {i k n:Nat} (hi:i < s.items.n) (hk:k < (s.items.get i).bf.n) (hn:n < (C2 s c i k).n) :
  (VA (C2 s c i k |>.get n) x y/\rO x y (partAt s c i k n)=some (avW x y (partAt s c i k n)))\/¬ VA (C2 s c i k |>.get n) x y/\rO x y (partAt s c i k n)=none:=by
 have hf:=aiB h hi hk hn;have hl:=Qs ((IZ h).2 i hi).look;unfold rO;show (VA ((C2 s c i k).get n) x y/\(match lj ((C2 s c i k).get n) x y with | some (sp,e)=>_ | none=>none)=_)\/¬ VA ((C2 s c i k).get n) x y/\(match lj ((C2 s c i k).get n) x y with | some (sp,e)=>_ | none=>none)=_;rcases abq hf hp with ⟨h1,h2,h3,h4⟩ | ⟨h1,h2⟩
 ·refine .inl ⟨h1,?_⟩
  rw [h2];show cond ((0:Int)==0) (some (⟨ak ((s.items.get i).look.FC+(TN ((C2 s c i k).get n) x y).d),(i:Int),(k:Int),(n:Int),_,_⟩:aU)) none=_;have:=hl.b0; have:=hl.b1;rw [aj (by omega) (by omega),Int.add_comm];rfl
 ·refine .inr ⟨h1,?_⟩
  rw [h2];rfl
def adw (t:bF):Prop:=(1<=t.w/\t.w<=16)/\(1<=t.h/\t.h<=16)/\(t.dH.n:Int)=t.w * t.h
theorem aeU (n:Int):kK n=some (decide (1<=n/\n<=16)):=by
 unfold kK;by_cases h:n > 0
 ·rw [av h,ai]
  congr 1;exact decide_eq_decide.2 (by omega)
 ·rw [az h,aw,az (by omega)]
theorem aiC (t:bF):(adw t/\eS t=some 0)\/¬ adw t/\eS t=some 8:=by
 have e0:tQ t=some (decide (1<=t.w/\t.w<=16)):=aeU _;have e1:tR t=some (decide (1<=t.h/\t.h<=16)):=aeU _;unfold eS;simp only [e0,e1,bx,bq,ai];by_cases h1:1<=t.w/\t.w<=16
 ·rw [av h1,jk,aw]
  by_cases h2:1<=t.h/\t.h<=16
  ·rw [av h2,jk,aw]
   have h3:0<=t.w * t.h/\t.w * t.h<=16 * 16:=⟨wi (by omega) (by omega),CM h1.2 h2.2 (by omega) (by omega)⟩
   rw [aj (by omega) (by omega)];by_cases h4:((t.dH.n:Nat):Int)=t.w * t.h
   ·rw [show (((t.dH.n:Nat):Int) != t.w * t.h)=false by simpa using h4]
    exact .inl ⟨⟨h1,h2,h4⟩,rfl⟩
   ·rw [show (((t.dH.n:Nat):Int) != t.w * t.h)=true by simpa using h4]
    exact .inr ⟨fun h=>h4 h.2.2,rfl⟩
  ·rw [az h2]
   exact .inr ⟨fun h=>h2 h.2.1,rfl⟩
 ·rw [az h1]
  exact .inr ⟨fun h=>h1 h.1,rfl⟩
def WM (l:Sl bF):Prop:=∀ i,i < l.n->adw (l.get i)
theorem adx (l:Sl bF) (hn:l.n<=16):∃ e,gf l=some e/\(e=0↔WM l):=by
 obtain ⟨v,hv⟩:=OD (OG l);refine ⟨v,hv,fun h=>?_,fun h=>?_⟩
 ·subst h
  intro i hi;have:=Mv hv i hi;rcases aiC (l.get i) with ⟨h1,_⟩ | ⟨_,h2⟩
  ·exact h1
  ·rw [this] at h2; simp at h2
 ·unfold gf at hv
  obtain ⟨e,x',h1,rfl⟩:∃ e x',dL l = .out e x'/\e = .exit 0:=by
   unfold dL;refine bn (step:=fO) (fun j x=>x.t9=l/\x.t10=(l.n:Int)/\x.t11=(j:Int)/\j<=l.n) (fun e _=>e = .exit 0) l.n (by have:gd=1000000000000:=rfl; omega) (fun j x hj ⟨h2,h3,h4,h5⟩=>?_) ⟨rfl,rfl,rfl,cP _⟩;have w1:ak (x.t11+1)=x.t11+1:=aj;unfold fO bj;by_cases bt:x.t11 < x.t10
   ·have e0:iW x=some 0:=by
     unfold iW;rw [h2,h4,bU];rcases aiC (l.get j) with ⟨_,q⟩ | ⟨q,_⟩
     ·exact q
     ·exact absurd (h j (by omega)) q
    simp only [e0,w1,ai,aw,jO,bD,bx,bq,av bt,av (show (0:Int)<=x.t11 by omega),av (show x.t11 < ((x.t9.n:Nat):Int) by rw [h2]; omega)];exact .inl ⟨_,rfl,by omega,h2,h3,by show x.t11+1=_; omega,by omega⟩
   ·simp only [aw,az bt]
    exact .inr ⟨_,_,rfl,rfl,rfl⟩
  have b1:(dL l).by (.exit 0)=true:=by rw [h1]; rfl
  rw [az (show ¬ ((l.n:Nat):Int) > 16 by omega),aw,b1,ai] at hv;exact (qw hv).symm
def Big (s:Show):Prop:=s.items.n > 256\/s.au.n > 16
def abr (s:Show):Prop:=WM s.au/\∀ i,i < s.items.n->Mw (s.items.get i) (s.au.n:Int)
inductive BH (s:Show):Int->Prop where
 | many (h:Big s):BH s 4
 | bad (h : ¬ Big s) (h2 : ¬ abr s):BH s 8
 | ok (h : ¬ Big s) (h2:abr s):BH s 0
theorem BH.one {s:Show} {a b:Int} (h:BH s a) (k:BH s b):a=b:=by
 cases h <;> cases k <;> first | rfl | contradiction
theorem aeV (s:Show):agc s↔∀ i,i < s.items.n->Mw (s.items.get i) (s.au.n:Int):=by
 constructor
 ·intro h i hi
  obtain ⟨b,h5,h6⟩:=Zr (s.items.get i) (s.au.n:Int);have:=h i hi;rw [this] at h5;exact h6.1 (qw h5).symm
 ·intro h i hi
  obtain ⟨b,h5,h6⟩:=Zr (s.items.get i) (s.au.n:Int);rw [h5,h6.2 (h i hi)]
theorem alU (s:Show):∃ e,iX s=some e/\BH s e:=by
 unfold iX;by_cases g1:((s.items.n:Nat):Int) > 256
 ·rw [av g1,ai]
  exact ⟨_,rfl,.many (.inl (by omega))⟩
 by_cases g2:((s.au.n:Nat):Int) > 16
 ·rw [az g1,av g2,aw,ai]
  exact ⟨_,rfl,.many (.inr (by omega))⟩
 have hb : ¬ Big s:=by unfold Big; omega
 obtain ⟨v,hv,N7⟩:=adx s.au (by omega);have e0:tv s=some v:=hv;rw [az g1,az g2];simp only [e0,ai,aw,bx,bq];by_cases hz:v=0
 ·rw [show (v != (0:Int))=false by simpa using hz,aw]
  obtain ⟨e,x',hx,h⟩:=aeR s (by omega);rcases h with ⟨rfl,h1,h2⟩ | ⟨rfl,h1⟩
  ·have b1:(dU s).by (.exit 0)=false:=by rw [hx]; rfl
   have b2:(dU s).by .ret=true:=by rw [hx]; rfl
   have b3:(dU s).st=x':=by rw [hx]; rfl
   rw [b1,b2,b3,av h1,aw,ai,ai];exact ⟨_,rfl,.bad hb fun h=>h2 ((aeV s).2 h.2)⟩
  ·have b1:(dU s).by (.exit 0)=true:=by rw [hx]; rfl
   rw [b1,ai];exact ⟨_,rfl,.ok hb ⟨N7.1 hz,(aeV s).1 h1⟩⟩
 ·rw [show (v != (0:Int))=true by simpa using hz,ai]
  exact ⟨_,rfl,.bad hb fun h=>hz (N7.2 h.1)⟩
inductive Dx (s:Show) (c:aE):Int->Prop where
 | nI (e:Int) (h:BH s e) (he:e≠0):Dx s c e
 | cam (h:BH s 0) (hc : ¬ mC c):Dx s c 150
 | ok (h:BH s 0) (hc:mC c):Dx s c 0
theorem Dx.one {s:Show} {c:aE} {a b:Int} (h:Dx s c a) (k:Dx s c b):a=b:=by
 rcases h with ⟨_,h1,h2⟩ | ⟨h1,h2⟩ | ⟨h1,h2⟩ <;> rcases k with ⟨_,k1,k2⟩ | ⟨k1,k2⟩ | ⟨k1,k2⟩
 ·exact h1.one k1
 ·exact absurd (h1.one k1) h2
 ·exact absurd (h1.one k1) h2
 ·exact absurd (k1.one h1) k2
 ·rfl
 ·exact absurd k2 h2
 ·exact absurd (k1.one h1) k2
 ·exact absurd h2 k2
 ·rfl
theorem abt (s:Show) (c:aE):∃ e,dw s c=some e/\Dx s c e:=by
 obtain ⟨e,h1,h2⟩:=alU s;obtain ⟨f,h3,h4,h5⟩:=yh c;have e0:qQ s c=some e:=h1;have e1:tw s c=some f:=h3;unfold dw;simp only [e0,e1,bx,bq,ai];by_cases he:e=0
 ·subst he
  refine ⟨f,rfl,?_⟩;by_cases hf:f=0
  ·subst hf; exact .ok h2 (h5.1 rfl)
  ·have:f=150:=by omega
   subst this;exact .cam h2 fun h=>hf (h5.2 h)
 ·rw [show (e != (0:Int))=true by simpa using he]
  exact ⟨e,rfl,.nI e h2 he⟩
structure xG (s s' : Show):Prop where
 n:s'.items.n=s.items.n
 it:∀ i,i < s.items.n->s'.items.get i=s.items.get i
 tn:s'.au.n=s.au.n
 tx:∀ i,i < s.au.n->s'.au.get i=s.au.get i
theorem xG.check {s s' : Show} (h:xG s s') {e:Int} (k:BH s e):BH s' e:=by
 have hb:Big s'↔Big s:=by unfold Big; rw [h.n,h.tn]
 have hg:abr s'↔abr s:=by
  unfold abr WM;rw [h.n,h.tn];constructor
  ·rintro ⟨h1,h2⟩
   exact ⟨fun i hi=>by rw [<- h.tx i hi]; exact h1 i hi,fun i hi=>by rw [<- h.it i hi]; exact h2 i hi⟩
  ·rintro ⟨h1,h2⟩
   exact ⟨fun i hi=>by rw [h.tx i hi]; exact h1 i hi,fun i hi=>by rw [h.it i hi]; exact h2 i hi⟩
 cases k with
 | many q=>exact .many (hb.2 q)
 | bad q r=>exact .bad (fun x=>q (hb.1 x)) (fun x=>r (hg.1 x))
 | ok q r=>exact .ok (fun x=>q (hb.1 x)) (hg.2 r)
theorem xG.asked {s s' : Show} (h:xG s s') {c:aE} {e:Int} (k:Dx s c e):Dx s' c e:=by
 cases k with
 | nI _ q r=>exact .nI e (h.check q) r
 | cam q r=>exact .cam (h.check q) r
 | ok q r=>exact .ok (h.check q) r
theorem alV {s s' : Show} {c:aE} {i i' : Nat} (k:Int) (hi:i < s.items.n) (Yq:i' < s'.items.n) (h:s'.items.get i' = s.items.get i):kM s' c (i' : Int) k=kM s c (i:Int) k:=by
 have e0:o5 s' c i' k=o5 s c i k:=by unfold o5; rw [bU,bU,h]
 have e1:o6 s' c i' k=o6 s c i k:=by unfold o6; rw [bU,bU,h]
 have e2:o7 s' c i' k=o7 s c i k:=by unfold o7; rw [bU,bU,h]
 have e3:mT s' c i' k=mT s c i k:=by unfold mT; rw [e0,e1,e2,bU,bU,h]
 have e4:hZ s' c i' k=hZ s c i k:=by unfold hZ; rw [e3,bU,bU,h]
 unfold kM bj;rw [e0,e1,e2,e3,e4,bU,bU,h,av (show (i' : Int) < ((s'.items.n:Nat):Int) by omega),av (show (i:Int) < ((s.items.n:Nat):Int) by omega),av (show 0<=(i:Int) by omega),av (show 0<=(i' : Int) by omega)]
theorem NP {α β:Type} {f g:α->List β} : ∀ {l:List α},(∀ a∈l,f a=g a)->l.flatMap f=l.flatMap g
 | [],_=>rfl
 | a::l,h=>by rw [List.flatMap_cons,List.flatMap_cons,h a (Kh ..),NP fun b hb=>h b (vV _ hb)]
theorem xG.all {s s' : Show} (h:xG s s') (c:aE):jc s' c=jc s c:=by
 unfold jc;rw [h.n];refine NP fun i hi=>?_;have hi:=A4.1 hi;unfold Jm;rw [h.it i hi];refine NP fun k hk=>?_;have hp:C2 s' c i k=C2 s c i k:=by
  unfold C2;rw [alV (s:=s) (s':=s') (k:Int) hi (by rw [h.n]; exact hi) (h.it i hi)]
 unfold ND;rw [hp];refine List.map_congr_left fun a _=>?_;unfold partAt;rw [hp,h.it i hi]
theorem xG.item {s s' : Show} (h:xG s s') {f:aU} (h0:0<=f.item/\f.item < (s.items.n:Int)):s'.items.get (Int.toNat f.item)=s.items.get (Int.toNat f.item):=h.it _ (by omega)
end Go.Proofs.YtchbpckkmgcgkaaGreat.b
end
section
namespace Go.Proofs.YtchbpckkmgcgkaaGreat.b
open Go.K
noncomputable section
def Hm (t:bF):Option (Bool):=(cond (decide (t.w >= 1)) (cond (decide (t.w<=16)) (cond (decide (t.h >= 1)) (cond (decide (t.h<=16)) (some (((t.dH.n:Int)==(ak (t.w * t.h))))) (some (false))) (some (false))) (some (false))) (some (false)))
theorem alW (t:bF):hJ [] [] 128 [iy t] = (Hm t).map kB:=by
 unfold Hm
 try simp only [aY]
 kernel_rfl
def Zs:List KV->KR KV:=bd PG 128 (bg kB fun vs=>Hm (en (v9 vs 0)))
theorem Yl:a9 PG 128 Zs:=bM ao.nil aL.nil fun w=>alW (en (g0 114 (w 0)))
structure pf where
 l:(Sl bF)
 t2:Int
 i:Int
instance:Inhabited pf:=⟨⟨default,default,default⟩⟩
def F4 (x:pf):List KV:=[fL 114 iy x.l,.int .i64 x.t2,.int .i64 x.i]
def F5 (x:pf):List (List KV):=[]
def NR (vs:List KV) (rs:List (List KV)):pf:=⟨fg en (v9 vs 0),intOf (v9 vs 1),intOf (v9 vs 2)⟩
def Qt:aQ:=⟨[(0,w9 (n9 114)),(2,w9 i9),(3,w9 i9)],[],[]⟩
def abu:=uj [(128,Zs)] [] 65 58 Qt
def yj (x:pf):=Hm (x.l.get (Int.toNat x.i))
def qc (x:pf):aJ pf:=(cond (decide (x.i < (x.l.n:Int))) (cond (bj x.i x.l.n) (cond (yj x).isSome (cond (!((yj x).getD default)) (.out aF.aq.ret ⟨x.l,8,x.i⟩) (.next ⟨x.l,x.t2,(ak (x.i+1))⟩)) .fail) .fail) (.out (aF.aq.exit 0) x))
theorem Xn (x:pf):abu (F4 x) (F5 x)=aJ.enc F4 F5 (qc x):=by
 unfold qc bj
 try simp only [aJ.bz]
 kernel_rfl
def Qu:Lp:=⟨65,58,Qt,fun vs rs=>bT F4 F5 (goN qc (NR vs rs)) [aF.aq.exit 0,aF.aq.ret],false⟩
theorem abv:Qu.Ok PG:=tl (ao.cons Yl ao.nil) aL.nil (pa:=NR) Xn
def ow (l:(Sl bF)):=goN qc ⟨l,0,0⟩
def yU (l:(Sl bF)):Option (Int):=(cond (decide ((l.n:Int) > 16)) (some (4)) (cond ((ow l).by (aF.aq.exit 0)) (some (0)) (cond ((ow l).by aF.aq.ret) (some ((ow l).st.t2)) none)))
theorem afw (l:(Sl bF)):hJ [(128,Zs)] [Qu] 65 [(fL 114 iy) l] = (yU l).map (kI .i64):=by
 unfold yU
 try simp only [aY]
 kernel_rfl
def OU:List KV->KR KV:=bd PG 65 (bg (kI .i64) fun vs=>yU ((fg en) (v9 vs 0)))
theorem Qv:a9 PG 65 OU:=bM (ao.cons Yl ao.nil) (hH abv aL.nil) fun w=>afw ((fg en) (g0 23 (w 0)))
def Hn (l:yx) (au:Int):Option (Bool):=(cond (decide (l.iG >= (-(1:Int)))) (cond (decide (l.iG < au)) (cond (decide (l.cA<=2)) (cond (decide (l.FC >= (-(1024:Int)))) (cond (decide (l.FC<=1024)) (cond (decide (l.bin >= 0)) (some ((decide (l.bin<=15)))) (some (false))) (some (false))) (some (false))) (some (false))) (some (false))) (some (false)))
theorem alX (l:yx) (au:Int):hJ [] [] 129 [alG l,(kI .i64) au] = (Hn l au).map kB:=by
 unfold Hn
 try simp only [aY]
 kernel_rfl
def SG:List KV->KR KV:=bd PG 129 (bg kB fun vs=>Hn (Vd (v9 vs 0)) (intOf (v9 vs 1)))
theorem OV:a9 PG 129 SG:=bM ao.nil aL.nil fun w=>alX (Vd (g0 107 (w 0))) (intOf (g0 3 (w 1)))
def Zt (a:iP) (b:iP):Option (iP):=(some (⟨(min a.x b.x),(min a.y b.y),(min a.z b.z)⟩))
theorem alY (a:iP) (b:iP):hJ [] [] 181 [rf a,rf b] = (Zt a b).map rf:=by
 unfold Zt
 kernel_rfl
def Zu:List KV->KR KV:=bd PG 181 (bg rf fun vs=>Zt (rN (v9 vs 0)) (rN (v9 vs 1)))
theorem Ym:a9 PG 181 Zu:=bM ao.nil aL.nil fun w=>alY (rN (g0 27 (w 0))) (rN (g0 27 (w 1)))
def VB (a:iP) (b:iP):Option (iP):=(some (⟨(max a.x b.x),(max a.y b.y),(max a.z b.z)⟩))
theorem ajE (a:iP) (b:iP):hJ [] [] 182 [rf a,rf b] = (VB a b).map rf:=by
 unfold VB
 kernel_rfl
def VE:List KV->KR KV:=bd PG 182 (bg rf fun vs=>VB (rN (v9 vs 0)) (rN (v9 vs 1)))
theorem VF:a9 PG 182 VE:=bM ao.nil aL.nil fun w=>ajE (rN (g0 27 (w 0))) (rN (g0 27 (w 1)))
structure sh where
 l:(Sl iP)
 i:Int
 t2:Fy
 b:Fy
instance:Inhabited sh:=⟨⟨default,default,default,default⟩⟩
def Ho (x:sh):List KV:=[fL 27 rf x.l,.int .i64 x.i]
def Hp (x:sh):List (List KV):=[anR x.t2,anR x.b]
def Qw (vs:List KV) (rs:List (List KV)):sh:=⟨fg rN (v9 vs 0),intOf (v9 vs 1),anS (r9 rs 0),anS (r9 rs 1)⟩
def Th:aQ:=⟨[(0,w9 (n9 27)),(4,w9 i9)],[(2,[i9,i9,i9,i9,i9,i9],1),(3,[i9,i9,i9,i9,i9,i9],1)],[(2,0,0),(3,1,0)]⟩
def ady:=uj [(182,VE),(181,Zu)] [] 131 58 Th
def qW (x:sh):aJ sh:=(cond (decide (x.i < (x.l.n:Int))) (cond (bj x.i x.l.n) (cond (bj x.i x.l.n) (.next ⟨x.l,(ak (x.i+1)),x.t2,⟨⟨(min x.b.low.x (x.l.get (Int.toNat x.i)).x),(min x.b.low.y (x.l.get (Int.toNat x.i)).y),(min x.b.low.z (x.l.get (Int.toNat x.i)).z)⟩,⟨(max x.b.high.x (x.l.get (Int.toNat x.i)).x),(max x.b.high.y (x.l.get (Int.toNat x.i)).y),(max x.b.high.z (x.l.get (Int.toNat x.i)).z)⟩⟩⟩) .fail) .fail) (.out (aF.aq.exit 0) x))
theorem Zv (x:sh):ady (Ho x) (Hp x)=aJ.enc Ho Hp (qW x):=by
 unfold qW bj
 try simp only [aJ.bz]
 kernel_rfl
def Ti:Lp:=⟨131,58,Th,fun vs rs=>bT Ho Hp (goN qW (Qw vs rs)) [aF.aq.exit 0],false⟩
theorem adz:Ti.Ok PG:=tl (ao.cons VF (ao.cons Ym ao.nil)) aL.nil (pa:=Qw) Zv
def xm (l:(Sl iP)):=goN qW ⟨l,1,⟨⟨0,0,0⟩,⟨0,0,0⟩⟩,⟨(l.get 0),(l.get 0)⟩⟩
def yk (l:(Sl iP)):Option (Fy):=(cond (decide (0 < (l.n:Int))) (cond (decide (0 < (l.n:Int))) (cond ((xm l).by (aF.aq.exit 0)) (some ((xm l).st.b)) none) none) none)
theorem aiD (l:(Sl iP)):hJ [(182,VE),(181,Zu)] [Ti] 131 [(fL 27 rf) l] = (yk l).map Ir:=by
 unfold yk
 try simp only [aY]
 kernel_rfl
def KD:List KV->KR KV:=bd PG 131 (bg Ir fun vs=>yk ((fg rN) (v9 vs 0)))
theorem Jz:a9 PG 131 KD:=bM (ao.cons VF (ao.cons Ym ao.nil)) (hH adz aL.nil) fun w=>aiD ((fg rN) (g0 103 (w 0)))
structure mF where
 t4:Bool
 n:Int
 i:Int
 x:Item
instance:Inhabited mF:=⟨⟨default,default,default,default⟩⟩
def JA (x:mF):List KV:=[.bool x.t4,.int .i64 x.n,.int .i64 x.i]
def JB (x:mF):List (List KV):=[Cl x.x]
def Tj (vs:List KV) (rs:List (List KV)):mF:=⟨kN (v9 vs 0),intOf (v9 vs 1),intOf (v9 vs 2),DR (r9 rs 0)⟩
def VG:aQ:=⟨[(4,w9 b9),(5,w9 i9),(6,w9 i9)],[(2,[n9 27,n9 181,n9 28,u9,u9,u9,u9,i9,u9,i9,b9,i9,i9,i9,i9,i9,i9,i9],1)],[(2,0,0)]⟩
def afx:=uj [(131,KD),(130,Mc),(129,SG)] [] 66 122 VG
def BI (x:mF):=DV (x.x.aH.get (Int.toNat x.i)) 4096
def rW (x:mF):aJ mF:=(cond (decide (x.i < x.n)) (cond (bj x.i x.x.aH.n) (cond (BI x).isSome (cond (!((BI x).getD default)) (.out aF.aq.ret ⟨false,x.n,x.i,x.x⟩) (cond (bj x.i x.x.uV.n) (cond (decide ((x.x.uV.get (Int.toNat x.i)).e0 < 0)) (.out aF.aq.ret ⟨false,x.n,x.i,x.x⟩) (cond (bj x.i x.x.uV.n) (cond (decide ((x.x.uV.get (Int.toNat x.i)).e0 > 255)) (.out aF.aq.ret ⟨false,x.n,x.i,x.x⟩) (cond (bj x.i x.x.uV.n) (cond (decide ((x.x.uV.get (Int.toNat x.i)).e1 < 0)) (.out aF.aq.ret ⟨false,x.n,x.i,x.x⟩) (cond (bj x.i x.x.uV.n) (cond (decide ((x.x.uV.get (Int.toNat x.i)).e1 > 255)) (.out aF.aq.ret ⟨false,x.n,x.i,x.x⟩) (.next ⟨x.t4,x.n,(ak (x.i+1)),x.x⟩)) .fail)) .fail)) .fail)) .fail)) .fail) .fail) (.out (aF.aq.exit 0) x))
theorem abw (x:mF):afx (JA x) (JB x)=aJ.enc JA JB (rW x):=by
 unfold rW bj
 try simp only [aJ.bz]
 kernel_rfl
def Mx:Lp:=⟨66,122,VG,fun vs rs=>bT JA JB (goN rW (Tj vs rs)) [aF.aq.exit 0,aF.aq.ret],false⟩
theorem Tk:Mx.Ok PG:=tl (ao.cons Jz (ao.cons Ig (ao.cons OV ao.nil))) aL.nil (pa:=Tj) abw
structure nZ where
 t4:Bool
 n:Int
 i:Int
 x:Item
instance:Inhabited nZ:=⟨⟨default,default,default,default⟩⟩
def JC (x:nZ):List KV:=[.bool x.t4,.int .i64 x.n,.int .i64 x.i]
def JD (x:nZ):List (List KV):=[Cl x.x]
def Tl (vs:List KV) (rs:List (List KV)):nZ:=⟨kN (v9 vs 0),intOf (v9 vs 1),intOf (v9 vs 2),DR (r9 rs 0)⟩
def VH:aQ:=⟨[(4,w9 b9),(5,w9 i9),(7,w9 i9)],[(2,[n9 27,n9 181,n9 28,u9,u9,u9,u9,i9,u9,i9,b9,i9,i9,i9,i9,i9,i9,i9],1)],[(2,0,0)]⟩
def afy:=uj [(131,KD),(130,Mc),(129,SG)] [Mx] 66 250 VH
def pV (x:nZ):aJ nZ:=(cond (decide (x.i < (x.x.bf.n:Int))) (cond (bj x.i x.x.bf.n) (cond (decide ((x.x.bf.get (Int.toNat x.i)).e0 < 0)) (.out aF.aq.ret ⟨false,x.n,x.i,x.x⟩) (cond (bj x.i x.x.bf.n) (cond (decide ((x.x.bf.get (Int.toNat x.i)).e0 >= x.n)) (.out aF.aq.ret ⟨false,x.n,x.i,x.x⟩) (cond (bj x.i x.x.bf.n) (cond (decide ((x.x.bf.get (Int.toNat x.i)).e1 < 0)) (.out aF.aq.ret ⟨false,x.n,x.i,x.x⟩) (cond (bj x.i x.x.bf.n) (cond (decide ((x.x.bf.get (Int.toNat x.i)).e1 >= x.n)) (.out aF.aq.ret ⟨false,x.n,x.i,x.x⟩) (cond (bj x.i x.x.bf.n) (cond (decide ((x.x.bf.get (Int.toNat x.i)).e2 < 0)) (.out aF.aq.ret ⟨false,x.n,x.i,x.x⟩) (cond (bj x.i x.x.bf.n) (cond (decide ((x.x.bf.get (Int.toNat x.i)).e2 >= x.n)) (.out aF.aq.ret ⟨false,x.n,x.i,x.x⟩) (.next ⟨x.t4,x.n,(ak (x.i+1)),x.x⟩)) .fail)) .fail)) .fail)) .fail)) .fail)) .fail) (.out (aF.aq.exit 2) x))
theorem abx (x:nZ):afy (JC x) (JD x)=aJ.enc JC JD (pV x):=by
 unfold pV bj
 try simp only [aJ.bz]
 kernel_rfl
def VI:Lp:=⟨66,250,VH,fun vs rs=>bT JC JD (goN pV (Tl vs rs)) [aF.aq.exit 2,aF.aq.ret],false⟩
theorem afz:VI.Ok PG:=tl (ao.cons Jz (ao.cons Ig (ao.cons OV ao.nil))) (hH Tk aL.nil) (pa:=Tl) abx
def SH (x:Item) (au:Int):=Hn x.look au
def nj (x:Item) (au:Int):=goN rW ⟨false,(x.aH.n:Int),0,x⟩
def eW (x:Item) (au:Int):=goN pV ⟨(nj x au).st.t4,(nj x au).st.n,0,(nj x au).st.x⟩
def sU (x:Item) (au:Int):=yk (eW x au).st.x.aH
def Hq (x:Item) (au:Int):Option (Bool):=(cond (decide ((x.aH.n:Int) > 64)) (some (false)) (cond ((x.uV.n:Int) != (x.aH.n:Int)) (some (false)) (cond (decide ((x.bf.n:Int) > 64)) (some (false)) (cond (SH x au).isSome (cond (!((SH x au).getD default)) (some (false)) (cond ((nj x au).by (aF.aq.exit 0)) (cond ((eW x au).by (aF.aq.exit 2)) (cond ((eW x au).st.n==0) (some ((((eW x au).st.x.box.low.x==0)&&(((eW x au).st.x.box.low.y==0)&&(((eW x au).st.x.box.low.z==0)&&(((eW x au).st.x.box.high.x==0)&&(((eW x au).st.x.box.high.y==0)&&(((eW x au).st.x.box.high.z==0)&&true)))))))) (cond (sU x au).isSome (some ((((eW x au).st.x.box.low.x==((sU x au).getD default).low.x)&&(((eW x au).st.x.box.low.y==((sU x au).getD default).low.y)&&(((eW x au).st.x.box.low.z==((sU x au).getD default).low.z)&&(((eW x au).st.x.box.high.x==((sU x au).getD default).high.x)&&(((eW x au).st.x.box.high.y==((sU x au).getD default).high.y)&&(((eW x au).st.x.box.high.z==((sU x au).getD default).high.z)&&true)))))))) none)) (cond ((eW x au).by aF.aq.ret) (some ((eW x au).st.t4)) none)) (cond ((nj x au).by aF.aq.ret) (some ((nj x au).st.t4)) none))) none))))
theorem alZ (x:Item) (au:Int):hJ [(131,KD),(130,Mc),(129,SG)] [Mx,VI] 66 [FD x,(kI .i64) au] = (Hq x au).map kB:=by
 unfold Hq
 try simp only [aY]
 kernel_rfl
def Zw:List KV->KR KV:=bd PG 66 (bg kB fun vs=>Hq (x6 (v9 vs 0)) (intOf (v9 vs 1)))
theorem Yn:a9 PG 66 Zw:=bM (ao.cons Jz (ao.cons Ig (ao.cons OV ao.nil))) (hH Tk (hH afz aL.nil)) fun w=>alZ (x6 (g0 111 (w 0))) (intOf (g0 3 (w 1)))
structure pg where
 t2:Int
 i:Int
 s:Show
instance:Inhabited pg:=⟨⟨default,default,default⟩⟩
def F6 (x:pg):List KV:=[.int .i64 x.t2,.int .i64 x.i]
def F7 (x:pg):List (List KV):=[sP x.s]
def NS (vs:List KV) (rs:List (List KV)):pg:=⟨intOf (v9 vs 0),intOf (v9 vs 1),sQ (r9 rs 0)⟩
def Qx:aQ:=⟨[(2,w9 i9),(3,w9 i9)],[(1,[n9 111,n9 114],1)],[(1,0,0)]⟩
def aby:=uj [(66,Zw),(65,OU)] [] 20 122 Qx
def yl (x:pg):=Hq (x.s.items.get (Int.toNat x.i)) (x.s.au.n:Int)
def qd (x:pg):aJ pg:=(cond (decide (x.i < (x.s.items.n:Int))) (cond (bj x.i x.s.items.n) (cond (yl x).isSome (cond (!((yl x).getD default)) (.out aF.aq.ret ⟨8,x.i,x.s⟩) (.next ⟨x.t2,(ak (x.i+1)),x.s⟩)) .fail) .fail) (.out (aF.aq.exit 0) x))
theorem Xo (x:pg):aby (F6 x) (F7 x)=aJ.enc F6 F7 (qd x):=by
 unfold qd bj
 try simp only [aJ.bz]
 kernel_rfl
def Qy:Lp:=⟨20,122,Qx,fun vs rs=>bT F6 F7 (goN qd (NS vs rs)) [aF.aq.exit 0,aF.aq.ret],false⟩
theorem abz:Qy.Ok PG:=tl (ao.cons Yn (ao.cons Qv ao.nil)) aL.nil (pa:=NS) Xo
def Mz (s:Show):=yU s.au
def pW (s:Show):=goN qd ⟨0,0,s⟩
def BJ (s:Show):Option (Int):=(cond (decide ((s.items.n:Int) > 256)) (some (4)) (cond (decide ((s.au.n:Int) > 16)) (some (4)) (cond (Mz s).isSome (cond (((Mz s).getD default) != 0) (some (8)) (cond ((pW s).by (aF.aq.exit 0)) (some (0)) (cond ((pW s).by aF.aq.ret) (some ((pW s).st.t2)) none))) none)))
theorem aiE (s:Show):hJ [(66,Zw),(65,OU)] [Qy] 20 [uB s] = (BJ s).map (kI .i64):=by
 unfold BJ
 try simp only [aY]
 kernel_rfl
def abA:List KV->KR KV:=bd PG 20 (bg (kI .i64) fun vs=>BJ (kL (v9 vs 0)))
theorem afA:a9 PG 20 abA:=bM (ao.cons Yn (ao.cons Qv ao.nil)) (hH abz aL.nil) fun w=>aiE (kL (g0 25 (w 0)))
def Ew (t:bF):Option (bF):=(cond (ij 4 0 t.dH.n) (some (⟨t.w,t.h,((⟨0,(fun i=>⟨0,0,0,0⟩)⟩:Sl _).join t.dH)⟩)) none)
theorem ajF (t:bF):hJ [] [] 46 [iy t] = (Ew t).map iy:=by
 unfold Ew
 try simp only [aY,anU]
 kernel_rfl
def NT:List KV->KR KV:=bd PG 46 (bg iy fun vs=>Ew (en (v9 vs 0)))
theorem MA:a9 PG 46 NT:=bM ao.nil aL.nil fun w=>ajF (en (g0 114 (w 0)))
structure uc where
 i:Int
 s:Show
 t2:Show
 out:Show
instance:Inhabited uc:=⟨⟨default,default,default,default⟩⟩
def JE (x:uc):List KV:=[.int .i64 x.i]
def JF (x:uc):List (List KV):=[sP x.s,sP x.t2,sP x.out]
def Tn (vs:List KV) (rs:List (List KV)):uc:=⟨intOf (v9 vs 0),sQ (r9 rs 0),sQ (r9 rs 1),sQ (r9 rs 2)⟩
def VJ:aQ:=⟨[(4,w9 i9)],[(1,[n9 111,n9 114],1),(2,[.aZ 111,.aZ 114],1),(3,[.aZ 111,.aZ 114],1)],[(1,0,0),(2,1,0),(3,2,0)]⟩
def afB:=uj [(46,NT)] [] 9 58 VJ
def VL (x:Item):KV:=.agg ([.ts 27 .any (0+x.aH.n) ([]++(List.range x.aH.n).map fun i=>rf (x.aH.get i)) (dS 0 pI fun i=>rf (x.aH.get i)),.ts 181 .any (0+x.uV.n) ([]++(List.range x.uV.n).map fun i=>ah7 (x.uV.get i)) (dS 0 pI fun i=>ah7 (x.uV.get i)),.ts 28 .any (0+x.bf.n) ([]++(List.range x.bf.n).map fun i=>tP (x.bf.get i)) (dS 0 pI fun i=>tP (x.bf.get i))]++(Cl x).drop 3)
def rX (x:uc):aJ uc:=(cond (decide (x.i < (x.s.items.n:Int))) (cond (bj x.i x.s.items.n) (cond (ij 24 0 (x.s.items.get (Int.toNat x.i)).aH.n) (cond (ij 16 0 (x.s.items.get (Int.toNat x.i)).uV.n) (cond (ij 24 0 (x.s.items.get (Int.toNat x.i)).bf.n) (cond (nm 168 x.out.items.n 1) (cond (cond (cond (cond (aC x.out.au.n) (aC (x.out.items.n+1)) false) (aC x.t2.au.n) false) (aC x.t2.items.n) false) (.next ⟨(ak (x.i+1)),x.s,x.t2,⟨(kX x6 (x.out.items.n+1) (dS x.out.items.n (fun i=>FD (x.out.items.get i)) (qy [VL (x.s.items.get (Int.toNat x.i))]))),x.out.au⟩⟩) .fail) .fail) .fail) .fail) .fail) .fail) (cond (cond (cond (cond (aC x.out.au.n) (aC x.out.items.n) false) (aC x.t2.au.n) false) (aC x.t2.items.n) false) (.out (aF.aq.exit 0) x) .fail))
theorem abB (x:uc):afB (JE x) (JF x)=aJ.enc JE JF (rX x):=by
 unfold rX bj nm aC
 try simp only [aJ.bz]
 kernel_rfl
def MB:Lp:=⟨9,58,VJ,fun vs rs=>bT JE JF (goN rX (Tn vs rs)) [aF.aq.exit 0],false⟩
theorem Tp:MB.Ok PG:=tl (ao.cons MA ao.nil) aL.nil (pa:=Tn) abB
structure qo where
 i:Int
 s:Show
 t2:Show
 out:Show
instance:Inhabited qo:=⟨⟨default,default,default,default⟩⟩
def Hr (x:qo):List KV:=[.int .i64 x.i]
def Hs (x:qo):List (List KV):=[sP x.s,sP x.t2,sP x.out]
def Qz (vs:List KV) (rs:List (List KV)):qo:=⟨intOf (v9 vs 0),sQ (r9 rs 0),sQ (r9 rs 1),sQ (r9 rs 2)⟩
def Tq:aQ:=⟨[(6,w9 i9)],[(1,[n9 111,n9 114],1),(2,[.aZ 111,.aZ 114],1),(3,[.aZ 111,.aZ 114],1)],[(1,0,0),(2,1,0),(3,2,0)]⟩
def adA:=uj [(46,NT)] [MB] 9 122 Tq
def zD (x:qo):=Ew (x.s.au.get (Int.toNat x.i))
def qX (x:qo):aJ qo:=(cond (decide (x.i < (x.s.au.n:Int))) (cond (bj x.i x.s.au.n) (cond (zD x).isSome (cond (nm 40 x.out.au.n 1) (cond (cond (cond (cond (aC (x.out.au.n+1)) (aC x.out.items.n) false) (aC x.t2.au.n) false) (aC x.t2.items.n) false) (.next ⟨(ak (x.i+1)),x.s,x.t2,⟨x.out.items,(x.out.au.push ((zD x).getD default))⟩⟩) .fail) .fail) .fail) .fail) (cond (cond (cond (cond (aC x.out.au.n) (aC x.out.items.n) false) (aC x.t2.au.n) false) (aC x.t2.items.n) false) (.out (aF.aq.exit 2) x) .fail))
theorem Zx (x:qo):adA (Hr x) (Hs x)=aJ.enc Hr Hs (qX x):=by
 unfold qX bj nm aC
 try simp only [aJ.bz,ajr]
 kernel_rfl
def Tr:Lp:=⟨9,122,Tq,fun vs rs=>bT Hr Hs (goN qX (Qz vs rs)) [aF.aq.exit 2],false⟩
theorem adB:Tr.Ok PG:=tl (ao.cons MA ao.nil) (hH Tp aL.nil) (pa:=Qz) Zx
def la (s:Show):=goN rX ⟨0,s,⟨⟨0,(fun i=>⟨⟨0,(fun i=>⟨0,0,0⟩)⟩,⟨0,(fun i=>⟨0,0⟩)⟩,⟨0,(fun i=>⟨0,0,0⟩)⟩,⟨⟨0,0,0,0⟩,0,0,0,false,0⟩,⟨⟨0,0,0⟩,⟨0,0,0⟩⟩⟩)⟩,⟨0,(fun i=>⟨0,0,⟨0,(fun i=>⟨0,0,0,0⟩)⟩⟩)⟩⟩,⟨⟨0,(fun i=>⟨⟨0,(fun i=>⟨0,0,0⟩)⟩,⟨0,(fun i=>⟨0,0⟩)⟩,⟨0,(fun i=>⟨0,0,0⟩)⟩,⟨⟨0,0,0,0⟩,0,0,0,false,0⟩,⟨⟨0,0,0⟩,⟨0,0,0⟩⟩⟩)⟩,⟨0,(fun i=>⟨0,0,⟨0,(fun i=>⟨0,0,0,0⟩)⟩⟩)⟩⟩⟩
def yV (s:Show):=goN qX ⟨0,(la s).st.s,(la s).st.t2,(la s).st.out⟩
def Ex (s:Show):Option (Show):=(cond ((la s).by (aF.aq.exit 0)) (cond (cond (cond (cond (aC (la s).st.out.au.n) (aC (la s).st.out.items.n) false) (aC (la s).st.t2.au.n) false) (aC (la s).st.t2.items.n) false) (cond ((yV s).by (aF.aq.exit 2)) (some ((yV s).st.out)) none) none) none)
theorem ajG (s:Show):hJ [(46,NT)] [MB,Tr] 9 [uB s] = (Ex s).map uB:=by
 unfold Ex aC
 try simp only [aY]
 kernel_rfl
def aeW:List KV->KR KV:=bd PG 9 (bg uB fun vs=>Ex (kL (v9 vs 0)))
theorem aiF:a9 PG 9 aeW:=bM (ao.cons MA ao.nil) (hH Tp (hH adB aL.nil)) fun w=>ajG (kL (g0 25 (w 0)))
end
end Go.Proofs.YtchbpckkmgcgkaaGreat.b
end
section
namespace Go.Proofs.YtchbpckkmgcgkaaGreat.b
open Go.K Go.K.hY
open Go.aF (aq)
theorem apx {α:Type} [Inhabited α] {l:Sl α} {n:Nat} {v:α} {g:Nat->α} (hn:l.n=n) (h:∀ q,q < n->l.get q=g q) (hv:v=g n):∀ q,q < n+1->(l.push v).get q=g q:=fun q hq=>by
 by_cases hl:q < n
 ·rw [Sl.acI (by omega)]; exact h q hl
 ·have e:q=l.n:=by omega
  rw [e,Sl.acJ,hv,hn]
structure Small (s:Show):Prop where
 n:s.items.n<=260
 it:∀ i,i < s.items.n->(s.items.get i).aH.n<=800/\(s.items.get i).uV.n<=800/\(s.items.get i).bf.n<=800
 tn:s.au.n<=40
 tx:∀ i,i < s.au.n->(s.au.get i).dH.n<=20000
theorem aiG {l:Sl bF} (h:sR l=some false):l.n<=40/\∀ i,i < l.n->(l.get i).dH.n<=20000:=by
 obtain ⟨e,z,hz,rfl,h0,h1,h2⟩:∃ e z,nW l = .out e z/\(e = .exit 0/\z.l=l/\0<=z.n/\∀ i,i < l.n->i < 100->min ((l.get i).dH.n:Int) 100000<=z.n):=by
  unfold nW;refine bn (step:=mu) (fun j y=>y.l=l/\y.i=(j:Int)/\0<=y.n/\y.n<=100000 * (j:Int)/\j<=100/\∀ i,i < j->min ((l.get i).dH.n:Int) 100000<=y.n) _ 100 (by have:gd=1000000000000:=rfl; omega) (fun j y hj ⟨f1,f2,f3,f4,f5,f6⟩=>?_) ⟨rfl,rfl,Int.le_refl _,by show (0:Int)<=_; omega,by omega,fun i hi=>absurd hi (mJ _)⟩;have w1:ak (y.i+1)=y.i+1:=aj;unfold mu bj;by_cases c1:y.i < ((y.l.n:Nat):Int)
  ·by_cases c2:y.i < 100
   ·have hg:y.l.get (Int.toNat y.i)=l.get j:=by rw [f1,f2,bU]
    simp only [hg,w1,ai,bD,av c1,av c2,av (show (0:Int)<=y.i by omega)];have w2:ak (y.n+min ((l.get j).dH.n:Int) 100000)=y.n+min ((l.get j).dH.n:Int) 100000:=aj;rw [w2];refine .inl ⟨_,rfl,by omega,f1,by show y.i+1=_; omega,by show 0<=y.n+_; omega,by show y.n+_<=_; omega,by omega,fun i hi=>?_⟩;show _<=y.n+_;by_cases vD:i < j
    ·have:=f6 i vD; omega
    ·have:i=j:=by omega
     subst this; omega
   ·simp only [ai,aw,av c1,az c2]
    exact .inr ⟨_,_,rfl,rfl,rfl,f1,f3,fun i _ hi=>f6 i (by omega)⟩
  ·simp only [aw,az c1]
   exact .inr ⟨_,_,rfl,rfl,rfl,f1,f3,fun i hi _=>f6 i (by rw [f1] at c1; omega)⟩
 have b1:(nW l).by (.exit 0)=true:=by rw [hz]; rfl
 have b2:(nW l).st=z:=by rw [hz]; rfl
 unfold sR at h;rw [b1,b2,h0,ai] at h;by_cases c1:((l.n:Nat):Int) > 40
 ·rw [av c1] at h; simp at h
 ·rw [az c1,aw] at h
  have c2:=of_decide_eq_false (qw h);exact ⟨by omega,fun i hi=>by have:=h2 i hi (by omega); omega⟩
theorem al0 {s:Show} (h:vg s=some false):Small s:=by
 obtain ⟨e,z,hz,rfl,h0,h1,h2⟩:∃ e z,mw s = .out e z/\(e = .exit 0/\z.s=s/\0<=z.n/\∀ i,i < s.items.n->i < 300->min ((s.items.get i).aH.n:Int) 10000+min ((s.items.get i).uV.n:Int) 10000+2 * min ((s.items.get i).bf.n:Int) 10000<=z.n):=by
  unfold mw;refine bn (step:=mv) (fun j y=>y.s=s/\y.i=(j:Int)/\0<=y.n/\y.n<=40000 * (j:Int)/\j<=300/\∀ i,i < j->min ((s.items.get i).aH.n:Int) 10000+min ((s.items.get i).uV.n:Int) 10000+2 * min ((s.items.get i).bf.n:Int) 10000<=y.n) _ 300 (by have:gd=1000000000000:=rfl; omega) (fun j y hj ⟨f1,f2,f3,f4,f5,f6⟩=>?_) ⟨rfl,rfl,Int.le_refl _,by show (0:Int)<=_; omega,by omega,fun i hi=>absurd hi (mJ _)⟩;have w1:ak (y.i+1)=y.i+1:=aj;unfold mv bj;by_cases c1:y.i < ((y.s.items.n:Nat):Int)
  ·by_cases c2:y.i < 300
   ·have hg:y.s.items.get (Int.toNat y.i)=s.items.get j:=by rw [f1,f2,bU]
    simp only [hg,w1,ai,bD,av c1,av c2,av (show (0:Int)<=y.i by omega)];have w2:ak ((ak ((ak (y.n+min ((s.items.get j).aH.n:Int) 10000))+min ((s.items.get j).uV.n:Int) 10000))+(ak (2 * min ((s.items.get j).bf.n:Int) 10000)))=y.n+(min ((s.items.get j).aH.n:Int) 10000+min ((s.items.get j).uV.n:Int) 10000+2 * min ((s.items.get j).bf.n:Int) 10000):=by
     have ma:0<=min ((s.items.get j).aH.n:Int) 10000/\min ((s.items.get j).aH.n:Int) 10000<=10000:=by omega
     have mb:0<=min ((s.items.get j).uV.n:Int) 10000/\min ((s.items.get j).uV.n:Int) 10000<=10000:=by omega
     have mc:0<=min ((s.items.get j).bf.n:Int) 10000/\min ((s.items.get j).bf.n:Int) 10000<=10000:=by omega
     clear f6;generalize min ((s.items.get j).aH.n:Int) 10000=a at ma ⊢;generalize min ((s.items.get j).uV.n:Int) 10000=b at mb ⊢;generalize min ((s.items.get j).bf.n:Int) 10000=c at mc ⊢;rw [aj (n:=y.n+a),aj (n:=y.n+a+b),aj (n:=2 * c),aj (by omega) (by omega)];omega
    rw [w2];refine .inl ⟨_,rfl,by omega,f1,by show y.i+1=_; omega,by show 0<=y.n+_; omega,by show y.n+_<=_; omega,by omega,fun i hi=>?_⟩;show _<=y.n+_;by_cases vD:i < j
    ·have:=f6 i vD; omega
    ·have:i=j:=by omega
     subst this; omega
   ·simp only [ai,aw,av c1,az c2]
    exact .inr ⟨_,_,rfl,rfl,rfl,f1,f3,fun i _ hi=>f6 i (by omega)⟩
  ·simp only [aw,az c1]
   exact .inr ⟨_,_,rfl,rfl,rfl,f1,f3,fun i hi _=>f6 i (by rw [f1] at c1; omega)⟩
 have b1:(mw s).by (.exit 0)=true:=by rw [hz]; rfl
 have b2:(mw s).st=z:=by rw [hz]; rfl
 unfold vg at h;rw [b1,b2,h0,ai] at h;by_cases c1:((s.items.n:Nat):Int) > 260
 ·rw [av c1] at h; simp at h
 rw [az c1,aw] at h;by_cases c2:z.n > 800
 ·rw [av c2] at h; simp at h
 rw [az c2,aw] at h;cases hg:Aq s with
 | none=>rw [hg] at h; simp at h
 | some g=>
  rw [hg] at h;simp only [bx,ai,bq] at h;have hgf:g=false:=qw h;subst hgf;have hg' : sR s.au=some false:=by
   unfold Aq at hg;rw [b2,h0] at hg;exact hg
  obtain ⟨t1,t2⟩:=aiG hg';exact ⟨by omega,fun i hi=>by have:=h2 i hi (by omega); omega,t1,t2⟩
theorem arG {α:Type} (z:Nat->α) (t:Sl α):(⟨0,z⟩:Sl α).join t=t:=by
 show (⟨0+t.n,fun i=>t.get (i - 0)⟩:Sl α)=t;rw [bh];rfl
theorem auK {t:bF} (h:t.dH.n<=20000):Ew t=some t:=by
 have a1:ij 4 0 t.dH.n=true:=vc (by omega) (by omega) (by omega) (.inr rfl);unfold Ew;rw [a1,ai,arG]
theorem an7 (x:Item):x6 (VL x)=x:=by
 show (⟨⟨0+x.aH.n,fun i=>x.aH.get (i - 0)⟩,⟨0+x.uV.n,fun i=>x.uV.get (i - 0)⟩,⟨0+x.bf.n,fun i=>x.bf.get (i - 0)⟩,x.look,x.box⟩:Item)=x;rw [bh,bh,bh];rfl
theorem atH {l:Sl Item} {x:Item} (i:Nat) (hi:i < l.n+1):(kX x6 (l.n+1) (dS l.n (fun i=>FD (l.get i)) (qy [VL x]))).get i=if i < l.n then l.get i else x:=by
 show x6 (dS l.n (fun i=>FD (l.get i)) (qy [VL x]) i)=_;unfold dS;by_cases h:i < l.n
 ·rw [aV h,show Nat.blt i l.n=true from by rw [bZ]; exact h]
  rfl
 ·rw [ay h,show Nat.blt i l.n=false from by
   cases hb:Nat.blt i l.n with
   | false=>rfl
   | true=>rw [bZ] at hb; omega,show i - l.n=0 by omega]
  exact an7 x
theorem an8 {s:Show} (hs:Small s):∃ z,la s = .out (.exit 0) z/\z.s=s/\z.out.items.n=s.items.n/\(∀ i,i < s.items.n->z.out.items.get i=s.items.get i)/\z.out.au.n=0:=by
 obtain ⟨e,z,hz,rfl,h⟩:∃ e z,la s = .out e z/\(e = .exit 0/\z.s=s/\z.out.items.n=s.items.n/\(∀ i,i < s.items.n->z.out.items.get i=s.items.get i)/\z.out.au.n=0):=by
  unfold la;refine bn (step:=rX) (fun j y=>y.i=(j:Int)/\y.s=s/\j<=s.items.n/\y.out.items.n=j/\(∀ i,i < j->y.out.items.get i=s.items.get i)/\y.out.au.n=0) _ s.items.n (by have:gd=1000000000000:=rfl; have:=hs.n; omega) (fun j y hj ⟨f1,f2,f3,f4,f5,f6⟩=>?_) ⟨rfl,rfl,cP _,rfl,fun i hi=>absurd hi (mJ _),rfl⟩;have hn:=hs.n;have w1:ak (y.i+1)=y.i+1:=aj;unfold rX bj nm aC;by_cases h:y.i < ((y.s.items.n:Nat):Int)
  ·have eH:j < s.items.n:=by rw [f2] at h; omega
   have hg:y.s.items.get (Int.toNat y.i)=s.items.get j:=by rw [f1,f2,bU]
   obtain ⟨q1,q2,q3⟩:=hs.it j eH;have a1:ij 24 0 (s.items.get j).aH.n=true:=vc (by omega) (by omega) (by omega) (.inr rfl);have a2:ij 16 0 (s.items.get j).uV.n=true:=vc (by omega) (by omega) (by omega) (.inr rfl);have a3:ij 24 0 (s.items.get j).bf.n=true:=vc (by omega) (by omega) (by omega) (.inr rfl);have a4:ij 168 y.out.items.n 1=true:=eZ;simp only [hg,w1,a1,a2,a3,a4,aG,ai,bD,av h,av (show (0:Int)<=y.i by omega)];refine .inl ⟨_,rfl,eH,by show y.i+1=_; omega,f2,by omega,by show y.out.items.n+1=_; omega,fun i hi=>?_,f6⟩;show (kX x6 (y.out.items.n+1) (dS y.out.items.n (fun i=>FD (y.out.items.get i)) (qy [VL (s.items.get j)]))).get i=_;rw [atH i (by omega)];by_cases vD:i < y.out.items.n
   ·rw [aV vD]; exact f5 i (by omega)
   ·rw [ay vD]; have hji:i=j:=by omega
    subst hji; rfl
  ·simp only [aG,ai,aw,az h]
   rw [f2] at h;exact .inr ⟨_,_,rfl,rfl,rfl,f2,by omega,fun i hi=>f5 i (by omega),f6⟩
 exact ⟨z,hz,h⟩
theorem apy {s:Show} (hs:Small s):∃ s',Ex s=some s'/\xG s s':=by
 obtain ⟨y,hy,y1,y2,y3,y4⟩:=an8 hs;have s1:(la s).st=y:=by rw [hy]; rfl
 have hn:=hs.n;have ht:=hs.tn;obtain ⟨e,z,hz,rfl,h1,h2,h3⟩:∃ e z,yV s = .out e z/\(e = .exit 2/\z.out.items=y.out.items/\z.out.au.n=s.au.n/\∀ i,i < s.au.n->z.out.au.get i=s.au.get i):=by
  unfold yV;rw [s1];refine bn (step:=qX) (fun j x=>x.i=(j:Int)/\x.s=s/\x.out.items=y.out.items/\j<=s.au.n/\x.out.au.n=j/\∀ i,i < j->x.out.au.get i=s.au.get i) _ s.au.n (by have:gd=1000000000000:=rfl; omega) (fun j x hj ⟨f1,f2,f3,f4,f5,f6⟩=>?_) ⟨rfl,y1,rfl,cP _,y4,fun i hi=>absurd hi (mJ _)⟩;have w1:ak (x.i+1)=x.i+1:=aj;have a4:ij 40 x.out.au.n 1=true:=eZ;unfold qX bj nm aC;by_cases h:x.i < ((x.s.au.n:Nat):Int)
  ·have eH:j < s.au.n:=by rw [f2] at h; omega
   have e0:zD x=some (s.au.get j):=by
    unfold zD;rw [f1,f2,bU];exact auK (hs.tx j eH)
   simp only [e0,w1,a4,aG,ai,bD,bx,bq,av h,av (show (0:Int)<=x.i by omega)];refine .inl ⟨_,rfl,eH,by show x.i+1=_; omega,f2,f3,by omega,by show x.out.au.n+1=_; omega,?_⟩;exact apx (n:=j) f5 f6 rfl
  ·simp only [aG,ai,aw,az h]
   rw [f2] at h;exact .inr ⟨_,_,rfl,rfl,rfl,f3,by omega,fun i hi=>f6 i (by omega)⟩
 have b1:(la s).by (.exit 0)=true:=by rw [hy]; rfl
 have b2:(yV s).by (.exit 2)=true:=by rw [hz]; rfl
 have b3:(yV s).st=z:=by rw [hz]; rfl
 refine ⟨z.out,?_,⟨by rw [h1]; exact y2,fun i hi=>by rw [h1]; exact y3 i hi,h2,h3⟩⟩;unfold Ex aC;simp only [b1,b2,b3,aG,ai]
theorem atI (a:bF) (hn:a.dH.n<=20000):Eu a a=some true:=by
 obtain ⟨e,z,hz,rfl⟩:∃ e z,yS a a = .out e z/\e = .exit 0:=by
  unfold yS;refine bn (step:=rP) (fun j y=>y.a=a/\y.b=a/\y.i=(j:Int)/\j<=a.dH.n) (fun e _=>e = .exit 0) a.dH.n (by have:gd=1000000000000:=rfl; omega) (fun j y hj ⟨f1,f2,f3,f4⟩=>?_) ⟨rfl,rfl,rfl,cP _⟩;have w1:ak (y.i+1)=y.i+1:=aj;unfold rP bj;by_cases bt:y.i < ((y.a.dH.n:Nat):Int)
  ·have eH:j < a.dH.n:=by rw [f1] at bt; omega
   have hg:y.b=y.a:=by rw [f1,f2]
   simp only [hg,w1,ai,aw,bD,QO,jk,av bt,av (show (0:Int)<=y.i by omega)];exact .inl ⟨_,rfl,eH,f1,f1,by show y.i+1=_; omega,by omega⟩
  ·simp only [aw,az bt]
   exact .inr ⟨_,_,rfl,rfl,rfl⟩
 have b1:(yS a a).by (.exit 0)=true:=by rw [hz]; rfl
 unfold Eu;simp only [jO,aw,b1,ai]
theorem atJ (a b:Sl bF) (hn:a.n=b.n) (hb:a.n<=40) (h:∀ i,i < a.n->a.get i=b.get i) (ht:∀ i,i < a.n->(a.get i).dH.n<=20000):w5 a b=some true:=by
 obtain ⟨e,z,hz,rfl⟩:∃ e z,tz a b = .out e z/\e = .exit 0:=by
  unfold tz;refine bn (step:=o9) (fun j y=>y.a=a/\y.b=b/\y.i=(j:Int)/\j<=a.n) (fun e _=>e = .exit 0) a.n (by have:gd=1000000000000:=rfl; omega) (fun j y hj ⟨f1,f2,f3,f4⟩=>?_) ⟨rfl,rfl,rfl,cP _⟩;have w1:ak (y.i+1)=y.i+1:=aj;unfold o9 bj;by_cases bt:y.i < ((y.a.n:Nat):Int)
  ·have eH:j < a.n:=by rw [f1] at bt; omega
   have e0:v7 y=some true:=by
    unfold v7;rw [f1,f2,f3,bU,<- h j eH];exact atI _ (ht j eH)
   simp only [e0,w1,ai,aw,bD,bx,bq,jk,av bt,av (show (0:Int)<=y.i by omega),av (show y.i < ((y.b.n:Nat):Int) by rw [f2]; omega)];exact .inl ⟨_,rfl,eH,f1,f2,by show y.i+1=_; omega,by omega⟩
  ·simp only [aw,az bt]
   exact .inr ⟨_,_,rfl,rfl,rfl⟩
 have b1:(tz a b).by (.exit 0)=true:=by rw [hz]; rfl
 unfold w5;rw [hn,jO,aw,b1,ai]
theorem arH (a:Item) (h1:a.aH.n<=800) (h2:a.uV.n<=800) (h3:a.bf.n<=800):uJ a a=some true:=by
 obtain ⟨e,z,hz,rfl,za,zb⟩:∃ e z,jT a a = .out e z/\(e = .exit 0/\z.a=a/\z.b=a):=by
  unfold jT;refine bn (step:=nN) (fun j y=>y.a=a/\y.b=a/\y.i=(j:Int)/\j<=a.aH.n) _ a.aH.n (by have:gd=1000000000000:=rfl; omega) (fun j y hj ⟨f1,f2,f3,f4⟩=>?_) ⟨rfl,rfl,rfl,cP _⟩;have w1:ak (y.i+1)=y.i+1:=aj;unfold nN bj;by_cases bt:y.i < ((y.a.aH.n:Nat):Int)
  ·have eH:j < a.aH.n:=by rw [f1] at bt; omega
   have hg:y.b=y.a:=by rw [f1,f2]
   simp only [hg,w1,ai,aw,bD,QO,jk,av bt,av (show (0:Int)<=y.i by omega)];exact .inl ⟨_,rfl,eH,f1,f1,by show y.i+1=_; omega,by omega⟩
  ·simp only [aw,az bt]
   exact .inr ⟨_,_,rfl,rfl,rfl,f1,f2⟩
 have s0:(jT a a).st=z:=by rw [hz]; rfl
 obtain ⟨e,u,hu,rfl,ua,ub⟩:∃ e z,jU a a = .out e z/\(e = .exit 2/\z.a=a/\z.b=a):=by
  unfold jU;rw [s0,za,zb];refine bn (step:=mU) (fun j y=>y.a=a/\y.b=a/\y.i=(j:Int)/\j<=a.uV.n) _ a.uV.n (by have:gd=1000000000000:=rfl; omega) (fun j y hj ⟨f1,f2,f3,f4⟩=>?_) ⟨rfl,rfl,rfl,cP _⟩;have w1:ak (y.i+1)=y.i+1:=aj;unfold mU bj;by_cases bt:y.i < ((y.a.uV.n:Nat):Int)
  ·have eH:j < a.uV.n:=by rw [f1] at bt; omega
   have hg:y.b=y.a:=by rw [f1,f2]
   simp only [hg,w1,ai,aw,bD,QO,jk,av bt,av (show (0:Int)<=y.i by omega)];exact .inl ⟨_,rfl,eH,f1,f1,by show y.i+1=_; omega,by omega⟩
  ·simp only [aw,az bt]
   exact .inr ⟨_,_,rfl,rfl,rfl,f1,f2⟩
 have s1:(jU a a).st=u:=by rw [hu]; rfl
 obtain ⟨e,v,hv,rfl⟩:∃ e z,rQ a a = .out e z/\e = .exit 4:=by
  unfold rQ;rw [s1,ua,ub];refine bn (step:=mV) (fun j y=>y.a=a/\y.b=a/\y.i=(j:Int)/\j<=a.bf.n) (fun e _=>e = .exit 4) a.bf.n (by have:gd=1000000000000:=rfl; omega) (fun j y hj ⟨f1,f2,f3,f4⟩=>?_) ⟨rfl,rfl,rfl,cP _⟩;have w1:ak (y.i+1)=y.i+1:=aj;unfold mV bj;by_cases bt:y.i < ((y.a.bf.n:Nat):Int)
  ·have eH:j < a.bf.n:=by rw [f1] at bt; omega
   have hg:y.b=y.a:=by rw [f1,f2]
   simp only [hg,w1,ai,aw,bD,QO,jk,av bt,av (show (0:Int)<=y.i by omega)];exact .inl ⟨_,rfl,eH,f1,f1,by show y.i+1=_; omega,by omega⟩
  ·simp only [aw,az bt]
   exact .inr ⟨_,_,rfl,rfl,rfl⟩
 have b0:(jT a a).by (.exit 0)=true:=by rw [hz]; rfl
 have b1:(jU a a).by (.exit 2)=true:=by rw [hu]; rfl
 have b2:(rQ a a).by (.exit 4)=true:=by rw [hv]; rfl
 unfold uJ;simp only [jO,aw,b0,b1,b2,ai,QO,bD,jk]
theorem arI {s s' : Show} (hs:Small s) (h:xG s s'):uK s' s=some true:=by
 have hn:=hs.n;have ht:=hs.tn;have e0:FO s' s=some true:=atJ _ _ h.tn (by rw [h.tn]; omega) (fun i hi=>h.tx i (by rw [<- h.tn]; exact hi)) fun i hi=>by
  rw [h.tn] at hi;rw [h.tx i hi]; exact hs.tx i hi
 obtain ⟨e,z,hz,rfl⟩:∃ e z,rR s' s = .out e z/\e = .exit 0:=by
  unfold rR;refine bn (step:=nP) (fun j y=>y.a=s'/\y.b=s/\y.i=(j:Int)/\j<=s.items.n) (fun e _=>e = .exit 0) s.items.n (by have:gd=1000000000000:=rfl; omega) (fun j y hj ⟨f1,f2,f3,f4⟩=>?_) ⟨rfl,rfl,rfl,cP _⟩;have w1:ak (y.i+1)=y.i+1:=aj;unfold nP bj;by_cases bt:y.i < ((y.a.items.n:Nat):Int)
  ·have eH:j < s.items.n:=by rw [f1,h.n] at bt; omega
   have e0:vh y=some true:=by
    unfold vh;rw [f1,f2,f3,bU,h.it j eH];obtain ⟨q1,q2,q3⟩:=hs.it j eH;exact arH _ q1 q2 q3
   simp only [e0,w1,ai,aw,bD,bx,bq,jk,av bt,av (show (0:Int)<=y.i by omega),av (show y.i < ((y.b.items.n:Nat):Int) by rw [f2]; omega)];exact .inl ⟨_,rfl,eH,f1,f2,by show y.i+1=_; omega,by omega⟩
  ·simp only [aw,az bt]
   exact .inr ⟨_,_,rfl,rfl,rfl⟩
 have b1:(rR s' s).by (.exit 0)=true:=by rw [hz]; rfl
 unfold uK;rw [h.n];simp only [jO,aw,e0,b1,bx,bq,jk,ai]
end Go.Proofs.YtchbpckkmgcgkaaGreat.b
end
section
namespace Go.Proofs.YtchbpckkmgcgkaaGreat.b
open Go.K
open Go.aF (aq)
def NU (x y:Int):Int:=if x < y then -1 else if x > y then 1 else 0
theorem Ii (x y:Int):fv x y=some (NU x y):=by
 unfold fv Cv v8 qS NU;simp only [jO,bq,aw];by_cases h:x < y
 ·rw [av h,aV h]; rfl
 ·rw [az h,ay h]
  by_cases h2:x > y
  ·rw [av h2,aV h2]; rfl
  ·rw [az h2,ay h2]; rfl
def or4 (a b c d:Int):Int:=if a≠0 then a else if b≠0 then b else if c≠0 then c else d
theorem atK (a b c d:Int):yT (Sl.lit [a,b,c,d])=some (or4 a b c d):=by
 have g0:(Sl.lit [a,b,c,d]).get 0=a:=rfl;have g1:(Sl.lit [a,b,c,d]).get 1=b:=rfl;have g2:(Sl.lit [a,b,c,d]).get 2=c:=rfl;have g3:(Sl.lit [a,b,c,d]).get 3=d:=rfl;generalize hl:Sl.lit [a,b,c,d] = l at g0 g1 g2 g3;have hn:l.n=4:=by rw [<- hl]; rfl
 obtain ⟨e,y,hy,hq⟩:∃ e y,uL l = .out e y/\((e = .exit 0/\y.zero=0/\∀ i,i < 4->l.get i=0)\/e = .ret/\∃ j,j < 4/\(∀ i,i < j->l.get i=0)/\l.get j≠0/\y.t2=l.get j):=by
  unfold uL;refine bn (step:=qb) (fun j y=>y.zero=0/\y.t6=l/\y.t7=4/\y.t8=(j:Int)/\j<=4/\∀ i,i < j->l.get i=0) _ 4 (by have:gd=1000000000000:=rfl; omega) (fun j y hj ⟨f1,f2,f3,f4,f5,f6⟩=>?_) ⟨rfl,rfl,by show ((l.n:Nat):Int)=4; omega,rfl,cP _,fun i hi=>absurd hi (mJ _)⟩;have w1:ak (y.t8+1)=y.t8+1:=aj;unfold qb bj;by_cases h:y.t8 < y.t7
  ·have hg:y.t6.get (Int.toNat y.t8)=l.get j:=by rw [f2,f4,bU]
   simp only [w1,hg,f1,ai,bD,av h,av (show (0:Int)<=y.t8 by omega),av (show y.t8 < ((y.t6.n:Nat):Int) by rw [f2]; omega)];cases hb:(l.get j != 0) with
   | true=>exact .inr ⟨_,_,rfl,rfl,.inr ⟨rfl,j,by omega,f6,by simpa using hb,rfl⟩⟩
   | false=>
    refine .inl ⟨_,rfl,by omega,by first | rfl | exact f1,f2,f3,by show y.t8+1=_; omega,by omega,fun i hi=>?_⟩;by_cases he:i=j
    ·subst he; simpa using hb
    ·exact f6 i (by omega)
  ·simp only [aw,az h]
   exact .inr ⟨_,_,rfl,rfl,.inl ⟨rfl,f1,fun i hi=>f6 i (by omega)⟩⟩
 unfold yT or4;rcases hq with ⟨rfl,h1,h2⟩ | ⟨rfl,j,h1,h2,h3,h4⟩
 ·rw [hy]
  simp only [aJ.kO,aJ.lG,gj,mK,ai,h1];have e0:=h2 0 (by omega); have e1:=h2 1 (by omega); have e2:=h2 2 (by omega); have e3:=h2 3 (by omega);rw [g0] at e0; rw [g1] at e1; rw [g2] at e2; rw [g3] at e3;simp [e0,e1,e2,e3]
 ·rw [hy]
  simp only [aJ.kO,aJ.lG,gj,ai,aw,h4];rcases j with _ | _ | _ | _ | j
  ·rw [g0] at h3 ⊢
   rw [aV h3]
  ·have e0:=h2 0 (by omega)
   rw [g0] at e0;rw [g1] at h3 ⊢;simp [e0,h3]
  ·have e0:=h2 0 (by omega); have e1:=h2 1 (by omega)
   rw [g0] at e0; rw [g1] at e1;rw [g2] at h3 ⊢;simp [e0,e1,h3]
  ·have e0:=h2 0 (by omega); have e1:=h2 1 (by omega); have e2:=h2 2 (by omega)
   rw [g0] at e0; rw [g1] at e1; rw [g2] at e2;rw [g3] at h3 ⊢;simp [e0,e1,e2]
  ·omega
theorem abC (x y:Int):NU x y < 0↔x < y:=by
 unfold NU;split
 ·omega
 ·split <;> omega
theorem aiH (x y:Int):NU x y=0↔x=y:=by
 unfold NU;split
 ·omega
 ·split <;> omega
theorem auL (a b c d:Int):or4 a b c d < 0↔a < 0\/a=0/\(b < 0\/b=0/\(c < 0\/c=0/\d < 0)):=by
 unfold or4;split
 ·omega
 ·split
  ·omega
  ·split <;> omega
def AO (a b:aU):Prop:=b.d < a.d\/a.d=b.d/\(a.item < b.item\/a.item=b.item/\(a.cl < b.cl\/a.cl=b.cl/\a.part < b.part))
instance (a b:aU):Decidable (AO a b):=by unfold AO; infer_instance
theorem al1 (a b:aU):uM a b=some (decide (AO a b)):=by
 have e0:FV a b=some (NU b.d a.d):=Ii _ _;have e1:FW a b=some (NU a.item b.item):=Ii _ _;have e2:FX a b=some (NU a.cl b.cl):=Ii _ _;have e3:FY a b=some (NU a.part b.part):=Ii _ _;have e4:vm a b=some (or4 (NU b.d a.d) (NU a.item b.item) (NU a.cl b.cl) (NU a.part b.part)):=by
  unfold vm;rw [e0,e1,e2,e3];exact atK _ _ _ _
 unfold uM;simp only [e0,e1,e2,e3,e4,bx,bq,ai];congr 1;refine decide_eq_decide.2 ?_;rw [auL,abC,abC,abC,abC,aiH,aiH,aiH];unfold AO;omega
def pX (s:Show) (f:aU):Bool:=(s.items.get (Int.toNat f.item)).look.Ai
def Kb (s:Show) (b:aU×Bool) (f:aU):aU×Bool:=cond (!pX s f) (cond (!b.2) (f,true) (cond (decide (AO f b.1)) (f,true) b)) b
def agd:aU:=⟨-2048,-1,-1,0,0,0⟩
def uE (s:Show) (l:List aU):aU×Bool:=l.foldl (Kb s) (agd,false)
theorem adC (s:Show) (l:List aU) (f:aU):uE s (l++[f])=Kb s (uE s l) f:=by
 unfold uE;rw [List.foldl_append];rfl
theorem WN {s:Show} {c:aE} {p:eT} (h:p∈jc s c):∃ i k n,i < s.items.n/\k < (s.items.get i).bf.n/\n < (C2 s c i k).n/\p=partAt s c i k n:=by
 unfold jc at h;obtain ⟨i,h1,h2⟩:=QQ.1 h;unfold Jm at h2;obtain ⟨k,h3,h4⟩:=QQ.1 h2;unfold ND at h4;obtain ⟨n,h5,h6⟩:=HK.1 h4;exact ⟨i,k,n,A4.1 h1,A4.1 h3,A4.1 h5,h6.symm⟩
theorem al2 (s:Show) (x:aR) (hs:x.jG.dc=s) (hi:∀ j,j < x.t14.n->0<=(x.t14.get j).dX.item/\(x.t14.get j).dX.item < (s.items.n:Int)) (hn:x.t14.n<=98304) (h15:x.t15=(x.t14.n:Int)) (h16:x.t16=0) (h0:(x.xg,x.yF)=(agd,false)) :
  ∃ e y,goN cp x = .out e y/\(e = .exit 0/\(y.xg,y.yF)=uE s (ru x.x x.y (bH x.t14))):=by
 refine bn (step:=cp) (fun j y=>y.t14=x.t14/\y.t15=(x.t14.n:Int)/\y.t16=(j:Int)/\y.x=x.x/\y.y=x.y/\j<=x.t14.n/\y.jG=x.jG/\(y.xg,y.yF)=uE s (ru x.x x.y ((bH x.t14).take j))) _ x.t14.n (by have:gd=1000000000000:=rfl; omega) (fun j y hj ⟨f1,f2,f3,f4,f5,f6,f7,f8⟩=>?_) ⟨rfl,h15,h16,rfl,rfl,cP _,rfl,h0⟩;have w1:ak (y.t16+1)=y.t16+1:=aj;unfold cp dE ff bj;by_cases h:y.t16 < y.t15
 ·have eH:j < x.t14.n:=by omega
  have hg:y.t14.get (Int.toNat y.t16)=x.t14.get j:=by rw [f1,f3,bU]
  obtain ⟨sp,e,hp⟩:=aeL (x.t14.get j).t x.x x.y;have e0:bw y=some (sp,e):=by
   unfold bw;rw [hg,f4,f5];exact hp
  obtain ⟨i1,i2⟩:=hi j eH;have tk:=akG (x:=x.x) (y:=x.y) x.t14 j eH;have e1:=al1 (⟨(ak ((x.t14.get j).dX.d+sp.d)),(x.t14.get j).dX.item,(x.t14.get j).dX.cl,(x.t14.get j).dX.part,sp.u,sp.v⟩:aU) y.xg;have e2:gi y=some (decide (AO (⟨(ak ((x.t14.get j).dX.d+sp.d)),(x.t14.get j).dX.item,(x.t14.get j).dX.cl,(x.t14.get j).dX.part,sp.u,sp.v⟩:aU) y.xg)):=by
   unfold gi;rw [e0,hg];exact e1
  simp only [e0,e2,hg,w1,ai,bD,bx,bq,av h,av (show (0:Int)<=y.t16 by omega),av (show y.t16 < ((y.t14.n:Nat):Int) by rw [f1]; omega),av i1,av (show (x.t14.get j).dX.item < ((y.jG.dc.items.n:Nat):Int) by rw [f7,hs]; exact i2)];have SQ:∀ {z:aU×Bool} {y' : aR},y'.t14=y.t14->y'.t15=y.t15->y'.t16=y.t16+1->y'.x=y.x->y'.y=y.y->y'.jG=y.jG->(y'.xg,y'.yF)=z->z=uE s (ru x.x x.y ((bH x.t14).take (j+1)))->
    (∃ x',(aJ.next y' : aJ aR) = .next x'/\j < x.t14.n/\x'.t14=x.t14/\x'.t15=(x.t14.n:Int)/\x'.t16=((j+1:Nat):Int)/\x'.x=x.x/\x'.y=x.y/\j+1<=x.t14.n/\x'.jG=x.jG/\(x'.xg,x'.yF)=uE s (ru x.x x.y ((bH x.t14).take (j+1)))):=fun {z y'} q1 q2 q3 q4 q5 q6 q7 q8=>
   ⟨y',rfl,eH,q1.trans f1,q2.trans f2,by omega,q4.trans f4,q5.trans f5,by omega,q6.trans f7,q7.trans q8⟩
  cases he:(e==(0:Int)) with
  | false=>
   have TC:rO x.x x.y (x.t14.get j)=none:=by
    unfold rO;rw [hp];simp only [he,aw]
   rw [aw];exact .inl (SQ (z:=(y.xg,y.yF)) rfl rfl rfl rfl rfl rfl rfl (by rw [tk,TC,f8]; simp))
  | true=>
   have TC:rO x.x x.y (x.t14.get j)=some ⟨ak ((x.t14.get j).dX.d+sp.d),(x.t14.get j).dX.item,(x.t14.get j).dX.cl,(x.t14.get j).dX.part,sp.u,sp.v⟩:=by
    unfold rO;rw [hp];simp only [he,ai]
   have qC:uE s (ru x.x x.y ((bH x.t14).take (j+1)))=Kb s (y.xg,y.yF) ⟨ak ((x.t14.get j).dX.d+sp.d),(x.t14.get j).dX.item,(x.t14.get j).dX.cl,(x.t14.get j).dX.part,sp.u,sp.v⟩:=by
    rw [tk,TC,f8];exact adC _ _ _
   have Yz:(y.jG.dc.items.get (Int.toNat (x.t14.get j).dX.item)).look.Ai=pX s ⟨ak ((x.t14.get j).dX.d+sp.d),(x.t14.get j).dX.item,(x.t14.get j).dX.cl,(x.t14.get j).dX.part,sp.u,sp.v⟩:=by
    rw [f7,hs];rfl
   rw [ai,Yz];unfold Kb at qC;cases hb:(!pX s ⟨ak ((x.t14.get j).dX.d+sp.d),(x.t14.get j).dX.item,(x.t14.get j).dX.cl,(x.t14.get j).dX.part,sp.u,sp.v⟩) with
   | false=>
    rw [hb,aw] at qC;rw [aw];exact .inl (SQ rfl rfl rfl rfl rfl rfl rfl qC.symm)
   | true=>
    rw [hb,ai] at qC;rw [ai];cases hc:(!y.yF) with
    | true=>
     rw [hc,ai] at qC;rw [ai];exact .inl (SQ rfl rfl rfl rfl rfl rfl rfl qC.symm)
    | false=>
     rw [hc,aw] at qC;rw [aw];cases hd:decide (AO (⟨(ak ((x.t14.get j).dX.d+sp.d)),(x.t14.get j).dX.item,(x.t14.get j).dX.cl,(x.t14.get j).dX.part,sp.u,sp.v⟩:aU) y.xg) with
     | true=>
      rw [hd,ai] at qC;rw [ai];exact .inl (SQ rfl rfl rfl rfl rfl rfl rfl qC.symm)
     | false=>
      rw [hd,aw] at qC;rw [aw];exact .inl (SQ rfl rfl rfl rfl rfl rfl rfl qC.symm)
 ·simp only [aw,az h]
  refine .inr ⟨_,_,rfl,rfl,rfl,?_⟩;rw [f8,show j=x.t14.n by omega,EO (by rw [gg]; exact aW _)]
theorem abD (s:Show) (c:aE) (r:aI) (x y:Int) (h1:r.dc=s) (h2:bH r.parts=jc s c) (h3:r.parts.n<=98304):jt r x y=some (uE s (ru x y (jc s c))):=by
 obtain ⟨e,z,hz,rfl,h6⟩:∃ e z,pb r x y = .out e z/\(e = .exit 0/\(z.xg,z.yF)=uE s (ru x y (bH r.parts))):=by
  unfold pb;refine al2 s _ h1 (fun j hj=>?_) h3 rfl rfl rfl;have hm:r.parts.get j∈bH r.parts:=FN hj;rw [h2] at hm;obtain ⟨i,k,n,i1,i2,i3,e⟩:=WN hm;show 0<=(r.parts.get j).dX.item/\(r.parts.get j).dX.item < (s.items.n:Int);rw [e];show 0<=(i:Int)/\(i:Int) < (s.items.n:Int);omega
 unfold jt;rw [hz,<- h2,<- h6];rfl
theorem arJ {α:Type} {Q:List α->Prop} (h0:Q []) (h1:∀ l x,Q l->Q (l++[x])) (l:List α):Q l:=by
 have:∀ (l pre:List α),Q pre->Q (pre++l):=by
  intro l
  induction l with
  | nil=>intro pre hp; rwa [py]
  | cons x l ih=>intro pre hp; have:=ih (pre++[x]) (h1 _ _ hp); rwa [HJ] at this
 exact this l [] h0
def avm (s:Show) (l:List aU) (b:aU×Bool):Prop:=(b.2=false/\b.1=agd/\∀ g∈l,pX s g=true)\/(b.2=true/\b.1∈l/\pX s b.1=false/\∀ g∈l,pX s g=false->¬ AO g b.1)
theorem an9 {a b c:aU} (h : ¬ AO a b) (h2:AO c b) : ¬ AO a c:=by
 unfold AO at *;omega
theorem akM (a:aU) : ¬ AO a a:=by
 unfold AO;omega
theorem WO (s:Show) (l:List aU):avm s l (uE s l):=by
 refine arJ (Q:=fun l=>avm s l (uE s l)) (.inl ⟨rfl,rfl,fun g hg=>by simp at hg⟩) (fun l f ih=>?_) l;rw [adC];unfold Kb;cases hb:pX s f with
 | true=>
  simp only [jk,aw];rcases ih with ⟨h1,h2,h3⟩ | ⟨h1,h2,h3,h4⟩
  ·refine .inl ⟨h1,h2,fun g hg=>?_⟩
   rcases mI.1 hg with hg | hg
   ·exact h3 g hg
   ·rw [EM.1 hg]; exact hb
  ·refine .inr ⟨h1,List.mem_append_left _ h2,h3,fun g hg hgb=>?_⟩
   rcases mI.1 hg with hg | hg
   ·exact h4 g hg hgb
   ·rw [EM.1 hg,hb] at hgb; simp at hgb
 | false=>
  simp only [rK,ai];rcases ih with ⟨h1,h2,h3⟩ | ⟨h1,h2,h3,h4⟩
  ·rw [h1]
   simp only [rK,ai];refine .inr ⟨rfl,List.mem_append_right _ (EM.2 rfl),hb,fun g hg hgb=>?_⟩;rcases mI.1 hg with hg | hg
   ·rw [h3 g hg] at hgb; simp at hgb
   ·rw [EM.1 hg]; exact akM f
  ·rw [h1]
   simp only [jk,aw];by_cases hn:AO f (uE s l).1
   ·rw [av hn,ai]
    refine .inr ⟨rfl,List.mem_append_right _ (EM.2 rfl),hb,fun g hg hgb=>?_⟩;rcases mI.1 hg with hg | hg
    ·exact an9 (h4 g hg hgb) hn
    ·rw [EM.1 hg]; exact akM f
   ·rw [az hn,aw]
    refine .inr ⟨h1,List.mem_append_left _ h2,h3,fun g hg hgb=>?_⟩;rcases mI.1 hg with hg | hg
    ·exact h4 g hg hgb
    ·rw [EM.1 hg]; exact hn
theorem adD {x y:Int} {p:eT} {f:aU} (h:rO x y p=some f):f.item=p.dX.item/\f.cl=p.dX.cl/\f.part=p.dX.part:=by
 unfold rO at h;split at h
 ·rename_i sp e _
  cases he:(e==(0:Int)) with
  | true=>rw [he,ai] at h; injection h with h; subst h; exact ⟨rfl,rfl,rfl⟩
  | false=>rw [he,aw] at h; simp at h
 ·simp at h
theorem atL {s:Show} {c:aE} {x y:Int} {f:aU} (h:f∈ru x y (jc s c)):∃ i k n,i < s.items.n/\k < (s.items.get i).bf.n/\n < (C2 s c i k).n/\rO x y (partAt s c i k n)=some f:=by
 obtain ⟨p,h1,h2⟩:=List.mem_filterMap.1 h;obtain ⟨i,k,n,i1,i2,i3,rfl⟩:=WN h1;exact ⟨i,k,n,i1,i2,i3,h2⟩
theorem QA {s:Show} {c:aE} {x y:Int} {f:aU} (h:f∈ru x y (jc s c)):0<=f.item/\f.item < (s.items.n:Int):=by
 obtain ⟨i,k,n,i1,i2,i3,h2⟩:=atL h;obtain ⟨e1,_,_⟩:=adD h2;rw [e1];show 0<=(i:Int)/\(i:Int) < _;omega
theorem atM {t:bF} {u v:Int} (h:eS t=some 0) (hu:0<=u/\u<=255) (hv:0<=v/\v<=255):∃ c,th t u v=some (c,0):=by
 obtain ⟨⟨w0,w1⟩,⟨h0,h1⟩,hn⟩:=aqG h;have e0:yG t u v=some 0:=h;have p1:0<=v * t.h/\v * t.h<=255 * 16:=⟨wi (by omega) (by omega),CM hv.2 h1 (by omega) (by omega)⟩
 have p2:0<=u * t.w/\u * t.w<=255 * 16:=⟨wi (by omega) (by omega),CM hu.2 w1 (by omega) (by omega)⟩
 have p3:v * t.h<=255 * t.h:=Int.mul_le_mul_of_nonneg_right hv.2 (by omega);have p4:u * t.w<=255 * t.w:=Int.mul_le_mul_of_nonneg_right hu.2 (by omega);have q1:0<=Int.fdiv (v * t.h) 256/\Int.fdiv (v * t.h) 256<=t.h - 1:=by
  rw [Int.fdiv_eq_ediv_of_nonneg _ (by decide)];omega
 have q2:0<=Int.fdiv (u * t.w) 256/\Int.fdiv (u * t.w) 256<=t.w - 1:=by
  rw [Int.fdiv_eq_ediv_of_nonneg _ (by decide)];omega
 have q3:0<=Int.fdiv (v * t.h) 256 * t.w/\Int.fdiv (v * t.h) 256 * t.w<=(t.h - 1) * t.w:=⟨wi q1.1 (by omega),Int.mul_le_mul_of_nonneg_right q1.2 (by omega)⟩
 have q4:(t.h - 1) * t.w=t.w * t.h - t.w:=by rw [Int.sub_mul,Int.one_mul,Int.mul_comm]
 have q5:t.w * t.h<=16 * 16:=CM w1 h1 (by omega) (by omega);unfold th bj;rw [aj (n:=v * t.h),aj (n:=u * t.w),aj (n:=Int.fdiv (v * t.h) 256 * t.w),aj (n:=Int.fdiv (v * t.h) 256 * t.w+Int.fdiv (u * t.w) 256)];simp only [e0,bx,bq,ai,jO,aw,az (show ¬ min u v < 0 by omega),az (show ¬ max u v > 255 by omega),av (show 0<=Int.fdiv (v * t.h) 256 * t.w+Int.fdiv (u * t.w) 256 by omega),av (show Int.fdiv (v * t.h) 256 * t.w+Int.fdiv (u * t.w) 256 < ((t.dH.n:Nat):Int) by omega),bD];exact ⟨_,rfl⟩
theorem aoa {l:yx} {ts:Sl bF} {u v:Int} (h1:gf ts=some 0) (h2:eO l (ts.n:Int)=some 0):∃ c e,rH l ts u v=some (c,e)/\((0<=u/\u<=255)/\(0<=v/\v<=255)->e=0):=by
 have e0:xh l ts u v=some 0:=h1;have e1:xi l ts u v=some 0:=h2;have hl:=Qs h2;unfold rH bj;simp only [e0,e1,bx,bq,ai,jO,aw];by_cases c1:min u v < 0
 ·rw [av c1]; exact ⟨_,_,rfl,fun h=>by omega⟩
 by_cases c2:max u v > 255
 ·rw [az c1,av c2]; exact ⟨_,_,rfl,fun h=>by omega⟩
 rw [az c1,az c2];by_cases c3:l.iG < 0
 ·rw [av c3]; exact ⟨_,_,rfl,fun _=>rfl⟩
 ·have:=hl.hi
  obtain ⟨c,hc⟩:=atM (u:=u) (v:=v) (Mv h1 (Int.toNat l.iG) (by omega)) (by omega) (by omega);have e2:pd l ts u v=some (c,0):=hc;simp only [e2,bx,bq,ai,aw,az c3,av (show 0<=l.iG by omega),av (show l.iG < ((ts.n:Nat):Int) by omega),bD];exact ⟨_,_,rfl,fun _=>rfl⟩
end Go.Proofs.YtchbpckkmgcgkaaGreat.b
end
section
namespace Go.Proofs.YtchbpckkmgcgkaaGreat.b
open Go.K Go.K.hY
open Go.aF (aq)
theorem aG (n:Nat):ik n n=true:=mK n
theorem inB {i n:Nat} (h:i < n):(decide ((0:Int)<=(i:Int))&&decide ((i:Int) < ((n:Nat):Int)))=true:=by
 rw [aD];exact ⟨av (by omega),av (by omega)⟩
theorem aiI {i j:Nat} (h:i+j<=100000000000):ak ((i:Int)+(j:Int))=((i+j:Nat):Int):=by
 rw [Dl (by omega) (by omega)]; omega
theorem Zy {i:Nat} (h:i<=100000000000):ak ((i:Int)+(1:Int))=((i+1:Nat):Int):=by
 rw [Dl (by omega) (by omega)]; omega
theorem I0 {i j:Nat} (h:i<=100000000000) (hj:j<=i):ak ((i:Int) - (j:Int))=((i - j:Nat):Int):=by
 rw [Dl (by omega) (by omega)]; omega
theorem aiJ {i:Nat} (h:i<=100000000000) (hj:1<=i):ak ((i:Int) - (1:Int))=((i - 1:Nat):Int):=by
 rw [Dl (by omega) (by omega)]; omega
theorem WQ {α:Type} (D:Sl α) (i j t:Nat) (u v:α):((D.set (0+i) u).set (0+j) v).get t=if t=j then v else if t=i then u else D.get t:=by
 simp only [Sl.set,bh];by_cases h:t=j
 ·subst h; simp
 ·rw [ay h]
  have e:Nat.beq t j=false:=by
   cases hb:Nat.beq t j with
   | false=>rfl
   | true=>exact absurd (bm hb) h
  rw [e,aw];by_cases h2:t=i
  ·subst h2; simp
  ·rw [ay h2]
   have e:Nat.beq t i=false:=by
    cases hb:Nat.beq t i with
    | false=>rfl
    | true=>exact absurd (bm hb) h2
   rw [e,aw]
theorem aqI {α:Type} (D:Sl α) (i j:Nat) (u v:α):((D.set i u).set j v).n=D.n:=rfl
def Ht {α:Type} (d:Nat->α) (a b n:Nat):Nat->α:=fun t=>if a<=t/\t < a+n then d (t+(b - a)) else if b<=t/\t < b+n then d (t - (b - a)) else d t
theorem arK {α:Type} (d:Nat->α) {a b j:Nat} (h:a+j < b) (t:Nat):Ht d a b (j+1) t=if t=b+j then Ht d a b j (a+j) else if t=a+j then Ht d a b j (b+j) else Ht d a b j t:=by
 have e1:Ht d a b j (a+j)=d (a+j):=by rw [Ht,ay (by omega),ay (by omega)]
 have e2:Ht d a b j (b+j)=d (b+j):=by rw [Ht,ay (by omega),ay (by omega)]
 rw [e1,e2];by_cases h1:t=b+j
 ·subst h1; rw [aV rfl,Ht,ay (by omega),aV (by omega)]; congr 1; omega
 ·rw [ay h1]
  by_cases h2:t=a+j
  ·subst h2; rw [aV rfl,Ht,aV (by omega)]; congr 1; omega
  ·rw [ay h2]
   unfold Ht;by_cases h3:a<=t/\t < a+j
   ·rw [aV (by omega),aV h3]
   ·rw [ay (by omega),ay h3]
    by_cases h4:b<=t/\t < b+j
    ·rw [aV (by omega),aV h4]
    ·rw [ay (by omega),ay h4]
theorem WR (x y:Int):∃ r,fv x y=some r/\decide (r < 0)=decide (x < y):=by
 unfold fv Cv v8 qS;simp only [jO,bq,aw];cases h:decide (x < y) with
 | true=>exact ⟨_,rfl,rfl⟩
 | false=>
  rw [aw];cases h2:decide (x > y) with
  | true=>exact ⟨_,rfl,rfl⟩
  | false=>exact ⟨_,rfl,rfl⟩
end Go.Proofs.YtchbpckkmgcgkaaGreat.b
end
