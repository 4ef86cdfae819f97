/- Part of the proof of ImageFrags: the machine, shown to be the model's, and plain models. No conditions. -/
import Derived.Test.YtchbpckkmgcgkaaGreatGp
import Derived.Test.YtchbpckkmgcgkaaGreatHp
set_option linter.unusedSimpArgs false
set_option linter.unusedVariables false
section
namespace Go.Proofs.YtchbpckkmgcgkaaGreat.b
open Go.K
noncomputable section
def jP (a:oK) (b:oK) (x:Int) (y:Int):Option (Int):=(some ((ak ((ak ((ak (b.x - a.x)) * (ak ((ak ((ak (8 * y))+4)) - a.y)))) - (ak ((ak ((ak ((ak (8 * x))+4)) - a.x)) * (ak (b.y - a.y))))))))
theorem afe (a:oK) (b:oK) (x:Int) (y:Int):gw [] [] 207 [Fl a,Fl b,(kI .i64) x,(kI .i64) y] = (jP a b x y).map (kI .i64):=by
 unfold jP
 kernel_rfl
def Yf:List KV->KR KV:=a8 PG 207 (bb (kI .i64) fun vs=>jP (Jk (v9 vs 0)) (Jk (v9 vs 1)) (intOf (v9 vs 2)) (intOf (v9 vs 3)))
theorem adg:a7 PG 207 Yf:=bH ao.nil aJ.nil fun w=>afe (Jk (g0 61 (w 0))) (Jk (g0 61 (w 1))) (intOf (g0 3 (w 2))) (intOf (g0 3 (w 3)))
def adh (t:aF) (x:Int) (y:Int):=jP t.e1 t.e2 x y
def adi (t:aF) (x:Int) (y:Int):=jP t.e2 t.e0 x y
def adj (t:aF) (x:Int) (y:Int):=jP t.e0 t.e1 x y
def Mf (t:aF) (x:Int) (y:Int):Option (jw):=(some (⟨((adh t x y).getD default),((adi t x y).getD default),((adj t x y).getD default)⟩))
theorem adk (t:aF) (x:Int) (y:Int):gw [(207,Yf)] [] 170 [eJ t,(kI .i64) x,(kI .i64) y] = (Mf t x y).map tR:=by
 unfold Mf
 kernel_rfl
def Mg:List KV->KR KV:=a8 PG 170 (bb tR fun vs=>Mf (ei (v9 vs 0)) (intOf (v9 vs 1)) (intOf (v9 vs 2)))
theorem NR:a7 PG 170 Mg:=bH (ao.cons adg ao.nil) aJ.nil fun w=>adk (ei (g0 62 (w 0))) (intOf (g0 3 (w 1))) (intOf (g0 3 (w 2)))
def xJ (a:oK) (b:oK):Option (Bool):=(cond (decide (b.y < a.y)) (some (true)) (cond (b.y==a.y) (some ((decide (b.x > a.x)))) (some (false))))
theorem ajq (a:oK) (b:oK):gw [] [] 171 [Fl a,Fl b] = (xJ a b).map kB:=by
 unfold xJ
 try simp only [aV]
 kernel_rfl
def aeO:List KV->KR KV:=a8 PG 171 (bb kB fun vs=>xJ (Jk (v9 vs 0)) (Jk (v9 vs 1)))
theorem aim:a7 PG 171 aeO:=bH ao.nil aJ.nil fun w=>ajq (Jk (g0 61 (w 0))) (Jk (g0 61 (w 1)))
def Ss (t:aF) (x:Int) (y:Int):=jP t.e1 t.e2 x y
def Su (t:aF) (x:Int) (y:Int):=xJ t.e1 t.e2
def Sv (t:aF) (x:Int) (y:Int):=jP t.e2 t.e0 x y
def Sx (t:aF) (x:Int) (y:Int):=xJ t.e2 t.e0
def Sy (t:aF) (x:Int) (y:Int):=jP t.e0 t.e1 x y
def Sz (t:aF) (x:Int) (y:Int):=xJ t.e0 t.e1
def Ic (t:aF) (x:Int) (y:Int):Option (Bool):=(cond (decide (((Sy t x y).getD default) < 0)) (some (false)) (cond (((Sy t x y).getD default)==0) (cond (Sz t x y).isSome (cond (!((Sz t x y).getD default)) (some (false)) (some (true))) none) (some (true))))
def Ie (t:aF) (x:Int) (y:Int):Option (Bool):=(cond (decide (((Sv t x y).getD default) < 0)) (some (false)) (cond (((Sv t x y).getD default)==0) (cond (Sx t x y).isSome (cond (!((Sx t x y).getD default)) (some (false))
   (Ic t x y)) none)
  (Ic t x y)))
def Hd (t:aF) (x:Int) (y:Int):Option (Bool):=(cond (decide (((Ss t x y).getD default) < 0)) (some (false)) (cond (((Ss t x y).getD default)==0) (cond (Su t x y).isSome (cond (!((Su t x y).getD default)) (some (false))
   (Ie t x y)) none)
  (Ie t x y)))
theorem alM (t:aF) (x:Int) (y:Int):gw [(171,aeO),(170,Mg)] [] 111 [eJ t,(kI .i64) x,(kI .i64) y] = (Hd t x y).map kB:=by
 unfold Hd Ie Ic
 try simp only [aV]
 kernel_rfl
def Zp:List KV->KR KV:=a8 PG 111 (bb kB fun vs=>Hd (ei (v9 vs 0)) (intOf (v9 vs 1)) (intOf (v9 vs 2)))
theorem Yg:a7 PG 111 Zp:=bH (ao.cons aim (ao.cons NR ao.nil)) aJ.nil fun w=>alM (ei (g0 62 (w 0))) (intOf (g0 3 (w 1))) (intOf (g0 3 (w 2)))
def nC (a:Int) (b:Int):Option (Int):=(cond (!(decide (b=0))) (cond (decide ((ak ((ak (Int.tdiv a b)) * b)) > a)) (some ((ak ((ak (Int.tdiv a b)) - 1)))) (some ((ak (Int.tdiv a b))))) none)
theorem ajr (a:Int) (b:Int):gw [] [] 172 [(kI .i64) a,(kI .i64) b] = (nC a b).map (kI .i64):=by
 unfold nC
 try simp only [aV]
 kernel_rfl
def Ep:List KV->KR KV:=a8 PG 172 (bb (kI .i64) fun vs=>nC (intOf (v9 vs 0)) (intOf (v9 vs 1)))
theorem Az:a7 PG 172 Ep:=bH ao.nil aJ.nil fun w=>ajr (intOf (g0 3 (w 0))) (intOf (g0 3 (w 1)))
def AA (t:aF) (x:Int) (y:Int):=jP t.e1 t.e2 x y
def AB (t:aF) (x:Int) (y:Int):=jP t.e2 t.e0 x y
def AD (t:aF) (x:Int) (y:Int):=jP t.e0 t.e1 x y
def NS (t:aF) (x:Int) (y:Int):=nC (ak ((ak ((ak (0+(ak (((AA t x y).getD default) * t.e0.d))))+(ak (((AB t x y).getD default) * t.e1.d))))+(ak (((AD t x y).getD default) * t.e2.d)))) (ak ((ak ((ak (0+((AA t x y).getD default)))+((AB t x y).getD default)))+((AD t x y).getD default)))
def NT (t:aF) (x:Int) (y:Int):=nC (ak ((ak ((ak (0+(ak ((ak (((AA t x y).getD default) * t.e0.d)) * t.e0.u))))+(ak ((ak (((AB t x y).getD default) * t.e1.d)) * t.e1.u))))+(ak ((ak (((AD t x y).getD default) * t.e2.d)) * t.e2.u)))) (ak ((ak ((ak (0+(ak (((AA t x y).getD default) * t.e0.d))))+(ak (((AB t x y).getD default) * t.e1.d))))+(ak (((AD t x y).getD default) * t.e2.d))))
def NU (t:aF) (x:Int) (y:Int):=nC (ak ((ak ((ak (0+(ak ((ak (((AA t x y).getD default) * t.e0.d)) * t.e0.v))))+(ak ((ak (((AB t x y).getD default) * t.e1.d)) * t.e1.v))))+(ak ((ak (((AD t x y).getD default) * t.e2.d)) * t.e2.v)))) (ak ((ak ((ak (0+(ak (((AA t x y).getD default) * t.e0.d))))+(ak (((AB t x y).getD default) * t.e1.d))))+(ak (((AD t x y).getD default) * t.e2.d))))
def K4 (t:aF) (x:Int) (y:Int):Option (oK):=(cond (NS t x y).isSome (cond (NT t x y).isSome (cond (NU t x y).isSome (some (⟨(ak ((ak (8 * x))+4)),(ak ((ak (8 * y))+4)),((NS t x y).getD default),((NT t x y).getD default),((NU t x y).getD default)⟩)) none) none) none)
theorem an2 (t:aF) (x:Int) (y:Int):gw [(172,Ep),(170,Mg)] [] 112 [eJ t,(kI .i64) x,(kI .i64) y] = (K4 t x y).map Fl:=by
 unfold K4
 try simp only [aV]
 kernel_rfl
def adl:List KV->KR KV:=a8 PG 112 (bb Fl fun vs=>K4 (ei (v9 vs 0)) (intOf (v9 vs 1)) (intOf (v9 vs 2)))
theorem abh:a7 PG 112 adl:=bH (ao.cons Az (ao.cons NR ao.nil)) aJ.nil fun w=>an2 (ei (g0 62 (w 0))) (intOf (g0 3 (w 1))) (intOf (g0 3 (w 2)))
def AE (s:oK):Option (Bool):=(cond (decide (s.x >= (-(131072:Int)))) (cond (decide (s.x<=131072)) (cond (decide (s.y >= (-(131072:Int)))) (cond (decide (s.y<=131072)) (cond (decide (s.d >= 1)) (cond (decide (s.d<=65536)) (cond (decide (s.u >= 0)) (cond (decide (s.u<=255)) (cond (decide (s.v >= 0)) (some ((decide (s.v<=255)))) (some (false))) (some (false))) (some (false))) (some (false))) (some (false))) (some (false))) (some (false))) (some (false))) (some (false)))
theorem alN (s:oK):gw [] [] 206 [Fl s] = (AE s).map kB:=by
 unfold AE
 try simp only [aV]
 kernel_rfl
def ain:List KV->KR KV:=a8 PG 206 (bb kB fun vs=>AE (Jk (v9 vs 0)))
theorem ajs:a7 PG 206 ain:=bH ao.nil aJ.nil fun w=>alN (Jk (g0 61 (w 0)))
def SA (t:aF):=AE t.e0
def SB (t:aF):=AE t.e1
def SC (t:aF):=AE t.e2
def Hf (t:aF):Option (Bool):=(cond (SA t).isSome (cond ((SA t).getD default) (cond (SB t).isSome (cond ((SB t).getD default) (cond (SC t).isSome (some (((SC t).getD default))) none) (some (false))) none) (some (false))) none)
theorem alO (t:aF):gw [(206,ain)] [] 168 [eJ t] = (Hf t).map kB:=by
 unfold Hf
 try simp only [aV]
 kernel_rfl
def aio:List KV->KR KV:=a8 PG 168 (bb kB fun vs=>Hf (ei (v9 vs 0)))
theorem ajt:a7 PG 168 aio:=bH (ao.cons ajs ao.nil) aJ.nil fun w=>alO (ei (g0 62 (w 0)))
def yj (t:aF):Option (Int):=(some ((ak ((ak ((ak (t.e1.x - t.e0.x)) * (ak (t.e2.y - t.e0.y)))) - (ak ((ak (t.e2.x - t.e0.x)) * (ak (t.e1.y - t.e0.y))))))))
theorem aip (t:aF):gw [] [] 169 [eJ t] = (yj t).map (kI .i64):=by
 unfold yj
 kernel_rfl
def SD:List KV->KR KV:=a8 PG 169 (bb (kI .i64) fun vs=>yj (ei (v9 vs 0)))
theorem Tp:a7 PG 169 SD:=bH ao.nil aJ.nil fun w=>aip (ei (g0 62 (w 0)))
def Mh (t:aF) (cw:Int):=Hf t
def Mi (t:aF) (cw:Int):=yj t
def Dt (t:aF) (cw:Int):Option (Bool×Int):=(cond (decide (((Mi t cw).getD default) < 0)) (some ((cw != 1),0)) (some (false,0)))
def BC (t:aF) (cw:Int):Option (Bool×Int):=(cond (Mh t cw).isSome (cond (!((Mh t cw).getD default)) (some (false,8)) (cond (decide (cw > 2)) (some (false,2)) (cond (decide (((Mi t cw).getD default) > 0)) (cond (cw != 2) (some (true,0))
    (Dt t cw))
   (Dt t cw)))) none)
theorem aiq (t:aF) (cw:Int):gw [(169,SD),(168,aio)] [] 109 [eJ t,(kI .u8) cw] = (BC t cw).map (fun (r:Bool×Int)=>KV.jd [kB r.1,(kI .i64) r.2]):=by
 unfold BC Dt
 try simp only [aV]
 kernel_rfl
def SE:List KV->KR KV:=a8 PG 109 (bb (fun (r:Bool×Int)=>KV.jd [kB r.1,(kI .i64) r.2]) fun vs=>BC (ei (v9 vs 0)) (intOf (v9 vs 1)))
theorem Tq:a7 PG 109 SE:=bH (ao.cons Tp (ao.cons ajt ao.nil)) aJ.nil fun w=>aiq (ei (g0 62 (w 0))) (intOf (g0 5 (w 1)))
def Qu (t:aF):=yj t
def xg (t:aF):Option (aF):=(cond (decide (((Qu t).getD default) < 0)) (some (⟨t.e0,t.e2,t.e1⟩)) (some (t)))
theorem adm (t:aF):gw [(169,SD)] [] 110 [eJ t] = (xg t).map eJ:=by
 unfold xg
 try simp only [aV]
 kernel_rfl
def Mj:List KV->KR KV:=a8 PG 110 (bb eJ fun vs=>xg (ei (v9 vs 0)))
theorem NV:a7 PG 110 Mj:=bH (ao.cons Tp ao.nil) aJ.nil fun w=>adm (ei (g0 62 (w 0)))
def Jq (c:az) (x:Int) (z:Int):=nC (ak ((ak (8 * c.sR)) * x)) z
def C1 (c:az) (x:Int) (z:Int):Option (Int):=(cond (Jq c x z).isSome (some ((ak (((Jq c x z).getD default)+(ak (4 * c.w)))))) none)
theorem aff (c:az) (x:Int) (z:Int):gw [(172,Ep)] [] 166 [kc c,(kI .i64) x,(kI .i64) z] = (C1 c x z).map (kI .i64):=by
 unfold C1
 try simp only [aV]
 kernel_rfl
def Yh:List KV->KR KV:=a8 PG 166 (bb (kI .i64) fun vs=>C1 (dt (v9 vs 0)) (intOf (v9 vs 1)) (intOf (v9 vs 2)))
theorem adn:a7 PG 166 Yh:=bH (ao.cons Az ao.nil) aJ.nil fun w=>aff (dt (g0 31 (w 0))) (intOf (g0 3 (w 1))) (intOf (g0 3 (w 2)))
def OT (c:az) (y:Int) (z:Int):=nC (ak ((ak (8 * c.sR)) * y)) z
def IV (c:az) (y:Int) (z:Int):Option (Int):=(cond (OT c y z).isSome (some ((ak ((ak (4 * c.h)) - ((OT c y z).getD default))))) none)
theorem aju (c:az) (y:Int) (z:Int):gw [(172,Ep)] [] 167 [kc c,(kI .i64) y,(kI .i64) z] = (IV c y z).map (kI .i64):=by
 unfold IV
 try simp only [aV]
 kernel_rfl
def aeP:List KV->KR KV:=a8 PG 167 (bb (kI .i64) fun vs=>IV (dt (v9 vs 0)) (intOf (v9 vs 1)) (intOf (v9 vs 2)))
theorem air:a7 PG 167 aeP:=bH (ao.cons Az ao.nil) aJ.nil fun w=>aju (dt (g0 31 (w 0))) (intOf (g0 3 (w 1))) (intOf (g0 3 (w 2)))
def Du (c:az) (p:bM):=C1 c p.p.x p.p.z
def Dv (c:az) (p:bM):=IV c p.p.y p.p.z
def ti (c:az) (p:bM):Option (oK):=(cond (Du c p).isSome (cond (Dv c p).isSome (cond (!(decide (p.p.z=0))) (some (⟨((Du c p).getD default),((Dv c p).getD default),(ak (Int.tdiv 16777216 p.p.z)),p.u,p.v⟩)) none) none) none)
theorem afg (c:az) (p:bM):gw [(167,aeP),(166,Yh)] [] 108 [kc c,pJ p] = (ti c p).map Fl:=by
 unfold ti
 try simp only [aV]
 kernel_rfl
def OU:List KV->KR KV:=a8 PG 108 (bb Fl fun vs=>ti (dt (v9 vs 0)) (kP (v9 vs 1)))
theorem Qv:a7 PG 108 OU:=bH (ao.cons air (ao.cons adn ao.nil)) aJ.nil fun w=>afg (dt (g0 31 (w 0))) (kP (g0 177 (w 1)))
def Vt (row:jw) (v:iP):=nC (ak ((ak ((ak (row.e0 * v.x))+(ak (row.e1 * v.y))))+(ak (row.e2 * v.z)))) 256
def Er (row:jw) (v:iP):Option (Int):=(cond (Vt row v).isSome (some (((Vt row v).getD default))) none)
theorem an3 (row:jw) (v:iP):gw [(172,Ep)] [] 204 [tR row,qY v] = (Er row v).map (kI .i64):=by
 unfold Er
 try simp only [aV]
 kernel_rfl
def akF:List KV->KR KV:=a8 PG 204 (bb (kI .i64) fun vs=>Er (ID (v9 vs 0)) (rN (v9 vs 1)))
theorem alP:a7 PG 204 akF:=bH (ao.cons Az ao.nil) aJ.nil fun w=>an3 (ID (g0 28 (w 0))) (rN (g0 27 (w 1)))
def Jr (m:cJ) (v:iP):=Er m.e0 v
def Js (m:cJ) (v:iP):=Er m.e1 v
def Jt (m:cJ) (v:iP):=Er m.e2 v
def C2 (m:cJ) (v:iP):Option (iP):=(cond (Jr m v).isSome (cond (Js m v).isSome (cond (Jt m v).isSome (some (⟨((Jr m v).getD default),((Js m v).getD default),((Jt m v).getD default)⟩)) none) none) none)
theorem afh (m:cJ) (v:iP):gw [(204,akF)] [] 164 [IE m,qY v] = (C2 m v).map qY:=by
 unfold C2
 try simp only [aV]
 kernel_rfl
def Yi:List KV->KR KV:=a8 PG 164 (bb qY fun vs=>C2 (ta (v9 vs 0)) (rN (v9 vs 1)))
theorem ado:a7 PG 164 Yi:=bH (ao.cons alP ao.nil) aJ.nil fun w=>afh (ta (g0 29 (w 0))) (rN (g0 27 (w 1)))
def Ig (c:az) (v:iP):=C2 c.m ⟨(ak (v.x - c.pos.x)),(ak (v.y - c.pos.y)),(ak (v.z - c.pos.z))⟩
def xK (c:az) (v:iP):Option (iP):=(cond (Ig c v).isSome (some (((Ig c v).getD default))) none)
theorem ajv (c:az) (v:iP):gw [(164,Yi)] [] 106 [kc c,qY v] = (xK c v).map qY:=by
 unfold xK
 try simp only [aV]
 kernel_rfl
def Vu:List KV->KR KV:=a8 PG 106 (bb qY fun vs=>xK (dt (v9 vs 0)) (rN (v9 vs 1)))
theorem Vv:a7 PG 106 Vu:=bH (ao.cons ado ao.nil) aJ.nil fun w=>ajv (dt (g0 31 (w 0))) (rN (g0 27 (w 1)))
def oY (n:Int) (df:Int):Option (Bool):=(cond (decide (n >= (ak (0 - df)))) (some ((decide (n<=df)))) (some (false)))
theorem an4 (n:Int) (df:Int):gw [] [] 180 [(kI .i64) n,(kI .i64) df] = (oY n df).map kB:=by
 unfold oY
 try simp only [aV]
 kernel_rfl
def adp:List KV->KR KV:=a8 PG 180 (bb kB fun vs=>oY (intOf (v9 vs 0)) (intOf (v9 vs 1)))
theorem abi:a7 PG 180 adp:=bH ao.nil aJ.nil fun w=>an4 (intOf (g0 3 (w 0))) (intOf (g0 3 (w 1)))
def SF (v:iP) (df:Int):=oY v.x df
def SG (v:iP) (df:Int):=oY v.y df
def SH (v:iP) (df:Int):=oY v.z df
def DX (v:iP) (df:Int):Option (Bool):=(cond (SF v df).isSome (cond ((SF v df).getD default) (cond (SG v df).isSome (cond ((SG v df).getD default) (cond (SH v df).isSome (some (((SH v df).getD default))) none) (some (false))) none) (some (false))) none)
theorem alQ (v:iP) (df:Int):gw [(180,adp)] [] 130 [qY v,(kI .i64) df] = (DX v df).map kB:=by
 unfold DX
 try simp only [aV]
 kernel_rfl
def Ml:List KV->KR KV:=a8 PG 130 (bb kB fun vs=>DX (rN (v9 vs 0)) (intOf (v9 vs 1)))
theorem Ih:a7 PG 130 Ml:=bH (ao.cons abi ao.nil) aJ.nil fun w=>alQ (rN (g0 27 (w 0))) (intOf (g0 3 (w 1)))
def OV (m:cJ) (df:Int):=oY m.e0.e0 df
def OW (m:cJ) (df:Int):=oY m.e0.e1 df
def OX (m:cJ) (df:Int):=oY m.e0.e2 df
def OY (m:cJ) (df:Int):=oY m.e1.e0 df
def OZ (m:cJ) (df:Int):=oY m.e1.e1 df
def O0 (m:cJ) (df:Int):=oY m.e1.e2 df
def O1 (m:cJ) (df:Int):=oY m.e2.e0 df
def O2 (m:cJ) (df:Int):=oY m.e2.e1 df
def O3 (m:cJ) (df:Int):=oY m.e2.e2 df
def Es (m:cJ) (df:Int):Option (Bool):=(cond (OV m df).isSome (cond (!((OV m df).getD default)) (some (false)) (cond (OW m df).isSome (cond (!((OW m df).getD default)) (some (false)) (cond (OX m df).isSome (cond (!((OX m df).getD default)) (some (false)) (cond (OY m df).isSome (cond (!((OY m df).getD default)) (some (false)) (cond (OZ m df).isSome (cond (!((OZ m df).getD default)) (some (false)) (cond (O0 m df).isSome (cond (!((O0 m df).getD default)) (some (false)) (cond (O1 m df).isSome (cond (!((O1 m df).getD default)) (some (false)) (cond (O2 m df).isSome (cond (!((O2 m df).getD default)) (some (false)) (cond (O3 m df).isSome (cond (!((O3 m df).getD default)) (some (false)) (some (true))) none)) none)) none)) none)) none)) none)) none)) none)) none)
theorem ajw (m:cJ) (df:Int):gw [(180,adp)] [] 154 [IE m,(kI .i64) df] = (Es m df).map kB:=by
 unfold Es
 try simp only [aV]
 kernel_rfl
def aeQ:List KV->KR KV:=a8 PG 154 (bb kB fun vs=>Es (ta (v9 vs 0)) (intOf (v9 vs 1)))
theorem ais:a7 PG 154 aeQ:=bH (ao.cons abi ao.nil) aJ.nil fun w=>ajw (ta (g0 29 (w 0))) (intOf (g0 3 (w 1)))
def Mm (c:az):=DX c.pos 4096
def Mn (c:az):=Es c.m 256
def BD (c:az):Option (Int):=(cond (Mm c).isSome (cond (!((Mm c).getD default)) (some (150)) (cond (Mn c).isSome (cond (!((Mn c).getD default)) (some (150)) (cond (decide (c.sR < 1)) (some (150)) (cond (decide (c.sR > 64)) (some (150)) (cond (decide (c.ax < 256)) (some (150)) (cond (decide (c.ax > 4096)) (some (150)) (cond (decide (c.w < 1)) (some (150)) (cond (decide (c.w > 64)) (some (150)) (cond (decide (c.h < 1)) (some (150)) (cond (decide (c.h > 64)) (some (150)) (some (0))))))))))) none)) none)
theorem ait (c:az):gw [(154,aeQ),(130,Ml)] [] 89 [kc c] = (BD c).map (kI .i64):=by
 unfold BD
 try simp only [aV]
 kernel_rfl
def abj:List KV->KR KV:=a8 PG 89 (bb (kI .i64) fun vs=>BD (dt (v9 vs 0)))
theorem afi:a7 PG 89 abj:=bH (ao.cons ais (ao.cons Ih ao.nil)) aJ.nil fun w=>ait (dt (g0 31 (w 0)))
structure tZ where
 t4:Bool
 i:Int
 a:bG
 b:bG
instance:Inhabited tZ:=⟨⟨default,default,default,default⟩⟩
def Ju (x:tZ):List KV:=[.bool x.t4,.int .i64 x.i]
def Jv (x:tZ):List (List KV):=[acS x.a,acS x.b]
def Tr (vs:List KV) (rs:List (List KV)):tZ:=⟨kO (v9 vs 0),intOf (v9 vs 1),acT (r9 rs 0),acT (r9 rs 1)⟩
def Vw:aU:=⟨[(4,w9 b9),(5,w9 i9)],[(2,[i9,i9,n9 33],1),(3,[i9,i9,n9 33],1)],[(2,0,0),(3,1,0)]⟩
def afj:=vL [] [] 132 58 Vw
def rS (x:tZ):aK tZ:=(cond (decide (x.i < (x.a.dF.n:Int))) (cond (bh x.i x.a.dF.n) (cond (bh x.i x.b.dF.n) (cond (!(((x.a.dF.get (Int.toNat x.i)).e0==(x.b.dF.get (Int.toNat x.i)).e0)&&(((x.a.dF.get (Int.toNat x.i)).e1==(x.b.dF.get (Int.toNat x.i)).e1)&&(((x.a.dF.get (Int.toNat x.i)).e2==(x.b.dF.get (Int.toNat x.i)).e2)&&(((x.a.dF.get (Int.toNat x.i)).e3==(x.b.dF.get (Int.toNat x.i)).e3)&&true))))) (.out aE.aq.ret ⟨false,x.i,x.a,x.b⟩) (.next ⟨x.t4,(ak (x.i+1)),x.a,x.b⟩)) .fail) .fail) (.out (aE.aq.exit 0) x))
theorem abk (x:tZ):afj (Ju x) (Jv x)=aK.enc Ju Jv (rS x):=by
 unfold rS bh
 try simp only [aK.bI]
 kernel_rfl
def Vx:Lp:=⟨132,58,Vw,fun vs rs=>cc Ju Jv (goN rS (Tr vs rs)) [aE.aq.exit 0,aE.aq.ret],false⟩
theorem afk:Vx.Ok PG:=uJ ao.nil aJ.nil (pa:=Tr) abk
def yW (a:bG) (b:bG):=goN rS ⟨false,0,a,b⟩
def Et (a:bG) (b:bG):Option (Bool):=(cond (a.w != b.w) (some (false)) (cond (a.h != b.h) (some (false)) (cond ((a.dF.n:Int) != (b.dF.n:Int)) (some (false)) (cond ((yW a b).by (aE.aq.exit 0)) (some (true)) (cond ((yW a b).by aE.aq.ret) (some ((yW a b).st.t4)) none)))))
theorem ajx (a:bG) (b:bG):gw [] [Vx] 132 [iu a,iu b] = (Et a b).map kB:=by
 unfold Et
 try simp only [aV]
 kernel_rfl
def Vy:List KV->KR KV:=a8 PG 132 (bb kB fun vs=>Et (ej (v9 vs 0)) (ej (v9 vs 1)))
theorem Vz:a7 PG 132 Vy:=bH ao.nil (ie afk aJ.nil) fun w=>ajx (ej (g0 114 (w 0))) (ej (g0 114 (w 1)))
structure nD where
 a:(Sl bG)
 b:(Sl bG)
 t4:Bool
 i:Int
instance:Inhabited nD:=⟨⟨default,default,default,default⟩⟩
def DY (x:nD):List KV:=[eZ 114 iu x.a,eZ 114 iu x.b,.bool x.t4,.int .i64 x.i]
def DZ (x:nD):List (List KV):=[]
def Mo (vs:List KV) (rs:List (List KV)):nD:=⟨fg ej (v9 vs 0),fg ej (v9 vs 1),kO (v9 vs 2),intOf (v9 vs 3)⟩
def NW:aU:=⟨[(0,w9 (n9 114)),(1,w9 (n9 114)),(4,w9 b9),(5,w9 i9)],[],[]⟩
def Zq:=vL [(132,Vy)] [] 67 58 NW
def wo (x:nD):=Et (x.a.get (Int.toNat x.i)) (x.b.get (Int.toNat x.i))
def oZ (x:nD):aK nD:=(cond (decide (x.i < (x.a.n:Int))) (cond (bh x.i x.a.n) (cond (bh x.i x.b.n) (cond (wo x).isSome (cond (!((wo x).getD default)) (.out aE.aq.ret ⟨x.a,x.b,false,x.i⟩) (.next ⟨x.a,x.b,x.t4,(ak (x.i+1))⟩)) .fail) .fail) .fail) (.out (aE.aq.exit 0) x))
theorem VA (x:nD):Zq (DY x) (DZ x)=aK.enc DY DZ (oZ x):=by
 unfold oZ bh
 try simp only [aK.bI]
 kernel_rfl
def NX:Lp:=⟨67,58,NW,fun vs rs=>cc DY DZ (goN oZ (Mo vs rs)) [aE.aq.exit 0,aE.aq.ret],false⟩
theorem Zr:NX.Ok PG:=uJ (ao.cons Vz ao.nil) aJ.nil (pa:=Mo) VA
def tF (a:(Sl bG)) (b:(Sl bG)):=goN oZ ⟨a,b,false,0⟩
def xh (a:(Sl bG)) (b:(Sl bG)):Option (Bool):=(cond ((a.n:Int) != (b.n:Int)) (some (false)) (cond ((tF a b).by (aE.aq.exit 0)) (some (true)) (cond ((tF a b).by aE.aq.ret) (some ((tF a b).st.t4)) none)))
theorem adq (a:(Sl bG)) (b:(Sl bG)):gw [(132,Vy)] [NX] 67 [(eZ 114 iu) a,(eZ 114 iu) b] = (xh a b).map kB:=by
 unfold xh
 try simp only [aV]
 kernel_rfl
def Mp:List KV->KR KV:=a8 PG 67 (bb kB fun vs=>xh ((fg ej) (v9 vs 0)) ((fg ej) (v9 vs 1)))
theorem NY:a7 PG 67 Mp:=bH (ao.cons Vz ao.nil) (ie Zr aJ.nil) fun w=>adq ((fg ej) (g0 23 (w 0))) ((fg ej) (g0 23 (w 1)))
structure oA where
 t4:Bool
 i:Int
 a:Item
 b:Item
instance:Inhabited oA:=⟨⟨default,default,default,default⟩⟩
def Cr (x:oA):List KV:=[.bool x.t4,.int .i64 x.i]
def Cs (x:oA):List (List KV):=[Cn x.a,Cn x.b]
def J6 (vs:List KV) (rs:List (List KV)):oA:=⟨kO (v9 vs 0),intOf (v9 vs 1),DS (r9 rs 0),DS (r9 rs 1)⟩
def Mq:aU:=⟨[(4,w9 b9),(5,w9 i9)],[(2,[n9 27,n9 181,n9 28,u9,u9,u9,u9,i9,u9,i9,b9,i9,i9,i9,i9,i9,i9,i9],1),(3,[n9 27,n9 181,n9 28,u9,u9,u9,u9,i9,u9,i9,b9,i9,i9,i9,i9,i9,i9,i9],1)],[(2,0,0),(3,1,0)]⟩
def Xj:=vL [] [] 68 58 Mq
def nK (x:oA):aK oA:=(cond (decide (x.i < (x.a.aG.n:Int))) (cond (bh x.i x.a.aG.n) (cond (bh x.i x.b.aG.n) (cond (!(((x.a.aG.get (Int.toNat x.i)).x==(x.b.aG.get (Int.toNat x.i)).x)&&(((x.a.aG.get (Int.toNat x.i)).y==(x.b.aG.get (Int.toNat x.i)).y)&&(((x.a.aG.get (Int.toNat x.i)).z==(x.b.aG.get (Int.toNat x.i)).z)&&true)))) (.out aE.aq.ret ⟨false,x.i,x.a,x.b⟩) (.next ⟨x.t4,(ak (x.i+1)),x.a,x.b⟩)) .fail) .fail) (.out (aE.aq.exit 0) x))
theorem TW (x:oA):Xj (Cr x) (Cs x)=aK.enc Cr Cs (nK x):=by
 unfold nK bh
 try simp only [aK.bI]
 kernel_rfl
def yk:Lp:=⟨68,58,Mq,fun vs rs=>cc Cr Cs (goN nK (J6 vs rs)) [aE.aq.exit 0,aE.aq.ret],false⟩
theorem Ct:yk.Ok PG:=uJ ao.nil aJ.nil (pa:=J6) TW
structure nj where
 t4:Bool
 i:Int
 a:Item
 b:Item
instance:Inhabited nj:=⟨⟨default,default,default,default⟩⟩
def AG (x:nj):List KV:=[.bool x.t4,.int .i64 x.i]
def AH (x:nj):List (List KV):=[Cn x.a,Cn x.b]
def IW (vs:List KV) (rs:List (List KV)):nj:=⟨kO (v9 vs 0),intOf (v9 vs 1),DS (r9 rs 0),DS (r9 rs 1)⟩
def J7:aU:=⟨[(4,w9 b9),(6,w9 i9)],[(2,[n9 27,n9 181,n9 28,u9,u9,u9,u9,i9,u9,i9,b9,i9,i9,i9,i9,i9,i9,i9],1),(3,[n9 27,n9 181,n9 28,u9,u9,u9,u9,i9,u9,i9,b9,i9,i9,i9,i9,i9,i9,i9],1)],[(2,0,0),(3,1,0)]⟩
def VB:=vL [] [yk] 68 122 J7
def mU (x:nj):aK nj:=(cond (decide (x.i < (x.a.uV.n:Int))) (cond (bh x.i x.a.uV.n) (cond (bh x.i x.b.uV.n) (cond (!(((x.a.uV.get (Int.toNat x.i)).e0==(x.b.uV.get (Int.toNat x.i)).e0)&&(((x.a.uV.get (Int.toNat x.i)).e1==(x.b.uV.get (Int.toNat x.i)).e1)&&true))) (.out aE.aq.ret ⟨false,x.i,x.a,x.b⟩) (.next ⟨x.t4,(ak (x.i+1)),x.a,x.b⟩)) .fail) .fail) (.out (aE.aq.exit 2) x))
theorem SI (x:nj):VB (AG x) (AH x)=aK.enc AG AH (mU x):=by
 unfold mU bh
 try simp only [aK.bI]
 kernel_rfl
def Cu:Lp:=⟨68,122,J7,fun vs rs=>cc AG AH (goN mU (IW vs rs)) [aE.aq.exit 2,aE.aq.ret],false⟩
theorem IX:Cu.Ok PG:=uJ ao.nil (ie Ct aJ.nil) (pa:=IW) SI
structure nm where
 t4:Bool
 i:Int
 a:Item
 b:Item
instance:Inhabited nm:=⟨⟨default,default,default,default⟩⟩
def AI (x:nm):List KV:=[.bool x.t4,.int .i64 x.i]
def AJ (x:nm):List (List KV):=[Cn x.a,Cn x.b]
def IY (vs:List KV) (rs:List (List KV)):nm:=⟨kO (v9 vs 0),intOf (v9 vs 1),DS (r9 rs 0),DS (r9 rs 1)⟩
def J8:aU:=⟨[(4,w9 b9),(7,w9 i9)],[(2,[n9 27,n9 181,n9 28,u9,u9,u9,u9,i9,u9,i9,b9,i9,i9,i9,i9,i9,i9,i9],1),(3,[n9 27,n9 181,n9 28,u9,u9,u9,u9,i9,u9,i9,b9,i9,i9,i9,i9,i9,i9,i9],1)],[(2,0,0),(3,1,0)]⟩
def VE:=vL [] [yk,Cu] 68 250 J8
def mV (x:nm):aK nm:=(cond (decide (x.i < (x.a.bd.n:Int))) (cond (bh x.i x.a.bd.n) (cond (bh x.i x.b.bd.n) (cond (!(((x.a.bd.get (Int.toNat x.i)).e0==(x.b.bd.get (Int.toNat x.i)).e0)&&(((x.a.bd.get (Int.toNat x.i)).e1==(x.b.bd.get (Int.toNat x.i)).e1)&&(((x.a.bd.get (Int.toNat x.i)).e2==(x.b.bd.get (Int.toNat x.i)).e2)&&true)))) (.out aE.aq.ret ⟨false,x.i,x.a,x.b⟩) (.next ⟨x.t4,(ak (x.i+1)),x.a,x.b⟩)) .fail) .fail) (.out (aE.aq.exit 4) x))
theorem SJ (x:nm):VE (AI x) (AJ x)=aK.enc AI AJ (mV x):=by
 unfold mV bh
 try simp only [aK.bI]
 kernel_rfl
def J9:Lp:=⟨68,250,J8,fun vs rs=>cc AI AJ (goN mV (IY vs rs)) [aE.aq.exit 4,aE.aq.ret],false⟩
theorem VF:J9.Ok PG:=uJ ao.nil (ie Ct (ie IX aJ.nil)) (pa:=IY) SJ
def jQ (a:Item) (b:Item):=goN nK ⟨false,0,a,b⟩
def jR (a:Item) (b:Item):=goN mU ⟨(jQ a b).st.t4,0,(jQ a b).st.a,(jQ a b).st.b⟩
def rT (a:Item) (b:Item):=goN mV ⟨(jR a b).st.t4,0,(jR a b).st.a,(jR a b).st.b⟩
def uR (a:Item) (b:Item):Option (Bool):=(cond ((a.aG.n:Int) != (b.aG.n:Int)) (some (false)) (cond ((a.uV.n:Int) != (b.uV.n:Int)) (some (false)) (cond ((a.bd.n:Int) != (b.bd.n:Int)) (some (false)) (cond (!((a.look.color.e0==b.look.color.e0)&&((a.look.color.e1==b.look.color.e1)&&((a.look.color.e2==b.look.color.e2)&&((a.look.color.e3==b.look.color.e3)&&((a.look.iD==b.look.iD)&&((a.look.cw==b.look.cw)&&((a.look.FC==b.look.FC)&&((a.look.Aj==b.look.Aj)&&((a.look.bin==b.look.bin)&&true)))))))))) (some (false)) (cond (!((a.box.low.x==b.box.low.x)&&((a.box.low.y==b.box.low.y)&&((a.box.low.z==b.box.low.z)&&((a.box.high.x==b.box.high.x)&&((a.box.high.y==b.box.high.y)&&((a.box.high.z==b.box.high.z)&&true))))))) (some (false)) (cond ((jQ a b).by (aE.aq.exit 0)) (cond ((jR a b).by (aE.aq.exit 2)) (cond ((rT a b).by (aE.aq.exit 4)) (some (true)) (cond ((rT a b).by aE.aq.ret) (some ((rT a b).st.t4)) none)) (cond ((jR a b).by aE.aq.ret) (some ((jR a b).st.t4)) none)) (cond ((jQ a b).by aE.aq.ret) (some ((jQ a b).st.t4)) none)))))))
theorem abl (a:Item) (b:Item):gw [] [yk,Cu,J9] 68 [FD a,FD b] = (uR a b).map kB:=by
 unfold uR
 try simp only [aV]
 kernel_rfl
def Jw:List KV->KR KV:=a8 PG 68 (bb kB fun vs=>uR (yc (v9 vs 0)) (yc (v9 vs 1)))
theorem Mr:a7 PG 68 Jw:=bH ao.nil (ie Ct (ie IX (ie VF aJ.nil))) fun w=>abl (yc (g0 111 (w 0))) (yc (g0 111 (w 1)))
structure mB where
 t4:Bool
 i:Int
 a:Show
 b:Show
instance:Inhabited mB:=⟨⟨default,default,default,default⟩⟩
def Cv (x:mB):List KV:=[.bool x.t4,.int .i64 x.i]
def Cw (x:mB):List (List KV):=[sS x.a,sS x.b]
def Ka (vs:List KV) (rs:List (List KV)):mB:=⟨kO (v9 vs 0),intOf (v9 vs 1),sT (r9 rs 0),sT (r9 rs 1)⟩
def Ms:aU:=⟨[(4,w9 b9),(5,w9 i9)],[(2,[n9 111,n9 114],1),(3,[n9 111,n9 114],1)],[(2,0,0),(3,1,0)]⟩
def Xk:=vL [(68,Jw),(67,Mp)] [] 21 58 Ms
def vq (x:mB):=uR (x.a.items.get (Int.toNat x.i)) (x.b.items.get (Int.toNat x.i))
def nL (x:mB):aK mB:=(cond (decide (x.i < (x.a.items.n:Int))) (cond (bh x.i x.a.items.n) (cond (bh x.i x.b.items.n) (cond (vq x).isSome (cond (!((vq x).getD default)) (.out aE.aq.ret ⟨false,x.i,x.a,x.b⟩) (.next ⟨x.t4,(ak (x.i+1)),x.a,x.b⟩)) .fail) .fail) .fail) (.out (aE.aq.exit 0) x))
theorem TX (x:mB):Xk (Cv x) (Cw x)=aK.enc Cv Cw (nL x):=by
 unfold nL bh
 try simp only [aK.bI]
 kernel_rfl
def Mt:Lp:=⟨21,58,Ms,fun vs rs=>cc Cv Cw (goN nL (Ka vs rs)) [aE.aq.exit 0,aE.aq.ret],false⟩
theorem Xl:Mt.Ok PG:=uJ (ao.cons Mr (ao.cons NY ao.nil)) aJ.nil (pa:=Ka) TX
def FU (a:Show) (b:Show):=xh a.av b.av
def rU (a:Show) (b:Show):=goN nL ⟨false,0,a,b⟩
def uT (a:Show) (b:Show):Option (Bool):=(cond ((a.items.n:Int) != (b.items.n:Int)) (some (false)) (cond (FU a b).isSome (cond (!((FU a b).getD default)) (some (false)) (cond ((rU a b).by (aE.aq.exit 0)) (some (true)) (cond ((rU a b).by aE.aq.ret) (some ((rU a b).st.t4)) none))) none))
theorem abm (a:Show) (b:Show):gw [(68,Jw),(67,Mp)] [Mt] 21 [ph a,ph b] = (uT a b).map kB:=by
 unfold uT
 try simp only [aV]
 kernel_rfl
def Jx:List KV->KR KV:=a8 PG 21 (bb kB fun vs=>uT (gm (v9 vs 0)) (gm (v9 vs 1)))
theorem Mu:a7 PG 21 Jx:=bH (ao.cons Mr (ao.cons NY ao.nil)) (ie Xl aJ.nil) fun w=>abm (gm (g0 25 (w 0))) (gm (g0 25 (w 1)))
structure np where
 a:(Sl aL)
 b:(Sl aL)
 t4:Bool
 i:Int
instance:Inhabited np:=⟨⟨default,default,default,default⟩⟩
def AK (x:np):List KV:=[eZ 48 fH x.a,eZ 48 fH x.b,.bool x.t4,.int .i64 x.i]
def AL (x:np):List (List KV):=[]
def IZ (vs:List KV) (rs:List (List KV)):np:=⟨fg gn (v9 vs 0),fg gn (v9 vs 1),kO (v9 vs 2),intOf (v9 vs 3)⟩
def Kb:aU:=⟨[(0,w9 (n9 48)),(1,w9 (n9 48)),(4,w9 b9),(5,w9 i9)],[],[]⟩
def VG:=vL [] [] 18 58 Kb
def mW (x:np):aK np:=(cond (decide (x.i < (x.a.n:Int))) (cond (bh x.i x.a.n) (cond (bh x.i x.b.n) (cond (!(((x.a.get (Int.toNat x.i)).d==(x.b.get (Int.toNat x.i)).d)&&(((x.a.get (Int.toNat x.i)).item==(x.b.get (Int.toNat x.i)).item)&&(((x.a.get (Int.toNat x.i)).aZ==(x.b.get (Int.toNat x.i)).aZ)&&(((x.a.get (Int.toNat x.i)).part==(x.b.get (Int.toNat x.i)).part)&&(((x.a.get (Int.toNat x.i)).u==(x.b.get (Int.toNat x.i)).u)&&(((x.a.get (Int.toNat x.i)).v==(x.b.get (Int.toNat x.i)).v)&&true))))))) (.out aE.aq.ret ⟨x.a,x.b,false,x.i⟩) (.next ⟨x.a,x.b,x.t4,(ak (x.i+1))⟩)) .fail) .fail) (.out (aE.aq.exit 0) x))
theorem SK (x:np):VG (AK x) (AL x)=aK.enc AK AL (mW x):=by
 unfold mW bh
 try simp only [aK.bI]
 kernel_rfl
def Kc:Lp:=⟨18,58,Kb,fun vs rs=>cc AK AL (goN mW (IZ vs rs)) [aE.aq.exit 0,aE.aq.ret],false⟩
theorem VH:Kc.Ok PG:=uJ ao.nil aJ.nil (pa:=IZ) SK
def qN (a:(Sl aL)) (b:(Sl aL)):=goN mW ⟨a,b,false,0⟩
def tG (a:(Sl aL)) (b:(Sl aL)):Option (Bool):=(cond ((a.n:Int) != (b.n:Int)) (some (false)) (cond ((qN a b).by (aE.aq.exit 0)) (some (true)) (cond ((qN a b).by aE.aq.ret) (some ((qN a b).st.t4)) none)))
theorem Zs (a:(Sl aL)) (b:(Sl aL)):gw [] [Kc] 18 [(eZ 48 fH) a,(eZ 48 fH) b] = (tG a b).map kB:=by
 unfold tG
 try simp only [aV]
 kernel_rfl
def Hg:List KV->KR KV:=a8 PG 18 (bb kB fun vs=>tG ((fg gn) (v9 vs 0)) ((fg gn) (v9 vs 1)))
theorem Kd:a7 PG 18 Hg:=bH ao.nil (ie VH aJ.nil) fun w=>Zs ((fg gn) (g0 42 (w 0))) ((fg gn) (g0 42 (w 1)))
def Hh (t:bG):Option (Bool):=(cond (decide (t.w >= 1)) (cond (decide (t.w<=16)) (cond (decide (t.h >= 1)) (cond (decide (t.h<=16)) (some (((t.dF.n:Int)==(ak (t.w * t.h))))) (some (false))) (some (false))) (some (false))) (some (false)))
theorem alR (t:bG):gw [] [] 128 [iu t] = (Hh t).map kB:=by
 unfold Hh
 try simp only [aV]
 kernel_rfl
def Zt:List KV->KR KV:=a8 PG 128 (bb kB fun vs=>Hh (ej (v9 vs 0)))
theorem Yj:a7 PG 128 Zt:=bH ao.nil aJ.nil fun w=>alR (ej (g0 114 (w 0)))
structure o4 where
 l:(Sl bG)
 t2:Int
 i:Int
instance:Inhabited o4:=⟨⟨default,default,default⟩⟩
def FV (x:o4):List KV:=[eZ 114 iu x.l,.int .i64 x.t2,.int .i64 x.i]
def FW (x:o4):List (List KV):=[]
def NZ (vs:List KV) (rs:List (List KV)):o4:=⟨fg ej (v9 vs 0),intOf (v9 vs 1),intOf (v9 vs 2)⟩
def Qw:aU:=⟨[(0,w9 (n9 114)),(2,w9 i9),(3,w9 i9)],[],[]⟩
def abn:=vL [(128,Zt)] [] 65 58 Qw
def yl (x:o4):=Hh (x.l.get (Int.toNat x.i))
def p8 (x:o4):aK o4:=(cond (decide (x.i < (x.l.n:Int))) (cond (bh x.i x.l.n) (cond (yl x).isSome (cond (!((yl x).getD default)) (.out aE.aq.ret ⟨x.l,8,x.i⟩) (.next ⟨x.l,x.t2,(ak (x.i+1))⟩)) .fail) .fail) (.out (aE.aq.exit 0) x))
theorem Xm (x:o4):abn (FV x) (FW x)=aK.enc FV FW (p8 x):=by
 unfold p8 bh
 try simp only [aK.bI]
 kernel_rfl
def Qx:Lp:=⟨65,58,Qw,fun vs rs=>cc FV FW (goN p8 (NZ vs rs)) [aE.aq.exit 0,aE.aq.ret],false⟩
theorem abo:Qx.Ok PG:=uJ (ao.cons Yj ao.nil) aJ.nil (pa:=NZ) Xm
def oe (l:(Sl bG)):=goN p8 ⟨l,0,0⟩
def yX (l:(Sl bG)):Option (Int):=(cond (decide ((l.n:Int) > 16)) (some (4)) (cond ((oe l).by (aE.aq.exit 0)) (some (0)) (cond ((oe l).by aE.aq.ret) (some ((oe l).st.t2)) none)))
theorem afl (l:(Sl bG)):gw [(128,Zt)] [Qx] 65 [(eZ 114 iu) l] = (yX l).map (kI .i64):=by
 unfold yX
 try simp only [aV]
 kernel_rfl
def O4:List KV->KR KV:=a8 PG 65 (bb (kI .i64) fun vs=>yX ((fg ej) (v9 vs 0)))
theorem Qy:a7 PG 65 O4:=bH (ao.cons Yj ao.nil) (ie abo aJ.nil) fun w=>afl ((fg ej) (g0 23 (w 0)))
def Hi (l:yD) (av:Int):Option (Bool):=(cond (decide (l.iD >= (-(1:Int)))) (cond (decide (l.iD < av)) (cond (decide (l.cw<=2)) (cond (decide (l.FC >= (-(1024:Int)))) (cond (decide (l.FC<=1024)) (cond (decide (l.bin >= 0)) (some ((decide (l.bin<=15)))) (some (false))) (some (false))) (some (false))) (some (false))) (some (false))) (some (false)))
theorem alS (l:yD) (av:Int):gw [] [] 129 [alA l,(kI .i64) av] = (Hi l av).map kB:=by
 unfold Hi
 try simp only [aV]
 kernel_rfl
def SL:List KV->KR KV:=a8 PG 129 (bb kB fun vs=>Hi (Vk (v9 vs 0)) (intOf (v9 vs 1)))
theorem O5:a7 PG 129 SL:=bH ao.nil aJ.nil fun w=>alS (Vk (g0 107 (w 0))) (intOf (g0 3 (w 1)))
def Zu (a:iP) (b:iP):Option (iP):=(some (⟨(min a.x b.x),(min a.y b.y),(min a.z b.z)⟩))
theorem alT (a:iP) (b:iP):gw [] [] 181 [qY a,qY b] = (Zu a b).map qY:=by
 unfold Zu
 kernel_rfl
def Zv:List KV->KR KV:=a8 PG 181 (bb qY fun vs=>Zu (rN (v9 vs 0)) (rN (v9 vs 1)))
theorem Yk:a7 PG 181 Zv:=bH ao.nil aJ.nil fun w=>alT (rN (g0 27 (w 0))) (rN (g0 27 (w 1)))
def VI (a:iP) (b:iP):Option (iP):=(some (⟨(max a.x b.x),(max a.y b.y),(max a.z b.z)⟩))
theorem ajy (a:iP) (b:iP):gw [] [] 182 [qY a,qY b] = (VI a b).map qY:=by
 unfold VI
 kernel_rfl
def VJ:List KV->KR KV:=a8 PG 182 (bb qY fun vs=>VI (rN (v9 vs 0)) (rN (v9 vs 1)))
theorem VL:a7 PG 182 VJ:=bH ao.nil aJ.nil fun w=>ajy (rN (g0 27 (w 0))) (rN (g0 27 (w 1)))
structure si where
 l:(Sl iP)
 i:Int
 t2:FB
 b:FB
instance:Inhabited si:=⟨⟨default,default,default,default⟩⟩
def Hj (x:si):List KV:=[eZ 27 qY x.l,.int .i64 x.i]
def Hk (x:si):List (List KV):=[anN x.t2,anN x.b]
def Qz (vs:List KV) (rs:List (List KV)):si:=⟨fg rN (v9 vs 0),intOf (v9 vs 1),anO (r9 rs 0),anO (r9 rs 1)⟩
def Ts:aU:=⟨[(0,w9 (n9 27)),(4,w9 i9)],[(2,[i9,i9,i9,i9,i9,i9],1),(3,[i9,i9,i9,i9,i9,i9],1)],[(2,0,0),(3,1,0)]⟩
def adr:=vL [(182,VJ),(181,Zv)] [] 131 58 Ts
def qO (x:si):aK si:=(cond (decide (x.i < (x.l.n:Int))) (cond (bh x.i x.l.n) (cond (bh x.i x.l.n) (.next ⟨x.l,(ak (x.i+1)),x.t2,⟨⟨(min x.b.low.x (x.l.get (Int.toNat x.i)).x),(min x.b.low.y (x.l.get (Int.toNat x.i)).y),(min x.b.low.z (x.l.get (Int.toNat x.i)).z)⟩,⟨(max x.b.high.x (x.l.get (Int.toNat x.i)).x),(max x.b.high.y (x.l.get (Int.toNat x.i)).y),(max x.b.high.z (x.l.get (Int.toNat x.i)).z)⟩⟩⟩) .fail) .fail) (.out (aE.aq.exit 0) x))
theorem Zw (x:si):adr (Hj x) (Hk x)=aK.enc Hj Hk (qO x):=by
 unfold qO bh
 try simp only [aK.bI]
 kernel_rfl
def Tt:Lp:=⟨131,58,Ts,fun vs rs=>cc Hj Hk (goN qO (Qz vs rs)) [aE.aq.exit 0],false⟩
theorem ads:Tt.Ok PG:=uJ (ao.cons VL (ao.cons Yk ao.nil)) aJ.nil (pa:=Qz) Zw
def xi (l:(Sl iP)):=goN qO ⟨l,1,⟨⟨0,0,0⟩,⟨0,0,0⟩⟩,⟨(l.get 0),(l.get 0)⟩⟩
def ym (l:(Sl iP)):Option (FB):=(cond (decide (0 < (l.n:Int))) (cond (decide (0 < (l.n:Int))) (cond ((xi l).by (aE.aq.exit 0)) (some ((xi l).st.b)) none) none) none)
theorem aiu (l:(Sl iP)):gw [(182,VJ),(181,Zv)] [Tt] 131 [(eZ 27 qY) l] = (ym l).map Iu:=by
 unfold ym
 try simp only [aV]
 kernel_rfl
def KI:List KV->KR KV:=a8 PG 131 (bb Iu fun vs=>ym ((fg rN) (v9 vs 0)))
theorem Jy:a7 PG 131 KI:=bH (ao.cons VL (ao.cons Yk ao.nil)) (ie ads aJ.nil) fun w=>aiu ((fg rN) (g0 103 (w 0)))
structure mC where
 t4:Bool
 n:Int
 i:Int
 x:Item
instance:Inhabited mC:=⟨⟨default,default,default,default⟩⟩
def Jz (x:mC):List KV:=[.bool x.t4,.int .i64 x.n,.int .i64 x.i]
def JA (x:mC):List (List KV):=[Cn x.x]
def Tu (vs:List KV) (rs:List (List KV)):mC:=⟨kO (v9 vs 0),intOf (v9 vs 1),intOf (v9 vs 2),DS (r9 rs 0)⟩
def VM:aU:=⟨[(4,w9 b9),(5,w9 i9),(6,w9 i9)],[(2,[n9 27,n9 181,n9 28,u9,u9,u9,u9,i9,u9,i9,b9,i9,i9,i9,i9,i9,i9,i9],1)],[(2,0,0)]⟩
def afm:=vL [(131,KI),(130,Ml),(129,SL)] [] 66 122 VM
def BF (x:mC):=DX (x.x.aG.get (Int.toNat x.i)) 4096
def rV (x:mC):aK mC:=(cond (decide (x.i < x.n)) (cond (bh x.i x.x.aG.n) (cond (BF x).isSome (cond (!((BF x).getD default)) (.out aE.aq.ret ⟨false,x.n,x.i,x.x⟩) (cond (bh x.i x.x.uV.n) (cond (decide ((x.x.uV.get (Int.toNat x.i)).e0 < 0)) (.out aE.aq.ret ⟨false,x.n,x.i,x.x⟩) (cond (bh x.i x.x.uV.n) (cond (decide ((x.x.uV.get (Int.toNat x.i)).e0 > 255)) (.out aE.aq.ret ⟨false,x.n,x.i,x.x⟩) (cond (bh x.i x.x.uV.n) (cond (decide ((x.x.uV.get (Int.toNat x.i)).e1 < 0)) (.out aE.aq.ret ⟨false,x.n,x.i,x.x⟩) (cond (bh x.i x.x.uV.n) (cond (decide ((x.x.uV.get (Int.toNat x.i)).e1 > 255)) (.out aE.aq.ret ⟨false,x.n,x.i,x.x⟩) (.next ⟨x.t4,x.n,(ak (x.i+1)),x.x⟩)) .fail)) .fail)) .fail)) .fail)) .fail) .fail) (.out (aE.aq.exit 0) x))
theorem abp (x:mC):afm (Jz x) (JA x)=aK.enc Jz JA (rV x):=by
 unfold rV bh
 try simp only [aK.bI]
 kernel_rfl
def Mv:Lp:=⟨66,122,VM,fun vs rs=>cc Jz JA (goN rV (Tu vs rs)) [aE.aq.exit 0,aE.aq.ret],false⟩
theorem Tv:Mv.Ok PG:=uJ (ao.cons Jy (ao.cons Ih (ao.cons O5 ao.nil))) aJ.nil (pa:=Tu) abp
structure nT where
 t4:Bool
 n:Int
 i:Int
 x:Item
instance:Inhabited nT:=⟨⟨default,default,default,default⟩⟩
def JB (x:nT):List KV:=[.bool x.t4,.int .i64 x.n,.int .i64 x.i]
def JC (x:nT):List (List KV):=[Cn x.x]
def Tw (vs:List KV) (rs:List (List KV)):nT:=⟨kO (v9 vs 0),intOf (v9 vs 1),intOf (v9 vs 2),DS (r9 rs 0)⟩
def VN:aU:=⟨[(4,w9 b9),(5,w9 i9),(7,w9 i9)],[(2,[n9 27,n9 181,n9 28,u9,u9,u9,u9,i9,u9,i9,b9,i9,i9,i9,i9,i9,i9,i9],1)],[(2,0,0)]⟩
def afn:=vL [(131,KI),(130,Ml),(129,SL)] [Mv] 66 250 VN
def pO (x:nT):aK nT:=(cond (decide (x.i < (x.x.bd.n:Int))) (cond (bh x.i x.x.bd.n) (cond (decide ((x.x.bd.get (Int.toNat x.i)).e0 < 0)) (.out aE.aq.ret ⟨false,x.n,x.i,x.x⟩) (cond (bh x.i x.x.bd.n) (cond (decide ((x.x.bd.get (Int.toNat x.i)).e0 >= x.n)) (.out aE.aq.ret ⟨false,x.n,x.i,x.x⟩) (cond (bh x.i x.x.bd.n) (cond (decide ((x.x.bd.get (Int.toNat x.i)).e1 < 0)) (.out aE.aq.ret ⟨false,x.n,x.i,x.x⟩) (cond (bh x.i x.x.bd.n) (cond (decide ((x.x.bd.get (Int.toNat x.i)).e1 >= x.n)) (.out aE.aq.ret ⟨false,x.n,x.i,x.x⟩) (cond (bh x.i x.x.bd.n) (cond (decide ((x.x.bd.get (Int.toNat x.i)).e2 < 0)) (.out aE.aq.ret ⟨false,x.n,x.i,x.x⟩) (cond (bh x.i x.x.bd.n) (cond (decide ((x.x.bd.get (Int.toNat x.i)).e2 >= x.n)) (.out aE.aq.ret ⟨false,x.n,x.i,x.x⟩) (.next ⟨x.t4,x.n,(ak (x.i+1)),x.x⟩)) .fail)) .fail)) .fail)) .fail)) .fail)) .fail) (.out (aE.aq.exit 2) x))
theorem abq (x:nT):afn (JB x) (JC x)=aK.enc JB JC (pO x):=by
 unfold pO bh
 try simp only [aK.bI]
 kernel_rfl
def VO:Lp:=⟨66,250,VN,fun vs rs=>cc JB JC (goN pO (Tw vs rs)) [aE.aq.exit 2,aE.aq.ret],false⟩
theorem afo:VO.Ok PG:=uJ (ao.cons Jy (ao.cons Ih (ao.cons O5 ao.nil))) (ie Tv aJ.nil) (pa:=Tw) abq
def SM (x:Item) (av:Int):=Hi x.look av
def mX (x:Item) (av:Int):=goN rV ⟨false,(x.aG.n:Int),0,x⟩
def eR (x:Item) (av:Int):=goN pO ⟨(mX x av).st.t4,(mX x av).st.n,0,(mX x av).st.x⟩
def sW (x:Item) (av:Int):=ym (eR x av).st.x.aG
def Hl (x:Item) (av:Int):Option (Bool):=(cond (decide ((x.aG.n:Int) > 64)) (some (false)) (cond ((x.uV.n:Int) != (x.aG.n:Int)) (some (false)) (cond (decide ((x.bd.n:Int) > 64)) (some (false)) (cond (SM x av).isSome (cond (!((SM x av).getD default)) (some (false)) (cond ((mX x av).by (aE.aq.exit 0)) (cond ((eR x av).by (aE.aq.exit 2)) (cond ((eR x av).st.n==0) (some ((((eR x av).st.x.box.low.x==0)&&(((eR x av).st.x.box.low.y==0)&&(((eR x av).st.x.box.low.z==0)&&(((eR x av).st.x.box.high.x==0)&&(((eR x av).st.x.box.high.y==0)&&(((eR x av).st.x.box.high.z==0)&&true)))))))) (cond (sW x av).isSome (some ((((eR x av).st.x.box.low.x==((sW x av).getD default).low.x)&&(((eR x av).st.x.box.low.y==((sW x av).getD default).low.y)&&(((eR x av).st.x.box.low.z==((sW x av).getD default).low.z)&&(((eR x av).st.x.box.high.x==((sW x av).getD default).high.x)&&(((eR x av).st.x.box.high.y==((sW x av).getD default).high.y)&&(((eR x av).st.x.box.high.z==((sW x av).getD default).high.z)&&true)))))))) none)) (cond ((eR x av).by aE.aq.ret) (some ((eR x av).st.t4)) none)) (cond ((mX x av).by aE.aq.ret) (some ((mX x av).st.t4)) none))) none))))
theorem alU (x:Item) (av:Int):gw [(131,KI),(130,Ml),(129,SL)] [Mv,VO] 66 [FD x,(kI .i64) av] = (Hl x av).map kB:=by
 unfold Hl
 try simp only [aV]
 kernel_rfl
def Zx:List KV->KR KV:=a8 PG 66 (bb kB fun vs=>Hl (yc (v9 vs 0)) (intOf (v9 vs 1)))
theorem Yl:a7 PG 66 Zx:=bH (ao.cons Jy (ao.cons Ih (ao.cons O5 ao.nil))) (ie Tv (ie afo aJ.nil)) fun w=>alU (yc (g0 111 (w 0))) (intOf (g0 3 (w 1)))
structure o5 where
 t2:Int
 i:Int
 s:Show
instance:Inhabited o5:=⟨⟨default,default,default⟩⟩
def FX (x:o5):List KV:=[.int .i64 x.t2,.int .i64 x.i]
def FY (x:o5):List (List KV):=[sS x.s]
def N1 (vs:List KV) (rs:List (List KV)):o5:=⟨intOf (v9 vs 0),intOf (v9 vs 1),sT (r9 rs 0)⟩
def QA:aU:=⟨[(2,w9 i9),(3,w9 i9)],[(1,[n9 111,n9 114],1)],[(1,0,0)]⟩
def abr:=vL [(66,Zx),(65,O4)] [] 20 122 QA
def yn (x:o5):=Hl (x.s.items.get (Int.toNat x.i)) (x.s.av.n:Int)
def p9 (x:o5):aK o5:=(cond (decide (x.i < (x.s.items.n:Int))) (cond (bh x.i x.s.items.n) (cond (yn x).isSome (cond (!((yn x).getD default)) (.out aE.aq.ret ⟨8,x.i,x.s⟩) (.next ⟨x.t2,(ak (x.i+1)),x.s⟩)) .fail) .fail) (.out (aE.aq.exit 0) x))
theorem Xn (x:o5):abr (FX x) (FY x)=aK.enc FX FY (p9 x):=by
 unfold p9 bh
 try simp only [aK.bI]
 kernel_rfl
def QB:Lp:=⟨20,122,QA,fun vs rs=>cc FX FY (goN p9 (N1 vs rs)) [aE.aq.exit 0,aE.aq.ret],false⟩
theorem abt:QB.Ok PG:=uJ (ao.cons Yl (ao.cons Qy ao.nil)) aJ.nil (pa:=N1) Xn
def Mw (s:Show):=yX s.av
def pP (s:Show):=goN p9 ⟨0,0,s⟩
def yo (s:Show):Option (Int):=(cond (decide ((s.items.n:Int) > 256)) (some (4)) (cond (decide ((s.av.n:Int) > 16)) (some (4)) (cond (Mw s).isSome (cond (((Mw s).getD default) != 0) (some (8)) (cond ((pP s).by (aE.aq.exit 0)) (some (0)) (cond ((pP s).by aE.aq.ret) (some ((pP s).st.t2)) none))) none)))
theorem aiv (s:Show):gw [(66,Zx),(65,O4)] [QB] 20 [ph s] = (yo s).map (kI .i64):=by
 unfold yo
 try simp only [aV]
 kernel_rfl
def KK:List KV->KR KV:=a8 PG 20 (bb (kI .i64) fun vs=>yo (gm (v9 vs 0)))
theorem JD:a7 PG 20 KK:=bH (ao.cons Yl (ao.cons Qy ao.nil)) (ie abt aJ.nil) fun w=>aiv (gm (g0 25 (w 0)))
def Eu (t:bG):Option (bG):=(cond (j6 4 0 t.dF.n) (some (⟨t.w,t.h,((⟨0,(fun i=>⟨0,0,0,0⟩)⟩:Sl _).join t.dF)⟩)) none)
theorem ajz (t:bG):gw [] [] 46 [iu t] = (Eu t).map iu:=by
 unfold Eu
 try simp only [aV,anQ]
 kernel_rfl
def N3:List KV->KR KV:=a8 PG 46 (bb iu fun vs=>Eu (ej (v9 vs 0)))
theorem Mx:a7 PG 46 N3:=bH ao.nil aJ.nil fun w=>ajz (ej (g0 114 (w 0)))
structure uc where
 i:Int
 s:Show
 t2:Show
 out:Show
instance:Inhabited uc:=⟨⟨default,default,default,default⟩⟩
def JE (x:uc):List KV:=[.int .i64 x.i]
def JF (x:uc):List (List KV):=[sS x.s,sS x.t2,sS x.out]
def Tx (vs:List KV) (rs:List (List KV)):uc:=⟨intOf (v9 vs 0),sT (r9 rs 0),sT (r9 rs 1),sT (r9 rs 2)⟩
def VP:aU:=⟨[(4,w9 i9)],[(1,[n9 111,n9 114],1),(2,[.bm 111,.bm 114],1),(3,[.bm 111,.bm 114],1)],[(1,0,0),(2,1,0),(3,2,0)]⟩
def afp:=vL [(46,N3)] [] 9 58 VP
def VQ (x:Item):KV:=.agg ([.ts 27 .any (0+x.aG.n) ([]++(List.range x.aG.n).map fun i=>qY (x.aG.get i)) (dZ 0 pE fun i=>qY (x.aG.get i)),.ts 181 .any (0+x.uV.n) ([]++(List.range x.uV.n).map fun i=>ahX (x.uV.get i)) (dZ 0 pE fun i=>ahX (x.uV.get i)),.ts 28 .any (0+x.bd.n) ([]++(List.range x.bd.n).map fun i=>tR (x.bd.get i)) (dZ 0 pE fun i=>tR (x.bd.get i))]++(Cn x).drop 3)
def rW (x:uc):aK uc:=(cond (decide (x.i < (x.s.items.n:Int))) (cond (bh x.i x.s.items.n) (cond (j6 24 0 (x.s.items.get (Int.toNat x.i)).aG.n) (cond (j6 16 0 (x.s.items.get (Int.toNat x.i)).uV.n) (cond (j6 24 0 (x.s.items.get (Int.toNat x.i)).bd.n) (cond (qH 168 x.out.items.n 1) (cond (cond (cond (cond (aR x.out.av.n) (aR (x.out.items.n+1)) false) (aR x.t2.av.n) false) (aR x.t2.items.n) false) (.next ⟨(ak (x.i+1)),x.s,x.t2,⟨(lv yc (x.out.items.n+1) (dZ x.out.items.n (fun i=>FD (x.out.items.get i)) (ri [VQ (x.s.items.get (Int.toNat x.i))]))),x.out.av⟩⟩) .fail) .fail) .fail) .fail) .fail) .fail) (cond (cond (cond (cond (aR x.out.av.n) (aR x.out.items.n) false) (aR x.t2.av.n) false) (aR x.t2.items.n) false) (.out (aE.aq.exit 0) x) .fail))
theorem abu (x:uc):afp (JE x) (JF x)=aK.enc JE JF (rW x):=by
 unfold rW bh qH aR
 try simp only [aK.bI]
 kernel_rfl
def Mz:Lp:=⟨9,58,VP,fun vs rs=>cc JE JF (goN rW (Tx vs rs)) [aE.aq.exit 0],false⟩
theorem Ty:Mz.Ok PG:=uJ (ao.cons Mx ao.nil) aJ.nil (pa:=Tx) abu
structure ql where
 i:Int
 s:Show
 t2:Show
 out:Show
instance:Inhabited ql:=⟨⟨default,default,default,default⟩⟩
def Hm (x:ql):List KV:=[.int .i64 x.i]
def Hn (x:ql):List (List KV):=[sS x.s,sS x.t2,sS x.out]
def QC (vs:List KV) (rs:List (List KV)):ql:=⟨intOf (v9 vs 0),sT (r9 rs 0),sT (r9 rs 1),sT (r9 rs 2)⟩
def Tz:aU:=⟨[(6,w9 i9)],[(1,[n9 111,n9 114],1),(2,[.bm 111,.bm 114],1),(3,[.bm 111,.bm 114],1)],[(1,0,0),(2,1,0),(3,2,0)]⟩
def adt:=vL [(46,N3)] [Mz] 9 122 Tz
def zB (x:ql):=Eu (x.s.av.get (Int.toNat x.i))
def qP (x:ql):aK ql:=(cond (decide (x.i < (x.s.av.n:Int))) (cond (bh x.i x.s.av.n) (cond (zB x).isSome (cond (qH 40 x.out.av.n 1) (cond (cond (cond (cond (aR (x.out.av.n+1)) (aR x.out.items.n) false) (aR x.t2.av.n) false) (aR x.t2.items.n) false) (.next ⟨(ak (x.i+1)),x.s,x.t2,⟨x.out.items,(x.out.av.push ((zB x).getD default))⟩⟩) .fail) .fail) .fail) .fail) (cond (cond (cond (cond (aR x.out.av.n) (aR x.out.items.n) false) (aR x.t2.av.n) false) (aR x.t2.items.n) false) (.out (aE.aq.exit 2) x) .fail))
theorem Zy (x:ql):adt (Hm x) (Hn x)=aK.enc Hm Hn (qP x):=by
 unfold qP bh qH aR
 try simp only [aK.bI,ajk]
 kernel_rfl
def TA:Lp:=⟨9,122,Tz,fun vs rs=>cc Hm Hn (goN qP (QC vs rs)) [aE.aq.exit 2],false⟩
theorem adu:TA.Ok PG:=uJ (ao.cons Mx ao.nil) (ie Ty aJ.nil) (pa:=QC) Zy
def kZ (s:Show):=goN rW ⟨0,s,⟨⟨0,(fun i=>⟨⟨0,(fun i=>⟨0,0,0⟩)⟩,⟨0,(fun i=>⟨0,0⟩)⟩,⟨0,(fun i=>⟨0,0,0⟩)⟩,⟨⟨0,0,0,0⟩,0,0,0,false,0⟩,⟨⟨0,0,0⟩,⟨0,0,0⟩⟩⟩)⟩,⟨0,(fun i=>⟨0,0,⟨0,(fun i=>⟨0,0,0,0⟩)⟩⟩)⟩⟩,⟨⟨0,(fun i=>⟨⟨0,(fun i=>⟨0,0,0⟩)⟩,⟨0,(fun i=>⟨0,0⟩)⟩,⟨0,(fun i=>⟨0,0,0⟩)⟩,⟨⟨0,0,0,0⟩,0,0,0,false,0⟩,⟨⟨0,0,0⟩,⟨0,0,0⟩⟩⟩)⟩,⟨0,(fun i=>⟨0,0,⟨0,(fun i=>⟨0,0,0,0⟩)⟩⟩)⟩⟩⟩
def yY (s:Show):=goN qP ⟨0,(kZ s).st.s,(kZ s).st.t2,(kZ s).st.out⟩
def Ew (s:Show):Option (Show):=(cond ((kZ s).by (aE.aq.exit 0)) (cond (cond (cond (cond (aR (kZ s).st.out.av.n) (aR (kZ s).st.out.items.n) false) (aR (kZ s).st.t2.av.n) false) (aR (kZ s).st.t2.items.n) false) (cond ((yY s).by (aE.aq.exit 2)) (some ((yY s).st.out)) none) none) none)
theorem ajA (s:Show):gw [(46,N3)] [Mz,TA] 9 [ph s] = (Ew s).map ph:=by
 unfold Ew aR
 try simp only [aV]
 kernel_rfl
def VS:List KV->KR KV:=a8 PG 9 (bb ph fun vs=>Ew (gm (v9 vs 0)))
theorem VT:a7 PG 9 VS:=bH (ao.cons Mx ao.nil) (ie Ty (ie adu aJ.nil)) fun w=>ajA (gm (g0 25 (w 0)))
end
end Go.Proofs.YtchbpckkmgcgkaaGreat.b
end
section
namespace Go.Proofs.YtchbpckkmgcgkaaGreat.b
open Go.K Go.K.iK
open Go.aE (aq)
theorem apt {α:Type} [Inhabited α] {l:Sl α} {n:Nat} {v:α} {g:Nat->α} (hn:l.n=n) (h:∀ q,q < n->l.get q=g q) (hv:v=g n):∀ q,q < n+1->(l.push v).get q=g q:=fun q hq=>by
 by_cases hl:q < n
 ·rw [Sl.akq (by omega)]; exact h q hl
 ·have e:q=l.n:=by omega
  rw [e,Sl.akr,hv,hn]
structure Small (s:Show):Prop where
 n:s.items.n<=260
 it:∀ i,i < s.items.n->(s.items.get i).aG.n<=800/\(s.items.get i).uV.n<=800/\(s.items.get i).bd.n<=800
 tn:s.av.n<=40
 tx:∀ i,i < s.av.n->(s.av.get i).dF.n<=20000
theorem aiw {l:Sl bG} (h:sV l=some false):l.n<=40/\∀ i,i < l.n->(l.get i).dF.n<=20000:=by
 obtain ⟨e,z,hz,rfl,h0,h1,h2⟩:∃ e z,nS l = .out e z/\(e = .exit 0/\z.l=l/\0<=z.n/\∀ i,i < l.n->i < 100->min ((l.get i).dF.n:Int) 100000<=z.n):=by
  unfold nS;refine bt (step:=mu) (fun j y=>y.l=l/\y.i=(j:Int)/\0<=y.n/\y.n<=100000 * (j:Int)/\j<=100/\∀ i,i < j->min ((l.get i).dF.n:Int) 100000<=y.n) _ 100 (by have:gv=1000000000000:=rfl; omega) (fun j y hj ⟨f1,f2,f3,f4,f5,f6⟩=>?_) ⟨rfl,rfl,Int.le_refl _,by show (0:Int)<=_; omega,by omega,fun i hi=>absurd hi (xL _)⟩;have w1:ak (y.i+1)=y.i+1:=aj;unfold mu bh;by_cases c1:y.i < ((y.l.n:Nat):Int)
  ·by_cases c2:y.i < 100
   ·have hg:y.l.get (Int.toNat y.i)=l.get j:=by rw [f1,f2,bU]
    simp only [hg,w1,ai,bC,au c1,au c2,au (show (0:Int)<=y.i by omega)];have w2:ak (y.n+min ((l.get j).dF.n:Int) 100000)=y.n+min ((l.get j).dF.n:Int) 100000:=aj;rw [w2];refine .inl ⟨_,rfl,by omega,f1,by show y.i+1=_; omega,by show 0<=y.n+_; omega,by show y.n+_<=_; omega,by omega,fun i hi=>?_⟩;show _<=y.n+_;by_cases vK:i < j
    ·have:=f6 i vK; omega
    ·have:i=j:=by omega
     subst this; omega
   ·simp only [ai,aw,au c1,ay c2]
    exact .inr ⟨_,_,rfl,rfl,rfl,f1,f3,fun i _ hi=>f6 i (by omega)⟩
  ·simp only [aw,ay c1]
   exact .inr ⟨_,_,rfl,rfl,rfl,f1,f3,fun i hi _=>f6 i (by rw [f1] at c1; omega)⟩
 have b1:(nS l).by (.exit 0)=true:=by rw [hz]; rfl
 have b2:(nS l).st=z:=by rw [hz]; rfl
 unfold sV at h;rw [b1,b2,h0,ai] at h;by_cases c1:((l.n:Nat):Int) > 40
 ·rw [au c1] at h; simp at h
 ·rw [ay c1,aw] at h
  have c2:=of_decide_eq_false (pb h);exact ⟨by omega,fun i hi=>by have:=h2 i hi (by omega); omega⟩
theorem alV {s:Show} (h:vp s=some false):Small s:=by
 obtain ⟨e,z,hz,rfl,h0,h1,h2⟩:∃ e z,mw s = .out e z/\(e = .exit 0/\z.s=s/\0<=z.n/\∀ i,i < s.items.n->i < 300->min ((s.items.get i).aG.n:Int) 10000+min ((s.items.get i).uV.n:Int) 10000+2 * min ((s.items.get i).bd.n:Int) 10000<=z.n):=by
  unfold mw;refine bt (step:=mv) (fun j y=>y.s=s/\y.i=(j:Int)/\0<=y.n/\y.n<=40000 * (j:Int)/\j<=300/\∀ i,i < j->min ((s.items.get i).aG.n:Int) 10000+min ((s.items.get i).uV.n:Int) 10000+2 * min ((s.items.get i).bd.n:Int) 10000<=y.n) _ 300 (by have:gv=1000000000000:=rfl; omega) (fun j y hj ⟨f1,f2,f3,f4,f5,f6⟩=>?_) ⟨rfl,rfl,Int.le_refl _,by show (0:Int)<=_; omega,by omega,fun i hi=>absurd hi (xL _)⟩;have w1:ak (y.i+1)=y.i+1:=aj;unfold mv bh;by_cases c1:y.i < ((y.s.items.n:Nat):Int)
  ·by_cases c2:y.i < 300
   ·have hg:y.s.items.get (Int.toNat y.i)=s.items.get j:=by rw [f1,f2,bU]
    simp only [hg,w1,ai,bC,au c1,au c2,au (show (0:Int)<=y.i by omega)];have w2:ak ((ak ((ak (y.n+min ((s.items.get j).aG.n:Int) 10000))+min ((s.items.get j).uV.n:Int) 10000))+(ak (2 * min ((s.items.get j).bd.n:Int) 10000)))=y.n+(min ((s.items.get j).aG.n:Int) 10000+min ((s.items.get j).uV.n:Int) 10000+2 * min ((s.items.get j).bd.n:Int) 10000):=by
     have ma:0<=min ((s.items.get j).aG.n:Int) 10000/\min ((s.items.get j).aG.n:Int) 10000<=10000:=by omega
     have mb:0<=min ((s.items.get j).uV.n:Int) 10000/\min ((s.items.get j).uV.n:Int) 10000<=10000:=by omega
     have mc:0<=min ((s.items.get j).bd.n:Int) 10000/\min ((s.items.get j).bd.n:Int) 10000<=10000:=by omega
     clear f6;generalize min ((s.items.get j).aG.n:Int) 10000=a at ma ⊢;generalize min ((s.items.get j).uV.n:Int) 10000=b at mb ⊢;generalize min ((s.items.get j).bd.n:Int) 10000=c at mc ⊢;rw [aj (n:=y.n+a),aj (n:=y.n+a+b),aj (n:=2 * c),aj (by omega) (by omega)];omega
    rw [w2];refine .inl ⟨_,rfl,by omega,f1,by show y.i+1=_; omega,by show 0<=y.n+_; omega,by show y.n+_<=_; omega,by omega,fun i hi=>?_⟩;show _<=y.n+_;by_cases vK:i < j
    ·have:=f6 i vK; omega
    ·have:i=j:=by omega
     subst this; omega
   ·simp only [ai,aw,au c1,ay c2]
    exact .inr ⟨_,_,rfl,rfl,rfl,f1,f3,fun i _ hi=>f6 i (by omega)⟩
  ·simp only [aw,ay c1]
   exact .inr ⟨_,_,rfl,rfl,rfl,f1,f3,fun i hi _=>f6 i (by rw [f1] at c1; omega)⟩
 have b1:(mw s).by (.exit 0)=true:=by rw [hz]; rfl
 have b2:(mw s).st=z:=by rw [hz]; rfl
 unfold vp at h;rw [b1,b2,h0,ai] at h;by_cases c1:((s.items.n:Nat):Int) > 260
 ·rw [au c1] at h; simp at h
 rw [ay c1,aw] at h;by_cases c2:z.n > 800
 ·rw [au c2] at h; simp at h
 rw [ay c2,aw] at h;cases hg:Aq s with
 | none=>rw [hg] at h; simp at h
 | some g=>
  rw [hg] at h;simp only [bj,ai,bc] at h;have hgf:g=false:=pb h;subst hgf;have hg' : sV s.av=some false:=by
   unfold Aq at hg;rw [b2,h0] at hg;exact hg
  obtain ⟨t1,t2⟩:=aiw hg';exact ⟨by omega,fun i hi=>by have:=h2 i hi (by omega); omega,t1,t2⟩
theorem arB {α:Type} (z:Nat->α) (t:Sl α):(⟨0,z⟩:Sl α).join t=t:=by
 show (⟨0+t.n,fun i=>t.get (i - 0)⟩:Sl α)=t;rw [bk];rfl
theorem auJ {t:bG} (h:t.dF.n<=20000):Eu t=some t:=by
 have a1:j6 4 0 t.dF.n=true:=sU (by omega) (by omega) (by omega) (.inr rfl);unfold Eu;rw [a1,ai,arB]
theorem an5 (x:Item):yc (VQ x)=x:=by
 show (⟨⟨0+x.aG.n,fun i=>x.aG.get (i - 0)⟩,⟨0+x.uV.n,fun i=>x.uV.get (i - 0)⟩,⟨0+x.bd.n,fun i=>x.bd.get (i - 0)⟩,x.look,x.box⟩:Item)=x;rw [bk,bk,bk];rfl
theorem atz {l:Sl Item} {x:Item} (i:Nat) (hi:i < l.n+1):(lv yc (l.n+1) (dZ l.n (fun i=>FD (l.get i)) (ri [VQ x]))).get i=if i < l.n then l.get i else x:=by
 show yc (dZ l.n (fun i=>FD (l.get i)) (ri [VQ x]) i)=_;unfold dZ;by_cases h:i < l.n
 ·rw [aW h,show Nat.blt i l.n=true from by rw [bX]; exact h]
  rfl
 ·rw [aB h,show Nat.blt i l.n=false from by
   cases hb:Nat.blt i l.n with
   | false=>rfl
   | true=>rw [bX] at hb; omega,show i - l.n=0 by omega]
  exact an5 x
theorem an6 {s:Show} (hs:Small s):∃ z,kZ s = .out (.exit 0) z/\z.s=s/\z.out.items.n=s.items.n/\(∀ i,i < s.items.n->z.out.items.get i=s.items.get i)/\z.out.av.n=0:=by
 obtain ⟨e,z,hz,rfl,h⟩:∃ e z,kZ s = .out e z/\(e = .exit 0/\z.s=s/\z.out.items.n=s.items.n/\(∀ i,i < s.items.n->z.out.items.get i=s.items.get i)/\z.out.av.n=0):=by
  unfold kZ;refine bt (step:=rW) (fun j y=>y.i=(j:Int)/\y.s=s/\j<=s.items.n/\y.out.items.n=j/\(∀ i,i < j->y.out.items.get i=s.items.get i)/\y.out.av.n=0) _ s.items.n (by have:gv=1000000000000:=rfl; have:=hs.n; omega) (fun j y hj ⟨f1,f2,f3,f4,f5,f6⟩=>?_) ⟨rfl,rfl,dq _,rfl,fun i hi=>absurd hi (xL _),rfl⟩;have hn:=hs.n;have w1:ak (y.i+1)=y.i+1:=aj;unfold rW bh qH aR;by_cases h:y.i < ((y.s.items.n:Nat):Int)
  ·have fw:j < s.items.n:=by rw [f2] at h; omega
   have hg:y.s.items.get (Int.toNat y.i)=s.items.get j:=by rw [f1,f2,bU]
   obtain ⟨q1,q2,q3⟩:=hs.it j fw;have a1:j6 24 0 (s.items.get j).aG.n=true:=sU (by omega) (by omega) (by omega) (.inr rfl);have a2:j6 16 0 (s.items.get j).uV.n=true:=sU (by omega) (by omega) (by omega) (.inr rfl);have a3:j6 24 0 (s.items.get j).bd.n=true:=sU (by omega) (by omega) (by omega) (.inr rfl);have a4:j6 168 y.out.items.n 1=true:=iJ;simp only [hg,w1,a1,a2,a3,a4,aI,ai,bC,au h,au (show (0:Int)<=y.i by omega)];refine .inl ⟨_,rfl,fw,by show y.i+1=_; omega,f2,by omega,by show y.out.items.n+1=_; omega,fun i hi=>?_,f6⟩;show (lv yc (y.out.items.n+1) (dZ y.out.items.n (fun i=>FD (y.out.items.get i)) (ri [VQ (s.items.get j)]))).get i=_;rw [atz i (by omega)];by_cases vK:i < y.out.items.n
   ·rw [aW vK]; exact f5 i (by omega)
   ·rw [aB vK]; have hji:i=j:=by omega
    subst hji; rfl
  ·simp only [aI,ai,aw,ay h]
   rw [f2] at h;exact .inr ⟨_,_,rfl,rfl,rfl,f2,by omega,fun i hi=>f5 i (by omega),f6⟩
 exact ⟨z,hz,h⟩
theorem apu {s:Show} (hs:Small s):∃ s',Ew s=some s'/\ux s s':=by
 obtain ⟨y,hy,y1,y2,y3,y4⟩:=an6 hs;have s1:(kZ s).st=y:=by rw [hy]; rfl
 have hn:=hs.n;have ht:=hs.tn;obtain ⟨e,z,hz,rfl,h1,h2,h3⟩:∃ e z,yY s = .out e z/\(e = .exit 2/\z.out.items=y.out.items/\z.out.av.n=s.av.n/\∀ i,i < s.av.n->z.out.av.get i=s.av.get i):=by
  unfold yY;rw [s1];refine bt (step:=qP) (fun j x=>x.i=(j:Int)/\x.s=s/\x.out.items=y.out.items/\j<=s.av.n/\x.out.av.n=j/\∀ i,i < j->x.out.av.get i=s.av.get i) _ s.av.n (by have:gv=1000000000000:=rfl; omega) (fun j x hj ⟨f1,f2,f3,f4,f5,f6⟩=>?_) ⟨rfl,y1,rfl,dq _,y4,fun i hi=>absurd hi (xL _)⟩;have w1:ak (x.i+1)=x.i+1:=aj;have a4:j6 40 x.out.av.n 1=true:=iJ;unfold qP bh qH aR;by_cases h:x.i < ((x.s.av.n:Nat):Int)
  ·have fw:j < s.av.n:=by rw [f2] at h; omega
   have e0:zB x=some (s.av.get j):=by
    unfold zB;rw [f1,f2,bU];exact auJ (hs.tx j fw)
   simp only [e0,w1,a4,aI,ai,bC,bj,bc,au h,au (show (0:Int)<=x.i by omega)];refine .inl ⟨_,rfl,fw,by show x.i+1=_; omega,f2,f3,by omega,by show x.out.av.n+1=_; omega,?_⟩;exact apt (n:=j) f5 f6 rfl
  ·simp only [aI,ai,aw,ay h]
   rw [f2] at h;exact .inr ⟨_,_,rfl,rfl,rfl,f3,by omega,fun i hi=>f6 i (by omega)⟩
 have b1:(kZ s).by (.exit 0)=true:=by rw [hy]; rfl
 have b2:(yY s).by (.exit 2)=true:=by rw [hz]; rfl
 have b3:(yY s).st=z:=by rw [hz]; rfl
 refine ⟨z.out,?_,⟨by rw [h1]; exact y2,fun i hi=>by rw [h1]; exact y3 i hi,h2,h3⟩⟩;unfold Ew aR;simp only [b1,b2,b3,aI,ai]
theorem apv (a b:Sl aL) (hn:a.n=b.n) (hb:a.n<=98304) (h:∀ i,i < a.n->a.get i=b.get i):tG a b=some true:=by
 obtain ⟨e,z,hz,rfl⟩:∃ e z,qN a b = .out e z/\e = .exit 0:=by
  unfold qN;refine bt (step:=mW) (fun j y=>y.a=a/\y.b=b/\y.i=(j:Int)/\j<=a.n) (fun e _=>e = .exit 0) a.n (by have:gv=1000000000000:=rfl; omega) (fun j y hj ⟨f1,f2,f3,f4⟩=>?_) ⟨rfl,rfl,rfl,dq _⟩;have w1:ak (y.i+1)=y.i+1:=aj;unfold mW bh;by_cases bu:y.i < ((y.a.n:Nat):Int)
  ·have fw:j < a.n:=by rw [f1] at bu; omega
   have hg:y.a.get (Int.toNat y.i)=y.b.get (Int.toNat y.i):=by rw [f1,f2,f3,bU]; exact h j fw
   simp only [hg,w1,ai,aw,bC,Ki,iR,au bu,au (show (0:Int)<=y.i by omega),au (show y.i < ((y.b.n:Nat):Int) by rw [f2]; omega)];exact .inl ⟨_,rfl,fw,f1,f2,by show y.i+1=_; omega,by omega⟩
  ·simp only [aw,ay bu]
   exact .inr ⟨_,_,rfl,rfl,rfl⟩
 have b1:(qN a b).by (.exit 0)=true:=by rw [hz]; rfl
 unfold tG;rw [hn,hU,aw,b1,ai]
theorem atA (a:bG) (hn:a.dF.n<=20000):Et a a=some true:=by
 obtain ⟨e,z,hz,rfl⟩:∃ e z,yW a a = .out e z/\e = .exit 0:=by
  unfold yW;refine bt (step:=rS) (fun j y=>y.a=a/\y.b=a/\y.i=(j:Int)/\j<=a.dF.n) (fun e _=>e = .exit 0) a.dF.n (by have:gv=1000000000000:=rfl; omega) (fun j y hj ⟨f1,f2,f3,f4⟩=>?_) ⟨rfl,rfl,rfl,dq _⟩;have w1:ak (y.i+1)=y.i+1:=aj;unfold rS bh;by_cases bu:y.i < ((y.a.dF.n:Nat):Int)
  ·have fw:j < a.dF.n:=by rw [f1] at bu; omega
   have hg:y.b=y.a:=by rw [f1,f2]
   simp only [hg,w1,ai,aw,bC,Ki,iR,au bu,au (show (0:Int)<=y.i by omega)];exact .inl ⟨_,rfl,fw,f1,f1,by show y.i+1=_; omega,by omega⟩
  ·simp only [aw,ay bu]
   exact .inr ⟨_,_,rfl,rfl,rfl⟩
 have b1:(yW a a).by (.exit 0)=true:=by rw [hz]; rfl
 unfold Et;simp only [hU,aw,b1,ai]
theorem atB (a b:Sl bG) (hn:a.n=b.n) (hb:a.n<=40) (h:∀ i,i < a.n->a.get i=b.get i) (ht:∀ i,i < a.n->(a.get i).dF.n<=20000):xh a b=some true:=by
 obtain ⟨e,z,hz,rfl⟩:∃ e z,tF a b = .out e z/\e = .exit 0:=by
  unfold tF;refine bt (step:=oZ) (fun j y=>y.a=a/\y.b=b/\y.i=(j:Int)/\j<=a.n) (fun e _=>e = .exit 0) a.n (by have:gv=1000000000000:=rfl; omega) (fun j y hj ⟨f1,f2,f3,f4⟩=>?_) ⟨rfl,rfl,rfl,dq _⟩;have w1:ak (y.i+1)=y.i+1:=aj;unfold oZ bh;by_cases bu:y.i < ((y.a.n:Nat):Int)
  ·have fw:j < a.n:=by rw [f1] at bu; omega
   have e0:wo y=some true:=by
    unfold wo;rw [f1,f2,f3,bU,<- h j fw];exact atA _ (ht j fw)
   simp only [e0,w1,ai,aw,bC,bj,bc,iR,au bu,au (show (0:Int)<=y.i by omega),au (show y.i < ((y.b.n:Nat):Int) by rw [f2]; omega)];exact .inl ⟨_,rfl,fw,f1,f2,by show y.i+1=_; omega,by omega⟩
  ·simp only [aw,ay bu]
   exact .inr ⟨_,_,rfl,rfl,rfl⟩
 have b1:(tF a b).by (.exit 0)=true:=by rw [hz]; rfl
 unfold xh;rw [hn,hU,aw,b1,ai]
theorem arC (a:Item) (h1:a.aG.n<=800) (h2:a.uV.n<=800) (h3:a.bd.n<=800):uR a a=some true:=by
 obtain ⟨e,z,hz,rfl,za,zb⟩:∃ e z,jQ a a = .out e z/\(e = .exit 0/\z.a=a/\z.b=a):=by
  unfold jQ;refine bt (step:=nK) (fun j y=>y.a=a/\y.b=a/\y.i=(j:Int)/\j<=a.aG.n) _ a.aG.n (by have:gv=1000000000000:=rfl; omega) (fun j y hj ⟨f1,f2,f3,f4⟩=>?_) ⟨rfl,rfl,rfl,dq _⟩;have w1:ak (y.i+1)=y.i+1:=aj;unfold nK bh;by_cases bu:y.i < ((y.a.aG.n:Nat):Int)
  ·have fw:j < a.aG.n:=by rw [f1] at bu; omega
   have hg:y.b=y.a:=by rw [f1,f2]
   simp only [hg,w1,ai,aw,bC,Ki,iR,au bu,au (show (0:Int)<=y.i by omega)];exact .inl ⟨_,rfl,fw,f1,f1,by show y.i+1=_; omega,by omega⟩
  ·simp only [aw,ay bu]
   exact .inr ⟨_,_,rfl,rfl,rfl,f1,f2⟩
 have s0:(jQ a a).st=z:=by rw [hz]; rfl
 obtain ⟨e,u,hu,rfl,ua,ub⟩:∃ e z,jR a a = .out e z/\(e = .exit 2/\z.a=a/\z.b=a):=by
  unfold jR;rw [s0,za,zb];refine bt (step:=mU) (fun j y=>y.a=a/\y.b=a/\y.i=(j:Int)/\j<=a.uV.n) _ a.uV.n (by have:gv=1000000000000:=rfl; omega) (fun j y hj ⟨f1,f2,f3,f4⟩=>?_) ⟨rfl,rfl,rfl,dq _⟩;have w1:ak (y.i+1)=y.i+1:=aj;unfold mU bh;by_cases bu:y.i < ((y.a.uV.n:Nat):Int)
  ·have fw:j < a.uV.n:=by rw [f1] at bu; omega
   have hg:y.b=y.a:=by rw [f1,f2]
   simp only [hg,w1,ai,aw,bC,Ki,iR,au bu,au (show (0:Int)<=y.i by omega)];exact .inl ⟨_,rfl,fw,f1,f1,by show y.i+1=_; omega,by omega⟩
  ·simp only [aw,ay bu]
   exact .inr ⟨_,_,rfl,rfl,rfl,f1,f2⟩
 have s1:(jR a a).st=u:=by rw [hu]; rfl
 obtain ⟨e,v,hv,rfl⟩:∃ e z,rT a a = .out e z/\e = .exit 4:=by
  unfold rT;rw [s1,ua,ub];refine bt (step:=mV) (fun j y=>y.a=a/\y.b=a/\y.i=(j:Int)/\j<=a.bd.n) (fun e _=>e = .exit 4) a.bd.n (by have:gv=1000000000000:=rfl; omega) (fun j y hj ⟨f1,f2,f3,f4⟩=>?_) ⟨rfl,rfl,rfl,dq _⟩;have w1:ak (y.i+1)=y.i+1:=aj;unfold mV bh;by_cases bu:y.i < ((y.a.bd.n:Nat):Int)
  ·have fw:j < a.bd.n:=by rw [f1] at bu; omega
   have hg:y.b=y.a:=by rw [f1,f2]
   simp only [hg,w1,ai,aw,bC,Ki,iR,au bu,au (show (0:Int)<=y.i by omega)];exact .inl ⟨_,rfl,fw,f1,f1,by show y.i+1=_; omega,by omega⟩
  ·simp only [aw,ay bu]
   exact .inr ⟨_,_,rfl,rfl,rfl⟩
 have b0:(jQ a a).by (.exit 0)=true:=by rw [hz]; rfl
 have b1:(jR a a).by (.exit 2)=true:=by rw [hu]; rfl
 have b2:(rT a a).by (.exit 4)=true:=by rw [hv]; rfl
 unfold uR;simp only [hU,aw,b0,b1,b2,ai,Ki,bC,iR]
theorem arD {s s' : Show} (hs:Small s) (h:ux s s'):uT s' s=some true:=by
 have hn:=hs.n;have ht:=hs.tn;have e0:FU s' s=some true:=atB _ _ h.tn (by rw [h.tn]; omega) (fun i hi=>h.tx i (by rw [<- h.tn]; exact hi)) fun i hi=>by
  rw [h.tn] at hi;rw [h.tx i hi]; exact hs.tx i hi
 obtain ⟨e,z,hz,rfl⟩:∃ e z,rU s' s = .out e z/\e = .exit 0:=by
  unfold rU;refine bt (step:=nL) (fun j y=>y.a=s'/\y.b=s/\y.i=(j:Int)/\j<=s.items.n) (fun e _=>e = .exit 0) s.items.n (by have:gv=1000000000000:=rfl; omega) (fun j y hj ⟨f1,f2,f3,f4⟩=>?_) ⟨rfl,rfl,rfl,dq _⟩;have w1:ak (y.i+1)=y.i+1:=aj;unfold nL bh;by_cases bu:y.i < ((y.a.items.n:Nat):Int)
  ·have fw:j < s.items.n:=by rw [f1,h.n] at bu; omega
   have e0:vq y=some true:=by
    unfold vq;rw [f1,f2,f3,bU,h.it j fw];obtain ⟨q1,q2,q3⟩:=hs.it j fw;exact arC _ q1 q2 q3
   simp only [e0,w1,ai,aw,bC,bj,bc,iR,au bu,au (show (0:Int)<=y.i by omega),au (show y.i < ((y.b.items.n:Nat):Int) by rw [f2]; omega)];exact .inl ⟨_,rfl,fw,f1,f2,by show y.i+1=_; omega,by omega⟩
  ·simp only [aw,ay bu]
   exact .inr ⟨_,_,rfl,rfl,rfl⟩
 have b1:(rU s' s).by (.exit 0)=true:=by rw [hz]; rfl
 unfold uT;rw [h.n];simp only [hU,aw,e0,b1,bj,bc,iR,ai]
end Go.Proofs.YtchbpckkmgcgkaaGreat.b
end
section
namespace Go.Proofs.YtchbpckkmgcgkaaGreat.b
open Go.K
noncomputable section
def qQ (x:Int):Option (Bool):=(some ((x != x)))
theorem Zz (x:Int):zY PG (iI PG [] [] (fun q=>Nat.beq q 48)) 9 9 134 [(kI .i64) x] = (qQ x).map kB:=by
 unfold qQ
 kernel_rfl
def QD:List KV->KR KV:=a8 PG 134 (bb kB fun vs=>qQ (intOf (v9 vs 0)))
theorem Xo:a7 PG 134 QD:=bH ao.nil aJ.nil fun w=>Zz (intOf (g0 3 (w 0)))
def Cx (x:Int) (y:Int):=qQ x
def wq (x:Int) (y:Int):=qQ y
def fk (x:Int) (y:Int):Option (Int):=(cond ((Cx x y).getD default) (cond ((wq x y).getD default) (some (0)) (some ((-(1:Int))))) (cond ((wq x y).getD default) (some (1)) (cond (decide (x < y)) (some ((-(1:Int)))) (cond (decide (x > y)) (some (1)) (some (0))))))
theorem Xp (x:Int) (y:Int):zY PG (iI PG [(134,QD)] [] (fun q=>Nat.beq q 48)) 9 9 75 [(kI .i64) x,(kI .i64) y] = (fk x y).map (kI .i64):=by
 unfold fk
 try simp only [aV]
 kernel_rfl
def cr:List KV->KR KV:=a8 PG 75 (bb (kI .i64) fun vs=>fk (intOf (v9 vs 0)) (intOf (v9 vs 1)))
theorem bQ:a7 PG 75 cr:=bH (ao.cons Xo ao.nil) aJ.nil fun w=>Xp (intOf (g0 3 (w 0))) (intOf (g0 3 (w 1)))
structure de where
 data:(Sl aL)
 a:Int
 b:Int
 n:Int
 held:aH
instance:Inhabited de:=⟨⟨default,default,default,default,default⟩⟩
def lV (x:de):List KV:=[eZ 48 fH x.data,.int .i64 x.a,.int .i64 x.b,.int .i64 x.n,.fn (.func 119) [] [.ptr 0 0]]
def lW (x:de):List (List KV):=[db x.held]
def v7 (vs:List KV) (rs:List (List KV)):de:=⟨fg gn (v9 vs 0),intOf (v9 vs 1),intOf (v9 vs 2),intOf (v9 vs 3),dc (r9 rs 0)⟩
def xj:aU:=⟨[(0,⟨false,[.arr 48]⟩),(1,w9 i9),(2,w9 i9),(3,w9 i9),(4,⟨false,[.ref (.fn (.func 119) [] [.ptr 0 0])]⟩)],[(100004,[n9 111,n9 114,n9 197],1)],[]⟩
structure fo where
 data:(Sl aL)
 a:Int
 b:Int
 n:Int
 i:Int
 iL:aH
instance:Inhabited fo:=⟨by constructor<;>exact default⟩
def kR (x:fo):List KV:=[eZ 48 fH x.data,.int .i64 x.a,.int .i64 x.b,.int .i64 x.n,.fn (.func 119) [] [.ptr 0 0],.int .i64 x.i]
def kS (x:fo):List (List KV):=[db x.iL]
def uy (vs:List KV) (rs:List (List KV)):fo:=⟨fg gn (v9 vs 0),intOf (v9 vs 1),intOf (v9 vs 2),intOf (v9 vs 3),intOf (v9 vs 5),dc (r9 rs 0)⟩
def vr:aU:=⟨[(0,⟨false,[.arr 48]⟩),(1,w9 i9),(2,w9 i9),(3,w9 i9),(4,⟨false,[.ref (.fn (.func 119) [] [.ptr 0 0])]⟩),(10,w9 i9)],[(100004,[n9 111,n9 114,n9 197],1)],[]⟩
def EF:=ur PG (iI PG [(75,cr)] [] (fun q=>Nat.beq q 48)) 9 9 220 6 (pd PG 220 6) vr
def dx (x:fo):aK fo:=(cond (decide (x.i < x.n)) (cond (bh (ak (x.b+x.i)) x.data.n) (cond (bh (ak (x.a+x.i)) x.data.n) (cond (bh (ak (x.a+x.i)) x.data.n) (cond (bh (ak (x.b+x.i)) x.data.n) (cond (aR x.data.n) (.next ⟨((x.data.set (0+(Int.toNat (ak (x.a+x.i)))) (x.data.get (0+(Int.toNat (ak (x.b+x.i)))))).set (0+(Int.toNat (ak (x.b+x.i)))) (x.data.get (0+(Int.toNat (ak (x.a+x.i)))))),x.a,x.b,x.n,(ak (x.i+1)),x.iL⟩) .fail) .fail) .fail) .fail) .fail) (cond (aR x.data.n) (.out (aE.aq.exit 0) x) .fail))
theorem C3 (x:fo):EF (kR x) (kS x)=aK.enc kR kS (dx x):=by
 unfold dx bh aR
 try simp only [aK.bI,WR,WQ]
 kernel_rfl
def vt:Lp:=⟨220,6,vr,fun vs rs=>cc kR kS (goN dx (uy vs rs)) [aE.aq.exit 0],true⟩
theorem EG:vt.Ok PG:=n8 funcs mixed (ao.cons bQ ao.nil) aJ.nil (L:=9) (n:=9) (step:=dx) (ev:=kR) (er:=kS) (pa:=uy) rfl (fun wv wr=>⟨by kernel_rfl,by kernel_rfl⟩) C3
def Gj:=OB PG (iI PG [(75,cr)] [vt] (fun q=>Nat.beq q 48)) 9 9 220 xj
def en (x:de):=goN dx ⟨x.data,x.a,x.b,x.n,0,x.held⟩
def kT (x:de):aK de:=(cond (aR x.data.n) (cond ((en x).by (aE.aq.exit 0)) (cond (aR (en x).st.data.n) (.out aE.aq.ret ⟨(en x).st.data,(en x).st.a,(en x).st.b,(en x).st.n,(en x).st.iL⟩) .fail) .fail) .fail)
theorem EH (x:de):Gj (lV x) (lW x)=aK.enc lV lW (kT x):=by
 unfold kT aR
 try simp only [aK.bI]
 kernel_rfl
def gd (x:de):aK de:=kT x
def qR:Fc:=⟨220,xj,fun vs rs=>cc lV lW (gd (v7 vs rs)) [aE.aq.ret]⟩
theorem vu:qR.Ok PG:=IC funcs mixed (ao.cons bQ ao.nil) (ie EG aJ.nil) (L:=9) (n:=9) (step:=gd) (ev:=lV) (er:=lW) (pa:=v7) rfl (fun wv wr=>⟨by kernel_rfl,by kernel_rfl⟩) EH
structure dv where
 data:(Sl aL)
 a:Int
 m:Int
 b:Int
 held:aH
instance:Inhabited dv:=⟨⟨default,default,default,default,default⟩⟩
def og (x:dv):List KV:=[eZ 48 fH x.data,.int .i64 x.a,.int .i64 x.m,.int .i64 x.b,.fn (.func 119) [] [.ptr 0 0]]
def oh (x:dv):List (List KV):=[db x.held]
def yH (vs:List KV) (rs:List (List KV)):dv:=⟨fg gn (v9 vs 0),intOf (v9 vs 1),intOf (v9 vs 2),intOf (v9 vs 3),dc (r9 rs 0)⟩
def zC:aU:=⟨[(0,⟨false,[.arr 48]⟩),(1,w9 i9),(2,w9 i9),(3,w9 i9),(4,⟨false,[.ref (.fn (.func 119) [] [.ptr 0 0])]⟩)],[(100004,[n9 111,n9 114,n9 197],1)],[]⟩
structure dS where
 data:(Sl aL)
 a:Int
 m:Int
 b:Int
 i:Int
 j:Int
 iL:aH
instance:Inhabited dS:=⟨by constructor<;>exact default⟩
def lX (x:dS):List KV:=[eZ 48 fH x.data,.int .i64 x.a,.int .i64 x.m,.int .i64 x.b,.fn (.func 119) [] [.ptr 0 0],.int .i64 x.i,.int .i64 x.j]
def lY (x:dS):List (List KV):=[db x.iL]
def v8 (vs:List KV) (rs:List (List KV)):dS:=⟨fg gn (v9 vs 0),intOf (v9 vs 1),intOf (v9 vs 2),intOf (v9 vs 3),intOf (v9 vs 5),intOf (v9 vs 6),dc (r9 rs 0)⟩
def xk:aU:=⟨[(0,⟨false,[.arr 48]⟩),(1,w9 i9),(2,w9 i9),(3,w9 i9),(4,⟨false,[.ref (.fn (.func 119) [] [.ptr 0 0])]⟩),(10,w9 i9),(11,w9 i9)],[(100004,[n9 111,n9 114,n9 197],1)],[]⟩
def Gk:=ur PG (iI PG [(75,cr)] [] (fun q=>Nat.beq q 48) false false [qR]) 9 9 215 28 (pd PG 215 28) xk
def gN (x:dS):=gd ⟨x.data,(ak (x.m - x.i)),x.m,x.j,x.iL⟩
def gP (x:dS):=gd ⟨x.data,(ak (x.m - x.i)),(ak ((ak (x.m+x.j)) - x.i)),x.i,x.iL⟩
def dU (x:dS):aK dS:=(cond (x.i != x.j) (cond (decide (x.i > x.j)) (cond (aR x.data.n) (cond ((gN x).by aE.aq.ret) (cond (ic (gN x).st.data.n x.data.n) (.next ⟨(gN x).st.data,x.a,x.m,x.b,(ak (x.i - x.j)),x.j,(gN x).st.held⟩) .fail) .fail) .fail) (cond (aR x.data.n) (cond ((gP x).by aE.aq.ret) (cond (ic (gP x).st.data.n x.data.n) (.next ⟨(gP x).st.data,x.a,x.m,x.b,x.i,(ak (x.j - x.i)),(gP x).st.held⟩) .fail) .fail) .fail)) (cond (aR x.data.n) (.out (aE.aq.exit 0) x) .fail))
theorem EI (x:dS):Gk (lX x) (lY x)=aK.enc lX lY (dU x):=by
 unfold dU aR
 try simp only [aK.bI]
 kernel_rfl
def xl:Lp:=⟨215,28,xk,fun vs rs=>cc lX lY (goN dU (v8 vs rs)) [aE.aq.exit 0],true⟩
theorem Gl:xl.Ok PG:=n8 funcs mixed (ao.cons bQ ao.nil) aJ.nil (L:=9) (n:=9) (step:=dU) (ev:=lX) (er:=lY) (pa:=v8) rfl (fun wv wr=>⟨by kernel_rfl,by kernel_rfl⟩) EI (Jj:=(gT.cons vu gT.nil))
def JG:=OB PG (iI PG [(75,cr)] [xl] (fun q=>Nat.beq q 48) false false [qR]) 9 9 215 zC
def bS (x:dv):=goN dU ⟨x.data,x.a,x.m,x.b,(ak (x.m - x.a)),(ak (x.b - x.m)),x.held⟩
def iv (x:dv):=gd ⟨(bS x).st.data,(ak ((bS x).st.m - (bS x).st.i)),(bS x).st.m,(bS x).st.i,(bS x).st.iL⟩
def mZ (x:dv):aK dv:=(cond (aR x.data.n) (cond ((bS x).by (aE.aq.exit 0)) (cond (aR (bS x).st.data.n) (cond ((iv x).by aE.aq.ret) (cond (ic (iv x).st.data.n (bS x).st.data.n) (.out aE.aq.ret ⟨(iv x).st.data,(bS x).st.a,(bS x).st.m,(bS x).st.b,(iv x).st.held⟩) .fail) .fail) .fail) .fail) .fail)
theorem Ho (x:dv):JG (og x) (oh x)=aK.enc og oh (mZ x):=by
 unfold mZ aR
 try simp only [aK.bI]
 kernel_rfl
def eS (x:dv):aK dv:=mZ x
def ga:Fc:=⟨215,zC,fun vs rs=>cc og oh (eS (yH vs rs)) [aE.aq.ret]⟩
theorem gz:ga.Ok PG:=IC funcs mixed (ao.cons bQ ao.nil) (ie Gl aJ.nil) (L:=9) (n:=9) (step:=eS) (ev:=og) (er:=oh) (pa:=yH) rfl (fun wv wr=>⟨by kernel_rfl,by kernel_rfl⟩) Ho (Jj:=(gT.cons vu gT.nil))
structure cv where
 data:(Sl aL)
 a:Int
 b:Int
 held:aH
instance:Inhabited cv:=⟨⟨default,default,default,default⟩⟩
def jS (x:cv):List KV:=[eZ 48 fH x.data,.int .i64 x.a,.int .i64 x.b,.fn (.func 119) [] [.ptr 0 0]]
def jT (x:cv):List (List KV):=[db x.held]
def tj (vs:List KV) (rs:List (List KV)):cv:=⟨fg gn (v9 vs 0),intOf (v9 vs 1),intOf (v9 vs 2),dc (r9 rs 0)⟩
def ud:aU:=⟨[(0,⟨false,[.arr 48]⟩),(1,w9 i9),(2,w9 i9),(3,⟨false,[.ref (.fn (.func 119) [] [.ptr 0 0])]⟩)],[(100003,[n9 111,n9 114,n9 197],1)],[]⟩
structure dg where
 data:(Sl aL)
 a:Int
 b:Int
 i:Int
 fZ:aH
instance:Inhabited dg:=⟨⟨default,default,default,default,default⟩⟩
def jj (x:dg):List KV:=[eZ 48 fH x.data,.int .i64 x.a,.int .i64 x.b,.fn (.func 119) [] [.ptr 0 0],.int .i64 x.i]
def jk (x:dg):List (List KV):=[db x.fZ]
def rX (vs:List KV) (rs:List (List KV)):dg:=⟨fg gn (v9 vs 0),intOf (v9 vs 1),intOf (v9 vs 2),intOf (v9 vs 4),dc (r9 rs 0)⟩
def sA:aU:=⟨[(0,⟨false,[.arr 48]⟩),(1,w9 i9),(2,w9 i9),(3,⟨false,[.ref (.fn (.func 119) [] [.ptr 0 0])]⟩),(8,w9 i9)],[(100003,[n9 111,n9 114,n9 197],1)],[]⟩
structure cN where
 data:(Sl aL)
 a:Int
 b:Int
 i:Int
 j:Int
 fZ:aH
instance:Inhabited cN:=⟨by constructor<;>exact default⟩
def iG (x:cN):List KV:=[eZ 48 fH x.data,.int .i64 x.a,.int .i64 x.b,.fn (.func 119) [] [.ptr 0 0],.int .i64 x.i,.int .i64 x.j]
def iH (x:cN):List (List KV):=[db x.fZ]
def ra (vs:List KV) (rs:List (List KV)):cN:=⟨fg gn (v9 vs 0),intOf (v9 vs 1),intOf (v9 vs 2),intOf (v9 vs 4),intOf (v9 vs 5),dc (r9 rs 0)⟩
def rF:aU:=⟨[(0,⟨false,[.arr 48]⟩),(1,w9 i9),(2,w9 i9),(3,⟨false,[.ref (.fn (.func 119) [] [.ptr 0 0])]⟩),(8,w9 i9),(9,w9 i9)],[(100003,[n9 111,n9 114,n9 197],1)],[]⟩
def zL:=ur PG (iI PG [(75,cr)] [] (fun q=>Nat.beq q 48)) 9 9 208 402 (pd PG 208 402) rF
def iq (x:cN):=fk (x.fZ.cQ.items.get (Int.toNat (x.data.get (0+(Int.toNat x.j))).item)).look.bin (x.fZ.cQ.items.get (Int.toNat (x.data.get (0+(Int.toNat (ak (x.j - 1))))).item)).look.bin
def cA (x:cN):aK cN:=(cond (decide (x.j > x.a)) (cond (bh x.j x.data.n) (cond (bh (ak (x.j - 1)) x.data.n) (cond (bh (x.data.get (0+(Int.toNat x.j))).item x.fZ.cQ.items.n) (cond (bh (x.data.get (0+(Int.toNat (ak (x.j - 1))))).item x.fZ.cQ.items.n) (cond (iq x).isSome (cond (decide (((iq x).getD default) < 0)) (cond (bh (ak (x.j - 1)) x.data.n) (cond (bh x.j x.data.n) (cond (bh x.j x.data.n) (cond (bh (ak (x.j - 1)) x.data.n) (cond (aR x.data.n) (.next ⟨((x.data.set (0+(Int.toNat x.j)) (x.data.get (0+(Int.toNat (ak (x.j - 1)))))).set (0+(Int.toNat (ak (x.j - 1)))) (x.data.get (0+(Int.toNat x.j)))),x.a,x.b,x.i,(ak (x.j - 1)),x.fZ⟩) .fail) .fail) .fail) .fail) .fail) (cond (aR x.data.n) (.out (aE.aq.exit 2) x) .fail)) .fail) .fail) .fail) .fail) .fail) (cond (aR x.data.n) (.out (aE.aq.exit 2) x) .fail))
theorem yI (x:cN):zL (iG x) (iH x)=aK.enc iG iH (cA x):=by
 unfold cA bh aR
 try simp only [aK.bI,WR,WQ]
 kernel_rfl
def mD:Lp:=⟨208,402,rF,fun vs rs=>cc iG iH (goN cA (ra vs rs)) [aE.aq.exit 2],true⟩
theorem rb:mD.Ok PG:=n8 funcs mixed (ao.cons bQ ao.nil) aJ.nil (L:=9) (n:=9) (step:=cA) (ev:=iG) (er:=iH) (pa:=ra) rfl (fun wv wr=>⟨by kernel_rfl,by kernel_rfl⟩) yI
def BG:=ur PG (iI PG [(75,cr)] [mD] (fun q=>Nat.beq q 48)) 9 9 208 6 (pd PG 208 6) sA
def ct (x:dg):=goN cA ⟨x.data,x.a,x.b,x.i,x.i,x.fZ⟩
def cF (x:dg):aK dg:=(cond (decide (x.i < x.b)) (cond (aR x.data.n) (cond ((ct x).by (aE.aq.exit 2)) (cond (aR (ct x).st.data.n) (.next ⟨(ct x).st.data,(ct x).st.a,(ct x).st.b,(ak ((ct x).st.i+1)),(ct x).st.fZ⟩) .fail) .fail) .fail) (cond (aR x.data.n) (.out (aE.aq.exit 0) x) .fail))
theorem zM (x:dg):BG (jj x) (jk x)=aK.enc jj jk (cF x):=by
 unfold cF aR
 try simp only [aK.bI]
 kernel_rfl
def sB:Lp:=⟨208,6,sA,fun vs rs=>cc jj jk (goN cF (rX vs rs)) [aE.aq.exit 0],true⟩
theorem BH:sB.Ok PG:=n8 funcs mixed (ao.cons bQ ao.nil) (ie rb aJ.nil) (L:=9) (n:=9) (step:=cF) (ev:=jj) (er:=jk) (pa:=rX) rfl (fun wv wr=>⟨by kernel_rfl,by kernel_rfl⟩) zM
def C4:=OB PG (iI PG [(75,cr)] [mD,sB] (fun q=>Nat.beq q 48)) 9 9 208 ud
def dh (x:cv):=goN cF ⟨x.data,x.a,x.b,(ak (x.a+1)),x.held⟩
def jl (x:cv):aK cv:=(cond (aR x.data.n) (cond ((dh x).by (aE.aq.exit 0)) (cond (aR (dh x).st.data.n) (.out aE.aq.ret ⟨(dh x).st.data,(dh x).st.a,(dh x).st.b,(dh x).st.fZ⟩) .fail) .fail) .fail)
theorem BI (x:cv):C4 (jS x) (jT x)=aK.enc jS jT (jl x):=by
 unfold jl aR
 try simp only [aK.bI]
 kernel_rfl
def gf (x:cv):aK cv:=jl x
def ik:Fc:=⟨208,ud,fun vs rs=>cc jS jT (gf (tj vs rs)) [aE.aq.ret]⟩
theorem jx:ik.Ok PG:=IC funcs mixed (ao.cons bQ ao.nil) (ie rb (ie BH aJ.nil)) (L:=9) (n:=9) (step:=gf) (ev:=jS) (er:=jT) (pa:=tj) rfl (fun wv wr=>⟨by kernel_rfl,by kernel_rfl⟩) BI
structure aa where
 data:(Sl aL)
 a:Int
 m:Int
 b:Int
 held:aH
instance:Inhabited aa:=⟨⟨default,default,default,default,default⟩⟩
def jF (x:aa):List KV:=[eZ 48 fH x.data,.int .i64 x.a,.int .i64 x.m,.int .i64 x.b,.fn (.func 119) [] [.ptr 0 0]]
def jG (x:aa):List (List KV):=[db x.held]
def qS (vs:List KV) (rs:List (List KV)):aa:=⟨fg gn (v9 vs 0),intOf (v9 vs 1),intOf (v9 vs 2),intOf (v9 vs 3),dc (r9 rs 0)⟩
def rG:aU:=⟨[(0,⟨false,[.arr 48]⟩),(1,w9 i9),(2,w9 i9),(3,w9 i9),(4,⟨false,[.ref (.fn (.func 119) [] [.ptr 0 0])]⟩)],[(100004,[n9 111,n9 114,n9 197],1)],[]⟩
structure dV where
 data:(Sl aL)
 a:Int
 m:Int
 b:Int
 i:Int
 j:Int
 iL:aH
instance:Inhabited dV:=⟨by constructor<;>exact default⟩
def kA (x:dV):List KV:=[eZ 48 fH x.data,.int .i64 x.a,.int .i64 x.m,.int .i64 x.b,.fn (.func 119) [] [.ptr 0 0],.int .i64 x.i,.int .i64 x.j]
def kC (x:dV):List (List KV):=[db x.iL]
def ue (vs:List KV) (rs:List (List KV)):dV:=⟨fg gn (v9 vs 0),intOf (v9 vs 1),intOf (v9 vs 2),intOf (v9 vs 3),intOf (v9 vs 5),intOf (v9 vs 6),dc (r9 rs 0)⟩
def uz:aU:=⟨[(0,⟨false,[.arr 48]⟩),(1,w9 i9),(2,w9 i9),(3,w9 i9),(4,⟨false,[.ref (.fn (.func 119) [] [.ptr 0 0])]⟩),(10,w9 i9),(11,w9 i9)],[(100004,[n9 111,n9 114,n9 197],1)],[]⟩
def D4:=ur PG (iI PG [(75,cr)] [] (fun q=>Nat.beq q 48) false false [ga]) 9 9 209 172 (pd PG 209 172) uz
def jU (x:dV):=fk (x.iL.cQ.items.get (Int.toNat (x.data.get (0+(Int.toNat (ak (Int.fdiv (uw (ak (x.i+x.j))) 2))))).item)).look.bin (x.iL.cQ.items.get (Int.toNat (x.data.get (0+(Int.toNat x.a))).item)).look.bin
def di (x:dV):aK dV:=(cond (decide (x.i < x.j)) (cond (bh (ak (Int.fdiv (uw (ak (x.i+x.j))) 2)) x.data.n) (cond (bh x.a x.data.n) (cond (bh (x.data.get (0+(Int.toNat (ak (Int.fdiv (uw (ak (x.i+x.j))) 2))))).item x.iL.cQ.items.n) (cond (bh (x.data.get (0+(Int.toNat x.a))).item x.iL.cQ.items.n) (cond (jU x).isSome (cond (decide (((jU x).getD default) < 0)) (cond (aR x.data.n) (.next ⟨x.data,x.a,x.m,x.b,(ak ((ak (Int.fdiv (uw (ak (x.i+x.j))) 2))+1)),x.j,x.iL⟩) .fail) (cond (aR x.data.n) (.next ⟨x.data,x.a,x.m,x.b,x.i,(ak (Int.fdiv (uw (ak (x.i+x.j))) 2)),x.iL⟩) .fail)) .fail) .fail) .fail) .fail) .fail) (cond (aR x.data.n) (.out (aE.aq.exit 0) x) .fail))
theorem Cy (x:dV):D4 (kA x) (kC x)=aK.enc kA kC (di x):=by
 unfold di bh aR
 try simp only [aK.bI]
 kernel_rfl
def eV:Lp:=⟨209,172,uz,fun vs rs=>cc kA kC (goN di (ue vs rs)) [aE.aq.exit 0],true⟩
theorem gg:eV.Ok PG:=n8 funcs mixed (ao.cons bQ ao.nil) aJ.nil (L:=9) (n:=9) (step:=di) (ev:=kA) (er:=kC) (pa:=ue) rfl (fun wv wr=>⟨by kernel_rfl,by kernel_rfl⟩) Cy (Jj:=(gT.cons gz gT.nil))
structure dW where
 data:(Sl aL)
 a:Int
 m:Int
 b:Int
 i:Int
 j:Int
 iL:aH
instance:Inhabited dW:=⟨by constructor<;>exact default⟩
def kD (x:dW):List KV:=[eZ 48 fH x.data,.int .i64 x.a,.int .i64 x.m,.int .i64 x.b,.fn (.func 119) [] [.ptr 0 0],.int .i64 x.i,.int .i64 x.j]
def kE (x:dW):List (List KV):=[db x.iL]
def uf (vs:List KV) (rs:List (List KV)):dW:=⟨fg gn (v9 vs 0),intOf (v9 vs 1),intOf (v9 vs 2),intOf (v9 vs 3),intOf (v9 vs 5),intOf (v9 vs 6),dc (r9 rs 0)⟩
def uA:aU:=⟨[(0,⟨false,[.arr 48]⟩),(1,w9 i9),(2,w9 i9),(3,w9 i9),(4,⟨false,[.ref (.fn (.func 119) [] [.ptr 0 0])]⟩),(14,w9 i9),(15,w9 i9)],[(100004,[n9 111,n9 114,n9 197],1)],[]⟩
def D5:=ur PG (iI PG [(75,cr)] [eV] (fun q=>Nat.beq q 48) false false [ga]) 9 9 209 428 (pd PG 209 428) uA
def jV (x:dW):=fk (x.iL.cQ.items.get (Int.toNat (x.data.get (0+(Int.toNat x.m))).item)).look.bin (x.iL.cQ.items.get (Int.toNat (x.data.get (0+(Int.toNat (ak (Int.fdiv (uw (ak (x.i+x.j))) 2))))).item)).look.bin
def dj (x:dW):aK dW:=(cond (decide (x.i < x.j)) (cond (bh x.m x.data.n) (cond (bh (ak (Int.fdiv (uw (ak (x.i+x.j))) 2)) x.data.n) (cond (bh (x.data.get (0+(Int.toNat x.m))).item x.iL.cQ.items.n) (cond (bh (x.data.get (0+(Int.toNat (ak (Int.fdiv (uw (ak (x.i+x.j))) 2))))).item x.iL.cQ.items.n) (cond (jV x).isSome (cond (!(decide (((jV x).getD default) < 0))) (cond (aR x.data.n) (.next ⟨x.data,x.a,x.m,x.b,(ak ((ak (Int.fdiv (uw (ak (x.i+x.j))) 2))+1)),x.j,x.iL⟩) .fail) (cond (aR x.data.n) (.next ⟨x.data,x.a,x.m,x.b,x.i,(ak (Int.fdiv (uw (ak (x.i+x.j))) 2)),x.iL⟩) .fail)) .fail) .fail) .fail) .fail) .fail) (cond (aR x.data.n) (.out (aE.aq.exit 4) x) .fail))
theorem Cz (x:dW):D5 (kD x) (kE x)=aK.enc kD kE (dj x):=by
 unfold dj bh aR
 try simp only [aK.bI]
 kernel_rfl
def gu:Lp:=⟨209,428,uA,fun vs rs=>cc kD kE (goN dj (uf vs rs)) [aE.aq.exit 4],true⟩
theorem il:gu.Ok PG:=n8 funcs mixed (ao.cons bQ ao.nil) (ie gg aJ.nil) (L:=9) (n:=9) (step:=dj) (ev:=kD) (er:=kE) (pa:=uf) rfl (fun wv wr=>⟨by kernel_rfl,by kernel_rfl⟩) Cz (Jj:=(gT.cons gz gT.nil))
structure eW where
 data:(Sl aL)
 a:Int
 m:Int
 b:Int
 i:Int
 k:Int
 iL:aH
instance:Inhabited eW:=⟨by constructor<;>exact default⟩
def kF (x:eW):List KV:=[eZ 48 fH x.data,.int .i64 x.a,.int .i64 x.m,.int .i64 x.b,.fn (.func 119) [] [.ptr 0 0],.int .i64 x.i,.int .i64 x.k]
def kG (x:eW):List (List KV):=[db x.iL]
def ug (vs:List KV) (rs:List (List KV)):eW:=⟨fg gn (v9 vs 0),intOf (v9 vs 1),intOf (v9 vs 2),intOf (v9 vs 3),intOf (v9 vs 5),intOf (v9 vs 6),dc (r9 rs 0)⟩
def uB:aU:=⟨[(0,⟨false,[.arr 48]⟩),(1,w9 i9),(2,w9 i9),(3,w9 i9),(4,⟨false,[.ref (.fn (.func 119) [] [.ptr 0 0])]⟩),(10,w9 i9),(13,w9 i9)],[(100004,[n9 111,n9 114,n9 197],1)],[]⟩
def D6:=ur PG (iI PG [(75,cr)] [eV,gu] (fun q=>Nat.beq q 48) false false [ga]) 9 9 209 698 (pd PG 209 698) uB
def dk (x:eW):aK eW:=(cond (decide (x.k < (ak (x.i - 1)))) (cond (bh (ak (x.k+1)) x.data.n) (cond (bh x.k x.data.n) (cond (bh x.k x.data.n) (cond (bh (ak (x.k+1)) x.data.n) (cond (aR x.data.n) (.next ⟨((x.data.set (0+(Int.toNat x.k)) (x.data.get (0+(Int.toNat (ak (x.k+1)))))).set (0+(Int.toNat (ak (x.k+1)))) (x.data.get (0+(Int.toNat x.k)))),x.a,x.m,x.b,x.i,(ak (x.k+1)),x.iL⟩) .fail) .fail) .fail) .fail) .fail) (cond (aR x.data.n) (.out (aE.aq.exit 2) x) .fail))
theorem CA (x:eW):D6 (kF x) (kG x)=aK.enc kF kG (dk x):=by
 unfold dk bh aR
 try simp only [aK.bI,WR,WQ]
 kernel_rfl
def iE:Lp:=⟨209,698,uB,fun vs rs=>cc kF kG (goN dk (ug vs rs)) [aE.aq.exit 2],true⟩
theorem kH:iE.Ok PG:=n8 funcs mixed (ao.cons bQ ao.nil) (ie gg (ie il aJ.nil)) (L:=9) (n:=9) (step:=dk) (ev:=kF) (er:=kG) (pa:=ug) rfl (fun wv wr=>⟨by kernel_rfl,by kernel_rfl⟩) CA (Jj:=(gT.cons gz gT.nil))
structure cg where
 data:(Sl aL)
 a:Int
 m:Int
 b:Int
 cI:Int
 n:Int
 start:Int
 r:Int
 p:Int
 iL:aH
instance:Inhabited cg:=⟨by constructor<;>exact default⟩
def jW (x:cg):List KV:=[eZ 48 fH x.data,.int .i64 x.a,.int .i64 x.m,.int .i64 x.b,.fn (.func 119) [] [.ptr 0 0],.int .i64 x.cI,.int .i64 x.n,.int .i64 x.start,.int .i64 x.r,.int .i64 x.p]
def jX (x:cg):List (List KV):=[db x.iL]
def tl (vs:List KV) (rs:List (List KV)):cg:=⟨fg gn (v9 vs 0),intOf (v9 vs 1),intOf (v9 vs 2),intOf (v9 vs 3),intOf (v9 vs 5),intOf (v9 vs 6),intOf (v9 vs 7),intOf (v9 vs 8),intOf (v9 vs 9),dc (r9 rs 0)⟩
def uh:aU:=⟨[(0,⟨false,[.arr 48]⟩),(1,w9 i9),(2,w9 i9),(3,w9 i9),(4,⟨false,[.ref (.fn (.func 119) [] [.ptr 0 0])]⟩),(18,w9 i9),(19,w9 i9),(20,w9 i9),(21,w9 i9),(22,w9 i9)],[(100004,[n9 111,n9 114,n9 197],1)],[]⟩
def C5:=ur PG (iI PG [(75,cr)] [eV,gu,iE] (fun q=>Nat.beq q 48) false false [ga]) 9 9 209 1020 (pd PG 209 1020) uh
def jy (x:cg):=fk (x.iL.cQ.items.get (Int.toNat (x.data.get (0+(Int.toNat (ak (x.p - (ak (Int.fdiv (uw (ak (x.start+x.r))) 2))))))).item)).look.bin (x.iL.cQ.items.get (Int.toNat (x.data.get (0+(Int.toNat (ak (Int.fdiv (uw (ak (x.start+x.r))) 2))))).item)).look.bin
def cC (x:cg):aK cg:=(cond (decide (x.start < x.r)) (cond (bh (ak (x.p - (ak (Int.fdiv (uw (ak (x.start+x.r))) 2)))) x.data.n) (cond (bh (ak (Int.fdiv (uw (ak (x.start+x.r))) 2)) x.data.n) (cond (bh (x.data.get (0+(Int.toNat (ak (x.p - (ak (Int.fdiv (uw (ak (x.start+x.r))) 2))))))).item x.iL.cQ.items.n) (cond (bh (x.data.get (0+(Int.toNat (ak (Int.fdiv (uw (ak (x.start+x.r))) 2))))).item x.iL.cQ.items.n) (cond (jy x).isSome (cond (!(decide (((jy x).getD default) < 0))) (cond (aR x.data.n) (.next ⟨x.data,x.a,x.m,x.b,x.cI,x.n,(ak ((ak (Int.fdiv (uw (ak (x.start+x.r))) 2))+1)),x.r,x.p,x.iL⟩) .fail) (cond (aR x.data.n) (.next ⟨x.data,x.a,x.m,x.b,x.cI,x.n,x.start,(ak (Int.fdiv (uw (ak (x.start+x.r))) 2)),x.p,x.iL⟩) .fail)) .fail) .fail) .fail) .fail) .fail) (cond (aR x.data.n) (.out (aE.aq.exit 8) x) .fail))
theorem BJ (x:cg):C5 (jW x) (jX x)=aK.enc jW jX (cC x):=by
 unfold cC bh aR
 try simp only [aK.bI]
 kernel_rfl
def kJ:Lp:=⟨209,1020,uh,fun vs rs=>cc jW jX (goN cC (tl vs rs)) [aE.aq.exit 8],true⟩
theorem nU:kJ.Ok PG:=n8 funcs mixed (ao.cons bQ ao.nil) (ie gg (ie il (ie kH aJ.nil))) (L:=9) (n:=9) (step:=cC) (ev:=jW) (er:=jX) (pa:=tl) rfl (fun wv wr=>⟨by kernel_rfl,by kernel_rfl⟩) BJ (Jj:=(gT.cons gz gT.nil))
structure eM where
 data:(Sl aL)
 a:Int
 m:Int
 b:Int
 i:Int
 k:Int
 iL:aH
instance:Inhabited eM:=⟨by constructor<;>exact default⟩
def jY (x:eM):List KV:=[eZ 48 fH x.data,.int .i64 x.a,.int .i64 x.m,.int .i64 x.b,.fn (.func 119) [] [.ptr 0 0],.int .i64 x.i,.int .i64 x.k]
def jZ (x:eM):List (List KV):=[db x.iL]
def tq (vs:List KV) (rs:List (List KV)):eM:=⟨fg gn (v9 vs 0),intOf (v9 vs 1),intOf (v9 vs 2),intOf (v9 vs 3),intOf (v9 vs 5),intOf (v9 vs 6),dc (r9 rs 0)⟩
def ui:aU:=⟨[(0,⟨false,[.arr 48]⟩),(1,w9 i9),(2,w9 i9),(3,w9 i9),(4,⟨false,[.ref (.fn (.func 119) [] [.ptr 0 0])]⟩),(14,w9 i9),(17,w9 i9)],[(100004,[n9 111,n9 114,n9 197],1)],[]⟩
def C6:=ur PG (iI PG [(75,cr)] [eV,gu,iE,kJ] (fun q=>Nat.beq q 48) false false [ga]) 9 9 209 1722 (pd PG 209 1722) ui
def cV (x:eM):aK eM:=(cond (decide (x.k > x.i)) (cond (bh (ak (x.k - 1)) x.data.n) (cond (bh x.k x.data.n) (cond (bh x.k x.data.n) (cond (bh (ak (x.k - 1)) x.data.n) (cond (aR x.data.n) (.next ⟨((x.data.set (0+(Int.toNat x.k)) (x.data.get (0+(Int.toNat (ak (x.k - 1)))))).set (0+(Int.toNat (ak (x.k - 1)))) (x.data.get (0+(Int.toNat x.k)))),x.a,x.m,x.b,x.i,(ak (x.k - 1)),x.iL⟩) .fail) .fail) .fail) .fail) .fail) (cond (aR x.data.n) (.out (aE.aq.exit 6) x) .fail))
theorem BL (x:eM):C6 (jY x) (jZ x)=aK.enc jY jZ (cV x):=by
 unfold cV bh aR
 try simp only [aK.bI,WR,WQ]
 kernel_rfl
def oB:Lp:=⟨209,1722,ui,fun vs rs=>cc jY jZ (goN cV (tq vs rs)) [aE.aq.exit 6],true⟩
theorem tr:oB.Ok PG:=n8 funcs mixed (ao.cons bQ ao.nil) (ie gg (ie il (ie kH (ie nU aJ.nil)))) (L:=9) (n:=9) (step:=cV) (ev:=jY) (er:=jZ) (pa:=tq) rfl (fun wv wr=>⟨by kernel_rfl,by kernel_rfl⟩) BL (Jj:=(gT.cons gz gT.nil))
def Hp (rc:aa->aK aa):=OB PG (iI PG [(75,cr)] [eV,gu,iE,kJ,oB] (fun q=>Nat.beq q 48) false false ((⟨209,rG,fun vs rs=>cc jF jG (rc (qS vs rs)) [aE.aq.ret]⟩:Fc)::[ga])) 9 9 209 rG
def cS (rc:aa->aK aa) (x:aa):=goN di ⟨x.data,x.a,x.m,x.b,x.m,x.b,x.held⟩
def dG (rc:aa->aK aa) (x:aa):=goN dk ⟨(cS rc x).st.data,(cS rc x).st.a,(cS rc x).st.m,(cS rc x).st.b,(cS rc x).st.i,(cS rc x).st.a,(cS rc x).st.iL⟩
def cT (rc:aa->aK aa) (x:aa):=goN dj ⟨x.data,x.a,x.m,x.b,x.a,x.m,x.held⟩
def dH (rc:aa->aK aa) (x:aa):=goN cV ⟨(cT rc x).st.data,(cT rc x).st.a,(cT rc x).st.m,(cT rc x).st.b,(cT rc x).st.i,(cT rc x).st.m,(cT rc x).st.iL⟩
def ah (rc:aa->aK aa) (x:aa):=goN cC ⟨x.data,x.a,x.m,x.b,(ak (Int.fdiv (uw (ak (x.a+x.b))) 2)),(ak ((ak (Int.fdiv (uw (ak (x.a+x.b))) 2))+x.m)),(ak ((ak ((ak (Int.fdiv (uw (ak (x.a+x.b))) 2))+x.m)) - x.b)),(ak (Int.fdiv (uw (ak (x.a+x.b))) 2)),(ak ((ak ((ak (Int.fdiv (uw (ak (x.a+x.b))) 2))+x.m)) - 1)),x.held⟩
def cU (rc:aa->aK aa) (x:aa):=eS ⟨(ah rc x).st.data,(ah rc x).st.start,(ah rc x).st.m,(ak ((ah rc x).st.n - (ah rc x).st.start)),(ah rc x).st.iL⟩
def fI (rc:aa->aK aa) (x:aa):=rc ⟨(cU rc x).st.data,(ah rc x).st.a,(ah rc x).st.start,(ah rc x).st.cI,(cU rc x).st.held⟩
def lZ (rc:aa->aK aa) (x:aa):=rc ⟨(fI rc x).st.data,(ah rc x).st.cI,(ak ((ah rc x).st.n - (ah rc x).st.start)),(ah rc x).st.b,(fI rc x).st.held⟩
def l7 (rc:aa->aK aa) (x:aa):=rc ⟨(cU rc x).st.data,(ah rc x).st.cI,(ak ((ah rc x).st.n - (ah rc x).st.start)),(ah rc x).st.b,(cU rc x).st.held⟩
def fJ (rc:aa->aK aa) (x:aa):=rc ⟨(ah rc x).st.data,(ah rc x).st.a,(ah rc x).st.start,(ah rc x).st.cI,(ah rc x).st.iL⟩
def lG (rc:aa->aK aa) (x:aa):=rc ⟨(fJ rc x).st.data,(ah rc x).st.cI,(ak ((ah rc x).st.n - (ah rc x).st.start)),(ah rc x).st.b,(fJ rc x).st.held⟩
def lH (rc:aa->aK aa) (x:aa):=rc ⟨(ah rc x).st.data,(ah rc x).st.cI,(ak ((ah rc x).st.n - (ah rc x).st.start)),(ah rc x).st.b,(ah rc x).st.iL⟩
def ae (rc:aa->aK aa) (x:aa):=goN cC ⟨x.data,x.a,x.m,x.b,(ak (Int.fdiv (uw (ak (x.a+x.b))) 2)),(ak ((ak (Int.fdiv (uw (ak (x.a+x.b))) 2))+x.m)),x.a,x.m,(ak ((ak ((ak (Int.fdiv (uw (ak (x.a+x.b))) 2))+x.m)) - 1)),x.held⟩
def cH (rc:aa->aK aa) (x:aa):=eS ⟨(ae rc x).st.data,(ae rc x).st.start,(ae rc x).st.m,(ak ((ae rc x).st.n - (ae rc x).st.start)),(ae rc x).st.iL⟩
def fp (rc:aa->aK aa) (x:aa):=rc ⟨(cH rc x).st.data,(ae rc x).st.a,(ae rc x).st.start,(ae rc x).st.cI,(cH rc x).st.held⟩
def lI (rc:aa->aK aa) (x:aa):=rc ⟨(fp rc x).st.data,(ae rc x).st.cI,(ak ((ae rc x).st.n - (ae rc x).st.start)),(ae rc x).st.b,(fp rc x).st.held⟩
def lJ (rc:aa->aK aa) (x:aa):=rc ⟨(cH rc x).st.data,(ae rc x).st.cI,(ak ((ae rc x).st.n - (ae rc x).st.start)),(ae rc x).st.b,(cH rc x).st.held⟩
def fq (rc:aa->aK aa) (x:aa):=rc ⟨(ae rc x).st.data,(ae rc x).st.a,(ae rc x).st.start,(ae rc x).st.cI,(ae rc x).st.iL⟩
def lK (rc:aa->aK aa) (x:aa):=rc ⟨(fq rc x).st.data,(ae rc x).st.cI,(ak ((ae rc x).st.n - (ae rc x).st.start)),(ae rc x).st.b,(fq rc x).st.held⟩
def lL (rc:aa->aK aa) (x:aa):=rc ⟨(ae rc x).st.data,(ae rc x).st.cI,(ak ((ae rc x).st.n - (ae rc x).st.start)),(ae rc x).st.b,(ae rc x).st.iL⟩
def fy (rc:aa->aK aa) (x:aa):aK aa:=(cond (ic (fI rc x).st.data.n (ah rc x).st.data.n) (.out aE.aq.ret ⟨(fI rc x).st.data,(ah rc x).st.a,(ah rc x).st.m,(ah rc x).st.b,(fI rc x).st.held⟩) .fail)
def fA (rc:aa->aK aa) (x:aa):aK aa:=(cond (ic (cU rc x).st.data.n (ah rc x).st.data.n) (.out aE.aq.ret ⟨(cU rc x).st.data,(ah rc x).st.a,(ah rc x).st.m,(ah rc x).st.b,(cU rc x).st.held⟩) .fail)
def fB (rc:aa->aK aa) (x:aa):aK aa:=(cond (decide ((ah rc x).st.cI < (ak ((ah rc x).st.n - (ah rc x).st.start)))) (cond (decide ((ak ((ah rc x).st.n - (ah rc x).st.start)) < (ah rc x).st.b)) (cond (ic (cU rc x).st.data.n (ah rc x).st.data.n) (cond ((l7 rc x).by aE.aq.ret) (cond (ic (l7 rc x).st.data.n (ah rc x).st.data.n) (.out aE.aq.ret ⟨(l7 rc x).st.data,(ah rc x).st.a,(ah rc x).st.m,(ah rc x).st.b,(l7 rc x).st.held⟩) .fail) .fail) .fail)
  (fA rc x))
  (fA rc x))
def fC (rc:aa->aK aa) (x:aa):aK aa:=(cond (ic (fJ rc x).st.data.n (ah rc x).st.data.n) (.out aE.aq.ret ⟨(fJ rc x).st.data,(ah rc x).st.a,(ah rc x).st.m,(ah rc x).st.b,(fJ rc x).st.held⟩) .fail)
def fL (rc:aa->aK aa) (x:aa):aK aa:=(cond (aR (ah rc x).st.data.n) (.out aE.aq.ret ⟨(ah rc x).st.data,(ah rc x).st.a,(ah rc x).st.m,(ah rc x).st.b,(ah rc x).st.iL⟩) .fail)
def fM (rc:aa->aK aa) (x:aa):aK aa:=(cond (decide ((ah rc x).st.cI < (ak ((ah rc x).st.n - (ah rc x).st.start)))) (cond (decide ((ak ((ah rc x).st.n - (ah rc x).st.start)) < (ah rc x).st.b)) (cond (aR (ah rc x).st.data.n) (cond ((lH rc x).by aE.aq.ret) (cond (ic (lH rc x).st.data.n (ah rc x).st.data.n) (.out aE.aq.ret ⟨(lH rc x).st.data,(ah rc x).st.a,(ah rc x).st.m,(ah rc x).st.b,(lH rc x).st.held⟩) .fail) .fail) .fail)
  (fL rc x))
  (fL rc x))
def fN (rc:aa->aK aa) (x:aa):aK aa:=(cond (decide ((ah rc x).st.a < (ah rc x).st.start)) (cond (decide ((ah rc x).st.start < (ah rc x).st.cI)) (cond (aR (ah rc x).st.data.n) (cond ((fJ rc x).by aE.aq.ret) (cond (decide ((ah rc x).st.cI < (ak ((ah rc x).st.n - (ah rc x).st.start)))) (cond (decide ((ak ((ah rc x).st.n - (ah rc x).st.start)) < (ah rc x).st.b)) (cond (ic (fJ rc x).st.data.n (ah rc x).st.data.n) (cond ((lG rc x).by aE.aq.ret) (cond (ic (lG rc x).st.data.n (ah rc x).st.data.n) (.out aE.aq.ret ⟨(lG rc x).st.data,(ah rc x).st.a,(ah rc x).st.m,(ah rc x).st.b,(lG rc x).st.held⟩) .fail) .fail) .fail)
    (fC rc x))
    (fC rc x)) .fail) .fail)
  (fM rc x))
  (fM rc x))
def fO (rc:aa->aK aa) (x:aa):aK aa:=(cond (ic (fp rc x).st.data.n (ae rc x).st.data.n) (.out aE.aq.ret ⟨(fp rc x).st.data,(ae rc x).st.a,(ae rc x).st.m,(ae rc x).st.b,(fp rc x).st.held⟩) .fail)
def fP (rc:aa->aK aa) (x:aa):aK aa:=(cond (ic (cH rc x).st.data.n (ae rc x).st.data.n) (.out aE.aq.ret ⟨(cH rc x).st.data,(ae rc x).st.a,(ae rc x).st.m,(ae rc x).st.b,(cH rc x).st.held⟩) .fail)
def fQ (rc:aa->aK aa) (x:aa):aK aa:=(cond (decide ((ae rc x).st.cI < (ak ((ae rc x).st.n - (ae rc x).st.start)))) (cond (decide ((ak ((ae rc x).st.n - (ae rc x).st.start)) < (ae rc x).st.b)) (cond (ic (cH rc x).st.data.n (ae rc x).st.data.n) (cond ((lJ rc x).by aE.aq.ret) (cond (ic (lJ rc x).st.data.n (ae rc x).st.data.n) (.out aE.aq.ret ⟨(lJ rc x).st.data,(ae rc x).st.a,(ae rc x).st.m,(ae rc x).st.b,(lJ rc x).st.held⟩) .fail) .fail) .fail)
  (fP rc x))
  (fP rc x))
def fR (rc:aa->aK aa) (x:aa):aK aa:=(cond (ic (fq rc x).st.data.n (ae rc x).st.data.n) (.out aE.aq.ret ⟨(fq rc x).st.data,(ae rc x).st.a,(ae rc x).st.m,(ae rc x).st.b,(fq rc x).st.held⟩) .fail)
def fS (rc:aa->aK aa) (x:aa):aK aa:=(cond (aR (ae rc x).st.data.n) (.out aE.aq.ret ⟨(ae rc x).st.data,(ae rc x).st.a,(ae rc x).st.m,(ae rc x).st.b,(ae rc x).st.iL⟩) .fail)
def fT (rc:aa->aK aa) (x:aa):aK aa:=(cond (decide ((ae rc x).st.cI < (ak ((ae rc x).st.n - (ae rc x).st.start)))) (cond (decide ((ak ((ae rc x).st.n - (ae rc x).st.start)) < (ae rc x).st.b)) (cond (aR (ae rc x).st.data.n) (cond ((lL rc x).by aE.aq.ret) (cond (ic (lL rc x).st.data.n (ae rc x).st.data.n) (.out aE.aq.ret ⟨(lL rc x).st.data,(ae rc x).st.a,(ae rc x).st.m,(ae rc x).st.b,(lL rc x).st.held⟩) .fail) .fail) .fail)
  (fS rc x))
  (fS rc x))
def fU (rc:aa->aK aa) (x:aa):aK aa:=(cond (decide ((ae rc x).st.a < (ae rc x).st.start)) (cond (decide ((ae rc x).st.start < (ae rc x).st.cI)) (cond (aR (ae rc x).st.data.n) (cond ((fq rc x).by aE.aq.ret) (cond (decide ((ae rc x).st.cI < (ak ((ae rc x).st.n - (ae rc x).st.start)))) (cond (decide ((ak ((ae rc x).st.n - (ae rc x).st.start)) < (ae rc x).st.b)) (cond (ic (fq rc x).st.data.n (ae rc x).st.data.n) (cond ((lK rc x).by aE.aq.ret) (cond (ic (lK rc x).st.data.n (ae rc x).st.data.n) (.out aE.aq.ret ⟨(lK rc x).st.data,(ae rc x).st.a,(ae rc x).st.m,(ae rc x).st.b,(lK rc x).st.held⟩) .fail) .fail) .fail)
    (fR rc x))
    (fR rc x)) .fail) .fail)
  (fT rc x))
  (fT rc x))
def eo (rc:aa->aK aa) (x:aa):aK aa:=(cond ((ak (x.m - x.a))==1) (cond (aR x.data.n) (cond ((cS rc x).by (aE.aq.exit 0)) (cond (aR (cS rc x).st.data.n) (cond ((dG rc x).by (aE.aq.exit 2)) (cond (aR (dG rc x).st.data.n) (.out aE.aq.ret ⟨(dG rc x).st.data,(dG rc x).st.a,(dG rc x).st.m,(dG rc x).st.b,(dG rc x).st.iL⟩) .fail) .fail) .fail) .fail) .fail) (cond ((ak (x.b - x.m))==1) (cond (aR x.data.n) (cond ((cT rc x).by (aE.aq.exit 4)) (cond (aR (cT rc x).st.data.n) (cond ((dH rc x).by (aE.aq.exit 6)) (cond (aR (dH rc x).st.data.n) (.out aE.aq.ret ⟨(dH rc x).st.data,(dH rc x).st.a,(dH rc x).st.m,(dH rc x).st.b,(dH rc x).st.iL⟩) .fail) .fail) .fail) .fail) .fail) (cond (decide (x.m > (ak (Int.fdiv (uw (ak (x.a+x.b))) 2)))) (cond (aR x.data.n) (cond ((ah rc x).by (aE.aq.exit 8)) (cond (decide ((ah rc x).st.start < (ah rc x).st.m)) (cond (decide ((ah rc x).st.m < (ak ((ah rc x).st.n - (ah rc x).st.start)))) (cond (aR (ah rc x).st.data.n) (cond ((cU rc x).by aE.aq.ret) (cond (decide ((ah rc x).st.a < (ah rc x).st.start)) (cond (decide ((ah rc x).st.start < (ah rc x).st.cI)) (cond (ic (cU rc x).st.data.n (ah rc x).st.data.n) (cond ((fI rc x).by aE.aq.ret) (cond (decide ((ah rc x).st.cI < (ak ((ah rc x).st.n - (ah rc x).st.start)))) (cond (decide ((ak ((ah rc x).st.n - (ah rc x).st.start)) < (ah rc x).st.b)) (cond (ic (fI rc x).st.data.n (ah rc x).st.data.n) (cond ((lZ rc x).by aE.aq.ret) (cond (ic (lZ rc x).st.data.n (ah rc x).st.data.n) (.out aE.aq.ret ⟨(lZ rc x).st.data,(ah rc x).st.a,(ah rc x).st.m,(ah rc x).st.b,(lZ rc x).st.held⟩) .fail) .fail) .fail)
         (fy rc x))
        (fy rc x)) .fail) .fail)
       (fB rc x))
      (fB rc x)) .fail) .fail)
     (fN rc x))
    (fN rc x)) .fail) .fail) (cond (aR x.data.n) (cond ((ae rc x).by (aE.aq.exit 8)) (cond (decide ((ae rc x).st.start < (ae rc x).st.m)) (cond (decide ((ae rc x).st.m < (ak ((ae rc x).st.n - (ae rc x).st.start)))) (cond (aR (ae rc x).st.data.n) (cond ((cH rc x).by aE.aq.ret) (cond (decide ((ae rc x).st.a < (ae rc x).st.start)) (cond (decide ((ae rc x).st.start < (ae rc x).st.cI)) (cond (ic (cH rc x).st.data.n (ae rc x).st.data.n) (cond ((fp rc x).by aE.aq.ret) (cond (decide ((ae rc x).st.cI < (ak ((ae rc x).st.n - (ae rc x).st.start)))) (cond (decide ((ak ((ae rc x).st.n - (ae rc x).st.start)) < (ae rc x).st.b)) (cond (ic (fp rc x).st.data.n (ae rc x).st.data.n) (cond ((lI rc x).by aE.aq.ret) (cond (ic (lI rc x).st.data.n (ae rc x).st.data.n) (.out aE.aq.ret ⟨(lI rc x).st.data,(ae rc x).st.a,(ae rc x).st.m,(ae rc x).st.b,(lI rc x).st.held⟩) .fail) .fail) .fail)
         (fO rc x))
        (fO rc x)) .fail) .fail)
       (fQ rc x))
      (fQ rc x)) .fail) .fail)
     (fU rc x))
    (fU rc x)) .fail) .fail))))
theorem FZ (rc:aa->aK aa) (x:aa):Hp rc (jF x) (jG x)=aK.enc jF jG (eo rc x):=by
 unfold eo fU fT fS fR fQ fP fO fN fM fL fC fB fA fy aR
 try simp only [aK.bI]
 kernel_rfl
def iw:Nat->aa->aK aa:=fun n=>Nat.rec (fun _=>.fail) (fun _ ih x=>eo ih x) n
def kh (n:Nat):Fc:=⟨209,rG,fun vs rs=>cc jF jG (iw n (qS vs rs)) [aE.aq.ret]⟩
theorem jn:∀ n,(kh n).Ok PG
 | 0=>ao9 (cfg:=iI PG [(75,cr)] [eV,gu,iE,kJ,oB] (fun q=>Nat.beq q 48) false false [ga]) ((ao.cons bQ ao.nil):ao PG _).pc (WK funcs mixed (WL funcs mixed (gT.cons gz gT.nil)) (ie gg (ie il (ie kH (ie nU (ie tr aJ.nil)))))) rfl fun _ _=>rfl
 | n+1=>IC funcs mixed (ao.cons bQ ao.nil) (ie gg (ie il (ie kH (ie nU (ie tr aJ.nil))))) (L:=9) (n:=9) (step:=iw (n+1)) (ev:=jF) (er:=jG) (pa:=qS) rfl (fun wv wr=>⟨by kernel_rfl,by kernel_rfl⟩) (FZ (iw n)) (Jj:=(gT.cons (jn n) (gT.cons gz gT.nil)))
structure cL where
 data:(Sl aL)
 n:Int
 held:aH
instance:Inhabited cL:=⟨⟨default,default,default⟩⟩
def oi (x:cL):List KV:=[eZ 48 fH x.data,.int .i64 x.n,.fn (.func 119) [] [.ptr 0 0]]
def oj (x:cL):List (List KV):=[db x.held]
def yJ (vs:List KV) (rs:List (List KV)):cL:=⟨fg gn (v9 vs 0),intOf (v9 vs 1),dc (r9 rs 0)⟩
def zD:aU:=⟨[(0,⟨false,[.arr 48]⟩),(1,w9 i9),(2,⟨false,[.ref (.fn (.func 119) [] [.ptr 0 0])]⟩)],[(100002,[n9 111,n9 114,n9 197],1)],[]⟩
structure eQ where
 data:(Sl aL)
 n:Int
 lx:Int
 a:Int
 b:Int
 TB:aH
instance:Inhabited eQ:=⟨by constructor<;>exact default⟩
def l9 (x:eQ):List KV:=[eZ 48 fH x.data,.int .i64 x.n,.fn (.func 119) [] [.ptr 0 0],.int .i64 x.lx,.int .i64 x.a,.int .i64 x.b]
def mf (x:eQ):List (List KV):=[db x.TB]
def wa (vs:List KV) (rs:List (List KV)):eQ:=⟨fg gn (v9 vs 0),intOf (v9 vs 1),intOf (v9 vs 3),intOf (v9 vs 4),intOf (v9 vs 5),dc (r9 rs 0)⟩
def xm:aU:=⟨[(0,⟨false,[.arr 48]⟩),(1,w9 i9),(2,⟨false,[.ref (.fn (.func 119) [] [.ptr 0 0])]⟩),(6,w9 i9),(7,w9 i9),(8,w9 i9)],[(100002,[n9 111,n9 114,n9 197],1)],[]⟩
def Gm:=ur PG (iI PG [(75,cr)] [] (fun q=>Nat.beq q 48) false false [ik,(kh U7)]) 9 9 174 28 (pd PG 174 28) xm
def iZ (x:eQ):=gf ⟨x.data,x.a,x.b,x.TB⟩
def dX (x:eQ):aK eQ:=(cond (decide (x.b<=x.n)) (cond (aR x.data.n) (cond ((iZ x).by aE.aq.ret) (cond (ic (iZ x).st.data.n x.data.n) (.next ⟨(iZ x).st.data,x.n,x.lx,x.b,(ak (x.b+x.lx)),(iZ x).st.held⟩) .fail) .fail) .fail) (cond (aR x.data.n) (.out (aE.aq.exit 0) x) .fail))
theorem EJ (x:eQ):Gm (l9 x) (mf x)=aK.enc l9 mf (dX x):=by
 unfold dX aR
 try simp only [aK.bI]
 kernel_rfl
def m9:Lp:=⟨174,28,xm,fun vs rs=>cc l9 mf (goN dX (wa vs rs)) [aE.aq.exit 0],true⟩
theorem qp:m9.Ok PG:=n8 funcs mixed (ao.cons bQ ao.nil) aJ.nil (L:=9) (n:=9) (step:=dX) (ev:=l9) (er:=mf) (pa:=wa) rfl (fun wv wr=>⟨by kernel_rfl,by kernel_rfl⟩) EJ (Jj:=(gT.cons jx (gT.cons (jn U7) gT.nil)))
structure dT where
 data:(Sl aL)
 n:Int
 lx:Int
 TB:aH
instance:Inhabited dT:=⟨⟨default,default,default,default⟩⟩
def mg (x:dT):List KV:=[eZ 48 fH x.data,.int .i64 x.n,.fn (.func 119) [] [.ptr 0 0],.int .i64 x.lx]
def mh (x:dT):List (List KV):=[db x.TB]
def wb (vs:List KV) (rs:List (List KV)):dT:=⟨fg gn (v9 vs 0),intOf (v9 vs 1),intOf (v9 vs 3),dc (r9 rs 0)⟩
def xn:aU:=⟨[(0,⟨false,[.arr 48]⟩),(1,w9 i9),(2,⟨false,[.ref (.fn (.func 119) [] [.ptr 0 0])]⟩),(6,w9 i9)],[(100002,[n9 111,n9 114,n9 197],1)],[]⟩
structure ew where
 data:(Sl aL)
 n:Int
 lx:Int
 a:Int
 b:Int
 TB:aH
instance:Inhabited ew:=⟨by constructor<;>exact default⟩
def kU (x:ew):List KV:=[eZ 48 fH x.data,.int .i64 x.n,.fn (.func 119) [] [.ptr 0 0],.int .i64 x.lx,.int .i64 x.a,.int .i64 x.b]
def kV (x:ew):List (List KV):=[db x.TB]
def uC (vs:List KV) (rs:List (List KV)):ew:=⟨fg gn (v9 vs 0),intOf (v9 vs 1),intOf (v9 vs 3),intOf (v9 vs 4),intOf (v9 vs 5),dc (r9 rs 0)⟩
def vv:aU:=⟨[(0,⟨false,[.arr 48]⟩),(1,w9 i9),(2,⟨false,[.ref (.fn (.func 119) [] [.ptr 0 0])]⟩),(6,w9 i9),(7,w9 i9),(8,w9 i9)],[(100002,[n9 111,n9 114,n9 197],1)],[]⟩
def EK:=ur PG (iI PG [(75,cr)] [m9] (fun q=>Nat.beq q 48) false false [ik,(kh U7)]) 9 9 174 3988 (pd PG 174 3988) vv
def gh (x:ew):=iw 64 ⟨x.data,x.a,(ak (x.a+x.lx)),x.b,x.TB⟩
def dy (x:ew):aK ew:=(cond (decide (x.b<=x.n)) (cond (aR x.data.n) (cond ((gh x).by aE.aq.ret) (cond (ic (gh x).st.data.n x.data.n) (.next ⟨(gh x).st.data,x.n,x.lx,x.b,(ak (x.b+(ak (2 * x.lx)))),(gh x).st.held⟩) .fail) .fail) .fail) (cond (aR x.data.n) (.out (aE.aq.exit 4) x) .fail))
theorem C7 (x:ew):EK (kU x) (kV x)=aK.enc kU kV (dy x):=by
 unfold dy aR
 try simp only [aK.bI]
 kernel_rfl
def pQ:Lp:=⟨174,3988,vv,fun vs rs=>cc kU kV (goN dy (uC vs rs)) [aE.aq.exit 4],true⟩
theorem uD:pQ.Ok PG:=n8 funcs mixed (ao.cons bQ ao.nil) (ie qp aJ.nil) (L:=9) (n:=9) (step:=dy) (ev:=kU) (er:=kV) (pa:=uC) rfl (fun wv wr=>⟨by kernel_rfl,by kernel_rfl⟩) C7 (Jj:=(gT.cons jx (gT.cons (jn U7) gT.nil)))
def Gn:=ur PG (iI PG [(75,cr)] [m9,pQ] (fun q=>Nat.beq q 48) false false [ik,(kh U7)]) 9 9 174 62 (pd PG 174 62) xn
def aY (x:dT):=goN dy ⟨x.data,x.n,x.lx,0,(ak (2 * x.lx)),x.TB⟩
def gQ (x:dT):=iw 64 ⟨(aY x).st.data,(aY x).st.a,(ak ((aY x).st.a+(aY x).st.lx)),(aY x).st.n,(aY x).st.TB⟩
def dY (x:dT):aK dT:=(cond (decide (x.lx < x.n)) (cond (aR x.data.n) (cond ((aY x).by (aE.aq.exit 4)) (cond (decide ((ak ((aY x).st.a+(aY x).st.lx)) < (aY x).st.n)) (cond (aR (aY x).st.data.n) (cond ((gQ x).by aE.aq.ret) (cond (ic (gQ x).st.data.n (aY x).st.data.n) (.next ⟨(gQ x).st.data,(aY x).st.n,(ak ((aY x).st.lx * 2)),(gQ x).st.held⟩) .fail) .fail) .fail) (cond (aR (aY x).st.data.n) (.next ⟨(aY x).st.data,(aY x).st.n,(ak ((aY x).st.lx * 2)),(aY x).st.TB⟩) .fail)) .fail) .fail) (cond (aR x.data.n) (.out (aE.aq.exit 2) x) .fail))
theorem EL (x:dT):Gn (mg x) (mh x)=aK.enc mg mh (dY x):=by
 unfold dY aR
 try simp only [aK.bI]
 kernel_rfl
def xo:Lp:=⟨174,62,xn,fun vs rs=>cc mg mh (goN dY (wb vs rs)) [aE.aq.exit 2],true⟩
theorem Gp:xo.Ok PG:=n8 funcs mixed (ao.cons bQ ao.nil) (ie qp (ie uD aJ.nil)) (L:=9) (n:=9) (step:=dY) (ev:=mg) (er:=mh) (pa:=wb) rfl (fun wv wr=>⟨by kernel_rfl,by kernel_rfl⟩) EL (Jj:=(gT.cons jx (gT.cons (jn U7) gT.nil)))
def JH:=OB PG (iI PG [(75,cr)] [m9,pQ,xo] (fun q=>Nat.beq q 48) false false [ik,(kh U7)]) 9 9 174 zD
def dz (x:cL):=goN dX ⟨x.data,x.n,20,0,20,x.held⟩
def iy (x:cL):=gf ⟨(dz x).st.data,(dz x).st.a,(dz x).st.n,(dz x).st.TB⟩
def gA (x:cL):=goN dY ⟨(iy x).st.data,(dz x).st.n,(dz x).st.lx,(iy x).st.held⟩
def na (x:cL):aK cL:=(cond (aR x.data.n) (cond ((dz x).by (aE.aq.exit 0)) (cond (aR (dz x).st.data.n) (cond ((iy x).by aE.aq.ret) (cond (ic (iy x).st.data.n (dz x).st.data.n) (cond ((gA x).by (aE.aq.exit 2)) (cond (aR (gA x).st.data.n) (.out aE.aq.ret ⟨(gA x).st.data,(gA x).st.n,(gA x).st.TB⟩) .fail) .fail) .fail) .fail) .fail) .fail) .fail)
theorem Hq (x:cL):JH (oi x) (oj x)=aK.enc oi oj (na x):=by
 unfold na aR
 try simp only [aK.bI]
 kernel_rfl
def lM (x:cL):aK cL:=na x
def pg:Fc:=⟨174,zD,fun vs rs=>cc oi oj (lM (yJ vs rs)) [aE.aq.ret]⟩
theorem rH:pg.Ok PG:=IC funcs mixed (ao.cons bQ ao.nil) (ie qp (ie uD (ie Gp aJ.nil))) (L:=9) (n:=9) (step:=lM) (ev:=oi) (er:=oj) (pa:=yJ) rfl (fun wv wr=>⟨by kernel_rfl,by kernel_rfl⟩) Hq (Jj:=(gT.cons jx (gT.cons (jn U7) gT.nil)))
structure qT where
 t2:Int
 zero:Int
 t6:(Sl Int)
 t7:Int
 t8:Int
instance:Inhabited qT:=⟨⟨default,default,default,default,default⟩⟩
def F1 (x:qT):List KV:=[.int .i64 x.t2,.int .i64 x.zero,eZ 3 (kI .i64) x.t6,.int .i64 x.t7,.int .i64 x.t8]
def F2 (x:qT):List (List KV):=[]
def N4 (vs:List KV) (rs:List (List KV)):qT:=⟨intOf (v9 vs 0),intOf (v9 vs 1),fg intOf (v9 vs 2),intOf (v9 vs 3),intOf (v9 vs 4)⟩
def QE:aU:=⟨[(2,w9 i9),(3,w9 i9),(6,w9 (n9 3)),(7,w9 i9),(8,w9 i9)],[],[]⟩
def abv:=vL [] [] 173 58 QE
def qa (x:qT):aK qT:=(cond (decide (x.t8 < x.t7)) (cond (bh x.t8 x.t6.n) (cond ((x.t6.get (Int.toNat x.t8)) != x.zero) (.out aE.aq.ret ⟨(x.t6.get (Int.toNat x.t8)),x.zero,x.t6,x.t7,x.t8⟩) (.next ⟨x.t2,x.zero,x.t6,x.t7,(ak (x.t8+1))⟩)) .fail) (.out (aE.aq.exit 0) x))
theorem Xq (x:qT):abv (F1 x) (F2 x)=aK.enc F1 F2 (qa x):=by
 unfold qa bh
 try simp only [aK.bI]
 kernel_rfl
def QF:Lp:=⟨173,58,QE,fun vs rs=>cc F1 F2 (goN qa (N4 vs rs)) [aE.aq.exit 0,aE.aq.ret],false⟩
theorem abw:QF.Ok PG:=uJ ao.nil aJ.nil (pa:=N4) Xq
def uU (eE:(Sl Int)):=goN qa ⟨0,0,eE,(eE.n:Int),0⟩
def yZ (eE:(Sl Int)):Option (Int):=(cond ((uU eE).by (aE.aq.exit 0)) (some ((uU eE).st.zero)) (cond ((uU eE).by aE.aq.ret) (some ((uU eE).st.t2)) none))
theorem afq (eE:(Sl Int)):gw [] [QF] 173 [(eZ 3 (kI .i64)) eE] = (yZ eE).map (kI .i64):=by
 unfold yZ
 try simp only [aV]
 kernel_rfl
def Ym:List KV->KR KV:=a8 PG 173 (bb (kI .i64) fun vs=>yZ ((fg intOf) (v9 vs 0)))
theorem adv:a7 PG 173 Ym:=bH ao.nil (ie abw aJ.nil) fun w=>afq ((fg intOf) (g0 66 (w 0)))
def F3 (a:aL) (b:aL):=fk b.d a.d
def F4 (a:aL) (b:aL):=fk a.item b.item
def F5 (a:aL) (b:aL):=fk a.aZ b.aZ
def F6 (a:aL) (b:aL):=fk a.part b.part
def vw (a:aL) (b:aL):=yZ (Sl.lit [((F3 a b).getD default),((F4 a b).getD default),((F5 a b).getD default),((F6 a b).getD default)])
def uW (a:aL) (b:aL):Option (Bool):=(cond (F3 a b).isSome (cond (F4 a b).isSome (cond (F5 a b).isSome (cond (F6 a b).isSome (cond (vw a b).isSome (some ((decide (((vw a b).getD default) < 0)))) none) none) none) none) none)
theorem abx (a:aL) (b:aL):gw [(173,Ym),(75,cr)] [] 114 [fH a,fH b] = (uW a b).map kB:=by
 unfold uW
 try simp only [aV,vw,U9]
 kernel_rfl
def JI:List KV->KR KV:=a8 PG 114 (bb kB fun vs=>uW (gn (v9 vs 0)) (gn (v9 vs 1)))
theorem MA:a7 PG 114 JI:=bH (ao.cons adv (ao.cons bQ ao.nil)) aJ.nil fun w=>abx (gn (g0 48 (w 0))) (gn (g0 48 (w 1)))
structure aQ where
 x:Int
 y:Int
 t14:(Sl eF)
 t15:Int
 t16:Int
 fZ:aH
 yK:Bool
 xp:aL
instance:Inhabited aQ:=⟨by constructor<;>exact default⟩
def jf (x:aQ):List KV:=[.int .i64 x.x,.int .i64 x.y,.fn (.func 113) [] [.ptr 0 0,.ptr 1 0,.ptr 2 0],eZ 197 yf x.t14,.int .i64 x.t15,.int .i64 x.t16]
def jg (x:aQ):List (List KV):=[db x.fZ,[.bool x.yK],Zf x.xp]
def nV (vs:List KV) (rs:List (List KV)):aQ:=⟨intOf (v9 vs 0),intOf (v9 vs 1),fg yg (v9 vs 3),intOf (v9 vs 4),intOf (v9 vs 5),dc (r9 rs 0),kO ((rs.getD 1 []).getD 0 .bJ),Zg (r9 rs 2)⟩
def oo:aU:=⟨[(1,w9 i9),(2,w9 i9),(3,⟨false,[.ref (.fn (.func 113) [] [.ptr 0 0,.ptr 1 0,.ptr 2 0])]⟩),(14,w9 (n9 197)),(15,w9 i9),(16,w9 i9)],[(100003,[n9 111,n9 114,n9 197],1),(200003,[b9],1),(300003,[i9,i9,i9,i9,i9,i9],1)],[]⟩
def vS:=vL [(85,xI),(114,JI)] [] 52 14 oo
def bz (x:aQ):=kd (x.t14.get (Int.toNat x.t16)).t x.x x.y
def gb (x:aQ):=uW ⟨(ak ((x.t14.get (Int.toNat x.t16)).dp.d+((bz x).getD default).fst.d)),(x.t14.get (Int.toNat x.t16)).dp.item,(x.t14.get (Int.toNat x.t16)).dp.aZ,(x.t14.get (Int.toNat x.t16)).dp.part,((bz x).getD default).fst.u,((bz x).getD default).fst.v⟩ x.xp
def eY (x:aQ):aK aQ:=(.next ⟨x.x,x.y,x.t14,x.t15,(ak (x.t16+1)),x.fZ,true,⟨(ak ((x.t14.get (Int.toNat x.t16)).dp.d+((bz x).getD default).fst.d)),(x.t14.get (Int.toNat x.t16)).dp.item,(x.t14.get (Int.toNat x.t16)).dp.aZ,(x.t14.get (Int.toNat x.t16)).dp.part,((bz x).getD default).fst.u,((bz x).getD default).fst.v⟩⟩)
def dC (x:aQ):aK aQ:=(.next ⟨x.x,x.y,x.t14,x.t15,(ak (x.t16+1)),x.fZ,x.yK,x.xp⟩)
def cl (x:aQ):aK aQ:=(cond (decide (x.t16 < x.t15)) (cond (bh x.t16 x.t14.n) (cond (bz x).isSome (cond (((bz x).getD default).snd==0) (cond (bh (x.t14.get (Int.toNat x.t16)).dp.item x.fZ.cQ.items.n) (cond (!(x.fZ.cQ.items.get (Int.toNat (x.t14.get (Int.toNat x.t16)).dp.item)).look.Aj) (cond (!x.yK)
     (eY x) (cond (gb x).isSome (cond ((gb x).getD default)
      (eY x)
      (dC x)) .fail))
    (dC x)) .fail)
   (dC x)) .fail) .fail) (.out (aE.aq.exit 0) x))
theorem uL (x:aQ):vS (jf x) (jg x)=aK.enc jf jg (cl x):=by
 unfold cl dC eY bh
 try simp only [aK.bI]
 kernel_rfl
def oq:Lp:=⟨52,14,oo,fun vs rs=>cc jf jg (goN cl (nV vs rs)) [aE.aq.exit 0],false⟩
theorem vT:oq.Ok PG:=uJ (ao.cons tS (ao.cons MA ao.nil)) aJ.nil (pa:=nV) uL
def o6 (s:aH) (x:Int) (y:Int):=goN cl ⟨x,y,s.parts,(s.parts.n:Int),0,s,false,⟨(-(2048:Int)),(-(1:Int)),(-(1:Int)),0,0,0⟩⟩
def jr (s:aH) (x:Int) (y:Int):Option (aL×Bool):=(cond ((o6 s x y).by (aE.aq.exit 0)) (some ((o6 s x y).st.xp,(o6 s x y).st.yK)) none)
theorem QG (s:aH) (x:Int) (y:Int):gw [(85,xI),(114,JI)] [oq] 57 [tg s,(kI .i64) x,(kI .i64) y] = (jr s x y).map (fun (r:aL×Bool)=>KV.jd [fH r.1,kB r.2]):=by
 unfold jr
 try simp only [aV]
 kernel_rfl
def qz:List KV->KR KV:=a8 PG 57 (bb (fun (r:aL×Bool)=>KV.jd [fH r.1,kB r.2]) fun vs=>jr (vR (v9 vs 0)) (intOf (v9 vs 1)) (intOf (v9 vs 2)))
theorem rp:a7 PG 57 qz:=bH (ao.cons tS (ao.cons MA ao.nil)) (ie vT aJ.nil) fun w=>QG (vR (g0 121 (w 0))) (intOf (g0 3 (w 1))) (intOf (g0 3 (w 2)))
end
end Go.Proofs.YtchbpckkmgcgkaaGreat.b
end
section
namespace Go.Proofs.YtchbpckkmgcgkaaGreat.b
open Go.K
open Go.aE (aq)
def N5 (x y:Int):Int:=if x < y then -1 else if x > y then 1 else 0
theorem Ii (x y:Int):fk x y=some (N5 x y):=by
 unfold fk Cx wq qQ N5;simp only [hU,bc,aw];by_cases h:x < y
 ·rw [au h,aW h]; rfl
 ·rw [ay h,aB h]
  by_cases h2:x > y
  ·rw [au h2,aW h2]; rfl
  ·rw [ay h2,aB h2]; rfl
def or4 (a b c d:Int):Int:=if a≠0 then a else if b≠0 then b else if c≠0 then c else d
theorem atC (a b c d:Int):yZ (Sl.lit [a,b,c,d])=some (or4 a b c d):=by
 have g0:(Sl.lit [a,b,c,d]).get 0=a:=rfl;have g1:(Sl.lit [a,b,c,d]).get 1=b:=rfl;have g2:(Sl.lit [a,b,c,d]).get 2=c:=rfl;have g3:(Sl.lit [a,b,c,d]).get 3=d:=rfl;generalize hl:Sl.lit [a,b,c,d] = l at g0 g1 g2 g3;have hn:l.n=4:=by rw [<- hl]; rfl
 obtain ⟨e,y,hy,hq⟩:∃ e y,uU l = .out e y/\((e = .exit 0/\y.zero=0/\∀ i,i < 4->l.get i=0)\/e = .ret/\∃ j,j < 4/\(∀ i,i < j->l.get i=0)/\l.get j≠0/\y.t2=l.get j):=by
  unfold uU;refine bt (step:=qa) (fun j y=>y.zero=0/\y.t6=l/\y.t7=4/\y.t8=(j:Int)/\j<=4/\∀ i,i < j->l.get i=0) _ 4 (by have:gv=1000000000000:=rfl; omega) (fun j y hj ⟨f1,f2,f3,f4,f5,f6⟩=>?_) ⟨rfl,rfl,by show ((l.n:Nat):Int)=4; omega,rfl,dq _,fun i hi=>absurd hi (xL _)⟩;have w1:ak (y.t8+1)=y.t8+1:=aj;unfold qa bh;by_cases h:y.t8 < y.t7
  ·have hg:y.t6.get (Int.toNat y.t8)=l.get j:=by rw [f2,f4,bU]
   simp only [w1,hg,f1,ai,bC,au h,au (show (0:Int)<=y.t8 by omega),au (show y.t8 < ((y.t6.n:Nat):Int) by rw [f2]; omega)];cases hb:(l.get j != 0) with
   | true=>exact .inr ⟨_,_,rfl,rfl,.inr ⟨rfl,j,by omega,f6,by simpa using hb,rfl⟩⟩
   | false=>
    refine .inl ⟨_,rfl,by omega,by first | rfl | exact f1,f2,f3,by show y.t8+1=_; omega,by omega,fun i hi=>?_⟩;by_cases he:i=j
    ·subst he; simpa using hb
    ·exact f6 i (by omega)
  ·simp only [aw,ay h]
   exact .inr ⟨_,_,rfl,rfl,.inl ⟨rfl,f1,fun i hi=>f6 i (by omega)⟩⟩
 unfold yZ or4;rcases hq with ⟨rfl,h1,h2⟩ | ⟨rfl,j,h1,h2,h3,h4⟩
 ·rw [hy]
  simp only [aK.lF,aK.lU,gq,nA,ai,h1];have e0:=h2 0 (by omega); have e1:=h2 1 (by omega); have e2:=h2 2 (by omega); have e3:=h2 3 (by omega);rw [g0] at e0; rw [g1] at e1; rw [g2] at e2; rw [g3] at e3;simp [e0,e1,e2,e3]
 ·rw [hy]
  simp only [aK.lF,aK.lU,gq,ai,aw,h4];rcases j with _ | _ | _ | _ | j
  ·rw [g0] at h3 ⊢
   rw [aW h3]
  ·have e0:=h2 0 (by omega)
   rw [g0] at e0;rw [g1] at h3 ⊢;simp [e0,h3]
  ·have e0:=h2 0 (by omega); have e1:=h2 1 (by omega)
   rw [g0] at e0; rw [g1] at e1;rw [g2] at h3 ⊢;simp [e0,e1,h3]
  ·have e0:=h2 0 (by omega); have e1:=h2 1 (by omega); have e2:=h2 2 (by omega)
   rw [g0] at e0; rw [g1] at e1; rw [g2] at e2;rw [g3] at h3 ⊢;simp [e0,e1,e2]
  ·omega
theorem aby (x y:Int):N5 x y < 0↔x < y:=by
 unfold N5;split
 ·omega
 ·split <;> omega
theorem aix (x y:Int):N5 x y=0↔x=y:=by
 unfold N5;split
 ·omega
 ·split <;> omega
theorem auK (a b c d:Int):or4 a b c d < 0↔a < 0\/a=0/\(b < 0\/b=0/\(c < 0\/c=0/\d < 0)):=by
 unfold or4;split
 ·omega
 ·split
  ·omega
  ·split <;> omega
def AO (a b:aL):Prop:=b.d < a.d\/a.d=b.d/\(a.item < b.item\/a.item=b.item/\(a.aZ < b.aZ\/a.aZ=b.aZ/\a.part < b.part))
instance (a b:aL):Decidable (AO a b):=by unfold AO; infer_instance
theorem alW (a b:aL):uW a b=some (decide (AO a b)):=by
 have e0:F3 a b=some (N5 b.d a.d):=Ii _ _;have e1:F4 a b=some (N5 a.item b.item):=Ii _ _;have e2:F5 a b=some (N5 a.aZ b.aZ):=Ii _ _;have e3:F6 a b=some (N5 a.part b.part):=Ii _ _;have e4:vw a b=some (or4 (N5 b.d a.d) (N5 a.item b.item) (N5 a.aZ b.aZ) (N5 a.part b.part)):=by
  unfold vw;rw [e0,e1,e2,e3];exact atC _ _ _ _
 unfold uW;simp only [e0,e1,e2,e3,e4,bj,bc,ai];congr 1;refine decide_eq_decide.2 ?_;rw [auK,aby,aby,aby,aby,aix,aix,aix];unfold AO;omega
def pR (s:Show) (f:aL):Bool:=(s.items.get (Int.toNat f.item)).look.Aj
def Ke (s:Show) (b:aL×Bool) (f:aL):aL×Bool:=cond (!pR s f) (cond (!b.2) (f,true) (cond (decide (AO f b.1)) (f,true) b)) b
def alX:aL:=⟨-2048,-1,-1,0,0,0⟩
def uj (s:Show) (l:List aL):aL×Bool:=l.foldl (Ke s) (alX,false)
theorem adw (s:Show) (l:List aL) (f:aL):uj s (l++[f])=Ke s (uj s l) f:=by
 unfold uj;rw [List.foldl_append];rfl
theorem WW {s:Show} {c:az} {p:eF} (h:p∈gx s c):∃ i k n,i < s.items.n/\k < (s.items.get i).bd.n/\n < (CZ s c i k).n/\p=partAt s c i k n:=by
 unfold gx at h;obtain ⟨i,h1,h2⟩:=QZ.1 h;unfold Jp at h2;obtain ⟨k,h3,h4⟩:=QZ.1 h2;unfold NL at h4;obtain ⟨n,h5,h6⟩:=HK.1 h4;exact ⟨i,k,n,A6.1 h1,A6.1 h3,A6.1 h5,h6.symm⟩
theorem alY (s:Show) (x:aQ) (hs:x.fZ.cQ=s) (hi:∀ j,j < x.t14.n->0<=(x.t14.get j).dp.item/\(x.t14.get j).dp.item < (s.items.n:Int)) (hn:x.t14.n<=98304) (h15:x.t15=(x.t14.n:Int)) (h16:x.t16=0) (h0:(x.xp,x.yK)=(alX,false)) :
  ∃ e y,goN cl x = .out e y/\(e = .exit 0/\(y.xp,y.yK)=uj s (mI x.x x.y (bB x.t14))):=by
 refine bt (step:=cl) (fun j y=>y.t14=x.t14/\y.t15=(x.t14.n:Int)/\y.t16=(j:Int)/\y.x=x.x/\y.y=x.y/\j<=x.t14.n/\y.fZ=x.fZ/\(y.xp,y.yK)=uj s (mI x.x x.y ((bB x.t14).take j))) _ x.t14.n (by have:gv=1000000000000:=rfl; omega) (fun j y hj ⟨f1,f2,f3,f4,f5,f6,f7,f8⟩=>?_) ⟨rfl,h15,h16,rfl,rfl,dq _,rfl,h0⟩;have w1:ak (y.t16+1)=y.t16+1:=aj;unfold cl dC eY bh;by_cases h:y.t16 < y.t15
 ·have fw:j < x.t14.n:=by omega
  have hg:y.t14.get (Int.toNat y.t16)=x.t14.get j:=by rw [f1,f3,bU]
  obtain ⟨sp,e,hp⟩:=Vr (x.t14.get j).t x.x x.y;have e0:bz y=some (sp,e):=by
   unfold bz;rw [hg,f4,f5];exact hp
  obtain ⟨i1,i2⟩:=hi j fw;have tk:=ac6 (x:=x.x) (y:=x.y) x.t14 j fw;have e1:=alW (⟨(ak ((x.t14.get j).dp.d+sp.d)),(x.t14.get j).dp.item,(x.t14.get j).dp.aZ,(x.t14.get j).dp.part,sp.u,sp.v⟩:aL) y.xp;have e2:gb y=some (decide (AO (⟨(ak ((x.t14.get j).dp.d+sp.d)),(x.t14.get j).dp.item,(x.t14.get j).dp.aZ,(x.t14.get j).dp.part,sp.u,sp.v⟩:aL) y.xp)):=by
   unfold gb;rw [e0,hg];exact e1
  simp only [e0,e2,hg,w1,ai,bC,bj,bc,au h,au (show (0:Int)<=y.t16 by omega),au (show y.t16 < ((y.t14.n:Nat):Int) by rw [f1]; omega),au i1,au (show (x.t14.get j).dp.item < ((y.fZ.cQ.items.n:Nat):Int) by rw [f7,hs]; exact i2)];have S1:∀ {z:aL×Bool} {y' : aQ},y'.t14=y.t14->y'.t15=y.t15->y'.t16=y.t16+1->y'.x=y.x->y'.y=y.y->y'.fZ=y.fZ->(y'.xp,y'.yK)=z->z=uj s (mI x.x x.y ((bB x.t14).take (j+1)))->
    (∃ x',(aK.next y' : aK aQ) = .next x'/\j < x.t14.n/\x'.t14=x.t14/\x'.t15=(x.t14.n:Int)/\x'.t16=((j+1:Nat):Int)/\x'.x=x.x/\x'.y=x.y/\j+1<=x.t14.n/\x'.fZ=x.fZ/\(x'.xp,x'.yK)=uj s (mI x.x x.y ((bB x.t14).take (j+1)))):=fun {z y'} q1 q2 q3 q4 q5 q6 q7 q8=>
   ⟨y',rfl,fw,q1.trans f1,q2.trans f2,by omega,q4.trans f4,q5.trans f5,by omega,q6.trans f7,q7.trans q8⟩
  cases he:(e==(0:Int)) with
  | false=>
   have CO:pf x.x x.y (x.t14.get j)=none:=by
    unfold pf;rw [hp];simp only [he,aw]
   rw [aw];exact .inl (S1 (z:=(y.xp,y.yK)) rfl rfl rfl rfl rfl rfl rfl (by rw [tk,CO,f8]; simp))
  | true=>
   have CO:pf x.x x.y (x.t14.get j)=some ⟨ak ((x.t14.get j).dp.d+sp.d),(x.t14.get j).dp.item,(x.t14.get j).dp.aZ,(x.t14.get j).dp.part,sp.u,sp.v⟩:=by
    unfold pf;rw [hp];simp only [he,ai]
   have qv:uj s (mI x.x x.y ((bB x.t14).take (j+1)))=Ke s (y.xp,y.yK) ⟨ak ((x.t14.get j).dp.d+sp.d),(x.t14.get j).dp.item,(x.t14.get j).dp.aZ,(x.t14.get j).dp.part,sp.u,sp.v⟩:=by
    rw [tk,CO,f8];exact adw _ _ _
   have Yz:(y.fZ.cQ.items.get (Int.toNat (x.t14.get j).dp.item)).look.Aj=pR s ⟨ak ((x.t14.get j).dp.d+sp.d),(x.t14.get j).dp.item,(x.t14.get j).dp.aZ,(x.t14.get j).dp.part,sp.u,sp.v⟩:=by
    rw [f7,hs];rfl
   rw [ai,Yz];unfold Ke at qv;cases hb:(!pR s ⟨ak ((x.t14.get j).dp.d+sp.d),(x.t14.get j).dp.item,(x.t14.get j).dp.aZ,(x.t14.get j).dp.part,sp.u,sp.v⟩) with
   | false=>
    rw [hb,aw] at qv;rw [aw];exact .inl (S1 rfl rfl rfl rfl rfl rfl rfl qv.symm)
   | true=>
    rw [hb,ai] at qv;rw [ai];cases hc:(!y.yK) with
    | true=>
     rw [hc,ai] at qv;rw [ai];exact .inl (S1 rfl rfl rfl rfl rfl rfl rfl qv.symm)
    | false=>
     rw [hc,aw] at qv;rw [aw];cases hd:decide (AO (⟨(ak ((x.t14.get j).dp.d+sp.d)),(x.t14.get j).dp.item,(x.t14.get j).dp.aZ,(x.t14.get j).dp.part,sp.u,sp.v⟩:aL) y.xp) with
     | true=>
      rw [hd,ai] at qv;rw [ai];exact .inl (S1 rfl rfl rfl rfl rfl rfl rfl qv.symm)
     | false=>
      rw [hd,aw] at qv;rw [aw];exact .inl (S1 rfl rfl rfl rfl rfl rfl rfl qv.symm)
 ·simp only [aw,ay h]
  refine .inr ⟨_,_,rfl,rfl,rfl,?_⟩;rw [f8,show j=x.t14.n by omega,CH (by rw [eP]; exact aX _)]
theorem abz (s:Show) (c:az) (r:aH) (x y:Int) (h1:r.cQ=s) (h2:bB r.parts=gx s c) (h3:r.parts.n<=98304):jr r x y=some (uj s (mI x y (gx s c))):=by
 obtain ⟨e,z,hz,rfl,h6⟩:∃ e z,o6 r x y = .out e z/\(e = .exit 0/\(z.xp,z.yK)=uj s (mI x y (bB r.parts))):=by
  unfold o6;refine alY s _ h1 (fun j hj=>?_) h3 rfl rfl rfl;have hm:r.parts.get j∈bB r.parts:=FO hj;rw [h2] at hm;obtain ⟨i,k,n,i1,i2,i3,e⟩:=WW hm;show 0<=(r.parts.get j).dp.item/\(r.parts.get j).dp.item < (s.items.n:Int);rw [e];show 0<=(i:Int)/\(i:Int) < (s.items.n:Int);omega
 unfold jr;rw [hz,<- h2,<- h6];rfl
theorem arE {α:Type} {Q:List α->Prop} (h0:Q []) (h1:∀ l x,Q l->Q (l++[x])) (l:List α):Q l:=by
 have:∀ (l pre:List α),Q pre->Q (pre++l):=by
  intro l
  induction l with
  | nil=>intro pre hp; rwa [pr]
  | cons x l ih=>intro pre hp; have:=ih (pre++[x]) (h1 _ _ hp); rwa [HJ] at this
 exact this l [] h0
def avp (s:Show) (l:List aL) (b:aL×Bool):Prop:=(b.2=false/\b.1=alX/\∀ g∈l,pR s g=true)\/(b.2=true/\b.1∈l/\pR s b.1=false/\∀ g∈l,pR s g=false->¬ AO g b.1)
theorem an7 {a b c:aL} (h : ¬ AO a b) (h2:AO c b) : ¬ AO a c:=by
 unfold AO at *;omega
theorem akG (a:aL) : ¬ AO a a:=by
 unfold AO;omega
theorem adx (s:Show) (l:List aL):avp s l (uj s l):=by
 refine arE (Q:=fun l=>avp s l (uj s l)) (.inl ⟨rfl,rfl,fun g hg=>by simp at hg⟩) (fun l f ih=>?_) l;rw [adw];unfold Ke;cases hb:pR s f with
 | true=>
  simp only [iR,aw];rcases ih with ⟨h1,h2,h3⟩ | ⟨h1,h2,h3,h4⟩
  ·refine .inl ⟨h1,h2,fun g hg=>?_⟩
   rcases mJ.1 hg with hg | hg
   ·exact h3 g hg
   ·rw [EM.1 hg]; exact hb
  ·refine .inr ⟨h1,List.mem_append_left _ h2,h3,fun g hg hgb=>?_⟩
   rcases mJ.1 hg with hg | hg
   ·exact h4 g hg hgb
   ·rw [EM.1 hg,hb] at hgb; simp at hgb
 | false=>
  simp only [sE,ai];rcases ih with ⟨h1,h2,h3⟩ | ⟨h1,h2,h3,h4⟩
  ·rw [h1]
   simp only [sE,ai];refine .inr ⟨rfl,List.mem_append_right _ (EM.2 rfl),hb,fun g hg hgb=>?_⟩;rcases mJ.1 hg with hg | hg
   ·rw [h3 g hg] at hgb; simp at hgb
   ·rw [EM.1 hg]; exact akG f
  ·rw [h1]
   simp only [iR,aw];by_cases hn:AO f (uj s l).1
   ·rw [au hn,ai]
    refine .inr ⟨rfl,List.mem_append_right _ (EM.2 rfl),hb,fun g hg hgb=>?_⟩;rcases mJ.1 hg with hg | hg
    ·exact an7 (h4 g hg hgb) hn
    ·rw [EM.1 hg]; exact akG f
   ·rw [ay hn,aw]
    refine .inr ⟨h1,List.mem_append_left _ h2,h3,fun g hg hgb=>?_⟩;rcases mJ.1 hg with hg | hg
    ·exact h4 g hg hgb
    ·rw [EM.1 hg]; exact hn
theorem ady {x y:Int} {p:eF} {f:aL} (h:pf x y p=some f):f.item=p.dp.item/\f.aZ=p.dp.aZ/\f.part=p.dp.part:=by
 unfold pf at h;split at h
 ·rename_i sp e _
  cases he:(e==(0:Int)) with
  | true=>rw [he,ai] at h; injection h with h; subst h; exact ⟨rfl,rfl,rfl⟩
  | false=>rw [he,aw] at h; simp at h
 ·simp at h
theorem atD {s:Show} {c:az} {x y:Int} {f:aL} (h:f∈mI x y (gx s c)):∃ i k n,i < s.items.n/\k < (s.items.get i).bd.n/\n < (CZ s c i k).n/\pf x y (partAt s c i k n)=some f:=by
 obtain ⟨p,h1,h2⟩:=List.mem_filterMap.1 h;obtain ⟨i,k,n,i1,i2,i3,rfl⟩:=WW h1;exact ⟨i,k,n,i1,i2,i3,h2⟩
theorem QH {s:Show} {c:az} {x y:Int} {f:aL} (h:f∈mI x y (gx s c)):0<=f.item/\f.item < (s.items.n:Int):=by
 obtain ⟨i,k,n,i1,i2,i3,h2⟩:=atD h;obtain ⟨e1,_,_⟩:=ady h2;rw [e1];show 0<=(i:Int)/\(i:Int) < _;omega
end Go.Proofs.YtchbpckkmgcgkaaGreat.b
end
section
namespace Go.Proofs.YtchbpckkmgcgkaaGreat.b
open Go.K
noncomputable section
def yL (t:bG) (u:Int) (v:Int):=eO t
def tt (t:bG) (u:Int) (v:Int):Option (Color×Int):=(cond (yL t u v).isSome (cond (((yL t u v).getD default) != 0) (some (⟨0,0,0,0⟩,((yL t u v).getD default))) (cond (decide ((min u v) < 0)) (some (⟨0,0,0,0⟩,2)) (cond (decide ((max u v) > 255)) (some (⟨0,0,0,0⟩,2)) (cond (bh (ak ((ak ((Int.fdiv (ak (v * t.h)) 256) * t.w))+(Int.fdiv (ak (u * t.w)) 256))) t.dF.n) (some ((t.dF.get (Int.toNat (ak ((ak ((Int.fdiv (ak (v * t.h)) 256) * t.w))+(Int.fdiv (ak (u * t.w)) 256))))),0)) none)))) none)
theorem afr (t:bG) (u:Int) (v:Int):zY PG (iI PG [(123,Bx)] [] (fun q=>Nat.beq q 48)) 9 9 149 [iu t,(kI .i64) u,(kI .i64) v] = (tt t u v).map (fun (r:Color×Int)=>KV.jd [fh r.1,(kI .i64) r.2]):=by
 unfold tt bh
 try simp only [aV]
 kernel_rfl
def Yn:List KV->KR KV:=a8 PG 149 (bb (fun (r:Color×Int)=>KV.jd [fh r.1,(kI .i64) r.2]) fun vs=>tt (ej (v9 vs 0)) (intOf (v9 vs 1)) (intOf (v9 vs 2)))
theorem adz:a7 PG 149 Yn:=bH (ao.cons Cm ao.nil) aJ.nil fun w=>afr (ej (g0 114 (w 0))) (intOf (g0 3 (w 1))) (intOf (g0 3 (w 2)))
def SN (a:Color) (b:Color):Option (Color):=(some (⟨(w8 (ak (Int.tdiv (ak ((ak a.e0) * (ak b.e0))) 255))),(w8 (ak (Int.tdiv (ak ((ak a.e1) * (ak b.e1))) 255))),(w8 (ak (Int.tdiv (ak ((ak a.e2) * (ak b.e2))) 255))),(w8 (ak (Int.tdiv (ak ((ak a.e3) * (ak b.e3))) 255)))⟩))
theorem aiy (a:Color) (b:Color):zY PG (iI PG [] [] (fun q=>Nat.beq q 48)) 9 9 150 [fh a,fh b] = (SN a b).map fh:=by
 unfold SN
 kernel_rfl
def abA:List KV->KR KV:=a8 PG 150 (bb fh fun vs=>SN (kQ (v9 vs 0)) (kQ (v9 vs 1)))
theorem afs:a7 PG 150 abA:=bH ao.nil aJ.nil fun w=>aiy (kQ (g0 33 (w 0))) (kQ (g0 33 (w 1)))
def xq (l:yD) (av:(Sl bG)) (u:Int) (v:Int):=fY av
def xr (l:yD) (av:(Sl bG)) (u:Int) (v:Int):=eL l (av.n:Int)
def o7 (l:yD) (av:(Sl bG)) (u:Int) (v:Int):=tt (av.get (Int.toNat l.iD)) u v
def rI (l:yD) (av:(Sl bG)) (u:Int) (v:Int):Option (Color×Int):=(cond (xq l av u v).isSome (cond (((xq l av u v).getD default) != 0) (some (⟨0,0,0,0⟩,((xq l av u v).getD default))) (cond (xr l av u v).isSome (cond (((xr l av u v).getD default) != 0) (some (⟨0,0,0,0⟩,((xr l av u v).getD default))) (cond (decide ((min u v) < 0)) (some (⟨0,0,0,0⟩,2)) (cond (decide ((max u v) > 255)) (some (⟨0,0,0,0⟩,2)) (cond (decide (l.iD < 0)) (some (l.color,0)) (cond (bh l.iD av.n) (cond (o7 l av u v).isSome (some (⟨(w8 (ak (Int.tdiv (ak ((ak l.color.e0) * (ak ((o7 l av u v).getD default).fst.e0))) 255))),(w8 (ak (Int.tdiv (ak ((ak l.color.e1) * (ak ((o7 l av u v).getD default).fst.e1))) 255))),(w8 (ak (Int.tdiv (ak ((ak l.color.e2) * (ak ((o7 l av u v).getD default).fst.e2))) 255))),(w8 (ak (Int.tdiv (ak ((ak l.color.e3) * (ak ((o7 l av u v).getD default).fst.e3))) 255)))⟩,((o7 l av u v).getD default).snd)) none) none))))) none)) none)
theorem adA (l:yD) (av:(Sl bG)) (u:Int) (v:Int):zY PG (iI PG [(150,abA),(149,Yn),(125,tV),(61,zA)] [] (fun q=>Nat.beq q 48)) 9 9 86 [alA l,(eZ 114 iu) av,(kI .i64) u,(kI .i64) v] = (rI l av u v).map (fun (r:Color×Int)=>KV.jd [fh r.1,(kI .i64) r.2]):=by
 unfold rI bh
 try simp only [aV]
 kernel_rfl
def VU:List KV->KR KV:=a8 PG 86 (bb (fun (r:Color×Int)=>KV.jd [fh r.1,(kI .i64) r.2]) fun vs=>rI (Vk (v9 vs 0)) ((fg ej) (v9 vs 1)) (intOf (v9 vs 2)) (intOf (v9 vs 3)))
theorem abB:a7 PG 86 VU:=bH (ao.cons afs (ao.cons adz (ao.cons uu (ao.cons Ai ao.nil)))) aJ.nil fun w=>adA (Vk (g0 107 (w 0))) ((fg ej) (g0 23 (w 1))) (intOf (g0 3 (w 2))) (intOf (g0 3 (w 3)))
def yp (s:aH) (f:aL):=rI (s.cQ.items.get (Int.toNat f.item)).look s.cQ.av f.u f.v
def mF (s:aH) (f:aL):Option (Color):=(cond (bh f.item s.cQ.items.n) (cond (yp s f).isSome (some (((yp s f).getD default).fst)) none) none)
theorem SP (s:aH) (f:aL):zY PG (iI PG [(86,VU)] [] (fun q=>Nat.beq q 48)) 9 9 116 [tg s,fH f] = (mF s f).map fh:=by
 unfold mF bh
 try simp only [aV]
 kernel_rfl
def vx:List KV->KR KV:=a8 PG 116 (bb fh fun vs=>mF (vR (v9 vs 0)) (gn (v9 vs 1)))
theorem xt:a7 PG 116 vx:=bH (ao.cons abB ao.nil) aJ.nil fun w=>SP (vR (g0 121 (w 0))) (gn (g0 48 (w 1)))
def C8 (top:Color) (under:Color):Option (Color):=(some (⟨(w8 (ak (Int.tdiv (ak ((ak ((ak top.e0) * (ak top.e3)))+(ak ((ak under.e0) * (ak (255 - (ak top.e3))))))) 255))),(w8 (ak (Int.tdiv (ak ((ak ((ak top.e1) * (ak top.e3)))+(ak ((ak under.e1) * (ak (255 - (ak top.e3))))))) 255))),(w8 (ak (Int.tdiv (ak ((ak ((ak top.e2) * (ak top.e3)))+(ak ((ak under.e2) * (ak (255 - (ak top.e3))))))) 255))),(w8 (ak (Int.tdiv (ak ((ak (255 * (ak top.e3)))+(ak ((ak under.e3) * (ak (255 - (ak top.e3))))))) 255)))⟩))
theorem aft (top:Color) (under:Color):zY PG (iI PG [] [] (fun q=>Nat.beq q 48)) 9 9 120 [fh top,fh under] = (C8 top under).map fh:=by
 unfold C8
 kernel_rfl
def Ij:List KV->KR KV:=a8 PG 120 (bb fh fun vs=>C8 (kQ (v9 vs 0)) (kQ (v9 vs 1)))
theorem Hr:a7 PG 120 Ij:=bH ao.nil aJ.nil fun w=>aft (kQ (g0 33 (w 0))) (kQ (g0 33 (w 1)))
structure aP where
 x:Int
 y:Int
 t14:(Sl eF)
 t15:Int
 t16:Int
 fZ:aH
 yK:Bool
 xp:aL
 ll:(Sl aL)
instance:Inhabited aP:=⟨by constructor<;>exact default⟩
def gG (x:aP):List KV:=[.int .i64 x.x,.int .i64 x.y,.fn (.func 117) [] [.ptr 0 0,.ptr 1 0,.ptr 2 0,.ptr 3 0],eZ 197 yf x.t14,.int .i64 x.t15,.int .i64 x.t16]
def gH (x:aP):List (List KV):=[db x.fZ,[.bool x.yK],Zf x.xp,[eZ 48 fH x.ll]]
def ot (vs:List KV) (rs:List (List KV)):aP:=⟨intOf (v9 vs 0),intOf (v9 vs 1),fg yg (v9 vs 3),intOf (v9 vs 4),intOf (v9 vs 5),dc (r9 rs 0),kO ((rs.getD 1 []).getD 0 .bJ),Zg (r9 rs 2),fg gn ((rs.getD 3 []).getD 0 .bJ)⟩
def o8:aU:=⟨[(1,w9 i9),(2,w9 i9),(3,⟨false,[.ref (.fn (.func 117) [] [.ptr 0 0,.ptr 1 0,.ptr 2 0,.ptr 3 0])]⟩),(14,w9 (n9 197)),(15,w9 i9),(16,w9 i9)],[(100003,[n9 111,n9 114,n9 197],1),(200003,[b9],1),(300003,[i9,i9,i9,i9,i9,i9],1),(400003,[.arr 48],1)],[]⟩
def wc:=Dj PG (iI PG [(120,Ij),(75,cr),(85,xI),(116,vx),(57,qz)] [] (fun q=>Nat.beq q 48) false false [pg]) 9 9 52 14 (pd PG 52 14) o8
def bW (x:aP):=kd (x.t14.get (Int.toNat x.t16)).t x.x x.y
def fv (x:aP):aK aP:=(cond ((Nat.ble (((x.ll.n+1)+512) * 48) 17592186044416)&&(Nat.ble (x.ll.n+1) 17592186044416)) (cond (aR x.ll.n) (.next ⟨x.x,x.y,x.t14,x.t15,(ak (x.t16+1)),x.fZ,x.yK,x.xp,(x.ll.push ⟨(ak ((x.t14.get (Int.toNat x.t16)).dp.d+((bW x).getD default).fst.d)),(x.t14.get (Int.toNat x.t16)).dp.item,(x.t14.get (Int.toNat x.t16)).dp.aZ,(x.t14.get (Int.toNat x.t16)).dp.part,((bW x).getD default).fst.u,((bW x).getD default).fst.v⟩)⟩) .fail) .fail)
def dK (x:aP):aK aP:=(cond (aR x.ll.n) (.next ⟨x.x,x.y,x.t14,x.t15,(ak (x.t16+1)),x.fZ,x.yK,x.xp,x.ll⟩) .fail)
def bT (x:aP):aK aP:=(cond (decide (x.t16 < x.t15)) (cond (bh x.t16 x.t14.n) (cond (bW x).isSome (cond (((bW x).getD default).snd==0) (cond (bh (x.t14.get (Int.toNat x.t16)).dp.item x.fZ.cQ.items.n) (cond (x.fZ.cQ.items.get (Int.toNat (x.t14.get (Int.toNat x.t16)).dp.item)).look.Aj (cond (!x.yK)
     (fv x) (cond (decide ((ak ((x.t14.get (Int.toNat x.t16)).dp.d+((bW x).getD default).fst.d)) > x.xp.d))
     (fv x)
     (dK x)))
    (dK x)) .fail)
   (dK x)) .fail) .fail) (cond (aR x.ll.n) (.out (aE.aq.exit 0) x) .fail))
theorem vy (x:aP):wc (gG x) (gH x)=aK.enc gG gH (bT x):=by
 unfold bT dK fv bh aR
 try simp only [aK.bI,Zh]
 kernel_rfl
def jH:Lp:=⟨52,14,o8,fun vs rs=>cc gG gH (goN bT (ot vs rs)) [aE.aq.exit 0],false⟩
theorem ou:jH.Ok PG:=Va funcs mixed (ao.cons Hr (ao.cons bQ (ao.cons tS (ao.cons xt (ao.cons rp ao.nil))))) aJ.nil (L:=9) (n:=9) (step:=bT) (ev:=gG) (er:=gH) (pa:=ot) rfl (fun wv wr=>⟨by kernel_rfl,by kernel_rfl⟩) vy (Jj:=(gT.cons rH gT.nil))
structure fV where
 t33:(Sl aL)
 t34:Int
 t35:Int
 s:aH
 ground:Color
 t8:Color
instance:Inhabited fV:=⟨by constructor<;>exact default⟩
def pS (x:fV):List KV:=[eZ 48 fH x.t33,.int .i64 x.t34,.int .i64 x.t35]
def pT (x:fV):List (List KV):=[db x.s,Sd x.ground,Sd x.t8]
def AP (vs:List KV) (rs:List (List KV)):fV:=⟨fg gn (v9 vs 0),intOf (v9 vs 1),intOf (v9 vs 2),dc (r9 rs 0),Se (r9 rs 1),Se (r9 rs 2)⟩
def B8:aU:=⟨[(33,⟨false,[.arr 48]⟩),(34,w9 i9),(35,w9 i9)],[(4,[n9 111,n9 114,n9 197],1),(5,[u9,u9,u9,u9],1),(8,[u9,u9,u9,u9],1)],[(4,0,0),(5,1,0),(8,2,0)]⟩
def MB:=Dj PG (iI PG [(120,Ij),(75,cr),(85,xI),(116,vx),(57,qz)] [jH] (fun q=>Nat.beq q 48) false false [pg]) 9 9 59 1018 (pd PG 59 1018) B8
def cj (x:fV):=mF x.s (x.t33.get (0+(Int.toNat x.t35)))
def eH (x:fV):aK fV:=(cond (decide (x.t35 < x.t34)) (cond (bh x.t35 x.t33.n) (cond (cj x).isSome (cond (aR x.t33.n) (.next ⟨x.t33,x.t34,(ak (x.t35+1)),x.s,⟨(w8 (ak (Int.tdiv (ak ((ak ((ak ((cj x).getD default).e0) * (ak ((cj x).getD default).e3)))+(ak ((ak x.ground.e0) * (ak (255 - (ak ((cj x).getD default).e3))))))) 255))),(w8 (ak (Int.tdiv (ak ((ak ((ak ((cj x).getD default).e1) * (ak ((cj x).getD default).e3)))+(ak ((ak x.ground.e1) * (ak (255 - (ak ((cj x).getD default).e3))))))) 255))),(w8 (ak (Int.tdiv (ak ((ak ((ak ((cj x).getD default).e2) * (ak ((cj x).getD default).e3)))+(ak ((ak x.ground.e2) * (ak (255 - (ak ((cj x).getD default).e3))))))) 255))),(w8 (ak (Int.tdiv (ak ((ak (255 * (ak ((cj x).getD default).e3)))+(ak ((ak x.ground.e3) * (ak (255 - (ak ((cj x).getD default).e3))))))) 255)))⟩,x.t8⟩) .fail) .fail) .fail) (cond (aR x.t33.n) (.out (aE.aq.exit 0) x) .fail))
theorem JJ (x:fV):MB (pS x) (pT x)=aK.enc pS pT (eH x):=by
 unfold eH bh aR
 try simp only [aK.bI]
 kernel_rfl
def B9:Lp:=⟨59,1018,B8,fun vs rs=>cc pS pT (goN eH (AP vs rs)) [aE.aq.exit 0],false⟩
theorem MC:B9.Ok PG:=Va funcs mixed (ao.cons Hr (ao.cons bQ (ao.cons tS (ao.cons xt (ao.cons rp ao.nil))))) (ie ou aJ.nil) (L:=9) (n:=9) (step:=eH) (ev:=pS) (er:=pT) (pa:=AP) rfl (fun wv wr=>⟨by kernel_rfl,by kernel_rfl⟩) JJ (Jj:=(gT.cons rH gT.nil))
def Gu:List (Nat×(List KV->KR KV)):=[(120,Ij),(75,cr),(85,xI),(116,vx),(57,qz)]
def Gv:List Lp:=[B9,jH]
theorem QI:ao PG Gu:=(ao.cons Hr (ao.cons bQ (ao.cons tS (ao.cons xt (ao.cons rp ao.nil)))))
theorem QJ:aJ PG Gv:=(ie MC (ie ou aJ.nil))
def nb (s:aH) (ground:Color) (x:Int) (y:Int):=jr s x y
def sX (s:aH) (ground:Color) (x:Int) (y:Int):=mF s ((nb s ground x y).getD default).fst
def cR (s:aH) (ground:Color) (x:Int) (y:Int):=goN bT ⟨x,y,s.parts,(s.parts.n:Int),0,s,((nb s ground x y).getD default).snd,((nb s ground x y).getD default).fst,⟨0,(fun i=>⟨0,0,0,0,0,0⟩)⟩⟩
def eI (s:aH) (ground:Color) (x:Int) (y:Int):=lM ⟨(cR s ground x y).st.ll,((cR s ground x y).st.ll.n:Int),(cR s ground x y).st.fZ⟩
def nc (s:aH) (ground:Color) (x:Int) (y:Int):=goN eH ⟨(eI s ground x y).st.data,((cR s ground x y).st.ll.n:Int),0,(eI s ground x y).st.held,((sX s ground x y).getD default),⟨0,0,0,0⟩⟩
def nf (s:aH) (ground:Color) (x:Int) (y:Int):=goN eH ⟨(eI s ground x y).st.data,((cR s ground x y).st.ll.n:Int),0,(eI s ground x y).st.held,ground,⟨0,0,0,0⟩⟩
def hM (s:aH) (ground:Color) (x:Int) (y:Int):Option (Color):=(cond (nb s ground x y).isSome (cond ((nb s ground x y).getD default).snd (cond (sX s ground x y).isSome (cond ((cR s ground x y).by (aE.aq.exit 0)) (cond (aR (cR s ground x y).st.ll.n) (cond ((eI s ground x y).by aE.aq.ret) (cond (ic (eI s ground x y).st.data.n (cR s ground x y).st.ll.n) (cond ((nc s ground x y).by (aE.aq.exit 0)) (some ((nc s ground x y).st.ground)) none) none) none) none) none) none) (cond ((cR s ground x y).by (aE.aq.exit 0)) (cond (aR (cR s ground x y).st.ll.n) (cond ((eI s ground x y).by aE.aq.ret) (cond (ic (eI s ground x y).st.data.n (cR s ground x y).st.ll.n) (cond ((nf s ground x y).by (aE.aq.exit 0)) (some ((nf s ground x y).st.ground)) none) none) none) none) none)) none)
theorem SQ (s:aH) (ground:Color) (x:Int) (y:Int):zY PG (iI PG Gu Gv (fun q=>Nat.beq q 48) false false [pg]) 9 9 59 [tg s,fh ground,(kI .i64) x,(kI .i64) y] = (hM s ground x y).map fh:=by
 unfold hM aR
 try simp only [aV]
 kernel_rfl
def I0:List KV->KR KV:=a8 PG 59 (bb fh fun vs=>hM (vR (v9 vs 0)) (kQ (v9 vs 1)) (intOf (v9 vs 2)) (intOf (v9 vs 3)))
theorem QK (w:Nat->KV):Ae PG [121,33,3,3] w 0 = [tg (vR (g0 121 (w 0))),fh (kQ (g0 33 (w 1))),(kI .i64) (intOf (g0 3 (w 2))),(kI .i64) (intOf (g0 3 (w 3)))]:=by kernel_rfl
theorem QL:a7 PG 59 I0:=aeu funcs mixed QI QJ (L:=9) (n:=9) (Jj:=(gT.cons rH gT.nil)) fun w=>by
 have e:gp PG 59 = [121,33,3,3]:=by kernel_rfl
 rw [e,QK]
 exact (SQ (vR (g0 121 (w 0))) (kQ (g0 33 (w 1))) (intOf (g0 3 (w 2))) (intOf (g0 3 (w 3)))).trans (by kernel_rfl)
def pU (s:Show) (c:az) (x:Int) (y:Int):=qk s c x y
def rY (s:Show) (c:az) (x:Int) (y:Int):=jr ((pU s c x y).getD default).fst x y
def jA (s:Show) (c:az) (x:Int) (y:Int):Option (aL×Bool×Int):=(cond (pU s c x y).isSome (cond (((pU s c x y).getD default).snd != 0) (some (⟨0,0,0,0,0,0⟩,false,((pU s c x y).getD default).snd)) (cond (rY s c x y).isSome (cond (!((rY s c x y).getD default).snd) (some (⟨0,0,0,0,0,0⟩,false,0)) (some (((rY s c x y).getD default).fst,true,0))) none)) none)
theorem abC (s:Show) (c:az) (x:Int) (y:Int):gw [(57,qz),(51,IM)] [] 14 [ph s,kc c,(kI .i64) x,(kI .i64) y] = (jA s c x y).map (fun (r:aL×Bool×Int)=>KV.jd [fH r.1,kB r.2.1,(kI .i64) r.2.2]):=by
 unfold jA
 try simp only [aV]
 kernel_rfl
def JK:List KV->KR KV:=a8 PG 14 (bb (fun (r:aL×Bool×Int)=>KV.jd [fH r.1,kB r.2.1,(kI .i64) r.2.2]) fun vs=>jA (gm (v9 vs 0)) (dt (v9 vs 1)) (intOf (v9 vs 2)) (intOf (v9 vs 3)))
theorem MD:a7 PG 14 JK:=bH (ao.cons rp (ao.cons FN ao.nil)) aJ.nil fun w=>abC (gm (g0 25 (w 0))) (dt (g0 31 (w 1))) (intOf (g0 3 (w 2))) (intOf (g0 3 (w 3)))
def tH (s:Show) (c:az) (ground:Color) (x:Int) (y:Int):=qk s c x y
def BM (s:Show) (c:az) (ground:Color) (x:Int) (y:Int):=hM ((tH s c ground x y).getD default).fst ground x y
def mG (s:Show) (c:az) (ground:Color) (x:Int) (y:Int):Option (Color×Int):=(cond (tH s c ground x y).isSome (cond (((tH s c ground x y).getD default).snd != 0) (some (⟨0,0,0,0⟩,((tH s c ground x y).getD default).snd)) (cond (BM s c ground x y).isSome (some (((BM s c ground x y).getD default),0)) none)) none)
theorem adB (s:Show) (c:az) (ground:Color) (x:Int) (y:Int):gw [(59,I0),(51,IM)] [] 16 [ph s,kc c,fh ground,(kI .i64) x,(kI .i64) y] = (mG s c ground x y).map (fun (r:Color×Int)=>KV.jd [fh r.1,(kI .i64) r.2]):=by
 unfold mG
 try simp only [aV]
 kernel_rfl
def MF:List KV->KR KV:=a8 PG 16 (bb (fun (r:Color×Int)=>KV.jd [fh r.1,(kI .i64) r.2]) fun vs=>mG (gm (v9 vs 0)) (dt (v9 vs 1)) (kQ (v9 vs 2)) (intOf (v9 vs 3)) (intOf (v9 vs 4)))
theorem N6:a7 PG 16 MF:=bH (ao.cons QL (ao.cons FN ao.nil)) aJ.nil fun w=>adB (gm (g0 25 (w 0))) (dt (g0 31 (w 1))) (kQ (g0 33 (w 2))) (intOf (g0 3 (w 3))) (intOf (g0 3 (w 4)))
structure Frame where
 w:Int
 h:Int
 color:(Sl Color)
 depth:(Sl Int)
 item:(Sl Int)
 aZ:(Sl Int)
instance:Inhabited Frame:=⟨by constructor<;>exact default⟩
end
end Go.Proofs.YtchbpckkmgcgkaaGreat.b
end
section
namespace Go.Proofs.YtchbpckkmgcgkaaGreat.b
open Go.K
open Go.aE (aq)
theorem atE {t:bG} {u v:Int} (h:eO t=some 0) (hu:0<=u/\u<=255) (hv:0<=v/\v<=255):∃ c,tt t u v=some (c,0):=by
 obtain ⟨⟨w0,w1⟩,⟨h0,h1⟩,hn⟩:=aqC h;have e0:yL t u v=some 0:=h;have p1:0<=v * t.h/\v * t.h<=255 * 16:=⟨wy (by omega) (by omega),CG hv.2 h1 (by omega) (by omega)⟩
 have p2:0<=u * t.w/\u * t.w<=255 * 16:=⟨wy (by omega) (by omega),CG hu.2 w1 (by omega) (by omega)⟩
 have p3:v * t.h<=255 * t.h:=Int.mul_le_mul_of_nonneg_right hv.2 (by omega);have p4:u * t.w<=255 * t.w:=Int.mul_le_mul_of_nonneg_right hu.2 (by omega);have q1:0<=Int.fdiv (v * t.h) 256/\Int.fdiv (v * t.h) 256<=t.h - 1:=by
  rw [Int.fdiv_eq_ediv_of_nonneg _ (by decide)];omega
 have q2:0<=Int.fdiv (u * t.w) 256/\Int.fdiv (u * t.w) 256<=t.w - 1:=by
  rw [Int.fdiv_eq_ediv_of_nonneg _ (by decide)];omega
 have q3:0<=Int.fdiv (v * t.h) 256 * t.w/\Int.fdiv (v * t.h) 256 * t.w<=(t.h - 1) * t.w:=⟨wy q1.1 (by omega),Int.mul_le_mul_of_nonneg_right q1.2 (by omega)⟩
 have q4:(t.h - 1) * t.w=t.w * t.h - t.w:=by rw [Int.sub_mul,Int.one_mul,Int.mul_comm]
 have q5:t.w * t.h<=16 * 16:=CG w1 h1 (by omega) (by omega);unfold tt bh;rw [aj (n:=v * t.h),aj (n:=u * t.w),aj (n:=Int.fdiv (v * t.h) 256 * t.w),aj (n:=Int.fdiv (v * t.h) 256 * t.w+Int.fdiv (u * t.w) 256)];simp only [e0,bj,bc,ai,hU,aw,ay (show ¬ min u v < 0 by omega),ay (show ¬ max u v > 255 by omega),au (show 0<=Int.fdiv (v * t.h) 256 * t.w+Int.fdiv (u * t.w) 256 by omega),au (show Int.fdiv (v * t.h) 256 * t.w+Int.fdiv (u * t.w) 256 < ((t.dF.n:Nat):Int) by omega),bC];exact ⟨_,rfl⟩
theorem an8 {l:yD} {ts:Sl bG} {u v:Int} (h1:fY ts=some 0) (h2:eL l (ts.n:Int)=some 0):∃ c e,rI l ts u v=some (c,e)/\((0<=u/\u<=255)/\(0<=v/\v<=255)->e=0):=by
 have e0:xq l ts u v=some 0:=h1;have e1:xr l ts u v=some 0:=h2;have hl:=Qt h2;unfold rI bh;simp only [e0,e1,bj,bc,ai,hU,aw];by_cases c1:min u v < 0
 ·rw [au c1]; exact ⟨_,_,rfl,fun h=>by omega⟩
 by_cases c2:max u v > 255
 ·rw [ay c1,au c2]; exact ⟨_,_,rfl,fun h=>by omega⟩
 rw [ay c1,ay c2];by_cases c3:l.iD < 0
 ·rw [au c3]; exact ⟨_,_,rfl,fun _=>rfl⟩
 ·have:=hl.hi
  obtain ⟨c,hc⟩:=atE (u:=u) (v:=v) (Mc h1 (Int.toNat l.iD) (by omega)) (by omega) (by omega);have e2:o7 l ts u v=some (c,0):=hc;simp only [e2,bj,bc,ai,aw,ay c3,au (show 0<=l.iD by omega),au (show l.iD < ((ts.n:Nat):Int) by omega),bC];exact ⟨_,_,rfl,fun _=>rfl⟩
end Go.Proofs.YtchbpckkmgcgkaaGreat.b
end
section
namespace Go.Proofs.YtchbpckkmgcgkaaGreat.b
open Go.K Go.K.iK
open Go.aE (aq)
theorem aI (n:Nat):ic n n=true:=nA n
theorem inB {i n:Nat} (h:i < n):(decide ((0:Int)<=(i:Int))&&decide ((i:Int) < ((n:Nat):Int)))=true:=by
 rw [aD];exact ⟨au (by omega),au (by omega)⟩
theorem aiz {i j:Nat} (h:i+j<=100000000000):ak ((i:Int)+(j:Int))=((i+j:Nat):Int):=by
 rw [Dr (by omega) (by omega)]; omega
theorem ZA {i:Nat} (h:i<=100000000000):ak ((i:Int)+(1:Int))=((i+1:Nat):Int):=by
 rw [Dr (by omega) (by omega)]; omega
theorem I1 {i j:Nat} (h:i<=100000000000) (hj:j<=i):ak ((i:Int) - (j:Int))=((i - j:Nat):Int):=by
 rw [Dr (by omega) (by omega)]; omega
theorem aiA {i:Nat} (h:i<=100000000000) (hj:1<=i):ak ((i:Int) - (1:Int))=((i - 1:Nat):Int):=by
 rw [Dr (by omega) (by omega)]; omega
theorem WX {α:Type} (D:Sl α) (i j t:Nat) (u v:α):((D.set (0+i) u).set (0+j) v).get t=if t=j then v else if t=i then u else D.get t:=by
 simp only [Sl.set,bk];by_cases h:t=j
 ·subst h; simp
 ·rw [aB h]
  have e:Nat.beq t j=false:=by
   cases hb:Nat.beq t j with
   | false=>rfl
   | true=>exact absurd (bo hb) h
  rw [e,aw];by_cases h2:t=i
  ·subst h2; simp
  ·rw [aB h2]
   have e:Nat.beq t i=false:=by
    cases hb:Nat.beq t i with
    | false=>rfl
    | true=>exact absurd (bo hb) h2
   rw [e,aw]
theorem aqE {α:Type} (D:Sl α) (i j:Nat) (u v:α):((D.set i u).set j v).n=D.n:=rfl
def Hs {α:Type} (d:Nat->α) (a b n:Nat):Nat->α:=fun t=>if a<=t/\t < a+n then d (t+(b - a)) else if b<=t/\t < b+n then d (t - (b - a)) else d t
theorem arF {α:Type} (d:Nat->α) {a b j:Nat} (h:a+j < b) (t:Nat):Hs d a b (j+1) t=if t=b+j then Hs d a b j (a+j) else if t=a+j then Hs d a b j (b+j) else Hs d a b j t:=by
 have e1:Hs d a b j (a+j)=d (a+j):=by rw [Hs,aB (by omega),aB (by omega)]
 have e2:Hs d a b j (b+j)=d (b+j):=by rw [Hs,aB (by omega),aB (by omega)]
 rw [e1,e2];by_cases h1:t=b+j
 ·subst h1; rw [aW rfl,Hs,aB (by omega),aW (by omega)]; congr 1; omega
 ·rw [aB h1]
  by_cases h2:t=a+j
  ·subst h2; rw [aW rfl,Hs,aW (by omega)]; congr 1; omega
  ·rw [aB h2]
   unfold Hs;by_cases h3:a<=t/\t < a+j
   ·rw [aW (by omega),aW h3]
   ·rw [aB (by omega),aB h3]
    by_cases h4:b<=t/\t < b+j
    ·rw [aW (by omega),aW h4]
    ·rw [aB (by omega),aB h4]
theorem WY (x y:Int):∃ r,fk x y=some r/\decide (r < 0)=decide (x < y):=by
 unfold fk Cx wq qQ;simp only [hU,bc,aw];cases h:decide (x < y) with
 | true=>exact ⟨_,rfl,rfl⟩
 | false=>
  rw [aw];cases h2:decide (x > y) with
  | true=>exact ⟨_,rfl,rfl⟩
  | false=>exact ⟨_,rfl,rfl⟩
end Go.Proofs.YtchbpckkmgcgkaaGreat.b
end
