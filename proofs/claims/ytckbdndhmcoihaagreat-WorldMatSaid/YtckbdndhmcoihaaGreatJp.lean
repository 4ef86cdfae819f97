/- Part of the proof of WorldMat: the machine, shown to be the model's, and plain models. No conditions. -/
import Derived.Test.YtckbdndhmcoihaaGreatHp
import Derived.Test.YtckbdndhmcoihaaGreatIp
import Derived.Test.YtckbdndhmcoihaaGreatGp
set_option linter.unusedSimpArgs false
set_option linter.unusedVariables false
section
namespace Go.Proofs.YtckbdndhmcoihaaGreat.b
open Go.K
noncomputable section
def ZV:List (Nat×(List KV->KR KV)):=[]
def ZW:List Lp:=[]
theorem aid:ah Tryz.prog ZV:=ah.nil
theorem aie:au Tryz.prog ZW:=au.nil
def Gj (s:aP):Option (Bool):=(some (((s.root.slot==(0:Int))&&((s.root.gen==(0:Int))&&true))))
theorem ajS (s:aP):cD Tryz.prog (bp Tryz.prog ZV ZW (fun _=>false)) 9 9 52 [dx s] = (Gj s).map kB:=by
 unfold Gj
 kernel_rfl
def adl:List KV->KR KV:=bI Tryz.prog 52 (bL kB fun vs=>Gj (b6 (vs.getD 0 .ao)))
theorem aif (w:Nat->KV):ck Tryz.prog [34] w 0 = [dx (b6 (ax Tryz.prog (ai Tryz.prog aj) 34 (w 0)))]:=by kernel_rfl
theorem aih:bH Tryz.prog 52 adl:=aL funcs mixed aid aie (L:=9) (n:=9) fun w=>by
 have e:aG Tryz.prog 52 = [34]:=by kernel_rfl
 rw [e,aif]
 exact (ajS (b6 (ax Tryz.prog (ai Tryz.prog aj) 34 (w 0)))).trans (by kernel_rfl)
structure kP where
 kids:(Sl Int)
 t5:Bool
 i:Int
 s:aP
 t4:Path
 p:Path
 h:Handle
instance:Inhabited kP:=⟨by constructor<;>exact default⟩
def BH (x:kP):List KV:=[eA 3 (kI .i64) x.kids,.bool x.t5,.int .i64 x.i]
def BI (x:kP):List (List KV):=[uG x.s,RY x.t4,RY x.p,agM x.h]
def PT (vs:List KV) (rs:List (List KV)):kP:=⟨dP ay (vs.getD 0 .ao),dj (vs.getD 1 .ao),ay (vs.getD 2 .ao),uH (fun k=>(rs.getD 0 []).getD k .ao),RZ (fun k=>(rs.getD 1 []).getD k .ao),RZ (fun k=>(rs.getD 2 []).getD k .ao),agN (fun k=>(rs.getD 3 []).getD k .ao)⟩
def Sc:aV:=⟨[(1,⟨false,[.k (.slice 3)]⟩),(5,⟨false,[.k .bool]⟩),(8,⟨false,[.k (.int .i64)]⟩)],[(2,[.k (.slice 111),.k (.slice 35),.k (.slice 77),.k (.slice 88),.k (.slice 91),.k (.int .i64),.k (.int .i64)],1),(4,[.bA 32,.bA 3],1),(6,[.bA 32,.bA 3],1),(7,[.k (.int .i64),.k (.int .i64)],1)],[(2,0,0),(4,1,0),(6,2,0),(7,3,0)]⟩
def aeC:=dB Tryz.prog (bp Tryz.prog [] [] (fun _=>false)) 9 9 53 122 (dF Tryz.prog 53 122) Sc
def ob (x:kP):aW kP:=(cond (decide (x.i < ((x.kids.n:Nat):Int))) (cond ((decide ((0:Int)<=x.h.slot))&&(decide (x.h.slot < ((x.s.graph.kids.n:Nat):Int)))) (cond ((decide ((0:Int)<=x.i))&&(decide (x.i < ((x.kids.n:Nat):Int)))) (cond (decide ((x.kids.get (Int.toNat x.i)) < (0:Int))) (cond (cond (cond (cond (bz x.p.kids.n x.p.kids.n) (bz x.p.nodes.n x.p.nodes.n) false) true false) true false) (.out aB.ae.ret (⟨x.kids,false,x.i,x.s,(⟨(⟨0,(fun i=>(⟨(0:Int),(0:Int)⟩:Handle))⟩:Sl _),(⟨0,(fun i=>(0:Int))⟩:Sl _)⟩:Path),x.p,x.h⟩:kP)) .fail) (cond ((decide ((0:Int)<=x.i))&&(decide (x.i < ((x.kids.n:Nat):Int)))) (cond (decide ((x.kids.get (Int.toNat x.i)) >= (((x.s.graph.kids.get (Int.toNat x.h.slot)).n:Nat):Int))) (cond (cond (cond (cond (bz x.p.kids.n x.p.kids.n) (bz x.p.nodes.n x.p.nodes.n) false) true false) true false) (.out aB.ae.ret (⟨x.kids,false,x.i,x.s,(⟨(⟨0,(fun i=>(⟨(0:Int),(0:Int)⟩:Handle))⟩:Sl _),(⟨0,(fun i=>(0:Int))⟩:Sl _)⟩:Path),x.p,x.h⟩:kP)) .fail) (cond ((decide ((0:Int)<=x.i))&&(decide (x.i < ((x.kids.n:Nat):Int)))) (cond ((decide ((0:Int)<=(x.kids.get (Int.toNat x.i))))&&(decide ((x.kids.get (Int.toNat x.i)) < (((x.s.graph.kids.get (Int.toNat x.h.slot)).n:Nat):Int)))) (cond ((bz x.p.nodes.n x.p.nodes.n)&&(kD 16 x.p.nodes.n 1)) (cond ((decide ((0:Int)<=x.i))&&(decide (x.i < ((x.kids.n:Nat):Int)))) (cond ((bz x.p.kids.n x.p.kids.n)&&(kD 8 x.p.kids.n 1)) (cond (cond (cond (cond (bz (x.p.kids.n+1) (x.p.kids.n+1)) (bz (x.p.nodes.n+1) (x.p.nodes.n+1)) false) (bz x.t4.kids.n x.t4.kids.n) false) (bz x.t4.nodes.n x.t4.nodes.n) false) (.next (⟨x.kids,x.t5,(aR (x.i+(1:Int))),x.s,x.t4,(⟨(x.p.nodes.push ((x.s.graph.kids.get (Int.toNat x.h.slot)).get (Int.toNat (x.kids.get (Int.toNat x.i))))),(x.p.kids.push (x.kids.get (Int.toNat x.i)))⟩:Path),((x.s.graph.kids.get (Int.toNat x.h.slot)).get (Int.toNat (x.kids.get (Int.toNat x.i))))⟩:kP)) .fail) .fail) .fail) .fail) .fail) .fail)) .fail)) .fail) .fail) (cond (cond (cond (cond (bz x.p.kids.n x.p.kids.n) (bz x.p.nodes.n x.p.nodes.n) false) (bz x.t4.kids.n x.t4.kids.n) false) (bz x.t4.nodes.n x.t4.nodes.n) false) (.out (aB.ae.exit 0) x) .fail))
theorem ZX (x:kP):aeC (BH x) (BI x)=aW.enc BH BI (ob x):=by
 unfold ob
 try simp only [aW.cf,db,fL]
 kernel_rfl
def DP:Lp:=⟨53,122,Sc,fun vs rs=>dC BH BI (goN ob (PT vs rs)) [aB.ae.exit 0,aB.ae.ret],false⟩
theorem aeD:DP.Ok Tryz.prog:=b8 funcs mixed ah.nil au.nil (L:=9) (n:=9) (step:=ob) (ev:=BH) (er:=BI) (pa:=PT) rfl (fun wv wr=>⟨by kernel_rfl,by kernel_rfl⟩) ZX
theorem W7:bZ Tryz.prog DP.f DP.p=true:=by kernel_rfl
def adm:List (Nat×(List KV->KR KV)):=[]
def adn:List Lp:=[DP]
theorem ajT:ah Tryz.prog adm:=ah.nil
theorem ajU:au Tryz.prog adn:=(au.cons aeD W7 au.nil)
def wF (s:aP) (kids:(Sl Int)):(aW kP):=(goN ob (⟨kids,false,(1:Int),s,(⟨(⟨0,(fun i=>(⟨(0:Int),(0:Int)⟩:Handle))⟩:Sl _),(⟨0,(fun i=>(0:Int))⟩:Sl _)⟩:Path),(⟨((Sl.lit [s.root]).push ((s.graph.kids.get (Int.toNat s.root.slot)).get (Int.toNat (kids.get 0)))),((⟨0,(fun i=>(0:Int))⟩:Sl _).push (kids.get 0))⟩:Path),((s.graph.kids.get (Int.toNat s.root.slot)).get (Int.toNat (kids.get 0)))⟩:kP))
def EY (s:aP) (kids:(Sl Int)):Option (Path×Bool):=(cond (decide ((0:Int) < ((kids.n:Nat):Int))) (cond ((decide ((0:Int)<=s.root.slot))&&(decide (s.root.slot < ((s.graph.kids.n:Nat):Int)))) (cond (decide ((0:Int) < ((kids.n:Nat):Int))) (cond (decide ((kids.get 0) < (0:Int))) (some ((⟨(⟨0,(fun i=>(⟨(0:Int),(0:Int)⟩:Handle))⟩:Sl _),(⟨0,(fun i=>(0:Int))⟩:Sl _)⟩:Path),false)) (cond (decide ((0:Int) < ((kids.n:Nat):Int))) (cond (decide ((kids.get 0) >= (((s.graph.kids.get (Int.toNat s.root.slot)).n:Nat):Int))) (some ((⟨(⟨0,(fun i=>(⟨(0:Int),(0:Int)⟩:Handle))⟩:Sl _),(⟨0,(fun i=>(0:Int))⟩:Sl _)⟩:Path),false)) (cond (decide ((0:Int) < ((kids.n:Nat):Int))) (cond ((decide ((0:Int)<=(kids.get 0)))&&(decide ((kids.get 0) < (((s.graph.kids.get (Int.toNat s.root.slot)).n:Nat):Int)))) (cond (decide ((0:Int) < ((kids.n:Nat):Int))) (cond ((wF s kids).by (aB.ae.exit 0)) (some ((wF s kids).st.p,true)) (cond ((wF s kids).by aB.ae.ret) (some ((wF s kids).st.t4,(wF s kids).st.t5)) none)) none) none) none)) none)) none) none) (some ((⟨(Sl.lit [s.root]),(⟨0,(fun i=>(0:Int))⟩:Sl _)⟩:Path),true)))
theorem amr (s:aP) (kids:(Sl Int)):cD Tryz.prog (bp Tryz.prog adm adn (fun _=>false)) 9 9 53 [dx s,(eA 3 (kI .i64)) kids] = (EY s kids).map (fun (r:Path×Bool)=>KV.nb [sD r.1,kB r.2]):=by
 unfold EY
 try simp only [bq,wF,db,dY,dZ,fL]
 kernel_rfl
def aii:List KV->KR KV:=bI Tryz.prog 53 (bL (fun (r:Path×Bool)=>KV.nb [sD r.1,kB r.2]) fun vs=>EY (b6 (vs.getD 0 .ao)) ((dP ay) (vs.getD 1 .ao)))
theorem ajV (w:Nat->KV):ck Tryz.prog [34,36] w 0 = [dx (b6 (ax Tryz.prog (ai Tryz.prog aj) 34 (w 0))),(eA 3 (kI .i64)) ((dP ay) (ax Tryz.prog (ai Tryz.prog aj) 36 (w 1)))]:=by kernel_rfl
theorem ajW:bH Tryz.prog 53 aii:=aL funcs mixed ajT ajU (L:=9) (n:=9) fun w=>by
 have e:aG Tryz.prog 53 = [34,36]:=by kernel_rfl
 rw [e,ajV]
 exact (amr (b6 (ax Tryz.prog (ai Tryz.prog aj) 34 (w 0))) ((dP ay) (ax Tryz.prog (ai Tryz.prog aj) 36 (w 1)))).trans (by kernel_rfl)
structure eL where
 a:(Sl Handle)
 b:(Sl Handle)
 t4:Bool
 i:Int
instance:Inhabited eL:=⟨⟨default,default,default,default⟩⟩
def rF (x:eL):List KV:=[eA 32 dL x.a,eA 32 dL x.b,.bool x.t4,.int .i64 x.i]
def rG (x:eL):List (List KV):=[]
def DQ (vs:List KV) (rs:List (List KV)):eL:=⟨dP cM (vs.getD 0 .ao),dP cM (vs.getD 1 .ao),dj (vs.getD 2 .ao),ay (vs.getD 3 .ao)⟩
def Eb:aV:=⟨[(0,⟨false,[.k (.slice 32)]⟩),(1,⟨false,[.k (.slice 32)]⟩),(4,⟨false,[.k .bool]⟩),(5,⟨false,[.k (.int .i64)]⟩)],[],[]⟩
def O4:=dB Tryz.prog (bp Tryz.prog [] [] (fun _=>false)) 9 9 60 58 (dF Tryz.prog 60 58) Eb
def eU (x:eL):aW eL:=(cond (decide (x.i < ((x.a.n:Nat):Int))) (cond ((decide ((0:Int)<=x.i))&&(decide (x.i < ((x.a.n:Nat):Int)))) (cond ((decide ((0:Int)<=x.i))&&(decide (x.i < ((x.b.n:Nat):Int)))) (cond (!(((x.a.get (Int.toNat x.i)).slot==(x.b.get (Int.toNat x.i)).slot)&&(((x.a.get (Int.toNat x.i)).gen==(x.b.get (Int.toNat x.i)).gen)&&true))) (.out aB.ae.ret (⟨x.a,x.b,false,x.i⟩:eL)) (.next (⟨x.a,x.b,x.t4,(aR (x.i+(1:Int)))⟩:eL))) .fail) .fail) (.out (aB.ae.exit 0) x))
theorem LM (x:eL):O4 (rF x) (rG x)=aW.enc rF rG (eU x):=by
 unfold eU
 try simp only [aW.cf]
 kernel_rfl
def sq:Lp:=⟨60,58,Eb,fun vs rs=>dC rF rG (goN eU (DQ vs rs)) [aB.ae.exit 0,aB.ae.ret],false⟩
theorem O5:sq.Ok Tryz.prog:=b8 funcs mixed ah.nil au.nil (L:=9) (n:=9) (step:=eU) (ev:=rF) (er:=rG) (pa:=DQ) rfl (fun wv wr=>⟨by kernel_rfl,by kernel_rfl⟩) LM
theorem JL:bZ Tryz.prog sq.f sq.p=true:=by kernel_rfl
def Hc:List (Nat×(List KV->KR KV)):=[]
def Hd:List Lp:=[sq]
theorem Qd:ah Tryz.prog Hc:=ah.nil
theorem Qe:au Tryz.prog Hd:=(au.cons O5 JL au.nil)
def ud (a:(Sl Handle)) (b:(Sl Handle)):(aW eL):=(goN eU (⟨a,b,false,(0:Int)⟩:eL))
def pE (a:(Sl Handle)) (b:(Sl Handle)):Option (Bool):=(cond (((a.n:Nat):Int) != ((b.n:Nat):Int)) (some (false)) (cond ((ud a b).by (aB.ae.exit 0)) (some (true)) (cond ((ud a b).by aB.ae.ret) (some ((ud a b).st.t4)) none)))
theorem Sd (a:(Sl Handle)) (b:(Sl Handle)):cD Tryz.prog (bp Tryz.prog Hc Hd (fun _=>false)) 9 9 60 [(eA 32 dL) a,(eA 32 dL) b] = (pE a b).map kB:=by
 unfold pE
 try simp only [bq]
 kernel_rfl
def Jw:List KV->KR KV:=bI Tryz.prog 60 (bL kB fun vs=>pE ((dP cM) (vs.getD 0 .ao)) ((dP cM) (vs.getD 1 .ao)))
theorem Qf (w:Nat->KV):ck Tryz.prog [35,35] w 0 = [(eA 32 dL) ((dP cM) (ax Tryz.prog (ai Tryz.prog aj) 35 (w 0))),(eA 32 dL) ((dP cM) (ax Tryz.prog (ai Tryz.prog aj) 35 (w 1)))]:=by kernel_rfl
theorem Qg:bH Tryz.prog 60 Jw:=aL funcs mixed Qd Qe (L:=9) (n:=9) fun w=>by
 have e:aG Tryz.prog 60 = [35,35]:=by kernel_rfl
 rw [e,Qf]
 exact (Sd ((dP cM) (ax Tryz.prog (ai Tryz.prog aj) 35 (w 0))) ((dP cM) (ax Tryz.prog (ai Tryz.prog aj) 35 (w 1)))).trans (by kernel_rfl)
def Vb:List (Nat×(List KV->KR KV)):=[(60,Jw),(53,aii),(52,adl),(26,Zg)]
def Vc:List Lp:=[]
theorem aeE:ah Tryz.prog Vb:=(ah.cons Qg (ah.cons ajW (ah.cons aih (ah.cons ad2 ah.nil))))
theorem aeF:au Tryz.prog Vc:=au.nil
def DR (s:aP) (p:Path):(Option Int):=(zU s)
def Jx (s:aP) (p:Path):(Option Bool):=(Gj s)
def DS (s:aP) (p:Path):(Option (Prod Path Bool)):=(EY s p.kids)
def Jy (s:aP) (p:Path):(Option Bool):=(pE ((DS s p).getD default).fst.nodes p.nodes)
def Ah (s:aP) (p:Path):Option (Int):=(cond (DR s p).isSome (cond (((DR s p).getD default) != (0:Int)) (some (((DR s p).getD default))) (cond (Jx s p).isSome (cond ((Jx s p).getD default) (some ((8:Int))) (cond (DS s p).isSome (cond (!((DS s p).getD default).snd) (some ((8:Int))) (cond (Jy s p).isSome (cond (!((Jy s p).getD default)) (some ((8:Int))) (some ((0:Int)))) none)) none)) none)) none)
theorem aij (s:aP) (p:Path):cD Tryz.prog (bp Tryz.prog Vb Vc (fun _=>false)) 9 9 56 [dx s,sD p] = (Ah s p).map (kI .i64):=by
 unfold Ah
 try simp only [bq]
 kernel_rfl
def ZY:List KV->KR KV:=bI Tryz.prog 56 (bL (kI .i64) fun vs=>Ah (b6 (vs.getD 0 .ao)) (qT (vs.getD 1 .ao)))
theorem aeG (w:Nat->KV):ck Tryz.prog [34,38] w 0 = [dx (b6 (ax Tryz.prog (ai Tryz.prog aj) 34 (w 0))),sD (qT (ax Tryz.prog (ai Tryz.prog aj) 38 (w 1)))]:=by kernel_rfl
theorem aeH:bH Tryz.prog 56 ZY:=aL funcs mixed aeE aeF (L:=9) (n:=9) fun w=>by
 have e:aG Tryz.prog 56 = [34,38]:=by kernel_rfl
 rw [e,aeG]
 exact (aij (b6 (ax Tryz.prog (ai Tryz.prog aj) 34 (w 0))) (qT (ax Tryz.prog (ai Tryz.prog aj) 38 (w 1)))).trans (by kernel_rfl)
structure nG where
 uB:Int
 place:Int
 t4:Bool
 i:Int
instance:Inhabited nG:=⟨⟨default,default,default,default⟩⟩
def DT (x:nG):List KV:=[.int .u16 x.uB,.int .i64 x.place,.bool x.t4,.int .i64 x.i]
def DU (x:nG):List (List KV):=[]
def Se (vs:List KV) (rs:List (List KV)):nG:=⟨ay (vs.getD 0 .ao),ay (vs.getD 1 .ao),dj (vs.getD 2 .ao),ay (vs.getD 3 .ao)⟩
def Vd:aV:=⟨[(0,⟨false,[.k (.int .u16)]⟩),(1,⟨false,[.k (.int .i64)]⟩),(4,⟨false,[.k .bool]⟩),(5,⟨false,[.k (.int .i64)]⟩)],[],[]⟩
def aik:=dB Tryz.prog (bp Tryz.prog [] [] (fun _=>false)) 9 9 105 26 (dF Tryz.prog 105 26) Vd
def pF (x:nG):aW nG:=(cond (decide (x.i < x.place)) (.next (⟨(w16 (Int.tdiv x.uB (2:Int))),x.place,x.t4,(aR (x.i+(1:Int)))⟩:nG)) (.out (aB.ae.exit 0) x))
theorem abN (x:nG):aik (DT x) (DU x)=aW.enc DT DU (pF x):=by
 unfold pF
 try simp only [aW.cf]
 kernel_rfl
def FF:Lp:=⟨105,26,Vd,fun vs rs=>dC DT DU (goN pF (Se vs rs)) [aB.ae.exit 0],false⟩
theorem ail:FF.Ok Tryz.prog:=b8 funcs mixed ah.nil au.nil (L:=9) (n:=9) (step:=pF) (ev:=DT) (er:=DU) (pa:=Se) rfl (fun wv wr=>⟨by kernel_rfl,by kernel_rfl⟩) abN
theorem ZZ:bZ Tryz.prog FF.f FF.p=true:=by kernel_rfl
def ado:List (Nat×(List KV->KR KV)):=[]
def adp:List Lp:=[FF]
theorem ajX:ah Tryz.prog ado:=ah.nil
theorem ajY:au Tryz.prog adp:=(au.cons ail ZZ au.nil)
def O6 (uB:Int) (place:Int):(aW nG):=(goN pF (⟨uB,place,false,(0:Int)⟩:nG))
def EZ (uB:Int) (place:Int):Option (Bool):=(cond ((O6 uB place).by (aB.ae.exit 0)) (some (((Int.tmod (O6 uB place).st.uB (2:Int))==(1:Int)))) none)
theorem ams (uB:Int) (place:Int):cD Tryz.prog (bp Tryz.prog ado adp (fun _=>false)) 9 9 105 [(kI .u16) uB,(kI .i64) place] = (EZ uB place).map kB:=by
 unfold EZ
 try simp only [bq]
 kernel_rfl
def W8:List KV->KR KV:=bI Tryz.prog 105 (bL kB fun vs=>EZ (ay (vs.getD 0 .ao)) (ay (vs.getD 1 .ao)))
theorem ajZ (w:Nat->KV):ck Tryz.prog [72,3] w 0 = [(kI .u16) (ay (ax Tryz.prog (ai Tryz.prog aj) 72 (w 0))),(kI .i64) (ay (ax Tryz.prog (ai Tryz.prog aj) 3 (w 1)))]:=by kernel_rfl
theorem Ve:bH Tryz.prog 105 W8:=aL funcs mixed ajX ajY (L:=9) (n:=9) fun w=>by
 have e:aG Tryz.prog 105 = [72,3]:=by kernel_rfl
 rw [e,ajZ]
 exact (ams (ay (ax Tryz.prog (ai Tryz.prog aj) 72 (w 0))) (ay (ax Tryz.prog (ai Tryz.prog aj) 3 (w 1)))).trans (by kernel_rfl)
structure fK where
 t4:Bool
 i:Int
 s:aP
 p:Path
instance:Inhabited fK:=⟨⟨default,default,default,default⟩⟩
def wG (x:fK):List KV:=[.bool x.t4,.int .i64 x.i]
def wH (x:fK):List (List KV):=[uG x.s,RY x.p]
def Jz (vs:List KV) (rs:List (List KV)):fK:=⟨dj (vs.getD 0 .ao),ay (vs.getD 1 .ao),uH (fun k=>(rs.getD 0 []).getD k .ao),RZ (fun k=>(rs.getD 1 []).getD k .ao)⟩
def KN:aV:=⟨[(4,⟨false,[.k .bool]⟩),(5,⟨false,[.k (.int .i64)]⟩)],[(2,[.k (.slice 111),.k (.slice 35),.k (.slice 77),.k (.slice 88),.k (.slice 91),.k (.int .i64),.k (.int .i64)],1),(3,[.k (.slice 32),.k (.slice 3)],1)],[(2,0,0),(3,1,0)]⟩
def W9:=dB Tryz.prog (bp Tryz.prog [(105,W8)] [] (fun _=>false)) 9 9 59 26 (dF Tryz.prog 59 26) KN
def AK (x:fK):(Option Bool):=(EZ (x.s.nodes.get (Int.toNat (x.p.nodes.get (Int.toNat x.i)).slot)).uB (x.p.kids.get (Int.toNat x.i)))
def hZ (x:fK):aW fK:=(cond (decide (x.i < ((x.p.kids.n:Nat):Int))) (cond ((decide ((0:Int)<=x.i))&&(decide (x.i < ((x.p.nodes.n:Nat):Int)))) (cond ((decide ((0:Int)<=(x.p.nodes.get (Int.toNat x.i)).slot))&&(decide ((x.p.nodes.get (Int.toNat x.i)).slot < ((x.s.nodes.n:Nat):Int)))) (cond ((x.s.nodes.get (Int.toNat (x.p.nodes.get (Int.toNat x.i)).slot)).kind==(3:Int)) (cond ((decide ((0:Int)<=x.i))&&(decide (x.i < ((x.p.kids.n:Nat):Int)))) (cond (AK x).isSome (cond (!((AK x).getD default)) (.out aB.ae.ret (⟨false,x.i,x.s,x.p⟩:fK)) (.next (⟨x.t4,(aR (x.i+(1:Int))),x.s,x.p⟩:fK))) .fail) .fail) (.next (⟨x.t4,(aR (x.i+(1:Int))),x.s,x.p⟩:fK))) .fail) .fail) (.out (aB.ae.exit 0) x))
theorem Sf (x:fK):W9 (wG x) (wH x)=aW.enc wG wH (hZ x):=by
 unfold hZ
 try simp only [aW.cf]
 kernel_rfl
def yn:Lp:=⟨59,26,KN,fun vs rs=>dC wG wH (goN hZ (Jz vs rs)) [aB.ae.exit 0,aB.ae.ret],false⟩
theorem Xa:yn.Ok Tryz.prog:=b8 funcs mixed (ah.cons Ve ah.nil) au.nil (L:=9) (n:=9) (step:=hZ) (ev:=wG) (er:=wH) (pa:=Jz) rfl (fun wv wr=>⟨by kernel_rfl,by kernel_rfl⟩) Sf
theorem Qh:bZ Tryz.prog yn.f yn.p=true:=by kernel_rfl
def PU:List (Nat×(List KV->KR KV)):=[(105,W8)]
def PV:List Lp:=[yn]
theorem Z0:ah Tryz.prog PU:=(ah.cons Ve ah.nil)
theorem Z1:au Tryz.prog PV:=(au.cons Xa Qh au.nil)
def Ai (s:aP) (p:Path):(aW fK):=(goN hZ (⟨false,(0:Int),s,p⟩:fK))
def vB (s:aP) (p:Path):Option (Bool):=(cond ((Ai s p).by (aB.ae.exit 0)) (some (true)) (cond ((Ai s p).by aB.ae.ret) (some ((Ai s p).st.t4)) none))
theorem abO (s:aP) (p:Path):cD Tryz.prog (bp Tryz.prog PU PV (fun _=>false)) 9 9 59 [dx s,sD p] = (vB s p).map kB:=by
 unfold vB
 try simp only [bq]
 kernel_rfl
def Sg:List KV->KR KV:=bI Tryz.prog 59 (bL kB fun vs=>vB (b6 (vs.getD 0 .ao)) (qT (vs.getD 1 .ao)))
theorem Z2 (w:Nat->KV):ck Tryz.prog [34,38] w 0 = [dx (b6 (ax Tryz.prog (ai Tryz.prog aj) 34 (w 0))),sD (qT (ax Tryz.prog (ai Tryz.prog aj) 38 (w 1)))]:=by kernel_rfl
theorem Z3:bH Tryz.prog 59 Sg:=aL funcs mixed Z0 Z1 (L:=9) (n:=9) fun w=>by
 have e:aG Tryz.prog 59 = [34,38]:=by kernel_rfl
 rw [e,Z2]
 exact (abO (b6 (ax Tryz.prog (ai Tryz.prog aj) 34 (w 0))) (qT (ax Tryz.prog (ai Tryz.prog aj) 38 (w 1)))).trans (by kernel_rfl)
def aim:List (Nat×(List KV->KR KV)):=[(59,Sg),(56,ZY)]
def ain:List Lp:=[]
theorem amt:ah Tryz.prog aim:=(ah.cons Z3 (ah.cons aeH ah.nil))
theorem amu:au Tryz.prog ain:=au.nil
def KO (s:aP) (p:Path):(Option Int):=(Ah s p)
def Sh (s:aP) (p:Path):(Option Bool):=(vB s p)
def H8 (s:aP) (p:Path):Option (Bool×Int):=(cond (KO s p).isSome (cond (((KO s p).getD default) != (0:Int)) (some (false,((KO s p).getD default))) (cond (Sh s p).isSome (some (((Sh s p).getD default),(0:Int))) none)) none)
theorem aoA (s:aP) (p:Path):cD Tryz.prog (bp Tryz.prog aim ain (fun _=>false)) 9 9 21 [dx s,sD p] = (H8 s p).map (fun (r:Bool×Int)=>KV.nb [kB r.1,(kI .i64) r.2]):=by
 unfold H8
 try simp only [bq]
 kernel_rfl
def ak3:List KV->KR KV:=bI Tryz.prog 21 (bL (fun (r:Bool×Int)=>KV.nb [kB r.1,(kI .i64) r.2]) fun vs=>H8 (b6 (vs.getD 0 .ao)) (qT (vs.getD 1 .ao)))
theorem amv (w:Nat->KV):ck Tryz.prog [34,38] w 0 = [dx (b6 (ax Tryz.prog (ai Tryz.prog aj) 34 (w 0))),sD (qT (ax Tryz.prog (ai Tryz.prog aj) 38 (w 1)))]:=by kernel_rfl
theorem amw:bH Tryz.prog 21 ak3:=aL funcs mixed amt amu (L:=9) (n:=9) fun w=>by
 have e:aG Tryz.prog 21 = [34,38]:=by kernel_rfl
 rw [e,amv]
 exact (aoA (b6 (ax Tryz.prog (ai Tryz.prog aj) 34 (w 0))) (qT (ax Tryz.prog (ai Tryz.prog aj) 38 (w 1)))).trans (by kernel_rfl)
def Z4:List (Nat×(List KV->KR KV)):=[]
def Z5:List Lp:=[]
theorem aio:ah Tryz.prog Z4:=ah.nil
theorem aip:au Tryz.prog Z5:=au.nil
def Gk  : Option (dm):=(some ((⟨(⟨(⟨(256:Int),(0:Int),(0:Int)⟩:az),(⟨(0:Int),(256:Int),(0:Int)⟩:az),(⟨(0:Int),(0:Int),(256:Int)⟩:az)⟩:bw),(⟨(0:Int),(0:Int),(0:Int)⟩:fO)⟩:dm)))
theorem aj0  : cD Tryz.prog (bp Tryz.prog Z4 Z5 (fun _=>false)) 9 9 95 [] = (Gk ).map mv:=by
 unfold Gk
 kernel_rfl
def Si:List KV->KR KV:=bI Tryz.prog 95 (bL mv fun vs=>Gk )
theorem aiq (w:Nat->KV):ck Tryz.prog [] w 0 = []:=by kernel_rfl
theorem Sj:bH Tryz.prog 95 Si:=aL funcs mixed aio aip (L:=9) (n:=9) fun w=>by
 have e:aG Tryz.prog 95 = []:=by kernel_rfl
 rw [e,aiq]
 exact (aj0 ).trans (by kernel_rfl)
def Z6:List (Nat×(List KV->KR KV)):=[]
def Z7:List Lp:=[]
theorem air:ah Tryz.prog Z6:=ah.nil
theorem ais:au Tryz.prog Z7:=au.nil
def yU (a:Int) (b:Int):Option (Int):=(cond (!(decide (b=(0:Int)))) (cond (decide ((aR ((aR (Int.tdiv a b)) * b)) > a)) (some ((aR ((aR (Int.tdiv a b)) - (1:Int))))) (some ((aR (Int.tdiv a b))))) none)
theorem aj1 (a:Int) (b:Int):cD Tryz.prog (bp Tryz.prog Z6 Z7 (fun _=>false)) 9 9 208 [(kI .i64) a,(kI .i64) b] = (yU a b).map (kI .i64):=by
 unfold yU
 try simp only [bq]
 kernel_rfl
def adq:List KV->KR KV:=bI Tryz.prog 208 (bL (kI .i64) fun vs=>yU (ay (vs.getD 0 .ao)) (ay (vs.getD 1 .ao)))
theorem ait (w:Nat->KV):ck Tryz.prog [3,3] w 0 = [(kI .i64) (ay (ax Tryz.prog (ai Tryz.prog aj) 3 (w 0))),(kI .i64) (ay (ax Tryz.prog (ai Tryz.prog aj) 3 (w 1)))]:=by kernel_rfl
theorem aiu:bH Tryz.prog 208 adq:=aL funcs mixed air ais (L:=9) (n:=9) fun w=>by
 have e:aG Tryz.prog 208 = [3,3]:=by kernel_rfl
 rw [e,ait]
 exact (aj1 (ay (ax Tryz.prog (ai Tryz.prog aj) 3 (w 0))) (ay (ax Tryz.prog (ai Tryz.prog aj) 3 (w 1)))).trans (by kernel_rfl)
def aiv:List (Nat×(List KV->KR KV)):=[(208,adq)]
def aiw:List Lp:=[]
theorem amx:ah Tryz.prog aiv:=(ah.cons aiu ah.nil)
theorem amy:au Tryz.prog aiw:=au.nil
def Sk (row:az) (v:fO):(Option Int):=(yU (aR ((aR ((aR (row.e0 * v.x))+(aR (row.e1 * v.y))))+(aR (row.e2 * v.z)))) (256:Int))
def nB (row:az) (v:fO):Option (Int):=(cond (Sk row v).isSome (some (((Sk row v).getD default))) none)
theorem aoB (row:az) (v:fO):cD Tryz.prog (bp Tryz.prog aiv aiw (fun _=>false)) 9 9 167 [df row,mu v] = (nB row v).map (kI .i64):=by
 unfold nB
 try simp only [bq]
 kernel_rfl
def abP:List KV->KR KV:=bI Tryz.prog 167 (bL (kI .i64) fun vs=>nB (dv (vs.getD 0 .ao)) (kM (vs.getD 1 .ao)))
theorem amz (w:Nat->KV):ck Tryz.prog [40,43] w 0 = [df (dv (ax Tryz.prog (ai Tryz.prog aj) 40 (w 0))),mu (kM (ax Tryz.prog (ai Tryz.prog aj) 43 (w 1)))]:=by kernel_rfl
theorem Z8:bH Tryz.prog 167 abP:=aL funcs mixed amx amy (L:=9) (n:=9) fun w=>by
 have e:aG Tryz.prog 167 = [40,43]:=by kernel_rfl
 rw [e,amz]
 exact (aoB (dv (ax Tryz.prog (ai Tryz.prog aj) 40 (w 0))) (kM (ax Tryz.prog (ai Tryz.prog aj) 43 (w 1)))).trans (by kernel_rfl)
def Sm:List (Nat×(List KV->KR KV)):=[(167,abP)]
def Sn:List Lp:=[]
theorem abQ:ah Tryz.prog Sm:=(ah.cons Z8 ah.nil)
theorem abR:au Tryz.prog Sn:=au.nil
def GW (m:bw) (v:fO):(Option Int):=(nB m.e0 v)
def GX (m:bw) (v:fO):(Option Int):=(nB m.e1 v)
def GY (m:bw) (v:fO):(Option Int):=(nB m.e2 v)
def xB (m:bw) (v:fO):Option (fO):=(cond (GW m v).isSome (cond (GX m v).isSome (cond (GY m v).isSome (some ((⟨((GW m v).getD default),((GX m v).getD default),((GY m v).getD default)⟩:fO))) none) none) none)
theorem aeI (m:bw) (v:fO):cD Tryz.prog (bp Tryz.prog Sm Sn (fun _=>false)) 9 9 166 [gb m,mu v] = (xB m v).map mu:=by
 unfold xB
 try simp only [bq]
 kernel_rfl
def Vf:List KV->KR KV:=bI Tryz.prog 166 (bL mu fun vs=>xB (cV (vs.getD 0 .ao)) (kM (vs.getD 1 .ao)))
theorem abS (w:Nat->KV):ck Tryz.prog [41,43] w 0 = [gb (cV (ax Tryz.prog (ai Tryz.prog aj) 41 (w 0))),mu (kM (ax Tryz.prog (ai Tryz.prog aj) 43 (w 1)))]:=by kernel_rfl
theorem abT:bH Tryz.prog 166 Vf:=aL funcs mixed abQ abR (L:=9) (n:=9) fun w=>by
 have e:aG Tryz.prog 166 = [41,43]:=by kernel_rfl
 rw [e,abS]
 exact (aeI (cV (ax Tryz.prog (ai Tryz.prog aj) 41 (w 0))) (kM (ax Tryz.prog (ai Tryz.prog aj) 43 (w 1)))).trans (by kernel_rfl)
def Z9:List (Nat×(List KV->KR KV)):=[]
def aaa:List Lp:=[]
theorem aix:ah Tryz.prog Z9:=ah.nil
theorem aiy:au Tryz.prog aaa:=au.nil
def CC (a:fO) (b:fO):Option (fO):=(some ((⟨(aR (a.x+b.x)),(aR (a.y+b.y)),(aR (a.z+b.z))⟩:fO)))
theorem aj2 (a:fO) (b:fO):cD Tryz.prog (bp Tryz.prog Z9 aaa (fun _=>false)) 9 9 165 [mu a,mu b] = (CC a b).map mu:=by
 unfold CC
 kernel_rfl
def adr:List KV->KR KV:=bI Tryz.prog 165 (bL mu fun vs=>CC (kM (vs.getD 0 .ao)) (kM (vs.getD 1 .ao)))
theorem aiz (w:Nat->KV):ck Tryz.prog [43,43] w 0 = [mu (kM (ax Tryz.prog (ai Tryz.prog aj) 43 (w 0))),mu (kM (ax Tryz.prog (ai Tryz.prog aj) 43 (w 1)))]:=by kernel_rfl
theorem aiA:bH Tryz.prog 165 adr:=aL funcs mixed aix aiy (L:=9) (n:=9) fun w=>by
 have e:aG Tryz.prog 165 = [43,43]:=by kernel_rfl
 rw [e,aiz]
 exact (aj2 (kM (ax Tryz.prog (ai Tryz.prog aj) 43 (w 0))) (kM (ax Tryz.prog (ai Tryz.prog aj) 43 (w 1)))).trans (by kernel_rfl)
def ads:List (Nat×(List KV->KR KV)):=[(167,abP),(165,adr),(166,Vf),(138,Wu)]
def adt:List Lp:=[]
theorem aj3:ah Tryz.prog ads:=(ah.cons Z8 (ah.cons aiA (ah.cons abT (ah.cons UK ah.nil))))
theorem aj4:au Tryz.prog adt:=au.nil
def O7 (a:dm) (b:dm):(Option Bool):=(wq a)
def O8 (a:dm) (b:dm):(Option Bool):=(wq b)
def O9 (a:dm) (b:dm):(Option fO):=(xB a.m b.t)
def HL (a:dm) (b:dm):(Option fO):=(CC ((O9 a b).getD default) a.t)
def HM (a:dm) (b:dm):(Option Int):=(nB a.m.e0 (⟨b.m.e0.e0,b.m.e1.e0,b.m.e2.e0⟩:fO))
def HN (a:dm) (b:dm):(Option Int):=(nB a.m.e0 (⟨b.m.e0.e1,b.m.e1.e1,b.m.e2.e1⟩:fO))
def HO (a:dm) (b:dm):(Option Int):=(nB a.m.e0 (⟨b.m.e0.e2,b.m.e1.e2,b.m.e2.e2⟩:fO))
def HP (a:dm) (b:dm):(Option Int):=(nB a.m.e1 (⟨b.m.e0.e0,b.m.e1.e0,b.m.e2.e0⟩:fO))
def HQ (a:dm) (b:dm):(Option Int):=(nB a.m.e1 (⟨b.m.e0.e1,b.m.e1.e1,b.m.e2.e1⟩:fO))
def HR (a:dm) (b:dm):(Option Int):=(nB a.m.e1 (⟨b.m.e0.e2,b.m.e1.e2,b.m.e2.e2⟩:fO))
def FG (a:dm) (b:dm):(Option Int):=(nB a.m.e2 (⟨b.m.e0.e0,b.m.e1.e0,b.m.e2.e0⟩:fO))
def FH (a:dm) (b:dm):(Option Int):=(nB a.m.e2 (⟨b.m.e0.e1,b.m.e1.e1,b.m.e2.e1⟩:fO))
def FJ (a:dm) (b:dm):(Option Int):=(nB a.m.e2 (⟨b.m.e0.e2,b.m.e1.e2,b.m.e2.e2⟩:fO))
def LN (a:dm) (b:dm):(Option Bool):=(wq (⟨(⟨(⟨((HM a b).getD default),((HN a b).getD default),((HO a b).getD default)⟩:az),(⟨((HP a b).getD default),((HQ a b).getD default),((HR a b).getD default)⟩:az),(⟨((FG a b).getD default),((FH a b).getD default),((FJ a b).getD default)⟩:az)⟩:bw),((HL a b).getD default)⟩:dm))
def E4 (a:dm) (b:dm):Option (dm×Int):=(cond (O7 a b).isSome (cond (!((O7 a b).getD default)) (some ((⟨(⟨(⟨(0:Int),(0:Int),(0:Int)⟩:az),(⟨(0:Int),(0:Int),(0:Int)⟩:az),(⟨(0:Int),(0:Int),(0:Int)⟩:az)⟩:bw),(⟨(0:Int),(0:Int),(0:Int)⟩:fO)⟩:dm),(20:Int))) (cond (O8 a b).isSome (cond (!((O8 a b).getD default)) (some ((⟨(⟨(⟨(0:Int),(0:Int),(0:Int)⟩:az),(⟨(0:Int),(0:Int),(0:Int)⟩:az),(⟨(0:Int),(0:Int),(0:Int)⟩:az)⟩:bw),(⟨(0:Int),(0:Int),(0:Int)⟩:fO)⟩:dm),(20:Int))) (cond (O9 a b).isSome (cond (HL a b).isSome (cond (HM a b).isSome (cond (HN a b).isSome (cond (HO a b).isSome (cond (HP a b).isSome (cond (HQ a b).isSome (cond (HR a b).isSome (cond (FG a b).isSome (cond (FH a b).isSome (cond (FJ a b).isSome (cond (LN a b).isSome (cond (!((LN a b).getD default)) (some ((⟨(⟨(⟨(0:Int),(0:Int),(0:Int)⟩:az),(⟨(0:Int),(0:Int),(0:Int)⟩:az),(⟨(0:Int),(0:Int),(0:Int)⟩:az)⟩:bw),(⟨(0:Int),(0:Int),(0:Int)⟩:fO)⟩:dm),(20:Int))) (some ((⟨(⟨(⟨((HM a b).getD default),((HN a b).getD default),((HO a b).getD default)⟩:az),(⟨((HP a b).getD default),((HQ a b).getD default),((HR a b).getD default)⟩:az),(⟨((FG a b).getD default),((FH a b).getD default),((FJ a b).getD default)⟩:az)⟩:bw),((HL a b).getD default)⟩:dm),(0:Int)))) none) none) none) none) none) none) none) none) none) none) none) none)) none)) none)
theorem amA (a:dm) (b:dm):cD Tryz.prog (bp Tryz.prog ads adt (fun _=>false)) 9 9 96 [mv a,mv b] = (E4 a b).map (fun (r:dm×Int)=>KV.nb [mv r.1,(kI .i64) r.2]):=by
 unfold E4
 try simp only [bq]
 kernel_rfl
def Xb:List KV->KR KV:=bI Tryz.prog 96 (bL (fun (r:dm×Int)=>KV.nb [mv r.1,(kI .i64) r.2]) fun vs=>E4 (mw (vs.getD 0 .ao)) (mw (vs.getD 1 .ao)))
theorem aj5 (w:Nat->KV):ck Tryz.prog [45,45] w 0 = [mv (mw (ax Tryz.prog (ai Tryz.prog aj) 45 (w 0))),mv (mw (ax Tryz.prog (ai Tryz.prog aj) 45 (w 1)))]:=by kernel_rfl
theorem Vg:bH Tryz.prog 96 Xb:=aL funcs mixed aj3 aj4 (L:=9) (n:=9) fun w=>by
 have e:aG Tryz.prog 96 = [45,45]:=by kernel_rfl
 rw [e,aj5]
 exact (amA (mw (ax Tryz.prog (ai Tryz.prog aj) 45 (w 0))) (mw (ax Tryz.prog (ai Tryz.prog aj) 45 (w 1)))).trans (by kernel_rfl)
structure iE where
 upto:Int
 t7:Int
 i:Int
 s:aP
 p:Path
 t6:dm
 m:dm
instance:Inhabited iE:=⟨by constructor<;>exact default⟩
def Aj (x:iE):List KV:=[.int .i64 x.upto,.int .i64 x.t7,.int .i64 x.i]
def Ak (x:iE):List (List KV):=[uG x.s,RY x.p,arC x.t6,arC x.m]
def Nl (vs:List KV) (rs:List (List KV)):iE:=⟨ay (vs.getD 0 .ao),ay (vs.getD 1 .ao),ay (vs.getD 2 .ao),uH (fun k=>(rs.getD 0 []).getD k .ao),RZ (fun k=>(rs.getD 1 []).getD k .ao),arD (fun k=>(rs.getD 2 []).getD k .ao),arD (fun k=>(rs.getD 3 []).getD k .ao)⟩
def PW:aV:=⟨[(2,⟨false,[.k (.int .i64)]⟩),(7,⟨false,[.k (.int .i64)]⟩),(9,⟨false,[.k (.int .i64)]⟩)],[(3,[.k (.slice 111),.k (.slice 35),.k (.slice 77),.k (.slice 88),.k (.slice 91),.k (.int .i64),.k (.int .i64)],1),(4,[.k (.slice 32),.k (.slice 3)],1),(6,[.k (.int .i64),.k (.int .i64),.k (.int .i64),.k (.int .i64),.k (.int .i64),.k (.int .i64),.k (.int .i64),.k (.int .i64),.k (.int .i64),.k (.int .i64),.k (.int .i64),.k (.int .i64)],1),(8,[.k (.int .i64),.k (.int .i64),.k (.int .i64),.k (.int .i64),.k (.int .i64),.k (.int .i64),.k (.int .i64),.k (.int .i64),.k (.int .i64),.k (.int .i64),.k (.int .i64),.k (.int .i64)],1)],[(3,0,0),(4,1,0),(6,2,0),(8,3,0)]⟩
def abU:=dB Tryz.prog (bp Tryz.prog [(96,Xb),(95,Si)] [] (fun _=>false)) 9 9 46 58 (dF Tryz.prog 46 58) PW
def ue (x:iE):(Option (Prod dm Int)):=(E4 x.m (x.s.nodes.get (Int.toNat (x.p.nodes.get (Int.toNat x.i)).slot)).gd)
def lF (x:iE):aW iE:=(cond (decide (x.i<=x.upto)) (cond ((decide ((0:Int)<=x.i))&&(decide (x.i < ((x.p.nodes.n:Nat):Int)))) (cond ((decide ((0:Int)<=(x.p.nodes.get (Int.toNat x.i)).slot))&&(decide ((x.p.nodes.get (Int.toNat x.i)).slot < ((x.s.nodes.n:Nat):Int)))) (cond ((x.s.nodes.get (Int.toNat (x.p.nodes.get (Int.toNat x.i)).slot)).kind==(2:Int)) (cond (ue x).isSome (cond (((ue x).getD default).snd != (0:Int)) (.out aB.ae.ret (⟨x.upto,((ue x).getD default).snd,x.i,x.s,x.p,(⟨(⟨(⟨(0:Int),(0:Int),(0:Int)⟩:az),(⟨(0:Int),(0:Int),(0:Int)⟩:az),(⟨(0:Int),(0:Int),(0:Int)⟩:az)⟩:bw),(⟨(0:Int),(0:Int),(0:Int)⟩:fO)⟩:dm),x.m⟩:iE)) (.next (⟨x.upto,x.t7,(aR (x.i+(1:Int))),x.s,x.p,x.t6,((ue x).getD default).fst⟩:iE))) .fail) (.next (⟨x.upto,x.t7,(aR (x.i+(1:Int))),x.s,x.p,x.t6,x.m⟩:iE))) .fail) .fail) (.out (aB.ae.exit 0) x))
theorem Xc (x:iE):abU (Aj x) (Ak x)=aW.enc Aj Ak (lF x):=by
 unfold lF
 try simp only [aW.cf]
 kernel_rfl
def BL:Lp:=⟨46,58,PW,fun vs rs=>dC Aj Ak (goN lF (Nl vs rs)) [aB.ae.exit 0,aB.ae.ret],false⟩
theorem abV:BL.Ok Tryz.prog:=b8 funcs mixed (ah.cons Vg (ah.cons Sj ah.nil)) au.nil (L:=9) (n:=9) (step:=lF) (ev:=Aj) (er:=Ak) (pa:=Nl) rfl (fun wv wr=>⟨by kernel_rfl,by kernel_rfl⟩) Xc
theorem TU:bZ Tryz.prog BL.f BL.p=true:=by kernel_rfl
def Vh:List (Nat×(List KV->KR KV)):=[(96,Xb),(95,Si)]
def Vi:List Lp:=[BL]
theorem aeJ:ah Tryz.prog Vh:=(ah.cons Vg (ah.cons Sj ah.nil))
theorem aeK:au Tryz.prog Vi:=(au.cons abV TU au.nil)
def JA (s:aP) (p:Path) (upto:Int):(Option dm):=Gk
def vC (s:aP) (p:Path) (upto:Int):(aW iE):=(goN lF (⟨upto,(0:Int),(0:Int),s,p,(⟨(⟨(⟨(0:Int),(0:Int),(0:Int)⟩:az),(⟨(0:Int),(0:Int),(0:Int)⟩:az),(⟨(0:Int),(0:Int),(0:Int)⟩:az)⟩:bw),(⟨(0:Int),(0:Int),(0:Int)⟩:fO)⟩:dm),((JA s p upto).getD default)⟩:iE))
def Al (s:aP) (p:Path) (upto:Int):Option (dm×Int):=(cond (JA s p upto).isSome (cond ((vC s p upto).by (aB.ae.exit 0)) (some ((vC s p upto).st.m,(0:Int))) (cond ((vC s p upto).by aB.ae.ret) (some ((vC s p upto).st.t6,(vC s p upto).st.t7)) none)) none)
theorem aiB (s:aP) (p:Path) (upto:Int):cD Tryz.prog (bp Tryz.prog Vh Vi (fun _=>false)) 9 9 46 [dx s,sD p,(kI .i64) upto] = (Al s p upto).map (fun (r:dm×Int)=>KV.nb [mv r.1,(kI .i64) r.2]):=by
 unfold Al
 try simp only [bq]
 kernel_rfl
def aab:List KV->KR KV:=bI Tryz.prog 46 (bL (fun (r:dm×Int)=>KV.nb [mv r.1,(kI .i64) r.2]) fun vs=>Al (b6 (vs.getD 0 .ao)) (qT (vs.getD 1 .ao)) (ay (vs.getD 2 .ao)))
theorem aeL (w:Nat->KV):ck Tryz.prog [34,38,3] w 0 = [dx (b6 (ax Tryz.prog (ai Tryz.prog aj) 34 (w 0))),sD (qT (ax Tryz.prog (ai Tryz.prog aj) 38 (w 1))),(kI .i64) (ay (ax Tryz.prog (ai Tryz.prog aj) 3 (w 2)))]:=by kernel_rfl
theorem aeM:bH Tryz.prog 46 aab:=aL funcs mixed aeJ aeK (L:=9) (n:=9) fun w=>by
 have e:aG Tryz.prog 46 = [34,38,3]:=by kernel_rfl
 rw [e,aeL]
 exact (aiB (b6 (ax Tryz.prog (ai Tryz.prog aj) 34 (w 0))) (qT (ax Tryz.prog (ai Tryz.prog aj) 38 (w 1))) (ay (ax Tryz.prog (ai Tryz.prog aj) 3 (w 2)))).trans (by kernel_rfl)
def adu:List (Nat×(List KV->KR KV)):=[(46,aab),(21,ak3)]
def adv:List Lp:=[]
theorem aj6:ah Tryz.prog adu:=(ah.cons aeM (ah.cons amw ah.nil))
theorem aj7:au Tryz.prog adv:=au.nil
def HS (s:aP) (p:Path):(Option (Prod Bool Int)):=(H8 s p)
def HT (s:aP) (p:Path):(Option (Prod dm Int)):=(Al s p (aR (((p.nodes.n:Nat):Int) - (1:Int))))
def E5 (s:aP) (p:Path):Option (dm×Int):=(cond (HS s p).isSome (cond (((HS s p).getD default).snd != (0:Int)) (some ((⟨(⟨(⟨(0:Int),(0:Int),(0:Int)⟩:az),(⟨(0:Int),(0:Int),(0:Int)⟩:az),(⟨(0:Int),(0:Int),(0:Int)⟩:az)⟩:bw),(⟨(0:Int),(0:Int),(0:Int)⟩:fO)⟩:dm),((HS s p).getD default).snd)) (cond (HT s p).isSome (some (((HT s p).getD default).fst,((HT s p).getD default).snd)) none)) none)
theorem amB (s:aP) (p:Path):cD Tryz.prog (bp Tryz.prog adu adv (fun _=>false)) 9 9 14 [dx s,sD p] = (E5 s p).map (fun (r:dm×Int)=>KV.nb [mv r.1,(kI .i64) r.2]):=by
 unfold E5
 try simp only [bq]
 kernel_rfl
def aiC:List KV->KR KV:=bI Tryz.prog 14 (bL (fun (r:dm×Int)=>KV.nb [mv r.1,(kI .i64) r.2]) fun vs=>E5 (b6 (vs.getD 0 .ao)) (qT (vs.getD 1 .ao)))
theorem aj8 (w:Nat->KV):ck Tryz.prog [34,38] w 0 = [dx (b6 (ax Tryz.prog (ai Tryz.prog aj) 34 (w 0))),sD (qT (ax Tryz.prog (ai Tryz.prog aj) 38 (w 1)))]:=by kernel_rfl
theorem aj9:bH Tryz.prog 14 aiC:=aL funcs mixed aj6 aj7 (L:=9) (n:=9) fun w=>by
 have e:aG Tryz.prog 14 = [34,38]:=by kernel_rfl
 rw [e,aj8]
 exact (amB (b6 (ax Tryz.prog (ai Tryz.prog aj) 34 (w 0))) (qT (ax Tryz.prog (ai Tryz.prog aj) 38 (w 1)))).trans (by kernel_rfl)
def E6:List (Nat×(List KV->KR KV)):=[(14,aiC),(13,ZU),(12,YI)]
def E7:List Lp:=[]
theorem Xd:ah Tryz.prog E6:=(ah.cons aj9 (ah.cons aeB (ah.cons adU ah.nil)))
theorem Xe:au Tryz.prog E7:=au.nil
def DV (s:aP) (p:Path):(Option Bool):=(zy s)
def fa (s:aP) (p:Path):(Option (Prod dm Int)):=(Ag s p)
def fc (s:aP) (p:Path):(Option (Prod dm Int)):=(E5 s p)
def BM (s:aP) (p:Path):Option (Bool):=(cond (DV s p).isSome (cond ((DV s p).getD default) (some (true)) (cond (decide (((p.nodes.n:Nat):Int) > (400:Int))) (some (true)) (cond (decide (((p.kids.n:Nat):Int) > (400:Int))) (some (true)) (cond (fa s p).isSome (cond (fc s p).isSome (cond ((((fa s p).getD default).fst.m.e0.e0==((fc s p).getD default).fst.m.e0.e0)&&((((fa s p).getD default).fst.m.e0.e1==((fc s p).getD default).fst.m.e0.e1)&&((((fa s p).getD default).fst.m.e0.e2==((fc s p).getD default).fst.m.e0.e2)&&((((fa s p).getD default).fst.m.e1.e0==((fc s p).getD default).fst.m.e1.e0)&&((((fa s p).getD default).fst.m.e1.e1==((fc s p).getD default).fst.m.e1.e1)&&((((fa s p).getD default).fst.m.e1.e2==((fc s p).getD default).fst.m.e1.e2)&&((((fa s p).getD default).fst.m.e2.e0==((fc s p).getD default).fst.m.e2.e0)&&((((fa s p).getD default).fst.m.e2.e1==((fc s p).getD default).fst.m.e2.e1)&&((((fa s p).getD default).fst.m.e2.e2==((fc s p).getD default).fst.m.e2.e2)&&((((fa s p).getD default).fst.t.x==((fc s p).getD default).fst.t.x)&&((((fa s p).getD default).fst.t.y==((fc s p).getD default).fst.t.y)&&((((fa s p).getD default).fst.t.z==((fc s p).getD default).fst.t.z)&&true)))))))))))) (some ((((fa s p).getD default).snd==((fc s p).getD default).snd))) (some (false))) none) none)))) none)
theorem aac (s:aP) (p:Path):cD Tryz.prog (bp Tryz.prog E6 E7 (fun q=>Nat.beq q 3)) 9 9 3 [dx s,sD p] = (BM s p).map kB:=by
 unfold BM
 try simp only [bq]
 kernel_rfl
theorem Xf (w:Nat->KV):ck Tryz.prog [34,38] w 0 = [dx (b6 (ax Tryz.prog (ai Tryz.prog aj) 34 (w 0))),sD (qT (ax Tryz.prog (ai Tryz.prog aj) 38 (w 1)))]:=by kernel_rfl
end
end Go.Proofs.YtckbdndhmcoihaaGreat.b
end
section
namespace Go.K
open Go Go.aB
theorem aW.go_rule {X:Type} {step:X->aW X} {I:Nat->X->Prop} {Q:ae->X->Prop} {n:Nat}
  (h:∀ j x,j<=n->I j x->(∃ x',step x = .next x'/\j < n/\I (j+1) x')\/∃ e x',step x = .out e x'/\va e=false/\Q e x') :
  ∀ (r j:Nat) (x:X),j+r=n->I j x->∀ N,r < N->∃ e x',aW.go step N x = .out e x'/\Q e x'
 | r,j,x,hj,hI,0,hN=>by omega
 | r,j,x,hj,hI,N+1,hN=>by
  rcases h j x (by omega) hI with ⟨x',h1,h2,h3⟩ | ⟨e,x',h1,h2,h3⟩
  ·obtain ⟨r',rfl⟩:∃ r',r=r' + 1:=⟨r - 1,by omega⟩
   obtain ⟨e,y,h4,h5⟩:=aW.go_rule h r' (j+1) x' (by omega) h3 N (by omega);exact ⟨e,y,by simp only [aW.go,h1,h4],h5⟩
  ·exact ⟨e,x',by simp only [aW.go,h1,h2,ba],h3⟩
theorem jq {X:Type} {step:X->aW X} (I:Nat->X->Prop) (Q:ae->X->Prop) (n:Nat) (hn:n < iI)
  (h:∀ j x,j<=n->I j x->(∃ x',step x = .next x'/\j < n/\I (j+1) x')\/∃ e x',step x = .out e x'/\va e=false/\Q e x') {x:X} (h0:I 0 x) :
  ∃ e x',goN step x = .out e x'/\Q e x':=aW.go_rule h n 0 x (by omega) h0 iI hn
theorem jG {X:Type} {step:X->aW X} (n:Nat) (hn:n < iI) (st:Nat->X) (C:Nat->Prop) {e0 er:ae} (h0:va e0=false) (hr:va er=false) (R:X->Prop) {xe:X}
  (nC:∀ j,j < n->(C j->step (st j) = .next (st (j+1)))/\(¬ C j->∃ x',step (st j) = .out er x'/\R x')) (aq4:step (st n) = .out e0 xe) :
  (goN step (st 0) = .out e0 xe/\∀ j,j < n->C j)\/∃ x',goN step (st 0) = .out er x'/\R x'/\∃ j,j < n/\¬ C j:=by
 obtain ⟨e,x',h1,h2⟩:=jq (step:=step) (fun j x=>x=st j/\∀ i,i < j->C i) (fun e x'=>(e=e0/\x' = xe/\∀ j,j < n->C j)\/(e=er/\R x'/\∃ j,j < n/\¬ C j)) n hn (fun j x hj ⟨hx,dt⟩=>by
  subst hx;by_cases bG:j < n
  ·obtain ⟨q1,q2⟩:=nC j bG
   by_cases hc:C j
   ·exact .inl ⟨_,q1 hc,bG,rfl,fun i hi=>by
     by_cases e:i=j
     ·subst e; exact hc
     ·exact dt i (by omega)⟩
   ·obtain ⟨x',h3,h4⟩:=q2 hc
    exact .inr ⟨_,_,h3,hr,.inr ⟨rfl,h4,j,bG,hc⟩⟩
  ·have:j=n:=by omega
   subst this;exact .inr ⟨_,_,aq4,h0,.inl ⟨rfl,rfl,dt⟩⟩) (x:=st 0) ⟨rfl,fun i hi=>absurd hi (o8 _)⟩
 rcases h2 with ⟨rfl,rfl,h2⟩ | ⟨rfl,h2,h3⟩
 ·exact .inl ⟨h1,h2⟩
 ·exact .inr ⟨x',h1,h2,h3⟩
theorem aW.lC {X:Type} (e:ae) (x:X) (e' : ae):(aW.out e x).by e' = sG e e':=rfl
theorem aW.lq {X:Type} [Inhabited X] (e:ae) (x:X):(aW.out e x).st=x:=rfl
theorem cd {n:Int} (h : -9223372036854775808<=n) (h' : n < 9223372036854775808):aR n=n:=by
 show IntKind.wrap .i64 n=n;unfold IntKind.wrap;by_cases hn:0<=n
 ·have h1:n % (2 ^ IntKind.i64.bits:Int)=n:=Int.emod_eq_of_lt hn (by show n < 18446744073709551616; omega)
  simp only [h1];rw [av];intro hc;simp only [aA,o7] at hc;have:n >= 9223372036854775808:=hc.2;omega
 ·have h1:n % (2 ^ IntKind.i64.bits:Int)=n+18446744073709551616:=by
   show n % 18446744073709551616=n+18446744073709551616;omega
  simp only [h1];rw [aY]
  ·show n+18446744073709551616 - 18446744073709551616=n
   omega
  ·simp only [aA,o7]
   refine ⟨rfl,?_⟩;show n+18446744073709551616 >= 9223372036854775808;omega
theorem ak4 {b n m:Nat} (h:(n+m) * b<=140737488355328) (h2:n+m<=17592186044416):kD b n m=true:=by
 unfold kD;rw [aA];exact ⟨Nat.ble_eq_true_of_le h,Nat.ble_eq_true_of_le h2⟩
theorem appOk_small {b n m:Nat} (hb:b<=1000000) (hn:n<=1000000) (hm:m<=1000000) (_:0 < m\/n=0):kD b n m=true:=
 ak4 (o9 (Nat.mul_le_mul (by omega:n+m<=2000000) hb) (by decide)) (by omega)
theorem uv {b n m:Nat} (hb:b<=1000000:=by omega) (hn:n<=1000000:=by omega) (hm:m<=1000000:=by omega):kD b n m=true:=
 ak4 (o9 (Nat.mul_le_mul (by omega:n+m<=2000000) hb) (by decide)) (by omega)
@[simp] theorem cv (n:Nat):bz n n=true:=yZ n
theorem Sl.KQ {α:Type} [Inhabited α] (s:Sl α) (v:α):(s.push v).n=s.n+1:=rfl
theorem Sl.abW {α:Type} [Inhabited α] {s:Sl α} {v:α} {i:Nat} (h:i < s.n):(s.push v).get i=s.get i:=by
 have:Nat.blt i s.n=true:=by rw [cq]; exact h
 simp only [Sl.push,this,ak]
theorem Sl.abX {α:Type} [Inhabited α] {s:Sl α} {v:α} : (s.push v).get s.n=v:=by
 have:Nat.blt s.n s.n=false:=by
  cases h:Nat.blt s.n s.n with
  | false=>rfl
  | true=>rw [cq] at h; omega
 simp only [Sl.push,this,ba,yZ,ak]
end Go.K
end
section
namespace Go.Proofs.YtckbdndhmcoihaaGreat.sc
open Go Go.K
def lO (n cA:Int):Prop:=-cA<=n/\n<=cA
instance (n cA:Int):Decidable (lO n cA):=by unfold lO; exact inferInstance
def qU (v:b.fO) (k:Int):Prop:=lO v.x k/\lO v.y k/\lO v.z k
instance (v:b.fO) (k:Int):Decidable (qU v k):=by unfold qU; exact inferInstance
def LO (r:b.az):Prop:=lO r.e0 1024/\lO r.e1 1024/\lO r.e2 1024
def RowsIn (m:b.bw):Prop:=LO m.e0/\LO m.e1/\LO m.e2
def E8 (m:b.dm):Prop:=RowsIn m.m/\qU m.t 4096
theorem bin {x:Option Bool} {P:Prop} (h:∃ r,x=some r/\(r=true↔P)) [Decidable P] : x=some (decide P):=by
 obtain ⟨r,h1,h2⟩:=h;rw [h1];congr 1;rw [Bool.eq_iff_iff,h2,decide_eq_true_iff]
theorem chain {p:Prop} [Decidable p] {x:Option Bool} {Q:Prop} (h1:p->¬ Q) (h2 : ¬ p->∃ r,x=some r/\(r=true↔Q)):∃ r,cond (decide p) (some false) x=some r/\(r=true↔Q):=by
 by_cases h:p
 ·rw [aq h]
  exact ⟨false,rfl,⟨fun k=>by simp at k,fun k=>absurd k (h1 h)⟩⟩
 ·rw [bj h]
  exact h2 h
theorem aad (n cA:Int) (h:0<=cA) (h' : cA<=1000000):b.ny n cA=some (decide (lO n cA)):=by
 unfold b.ny;rw [cd (by omega) (by omega)];by_cases h1:n >= 0 - cA
 ·rw [aq h1,ak]
  by_cases h2:n<=cA
  ·rw [aq h2,aq (show lO n cA from ⟨by omega,h2⟩)]
  ·rw [bj h2,bj (show ¬ lO n cA from fun k=>h2 k.2)]
 ·rw [bj h1,ba,bj (show ¬ lO n cA from fun k=>h1 (by have:=k.1; omega))]
theorem ak5 (v:b.fO) (cA:Int) (h:0<=cA) (h' : cA<=1000000):b.Ca v cA=some (decide (qU v cA)):=by
 refine bin ?_;unfold b.Ca b.OH b.OI b.OJ qU;rw [aad _ _ h h',aad _ _ h h',aad _ _ h h'];simp only [fQ,ee,ak];by_cases h1:lO v.x cA <;> by_cases h2:lO v.y cA <;> by_cases h3:lO v.z cA <;> simp [h1,h2,h3]
theorem ap2 (m:b.bw):∃ r,b.Cv m 1024=some r/\(r=true↔RowsIn m):=by
 have e:=fun n=>aad n 1024 (by omega) (by omega);unfold b.Cv b.Lw b.Lx b.Ly b.Lz b.LA b.LB b.LC b.LD b.LF RowsIn LO;simp only [e,fQ,ee,ak];by_cases h1:lO m.e0.e0 1024
 ·by_cases h2:lO m.e0.e1 1024
  ·by_cases h3:lO m.e0.e2 1024
   ·by_cases h4:lO m.e1.e0 1024
    ·by_cases h5:lO m.e1.e1 1024
     ·by_cases h6:lO m.e1.e2 1024
      ·by_cases h7:lO m.e2.e0 1024
       ·by_cases h8:lO m.e2.e1 1024
        ·by_cases h9:lO m.e2.e2 1024 <;> simp [h1,h2,h3,h4,h5,h6,h7,h8,h9]
        ·simp [h1,h2,h3,h4,h5,h6,h7,h8]
       ·simp [h1,h2,h3,h4,h5,h6,h7]
      ·simp [h1,h2,h3,h4,h5,h6]
     ·simp [h1,h2,h3,h4,h5]
    ·simp [h1,h2,h3,h4]
   ·simp [h1,h2,h3]
  ·simp [h1,h2]
 ·simp [h1]
theorem S4 (m:b.dm):∃ r,b.wq m=some r/\(r=true↔E8 m):=by
 unfold b.wq b.OK b.OL E8;obtain ⟨r,h1,h2⟩:=ap2 m.m;rw [h1,ak5 _ _ (by omega) (by omega)];simp only [fQ,ee,ak];cases r with
 | true=>
  refine ⟨_,rfl,?_⟩;rw [decide_eq_true_iff];exact ⟨fun h=>⟨h2.1 rfl,h⟩,fun h=>h.2⟩
 | false=>exact ⟨false,rfl,⟨fun h=>by simp at h,fun h=>h2.2 h.1⟩⟩
theorem asx (cA:Int) (l:Sl Int) (h:0<=cA) (h' : cA<=1000000) (hn:l.n < 1000000):∃ r,b.H7 cA l=some r/\(r=true↔∀ i,i < l.n->lO (l.get i) cA):=by
 unfold b.H7 b.KG;obtain ⟨e,x',h1,h2⟩:∃ e x',goN b.qR (⟨cA,false,l,((l.n:Nat):Int),(0:Int)⟩:b.ln) = .out e x'/\((e = .exit 0/\∀ i,i < l.n->lO (l.get i) cA)\/(e = .ret/\x'.t4=false/\∃ i,i < l.n/\¬ lO (l.get i) cA)):=by
  refine jq (X:=b.ln) (fun j x=>x=⟨cA,false,l,((l.n:Nat):Int),(j:Int)⟩/\∀ i,i < j->lO (l.get i) cA) (fun e x'=>(e = .exit 0/\∀ i,i < l.n->lO (l.get i) cA)\/(e = .ret/\x'.t4=false/\∃ i,i < l.n/\¬ lO (l.get i) cA)) l.n (by unfold iI; omega) ?_ ⟨rfl,fun i hi=>absurd hi (o8 _)⟩;rintro j _ hj ⟨rfl,dt⟩;unfold b.qR
  dsimp only
  by_cases bG:(j:Int) < (l.n:Int)
  ·have h0:(0:Int)<=(j:Int):=by omega
   rw [aq bG,aq h0,cd (n:=0 - cA) (by omega) (by omega)];simp only [pT,ak];have ej:Int.toNat (j:Int)=j:=rfl;rw [ej];by_cases q1:l.get j < 0 - cA
   ·rw [aq q1]
    exact .inr ⟨_,_,rfl,rfl,.inr ⟨rfl,rfl,j,by omega,fun k=>by have:=k.1; omega⟩⟩
   ·rw [bj q1,ba]
    by_cases q2:l.get j > cA
    ·rw [aq q2]
     exact .inr ⟨_,_,rfl,rfl,.inr ⟨rfl,rfl,j,by omega,fun k=>by have:=k.2; omega⟩⟩
    ·rw [bj q2,ba,cd (by omega) (by omega)]
     refine .inl ⟨_,rfl,by omega,by congr 1,fun i hi=>?_⟩;by_cases e:i=j
     ·subst e; exact ⟨by omega,by omega⟩
     ·exact dt i (by omega)
  ·rw [bj bG,ba]
   exact .inr ⟨_,_,rfl,rfl,.inl ⟨rfl,fun i hi=>dt i (by omega)⟩⟩
 rw [h1];rcases h2 with ⟨rfl,h2⟩ | ⟨rfl,h2,i,h3,h4⟩
 ·exact ⟨true,rfl,⟨fun _=>h2,fun _=>rfl⟩⟩
 ·exact ⟨x'.t4,rfl,⟨fun k=>by rw [h2] at k; simp at k,fun k=>absurd (k i h3) h4⟩⟩
theorem awW {P:Int->Prop} {x y z:Int} : (∀ i,i < (Sl.lit [x,y,z]).n->P ((Sl.lit [x,y,z]).get i))↔P x/\P y/\P z:=by
 constructor
 ·exact fun h=>⟨h 0 (show 0 < 3 by omega),h 1 (show 1 < 3 by omega),h 2 (show 2 < 3 by omega)⟩
 ·rintro ⟨h1,h2,h3⟩ i hi
  have hi:i < 3:=hi;rcases (by omega:i=0\/i=1\/i=2) with rfl | rfl | rfl
  ·exact h1
  ·exact h2
  ·exact h3
theorem adw (v:b.fO):b.wy v=some (if qU v 4096 then 0 else 20):=by
 unfold b.wy b.DE;obtain ⟨r,h1,h2⟩:=asx 4096 (Sl.lit [v.x,v.y,v.z]) (by omega) (by omega) (by show 3 < 1000000; omega);have h2:r=true↔qU v 4096:=h2.trans (awW (P:=fun n=>lO n 4096));rw [h1];cases r with
 | true=>rw [aY (h2.1 rfl)]; rfl
 | false=>rw [av fun k=>by have:=h2.2 k; simp at this]; rfl
theorem ap3 (m:b.bw):∃ r,b.Cy m=some r/\(r=true↔RowsIn m):=by
 unfold b.Cy RowsIn LO lO
 iterate 18 refine chain (fun h k=>by omega) fun _=>?_
 exact ⟨true,rfl,⟨fun _=>by omega,fun _=>rfl⟩⟩
theorem DW (m:b.dm):(∃ e,b.mV m=some e/\(e=0/\E8 m\/e=20/\¬ E8 m)):=by
 unfold b.mV b.DF b.DG E8;obtain ⟨r,h1,h2⟩:=ap3 m.m;rw [h1,adw];cases r with
 | false=>exact ⟨20,rfl,.inr ⟨rfl,fun k=>by have:=h2.2 k.1; simp at this⟩⟩
 | true=>
  by_cases h3:qU m.t 4096
  ·rw [aY h3]; exact ⟨0,rfl,.inl ⟨rfl,h2.1 rfl,h3⟩⟩
  ·rw [av h3]; exact ⟨20,rfl,.inr ⟨rfl,fun k=>h3 k.2⟩⟩
theorem aoC (a:Int) (ha : -4611686018427387904<=a/\a<=4611686018427387904):b.oa a 256=some (a / 256,0):=by
 have h1:decide ((256:Int) < 1)=false:=rfl;have h2:decide ((256:Int)=0)=false:=rfl;have h3:=Int.mul_tdiv_add_tmod a 256;have h4:=Int.natAbs_tdiv_le_natAbs a 256;have h5:(Int.tmod a 256).natAbs < (256:Int).natAbs:=by rw [Int.natAbs_tmod]; exact Nat.mod_lt _ (by omega)
 unfold b.oa;simp only [h1,h2,ba,Fa,ak];by_cases hr:Int.tmod a 256 < 0
 ·have e:a / 256=Int.tdiv a 256 - 1:=((Int.ediv_emod_unique (by omega:(0:Int) < 256)).2 ⟨(show (Int.tmod a 256+256)+256 * (Int.tdiv a 256 - 1)=a by omega),by omega,by omega⟩).1
  rw [aq hr,ak,cd (n:=Int.tdiv a 256) (by omega) (by omega),cd (by omega) (by omega),e]
 ·have e:a / 256=Int.tdiv a 256:=((Int.ediv_emod_unique (by omega:(0:Int) < 256)).2 ⟨(show Int.tmod a 256+256 * Int.tdiv a 256=a by omega),by omega,by omega⟩).1
  rw [bj hr,ba,cd (by omega) (by omega),e]
theorem ap4 (a:Int) (ha : -4611686018427387904<=a/\a<=4611686018427387904):b.yU a 256=some (a / 256):=by
 have h2:decide ((256:Int)=0)=false:=rfl;have h3:=Int.mul_tdiv_add_tmod a 256;have h4:=Int.natAbs_tdiv_le_natAbs a 256;have h5:(Int.tmod a 256).natAbs < (256:Int).natAbs:=by rw [Int.natAbs_tmod]; exact Nat.mod_lt _ (by omega)
 unfold b.yU;simp only [h2,Fa,ak];rw [cd (n:=Int.tdiv a 256) (by omega) (by omega),cd (n:=Int.tdiv a 256 * 256) (by omega) (by omega)];by_cases hr:Int.tmod a 256 < 0
 ·have e:a / 256=Int.tdiv a 256 - 1:=((Int.ediv_emod_unique (by omega:(0:Int) < 256)).2 ⟨(show (Int.tmod a 256+256)+256 * (Int.tdiv a 256 - 1)=a by omega),by omega,by omega⟩).1
  rw [aq (show Int.tdiv a 256 * 256 > a by omega),ak,cd (by omega) (by omega),e]
 ·have e:a / 256=Int.tdiv a 256:=((Int.ediv_emod_unique (by omega:(0:Int) < 256)).2 ⟨(show Int.tmod a 256+256 * Int.tdiv a 256=a by omega),by omega,by omega⟩).1
  rw [bj (show ¬ Int.tdiv a 256 * 256 > a by omega),ba,e]
def dot (r:b.az) (x y z:Int):Int:=r.e0 * x+r.e1 * y+r.e2 * z
theorem amC {a b A B:Int} (h:lO a A) (k:lO b B) (hA:0<=A) (hB:0<=B):lO (a * b) (A * B):=by
 have h1:a.natAbs<=A.natAbs:=by have:=h.1; have:=h.2; omega
 have h2:b.natAbs<=B.natAbs:=by have:=k.1; have:=k.2; omega
 have h3:(a * b).natAbs<=A.natAbs * B.natAbs:=by rw [Int.natAbs_mul]; exact Nat.mul_le_mul h1 h2
 have h4:((A.natAbs * B.natAbs:Nat):Int)=A * B:=by rw [Int.natCast_mul,Int.natAbs_of_nonneg hA,Int.natAbs_of_nonneg hB]
 unfold lO;omega
theorem Xg {r:b.az} {x y z:Int} (h:LO r) (hx:lO x 4096) (hy:lO y 4096) (hz:lO z 4096):lO (r.e0 * x) 4194304/\lO (r.e1 * y) 4194304/\lO (r.e2 * z) 4194304:=
 ⟨amC h.1 hx (by omega) (by omega),amC h.2.1 hy (by omega) (by omega),amC h.2.2 hz (by omega) (by omega)⟩
theorem KS {r:b.az} {x y z:Int} (h:LO r) (hx:lO x 4096) (hy:lO y 4096) (hz:lO z 4096):lO (dot r x y z) 12582912:=by
 obtain ⟨h1,h2,h3⟩:=Xg h hx hy hz;unfold dot;unfold lO at *;omega
theorem Pa (m:b.bw) (v:b.az) (h:RowsIn m) (hx:lO v.e0 4096) (hy:lO v.e1 4096) (hz:lO v.e2 4096) :
  b.uc m v=some ⟨dot m.e0 v.e0 v.e1 v.e2 / 256,dot m.e1 v.e0 v.e1 v.e2 / 256,dot m.e2 v.e0 v.e1 v.e2 / 256⟩:=by
 have one:∀ r,LO r->b.oa (aR ((aR ((aR ((0:Int)+(aR (r.e0 * v.e0))))+(aR (r.e1 * v.e1))))+(aR (r.e2 * v.e2)))) 256=some (dot r v.e0 v.e1 v.e2 / 256,0):=by
  intro r hr;obtain ⟨h1,h2,h3⟩:=Xg hr hx hy hz;have h4:=KS hr hx hy hz;unfold dot lO at *;rw [cd (n:=r.e0 * v.e0) (by omega) (by omega),cd (n:=r.e1 * v.e1) (by omega) (by omega),cd (n:=r.e2 * v.e2) (by omega) (by omega),cd (n:=0+r.e0 * v.e0) (by omega) (by omega),Int.zero_add,cd (n:=r.e0 * v.e0+r.e1 * v.e1) (by omega) (by omega),cd (by omega) (by omega)];exact aoC _ (by omega)
 unfold b.uc b.LJ b.LK b.LL;rw [one _ h.1,one _ h.2.1,one _ h.2.2];rfl
theorem xd (r:b.az) (v:b.fO) (h:LO r) (hv:qU v 4096):b.nB r v=some (dot r v.x v.y v.z / 256):=by
 obtain ⟨hx,hy,hz⟩:=hv;obtain ⟨h1,h2,h3⟩:=Xg h hx hy hz;have h4:=KS h hx hy hz;unfold b.nB b.Sk;have:b.yU (aR ((aR ((aR (r.e0 * v.x))+(aR (r.e1 * v.y))))+(aR (r.e2 * v.z)))) 256=some (dot r v.x v.y v.z / 256):=by
  unfold dot lO at *;rw [cd (n:=r.e0 * v.x) (by omega) (by omega),cd (n:=r.e1 * v.y) (by omega) (by omega),cd (n:=r.e2 * v.z) (by omega) (by omega),cd (n:=r.e0 * v.x+r.e1 * v.y) (by omega) (by omega),cd (by omega) (by omega)];exact ap4 _ (by omega)
 rw [this];rfl
def GZ (t:b.jf):Prop:=0 < t.w/\t.w<=16/\0 < t.h/\t.h<=16/\((t.S3.n:Nat):Int)=aR (t.w * t.h)
theorem aiD (n:Int):∃ r,b.qQ n=some r/\(r=true↔0 < n/\n<=16):=by
 unfold b.qQ;by_cases h1:n > 0
 ·rw [aq h1]
  exact ⟨_,rfl,by rw [decide_eq_true_iff]; omega⟩
 ·rw [bj h1]
  exact ⟨false,rfl,⟨fun k=>by simp at k,fun k=>absurd k.1 h1⟩⟩
theorem asy (t:b.jf):∃ e,b.rU t=some e/\(e=0/\GZ t\/e=8/\¬ GZ t):=by
 unfold b.rU b.Cc b.Cd GZ;obtain ⟨r,h1,h2⟩:=aiD t.w;obtain ⟨q,h3,h4⟩:=aiD t.h;rw [h1,h3];simp only [fQ,ee,ak];cases r with
 | false=>exact ⟨8,rfl,.inr ⟨rfl,fun k=>by have:=h2.2 ⟨k.1,k.2.1⟩; simp at this⟩⟩
 | true=>
  have h2:=h2.1 rfl;cases q with
  | false=>exact ⟨8,rfl,.inr ⟨rfl,fun k=>by have:=h4.2 ⟨k.2.2.1,k.2.2.2.1⟩; simp at this⟩⟩
  | true=>
   have h4:=h4.1 rfl;by_cases h5:((t.S3.n:Nat):Int)=aR (t.w * t.h)
   ·rw [bne_eq_false_iff_eq.2 h5]
    exact ⟨0,rfl,.inl ⟨rfl,h2.1,h2.2,h4.1,h4.2,h5⟩⟩
   ·rw [bne_iff_ne.2 h5]
    exact ⟨8,rfl,.inr ⟨rfl,fun k=>h5 k.2.2.2.2⟩⟩
theorem ap5 (t:b.jf):∃ r,b.EO t=some r/\(r=true↔GZ t):=by
 have one:∀ {p:Prop} [Decidable p] {x:Option Bool} {Q:Prop},(¬ p->¬ Q)->(p->∃ r,x=some r/\(r=true↔Q))->∃ r,cond (decide p) x (some false)=some r/\(r=true↔Q):=by
  intro p _ x Q h1 h2;by_cases h:p
  ·rw [aq h]; exact h2 h
  ·rw [bj h]; exact ⟨false,rfl,⟨fun k=>by simp at k,fun k=>absurd k (h1 h)⟩⟩
 unfold b.EO GZ;refine one (fun h k=>by omega) fun h1=>one (fun h k=>by omega) fun h2=>one (fun h k=>by omega) fun h3=>one (fun h k=>by omega) fun h4=>⟨_,rfl,?_⟩
 rw [kq];exact ⟨fun h=>⟨by omega,h2,by omega,h4,h⟩,fun h=>h.2.2.2.2⟩
def S5 (p:b.Prim):Prop:=p.kind<=2/\p.index.n<=200/\(p.kind=0->p.index.n % 3=0)/\(p.kind > 0->p.index.n=0\/3<=p.index.n)
def G0 (k:Int) (j:Nat):Nat:=if k=0 then (j+2) / 3 else j
def Mr (p:b.Prim):Nat:=G0 p.kind (p.index.n - 2)
theorem ap6 (p:b.Prim) (h0:0<=p.kind) (h2:p.kind<=2) (hn:p.index.n<=200) (z:Sl b.az) (t:Int) :
  ∃ x',goN b.kY (⟨z,t,⟨0,fun _=>⟨0,0,0⟩⟩,p.index,(0:Int),p⟩:b.cr) = .out (.exit 1) x'/\x'.out.n=Mr p:=by
 have AW:=fun nC=>jq (X:=b.cr) (step:=b.kY) (fun j x=>∃ o:Sl b.az,x=⟨z,t,o,p.index,(j:Int),p⟩/\o.n=G0 p.kind j) (fun e x'=>e = .exit 1/\x'.out.n=Mr p) (p.index.n - 2) (by unfold iI; omega) nC (x:=⟨z,t,⟨0,fun _=>⟨0,0,0⟩⟩,p.index,(0:Int),p⟩) ⟨_,rfl,by unfold G0; split <;> rfl⟩;refine Exists.elim (AW ?_) fun e ⟨x,h1,he,h3⟩=>?_
 rotate_left
 ·subst he; exact ⟨x,h1,h3⟩
 rintro j _ hj ⟨o,rfl,ho⟩;have ho200:o.n<=200:=by rw [ho]; unfold G0; split <;> omega
 unfold b.kY
 dsimp only
 have e1:aR ((j:Int)+1)=((j+1:Nat):Int):=by rw [cd (by omega) (by omega)]; omega
 have e2:aR ((j:Int)+2)=((j+2:Nat):Int):=by rw [cd (by omega) (by omega)]; omega
 rw [e1,e2];by_cases bG:((j+2:Nat):Int) < (p.index.n:Int)
 ·have d1:decide ((0:Int)<=(j:Int))=true:=aq (by omega)
  have d2:decide ((j:Int) < (p.index.n:Int))=true:=aq (by omega);have d3:decide ((0:Int)<=((j+1:Nat):Int))=true:=aq (by omega);have d4:decide (((j+1:Nat):Int) < (p.index.n:Int))=true:=aq (by omega);have d5:decide ((0:Int)<=((j+2:Nat):Int))=true:=aq (by omega);have d6:decide (((j+2:Nat):Int) < (p.index.n:Int))=true:=aq bG;have d7:decide ((0:Int) < (p.index.n:Int))=true:=aq (by omega);have da:kD 24 o.n 1=true:=uv;rw [d1,d2,d3,d4,d5,d6,d7,da];simp only [cv,pT,dk,ak];have hjn:j < p.index.n - 2:=by omega
  rcases (by omega:p.kind=0\/p.kind=1\/p.kind=2) with hk | hk | hk
  ·rw [hk]
   by_cases h3:Int.tmod (j:Int) 3=0
   ·rw [kq.2 h3]
    refine .inl ⟨_,rfl,hjn,_,rfl,?_⟩;rw [Sl.KQ,ho,hk];have:Int.tmod (j:Int) 3=((j % 3:Nat):Int):=rfl;unfold G0;rw [aY rfl,aY rfl];omega
   ·rw [beq_eq_false_iff_ne.2 h3]
    refine .inl ⟨_,rfl,hjn,_,rfl,?_⟩;rw [ho,hk];have:Int.tmod (j:Int) 3=((j % 3:Nat):Int):=rfl;unfold G0;rw [aY rfl,aY rfl];omega
  ·rw [hk]
   have hc:∀ j,G0 1 j=j:=fun j=>rfl;by_cases h3:Int.tmod (j:Int) 2=0
   ·rw [kq.2 h3]
    exact .inl ⟨_,rfl,hjn,_,rfl,by rw [Sl.KQ,ho,hk,hc,hc]⟩
   ·rw [beq_eq_false_iff_ne.2 h3]
    exact .inl ⟨_,rfl,hjn,_,rfl,by rw [Sl.KQ,ho,hk,hc,hc]⟩
  ·rw [hk]
   have hc:∀ j,G0 2 j=j:=fun j=>rfl;exact .inl ⟨_,rfl,hjn,_,rfl,by rw [Sl.KQ,ho,hk,hc,hc]⟩
 ·rw [bj bG,ba]
  simp only [cv,ak];refine .inr ⟨_,_,rfl,rfl,rfl,?_⟩;show o.n=_;rw [ho];have:j=p.index.n - 2:=by omega
  subst this;rfl
theorem ap7 (p:b.Prim) (h0:0<=p.kind) (h2:p.kind<=2):∃ r,b.zX p=some r/\(r=true↔(p.kind=0->p.index.n % 3=0)/\(p.kind > 0->p.index.n=0\/3<=p.index.n)):=by
 unfold b.zX;have key:∀ {k:Int},(p.kind=k->k > 0)->∃ r,cond (((p.index.n:Nat):Int)==(0:Int)) (some true) (some (decide (((p.index.n:Nat):Int) >= (3:Int))))=some r/\(r=true↔(p.index.n=0\/3<=p.index.n)):=by
  intro k _;by_cases h:((p.index.n:Nat):Int)=0
  ·rw [kq.2 h]
   exact ⟨true,rfl,⟨fun _=>.inl (by omega),fun _=>rfl⟩⟩
  ·rw [beq_eq_false_iff_ne.2 h]
   exact ⟨_,rfl,by rw [decide_eq_true_iff]; omega⟩
 rcases (by omega:p.kind=0\/p.kind=1\/p.kind=2) with hk | hk | hk
 ·rw [hk]
  refine ⟨_,rfl,?_⟩;rw [kq];have:Int.tmod ((p.index.n:Nat):Int) 3=((p.index.n % 3:Nat):Int):=rfl;rw [this];exact ⟨fun h=>⟨fun _=>by omega,fun h=>absurd h (by omega)⟩,fun h=>by have:=h.1 rfl; omega⟩
 ·rw [hk]
  obtain ⟨r,h1,h3⟩:=key (k:=1) (fun _=>by omega);exact ⟨r,h1,h3.trans ⟨fun h=>⟨fun k=>absurd k (by omega),fun _=>h⟩,fun h=>h.2 (by omega)⟩⟩
 ·rw [hk]
  obtain ⟨r,h1,h3⟩:=key (k:=2) (fun _=>by omega);exact ⟨r,h1,h3.trans ⟨fun h=>⟨fun k=>absurd k (by omega),fun _=>h⟩,fun h=>h.2 (by omega)⟩⟩
theorem ap8 (p:b.Prim) (h0:0<=p.kind):∃ l e,b.zZ p=some (l,e)/\(e=0/\S5 p/\l.n=Mr p\/e≠0/\¬ S5 p/\l.n=0):=by
 unfold b.zZ;by_cases h1:p.kind > 2
 ·rw [aq h1]
  exact ⟨_,_,rfl,.inr ⟨by decide,fun k=>by have:=k.1; omega,rfl⟩⟩
 ·rw [bj h1,ba]
  by_cases h2:((p.index.n:Nat):Int) > 200
  ·rw [aq h2]
   exact ⟨_,_,rfl,.inr ⟨by decide,fun k=>by have:=k.2.1; omega,rfl⟩⟩
  ·rw [bj h2,ba]
   unfold b.Jj b.Jk;obtain ⟨r,h3,h4⟩:=ap7 p h0 (by omega);rw [h3];cases r with
   | false=>
    exact ⟨_,_,rfl,.inr ⟨by decide,fun k=>by have:=h4.2 k.2.2; simp at this,rfl⟩⟩
   | true=>
    obtain ⟨x',h5,h6⟩:=ap6 p h0 (by omega) (by omega) ⟨0,fun _=>⟨0,0,0⟩⟩ 0;rw [h5];exact ⟨_,_,rfl,.inl ⟨rfl,⟨by omega,by omega,h4.1 rfl⟩,h6⟩⟩
theorem aoD (p:b.Prim) (h3:p.index.n % 3=0) (hn:p.index.n<=200) (z:Sl b.az) (t:Int) (o:Sl b.az) (ho:o.n=0) :
  ∃ o' i',goN b.kX (⟨z,t,((p.index.n:Nat):Int),o,(0:Int),p⟩:b.jo) = .out (.exit 0) ⟨z,t,((p.index.n:Nat):Int),o',i',p⟩/\o'.n=p.index.n / 3:=by
 have AW:=fun nC=>jq (X:=b.jo) (step:=b.kX) (fun j x=>∃ o:Sl b.az,x=⟨z,t,((p.index.n:Nat):Int),o,((3 * j:Nat):Int),p⟩/\o.n=j) (fun e x'=>e = .exit 0/\∃ o' i',x' = ⟨z,t,((p.index.n:Nat):Int),o',i',p⟩/\o'.n=p.index.n / 3) (p.index.n / 3) (by unfold iI; omega) nC (x:=⟨z,t,((p.index.n:Nat):Int),o,(0:Int),p⟩) ⟨o,rfl,ho⟩;refine Exists.elim (AW ?_) fun e ⟨x,h1,he,o',i',hx,h2⟩=>?_
 rotate_left
 ·subst he hx; exact ⟨o',i',h1,h2⟩
 rintro j _ hj ⟨o,rfl,ho⟩;unfold b.kX
 dsimp only
 have e1:aR (((3 * j:Nat):Int)+1)=((3 * j+1:Nat):Int):=by rw [cd (by omega) (by omega)]; omega
 have e2:aR (((3 * j:Nat):Int)+2)=((3 * j+2:Nat):Int):=by rw [cd (by omega) (by omega)]; omega
 have e3:aR (((3 * j:Nat):Int)+3)=((3 * (j+1):Nat):Int):=by rw [cd (by omega) (by omega)]; omega
 rw [e1,e2,e3];by_cases bG:((3 * j:Nat):Int) < ((p.index.n:Nat):Int)
 ·have d1:decide ((0:Int)<=((3 * j:Nat):Int))=true:=aq (by omega)
  have d2:decide (((3 * j:Nat):Int) < ((p.index.n:Nat):Int))=true:=aq bG;have d3:decide ((0:Int)<=((3 * j+1:Nat):Int))=true:=aq (by omega);have d4:decide (((3 * j+1:Nat):Int) < ((p.index.n:Nat):Int))=true:=aq (by omega);have d5:decide ((0:Int)<=((3 * j+2:Nat):Int))=true:=aq (by omega);have d6:decide (((3 * j+2:Nat):Int) < ((p.index.n:Nat):Int))=true:=aq (by omega);have da:kD 24 o.n 1=true:=uv;rw [d1,d2,d3,d4,d5,d6,da];simp only [cv,pT,dk,ak];exact .inl ⟨_,rfl,by omega,_,rfl,by rw [Sl.KQ,ho]⟩
 ·rw [bj bG,ba]
  simp only [cv,ak];exact .inr ⟨_,_,rfl,rfl,rfl,o,_,rfl,by omega⟩
theorem aae (p:b.Prim) (hq:p.index.n=0\/3<=p.index.n\/p.kind≠1) (hn:p.index.n<=200) (z:Sl b.az) (t:Int) (o:Sl b.az) (ho:o.n<=200) :
  ∃ o' i',goN b.jO (⟨z,t,((p.index.n:Nat):Int),o,(0:Int),p⟩:b.fM) = .out (.exit 2) ⟨z,t,((p.index.n:Nat):Int),o',i',p⟩/\o'.n=o.n+if p.kind=1 then p.index.n - 2 else 0:=by
 have AW:=fun nC=>jq (X:=b.fM) (step:=b.jO) (fun j x=>∃ o1:Sl b.az,x=⟨z,t,((p.index.n:Nat):Int),o1,(j:Int),p⟩/\o1.n=o.n+j/\(p.kind≠1->j=0)) (fun e x'=>e = .exit 2/\∃ o' i',x' = ⟨z,t,((p.index.n:Nat):Int),o',i',p⟩/\o'.n=o.n+if p.kind=1 then p.index.n - 2 else 0) (p.index.n - 2) (by unfold iI; omega) nC (x:=⟨z,t,((p.index.n:Nat):Int),o,(0:Int),p⟩) ⟨o,rfl,rfl,fun _=>rfl⟩;refine Exists.elim (AW ?_) fun e ⟨x,h1,he,o',i',hx,h2⟩=>?_
 rotate_left
 ·subst he hx; exact ⟨o',i',h1,h2⟩
 rintro j _ hj ⟨o1,rfl,XB,D2⟩;unfold b.jO
 dsimp only
 have e1:aR ((j:Int)+1)=((j+1:Nat):Int):=by rw [cd (by omega) (by omega)]; omega
 have e2:aR ((j:Int)+2)=((j+2:Nat):Int):=by rw [cd (by omega) (by omega)]; omega
 have e3:aR (((p.index.n:Nat):Int) - 3)=((p.index.n:Nat):Int) - 3:=cd (by omega) (by omega);rw [e1,e2,e3];by_cases bG:(j:Int)<=((p.index.n:Nat):Int) - 3
 ·rw [aq bG]
  by_cases hk:p.kind=1
  ·have d1:decide ((0:Int)<=(j:Int))=true:=aq (by omega)
   have d2:decide ((j:Int) < ((p.index.n:Nat):Int))=true:=aq (by omega);have d3:decide ((0:Int)<=((j+1:Nat):Int))=true:=aq (by omega);have d4:decide (((j+1:Nat):Int) < ((p.index.n:Nat):Int))=true:=aq (by omega);have d5:decide ((0:Int)<=((j+2:Nat):Int))=true:=aq (by omega);have d6:decide (((j+2:Nat):Int) < ((p.index.n:Nat):Int))=true:=aq (by omega);have da:kD 24 o1.n 1=true:=uv;rw [kq.2 hk,d1,d2,d3,d4,d5,d6,da];simp only [cv,pT,dk,ak];cases hm:(Int.tmod (j:Int) 2==(1:Int)) with
   | true=>exact .inl ⟨_,rfl,by omega,_,rfl,by rw [Sl.KQ,XB]; omega,fun h=>absurd hk h⟩
   | false=>exact .inl ⟨_,rfl,by omega,_,rfl,by rw [Sl.KQ,XB]; omega,fun h=>absurd hk h⟩
  ·rw [beq_eq_false_iff_ne.2 hk]
   simp only [cv,ak,ba];exact .inr ⟨_,_,rfl,rfl,rfl,o1,_,rfl,by rw [XB,D2 hk,av hk]⟩
 ·rw [bj bG,ba]
  simp only [cv,ak];refine .inr ⟨_,_,rfl,rfl,rfl,o1,_,rfl,?_⟩;by_cases hk:p.kind=1
  ·rw [XB,aY hk]; omega
  ·rw [XB,D2 hk,av hk]
theorem aiE (p:b.Prim) (hq:p.index.n=0\/3<=p.index.n\/p.kind≠2) (hn:p.index.n<=200) (z:Sl b.az) (t:Int) (o:Sl b.az) (ho:o.n<=200) :
  ∃ o' i',goN b.jP (⟨z,t,((p.index.n:Nat):Int),o,(1:Int),p⟩:b.gF) = .out (.exit 4) ⟨z,t,((p.index.n:Nat):Int),o',i',p⟩/\o'.n=o.n+if p.kind=2 then p.index.n - 2 else 0:=by
 have AW:=fun nC=>jq (X:=b.gF) (step:=b.jP) (fun j x=>∃ o1:Sl b.az,x=⟨z,t,((p.index.n:Nat):Int),o1,((j+1:Nat):Int),p⟩/\o1.n=o.n+j/\(p.kind≠2->j=0)) (fun e x'=>e = .exit 4/\∃ o' i',x' = ⟨z,t,((p.index.n:Nat):Int),o',i',p⟩/\o'.n=o.n+if p.kind=2 then p.index.n - 2 else 0) (p.index.n - 2) (by unfold iI; omega) nC (x:=⟨z,t,((p.index.n:Nat):Int),o,(1:Int),p⟩) ⟨o,rfl,rfl,fun _=>rfl⟩;refine Exists.elim (AW ?_) fun e ⟨x,h1,he,o',i',hx,h2⟩=>?_
 rotate_left
 ·subst he hx; exact ⟨o',i',h1,h2⟩
 rintro j _ hj ⟨o1,rfl,XB,D2⟩;unfold b.jP
 dsimp only
 have e1:aR (((j+1:Nat):Int)+1)=((j+1+1:Nat):Int):=by rw [cd (by omega) (by omega)]; omega
 have e3:aR (((p.index.n:Nat):Int) - 2)=((p.index.n:Nat):Int) - 2:=cd (by omega) (by omega);rw [e1,e3];by_cases bG:((j+1:Nat):Int)<=((p.index.n:Nat):Int) - 2
 ·rw [aq bG]
  by_cases hk:p.kind=2
  ·have d1:decide ((0:Int) < ((p.index.n:Nat):Int))=true:=aq (by omega)
   have d2:decide ((0:Int)<=((j+1:Nat):Int))=true:=aq (by omega);have d3:decide (((j+1:Nat):Int) < ((p.index.n:Nat):Int))=true:=aq (by omega);have d4:decide ((0:Int)<=((j+1+1:Nat):Int))=true:=aq (by omega);have d5:decide (((j+1+1:Nat):Int) < ((p.index.n:Nat):Int))=true:=aq (by omega);have da:kD 24 o1.n 1=true:=uv;rw [kq.2 hk,d1,d2,d3,d4,d5,da];simp only [cv,pT,dk,ak];exact .inl ⟨_,rfl,by omega,_,rfl,by rw [Sl.KQ,XB]; omega,fun h=>absurd hk h⟩
  ·rw [beq_eq_false_iff_ne.2 hk]
   simp only [cv,ak,ba];exact .inr ⟨_,_,rfl,rfl,rfl,o1,_,rfl,by rw [XB,D2 hk,av hk]⟩
 ·rw [bj bG,ba]
  simp only [cv,ak];refine .inr ⟨_,_,rfl,rfl,rfl,o1,_,rfl,?_⟩;by_cases hk:p.kind=2
  ·rw [XB,aY hk]; omega
  ·rw [XB,D2 hk,av hk]
theorem aoE (p:b.Prim) (h0:0<=p.kind):∃ l e,b.Cu p=some (l,e)/\(e=0/\S5 p/\l.n=Mr p\/e≠0/\¬ S5 p/\l.n=0):=by
 unfold b.Cu;by_cases h1:p.kind > 2
 ·rw [aq h1]
  exact ⟨_,_,rfl,.inr ⟨by decide,fun k=>by have:=k.1; omega,rfl⟩⟩
 rw [bj h1,ba];by_cases h2:((p.index.n:Nat):Int) > 200
 ·rw [aq h2]
  exact ⟨_,_,rfl,.inr ⟨by decide,fun k=>by have:=k.2.1; omega,rfl⟩⟩
 rw [bj h2,ba];have hm:Int.tmod ((p.index.n:Nat):Int) 3=((p.index.n % 3:Nat):Int):=rfl;unfold b.pK b.gM b.pJ b.gL b.gK;rcases (by omega:p.kind=0\/p.kind > 0) with hk | hk
 ·rw [kq.2 hk,bj (show ¬ p.kind > 0 by omega)]
  simp only [ak,ba];by_cases h3:p.index.n % 3=0
  ·rw [hm,h3]
   obtain ⟨o1,i1,q1,q2⟩:=aoD p h3 (by omega) ⟨0,fun _=>⟨0,0,0⟩⟩ 0 ⟨0,fun _=>⟨0,0,0⟩⟩ rfl;obtain ⟨o2,i2,q3,q4⟩:=aae p (.inr (.inr (by omega))) (by omega) ⟨0,fun _=>⟨0,0,0⟩⟩ 0 o1 (by omega);rw [av (by omega)] at q4;obtain ⟨o3,i3,q5,q6⟩:=aiE p (.inr (.inr (by omega))) (by omega) ⟨0,fun _=>⟨0,0,0⟩⟩ 0 o2 (by omega);rw [av (by omega)] at q6;rw [q1];simp only [aW.lC,aW.lq,cv];rw [q3];simp only [aW.lC,aW.lq,cv];rw [q5];refine ⟨_,_,rfl,.inl ⟨rfl,⟨by omega,by omega,fun _=>h3,fun k=>absurd k (by omega)⟩,?_⟩⟩;show o3.n=Mr p;unfold Mr G0;rw [aY hk];omega
  ·have de:(Int.tmod ((p.index.n:Nat):Int) 3 != (0:Int))=true:=by rw [hm,bne_iff_ne]; omega
   rw [de];exact ⟨_,_,rfl,.inr ⟨by decide,fun k=>h3 (k.2.2.1 hk),rfl⟩⟩
 ·rw [beq_eq_false_iff_ne.2 (show p.kind≠0 by omega),aq hk]
  simp only [ak,ba];by_cases h3:((p.index.n:Nat):Int)=1
  ·rw [kq.2 h3]
   exact ⟨_,_,rfl,.inr ⟨by decide,fun k=>by have:=k.2.2.2 hk; omega,rfl⟩⟩
  rw [beq_eq_false_iff_ne.2 h3];by_cases h4:((p.index.n:Nat):Int)=2
  ·rw [kq.2 h4]
   exact ⟨_,_,rfl,.inr ⟨by decide,fun k=>by have:=k.2.2.2 hk; omega,rfl⟩⟩
  rw [beq_eq_false_iff_ne.2 h4];obtain ⟨o2,i2,q3,q4⟩:=aae p (by omega) (by omega) ⟨0,fun _=>⟨0,0,0⟩⟩ 0 ⟨0,fun _=>⟨0,0,0⟩⟩ (by show 0<=200; omega);obtain ⟨o3,i3,q5,q6⟩:=aiE p (by omega) (by omega) ⟨0,fun _=>⟨0,0,0⟩⟩ 0 o2 (by rw [q4]; show 0+_<=200; split <;> omega);rw [q3];simp only [ba,aW.lC,aW.lq,cv];rw [q5];refine ⟨_,_,rfl,.inl ⟨rfl,⟨by omega,by omega,fun k=>absurd k (by omega),fun _=>by omega⟩,?_⟩⟩;show o3.n=Mr p;rw [q6,q4];unfold Mr G0;rw [av (show p.kind≠0 by omega)];show 0+_+_=_;split <;> split <;> omega
def Sp (m:b.iU):Nat->Nat
 | 0=>0
 | k+1=>Sp m k+Mr (m.cG.get k)
theorem asz (m:b.iU) {i j:Nat} (h:i<=j):Sp m i<=Sp m j:=by
 induction j with
 | zero=>have:i=0:=by omega
         subst this; exact aU _
 | succ j ih=>
  by_cases e:i=j+1
  ·subst e; exact aU _
  ·have:=ih (by omega)
   show Sp m i<=Sp m j+_;omega
def HU (m:b.iU) (k:Nat):Prop:=S5 (m.cG.get k)/\∀ i,i < (m.cG.get k).index.n->0<=(m.cG.get k).index.get i/\(m.cG.get k).index.get i < (m.gh.n:Int)
def S6 (m:b.iU):Prop:=(∀ k,k < m.cG.n->HU m k)/\Sp m m.cG.n<=64
def Bk (m:b.iU):Prop:=∀ k,k < m.cG.n->0<=(m.cG.get k).kind
theorem aoF (z o:Sl b.az) (t:Bool) (q:Sl b.Prim) (a c:Int) (l:Sl Int) (hl:l.n<=1000) (m:b.iU) :
  (∃ k,goN b.fV (⟨z,t,o,q,a,c,l,((l.n:Nat):Int),(0:Int),m⟩:b.eC) = .out (.exit 2) ⟨z,t,o,q,a,c,l,((l.n:Nat):Int),k,m⟩/\∀ i,i < l.n->0<=l.get i/\l.get i < (m.gh.n:Int))\/
  ∃ x',goN b.fV (⟨z,t,o,q,a,c,l,((l.n:Nat):Int),(0:Int),m⟩:b.eC) = .out .ret x'/\x'.t3=false/\∃ i,i < l.n/\¬ (0<=l.get i/\l.get i < (m.gh.n:Int)):=by
 have key:=jG (step:=b.fV) l.n (by unfold iI; omega) (fun j=>⟨z,t,o,q,a,c,l,((l.n:Nat):Int),(j:Int),m⟩) (fun i=>0<=l.get i/\l.get i < (m.gh.n:Int)) (e0:=.exit 2) (er:=.ret) rfl rfl (fun x'=>x'.t3=false) (xe:=⟨z,t,o,q,a,c,l,((l.n:Nat):Int),((l.n:Nat):Int),m⟩) (fun j hj=>by
  have e1:aR ((j:Int)+1)=((j+1:Nat):Int):=by rw [cd (by omega) (by omega)]; omega
  have d1:decide ((j:Int) < ((l.n:Nat):Int))=true:=aq (by omega);have d2:decide ((0:Int)<=(j:Int))=true:=aq (by omega);have ej:Int.toNat (j:Int)=j:=rfl;unfold b.fV
  dsimp only
  rw [d1,d2,ej,e1];simp only [cv,dk,ak];constructor
  ·rintro ⟨h1,h2⟩
   rw [bj (show ¬ l.get j < 0 by omega),bj (show ¬ l.get j >= (m.gh.n:Int) by omega)];rfl
  ·intro h
   by_cases h1:l.get j < 0
   ·rw [aq h1]
    exact ⟨_,rfl,rfl⟩
   ·rw [bj h1,aq (show l.get j >= (m.gh.n:Int) by omega)]
    exact ⟨_,rfl,rfl⟩) (by
  unfold b.fV
  dsimp only
  rw [bj (Int.lt_irrefl _)];simp only [cv,ak,ba])
 rcases key with ⟨h1,h2⟩ | ⟨x',h1,h2,h3⟩
 ·exact .inl ⟨_,h1,h2⟩
 ·exact .inr ⟨x',h1,h2,h3⟩
theorem ap9 (m:b.iU) (hk:Bk m) (hp:m.cG.n < 1000000):∃ l r,b.z8 m=some (l,r)/\(r=true↔S6 m):=by
 unfold b.z8 b.vx;obtain ⟨e,x',h1,h2⟩:∃ e x',goN b.ni (⟨⟨0,fun _=>⟨0,0,0⟩⟩,false,⟨0,fun _=>⟨0,0,0⟩⟩,m.cG,((m.cG.n:Nat):Int),(0:Int),m⟩:b.fh) = .out e x'/\((e = .exit 0/\S6 m)\/(e = .ret/\x'.t3=false/\¬ S6 m)):=by
  refine jq (X:=b.fh) (fun j x=>∃ o:Sl b.az,x=⟨⟨0,fun _=>⟨0,0,0⟩⟩,false,o,m.cG,((m.cG.n:Nat):Int),(j:Int),m⟩/\o.n=Sp m j/\Sp m j<=64/\∀ k,k < j->HU m k) (fun e x'=>(e = .exit 0/\S6 m)\/(e = .ret/\x'.t3=false/\¬ S6 m)) m.cG.n (by unfold iI; omega) ?_ ⟨_,rfl,rfl,by show 0<=64; omega,fun k hk=>absurd hk (o8 _)⟩;rintro j _ hj ⟨o,rfl,ho,ht,mj⟩;unfold b.ni b.cI b.fJ
  dsimp only
  by_cases bG:(j:Int) < ((m.cG.n:Nat):Int)
  ·have d1:decide ((j:Int) < ((m.cG.n:Nat):Int))=true:=aq bG
   have d2:decide ((0:Int)<=(j:Int))=true:=aq (by omega);have ej:Int.toNat (j:Int)=j:=rfl;obtain ⟨l,e,h1,h2⟩:=ap8 (m.cG.get j) (hk j (by omega));have hln:l.n<=200:=by
    rcases h2 with ⟨_,q,h⟩ | ⟨_,_,h⟩
    ·rw [h]; have:=q.2.1; unfold Mr G0; split <;> omega
    ·omega
   have da:kD 24 o.n l.n=true:=uv;rw [d1,d2,ej,h1];simp only [fQ,ee,ak,dk,cv,da];rcases h2 with ⟨rfl,hpo,hn⟩ | ⟨he,hpo,hn⟩
   ·have de:((0:Int) != 0)=false:=rfl
    rw [de,ba];have hs:Sp m (j+1)=o.n+l.n:=by show Sp m j+Mr _=_; rw [ho,hn]
    by_cases h64:(((o.n+l.n:Nat)):Int) > 64
    ·rw [aq h64]
     exact .inr ⟨_,_,rfl,rfl,.inr ⟨rfl,rfl,fun k=>by have:=asz m (show j+1<=m.cG.n by omega); have:=k.2; omega⟩⟩
    ·rw [bj h64,ba]
     have e1:aR ((j:Int)+1)=((j+1:Nat):Int):=by rw [cd (by omega) (by omega)]; omega
     rcases aoF ⟨0,fun _=>⟨0,0,0⟩⟩ (o.join l) false m.cG ((m.cG.n:Nat):Int) (j:Int) (m.cG.get j).index (by have:=hpo.2.1; omega) m with ⟨k,q1,q2⟩ | ⟨x',q1,q2,i,q3,q4⟩
     ·rw [q1]
      simp only [aW.lC,aW.lq,cv,ak];rw [e1];refine .inl ⟨_,rfl,by omega,o.join l,rfl,by rw [hs]; rfl,by omega,fun k' yq=>?_⟩;by_cases e:k' = j
      ·subst e; exact ⟨hpo,q2⟩
      ·exact mj k' (by omega)
     ·rw [q1]
      simp only [aW.lC,aW.lq,cv,ak];exact .inr ⟨_,_,rfl,rfl,.inr ⟨rfl,q2,fun k=>q4 ((k.1 j (by omega)).2 i q3)⟩⟩
   ·have de:(e != (0:Int))=true:=by rw [bne_iff_ne]; exact he
    rw [de];exact .inr ⟨_,_,rfl,rfl,.inr ⟨rfl,rfl,fun k=>hpo (k.1 j (by omega)).1⟩⟩
  ·rw [bj bG,ba]
   simp only [cv,ak];have:j=m.cG.n:=by omega
   subst this;exact .inr ⟨_,_,rfl,rfl,.inl ⟨rfl,mj,ht⟩⟩
 rw [h1];rcases h2 with ⟨rfl,h2⟩ | ⟨rfl,h2,h3⟩
 ·exact ⟨_,true,rfl,⟨fun _=>h2,fun _=>rfl⟩⟩
 ·exact ⟨_,x'.t3,rfl,⟨fun k=>by rw [h2] at k; simp at k,fun k=>absurd k h3⟩⟩
theorem H9 (n low high:Int):b.vo n low high=some (decide (low<=n/\n<=high)):=by
 refine bin ?_;unfold b.vo;by_cases h:n >= low
 ·rw [aq h]
  exact ⟨_,rfl,by rw [decide_eq_true_iff]; omega⟩
 ·rw [bj h]
  exact ⟨false,rfl,⟨fun k=>by simp at k,fun k=>absurd k.1 h⟩⟩
theorem amD (z o:Sl b.az) (t:Bool) (i:Nat) (l:Sl b.az) (m:b.iU) (hi:i < m.cG.n) (hl:(m.cG.get i).index.n<=1000) (hv:m.gh.n<=1000) :
  (∃ k,goN b.jb (⟨z,t,o,(i:Int),l,(0:Int),m⟩:b.gG) = .out (.exit 2) ⟨z,t,o,(i:Int),l,k,m⟩/\∀ k,k < (m.cG.get i).index.n->0<=(m.cG.get i).index.get k/\(m.cG.get i).index.get k < (m.gh.n:Int))\/
  ∃ x',goN b.jb (⟨z,t,o,(i:Int),l,(0:Int),m⟩:b.gG) = .out .ret x'/\x'.t3=false/\∃ k,k < (m.cG.get i).index.n/\¬ (0<=(m.cG.get i).index.get k/\(m.cG.get i).index.get k < (m.gh.n:Int)):=by
 have g1:decide ((0:Int)<=(i:Int))=true:=aq (by omega);have g2:decide ((i:Int) < ((m.cG.n:Nat):Int))=true:=aq (by omega);have ei:Int.toNat (i:Int)=i:=rfl;have ev:aR (((m.gh.n:Nat):Int) - 1)=((m.gh.n:Nat):Int) - 1:=cd (by omega) (by omega);have key:=jG (step:=b.jb) (m.cG.get i).index.n (by unfold iI; omega) (fun j=>⟨z,t,o,(i:Int),l,(j:Int),m⟩) (fun k=>0<=(m.cG.get i).index.get k/\(m.cG.get i).index.get k < (m.gh.n:Int)) (e0:=.exit 2) (er:=.ret) rfl rfl (fun x'=>x'.t3=false) (xe:=⟨z,t,o,(i:Int),l,(((m.cG.get i).index.n:Nat):Int),m⟩) (fun j hj=>by
  have e1:aR ((j:Int)+1)=((j+1:Nat):Int):=by rw [cd (by omega) (by omega)]; omega
  have d1:decide ((j:Int) < (((m.cG.get i).index.n:Nat):Int))=true:=aq (by omega);have d2:decide ((0:Int)<=(j:Int))=true:=aq (by omega);have ej:Int.toNat (j:Int)=j:=rfl;unfold b.jb b.B7
  dsimp only
  rw [g1,g2,ei,d1,d2,ej,e1,ev,H9];simp only [cv,dk,ak,fQ,ee];constructor
  ·rintro ⟨h1,h2⟩
   rw [aq (show 0<=(m.cG.get i).index.get j/\(m.cG.get i).index.get j<=((m.gh.n:Nat):Int) - 1 by omega)];rfl
  ·intro h
   rw [bj (show ¬ (0<=(m.cG.get i).index.get j/\(m.cG.get i).index.get j<=((m.gh.n:Nat):Int) - 1) by omega)];exact ⟨_,rfl,rfl⟩) (by
  unfold b.jb
  dsimp only
  rw [g1,g2,ei,bj (Int.lt_irrefl _)];simp only [cv,ak,ba,dk])
 rcases key with ⟨h1,h2⟩ | ⟨x',h1,h2,h3⟩
 ·exact .inl ⟨_,h1,h2⟩
 ·exact .inr ⟨x',h1,h2,h3⟩
theorem auM {p:b.Prim} (h:S5 p):Mr p<=200:=by
 have:=h.2.1;unfold Mr G0;split <;> omega
theorem aqa (m:b.iU) (hk:Bk m) (hp:m.cG.n<=16) (hv:m.gh.n<=1000):∃ l r,b.EL m=some (l,r)/\(r=true/\(∀ k,k < m.cG.n->HU m k)/\l.n=Sp m m.cG.n\/r=false/\¬ ∀ k,k < m.cG.n->HU m k):=by
 unfold b.EL b.zQ;obtain ⟨e,x',h1,h2⟩:∃ e x',goN b.pC (⟨⟨0,fun _=>⟨0,0,0⟩⟩,false,⟨0,fun _=>⟨0,0,0⟩⟩,(0:Int),m⟩:b.ja) = .out e x'/\((e = .exit 0/\(∀ k,k < m.cG.n->HU m k)/\x'.out.n=Sp m m.cG.n)\/(e = .ret/\x'.t3=false/\¬ ∀ k,k < m.cG.n->HU m k)):=by
  refine jq (X:=b.ja) (fun j x=>∃ o:Sl b.az,x=⟨⟨0,fun _=>⟨0,0,0⟩⟩,false,o,(j:Int),m⟩/\o.n=Sp m j/\Sp m j<=200 * j/\∀ k,k < j->HU m k) (fun e x'=>(e = .exit 0/\(∀ k,k < m.cG.n->HU m k)/\x'.out.n=Sp m m.cG.n)\/(e = .ret/\x'.t3=false/\¬ ∀ k,k < m.cG.n->HU m k)) m.cG.n (by unfold iI; omega) ?_ ⟨_,rfl,rfl,aU _,fun k hk=>absurd hk (o8 _)⟩;rintro j _ hj ⟨o,rfl,ho,ht,mj⟩;unfold b.pC b.cQ b.Bw
  dsimp only
  by_cases bG:(j:Int) < ((m.cG.n:Nat):Int)
  ·have d1:decide ((j:Int) < ((m.cG.n:Nat):Int))=true:=aq bG
   have d2:decide ((0:Int)<=(j:Int))=true:=aq (by omega);have ej:Int.toNat (j:Int)=j:=rfl;obtain ⟨l,e,h1,h2⟩:=aoE (m.cG.get j) (hk j (by omega));rw [d1,d2,ej,h1];simp only [fQ,ee,ak,dk,cv];rcases h2 with ⟨rfl,hpo,hn⟩ | ⟨he,hpo,hn⟩
   ·have de:((0:Int) != 0)=false:=rfl
    rw [de,ba];have hc:=auM hpo;have hs:Sp m (j+1)=o.n+l.n:=by show Sp m j+Mr _=_; rw [ho,hn]
    have e1:aR ((j:Int)+1)=((j+1:Nat):Int):=by rw [cd (by omega) (by omega)]; omega
    have da:kD 24 o.n l.n=true:=uv;rcases amD ⟨0,fun _=>⟨0,0,0⟩⟩ o false j l m (by omega) (by have:=hpo.2.1; omega) hv with ⟨k,q1,q2⟩ | ⟨x',q1,q2,i,q3,q4⟩
    ·rw [q1]
     simp only [aW.lC,aW.lq,cv,ak];rw [e1,da];refine .inl ⟨_,rfl,by omega,o.join l,rfl,by rw [hs]; rfl,by omega,fun k' yq=>?_⟩;by_cases e:k' = j
     ·subst e; exact ⟨hpo,q2⟩
     ·exact mj k' (by omega)
    ·rw [q1]
     simp only [aW.lC,aW.lq,cv,ak];exact .inr ⟨_,_,rfl,rfl,.inr ⟨rfl,q2,fun k=>q4 ((k j (by omega)).2 i q3)⟩⟩
   ·have de:(e != (0:Int))=true:=by rw [bne_iff_ne]; exact he
    rw [de];exact .inr ⟨_,_,rfl,rfl,.inr ⟨rfl,rfl,fun k=>hpo (k j (by omega)).1⟩⟩
  ·rw [bj bG,ba]
   simp only [cv,ak];have:j=m.cG.n:=by omega
   subst this;exact .inr ⟨_,_,rfl,rfl,.inl ⟨rfl,mj,ho⟩⟩
 rw [h1];rcases h2 with ⟨rfl,h2,h3⟩ | ⟨rfl,h2,h3⟩
 ·exact ⟨_,true,rfl,.inl ⟨rfl,h2,h3⟩⟩
 ·exact ⟨_,x'.t3,rfl,.inr ⟨h2,h3⟩⟩
def aaf (q:b.ru):Prop:=0<=q.e0/\q.e0<=255/\0<=q.e1/\q.e1<=255
def abY (m:b.iU):Prop:=m.gh.n<=64/\m.uV.n<=64/\m.cG.n<=16
def DX (m:b.iU):Prop:=abY m/\m.uV.n=m.gh.n/\(∀ i,i < m.gh.n->qU (m.gh.get i) 1024)/\(∀ i,i < m.uV.n->aaf (m.uV.get i))/\S6 m
theorem aoG (s:Sl b.fO) (hs:s.n<=64):(∃ x',goN b.bS (⟨s,(0:Int),((s.n:Nat):Int),(0:Int)⟩:b.aO) = .out (.exit 0) x'/\∀ i,i < s.n->qU (s.get i) 1024)\/
  ∃ x',goN b.bS (⟨s,(0:Int),((s.n:Nat):Int),(0:Int)⟩:b.aO) = .out .ret x'/\x'.t4 >= 0/\∃ i,i < s.n/\¬ qU (s.get i) 1024:=by
 have key:=jG (step:=b.bS) s.n (by unfold iI; omega) (fun j=>⟨s,(0:Int),((s.n:Nat):Int),(j:Int)⟩) (fun k=>qU (s.get k) 1024) (e0:=.exit 0) (er:=.ret) rfl rfl (fun x'=>x'.t4 >= 0) (xe:=⟨s,(0:Int),((s.n:Nat):Int),((s.n:Nat):Int)⟩) (fun j hj=>by
  have e1:aR ((j:Int)+1)=((j+1:Nat):Int):=by rw [cd (by omega) (by omega)]; omega
  have d1:decide ((j:Int) < ((s.n:Nat):Int))=true:=aq (by omega);have d2:decide ((0:Int)<=(j:Int))=true:=aq (by omega);have ej:Int.toNat (j:Int)=j:=rfl;unfold b.bS qU lO
  dsimp only
  rw [d1,d2,ej,e1];simp only [dk,ak];generalize s.get j=v;have D2:(j:Int) >= 0:=by omega
  by_cases h1:v.x >= -1024
  ·by_cases h2:v.x<=1024
   ·by_cases h3:v.y >= -1024
    ·by_cases h4:v.y<=1024
     ·by_cases h5:v.z >= -1024
      ·by_cases h6:v.z<=1024
       ·rw [aq h1,aq h2,aq h3,aq h4,aq h5,aq h6]
        exact ⟨fun _=>rfl,fun h=>absurd ⟨⟨h1,h2⟩,⟨h3,h4⟩,h5,h6⟩ h⟩
       ·rw [aq h1,aq h2,aq h3,aq h4,aq h5,bj h6]
        exact ⟨fun h=>absurd h.2.2.2 h6,fun h=>⟨_,rfl,D2⟩⟩
      ·rw [aq h1,aq h2,aq h3,aq h4,bj h5]
       exact ⟨fun h=>absurd h.2.2.1 h5,fun h=>⟨_,rfl,D2⟩⟩
     ·rw [aq h1,aq h2,aq h3,bj h4]
      exact ⟨fun h=>absurd h.2.1.2 h4,fun h=>⟨_,rfl,D2⟩⟩
    ·rw [aq h1,aq h2,bj h3]
     exact ⟨fun h=>absurd h.2.1.1 h3,fun h=>⟨_,rfl,D2⟩⟩
   ·rw [aq h1,bj h2]
    exact ⟨fun h=>absurd h.1.2 h2,fun h=>⟨_,rfl,D2⟩⟩
  ·rw [bj h1]
   exact ⟨fun h=>absurd h.1.1 h1,fun h=>⟨_,rfl,D2⟩⟩) (by
  unfold b.bS
  dsimp only
  rw [bj (Int.lt_irrefl _)];rfl)
 rcases key with ⟨h1,h2⟩ | ⟨x',h1,h2,h3⟩
 ·exact .inl ⟨_,h1,h2⟩
 ·exact .inr ⟨x',h1,h2,h3⟩
theorem asA (s:Sl b.ru) (hs:s.n<=64):(∃ x',goN b.bT (⟨s,(0:Int),((s.n:Nat):Int),(0:Int)⟩:b.aZ) = .out (.exit 0) x'/\∀ i,i < s.n->aaf (s.get i))\/
  ∃ x',goN b.bT (⟨s,(0:Int),((s.n:Nat):Int),(0:Int)⟩:b.aZ) = .out .ret x'/\x'.t4 >= 0/\∃ i,i < s.n/\¬ aaf (s.get i):=by
 have key:=jG (step:=b.bT) s.n (by unfold iI; omega) (fun j=>⟨s,(0:Int),((s.n:Nat):Int),(j:Int)⟩) (fun k=>aaf (s.get k)) (e0:=.exit 0) (er:=.ret) rfl rfl (fun x'=>x'.t4 >= 0) (xe:=⟨s,(0:Int),((s.n:Nat):Int),((s.n:Nat):Int)⟩) (fun j hj=>by
  have e1:aR ((j:Int)+1)=((j+1:Nat):Int):=by rw [cd (by omega) (by omega)]; omega
  have d1:decide ((j:Int) < ((s.n:Nat):Int))=true:=aq (by omega);have d2:decide ((0:Int)<=(j:Int))=true:=aq (by omega);have ej:Int.toNat (j:Int)=j:=rfl;unfold b.bT aaf
  dsimp only
  rw [d1,d2,ej,e1];simp only [dk,ak];generalize s.get j=v;have D2:(j:Int) >= 0:=by omega
  by_cases h1:v.e0 < 0
  ·rw [aq h1]
   exact ⟨fun h=>absurd h.1 (by omega),fun h=>⟨_,rfl,D2⟩⟩
  ·by_cases h2:v.e0 > 255
   ·rw [bj h1,aq h2]
    exact ⟨fun h=>absurd h.2.1 (by omega),fun h=>⟨_,rfl,D2⟩⟩
   ·by_cases h3:v.e1 < 0
    ·rw [bj h1,bj h2,aq h3]
     exact ⟨fun h=>absurd h.2.2.1 (by omega),fun h=>⟨_,rfl,D2⟩⟩
    ·by_cases h4:v.e1 > 255
     ·rw [bj h1,bj h2,bj h3,aq h4]
      exact ⟨fun h=>absurd h.2.2.2 (by omega),fun h=>⟨_,rfl,D2⟩⟩
     ·rw [bj h1,bj h2,bj h3,bj h4]
      exact ⟨fun _=>rfl,fun h=>absurd ⟨by omega,by omega,by omega,by omega⟩ h⟩) (by
  unfold b.bT
  dsimp only
  rw [bj (Int.lt_irrefl _)];rfl)
 rcases key with ⟨h1,h2⟩ | ⟨x',h1,h2,h3⟩
 ·exact .inl ⟨_,h1,h2⟩
 ·exact .inr ⟨x',h1,h2,h3⟩
open Classical in
noncomputable def Gl (m:b.iU):Int:=if abY m then (if DX m then 0 else 40) else 4
theorem aqb (m:b.iU) (hk:Bk m):b.xx m=some (Gl m):=by
 unfold b.xx Gl;by_cases h1:((m.gh.n:Nat):Int) > 64
 ·rw [aq h1,av fun k=>by have:=k.1; omega]; rfl
 rw [bj h1];by_cases h2:((m.uV.n:Nat):Int) > 64
 ·rw [aq h2,av fun k=>by have:=k.2.1; omega]; rfl
 rw [bj h2];by_cases h3:((m.cG.n:Nat):Int) > 16
 ·rw [aq h3,av fun k=>by have:=k.2.2; omega]; rfl
 rw [bj h3];have hf:abY m:=⟨by omega,by omega,by omega⟩
 rw [aY hf];simp only [ba];by_cases h4:((m.uV.n:Nat):Int)=((m.gh.n:Nat):Int)
 ·rw [bne_eq_false_iff_eq.2 h4,ba]
  unfold b.BA b.qP b.mU;rcases aoG m.gh hf.1 with ⟨x',q1,q2⟩ | ⟨x',q1,q2,i,q3,q4⟩
  ·rw [q1]
   rcases asA m.uV hf.2.1 with ⟨y',r1,r2⟩ | ⟨y',r1,r2,i,r3,r4⟩
   ·rw [r1]
    obtain ⟨l,r,s1,s2⟩:=ap9 m hk (by have:=hf.2.2; omega);rw [s1];cases r with
    | true=>rw [aY ⟨hf,by omega,q2,r2,s2.1 rfl⟩]; rfl
    | false=>rw [av fun k=>by have:=s2.2 k.2.2.2.2; simp at this]; rfl
   ·rw [r1,av fun k=>r4 (k.2.2.2.1 i r3)]
    simp only [aW.lC,aW.lq,r2,decide_true];rfl
  ·rw [q1,av fun k=>q4 (k.2.2.1 i q3)]
   simp only [aW.lC,aW.lq,q2,decide_true];rfl
 ·rw [bne_iff_ne.2 h4,av fun k=>h4 (by rw [k.2.1])]; rfl
theorem aqc (m:b.iU) (hv:m.gh.n<=64) (hu:m.uV.n=m.gh.n):(∃ k,goN b.kT (⟨false,(0:Int),m⟩:b.eD) = .out (.exit 0) ⟨false,k,m⟩/\∀ i,i < m.gh.n->qU (m.gh.get i) 1024/\aaf (m.uV.get i))\/
  ∃ x',goN b.kT (⟨false,(0:Int),m⟩:b.eD) = .out .ret x'/\x'.t2=false/\∃ i,i < m.gh.n/\¬ (qU (m.gh.get i) 1024/\aaf (m.uV.get i)):=by
 have key:=jG (step:=b.kT) m.gh.n (by unfold iI; omega) (fun j=>⟨false,(j:Int),m⟩) (fun i=>qU (m.gh.get i) 1024/\aaf (m.uV.get i)) (e0:=.exit 0) (er:=.ret) rfl rfl (fun x'=>x'.t2=false) (xe:=⟨false,((m.gh.n:Nat):Int),m⟩) (fun j hj=>by
  have e1:aR ((j:Int)+1)=((j+1:Nat):Int):=by rw [cd (by omega) (by omega)]; omega
  have d1:decide ((j:Int) < ((m.gh.n:Nat):Int))=true:=aq (by omega);have d2:decide ((0:Int)<=(j:Int))=true:=aq (by omega);have d3:decide ((j:Int) < ((m.uV.n:Nat):Int))=true:=aq (by omega);have ej:Int.toNat (j:Int)=j:=rfl;unfold b.kT b.GF b.GG b.GH b.GI b.GJ qU lO aaf
  dsimp only
  rw [d1,d2,d3,ej,e1,H9,H9,H9,H9,H9];simp only [dk,ak,fQ,ee];generalize m.gh.get j=v;generalize m.uV.get j=u;by_cases h1 : -1024<=v.x/\v.x<=1024
  ·by_cases h2 : -1024<=v.y/\v.y<=1024
   ·by_cases h3 : -1024<=v.z/\v.z<=1024
    ·by_cases h4:0<=u.e0/\u.e0<=255
     ·by_cases h5:0<=u.e1/\u.e1<=255
      ·rw [aq h1,aq h2,aq h3,aq h4,aq h5]
       exact ⟨fun _=>rfl,fun h=>absurd ⟨⟨h1,h2,h3⟩,h4.1,h4.2,h5⟩ h⟩
      ·rw [aq h1,aq h2,aq h3,aq h4,bj h5]
       exact ⟨fun h=>absurd h.2.2.2 h5,fun h=>⟨_,rfl,rfl⟩⟩
     ·rw [aq h1,aq h2,aq h3,bj h4]
      exact ⟨fun h=>absurd ⟨h.2.1,h.2.2.1⟩ h4,fun h=>⟨_,rfl,rfl⟩⟩
    ·rw [aq h1,aq h2,bj h3]
     exact ⟨fun h=>absurd h.1.2.2 h3,fun h=>⟨_,rfl,rfl⟩⟩
   ·rw [aq h1,bj h2]
    exact ⟨fun h=>absurd h.1.2.1 h2,fun h=>⟨_,rfl,rfl⟩⟩
  ·rw [bj h1]
   exact ⟨fun h=>absurd h.1.1 h1,fun h=>⟨_,rfl,rfl⟩⟩) (by
  unfold b.kT
  dsimp only
  rw [bj (Int.lt_irrefl _)];rfl)
 rcases key with ⟨h1,h2⟩ | ⟨x',h1,h2,h3⟩
 ·exact .inl ⟨_,h1,h2⟩
 ·exact .inr ⟨x',h1,h2,h3⟩
theorem aqd (m:b.iU) (hk:Bk m) (hf:abY m):∃ r,b.EM m=some r/\(r=true↔DX m):=by
 unfold b.EM;by_cases h4:((m.uV.n:Nat):Int)=((m.gh.n:Nat):Int)
 ·rw [bne_eq_false_iff_eq.2 h4,ba]
  unfold b.HD b.DA;rcases aqc m hf.1 (by omega) with ⟨k,q1,q2⟩ | ⟨x',q1,q2,i,q3,q4⟩
  ·rw [q1]
   obtain ⟨l,r,s1,s2⟩:=aqa m hk hf.2.2 (by have:=hf.1; omega);simp only [aW.lC,aW.lq,s1,fQ,ee,ak];rcases s2 with ⟨rfl,s2,s3⟩ | ⟨rfl,s2⟩
   ·refine ⟨_,rfl,?_⟩
    simp only [o7];exact ⟨fun h=>⟨hf,by omega,fun i hi=>(q2 i hi).1,fun i hi=>(q2 i (by omega)).2,s2,by omega⟩,fun h=>by have:=h.2.2.2.2.2; omega⟩
   ·exact ⟨false,rfl,⟨fun h=>by simp at h,fun h=>absurd h.2.2.2.2.1 s2⟩⟩
  ·rw [q1]
   exact ⟨x'.t2,rfl,⟨fun h=>by rw [q2] at h; simp at h,fun h=>absurd ⟨h.2.2.1 i q3,h.2.2.2.1 i (by omega)⟩ q4⟩⟩
 ·rw [bne_iff_ne.2 h4]
  exact ⟨false,rfl,⟨fun h=>by simp at h,fun h=>absurd (by rw [h.2.1]) h4⟩⟩
theorem aoH (m:b.iU) (hk:Bk m):b.zR m=some (Gl m):=by
 unfold b.zR Gl;by_cases h1:((m.gh.n:Nat):Int) > 64
 ·rw [aq h1,av fun k=>by have:=k.1; omega]; rfl
 rw [bj h1];by_cases h2:((m.uV.n:Nat):Int) > 64
 ·rw [aq h2,av fun k=>by have:=k.2.1; omega]; rfl
 rw [bj h2];by_cases h3:((m.cG.n:Nat):Int) > 16
 ·rw [aq h3,av fun k=>by have:=k.2.2; omega]; rfl
 rw [bj h3];have hf:abY m:=⟨by omega,by omega,by omega⟩
 rw [aY hf];unfold b.Ja;obtain ⟨r,s1,s2⟩:=aqd m hk hf;rw [s1];cases r with
 | true=>rw [aY (s2.1 rfl)]; rfl
 | false=>rw [av fun k=>by have:=s2.2 k; simp at this]; rfl
def Pb (l:b.ir):Prop:=-1<=l.cN/\l.cN < 16/\l.lz<=2/\-1024<=l.jW/\l.jW<=1024/\0<=l.bin/\l.bin<=15
theorem auN {p:Prop} [Decidable p] {x:Option Int} {Q:Prop} (h1:p->¬ Q) (h2 : ¬ p->∃ e,x=some e/\(e=0/\Q\/e=8/\¬ Q)):∃ e,cond (decide p) (some 8) x=some e/\(e=0/\Q\/e=8/\¬ Q):=by
 by_cases h:p
 ·rw [aq h]
  exact ⟨8,rfl,.inr ⟨rfl,h1 h⟩⟩
 ·rw [bj h]
  exact h2 h
theorem auO {p:Prop} [Decidable p] {x:Option Bool} {Q:Prop} (h1 : ¬ p->¬ Q) (h2:p->∃ r,x=some r/\(r=true↔Q)):∃ r,cond (decide p) x (some false)=some r/\(r=true↔Q):=by
 by_cases h:p
 ·rw [aq h]; exact h2 h
 ·rw [bj h]; exact ⟨false,rfl,⟨fun k=>by simp at k,fun k=>absurd k (h1 h)⟩⟩
theorem aqe (l:b.ir):∃ e,b.od l=some e/\(e=0/\Pb l\/e=8/\¬ Pb l):=by
 unfold b.od Pb
 iterate 7 refine auN (fun h k=>by omega) fun _=>?_
 exact ⟨0,rfl,.inl ⟨rfl,by omega⟩⟩
theorem aoI (l:b.ir):∃ r,b.vm l=some r/\(r=true↔Pb l):=by
 unfold b.vm Pb
 iterate 6 refine auO (fun h k=>by omega) fun _=>?_
 exact ⟨_,rfl,by rw [decide_eq_true_iff]; omega⟩
def ji (n:Int):Prop:=n=0\/n=1\/n=3\/n=5\/n=7
def Sq (s:b.gN) (l:b.ir):b.ir:=if s.bN.e0=0 then l else ⟨s.look.color,l.cN,l.lz,l.jW,l.ff,l.bin⟩
theorem awX (t:Int) (s:b.gN) (l:b.ir):(ji s.bN.e0->b.bQ ⟨t,0,s,l⟩ = .next ⟨t,1,s,Sq s l⟩)/\(¬ ji s.bN.e0->∃ x',b.bQ ⟨t,0,s,l⟩ = .out .ret x'/\x'.t2=8):=by
 unfold b.bQ ji Sq
 dsimp only
 have e1:aR ((0:Int)+1)=1:=by decide
 rw [e1];constructor
 ·rintro (h | h | h | h | h) <;> rw [h] <;> rfl
 ·intro h
  rw [beq_eq_false_iff_ne.2 (fun k=>h (by omega):s.bN.e0≠0),beq_eq_false_iff_ne.2 (fun k=>h (by omega):s.bN.e0≠1),beq_eq_false_iff_ne.2 (fun k=>h (by omega):s.bN.e0≠3),beq_eq_false_iff_ne.2 (fun k=>h (by omega):s.bN.e0≠5),beq_eq_false_iff_ne.2 (fun k=>h (by omega):s.bN.e0≠7)];exact ⟨_,rfl,rfl⟩
def Xh (s:b.gN) (l:b.ir):b.ir:=if s.bN.e1=0 then l else ⟨l.color,s.look.cN,l.lz,l.jW,l.ff,l.bin⟩
theorem awY (t:Int) (s:b.gN) (l:b.ir):(ji s.bN.e1->b.bQ ⟨t,1,s,l⟩ = .next ⟨t,2,s,Xh s l⟩)/\(¬ ji s.bN.e1->∃ x',b.bQ ⟨t,1,s,l⟩ = .out .ret x'/\x'.t2=8):=by
 unfold b.bQ ji Xh
 dsimp only
 have e1:aR ((1:Int)+1)=2:=by decide
 rw [e1];constructor
 ·rintro (h | h | h | h | h) <;> rw [h] <;> rfl
 ·intro h
  rw [beq_eq_false_iff_ne.2 (fun k=>h (by omega):s.bN.e1≠0),beq_eq_false_iff_ne.2 (fun k=>h (by omega):s.bN.e1≠1),beq_eq_false_iff_ne.2 (fun k=>h (by omega):s.bN.e1≠3),beq_eq_false_iff_ne.2 (fun k=>h (by omega):s.bN.e1≠5),beq_eq_false_iff_ne.2 (fun k=>h (by omega):s.bN.e1≠7)];exact ⟨_,rfl,rfl⟩
def abZ (s:b.gN) (l:b.ir):b.ir:=if s.bN.e2=0 then l else ⟨l.color,l.cN,s.look.lz,l.jW,l.ff,l.bin⟩
theorem awZ (t:Int) (s:b.gN) (l:b.ir):(ji s.bN.e2->b.bQ ⟨t,2,s,l⟩ = .next ⟨t,3,s,abZ s l⟩)/\(¬ ji s.bN.e2->∃ x',b.bQ ⟨t,2,s,l⟩ = .out .ret x'/\x'.t2=8):=by
 unfold b.bQ ji abZ
 dsimp only
 have e1:aR ((2:Int)+1)=3:=by decide
 rw [e1];constructor
 ·rintro (h | h | h | h | h) <;> rw [h] <;> rfl
 ·intro h
  rw [beq_eq_false_iff_ne.2 (fun k=>h (by omega):s.bN.e2≠0),beq_eq_false_iff_ne.2 (fun k=>h (by omega):s.bN.e2≠1),beq_eq_false_iff_ne.2 (fun k=>h (by omega):s.bN.e2≠3),beq_eq_false_iff_ne.2 (fun k=>h (by omega):s.bN.e2≠5),beq_eq_false_iff_ne.2 (fun k=>h (by omega):s.bN.e2≠7)];exact ⟨_,rfl,rfl⟩
def aiF (s:b.gN) (l:b.ir):b.ir:=if s.bN.e3=0 then l else ⟨l.color,l.cN,l.lz,s.look.jW,l.ff,l.bin⟩
theorem aw0 (t:Int) (s:b.gN) (l:b.ir):(ji s.bN.e3->b.bQ ⟨t,3,s,l⟩ = .next ⟨t,4,s,aiF s l⟩)/\(¬ ji s.bN.e3->∃ x',b.bQ ⟨t,3,s,l⟩ = .out .ret x'/\x'.t2=8):=by
 unfold b.bQ ji aiF
 dsimp only
 have e1:aR ((3:Int)+1)=4:=by decide
 rw [e1];constructor
 ·rintro (h | h | h | h | h) <;> rw [h] <;> rfl
 ·intro h
  rw [beq_eq_false_iff_ne.2 (fun k=>h (by omega):s.bN.e3≠0),beq_eq_false_iff_ne.2 (fun k=>h (by omega):s.bN.e3≠1),beq_eq_false_iff_ne.2 (fun k=>h (by omega):s.bN.e3≠3),beq_eq_false_iff_ne.2 (fun k=>h (by omega):s.bN.e3≠5),beq_eq_false_iff_ne.2 (fun k=>h (by omega):s.bN.e3≠7)];exact ⟨_,rfl,rfl⟩
def amE (s:b.gN) (l:b.ir):b.ir:=if s.bN.e4=0 then l else ⟨l.color,l.cN,l.lz,l.jW,s.look.ff,s.look.bin⟩
theorem aw1 (t:Int) (s:b.gN) (l:b.ir):(ji s.bN.e4->b.bQ ⟨t,4,s,l⟩ = .next ⟨t,5,s,amE s l⟩)/\(¬ ji s.bN.e4->∃ x',b.bQ ⟨t,4,s,l⟩ = .out .ret x'/\x'.t2=8):=by
 unfold b.bQ ji amE
 dsimp only
 have e1:aR ((4:Int)+1)=5:=by decide
 rw [e1];constructor
 ·rintro (h | h | h | h | h) <;> rw [h] <;> rfl
 ·intro h
  rw [beq_eq_false_iff_ne.2 (fun k=>h (by omega):s.bN.e4≠0),beq_eq_false_iff_ne.2 (fun k=>h (by omega):s.bN.e4≠1),beq_eq_false_iff_ne.2 (fun k=>h (by omega):s.bN.e4≠3),beq_eq_false_iff_ne.2 (fun k=>h (by omega):s.bN.e4≠5),beq_eq_false_iff_ne.2 (fun k=>h (by omega):s.bN.e4≠7)];exact ⟨_,rfl,rfl⟩
def LQ:b.ir:=⟨⟨0,0,0,0⟩,0,0,0,false,0⟩
def said (s:b.gN):b.ir:=amE s (aiF s (abZ s (Xh s (Sq s LQ))))
def S7 (s:b.gN):Prop:=ji s.bN.e0/\ji s.bN.e1/\ji s.bN.e2/\ji s.bN.e3/\ji s.bN.e4
def JB (s:b.gN):Prop:=S7 s/\said s=s.look/\Pb s.look
theorem aqf (s:b.gN):(goN b.bQ (⟨0,0,s,LQ⟩:b.aQ) = .out (.exit 0) ⟨0,5,s,said s⟩/\S7 s)\/∃ x',goN b.bQ (⟨0,0,s,LQ⟩:b.aQ) = .out .ret x'/\x'.t2=8/\¬ S7 s:=by
 have key:=jG (step:=b.bQ) 5 (by unfold iI; omega) (fun j=>match j with
  | 0=>⟨0,0,s,LQ⟩
  | 1=>⟨0,1,s,Sq s LQ⟩
  | 2=>⟨0,2,s,Xh s (Sq s LQ)⟩
  | 3=>⟨0,3,s,abZ s (Xh s (Sq s LQ))⟩
  | 4=>⟨0,4,s,aiF s (abZ s (Xh s (Sq s LQ)))⟩
  | _=>⟨0,5,s,said s⟩) (fun j=>match j with
  | 0=>ji s.bN.e0
  | 1=>ji s.bN.e1
  | 2=>ji s.bN.e2
  | 3=>ji s.bN.e3
  | _=>ji s.bN.e4) (e0:=.exit 0) (er:=.ret) rfl rfl (fun x'=>x'.t2=8) (xe:=⟨0,5,s,said s⟩) (fun j hj=>by
   rcases (by omega:j=0\/j=1\/j=2\/j=3\/j=4) with rfl | rfl | rfl | rfl | rfl
   ·exact awX 0 s _
   ·exact awY 0 s _
   ·exact awZ 0 s _
   ·exact aw0 0 s _
   ·exact aw1 0 s _) rfl
 rcases key with ⟨h1,h2⟩ | ⟨x',h1,h2,j,h3,h4⟩
 ·exact .inl ⟨h1,h2 0 (by omega),h2 1 (by omega),h2 2 (by omega),h2 3 (by omega),h2 4 (by omega)⟩
 ·refine .inr ⟨x',h1,h2,fun k=>h4 ?_⟩
  obtain ⟨k0,k1,k2,k3,k4⟩:=k;rcases (by omega:j=0\/j=1\/j=2\/j=3\/j=4) with rfl | rfl | rfl | rfl | rfl <;> assumption
theorem look_eq (a c:b.ir):((a.color.e0==c.color.e0)&&((a.color.e1==c.color.e1)&&((a.color.e2==c.color.e2)&&((a.color.e3==c.color.e3)&&((a.cN==c.cN)&&((a.lz==c.lz)&&((a.jW==c.jW)&&((a.ff==c.ff)&&((a.bin==c.bin)&&true)))))))))=true↔a=c:=by
 obtain ⟨⟨a0,a1,a2,a3⟩,a4,a5,a6,a7,a8⟩:=a;obtain ⟨⟨c0,c1,c2,c3⟩,c4,c5,c6,c7,c8⟩:=c;simp [aA,and_assoc]
theorem aoJ (s:b.gN):∃ e,b.tu s=some e/\(e=0/\JB s\/e=8/\¬ JB s):=by
 unfold b.tu b.Dr b.cF;have e0:(⟨0,0,s,⟨⟨0,0,0,0⟩,0,0,0,false,0⟩⟩:b.aQ)=⟨0,0,s,LQ⟩:=rfl;rw [e0];rcases aqf s with ⟨h1,h2⟩ | ⟨x',h1,h2,h3⟩
 ·rw [h1]
  simp only [aW.lC,aW.lq];by_cases hl:said s=s.look
  ·rw [(look_eq _ _).2 hl]
   obtain ⟨e,q1,q2⟩:=aqe s.look;rw [q1];refine ⟨e,rfl,?_⟩;rcases q2 with ⟨rfl,q2⟩ | ⟨rfl,q2⟩
   ·exact .inl ⟨rfl,h2,hl,q2⟩
   ·exact .inr ⟨rfl,fun k=>q2 k.2.2⟩
  ·rw [Bool.eq_false_iff.2 fun k=>hl ((look_eq _ _).1 k)]
   exact ⟨8,rfl,.inr ⟨rfl,fun k=>hl k.2.1⟩⟩
 ·rw [h1]
  exact ⟨x'.t2,rfl,.inr ⟨h2,fun k=>h3 k.1⟩⟩
theorem cc {α:Type} (a c:Bool) (F X:α):cond a (cond c F X) X=cond (a&&c) F X:=by cases a <;> cases c <;> rfl
theorem cc2 {α:Type} (a c d:Bool) (F X:α):cond a (cond c F (cond d F X)) X=cond (a&&(c||d)) F X:=by cases a <;> cases c <;> cases d <;> rfl
def Pc (s:b.gN):Prop:=(0<=s.bN.e0/\s.bN.e0<=255)/\(0<=s.bN.e1/\s.bN.e1<=255)/\(0<=s.bN.e2/\s.bN.e2<=255)/\(0<=s.bN.e3/\s.bN.e3<=255)/\(0<=s.bN.e4/\s.bN.e4<=255)
theorem avU (t:Bool) (s:b.gN) (h0:0<=s.bN.e0):(ji s.bN.e0->b.cL ⟨t,0,s⟩ = .next ⟨t,1,s⟩)/\(¬ ji s.bN.e0->∃ x',b.cL ⟨t,0,s⟩ = .out .ret x'/\x'.t2=false):=by
 unfold b.cL ji
 dsimp only
 have e1:aR ((0:Int)+1)=1:=by decide
 rw [e1];constructor
 ·rintro (h | h | h | h | h) <;> rw [h] <;> rfl
 ·intro h
  by_cases h7:s.bN.e0 > 7
  ·rw [aq h7]
   exact ⟨_,rfl,rfl⟩
  ·rcases (by omega:s.bN.e0=2\/s.bN.e0=4\/s.bN.e0=6) with q | q | q <;> rw [q] <;> exact ⟨_,rfl,rfl⟩
theorem avV (t:Bool) (s:b.gN) (h0:0<=s.bN.e1):(ji s.bN.e1->b.cL ⟨t,1,s⟩ = .next ⟨t,2,s⟩)/\(¬ ji s.bN.e1->∃ x',b.cL ⟨t,1,s⟩ = .out .ret x'/\x'.t2=false):=by
 unfold b.cL ji
 dsimp only
 have e1:aR ((1:Int)+1)=2:=by decide
 rw [e1];constructor
 ·rintro (h | h | h | h | h) <;> rw [h] <;> rfl
 ·intro h
  by_cases h7:s.bN.e1 > 7
  ·rw [aq h7]
   exact ⟨_,rfl,rfl⟩
  ·rcases (by omega:s.bN.e1=2\/s.bN.e1=4\/s.bN.e1=6) with q | q | q <;> rw [q] <;> exact ⟨_,rfl,rfl⟩
theorem avW (t:Bool) (s:b.gN) (h0:0<=s.bN.e2):(ji s.bN.e2->b.cL ⟨t,2,s⟩ = .next ⟨t,3,s⟩)/\(¬ ji s.bN.e2->∃ x',b.cL ⟨t,2,s⟩ = .out .ret x'/\x'.t2=false):=by
 unfold b.cL ji
 dsimp only
 have e1:aR ((2:Int)+1)=3:=by decide
 rw [e1];constructor
 ·rintro (h | h | h | h | h) <;> rw [h] <;> rfl
 ·intro h
  by_cases h7:s.bN.e2 > 7
  ·rw [aq h7]
   exact ⟨_,rfl,rfl⟩
  ·rcases (by omega:s.bN.e2=2\/s.bN.e2=4\/s.bN.e2=6) with q | q | q <;> rw [q] <;> exact ⟨_,rfl,rfl⟩
theorem avX (t:Bool) (s:b.gN) (h0:0<=s.bN.e3):(ji s.bN.e3->b.cL ⟨t,3,s⟩ = .next ⟨t,4,s⟩)/\(¬ ji s.bN.e3->∃ x',b.cL ⟨t,3,s⟩ = .out .ret x'/\x'.t2=false):=by
 unfold b.cL ji
 dsimp only
 have e1:aR ((3:Int)+1)=4:=by decide
 rw [e1];constructor
 ·rintro (h | h | h | h | h) <;> rw [h] <;> rfl
 ·intro h
  by_cases h7:s.bN.e3 > 7
  ·rw [aq h7]
   exact ⟨_,rfl,rfl⟩
  ·rcases (by omega:s.bN.e3=2\/s.bN.e3=4\/s.bN.e3=6) with q | q | q <;> rw [q] <;> exact ⟨_,rfl,rfl⟩
theorem avY (t:Bool) (s:b.gN) (h0:0<=s.bN.e4):(ji s.bN.e4->b.cL ⟨t,4,s⟩ = .next ⟨t,5,s⟩)/\(¬ ji s.bN.e4->∃ x',b.cL ⟨t,4,s⟩ = .out .ret x'/\x'.t2=false):=by
 unfold b.cL ji
 dsimp only
 have e1:aR ((4:Int)+1)=5:=by decide
 rw [e1];constructor
 ·rintro (h | h | h | h | h) <;> rw [h] <;> rfl
 ·intro h
  by_cases h7:s.bN.e4 > 7
  ·rw [aq h7]
   exact ⟨_,rfl,rfl⟩
  ·rcases (by omega:s.bN.e4=2\/s.bN.e4=4\/s.bN.e4=6) with q | q | q <;> rw [q] <;> exact ⟨_,rfl,rfl⟩
theorem aoK (s:b.gN) (hs:Pc s):(goN b.cL (⟨false,0,s⟩:b.cE) = .out (.exit 0) ⟨false,5,s⟩/\S7 s)\/∃ x',goN b.cL (⟨false,0,s⟩:b.cE) = .out .ret x'/\x'.t2=false/\¬ S7 s:=by
 obtain ⟨⟨s0,_⟩,⟨s1,_⟩,⟨s2,_⟩,⟨s3,_⟩,⟨s4,_⟩⟩:=hs;have key:=jG (step:=b.cL) 5 (by unfold iI; omega) (fun j=>match j with
  | 0=>⟨false,0,s⟩
  | 1=>⟨false,1,s⟩
  | 2=>⟨false,2,s⟩
  | 3=>⟨false,3,s⟩
  | 4=>⟨false,4,s⟩
  | _=>⟨false,5,s⟩) (fun j=>match j with
  | 0=>ji s.bN.e0
  | 1=>ji s.bN.e1
  | 2=>ji s.bN.e2
  | 3=>ji s.bN.e3
  | _=>ji s.bN.e4) (e0:=.exit 0) (er:=.ret) rfl rfl (fun x'=>x'.t2=false) (xe:=⟨false,5,s⟩) (fun j hj=>by
   rcases (by omega:j=0\/j=1\/j=2\/j=3\/j=4) with rfl | rfl | rfl | rfl | rfl
   ·exact avU _ s s0
   ·exact avV _ s s1
   ·exact avW _ s s2
   ·exact avX _ s s3
   ·exact avY _ s s4) rfl
 rcases key with ⟨h1,h2⟩ | ⟨x',h1,h2,j,h3,h4⟩
 ·exact .inl ⟨h1,h2 0 (by omega),h2 1 (by omega),h2 2 (by omega),h2 3 (by omega),h2 4 (by omega)⟩
 ·refine .inr ⟨x',h1,h2,fun k=>h4 ?_⟩
  obtain ⟨k0,k1,k2,k3,k4⟩:=k;rcases (by omega:j=0\/j=1\/j=2\/j=3\/j=4) with rfl | rfl | rfl | rfl | rfl <;> assumption
theorem asB (s:b.gN):said s=s.look↔(s.bN.e0=0->s.look.color=⟨0,0,0,0⟩)/\(s.bN.e1=0->s.look.cN=0)/\(s.bN.e2=0->s.look.lz=0)/\(s.bN.e3=0->s.look.jW=0)/\(s.bN.e4=0->s.look.ff=false/\s.look.bin=0):=by
 obtain ⟨⟨e0,e1,e2,e3,e4⟩,⟨c,t,u,i,bl,n⟩⟩:=s;unfold said amE aiF abZ Xh Sq LQ
 dsimp only
 by_cases h0:e0=0 <;> by_cases h1:e1=0 <;> by_cases h2:e2=0 <;> by_cases h3:e3=0 <;> by_cases h4:e4=0 <;> simp [h0,h1,h2,h3,h4,eq_comm,and_assoc]
theorem AL {p:Prop} {c:Bool} {x:Option Bool} {Q:Prop} (hc:c=true↔p) (h1:p->¬ Q) (h2 : ¬ p->∃ r,x=some r/\(r=true↔Q)):∃ r,cond c (some false) x=some r/\(r=true↔Q):=by
 cases c with
 | true=>exact ⟨false,rfl,⟨fun k=>by simp at k,fun k=>absurd k (h1 (hc.1 rfl))⟩⟩
 | false=>exact h2 fun k=>by have:=hc.2 k; simp at this
theorem amF (s:b.gN) (hs:Pc s):∃ r,b.EJ s=some r/\(r=true↔JB s):=by
 unfold b.EJ b.aX b.aI;rcases aoK s hs with ⟨h1,h2⟩ | ⟨x',h1,h2,h3⟩
 ·rw [h1]
  obtain ⟨r,q1,q2⟩:=aoI s.look;simp only [aW.lC,aW.lq,q1,fQ,ee,ak,cc2,cc];show ∃ r_1,cond _ (some false) _=some r_1/\_;have key:JB s↔S7 s/\said s=s.look/\Pb s.look:=Iff.rfl;have ab0:=asB s;have aw2:((s.look.color.e0==0)&&((s.look.color.e1==0)&&((s.look.color.e2==0)&&((s.look.color.e3==0)&&true))))=true↔s.look.color=⟨0,0,0,0⟩:=by
   obtain ⟨a,c,d,e⟩:=s.look.color;simp
  refine AL (p:=s.bN.e0=0/\s.look.color≠⟨0,0,0,0⟩) ?_ (fun h k=>h.2 ((ab0.1 k.2.1).1 h.1)) fun n0=>?_
  ·rw [aA,kq,mz,<- Bool.not_eq_true,aw2]
  refine AL (p:=s.bN.e1=0/\s.look.cN≠0) (by simp) (fun h k=>h.2 ((ab0.1 k.2.1).2.1 h.1)) fun n1=>?_;refine AL (p:=s.bN.e2=0/\s.look.lz≠0) (by simp) (fun h k=>h.2 ((ab0.1 k.2.1).2.2.1 h.1)) fun n2=>?_;refine AL (p:=s.bN.e3=0/\s.look.jW≠0) (by simp) (fun h k=>h.2 ((ab0.1 k.2.1).2.2.2.1 h.1)) fun n3=>?_;refine AL (p:=s.bN.e4=0/\(s.look.ff=true\/s.look.bin≠0)) (by simp) (fun h k=>by
   obtain ⟨g1,g2⟩:=(ab0.1 k.2.1).2.2.2.2 h.1;rcases h.2 with h | h
   ·rw [g1] at h; simp at h
   ·exact h g2) fun n4=>?_
  refine ⟨r,rfl,q2.trans ⟨fun h=>⟨h2,ab0.2 ⟨fun k=>Classical.byContradiction fun w=>n0 ⟨k,w⟩,fun k=>Classical.byContradiction fun w=>n1 ⟨k,w⟩,fun k=>Classical.byContradiction fun w=>n2 ⟨k,w⟩,fun k=>Classical.byContradiction fun w=>n3 ⟨k,w⟩,fun k=>⟨?_,Classical.byContradiction fun w=>n4 ⟨k,.inr w⟩⟩⟩,h⟩,fun h=>h.2.2⟩⟩;cases hb:s.look.ff with
  | false=>rfl
  | true=>exact absurd ⟨k,.inl hb⟩ n4
 ·rw [h1]
  exact ⟨x'.t2,rfl,⟨fun k=>by rw [h2] at k; simp at k,fun k=>absurd k.1 h3⟩⟩
def KT (l:Sl Int):Nat->Int
 | 0=>0
 | k+1=>l.get k
def aiG (l:Sl Int):Prop:=(∀ j,j < l.n->KT l j<=l.get j/\l.get j<=8192)/\l.n<=16
theorem aoL {l:Sl Int} {n:Nat} (h:∀ j,j < n->KT l j<=l.get j/\l.get j<=8192):∀ j,j < n->0<=l.get j
 | 0,hj=>(h 0 hj).1
 | k+1,hj=>Int.le_trans (aoL h k (by omega)) (h (k+1) hj).1
theorem asC (l:Sl Int) (hn:l.n < 1000000):∃ r,b.Cz l=some r/\(r=true↔aiG l):=by
 unfold b.Cz b.Bi;have key:=jG (step:=b.j5) l.n (by unfold iI; omega) (fun j=>⟨l,false,KT l j,l,((l.n:Nat):Int),(j:Int)⟩) (fun j=>KT l j<=l.get j/\l.get j<=8192) (e0:=.exit 0) (er:=.ret) rfl rfl (fun x'=>x'.t2=false) (xe:=⟨l,false,KT l l.n,l,((l.n:Nat):Int),((l.n:Nat):Int)⟩) (fun j hj=>by
  have e1:aR ((j:Int)+1)=((j+1:Nat):Int):=by rw [cd (by omega) (by omega)]; omega
  have d1:decide ((j:Int) < ((l.n:Nat):Int))=true:=aq (by omega);have d2:decide ((0:Int)<=(j:Int))=true:=aq (by omega);have ej:Int.toNat (j:Int)=j:=rfl;unfold b.j5
  dsimp only
  rw [d1,d2,ej,e1];simp only [dk,ak];by_cases h1:l.get j < KT l j
  ·rw [aq h1]
   exact ⟨fun h=>absurd h.1 (by omega),fun _=>⟨_,rfl,rfl⟩⟩
  ·by_cases h2:l.get j > 8192
   ·rw [bj h1,aq h2]
    exact ⟨fun h=>absurd h.2 (by omega),fun _=>⟨_,rfl,rfl⟩⟩
   ·rw [bj h1,bj h2]
    exact ⟨fun _=>rfl,fun h=>absurd ⟨by omega,by omega⟩ h⟩) (by
  unfold b.j5
  dsimp only
  rw [bj (Int.lt_irrefl _)];rfl)
 have e0:goN b.j5 (⟨l,false,(0:Int),l,((l.n:Nat):Int),(0:Int)⟩:b.jY)=goN b.j5 ⟨l,false,KT l 0,l,((l.n:Nat):Int),((0:Nat):Int)⟩:=rfl;rw [e0];rcases key with ⟨h1,h2⟩ | ⟨x',h1,h2,j,h3,h4⟩
 ·rw [h1]
  refine ⟨decide (((l.n:Nat):Int)<=16),rfl,?_⟩;rw [decide_eq_true_iff];exact ⟨fun h=>⟨h2,by omega⟩,fun h=>by have:=h.2; omega⟩
 ·rw [h1]
  exact ⟨x'.t2,rfl,⟨fun h=>by rw [h2] at h; simp at h,fun h=>absurd (h.1 j h3) h4⟩⟩
theorem aqg (l:Sl Int) (hn:l.n < 1000000):∃ r,b.rT l=some r/\(r=true↔aiG l):=by
 unfold b.rT b.r6;have hit:∀ j:Nat,Int.toNat (((j+1:Nat):Int) - 1)=j:=fun j=>by omega
 have key:=jG (step:=b.fU) l.n (by unfold iI; omega) (fun j=>⟨l,false,(j:Int)⟩) (fun j=>0<=l.get j/\KT l j<=l.get j/\l.get j<=8192) (e0:=.exit 0) (er:=.ret) rfl rfl (fun x'=>x'.t2=false) (xe:=⟨l,false,((l.n:Nat):Int)⟩) (fun j hj=>by
  have e1:aR ((j:Int)+1)=((j+1:Nat):Int):=by rw [cd (by omega) (by omega)]; omega
  have d1:decide ((j:Int) < ((l.n:Nat):Int))=true:=aq (by omega);have d2:decide ((0:Int)<=(j:Int))=true:=aq (by omega);have ej:Int.toNat (j:Int)=j:=rfl;unfold b.fU
  dsimp only
  rw [d1,d2,ej,e1];simp only [dk,ak];by_cases h1:l.get j < 0
  ·rw [aq h1]
   exact ⟨fun h=>absurd h.1 (by omega),fun _=>⟨_,rfl,rfl⟩⟩
  ·by_cases h2:l.get j > 8192
   ·rw [bj h1,aq h2]
    exact ⟨fun h=>absurd h.2.2 (by omega),fun _=>⟨_,rfl,rfl⟩⟩
   ·rw [bj h1,bj h2]
    cases j with
    | zero=>exact ⟨fun _=>rfl,fun h=>absurd ⟨by omega,show (0:Int)<=l.get 0 by omega,by omega⟩ h⟩
    | succ k=>
     have e3:aR (((k+1:Nat):Int) - 1)=((k:Nat):Int):=by rw [cd (by omega) (by omega)]; omega
     have d3:decide (((k+1:Nat):Int) > 0)=true:=aq (by omega);have d4:decide ((0:Int)<=((k:Nat):Int))=true:=aq (by omega);have d5:decide (((k:Nat):Int) < ((l.n:Nat):Int))=true:=aq (by omega);have ek:Int.toNat ((k:Nat):Int)=k:=rfl;rw [e3,d3,d4,d5,ek];simp only [dk,ak,ba];by_cases h3:l.get (k+1) < l.get k
     ·rw [aq h3]
      exact ⟨fun h=>absurd h.2.1 (by show ¬ l.get k<=l.get (k+1); omega),fun _=>⟨_,rfl,rfl⟩⟩
     ·rw [bj h3]
      exact ⟨fun _=>rfl,fun h=>absurd ⟨by omega,show l.get k<=l.get (k+1) by omega,by omega⟩ h⟩) (by
  unfold b.fU
  dsimp only
  rw [bj (Int.lt_irrefl _)];rfl)
 have e0:goN b.fU (⟨l,false,(0:Int)⟩:b.dH)=goN b.fU ⟨l,false,((0:Nat):Int)⟩:=rfl;rw [e0];rcases key with ⟨h1,h2⟩ | ⟨x',h1,h2,j,h3,h4⟩
 ·rw [h1]
  refine ⟨decide (((l.n:Nat):Int)<=16),rfl,?_⟩;rw [decide_eq_true_iff];exact ⟨fun h=>⟨fun j hj=>(h2 j hj).2,by omega⟩,fun h=>by have:=h.2; omega⟩
 ·rw [h1]
  exact ⟨x'.t2,rfl,⟨fun h=>by rw [h2] at h; simp at h,fun h=>absurd ⟨aoL h.1 j h3,h.1 j h3⟩ h4⟩⟩
def Sr {α:Type} (a c:Sl α):Prop:=a.n=c.n/\∀ i,i < a.n->a.get i=c.get i
theorem Sr.refl {α:Type} (a:Sl α):Sr a a:=⟨rfl,fun _ _=>rfl⟩
theorem QF (a c:Sl Int) (hn:a.n < 1000000):∃ r,b.oe a c=some r/\(r=true↔Sr a c):=by
 unfold b.oe b.sk;by_cases hq:a.n=c.n
 ·have de:(((a.n:Nat):Int) != ((c.n:Nat):Int))=false:=by simp [hq]
  rw [de,ba];have key:=jG (step:=b.eE) a.n (by unfold iI; omega) (fun j=>⟨a,c,false,((a.n:Nat):Int),(j:Int)⟩) (fun j=>a.get j=c.get j) (e0:=.exit 0) (er:=.ret) rfl rfl (fun x'=>x'.t4=false) (xe:=⟨a,c,false,((a.n:Nat):Int),((a.n:Nat):Int)⟩) (fun j hj=>by
   have e1:aR ((j:Int)+1)=((j+1:Nat):Int):=by rw [cd (by omega) (by omega)]; omega
   have d1:decide ((j:Int) < ((a.n:Nat):Int))=true:=aq (by omega);have d2:decide ((0:Int)<=(j:Int))=true:=aq (by omega);have d3:decide ((j:Int) < ((c.n:Nat):Int))=true:=aq (by omega);have ej:Int.toNat (j:Int)=j:=rfl;unfold b.eE
   dsimp only
   rw [d1,d2,d3,ej,e1];simp only [dk,ak];by_cases h1:a.get j=c.get j
   ·have:(a.get j != c.get j)=false:=by simp [h1]
    rw [this];exact ⟨fun _=>rfl,fun h=>absurd h1 h⟩
   ·have:(a.get j != c.get j)=true:=by simp [h1]
    rw [this];exact ⟨fun h=>absurd h h1,fun _=>⟨_,rfl,rfl⟩⟩) (by
   unfold b.eE
   dsimp only
   rw [bj (Int.lt_irrefl _)];rfl)
  have e0:goN b.eE (⟨a,c,false,((a.n:Nat):Int),(0:Int)⟩:b.eh)=goN b.eE ⟨a,c,false,((a.n:Nat):Int),((0:Nat):Int)⟩:=rfl;rw [e0];rcases key with ⟨h1,h2⟩ | ⟨x',h1,h2,j,h3,h4⟩
  ·rw [h1]
   exact ⟨true,rfl,⟨fun _=>⟨hq,h2⟩,fun _=>rfl⟩⟩
  ·rw [h1]
   exact ⟨x'.t4,rfl,⟨fun h=>by rw [h2] at h; simp at h,fun h=>absurd (h.2 j h3) h4⟩⟩
 ·have de:(((a.n:Nat):Int) != ((c.n:Nat):Int))=true:=by simp; omega
  rw [de,ak];exact ⟨false,rfl,⟨fun h=>by simp at h,fun h=>absurd h.1 hq⟩⟩
theorem asD (a c:Sl Int) (hn:a.n < 1000000):∃ r,b.vu a c=some r/\(r=true↔Sr a c):=by
 unfold b.vu b.zT;by_cases hq:a.n=c.n
 ·have de:(((a.n:Nat):Int) != ((c.n:Nat):Int))=false:=by simp [hq]
  rw [de,ba];have key:=jG (step:=b.hX) a.n (by unfold iI; omega) (fun j=>⟨a,c,false,(j:Int)⟩) (fun j=>a.get j=c.get j) (e0:=.exit 0) (er:=.ret) rfl rfl (fun x'=>x'.t4=false) (xe:=⟨a,c,false,((a.n:Nat):Int)⟩) (fun j hj=>by
   have e1:aR ((j:Int)+1)=((j+1:Nat):Int):=by rw [cd (by omega) (by omega)]; omega
   have d1:decide ((j:Int) < ((a.n:Nat):Int))=true:=aq (by omega);have d2:decide ((0:Int)<=(j:Int))=true:=aq (by omega);have d3:decide ((j:Int) < ((c.n:Nat):Int))=true:=aq (by omega);have ej:Int.toNat (j:Int)=j:=rfl;unfold b.hX
   dsimp only
   rw [d1,d2,d3,ej,e1];simp only [dk,ak];by_cases h1:a.get j=c.get j
   ·have:(a.get j != c.get j)=false:=by simp [h1]
    rw [this];exact ⟨fun _=>rfl,fun h=>absurd h1 h⟩
   ·have:(a.get j != c.get j)=true:=by simp [h1]
    rw [this];exact ⟨fun h=>absurd h h1,fun _=>⟨_,rfl,rfl⟩⟩) (by
   unfold b.hX
   dsimp only
   rw [bj (Int.lt_irrefl _)];rfl)
  have e0:goN b.hX (⟨a,c,false,(0:Int)⟩:b.iu)=goN b.hX ⟨a,c,false,((0:Nat):Int)⟩:=rfl;rw [e0];rcases key with ⟨h1,h2⟩ | ⟨x',h1,h2,j,h3,h4⟩
  ·rw [h1]
   exact ⟨true,rfl,⟨fun _=>⟨hq,h2⟩,fun _=>rfl⟩⟩
  ·rw [h1]
   exact ⟨x'.t4,rfl,⟨fun h=>by rw [h2] at h; simp at h,fun h=>absurd (h.2 j h3) h4⟩⟩
 ·have de:(((a.n:Nat):Int) != ((c.n:Nat):Int))=true:=by simp; omega
  rw [de,ak];exact ⟨false,rfl,⟨fun h=>by simp at h,fun h=>absurd h.1 hq⟩⟩
def Nn (a c:b.Node):Prop:=a.kind=c.kind/\a.gd=c.gd/\a.uB=c.uB/\a.cl=c.cl/\Sr a.nc c.nc/\a.cJ=c.cJ/\a.b7=c.b7
theorem afc (a c:b.dm):((a.m.e0.e0==c.m.e0.e0)&&((a.m.e0.e1==c.m.e0.e1)&&((a.m.e0.e2==c.m.e0.e2)&&((a.m.e1.e0==c.m.e1.e0)&&((a.m.e1.e1==c.m.e1.e1)&&((a.m.e1.e2==c.m.e1.e2)&&((a.m.e2.e0==c.m.e2.e0)&&((a.m.e2.e1==c.m.e2.e1)&&((a.m.e2.e2==c.m.e2.e2)&&((a.t.x==c.t.x)&&((a.t.y==c.t.y)&&((a.t.z==c.t.z)&&true))))))))))))=true↔a=c:=by
 obtain ⟨⟨⟨a0,a1,a2⟩,⟨a3,a4,a5⟩,⟨a6,a7,a8⟩⟩,⟨a9,a10,a11⟩⟩:=a;obtain ⟨⟨⟨c0,c1,c2⟩,⟨c3,c4,c5⟩,⟨c6,c7,c8⟩⟩,⟨c9,c10,c11⟩⟩:=c;simp [and_assoc]
theorem amG (a c:b.fO):((a.x==c.x)&&((a.y==c.y)&&((a.z==c.z)&&true)))=true↔a=c:=by
 obtain ⟨a0,a1,a2⟩:=a;obtain ⟨c0,c1,c2⟩:=c;simp
theorem ak6 (a c:b.gN):((a.bN.e0==c.bN.e0)&&((a.bN.e1==c.bN.e1)&&((a.bN.e2==c.bN.e2)&&((a.bN.e3==c.bN.e3)&&((a.bN.e4==c.bN.e4)&&((a.look.color.e0==c.look.color.e0)&&((a.look.color.e1==c.look.color.e1)&&((a.look.color.e2==c.look.color.e2)&&((a.look.color.e3==c.look.color.e3)&&((a.look.cN==c.look.cN)&&((a.look.lz==c.look.lz)&&((a.look.jW==c.look.jW)&&((a.look.ff==c.look.ff)&&((a.look.bin==c.look.bin)&&true))))))))))))))=true↔a=c:=by
 obtain ⟨⟨a0,a1,a2,a3,a4⟩,⟨⟨a5,a6,a7,a8⟩,a9,a10,a11,a12,a13⟩⟩:=a;obtain ⟨⟨c0,c1,c2,c3,c4⟩,⟨⟨c5,c6,c7,c8⟩,c9,c10,c11,c12,c13⟩⟩:=c;simp [and_assoc]
theorem DY {p:Prop} {c:Bool} {x:Option Bool} {Q:Prop} (hc:c=true↔p) (h1 : ¬ p->¬ Q) (h2:p->∃ r,x=some r/\(r=true↔Q)):∃ r,cond c x (some false)=some r/\(r=true↔Q):=by
 cases c with
 | false=>exact ⟨false,rfl,⟨fun k=>by simp at k,fun k=>absurd k (h1 fun q=>by have:=hc.2 q; simp at this)⟩⟩
 | true=>exact h2 (hc.1 rfl)
theorem aiH (a c:b.Node) (hn:a.nc.n < 1000000):∃ r,b.wz a c=some r/\(r=true↔Nn a c):=by
 unfold b.wz b.Jn;obtain ⟨r,q1,q2⟩:=QF a.nc c.nc hn;rw [q1,fQ,ee,ak];refine DY kq (fun h k=>h k.1) fun g1=>?_;refine DY (afc _ _) (fun h k=>h k.2.1) fun g2=>?_;refine DY kq (fun h k=>h k.2.2.1) fun g3=>?_;refine DY (amG _ _) (fun h k=>h k.2.2.2.1) fun g4=>?_;refine DY q2 (fun h k=>h k.2.2.2.2.1) fun g5=>?_;refine DY kq (fun h k=>h k.2.2.2.2.2.1) fun g6=>?_;exact ⟨_,rfl,(ak6 _ _).trans ⟨fun h=>⟨g1,g2,g3,g4,g5,g6,h⟩,fun h=>h.2.2.2.2.2.2⟩⟩
theorem aoM (a c:b.Node) (hn:a.nc.n < 1000000):∃ r,b.qO a c=some r/\(r=true↔Nn a c):=by
 unfold b.qO b.DB;obtain ⟨r,q1,q2⟩:=asD a.nc c.nc hn;rw [q1,fQ,ee,ak];refine DY kq (fun h k=>h k.1) fun g1=>?_;refine DY (afc _ _) (fun h k=>h k.2.1) fun g2=>?_;refine DY kq (fun h k=>h k.2.2.1) fun g3=>?_;refine DY (amG _ _) (fun h k=>h k.2.2.2.1) fun g4=>?_;refine DY q2 (fun h k=>h k.2.2.2.2.1) fun g5=>?_;refine DY kq (fun h k=>h k.2.2.2.2.2.1) fun g6=>?_;exact ⟨_,rfl,(ak6 _ _).trans ⟨fun h=>⟨g1,g2,g3,g4,g5,g6,h⟩,fun h=>h.2.2.2.2.2.2⟩⟩
theorem Pd {n:Int} (h:lO n 1024):lO n 4096:=by unfold lO at *; omega
theorem aoN (m:b.dm) (v:b.fO) (h:E8 m) (hv:qU v 4096) :
  b.Ae m v=some ⟨dot m.m.e0 v.x v.y v.z / 256+m.t.x,dot m.m.e1 v.x v.y v.z / 256+m.t.y,dot m.m.e2 v.x v.y v.z / 256+m.t.z⟩:=by
 obtain ⟨⟨h0,h1,h2⟩,t1,t2,t3⟩:=h;have k0:=KS h0 hv.1 hv.2.1 hv.2.2;have k1:=KS h1 hv.1 hv.2.1 hv.2.2;have k2:=KS h2 hv.1 hv.2.1 hv.2.2;unfold b.Ae b.yS b.Ju b.Jt b.Gi b.DL;simp only [fQ,ee,ak];rw [Pa m.m ⟨v.x,v.y,v.z⟩ ⟨h0,h1,h2⟩ hv.1 hv.2.1 hv.2.2];simp only [fQ,ee,ak];unfold lO at *;rw [cd (by omega) (by omega),cd (by omega) (by omega),cd (by omega) (by omega)]
theorem amH (m:b.bw) (v:b.fO) (h:RowsIn m) (hv:qU v 4096):b.xB m v=some ⟨dot m.e0 v.x v.y v.z / 256,dot m.e1 v.x v.y v.z / 256,dot m.e2 v.x v.y v.z / 256⟩:=by
 unfold b.xB b.GW b.GX b.GY;rw [xd _ _ h.1 hv,xd _ _ h.2.1 hv,xd _ _ h.2.2 hv];rfl
def mul (a c:b.dm):b.dm:=
 ⟨⟨⟨dot a.m.e0 c.m.e0.e0 c.m.e1.e0 c.m.e2.e0 / 256,dot a.m.e0 c.m.e0.e1 c.m.e1.e1 c.m.e2.e1 / 256,dot a.m.e0 c.m.e0.e2 c.m.e1.e2 c.m.e2.e2 / 256⟩,
  ⟨dot a.m.e1 c.m.e0.e0 c.m.e1.e0 c.m.e2.e0 / 256,dot a.m.e1 c.m.e0.e1 c.m.e1.e1 c.m.e2.e1 / 256,dot a.m.e1 c.m.e0.e2 c.m.e1.e2 c.m.e2.e2 / 256⟩,
  ⟨dot a.m.e2 c.m.e0.e0 c.m.e1.e0 c.m.e2.e0 / 256,dot a.m.e2 c.m.e0.e1 c.m.e1.e1 c.m.e2.e1 / 256,dot a.m.e2 c.m.e0.e2 c.m.e1.e2 c.m.e2.e2 / 256⟩⟩,
  ⟨dot a.m.e0 c.t.x c.t.y c.t.z / 256+a.t.x,dot a.m.e1 c.t.x c.t.y c.t.z / 256+a.t.y,dot a.m.e2 c.t.x c.t.y c.t.z / 256+a.t.z⟩⟩
def xf:b.dm:=⟨⟨⟨0,0,0⟩,⟨0,0,0⟩,⟨0,0,0⟩⟩,⟨0,0,0⟩⟩
open Classical in
noncomputable def yo (a c:b.dm):b.dm×Int:=if E8 a/\E8 c/\E8 (mul a c) then (mul a c,0) else (xf,20)
theorem aub {c:b.dm} (h:E8 c):(∀ r,LO r->True)/\(lO c.m.e0.e0 4096/\lO c.m.e1.e0 4096/\lO c.m.e2.e0 4096)/\(lO c.m.e0.e1 4096/\lO c.m.e1.e1 4096/\lO c.m.e2.e1 4096)/\(lO c.m.e0.e2 4096/\lO c.m.e1.e2 4096/\lO c.m.e2.e2 4096):=by
 obtain ⟨⟨⟨a1,a2,a3⟩,⟨a4,a5,a6⟩,⟨a7,a8,a9⟩⟩,_⟩:=h;exact ⟨fun _ _=>trivial,⟨Pd a1,Pd a4,Pd a7⟩,⟨Pd a2,Pd a5,Pd a8⟩,⟨Pd a3,Pd a6,Pd a9⟩⟩
theorem aqh (a c:b.dm):b.EX a c=some (yo a c):=by
 unfold b.EX b.O2 b.O3;obtain ⟨e,h1,h2⟩:=DW a;rw [h1];rcases h2 with ⟨rfl,ha⟩ | ⟨rfl,ha⟩
 ·obtain ⟨e,h3,h4⟩:=DW c
  rw [h3];rcases h4 with ⟨rfl,hc⟩ | ⟨rfl,hc⟩
  ·obtain ⟨_,c1,c2,c3⟩:=aub hc
   unfold b.DM b.rC b.rD b.rE b.HK b.DM b.rC b.rD b.rE;rw [aoN a c.t ha hc.2,Pa a.m ⟨c.m.e0.e0,c.m.e1.e0,c.m.e2.e0⟩ ha.1 c1.1 c1.2.1 c1.2.2,Pa a.m ⟨c.m.e0.e1,c.m.e1.e1,c.m.e2.e1⟩ ha.1 c2.1 c2.2.1 c2.2.2,Pa a.m ⟨c.m.e0.e2,c.m.e1.e2,c.m.e2.e2⟩ ha.1 c3.1 c3.2.1 c3.2.2];simp only [fQ,ee,ak];obtain ⟨e,h5,h6⟩:=DW (mul a c);have h5':=h5;unfold mul at h5';rw [h5'];rcases h6 with ⟨rfl,hm⟩ | ⟨rfl,hm⟩
   ·unfold yo
    rw [aY ⟨ha,hc,hm⟩];rfl
   ·unfold yo
    rw [av fun k=>hm k.2.2];rfl
  ·unfold yo
   rw [av fun k=>hc k.2.1];rfl
 ·unfold yo
  rw [av fun k=>ha k.1];rfl
theorem aqi (a c:b.dm):b.E4 a c=some (yo a c):=by
 unfold b.E4 b.O7 b.O8;obtain ⟨r,h1,h2⟩:=S4 a;rw [h1];cases r with
 | false=>
  unfold yo;rw [av fun k=>by have:=h2.2 k.1; simp at this];rfl
 | true=>
  have ha:=h2.1 rfl;obtain ⟨r,h3,h4⟩:=S4 c;rw [h3];cases r with
  | false=>
   unfold yo;rw [av fun k=>by have:=h4.2 k.2.1; simp at this];rfl
  | true=>
   have hc:=h4.1 rfl;obtain ⟨_,c1,c2,c3⟩:=aub hc;obtain ⟨⟨r0,r1,r2⟩,t1,t2,t3⟩:=id ha;have k0:=KS r0 hc.2.1 hc.2.2.1 hc.2.2.2;have k1:=KS r1 hc.2.1 hc.2.2.1 hc.2.2.2;have k2:=KS r2 hc.2.1 hc.2.2.1 hc.2.2.2;unfold b.LN b.HL b.O9 b.HM b.HN b.HO b.HP b.HQ b.HR b.FG b.FH b.FJ;rw [amH a.m c.t ha.1 hc.2,xd _ ⟨c.m.e0.e0,c.m.e1.e0,c.m.e2.e0⟩ r0 c1,xd _ ⟨c.m.e0.e1,c.m.e1.e1,c.m.e2.e1⟩ r0 c2,xd _ ⟨c.m.e0.e2,c.m.e1.e2,c.m.e2.e2⟩ r0 c3,xd _ ⟨c.m.e0.e0,c.m.e1.e0,c.m.e2.e0⟩ r1 c1,xd _ ⟨c.m.e0.e1,c.m.e1.e1,c.m.e2.e1⟩ r1 c2,xd _ ⟨c.m.e0.e2,c.m.e1.e2,c.m.e2.e2⟩ r1 c3,xd _ ⟨c.m.e0.e0,c.m.e1.e0,c.m.e2.e0⟩ r2 c1,xd _ ⟨c.m.e0.e1,c.m.e1.e1,c.m.e2.e1⟩ r2 c2,xd _ ⟨c.m.e0.e2,c.m.e1.e2,c.m.e2.e2⟩ r2 c3];simp only [fQ,ee,ak];have ep:b.CC ⟨dot a.m.e0 c.t.x c.t.y c.t.z / 256,dot a.m.e1 c.t.x c.t.y c.t.z / 256,dot a.m.e2 c.t.x c.t.y c.t.z / 256⟩ a.t=some (mul a c).t:=by
    unfold b.CC mul;unfold lO at *;rw [cd (by dsimp only; omega) (by dsimp only; omega),cd (by dsimp only; omega) (by dsimp only; omega),cd (by dsimp only; omega) (by dsimp only; omega)]
   rw [ep];simp only [fQ,ee,ak];obtain ⟨r,h5,h6⟩:=S4 (mul a c);have h5':=h5;unfold mul at h5';rw [show (mul a c).t=⟨dot a.m.e0 c.t.x c.t.y c.t.z / 256+a.t.x,dot a.m.e1 c.t.x c.t.y c.t.z / 256+a.t.y,dot a.m.e2 c.t.x c.t.y c.t.z / 256+a.t.z⟩ from rfl,h5'];cases r with
   | true=>
    unfold yo;rw [aY ⟨ha,hc,h6.1 rfl⟩];rfl
   | false=>
    unfold yo;rw [av fun k=>by have:=h6.2 k.2.2; simp at this];rfl
def PX:b.fO:=⟨0,0,0⟩
def aoO:Sl Int:=⟨0,fun _=>0⟩
def afd (s:b.aP) (n:b.Node):Prop:=(1<=n.kind/\n.kind<=5)/\JB n.b7/\(n.b7.bN.e1=0\/n.b7.look.cN < (s.dD.n:Int))/\(n.kind=2->E8 n.gd)/\(n.kind≠2->n.gd=xf)/\(n.kind≠3->n.uB=0)/\(n.kind=4->qU n.cl 4096/\aiG n.nc)/\(n.kind≠4->n.cl=PX/\n.nc.n=0)/\(n.kind=5->0<=n.cJ/\n.cJ < (s.bX.n:Int))/\(n.kind≠5->n.cJ=0)
theorem Np {c:Bool} {p:Prop} (h:c=true↔p):(!c)=true↔¬ p:=by
 cases c <;> simp at h ⊢ <;> exact h
theorem adx {c d:Bool} {p q:Prop} (h:c=true↔p) (k:d=true↔q):(c&&d)=true↔p/\q:=by
 rw [aA,h,k]
theorem orI {c d:Bool} {p q:Prop} (h:c=true↔p) (k:d=true↔q):(c||d)=true↔p\/q:=by
 rw [uD,h,k]
theorem Ec {p:Prop} [Decidable p] : decide p=true↔p:=decide_eq_true_iff
theorem L4 {x y:Int} : (x==y)=true↔x=y:=kq
theorem neI {x y:Int} : (x != y)=true↔x≠y:=bne_iff_ne
theorem aw3 (m:b.dm):((m.m.e0.e0==(0:Int))&&((m.m.e0.e1==(0:Int))&&((m.m.e0.e2==(0:Int))&&((m.m.e1.e0==(0:Int))&&((m.m.e1.e1==(0:Int))&&((m.m.e1.e2==(0:Int))&&((m.m.e2.e0==(0:Int))&&((m.m.e2.e1==(0:Int))&&((m.m.e2.e2==(0:Int))&&((m.t.x==(0:Int))&&((m.t.y==(0:Int))&&((m.t.z==(0:Int))&&true))))))))))))=true↔m=xf:=afc m xf
theorem aw4 (v:b.fO):((v.x==(0:Int))&&((v.y==(0:Int))&&((v.z==(0:Int))&&true)))=true↔v=PX:=amG v PX
theorem aqj {l:Sl Int} (h:l.n=0):aiG l:=⟨fun j hj=>absurd hj (by omega),by omega⟩
theorem auc:qU PX 4096:=by unfold qU lO PX; simp
theorem aoP (s:b.aP) (n:b.Node) (hs:Pc n.b7) (hn:n.nc.n < 1000000):∃ r,b.vt s n=some r/\(r=true↔afd s n):=by
 unfold b.vt b.EP b.lN b.aC b.aD;obtain ⟨r0,q0,i0⟩:=amF n.b7 hs;obtain ⟨r1,q1,i1⟩:=S4 n.gd;have q2:=ak5 n.cl 4096 (by omega) (by omega);obtain ⟨r3,q3,i3⟩:=aqg n.nc hn;simp only [q0,q1,q2,q3,fQ,ee,ak,cc2,cc];have hz:=aw3 n.gd;have hv:=aw4 n.cl;have aoQ:0<=n.b7.bN.e1:=hs.2.1.1;refine AL Ec (fun h k=>absurd k.1.1 (by omega)) fun k1=>?_;refine AL Ec (fun h k=>absurd k.1.2 (by omega)) fun k2=>?_;refine AL (Np i0) (fun h k=>h k.2.1) fun k3=>?_;refine AL (adx Ec Ec) (fun h k=>by rcases k.2.2.1 with g | g <;> omega) fun k4=>?_;refine AL (adx neI (Np hz)) (fun h k=>h.2 (k.2.2.2.2.1 h.1)) fun k5=>?_;refine AL (adx L4 (Np i1)) (fun h k=>h.2 (k.2.2.2.1 h.1)) fun k6=>?_;refine AL (adx neI neI) (fun h k=>h.2 (k.2.2.2.2.2.1 h.1)) fun k7=>?_;refine AL (adx neI (orI (Np hv) Ec)) (fun h k=>by
  have:=k.2.2.2.2.2.2.2.1 h.1;rcases h.2 with g | g
  ·exact g this.1
  ·omega) fun k8=>?_
 have c3:JB n.b7:=Classical.byContradiction k3;have c5:n.kind≠2->n.gd=xf:=fun h=>Classical.byContradiction fun g=>k5 ⟨h,g⟩;have c6:n.kind=2->E8 n.gd:=fun h=>Classical.byContradiction fun g=>k6 ⟨h,g⟩;have c7:n.kind≠3->n.uB=0:=fun h=>Classical.byContradiction fun g=>k7 ⟨h,g⟩;have c8:n.kind≠4->n.cl=PX/\n.nc.n=0:=fun h=>⟨Classical.byContradiction fun g=>k8 ⟨h,.inl g⟩,Classical.byContradiction fun g=>k8 ⟨h,.inr (by omega)⟩⟩
 have c4:n.b7.bN.e1=0\/n.b7.look.cN < (s.dD.n:Int):=by omega
 by_cases h5:n.kind=5
 ·have e5:(n.kind==(5:Int))=true:=L4.2 h5
  rw [e5,ak];refine DY Ec (fun h k=>absurd (k.2.2.2.2.2.2.2.2.1 h5).1 (by omega)) fun k9=>?_;exact ⟨_,rfl,Ec.trans ⟨fun h=>⟨⟨by omega,by omega⟩,c3,c4,c6,c5,c7,fun h=>absurd h (by omega),c8,fun _=>⟨by omega,h⟩,fun h=>absurd h5 h⟩,fun h=>(h.2.2.2.2.2.2.2.2.1 h5).2⟩⟩
 ·have e5:(n.kind==(5:Int))=false:=by
   rw [<- Bool.not_eq_true,L4]; exact h5
  rw [e5,ba];refine DY (adx L4 Ec) (fun h k=>h ⟨k.2.2.2.2.2.2.2.2.2 h5,by
   by_cases h4:n.kind=4
   ·exact (k.2.2.2.2.2.2.1 h4).1
   ·rw [(c8 h4).1]; exact auc⟩) fun ⟨k9,k10⟩=>?_
  refine ⟨_,rfl,i3.trans ⟨fun h=>⟨⟨by omega,by omega⟩,c3,c4,c6,c5,c7,fun _=>⟨k10,h⟩,c8,fun h=>absurd h h5,fun _=>k9⟩,fun h=>?_⟩⟩;by_cases h4:n.kind=4
  ·exact (h.2.2.2.2.2.2.1 h4).2
  ·exact aqj (c8 h4).2
def aiI (n:b.Node):Prop:=(1<=n.kind/\n.kind<=5)/\(n.kind=2->E8 n.gd)/\(n.kind=4->qU n.cl 4096/\aiG n.nc)
open Classical in
theorem aoR (n:b.Node) (hn:n.nc.n < 1000000):∃ ok,b.xy n=some (⟨n.kind,if n.kind=2 then n.gd else xf,if n.kind=3 then n.uB else 0,if n.kind=4 then n.cl else PX,if n.kind=4 then n.nc else aoO,if n.kind=5 then n.cJ else 0,n.b7⟩,ok)/\(ok=true↔aiI n):=by
 unfold b.xy b.GQ b.GS b.GU;obtain ⟨e1,q1,i1⟩:=DW n.gd;have q2:=adw n.cl;obtain ⟨r3,q3,i3⟩:=asC n.nc hn;simp only [q1,q2,q3,fQ,ee,ak];obtain ⟨k,m,o,c,f,x,st⟩:=n
 dsimp only at *
 unfold aiI
 dsimp only
 by_cases h1:k=1
 ·subst h1
  exact ⟨true,rfl,by simp⟩
 have g1:(k==(1:Int))=false:=by rw [<- Bool.not_eq_true,L4]; exact h1
 rw [g1,ba];by_cases h2:k=2
 ·subst h2
  refine ⟨_,rfl,?_⟩;rw [L4];rcases i1 with ⟨a,c⟩ | ⟨a,c⟩ <;> simp [a,c]
 have g2:(k==(2:Int))=false:=by rw [<- Bool.not_eq_true,L4]; exact h2
 rw [g2,ba];by_cases h3:k=3
 ·subst h3
  exact ⟨true,rfl,by simp⟩
 have g3:(k==(3:Int))=false:=by rw [<- Bool.not_eq_true,L4]; exact h3
 rw [g3,ba];by_cases h4:k=4
 ·subst h4
  by_cases hv:qU c 4096
  ·rw [aY hv]
   exact ⟨r3,rfl,i3.trans (by simp [hv])⟩
  ·rw [av hv]
   exact ⟨false,rfl,by simp [hv]⟩
 have g4:(k==(4:Int))=false:=by rw [<- Bool.not_eq_true,L4]; exact h4
 rw [g4,ba];by_cases h5:k=5
 ·subst h5
  exact ⟨true,rfl,by simp⟩
 have g5:(k==(5:Int))=false:=by rw [<- Bool.not_eq_true,L4]; exact h5
 rw [g5,ba,av h2,av h3,av h4,av h4,av h5];exact ⟨false,rfl,by simp; omega⟩
theorem DZ {p:Prop} {c:Bool} {x:Option Int} {Q:Prop} (hc:c=true↔p) (h1:p->¬ Q) (h2 : ¬ p->∃ e,x=some e/\(e=0/\Q\/e=8/\¬ Q)):∃ e,cond c (some 8) x=some e/\(e=0/\Q\/e=8/\¬ Q):=by
 cases c with
 | true=>exact ⟨8,rfl,.inr ⟨rfl,h1 (hc.1 rfl)⟩⟩
 | false=>exact h2 fun q=>by have:=hc.2 q; simp at this
theorem aqk (s:b.aP) (n:b.Node) (hs:Pc n.b7) (hn:n.nc.n < 1000000):∃ e,b.pY s n=some e/\(e=0/\afd s n\/e=8/\¬ afd s n):=by
 unfold b.pY b.AH b.uM b.AI;obtain ⟨ok,q1,i1⟩:=aoR n hn;simp only [q1,fQ,ee,ak];obtain ⟨r2,q2,i2⟩:=aiH ⟨n.kind,if n.kind=2 then n.gd else xf,if n.kind=3 then n.uB else 0,if n.kind=4 then n.cl else PX,if n.kind=4 then n.nc else aoO,if n.kind=5 then n.cJ else 0,n.b7⟩ n (by
  by_cases h:n.kind=4
  ·simp only [aY h]; exact hn
  ·simp only [av h]; exact (by decide:(0:Nat) < 1000000))
 obtain ⟨e3,q3,i3⟩:=aoJ n.b7;simp only [q2,q3,fQ,ee,ak,cc2,cc];have aoQ:0<=n.b7.bN.e1:=hs.2.1.1;have i2' : r2=true↔(n.kind≠2->n.gd=xf)/\(n.kind≠3->n.uB=0)/\(n.kind≠4->n.cl=PX/\n.nc.n=0)/\(n.kind≠5->n.cJ=0):=by
  rw [i2];unfold Nn
  dsimp only
  constructor
  ·rintro ⟨_,a2,a3,a4,a5,a6,_⟩
   refine ⟨fun h=>?_,fun h=>?_,fun h=>⟨?_,?_⟩,fun h=>?_⟩
   ·rw [av h] at a2; exact a2.symm
   ·rw [av h] at a3; exact a3.symm
   ·rw [av h] at a4; exact a4.symm
   ·rw [av h] at a5; exact a5.1.symm
   ·rw [av h] at a6; exact a6.symm
  ·rintro ⟨a1,a2,a3,a4⟩
   refine ⟨rfl,?_,?_,?_,?_,?_,rfl⟩
   ·by_cases h:n.kind=2
    ·rw [aY h]
    ·rw [av h]; exact (a1 h).symm
   ·by_cases h:n.kind=3
    ·rw [aY h]
    ·rw [av h]; exact (a2 h).symm
   ·by_cases h:n.kind=4
    ·rw [aY h]
    ·rw [av h]; exact (a3 h).1.symm
   ·by_cases h:n.kind=4
    ·rw [aY h]; exact Sr.refl _
    ·rw [av h]; exact ⟨(a3 h).2.symm,fun i hi=>absurd hi (o8 i)⟩
   ·by_cases h:n.kind=5
    ·rw [aY h]
    ·rw [av h]; exact (a4 h).symm
 refine DZ (Np i1) (fun h k=>h ⟨k.1,k.2.2.2.1,k.2.2.2.2.2.2.1⟩) fun k1=>?_;refine DZ (Np i2') (fun h k=>h ⟨k.2.2.2.2.1,k.2.2.2.2.2.1,k.2.2.2.2.2.2.2.1,k.2.2.2.2.2.2.2.2.2⟩) fun k2=>?_;refine DZ neI (fun h k=>by
  rcases i3 with g | g
  ·exact h g.1
  ·exact g.2 k.2.1) fun k3=>?_
 have c1:aiI n:=Classical.byContradiction k1;have c2:=Classical.byContradiction k2;have c3:JB n.b7:=by
  rcases i3 with g | g
  ·exact g.2
  ·exact absurd (fun h=>by rw [g.1] at h; simp at h) k3
 refine DZ (adx L4 (orI Ec Ec)) (fun h k=>by have:=k.2.2.2.2.2.2.2.2.1 h.1; omega) fun k4=>?_;refine DZ (adx neI Ec) (fun h k=>by rcases k.2.2.1 with g | g <;> omega) fun k5=>?_;exact ⟨0,rfl,.inl ⟨rfl,c1.1,c3,by omega,c1.2.1,c2.1,c2.2.1,c1.2.2,c2.2.2.1,fun h=>by omega,c2.2.2.2⟩⟩
end Go.Proofs.YtckbdndhmcoihaaGreat.sc
end
section
namespace Go.Proofs.YtckbdndhmcoihaaGreat.nodes
open Go Go.K
def Xi (s:b.Slot):Prop:=1<=s.gen/\s.gen<=1073741824
structure yV (a:b.jI):Prop where
 few:a.bJ.n<=128
 arK:∀ i,i < a.bJ.n->Xi (a.bJ.get i)
theorem Ss (a:b.jI):∃ n,b.fB a=some n/\(n=0/\yV a\/n=8/\¬ yV a):=by
 unfold b.fB;by_cases h:((a.bJ.n:Nat):Int) > 128
 ·rw [aq h,ak]
  exact ⟨8,rfl,.inr ⟨rfl,fun k=>by have:=k.few; omega⟩⟩
 ·rw [bj h,ba]
  obtain ⟨e,x',h1,h2⟩:∃ e x',b.vd a = .out e x'/\((e = .exit 0/\∀ i,i < a.bJ.n->Xi (a.bJ.get i))\/(e = .ret/\0<=x'.t4/\¬ yV a)):=by
   unfold b.vd;refine jq (X:=b.bx) (fun j x=>x.s=a.bJ/\x.t7=(a.bJ.n:Int)/\x.t8=(j:Int)/\∀ i,i < j->Xi (a.bJ.get i)) (fun e x'=>(e = .exit 0/\∀ i,i < a.bJ.n->Xi (a.bJ.get i))\/(e = .ret/\0<=x'.t4/\¬ yV a)) a.bJ.n (by unfold iI; omega) ?_ ⟨rfl,rfl,rfl,fun i hi=>absurd hi (o8 _)⟩;rintro j ⟨s,t4,t7,t8⟩ hj ⟨rfl,rfl,rfl,dt⟩;unfold b.du
   dsimp only
   by_cases bG:(j:Int) < (a.bJ.n:Int)
   ·have h0:(0:Int)<=(j:Int):=by omega
    rw [aq bG,aq h0,ak,pT,ak];have ej:Int.toNat (j:Int)=j:=rfl;rw [ej];by_cases g1:(a.bJ.get j).gen < 1
    ·rw [aq g1,ak]
     exact .inr ⟨_,_,rfl,rfl,.inr ⟨rfl,h0,fun k=>by have:=(k.arK j (by omega)).1; omega⟩⟩
    ·rw [bj g1,ba]
     by_cases g2:(a.bJ.get j).gen > 1073741824
     ·rw [aq g2,ak]
      exact .inr ⟨_,_,rfl,rfl,.inr ⟨rfl,h0,fun k=>by have:=(k.arK j (by omega)).2; omega⟩⟩
     ·rw [bj g2,ba]
      refine .inl ⟨_,rfl,by omega,rfl,rfl,?_,fun i hi=>?_⟩
      ·show aR ((j:Int)+1)=_
       rw [cd (by omega) (by omega)];omega
      ·by_cases e:i=j
       ·subst e; exact ⟨by omega,by omega⟩
       ·exact dt i (by omega)
   ·rw [bj bG,ba]
    exact .inr ⟨_,_,rfl,rfl,.inl ⟨rfl,fun i hi=>dt i (by omega)⟩⟩
  rw [h1];rcases h2 with ⟨rfl,h2⟩ | ⟨rfl,h2,h3⟩
  ·exact ⟨0,rfl,.inl ⟨rfl,by omega,h2⟩⟩
  ·refine ⟨8,?_,.inr ⟨rfl,h3⟩⟩
   show cond false _ (cond true (cond (decide (x'.t4 >= 0)) _ _) _)=_;rw [aq (show x'.t4 >= 0 from h2)];rfl
def ph (a:b.jI) (h:b.Handle):Prop:=0<=h.slot/\h.slot < (a.bJ.n:Int)/\(a.bJ.get h.slot.toNat).gen=h.gen/\(a.bJ.get h.slot.toNat).live=true
theorem aql (a:b.jI) (h:b.Handle):∃ r,b.nE a h=some r/\(r=true↔ph a h):=by
 unfold b.nE ph;by_cases h1:h.slot >= 0
 ·by_cases h2:h.slot < (a.bJ.n:Int)
  ·rw [aq h1,aq h2,ak,ak]
   refine ⟨_,rfl,?_⟩;simp only [aA,kq,pT];exact ⟨fun k=>⟨h1,h2,k.1,k.2⟩,fun k=>⟨k.2.2.1,k.2.2.2⟩⟩
  ·rw [aq h1,bj h2,ak,ba]
   exact ⟨false,rfl,⟨fun k=>by simp at k,fun k=>absurd k.2.1 h2⟩⟩
 ·rw [bj h1,ba]
  exact ⟨false,rfl,⟨fun k=>by simp at k,fun k=>absurd k.1 h1⟩⟩
theorem ady (a:b.jI) (h:b.Handle):∃ r,b.eG a h=some r/\(r=true↔yV a/\ph a h):=by
 obtain ⟨n,hn,hs⟩:=Ss a;obtain ⟨r,hr,hh⟩:=aql a h;unfold b.eG b.ve b.vf;rw [hn,hr];rcases hs with ⟨rfl,ha⟩ | ⟨rfl,ha⟩
 ·exact ⟨r,rfl,hh.trans ⟨fun k=>⟨ha,k⟩,fun k=>k.2⟩⟩
 ·exact ⟨false,rfl,⟨fun k=>by simp at k,fun k=>absurd k.1 ha⟩⟩
theorem aqm (a:b.jI) (Zi:a.bJ.n < 1000000):∃ r,b.ED a=some r/\(r=true↔yV a):=by
 unfold b.ED;obtain ⟨e,x',h1,h2⟩:∃ e x',b.zj a = .out e x'/\((e = .exit 0/\x'.a=a/\∀ i,i < a.bJ.n->Xi (a.bJ.get i))\/(e = .ret/\x'.t2=false/\¬ yV a)):=by
  unfold b.zj;refine jq (X:=b.kS) (fun j x=>x.a=a/\x.i=(j:Int)/\∀ i,i < j->Xi (a.bJ.get i)) (fun e x'=>(e = .exit 0/\x'.a=a/\∀ i,i < a.bJ.n->Xi (a.bJ.get i))\/(e = .ret/\x'.t2=false/\¬ yV a)) a.bJ.n (by unfold iI; omega) ?_ ⟨rfl,rfl,fun i hi=>absurd hi (o8 _)⟩;rintro j ⟨t2,ii,aa⟩ hj ⟨rfl,rfl,dt⟩;unfold b.rQ
  dsimp only
  by_cases bG:(j:Int) < (aa.bJ.n:Int)
  ·have h0:(0:Int)<=(j:Int):=by omega
   rw [aq bG,aq h0];simp only [pT,ak];have ej:Int.toNat (j:Int)=j:=rfl;rw [ej];by_cases g1:(aa.bJ.get j).gen < 1
   ·rw [aq g1,ak]
    exact .inr ⟨_,_,rfl,rfl,.inr ⟨rfl,rfl,fun k=>by have:=(k.arK j (by omega)).1; omega⟩⟩
   ·rw [bj g1,ba]
    by_cases g2:(aa.bJ.get j).gen > 1073741824
    ·rw [aq g2,ak]
     exact .inr ⟨_,_,rfl,rfl,.inr ⟨rfl,rfl,fun k=>by have:=(k.arK j (by omega)).2; omega⟩⟩
    ·rw [bj g2,ba]
     refine .inl ⟨_,rfl,by omega,rfl,?_,fun i hi=>?_⟩
     ·show aR ((j:Int)+1)=_
      rw [cd (by omega) (by omega)];omega
     ·by_cases e:i=j
      ·subst e; exact ⟨by omega,by omega⟩
      ·exact dt i (by omega)
  ·rw [bj bG,ba]
   exact .inr ⟨_,_,rfl,rfl,.inl ⟨rfl,rfl,fun i hi=>dt i (by omega)⟩⟩
 rw [h1];rcases h2 with ⟨rfl,ha,h2⟩ | ⟨rfl,h2,h3⟩
 ·refine ⟨decide (((x'.a.bJ.n:Nat):Int)<=128),rfl,?_⟩
  rw [ha,decide_eq_true_iff];exact ⟨fun k=>⟨by omega,h2⟩,fun k=>by have:=k.few; omega⟩
 ·exact ⟨x'.t2,rfl,⟨fun k=>by rw [h2] at k; simp at k,fun k=>absurd k h3⟩⟩
theorem adz (a:b.jI) (h:b.Handle):∃ r,b.yP a h=some r/\(r=true↔ph a h):=by
 unfold b.yP ph;by_cases h1:h.slot >= 0
 ·by_cases h2:h.slot < (a.bJ.n:Int)
  ·rw [aq h1,aq h2]
   cases hl:(a.bJ.get h.slot.toNat).live with
   | true=>
    refine ⟨((a.bJ.get h.slot.toNat).gen==h.gen),rfl,?_⟩;rw [kq];exact ⟨fun k=>⟨h1,h2,k,rfl⟩,fun k=>k.2.2.1⟩
   | false=>exact ⟨false,rfl,⟨fun k=>by simp at k,fun k=>by have:=k.2.2.2; simp at this⟩⟩
  ·rw [aq h1,bj h2]
   exact ⟨false,rfl,⟨fun k=>by simp at k,fun k=>absurd k.2.1 h2⟩⟩
 ·rw [bj h1]
  exact ⟨false,rfl,⟨fun k=>by simp at k,fun k=>absurd k.1 h1⟩⟩
theorem aoS (g:b.dG) (t:Bool) (i:Nat) (hi:i < g.kids.n) (Zi:(g.kids.get i).n < 1000000) :
  ∃ e x',goN b.cn (⟨t,(i:Int),(0:Int),g⟩:b.cj) = .out e x'/\x'.g=g/\x'.i=(i:Int)/\((e = .exit 2/\x'.t2=t/\∀ k,k < (g.kids.get i).n->ph g.ca ((g.kids.get i).get k))\/(e = .ret/\x'.t2=false/\∃ k,k < (g.kids.get i).n/\¬ ph g.ca ((g.kids.get i).get k))):=by
 refine jq (X:=b.cj) (fun j x=>x.g=g/\x.i=(i:Int)/\x.t2=t/\x.k=(j:Int)/\∀ k,k < j->ph g.ca ((g.kids.get i).get k)) (fun e x'=>x'.g=g/\x'.i=(i:Int)/\((e = .exit 2/\x'.t2=t/\∀ k,k < (g.kids.get i).n->ph g.ca ((g.kids.get i).get k))\/(e = .ret/\x'.t2=false/\∃ k,k < (g.kids.get i).n/\¬ ph g.ca ((g.kids.get i).get k)))) (g.kids.get i).n (by unfold iI; omega) ?_ ⟨rfl,rfl,rfl,rfl,fun k hk=>absurd hk (o8 _)⟩;rintro j ⟨t2,ii,kk,gg⟩ hj ⟨rfl,rfl,rfl,rfl,dt⟩;unfold b.cn b.Dl
 dsimp only
 have hi:i < gg.kids.n:=hi;have hj:j<=(gg.kids.get i).n:=hj;have hi0:(0:Int)<=(i:Int):=by omega
 have hiz:(i:Int) < (gg.kids.n:Int):=by omega
 have ei:Int.toNat (i:Int)=i:=rfl;have ej:Int.toNat (j:Int)=j:=rfl;rw [ei,ej,aq hi0,aq hiz];simp only [pT,ak];by_cases bG:(j:Int) < ((gg.kids.get i).n:Int)
 ·have h0:(0:Int)<=(j:Int):=by omega
  obtain ⟨r,hr,hh⟩:=adz gg.ca ((gg.kids.get i).get j);rw [aq bG,aq h0];simp only [pT,ak];rw [hr];simp only [fQ,ak,ee];cases r with
  | false=>exact .inr ⟨_,_,rfl,rfl,rfl,rfl,.inr ⟨rfl,rfl,j,by omega,fun k=>by have:=hh.2 k; simp at this⟩⟩
  | true=>
   refine .inl ⟨_,rfl,by omega,rfl,rfl,rfl,?_,fun k hk=>?_⟩
   ·show aR ((j:Int)+1)=_
    rw [cd (by omega) (by omega)];omega
   ·by_cases e:k=j
    ·subst e; exact hh.1 rfl
    ·exact dt k (by omega)
 ·rw [bj bG,ba]
  exact .inr ⟨_,_,rfl,rfl,rfl,rfl,.inl ⟨rfl,rfl,fun k hk=>dt k (by omega)⟩⟩
def Nq (g:b.dG) (i:Nat):Prop:=(g.kids.get i).n<=16/\(0 < (g.kids.get i).n->(g.ca.bJ.get i).live=true)/\∀ k,k < (g.kids.get i).n->ph g.ca ((g.kids.get i).get k)
theorem aoT (g:b.dG) (hlen:g.kids.n=g.ca.bJ.n) (Zi:g.kids.n < 1000000) :
  ∃ e x',b.zo g = .out e x'/\((e = .exit 0/\x'.g=g/\∀ i,i < g.kids.n->Nq g i)\/(e = .ret/\x'.t2=false/\∃ i,i < g.kids.n/\¬ Nq g i)):=by
 unfold b.zo;refine jq (X:=b.dV) (fun j x=>x.g=g/\x.i=(j:Int)/\x.t2=false/\∀ i,i < j->Nq g i) (fun e x'=>(e = .exit 0/\x'.g=g/\∀ i,i < g.kids.n->Nq g i)\/(e = .ret/\x'.t2=false/\∃ i,i < g.kids.n/\¬ Nq g i)) g.kids.n (by unfold iI; omega) ?_ ⟨rfl,rfl,rfl,fun k hk=>absurd hk (o8 _)⟩;rintro j ⟨t2,ii,gg⟩ hj ⟨rfl,rfl,rfl,dt⟩;have hj:j<=gg.kids.n:=hj;have hlen:gg.kids.n=gg.ca.bJ.n:=hlen;have Zi:gg.kids.n < 1000000:=Zi;unfold b.rR b.fg
 dsimp only
 by_cases bG:(j:Int) < (gg.kids.n:Int)
 ·have h0:(0:Int)<=(j:Int):=by omega
  have hs:(j:Int) < (gg.ca.bJ.n:Int):=by omega
  have ej:Int.toNat (j:Int)=j:=rfl;rw [ej,aq bG,aq h0,aq hs];simp only [pT,ak];by_cases h16:((gg.kids.get j).n:Int) > 16
  ·rw [aq h16,ak]
   exact .inr ⟨_,_,rfl,rfl,.inr ⟨rfl,rfl,j,by omega,fun k=>by have:=k.1; omega⟩⟩
  ·rw [bj h16,ba]
   obtain ⟨e,x',k1,k2,k3,k4⟩:=aoS gg false j (by omega) (by omega);have fin:(0 < (gg.kids.get j).n->(gg.ca.bJ.get j).live=true)->(∃ x2,(cond ((goN b.cn (⟨false,(j:Int),(0:Int),gg⟩:b.cj)).by (aB.ae.exit 2)) (.next (⟨(goN b.cn (⟨false,(j:Int),(0:Int),gg⟩:b.cj)).st.t2,(aR ((goN b.cn (⟨false,(j:Int),(0:Int),gg⟩:b.cj)).st.i+(1:Int))),(goN b.cn (⟨false,(j:Int),(0:Int),gg⟩:b.cj)).st.g⟩:b.dV)) (cond ((goN b.cn (⟨false,(j:Int),(0:Int),gg⟩:b.cj)).by aB.ae.ret) (.out aB.ae.ret (⟨(goN b.cn (⟨false,(j:Int),(0:Int),gg⟩:b.cj)).st.t2,(goN b.cn (⟨false,(j:Int),(0:Int),gg⟩:b.cj)).st.i,(goN b.cn (⟨false,(j:Int),(0:Int),gg⟩:b.cj)).st.g⟩:b.dV)) .fail):aW b.dV) = .next x2/\j < gg.kids.n/\x2.g=gg/\x2.i=((j+1:Nat):Int)/\x2.t2=false/\∀ i,i < j+1->Nq gg i)\/∃ e x2,(cond ((goN b.cn (⟨false,(j:Int),(0:Int),gg⟩:b.cj)).by (aB.ae.exit 2)) (.next (⟨(goN b.cn (⟨false,(j:Int),(0:Int),gg⟩:b.cj)).st.t2,(aR ((goN b.cn (⟨false,(j:Int),(0:Int),gg⟩:b.cj)).st.i+(1:Int))),(goN b.cn (⟨false,(j:Int),(0:Int),gg⟩:b.cj)).st.g⟩:b.dV)) (cond ((goN b.cn (⟨false,(j:Int),(0:Int),gg⟩:b.cj)).by aB.ae.ret) (.out aB.ae.ret (⟨(goN b.cn (⟨false,(j:Int),(0:Int),gg⟩:b.cj)).st.t2,(goN b.cn (⟨false,(j:Int),(0:Int),gg⟩:b.cj)).st.i,(goN b.cn (⟨false,(j:Int),(0:Int),gg⟩:b.cj)).st.g⟩:b.dV)) .fail):aW b.dV) = .out e x2/\va e=false/\((e = .exit 0/\x2.g=gg/\∀ i,i < gg.kids.n->Nq gg i)\/(e = .ret/\x2.t2=false/\∃ i,i < gg.kids.n/\¬ Nq gg i)):=by
    intro hl;rw [k1];rcases k4 with ⟨rfl,q1,q2⟩ | ⟨rfl,q1,k,q2,q3⟩
    ·refine .inl ⟨_,rfl,by omega,k2,?_,q1,fun i hi=>?_⟩
     ·show aR (x'.i+1)=_
      rw [k3,cd (by omega) (by omega)];omega
     ·by_cases e:i=j
      ·subst e; exact ⟨by omega,hl,q2⟩
      ·exact dt i (by omega)
    ·exact .inr ⟨_,_,rfl,rfl,.inr ⟨rfl,q1,j,by omega,fun r=>q3 (r.2.2 k q2)⟩⟩
   by_cases D3:((gg.kids.get j).n:Int) > 0
   ·rw [aq D3,ak]
    cases hl:(gg.ca.bJ.get j).live with
    | true=>exact fin fun _=>hl
    | false=>exact .inr ⟨_,_,rfl,rfl,.inr ⟨rfl,rfl,j,by omega,fun r=>by have:=r.2.1 (by omega); rw [hl] at this; simp at this⟩⟩
   ·rw [bj D3,ba]
    exact fin fun h=>absurd h (by omega)
 ·rw [bj bG,ba]
  exact .inr ⟨_,_,rfl,rfl,.inl ⟨rfl,rfl,fun k hk=>dt k (by omega)⟩⟩
theorem arL {g:b.dG} (ha:yV g.ca) (i:Nat):ss g i↔Nq g i:=by
 have key:∀ h,b.eG g.ca h=some true↔ph g.ca h:=fun h=>by
  obtain ⟨r,hr,hh⟩:=ady g.ca h;rw [hr,di,hh];exact ⟨fun k=>k.2,fun k=>⟨ha,k⟩⟩
 exact ⟨fun h=>⟨h.1,h.2.1,fun k hk=>(key _).1 (h.2.2 k hk)⟩,fun h=>⟨h.1,h.2.1,fun k hk=>(key _).2 (h.2.2 k hk)⟩⟩
theorem xC (g:b.dG):pn g↔yV g.ca/\g.kids.n=g.ca.bJ.n/\(∀ i,i < g.kids.n->Nq g i)/\∀ i,i < g.kids.n->Je g i:=by
 obtain ⟨n,hn,hs⟩:=Ss g.ca;constructor
 ·intro h
  rcases hs with ⟨rfl,ha⟩ | ⟨rfl,ha⟩
  ·exact ⟨ha,h.len,fun i hi=>(arL ha i).1 (h.row i hi),h.free⟩
  ·have:=h.bJ
   rw [hn] at this;simp at this
 ·rintro ⟨ha,hl,hr,hf⟩
  rcases hs with ⟨rfl,_⟩ | ⟨rfl,hb⟩
  ·exact ⟨hn,hl,fun i hi=>(arL ha i).2 (hr i hi),hf⟩
  ·exact absurd ha hb
end Go.Proofs.YtckbdndhmcoihaaGreat.nodes
end
section
namespace Go.Xj
theorem afe:∀ (n:Nat) (g:Nat->Nat),(∀ j,j<=n->g j < n)->∃ i j,i < j/\j<=n/\g i=g j
 | 0,g,h=>absurd (h 0 (aU 0)) (o8 _)
 | n+1,g,h=>by
  by_cases he:∃ i,i<=n/\g i=g (n+1)
  ·obtain ⟨i,hi,e⟩:=he
   exact ⟨i,n+1,by omega,aU _,e⟩
  ·have de:∀ i,i<=n->g i≠g (n+1):=fun i hi e=>he ⟨i,hi,e⟩
   have hl:=h (n+1) (aU _);obtain ⟨i,j,h1,h2,h3⟩:=afe n (fun j=>if g j=n then g (n+1) else g j) fun j hj=>by
    have h1:=h j (by omega);have h2:=de j hj;show (if g j=n then g (n+1) else g j) < n;split <;> omega
   refine ⟨i,j,h1,by omega,?_⟩;have hi:=de i (by omega);have hj:=de j h2;have h3:(if g i=n then g (n+1) else g i)=if g j=n then g (n+1) else g j:=h3;split at h3 <;> split at h3 <;> omega
section
variable (n:Nat) (LR:Nat->Nat) (c:Nat->Nat->Nat)
inductive Below (to:Nat):Nat->Prop where
 | here:Below to to
 | pP (i k:Nat) (hk:k < LR i) (r:Below to (c i k)):Below to i
def Je:Prop:=∀ i,i < n->∀ k,k < LR i->¬ Below LR c i (c i k)
structure Nr (f:Nat->Bool) (m:Nat):Prop where
 list:∃ l:List Nat,l.length=m/\l.Nodup/\(∀ i,i∈l↔i < n/\f i=true)/\∀ a b,l=a++b->∀ i,b.head? = some i->∀ k,k < LR i->c i k∈b.tail
variable {n LR c}
theorem Nr.start {f:Nat->Bool} (h:∀ i,i < n->f i=false):Nr n LR c f 0:=
 ⟨[],rfl,.nil,fun i=>⟨fun k=>by simp at k,fun ⟨k,e⟩=>by rw [h i k] at e; simp at e⟩,fun a b e i hi=>by
  have:=List.append_eq_nil_iff.1 e.symm;rw [this.2] at hi;simp at hi⟩
theorem Nr.more {f:Nat->Bool} {m i:Nat} (h:Nr n LR c f m) (hi:i < n) (hf:f i=false) (hc:∀ k,k < LR i->c i k < n/\f (c i k)=true) {f' : Nat->Bool} (he:∀ j,f' j=if j=i then true else f j):Nr n LR c f' (m+1):=by
 obtain ⟨l,h1,h2,h3,h4⟩:=h.list;refine ⟨i::l,by rw [CI,h1],List.nodup_cons.2 ⟨fun k=>?_,h2⟩,fun j=>?_,fun a b e j hj k hk=>?_⟩
 ·have:=((h3 i).1 k).2
  rw [hf] at this;simp at this
 ·rw [fA,h3,he]
  by_cases e:j=i
  ·subst e; simp [hi]
  ·simp [e]
 ·cases a with
  | nil=>
   have e:i::l=b:=e;subst e;have e:i=j:=by simpa using hj
   subst e;exact (h3 _).2 (hc k hk)
  | cons x a=>
   rw [List.cons_append,List.cons.injEq] at e;exact h4 a b e.2 j hj k hk
theorem nodup_range:∀ {l:List Nat} {n:Nat},l.Nodup->(∀ i,i∈l->i < n)->l.length<=n:=by
 intro l n h hb;apply Classical.byContradiction;intro hn;obtain ⟨i,j,h1,h2,h3⟩:=afe n (fun j=>l.getD j 0) fun j hj=>by
  have:j < l.length:=by omega
  show l.getD j 0 < n;rw [iL,dr this];exact hb _ (List.getElem_mem this)
 have hi:i < l.length:=by omega
 have hj:j < l.length:=by omega
 have h3:l.getD i 0=l.getD j 0:=h3;rw [iL,dr hi,iL,dr hj] at h3;have:=(List.getElem_inj h).1 h3;omega
theorem Nr.le {f:Nat->Bool} {m:Nat} (h:Nr n LR c f m):m<=n:=by
 obtain ⟨l,h1,h2,h3,_⟩:=h.list;rw [<- h1];exact nodup_range h2 fun i hi=>((h3 i).1 hi).1
theorem Nr.free {f:Nat->Bool} (h:Nr n LR c f n):Je n LR c:=by
 obtain ⟨l,h1,h2,h3,h4⟩:=h.list;have mj:∀ i,i < n->i∈l:=by
  intro i hi;apply Classical.byContradiction;intro hni;have:=nodup_range (l:=i::l) (n:=n) (List.nodup_cons.2 ⟨hni,h2⟩) fun j hj=>by
   rcases fA.1 hj with rfl | hj
   ·exact hi
   ·exact ((h3 j).1 hj).1
  rw [CI,h1] at this;omega
 have key:∀ to x,Below LR c to x->∀ a b,l=a++b->x∈b->to∈b:=by
  intro to x hr
  induction hr with
  | here=>exact fun a b _ hx=>hx
  | pP i k hk _ ih=>
   intro a b e hi;obtain ⟨b1,b2,rfl⟩:=List.append_of_mem hi;have yq:=h4 (a++b1) (i::b2) (by rw [e,List.append_assoc]) i rfl k hk;have:=ih (a++(b1++[i])) b2 (by rw [e]; simp) yq;simp [this]
 intro i hi k hk hb;obtain ⟨a,b,e⟩:=List.append_of_mem (mj i hi);have h5:=h4 a (i::b) e i rfl k hk;have h6:=key i _ hb (a++[i]) b (by rw [e]; simp) h5;rw [e] at h2;have:=(List.nodup_append.1 h2).2.1;exact (List.nodup_cons.1 this).1 h6
def LS (n:Nat) (LR:Nat->Nat) (c:Nat->Nat->Nat) (f:Nat->Bool):Prop:=∀ i,i < n->f i=false->∃ k,k < LR i/\f (c i k)=false
theorem aoU {f:Nat->Bool} (su:∀ i,i < n->∀ k,k < LR i->c i k < n) (hs:LS n LR c f) (hf:Je n LR c):∀ i,i < n->f i=true:=by
 intro i0 hi0;apply Classical.byContradiction;intro h0;have h0:f i0=false:=by simpa using h0
 have hc:∀ i,∃ j,i < n->f i=false->(j < n/\f j=false/\∃ k,k < LR i/\c i k=j):=by
  intro i;by_cases hi:i < n
  ·by_cases hq:f i=false
   ·obtain ⟨k,h1,h2⟩:=hs i hi hq
    exact ⟨c i k,fun _ _=>⟨su i hi k h1,h2,k,h1,rfl⟩⟩
   ·exact ⟨0,fun _ k=>absurd k hq⟩
  ·exact ⟨0,fun k=>absurd k hi⟩
 obtain ⟨g,hg⟩:=Classical.axiomOfChoice hc
 let it:Nat->Nat:=fun j=>Nat.rec i0 (fun _ x=>g x) j
 have hit:∀ j,it j < n/\f (it j)=false:=by
  intro j
  induction j with
  | zero=>exact ⟨hi0,h0⟩
  | succ j ih=>exact ⟨(hg _ ih.1 ih.2).1,(hg _ ih.1 ih.2).2.1⟩
 have hup:∀ d j,Below LR c (it (j+d)) (it j):=by
  intro d
  induction d with
  | zero=>exact fun j=>.here
  | succ d ih=>
   intro j;obtain ⟨_,_,k,h1,h2⟩:=hg _ (hit j).1 (hit j).2;have:=ih (j+1);rw [show j+1+d=j+(d+1) by omega] at this;refine .pP _ k h1 ?_;rw [h2];exact this
 obtain ⟨i,j,h1,h2,h3⟩:=afe n it fun j _=>(hit j).1;obtain ⟨_,_,k,q1,q2⟩:=hg _ (hit i).1 (hit i).2;refine hf _ (hit i).1 k q1 ?_;rw [q2];have:=hup (j - (i+1)) (i+1);rw [show i+1+(j - (i+1))=j by omega,<- h3] at this;exact this
theorem Nr.full {f:Nat->Bool} {m:Nat} (h:Nr n LR c f m) (hf:∀ i,i < n->f i=true):m=n:=by
 have hle:=h.le;obtain ⟨l,h1,h2,h3,_⟩:=h.list;apply Classical.byContradiction;intro de;have hm:∀ i,i < n->i∈l:=fun i hi=>(h3 i).2 ⟨hi,hf i hi⟩;obtain ⟨i,j,q1,q2,q3⟩:=afe m (fun j=>l.idxOf j) fun j hj=>by
  have:=List.idxOf_lt_length_iff.2 (hm j (by omega));show l.idxOf j < m;omega
 have hi:=List.idxOf_lt_length_iff.2 (hm i (by omega));have hj:=List.idxOf_lt_length_iff.2 (hm j (by omega));have e1:=List.getElem_idxOf hi;have e2:=List.getElem_idxOf hj;have q3:l.idxOf i=l.idxOf j:=q3;have e3:l[l.idxOf i]'hi=l[l.idxOf j]'hj:=by congr 1
 rw [e1,e2] at e3;omega
end
end Go.Xj
end
section
namespace Go.Proofs.YtckbdndhmcoihaaGreat.nodes
open Go Go.K Go.Xj
def dg (g:b.dG) (i:Nat):Nat:=(g.kids.get i).n
def ch (g:b.dG) (i k:Nat):Nat:=((g.kids.get i).get k).slot.toNat
structure Fit (g:b.dG):Prop where
 small:g.kids.n < 1000000
 few:∀ i,i < g.kids.n->dg g i < 1000000
 inr:∀ i,i < g.kids.n->∀ k,k < dg g i->0<=((g.kids.get i).get k).slot/\((g.kids.get i).get k).slot < (g.kids.n:Int)
theorem Fit.ch {g:b.dG} (h:Fit g) {i k:Nat} (hi:i < g.kids.n) (hk:k < dg g i):nodes.ch g i k < g.kids.n:=by
 have:=h.inr i hi k hk;unfold nodes.ch;omega
theorem asE {g:b.dG} (hf:Fit g) (t:Bool) (f:Sl Bool) (hn:f.n=g.kids.n) (m ag:Int) (i:Nat) (hi:i < g.kids.n) :
  ∃ a kk,goN b.iR (⟨t,f,m,ag,(i:Int),true,(0:Int),g⟩:b.eH) = .out (.exit 4) ⟨t,f,m,ag,(i:Int),a,kk,g⟩/\(a=true↔∀ k,k < dg g i->f.get (ch g i k)=true):=by
 have AW:=fun nC=>jq (X:=b.eH) (step:=b.iR) (fun j x=>∃ a,x=⟨t,f,m,ag,(i:Int),a,(j:Int),g⟩/\(a=true↔∀ k,k < j->f.get (ch g i k)=true)) (fun e x'=>e = .exit 4/\∃ a kk,x' = ⟨t,f,m,ag,(i:Int),a,kk,g⟩/\(a=true↔∀ k,k < dg g i->f.get (ch g i k)=true)) (dg g i) (by have:=hf.few i hi; unfold iI; omega) nC (x:=⟨t,f,m,ag,(i:Int),true,(0:Int),g⟩) ⟨true,rfl,by simp⟩;refine Exists.elim (AW ?_) fun e ⟨x,h1,he,a,kk,hx,h2⟩=>?_
 rotate_left
 ·subst he hx; exact ⟨a,kk,h1,h2⟩
 rintro j _ hj ⟨a,rfl,ha⟩;have hfew:=hf.few i hi;unfold b.iR
 dsimp only
 have hi0:(0:Int)<=(i:Int):=by omega
 have hiz:(i:Int) < (g.kids.n:Int):=by omega
 have ei:Int.toNat (i:Int)=i:=rfl;have ej:Int.toNat (j:Int)=j:=rfl;rw [ei,ej,aq hi0,aq hiz];simp only [pT,ak,cv];by_cases bG:(j:Int) < ((g.kids.get i).n:Int)
 ·have hjd:j < dg g i:=by unfold dg; omega
  have h0:(0:Int)<=(j:Int):=by omega
  obtain ⟨q1,q2⟩:=hf.inr i hi j hjd;have q2' : ((g.kids.get i).get j).slot < (f.n:Int):=by rw [hn]; exact q2
  rw [aq bG,aq h0,aq q1,aq q2'];simp only [pT,ak,bM];have ec:f.get (Int.toNat ((g.kids.get i).get j).slot)=f.get (ch g i j):=rfl;rw [ec];have ew:aR ((j:Int)+1)=((j+1:Nat):Int):=by rw [cd (by omega) (by omega)]; omega
  rw [ew];cases hc:f.get (ch g i j) with
  | true=>
   refine .inl ⟨_,rfl,hjd,a,rfl,ha.trans ⟨fun h k hk=>?_,fun h k hk=>h k (by omega)⟩⟩;by_cases e:k=j
   ·subst e; exact hc
   ·exact h k (by omega)
  | false=>
   refine .inl ⟨_,rfl,hjd,false,rfl,⟨fun h=>by simp at h,fun h=>?_⟩⟩;have:=h j (by omega);rw [hc] at this;simp at this
 ·rw [bj bG,ba]
  have hjd:j=dg g i:=by unfold dg at hj ⊢; omega
  subst hjd;exact .inr ⟨_,_,rfl,rfl,rfl,a,_,rfl,ha⟩
theorem aqn {g:b.dG} (hf:Fit g) (t:Bool) (f:Sl Bool) (hn:f.n=g.kids.n) (m:Nat) (ag:Int) (hc:Nr g.kids.n (dg g) (ch g) f.get m) :
  ∃ x',goN b.ke (⟨t,f,(m:Int),ag,(0:Int),g⟩:b.e8) = .out (.exit 2) x'/\x'.g=g/\x'.again=ag/\x'.cH.n=g.kids.n/\∃ m',x'.n=((m' : Nat):Int)/\Nr g.kids.n (dg g) (ch g) x'.cH.get m'/\m<=m'/\(m' = m->LS g.kids.n (dg g) (ch g) x'.cH.get)/\(LS g.kids.n (dg g) (ch g) f.get->m' = m):=by
 have hs:=hf.small;have AW:=fun nC=>jq (X:=b.e8) (step:=b.ke) (fun j x=>x.i=(j:Int)/\x.g=g/\x.again=ag/\x.cH.n=g.kids.n/\∃ m',x.n=((m' : Nat):Int)/\Nr g.kids.n (dg g) (ch g) x.cH.get m'/\m<=m'/\(m' = m->∀ i,i < j->x.cH.get i=false->∃ k,k < dg g i/\x.cH.get (ch g i k)=false)/\(LS g.kids.n (dg g) (ch g) f.get->x.cH=f/\m' = m))
  (fun e x'=>e = .exit 2/\x'.g=g/\x'.again=ag/\x'.cH.n=g.kids.n/\∃ m',x'.n=((m' : Nat):Int)/\Nr g.kids.n (dg g) (ch g) x'.cH.get m'/\m<=m'/\(m' = m->LS g.kids.n (dg g) (ch g) x'.cH.get)/\(LS g.kids.n (dg g) (ch g) f.get->m' = m)) g.kids.n (by unfold iI; omega) nC (x:=⟨t,f,(m:Int),ag,(0:Int),g⟩) ⟨rfl,rfl,rfl,hn,m,rfl,hc,aU _,fun _ i hi=>absurd hi (o8 _),fun _=>⟨rfl,rfl⟩⟩
 refine Exists.elim (AW ?_) fun e ⟨x,h1,he,h2⟩=>?_
 rotate_left
 ·subst he; exact ⟨x,h1,h2⟩
 rintro j ⟨t2,f2,n2,ag2,i2,g2⟩ hj ⟨rfl,rfl,rfl,VO,m',rfl,hc2,hle,gR,hsk⟩;have VO:f2.n=g2.kids.n:=VO;have hf:Fit g2:=hf;have hj:j<=g2.kids.n:=hj;have hc2:Nr g2.kids.n (dg g2) (ch g2) f2.get m':=hc2;have gR:m' = m->∀ i,i < j->f2.get i=false->∃ k,k < dg g2 i/\f2.get (ch g2 i k)=false:=gR;have hsk:LS g2.kids.n (dg g2) (ch g2) f.get->f2=f/\m' = m:=hsk;unfold b.ke b.bh
 dsimp only
 have hm':=hc2.le;have lA:g2.kids.n < 1000000:=hf.small;by_cases bG:(j:Int) < (g2.kids.n:Int)
 ·obtain ⟨a,kk,k1,k2⟩:=asE hf t2 f2 VO (m' : Int) ag2 j (by omega)
  have h0:(0:Int)<=(j:Int):=by omega
  have hjn:(j:Int) < (f2.n:Int):=by rw [VO]; exact bG
  have ej:Int.toNat (j:Int)=j:=rfl;rw [aq bG,k1];simp only [ak,cv,aW.lC,aW.lq,ej,bM,h0,hjn,decide_true];have ew:aR ((j:Int)+1)=((j+1:Nat):Int):=by rw [cd (by omega) (by omega)]; omega
  have ew2:aR ((m' : Int)+1)=((m' + 1:Nat):Int):=by rw [cd (by omega) (by omega)]; omega
  rw [ew,ew2];have es:sG (aB.ae.exit 4) (aB.ae.exit 4)=true:=rfl;simp only [es,ak,pT];cases hfj:f2.get j with
  | true=>
   have fin:∃ m'',((m' : Nat):Int)=((m'' : Nat):Int)/\Nr g2.kids.n (dg g2) (ch g2) f2.get m''/\m<=m''/\(m'' = m->∀ i,i < j+1->f2.get i=false->∃ k,k < dg g2 i/\f2.get (ch g2 i k)=false)/\(LS g2.kids.n (dg g2) (ch g2) f.get->f2=f/\m'' = m):=⟨m',rfl,hc2,hle,fun e i hi hfi=>by
    by_cases e' : i=j
    ·subst e'; rw [hfj] at hfi; simp at hfi
    ·exact gR e i (by omega) hfi,hsk⟩
   cases a with
   | true=>exact .inl ⟨_,rfl,by omega,rfl,rfl,rfl,VO,fin⟩
   | false=>exact .inl ⟨_,rfl,by omega,rfl,rfl,rfl,VO,fin⟩
  | false=>
   cases a with
   | true=>
    refine .inl ⟨_,rfl,by omega,rfl,rfl,rfl,VO,m' + 1,rfl,?_,by omega,fun e=>by omega,fun hk=>by
     obtain ⟨rfl,_⟩:=hsk hk;obtain ⟨k,q1,q2⟩:=hk j (by omega) hfj;rw [k2.1 rfl k q1] at q2;simp at q2⟩
    refine hc2.more (i:=j) (by omega) hfj (fun k hk=>⟨hf.ch (by omega) hk,k2.1 rfl k hk⟩) fun i=>?_;show cond (Nat.beq i j) true (f2.get i)=_;by_cases e:i=j
    ·subst e; rw [yZ,aY rfl]; rfl
    ·have:Nat.beq i j=false:=by
      cases hb:Nat.beq i j with
      | false=>rfl
      | true=>exact absurd (bu hb) e
     rw [this,av e];rfl
   | false=>
    refine .inl ⟨_,rfl,by omega,rfl,rfl,rfl,VO,m',rfl,hc2,hle,fun e i hi hfi=>?_,hsk⟩;by_cases e' : i=j
    ·subst e'
     apply Classical.byContradiction;intro hno;have:=k2.2 fun k hk=>by
      cases hq:f2.get (ch g2 i k) with
      | true=>rfl
      | false=>exact absurd ⟨k,hk,hq⟩ hno
     simp at this
    ·exact gR e i (by omega) hfi
 ·rw [bj bG,ba]
  simp only [cv,ak];refine .inr ⟨_,_,rfl,rfl,rfl,rfl,rfl,VO,m',rfl,hc2,hle,fun e i hi hfi=>gR e i (by omega) hfi,fun hk=>(hsk hk).2⟩
theorem aoV {g:b.dG} (hf:Fit g):∃ r,b.zl g=some r/\(r=true↔Xj.Je g.kids.n (dg g) (ch g)):=by
 have hs:=hf.small;have AW:=fun nC=>jq (X:=b.jl) (step:=b.l7) (fun j x=>x.again=(j:Int)/\x.g=g/\x.cH.n=g.kids.n/\∃ m,x.n=((m:Nat):Int)/\Nr g.kids.n (dg g) (ch g) x.cH.get m/\(j<=m\/LS g.kids.n (dg g) (ch g) x.cH.get))
  (fun e x'=>e = .exit 0/\x'.g=g/\x'.cH.n=g.kids.n/\∃ m,x'.n=((m:Nat):Int)/\Nr g.kids.n (dg g) (ch g) x'.cH.get m/\(g.kids.n<=m\/LS g.kids.n (dg g) (ch g) x'.cH.get)) g.kids.n (by unfold iI; omega) nC (x:=⟨false,⟨g.kids.n,fun _=>false⟩,(0:Int),(0:Int),g⟩) ⟨rfl,rfl,rfl,0,rfl,.start fun _ _=>rfl,.inl (E9 _)⟩
 refine Exists.elim (AW ?_) fun e ⟨x,h1,he,hg,hn,m,hm,hc,gR⟩=>?_
 rotate_left
 ·subst he
  unfold b.zl b.Di;have en:Int.toNat ((g.kids.n:Nat):Int)=g.kids.n:=rfl;have hb:Nat.ble (1 * g.kids.n) 281474976710656=true:=by rw [Nat.ble_eq]; omega
  rw [en,h1,hb,aq (Int.le_refl _)];simp only [pT,ak,cv,aW.lC,aW.lq,hg,hm];refine ⟨_,rfl,?_⟩;rw [kq];constructor
  ·intro e
   have:m=g.kids.n:=by omega
   subst this;exact hc.free
  ·intro ahF
   rcases gR with h | h
   ·have:=hc.le; omega
   ·have:=hc.full (aoU (fun i hi k hk=>hf.ch hi hk) h ahF)
    omega
 rintro j ⟨t2,f2,n2,ag2,g2⟩ hj ⟨rfl,rfl,VO,m,rfl,hc,gR⟩;have VO:f2.n=g2.kids.n:=VO;have hf:Fit g2:=hf;have hj:j<=g2.kids.n:=hj;have hc:Nr g2.kids.n (dg g2) (ch g2) f2.get m:=hc;unfold b.l7 b.kx
 dsimp only
 by_cases bG:(j:Int) < (g2.kids.n:Int)
 ·obtain ⟨x',k1,k2,k3,k4,m',k5,k6,k7,k8,k9⟩:=aqn hf t2 f2 VO m (j:Int) hc
  rw [aq bG,k1];simp only [ak,cv,aW.lC,aW.lq,k2,k3,k5];have ew:aR ((j:Int)+1)=((j+1:Nat):Int):=by rw [cd (by omega) (by omega)]; omega
  rw [ew];refine .inl ⟨_,rfl,by omega,rfl,rfl,k4,m',rfl,k6,?_⟩;by_cases e:m' = m
  ·exact .inr (k8 e)
  ·rcases gR with h | h
   ·exact .inl (by omega)
   ·exact .inr (k8 (k9 h))
 ·rw [bj bG,ba]
  simp only [cv,ak];refine .inr ⟨_,_,rfl,rfl,rfl,rfl,VO,m,rfl,hc,?_⟩;have:j=g2.kids.n:=by omega
  subst this;exact gR
end Go.Proofs.YtckbdndhmcoihaaGreat.nodes
end
