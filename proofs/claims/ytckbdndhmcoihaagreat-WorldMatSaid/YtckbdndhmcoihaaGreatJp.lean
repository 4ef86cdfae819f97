/- Part of the proof of WorldMat: the machine, shown to be the model's, and plain models. No conditions. -/
import Derived.Test.YtckbdndhmcoihaaGreatHp
import Derived.Test.YtckbdndhmcoihaaGreatIp
import Derived.Test.YtckbdndhmcoihaaGreatGp
set_option linter.unusedSimpArgs false
set_option linter.unusedVariables false
section
namespace Go.Proofs.YtckbdndhmcoihaaGreat.b
open Go.K
noncomputable section
def ZT:List (Nat×(List KV->KR KV)):=[]
def ZU:List Lp:=[]
theorem aib:ah Tryz.prog ZT:=ah.nil
theorem aic:au Tryz.prog ZU:=au.nil
def Gh (s:aP):Option (Bool):=(some (((s.root.slot==(0:Int))&&((s.root.gen==(0:Int))&&true))))
theorem ajQ (s:aP):cD Tryz.prog (bp Tryz.prog ZT ZU (fun _=>false)) 9 9 52 [dx s] = (Gh s).map kB:=by
 unfold Gh
 kernel_rfl
def adj:List KV->KR KV:=bI Tryz.prog 52 (bL kB fun vs=>Gh (b6 (vs.getD 0 .ao)))
theorem aid (w:Nat->KV):ck Tryz.prog [34] w 0 = [dx (b6 (ax Tryz.prog (ai Tryz.prog aj) 34 (w 0)))]:=by kernel_rfl
theorem aie:bH Tryz.prog 52 adj:=aL funcs mixed aib aic (L:=9) (n:=9) fun w=>by
 have e:aG Tryz.prog 52 = [34]:=by kernel_rfl
 rw [e,aid]
 exact (ajQ (b6 (ax Tryz.prog (ai Tryz.prog aj) 34 (w 0)))).trans (by kernel_rfl)
structure kO where
 kids:(Sl Int)
 t5:Bool
 i:Int
 s:aP
 t4:Path
 p:Path
 h:Handle
instance:Inhabited kO:=⟨by constructor<;>exact default⟩
def BF (x:kO):List KV:=[eA 3 (kI .i64) x.kids,.bool x.t5,.int .i64 x.i]
def BG (x:kO):List (List KV):=[uE x.s,RW x.t4,RW x.p,agK x.h]
def PR (vs:List KV) (rs:List (List KV)):kO:=⟨dP ay (vs.getD 0 .ao),dj (vs.getD 1 .ao),ay (vs.getD 2 .ao),uF (fun k=>(rs.getD 0 []).getD k .ao),RX (fun k=>(rs.getD 1 []).getD k .ao),RX (fun k=>(rs.getD 2 []).getD k .ao),agL (fun k=>(rs.getD 3 []).getD k .ao)⟩
def Sa:aV:=⟨[(1,⟨false,[.k (.slice 3)]⟩),(5,⟨false,[.k .bool]⟩),(8,⟨false,[.k (.int .i64)]⟩)],[(2,[.k (.slice 111),.k (.slice 35),.k (.slice 77),.k (.slice 88),.k (.slice 91),.k (.int .i64),.k (.int .i64)],1),(4,[.bA 32,.bA 3],1),(6,[.bA 32,.bA 3],1),(7,[.k (.int .i64),.k (.int .i64)],1)],[(2,0,0),(4,1,0),(6,2,0),(7,3,0)]⟩
def aeA:=dB Tryz.prog (bp Tryz.prog [] [] (fun _=>false)) 9 9 53 122 (dF Tryz.prog 53 122) Sa
def n9 (x:kO):aW kO:=(cond (decide (x.i < ((x.kids.n:Nat):Int))) (cond ((decide ((0:Int)<=x.h.slot))&&(decide (x.h.slot < ((x.s.graph.kids.n:Nat):Int)))) (cond ((decide ((0:Int)<=x.i))&&(decide (x.i < ((x.kids.n:Nat):Int)))) (cond (decide ((x.kids.get (Int.toNat x.i)) < (0:Int))) (cond (cond (cond (cond (bz x.p.kids.n x.p.kids.n) (bz x.p.nodes.n x.p.nodes.n) false) true false) true false) (.out aB.ae.ret (⟨x.kids,false,x.i,x.s,(⟨(⟨0,(fun i=>(⟨(0:Int),(0:Int)⟩:Handle))⟩:Sl _),(⟨0,(fun i=>(0:Int))⟩:Sl _)⟩:Path),x.p,x.h⟩:kO)) .fail) (cond ((decide ((0:Int)<=x.i))&&(decide (x.i < ((x.kids.n:Nat):Int)))) (cond (decide ((x.kids.get (Int.toNat x.i)) >= (((x.s.graph.kids.get (Int.toNat x.h.slot)).n:Nat):Int))) (cond (cond (cond (cond (bz x.p.kids.n x.p.kids.n) (bz x.p.nodes.n x.p.nodes.n) false) true false) true false) (.out aB.ae.ret (⟨x.kids,false,x.i,x.s,(⟨(⟨0,(fun i=>(⟨(0:Int),(0:Int)⟩:Handle))⟩:Sl _),(⟨0,(fun i=>(0:Int))⟩:Sl _)⟩:Path),x.p,x.h⟩:kO)) .fail) (cond ((decide ((0:Int)<=x.i))&&(decide (x.i < ((x.kids.n:Nat):Int)))) (cond ((decide ((0:Int)<=(x.kids.get (Int.toNat x.i))))&&(decide ((x.kids.get (Int.toNat x.i)) < (((x.s.graph.kids.get (Int.toNat x.h.slot)).n:Nat):Int)))) (cond ((bz x.p.nodes.n x.p.nodes.n)&&(kC 16 x.p.nodes.n 1)) (cond ((decide ((0:Int)<=x.i))&&(decide (x.i < ((x.kids.n:Nat):Int)))) (cond ((bz x.p.kids.n x.p.kids.n)&&(kC 8 x.p.kids.n 1)) (cond (cond (cond (cond (bz (x.p.kids.n+1) (x.p.kids.n+1)) (bz (x.p.nodes.n+1) (x.p.nodes.n+1)) false) (bz x.t4.kids.n x.t4.kids.n) false) (bz x.t4.nodes.n x.t4.nodes.n) false) (.next (⟨x.kids,x.t5,(aR (x.i+(1:Int))),x.s,x.t4,(⟨(x.p.nodes.push ((x.s.graph.kids.get (Int.toNat x.h.slot)).get (Int.toNat (x.kids.get (Int.toNat x.i))))),(x.p.kids.push (x.kids.get (Int.toNat x.i)))⟩:Path),((x.s.graph.kids.get (Int.toNat x.h.slot)).get (Int.toNat (x.kids.get (Int.toNat x.i))))⟩:kO)) .fail) .fail) .fail) .fail) .fail) .fail)) .fail)) .fail) .fail) (cond (cond (cond (cond (bz x.p.kids.n x.p.kids.n) (bz x.p.nodes.n x.p.nodes.n) false) (bz x.t4.kids.n x.t4.kids.n) false) (bz x.t4.nodes.n x.t4.nodes.n) false) (.out (aB.ae.exit 0) x) .fail))
theorem ZV (x:kO):aeA (BF x) (BG x)=aW.enc BF BG (n9 x):=by
 unfold n9
 try simp only [aW.cf,db,fL]
 kernel_rfl
def DM:Lp:=⟨53,122,Sa,fun vs rs=>dC BF BG (goN n9 (PR vs rs)) [aB.ae.exit 0,aB.ae.ret],false⟩
theorem aeB:DM.Ok Tryz.prog:=b8 funcs mixed ah.nil au.nil (L:=9) (n:=9) (step:=n9) (ev:=BF) (er:=BG) (pa:=PR) rfl (fun wv wr=>⟨by kernel_rfl,by kernel_rfl⟩) ZV
theorem W0:bZ Tryz.prog DM.f DM.p=true:=by kernel_rfl
def adk:List (Nat×(List KV->KR KV)):=[]
def adl:List Lp:=[DM]
theorem ajR:ah Tryz.prog adk:=ah.nil
theorem ajS:au Tryz.prog adl:=(au.cons aeB W0 au.nil)
def wB (s:aP) (kids:(Sl Int)):(aW kO):=(goN n9 (⟨kids,false,(1:Int),s,(⟨(⟨0,(fun i=>(⟨(0:Int),(0:Int)⟩:Handle))⟩:Sl _),(⟨0,(fun i=>(0:Int))⟩:Sl _)⟩:Path),(⟨((Sl.lit [s.root]).push ((s.graph.kids.get (Int.toNat s.root.slot)).get (Int.toNat (kids.get 0)))),((⟨0,(fun i=>(0:Int))⟩:Sl _).push (kids.get 0))⟩:Path),((s.graph.kids.get (Int.toNat s.root.slot)).get (Int.toNat (kids.get 0)))⟩:kO))
def EW (s:aP) (kids:(Sl Int)):Option (Path×Bool):=(cond (decide ((0:Int) < ((kids.n:Nat):Int))) (cond ((decide ((0:Int)<=s.root.slot))&&(decide (s.root.slot < ((s.graph.kids.n:Nat):Int)))) (cond (decide ((0:Int) < ((kids.n:Nat):Int))) (cond (decide ((kids.get 0) < (0:Int))) (some ((⟨(⟨0,(fun i=>(⟨(0:Int),(0:Int)⟩:Handle))⟩:Sl _),(⟨0,(fun i=>(0:Int))⟩:Sl _)⟩:Path),false)) (cond (decide ((0:Int) < ((kids.n:Nat):Int))) (cond (decide ((kids.get 0) >= (((s.graph.kids.get (Int.toNat s.root.slot)).n:Nat):Int))) (some ((⟨(⟨0,(fun i=>(⟨(0:Int),(0:Int)⟩:Handle))⟩:Sl _),(⟨0,(fun i=>(0:Int))⟩:Sl _)⟩:Path),false)) (cond (decide ((0:Int) < ((kids.n:Nat):Int))) (cond ((decide ((0:Int)<=(kids.get 0)))&&(decide ((kids.get 0) < (((s.graph.kids.get (Int.toNat s.root.slot)).n:Nat):Int)))) (cond (decide ((0:Int) < ((kids.n:Nat):Int))) (cond ((wB s kids).by (aB.ae.exit 0)) (some ((wB s kids).st.p,true)) (cond ((wB s kids).by aB.ae.ret) (some ((wB s kids).st.t4,(wB s kids).st.t5)) none)) none) none) none)) none)) none) none) (some ((⟨(Sl.lit [s.root]),(⟨0,(fun i=>(0:Int))⟩:Sl _)⟩:Path),true)))
theorem amp (s:aP) (kids:(Sl Int)):cD Tryz.prog (bp Tryz.prog adk adl (fun _=>false)) 9 9 53 [dx s,(eA 3 (kI .i64)) kids] = (EW s kids).map (fun (r:Path×Bool)=>KV.na [sB r.1,kB r.2]):=by
 unfold EW
 try simp only [bq,wB,db,dY,dZ,fL]
 kernel_rfl
def aif:List KV->KR KV:=bI Tryz.prog 53 (bL (fun (r:Path×Bool)=>KV.na [sB r.1,kB r.2]) fun vs=>EW (b6 (vs.getD 0 .ao)) ((dP ay) (vs.getD 1 .ao)))
theorem ajT (w:Nat->KV):ck Tryz.prog [34,36] w 0 = [dx (b6 (ax Tryz.prog (ai Tryz.prog aj) 34 (w 0))),(eA 3 (kI .i64)) ((dP ay) (ax Tryz.prog (ai Tryz.prog aj) 36 (w 1)))]:=by kernel_rfl
theorem ajU:bH Tryz.prog 53 aif:=aL funcs mixed ajR ajS (L:=9) (n:=9) fun w=>by
 have e:aG Tryz.prog 53 = [34,36]:=by kernel_rfl
 rw [e,ajT]
 exact (amp (b6 (ax Tryz.prog (ai Tryz.prog aj) 34 (w 0))) ((dP ay) (ax Tryz.prog (ai Tryz.prog aj) 36 (w 1)))).trans (by kernel_rfl)
structure eL where
 a:(Sl Handle)
 b:(Sl Handle)
 t4:Bool
 i:Int
instance:Inhabited eL:=⟨⟨default,default,default,default⟩⟩
def rD (x:eL):List KV:=[eA 32 dL x.a,eA 32 dL x.b,.bool x.t4,.int .i64 x.i]
def rE (x:eL):List (List KV):=[]
def DN (vs:List KV) (rs:List (List KV)):eL:=⟨dP cM (vs.getD 0 .ao),dP cM (vs.getD 1 .ao),dj (vs.getD 2 .ao),ay (vs.getD 3 .ao)⟩
def D9:aV:=⟨[(0,⟨false,[.k (.slice 32)]⟩),(1,⟨false,[.k (.slice 32)]⟩),(4,⟨false,[.k .bool]⟩),(5,⟨false,[.k (.int .i64)]⟩)],[],[]⟩
def O2:=dB Tryz.prog (bp Tryz.prog [] [] (fun _=>false)) 9 9 60 58 (dF Tryz.prog 60 58) D9
def eU (x:eL):aW eL:=(cond (decide (x.i < ((x.a.n:Nat):Int))) (cond ((decide ((0:Int)<=x.i))&&(decide (x.i < ((x.a.n:Nat):Int)))) (cond ((decide ((0:Int)<=x.i))&&(decide (x.i < ((x.b.n:Nat):Int)))) (cond (!(((x.a.get (Int.toNat x.i)).slot==(x.b.get (Int.toNat x.i)).slot)&&(((x.a.get (Int.toNat x.i)).gen==(x.b.get (Int.toNat x.i)).gen)&&true))) (.out aB.ae.ret (⟨x.a,x.b,false,x.i⟩:eL)) (.next (⟨x.a,x.b,x.t4,(aR (x.i+(1:Int)))⟩:eL))) .fail) .fail) (.out (aB.ae.exit 0) x))
theorem LK (x:eL):O2 (rD x) (rE x)=aW.enc rD rE (eU x):=by
 unfold eU
 try simp only [aW.cf]
 kernel_rfl
def sk:Lp:=⟨60,58,D9,fun vs rs=>dC rD rE (goN eU (DN vs rs)) [aB.ae.exit 0,aB.ae.ret],false⟩
theorem O3:sk.Ok Tryz.prog:=b8 funcs mixed ah.nil au.nil (L:=9) (n:=9) (step:=eU) (ev:=rD) (er:=rE) (pa:=DN) rfl (fun wv wr=>⟨by kernel_rfl,by kernel_rfl⟩) LK
theorem JJ:bZ Tryz.prog sk.f sk.p=true:=by kernel_rfl
def Ha:List (Nat×(List KV->KR KV)):=[]
def Hb:List Lp:=[sk]
theorem Qb:ah Tryz.prog Ha:=ah.nil
theorem Qc:au Tryz.prog Hb:=(au.cons O3 JJ au.nil)
def ub (a:(Sl Handle)) (b:(Sl Handle)):(aW eL):=(goN eU (⟨a,b,false,(0:Int)⟩:eL))
def pC (a:(Sl Handle)) (b:(Sl Handle)):Option (Bool):=(cond (((a.n:Nat):Int) != ((b.n:Nat):Int)) (some (false)) (cond ((ub a b).by (aB.ae.exit 0)) (some (true)) (cond ((ub a b).by aB.ae.ret) (some ((ub a b).st.t4)) none)))
theorem Sb (a:(Sl Handle)) (b:(Sl Handle)):cD Tryz.prog (bp Tryz.prog Ha Hb (fun _=>false)) 9 9 60 [(eA 32 dL) a,(eA 32 dL) b] = (pC a b).map kB:=by
 unfold pC
 try simp only [bq]
 kernel_rfl
def Ju:List KV->KR KV:=bI Tryz.prog 60 (bL kB fun vs=>pC ((dP cM) (vs.getD 0 .ao)) ((dP cM) (vs.getD 1 .ao)))
theorem Qd (w:Nat->KV):ck Tryz.prog [35,35] w 0 = [(eA 32 dL) ((dP cM) (ax Tryz.prog (ai Tryz.prog aj) 35 (w 0))),(eA 32 dL) ((dP cM) (ax Tryz.prog (ai Tryz.prog aj) 35 (w 1)))]:=by kernel_rfl
theorem Qe:bH Tryz.prog 60 Ju:=aL funcs mixed Qb Qc (L:=9) (n:=9) fun w=>by
 have e:aG Tryz.prog 60 = [35,35]:=by kernel_rfl
 rw [e,Qd]
 exact (Sb ((dP cM) (ax Tryz.prog (ai Tryz.prog aj) 35 (w 0))) ((dP cM) (ax Tryz.prog (ai Tryz.prog aj) 35 (w 1)))).trans (by kernel_rfl)
def U9:List (Nat×(List KV->KR KV)):=[(60,Ju),(53,aif),(52,adj),(26,Ze)]
def Va:List Lp:=[]
theorem aeC:ah Tryz.prog U9:=(ah.cons Qe (ah.cons ajU (ah.cons aie (ah.cons ad0 ah.nil))))
theorem aeD:au Tryz.prog Va:=au.nil
def DP (s:aP) (p:Path):(Option Int):=(zS s)
def Jv (s:aP) (p:Path):(Option Bool):=(Gh s)
def DQ (s:aP) (p:Path):(Option (Prod Path Bool)):=(EW s p.kids)
def Jw (s:aP) (p:Path):(Option Bool):=(pC ((DQ s p).getD default).fst.nodes p.nodes)
def Af (s:aP) (p:Path):Option (Int):=(cond (DP s p).isSome (cond (((DP s p).getD default) != (0:Int)) (some (((DP s p).getD default))) (cond (Jv s p).isSome (cond ((Jv s p).getD default) (some ((8:Int))) (cond (DQ s p).isSome (cond (!((DQ s p).getD default).snd) (some ((8:Int))) (cond (Jw s p).isSome (cond (!((Jw s p).getD default)) (some ((8:Int))) (some ((0:Int)))) none)) none)) none)) none)
theorem aih (s:aP) (p:Path):cD Tryz.prog (bp Tryz.prog U9 Va (fun _=>false)) 9 9 56 [dx s,sB p] = (Af s p).map (kI .i64):=by
 unfold Af
 try simp only [bq]
 kernel_rfl
def ZW:List KV->KR KV:=bI Tryz.prog 56 (bL (kI .i64) fun vs=>Af (b6 (vs.getD 0 .ao)) (qR (vs.getD 1 .ao)))
theorem aeE (w:Nat->KV):ck Tryz.prog [34,38] w 0 = [dx (b6 (ax Tryz.prog (ai Tryz.prog aj) 34 (w 0))),sB (qR (ax Tryz.prog (ai Tryz.prog aj) 38 (w 1)))]:=by kernel_rfl
theorem aeF:bH Tryz.prog 56 ZW:=aL funcs mixed aeC aeD (L:=9) (n:=9) fun w=>by
 have e:aG Tryz.prog 56 = [34,38]:=by kernel_rfl
 rw [e,aeE]
 exact (aih (b6 (ax Tryz.prog (ai Tryz.prog aj) 34 (w 0))) (qR (ax Tryz.prog (ai Tryz.prog aj) 38 (w 1)))).trans (by kernel_rfl)
structure nE where
 uz:Int
 place:Int
 t4:Bool
 i:Int
instance:Inhabited nE:=⟨⟨default,default,default,default⟩⟩
def DR (x:nE):List KV:=[.int .u16 x.uz,.int .i64 x.place,.bool x.t4,.int .i64 x.i]
def DS (x:nE):List (List KV):=[]
def Sc (vs:List KV) (rs:List (List KV)):nE:=⟨ay (vs.getD 0 .ao),ay (vs.getD 1 .ao),dj (vs.getD 2 .ao),ay (vs.getD 3 .ao)⟩
def Vb:aV:=⟨[(0,⟨false,[.k (.int .u16)]⟩),(1,⟨false,[.k (.int .i64)]⟩),(4,⟨false,[.k .bool]⟩),(5,⟨false,[.k (.int .i64)]⟩)],[],[]⟩
def aii:=dB Tryz.prog (bp Tryz.prog [] [] (fun _=>false)) 9 9 105 26 (dF Tryz.prog 105 26) Vb
def pD (x:nE):aW nE:=(cond (decide (x.i < x.place)) (.next (⟨(w16 (Int.tdiv x.uz (2:Int))),x.place,x.t4,(aR (x.i+(1:Int)))⟩:nE)) (.out (aB.ae.exit 0) x))
theorem abL (x:nE):aii (DR x) (DS x)=aW.enc DR DS (pD x):=by
 unfold pD
 try simp only [aW.cf]
 kernel_rfl
def FD:Lp:=⟨105,26,Vb,fun vs rs=>dC DR DS (goN pD (Sc vs rs)) [aB.ae.exit 0],false⟩
theorem aij:FD.Ok Tryz.prog:=b8 funcs mixed ah.nil au.nil (L:=9) (n:=9) (step:=pD) (ev:=DR) (er:=DS) (pa:=Sc) rfl (fun wv wr=>⟨by kernel_rfl,by kernel_rfl⟩) abL
theorem ZX:bZ Tryz.prog FD.f FD.p=true:=by kernel_rfl
def adm:List (Nat×(List KV->KR KV)):=[]
def adn:List Lp:=[FD]
theorem ajV:ah Tryz.prog adm:=ah.nil
theorem ajW:au Tryz.prog adn:=(au.cons aij ZX au.nil)
def O4 (uz:Int) (place:Int):(aW nE):=(goN pD (⟨uz,place,false,(0:Int)⟩:nE))
def EX (uz:Int) (place:Int):Option (Bool):=(cond ((O4 uz place).by (aB.ae.exit 0)) (some (((Int.tmod (O4 uz place).st.uz (2:Int))==(1:Int)))) none)
theorem amq (uz:Int) (place:Int):cD Tryz.prog (bp Tryz.prog adm adn (fun _=>false)) 9 9 105 [(kI .u16) uz,(kI .i64) place] = (EX uz place).map kB:=by
 unfold EX
 try simp only [bq]
 kernel_rfl
def W6:List KV->KR KV:=bI Tryz.prog 105 (bL kB fun vs=>EX (ay (vs.getD 0 .ao)) (ay (vs.getD 1 .ao)))
theorem ajX (w:Nat->KV):ck Tryz.prog [72,3] w 0 = [(kI .u16) (ay (ax Tryz.prog (ai Tryz.prog aj) 72 (w 0))),(kI .i64) (ay (ax Tryz.prog (ai Tryz.prog aj) 3 (w 1)))]:=by kernel_rfl
theorem Vc:bH Tryz.prog 105 W6:=aL funcs mixed ajV ajW (L:=9) (n:=9) fun w=>by
 have e:aG Tryz.prog 105 = [72,3]:=by kernel_rfl
 rw [e,ajX]
 exact (amq (ay (ax Tryz.prog (ai Tryz.prog aj) 72 (w 0))) (ay (ax Tryz.prog (ai Tryz.prog aj) 3 (w 1)))).trans (by kernel_rfl)
structure fK where
 t4:Bool
 i:Int
 s:aP
 p:Path
instance:Inhabited fK:=⟨⟨default,default,default,default⟩⟩
def wC (x:fK):List KV:=[.bool x.t4,.int .i64 x.i]
def wD (x:fK):List (List KV):=[uE x.s,RW x.p]
def Jx (vs:List KV) (rs:List (List KV)):fK:=⟨dj (vs.getD 0 .ao),ay (vs.getD 1 .ao),uF (fun k=>(rs.getD 0 []).getD k .ao),RX (fun k=>(rs.getD 1 []).getD k .ao)⟩
def KL:aV:=⟨[(4,⟨false,[.k .bool]⟩),(5,⟨false,[.k (.int .i64)]⟩)],[(2,[.k (.slice 111),.k (.slice 35),.k (.slice 77),.k (.slice 88),.k (.slice 91),.k (.int .i64),.k (.int .i64)],1),(3,[.k (.slice 32),.k (.slice 3)],1)],[(2,0,0),(3,1,0)]⟩
def W7:=dB Tryz.prog (bp Tryz.prog [(105,W6)] [] (fun _=>false)) 9 9 59 26 (dF Tryz.prog 59 26) KL
def AI (x:fK):(Option Bool):=(EX (x.s.nodes.get (Int.toNat (x.p.nodes.get (Int.toNat x.i)).slot)).uz (x.p.kids.get (Int.toNat x.i)))
def hY (x:fK):aW fK:=(cond (decide (x.i < ((x.p.kids.n:Nat):Int))) (cond ((decide ((0:Int)<=x.i))&&(decide (x.i < ((x.p.nodes.n:Nat):Int)))) (cond ((decide ((0:Int)<=(x.p.nodes.get (Int.toNat x.i)).slot))&&(decide ((x.p.nodes.get (Int.toNat x.i)).slot < ((x.s.nodes.n:Nat):Int)))) (cond ((x.s.nodes.get (Int.toNat (x.p.nodes.get (Int.toNat x.i)).slot)).kind==(3:Int)) (cond ((decide ((0:Int)<=x.i))&&(decide (x.i < ((x.p.kids.n:Nat):Int)))) (cond (AI x).isSome (cond (!((AI x).getD default)) (.out aB.ae.ret (⟨false,x.i,x.s,x.p⟩:fK)) (.next (⟨x.t4,(aR (x.i+(1:Int))),x.s,x.p⟩:fK))) .fail) .fail) (.next (⟨x.t4,(aR (x.i+(1:Int))),x.s,x.p⟩:fK))) .fail) .fail) (.out (aB.ae.exit 0) x))
theorem Sd (x:fK):W7 (wC x) (wD x)=aW.enc wC wD (hY x):=by
 unfold hY
 try simp only [aW.cf]
 kernel_rfl
def yl:Lp:=⟨59,26,KL,fun vs rs=>dC wC wD (goN hY (Jx vs rs)) [aB.ae.exit 0,aB.ae.ret],false⟩
theorem W8:yl.Ok Tryz.prog:=b8 funcs mixed (ah.cons Vc ah.nil) au.nil (L:=9) (n:=9) (step:=hY) (ev:=wC) (er:=wD) (pa:=Jx) rfl (fun wv wr=>⟨by kernel_rfl,by kernel_rfl⟩) Sd
theorem Qf:bZ Tryz.prog yl.f yl.p=true:=by kernel_rfl
def PS:List (Nat×(List KV->KR KV)):=[(105,W6)]
def PT:List Lp:=[yl]
theorem ZY:ah Tryz.prog PS:=(ah.cons Vc ah.nil)
theorem ZZ:au Tryz.prog PT:=(au.cons W8 Qf au.nil)
def Ag (s:aP) (p:Path):(aW fK):=(goN hY (⟨false,(0:Int),s,p⟩:fK))
def vz (s:aP) (p:Path):Option (Bool):=(cond ((Ag s p).by (aB.ae.exit 0)) (some (true)) (cond ((Ag s p).by aB.ae.ret) (some ((Ag s p).st.t4)) none))
theorem abM (s:aP) (p:Path):cD Tryz.prog (bp Tryz.prog PS PT (fun _=>false)) 9 9 59 [dx s,sB p] = (vz s p).map kB:=by
 unfold vz
 try simp only [bq]
 kernel_rfl
def Se:List KV->KR KV:=bI Tryz.prog 59 (bL kB fun vs=>vz (b6 (vs.getD 0 .ao)) (qR (vs.getD 1 .ao)))
theorem Z0 (w:Nat->KV):ck Tryz.prog [34,38] w 0 = [dx (b6 (ax Tryz.prog (ai Tryz.prog aj) 34 (w 0))),sB (qR (ax Tryz.prog (ai Tryz.prog aj) 38 (w 1)))]:=by kernel_rfl
theorem Z1:bH Tryz.prog 59 Se:=aL funcs mixed ZY ZZ (L:=9) (n:=9) fun w=>by
 have e:aG Tryz.prog 59 = [34,38]:=by kernel_rfl
 rw [e,Z0]
 exact (abM (b6 (ax Tryz.prog (ai Tryz.prog aj) 34 (w 0))) (qR (ax Tryz.prog (ai Tryz.prog aj) 38 (w 1)))).trans (by kernel_rfl)
def aik:List (Nat×(List KV->KR KV)):=[(59,Se),(56,ZW)]
def ail:List Lp:=[]
theorem amr:ah Tryz.prog aik:=(ah.cons Z1 (ah.cons aeF ah.nil))
theorem ams:au Tryz.prog ail:=au.nil
def KM (s:aP) (p:Path):(Option Int):=(Af s p)
def Sf (s:aP) (p:Path):(Option Bool):=(vz s p)
def H6 (s:aP) (p:Path):Option (Bool×Int):=(cond (KM s p).isSome (cond (((KM s p).getD default) != (0:Int)) (some (false,((KM s p).getD default))) (cond (Sf s p).isSome (some (((Sf s p).getD default),(0:Int))) none)) none)
theorem aoy (s:aP) (p:Path):cD Tryz.prog (bp Tryz.prog aik ail (fun _=>false)) 9 9 21 [dx s,sB p] = (H6 s p).map (fun (r:Bool×Int)=>KV.na [kB r.1,(kI .i64) r.2]):=by
 unfold H6
 try simp only [bq]
 kernel_rfl
def ak1:List KV->KR KV:=bI Tryz.prog 21 (bL (fun (r:Bool×Int)=>KV.na [kB r.1,(kI .i64) r.2]) fun vs=>H6 (b6 (vs.getD 0 .ao)) (qR (vs.getD 1 .ao)))
theorem amt (w:Nat->KV):ck Tryz.prog [34,38] w 0 = [dx (b6 (ax Tryz.prog (ai Tryz.prog aj) 34 (w 0))),sB (qR (ax Tryz.prog (ai Tryz.prog aj) 38 (w 1)))]:=by kernel_rfl
theorem amu:bH Tryz.prog 21 ak1:=aL funcs mixed amr ams (L:=9) (n:=9) fun w=>by
 have e:aG Tryz.prog 21 = [34,38]:=by kernel_rfl
 rw [e,amt]
 exact (aoy (b6 (ax Tryz.prog (ai Tryz.prog aj) 34 (w 0))) (qR (ax Tryz.prog (ai Tryz.prog aj) 38 (w 1)))).trans (by kernel_rfl)
def Z2:List (Nat×(List KV->KR KV)):=[]
def Z3:List Lp:=[]
theorem aim:ah Tryz.prog Z2:=ah.nil
theorem ain:au Tryz.prog Z3:=au.nil
def Gi  : Option (dm):=(some ((⟨(⟨(⟨(256:Int),(0:Int),(0:Int)⟩:az),(⟨(0:Int),(256:Int),(0:Int)⟩:az),(⟨(0:Int),(0:Int),(256:Int)⟩:az)⟩:bw),(⟨(0:Int),(0:Int),(0:Int)⟩:fO)⟩:dm)))
theorem ajY  : cD Tryz.prog (bp Tryz.prog Z2 Z3 (fun _=>false)) 9 9 95 [] = (Gi ).map mu:=by
 unfold Gi
 kernel_rfl
def Sg:List KV->KR KV:=bI Tryz.prog 95 (bL mu fun vs=>Gi )
theorem aio (w:Nat->KV):ck Tryz.prog [] w 0 = []:=by kernel_rfl
theorem Sh:bH Tryz.prog 95 Sg:=aL funcs mixed aim ain (L:=9) (n:=9) fun w=>by
 have e:aG Tryz.prog 95 = []:=by kernel_rfl
 rw [e,aio]
 exact (ajY ).trans (by kernel_rfl)
def Z4:List (Nat×(List KV->KR KV)):=[]
def Z5:List Lp:=[]
theorem aip:ah Tryz.prog Z4:=ah.nil
theorem aiq:au Tryz.prog Z5:=au.nil
def yS (a:Int) (b:Int):Option (Int):=(cond (!(decide (b=(0:Int)))) (cond (decide ((aR ((aR (Int.tdiv a b)) * b)) > a)) (some ((aR ((aR (Int.tdiv a b)) - (1:Int))))) (some ((aR (Int.tdiv a b))))) none)
theorem ajZ (a:Int) (b:Int):cD Tryz.prog (bp Tryz.prog Z4 Z5 (fun _=>false)) 9 9 208 [(kI .i64) a,(kI .i64) b] = (yS a b).map (kI .i64):=by
 unfold yS
 try simp only [bq]
 kernel_rfl
def ado:List KV->KR KV:=bI Tryz.prog 208 (bL (kI .i64) fun vs=>yS (ay (vs.getD 0 .ao)) (ay (vs.getD 1 .ao)))
theorem air (w:Nat->KV):ck Tryz.prog [3,3] w 0 = [(kI .i64) (ay (ax Tryz.prog (ai Tryz.prog aj) 3 (w 0))),(kI .i64) (ay (ax Tryz.prog (ai Tryz.prog aj) 3 (w 1)))]:=by kernel_rfl
theorem ais:bH Tryz.prog 208 ado:=aL funcs mixed aip aiq (L:=9) (n:=9) fun w=>by
 have e:aG Tryz.prog 208 = [3,3]:=by kernel_rfl
 rw [e,air]
 exact (ajZ (ay (ax Tryz.prog (ai Tryz.prog aj) 3 (w 0))) (ay (ax Tryz.prog (ai Tryz.prog aj) 3 (w 1)))).trans (by kernel_rfl)
def ait:List (Nat×(List KV->KR KV)):=[(208,ado)]
def aiu:List Lp:=[]
theorem amv:ah Tryz.prog ait:=(ah.cons ais ah.nil)
theorem amw:au Tryz.prog aiu:=au.nil
def Si (row:az) (v:fO):(Option Int):=(yS (aR ((aR ((aR (row.e0 * v.x))+(aR (row.e1 * v.y))))+(aR (row.e2 * v.z)))) (256:Int))
def nz (row:az) (v:fO):Option (Int):=(cond (Si row v).isSome (some (((Si row v).getD default))) none)
theorem aoz (row:az) (v:fO):cD Tryz.prog (bp Tryz.prog ait aiu (fun _=>false)) 9 9 167 [df row,mr v] = (nz row v).map (kI .i64):=by
 unfold nz
 try simp only [bq]
 kernel_rfl
def abN:List KV->KR KV:=bI Tryz.prog 167 (bL (kI .i64) fun vs=>nz (dv (vs.getD 0 .ao)) (kL (vs.getD 1 .ao)))
theorem amx (w:Nat->KV):ck Tryz.prog [40,43] w 0 = [df (dv (ax Tryz.prog (ai Tryz.prog aj) 40 (w 0))),mr (kL (ax Tryz.prog (ai Tryz.prog aj) 43 (w 1)))]:=by kernel_rfl
theorem Z6:bH Tryz.prog 167 abN:=aL funcs mixed amv amw (L:=9) (n:=9) fun w=>by
 have e:aG Tryz.prog 167 = [40,43]:=by kernel_rfl
 rw [e,amx]
 exact (aoz (dv (ax Tryz.prog (ai Tryz.prog aj) 40 (w 0))) (kL (ax Tryz.prog (ai Tryz.prog aj) 43 (w 1)))).trans (by kernel_rfl)
def Sj:List (Nat×(List KV->KR KV)):=[(167,abN)]
def Sk:List Lp:=[]
theorem abO:ah Tryz.prog Sj:=(ah.cons Z6 ah.nil)
theorem abP:au Tryz.prog Sk:=au.nil
def GU (m:bw) (v:fO):(Option Int):=(nz m.e0 v)
def GV (m:bw) (v:fO):(Option Int):=(nz m.e1 v)
def GW (m:bw) (v:fO):(Option Int):=(nz m.e2 v)
def xy (m:bw) (v:fO):Option (fO):=(cond (GU m v).isSome (cond (GV m v).isSome (cond (GW m v).isSome (some ((⟨((GU m v).getD default),((GV m v).getD default),((GW m v).getD default)⟩:fO))) none) none) none)
theorem aeG (m:bw) (v:fO):cD Tryz.prog (bp Tryz.prog Sj Sk (fun _=>false)) 9 9 166 [gb m,mr v] = (xy m v).map mr:=by
 unfold xy
 try simp only [bq]
 kernel_rfl
def Vd:List KV->KR KV:=bI Tryz.prog 166 (bL mr fun vs=>xy (cV (vs.getD 0 .ao)) (kL (vs.getD 1 .ao)))
theorem abQ (w:Nat->KV):ck Tryz.prog [41,43] w 0 = [gb (cV (ax Tryz.prog (ai Tryz.prog aj) 41 (w 0))),mr (kL (ax Tryz.prog (ai Tryz.prog aj) 43 (w 1)))]:=by kernel_rfl
theorem abR:bH Tryz.prog 166 Vd:=aL funcs mixed abO abP (L:=9) (n:=9) fun w=>by
 have e:aG Tryz.prog 166 = [41,43]:=by kernel_rfl
 rw [e,abQ]
 exact (aeG (cV (ax Tryz.prog (ai Tryz.prog aj) 41 (w 0))) (kL (ax Tryz.prog (ai Tryz.prog aj) 43 (w 1)))).trans (by kernel_rfl)
def Z7:List (Nat×(List KV->KR KV)):=[]
def Z8:List Lp:=[]
theorem aiv:ah Tryz.prog Z7:=ah.nil
theorem aiw:au Tryz.prog Z8:=au.nil
def CA (a:fO) (b:fO):Option (fO):=(some ((⟨(aR (a.x+b.x)),(aR (a.y+b.y)),(aR (a.z+b.z))⟩:fO)))
theorem aj0 (a:fO) (b:fO):cD Tryz.prog (bp Tryz.prog Z7 Z8 (fun _=>false)) 9 9 165 [mr a,mr b] = (CA a b).map mr:=by
 unfold CA
 kernel_rfl
def adp:List KV->KR KV:=bI Tryz.prog 165 (bL mr fun vs=>CA (kL (vs.getD 0 .ao)) (kL (vs.getD 1 .ao)))
theorem aix (w:Nat->KV):ck Tryz.prog [43,43] w 0 = [mr (kL (ax Tryz.prog (ai Tryz.prog aj) 43 (w 0))),mr (kL (ax Tryz.prog (ai Tryz.prog aj) 43 (w 1)))]:=by kernel_rfl
theorem aiy:bH Tryz.prog 165 adp:=aL funcs mixed aiv aiw (L:=9) (n:=9) fun w=>by
 have e:aG Tryz.prog 165 = [43,43]:=by kernel_rfl
 rw [e,aix]
 exact (aj0 (kL (ax Tryz.prog (ai Tryz.prog aj) 43 (w 0))) (kL (ax Tryz.prog (ai Tryz.prog aj) 43 (w 1)))).trans (by kernel_rfl)
def adq:List (Nat×(List KV->KR KV)):=[(167,abN),(165,adp),(166,Vd),(138,Ws)]
def adr:List Lp:=[]
theorem aj1:ah Tryz.prog adq:=(ah.cons Z6 (ah.cons aiy (ah.cons abR (ah.cons UI ah.nil))))
theorem aj2:au Tryz.prog adr:=au.nil
def O5 (a:dm) (b:dm):(Option Bool):=(wk a)
def O6 (a:dm) (b:dm):(Option Bool):=(wk b)
def O7 (a:dm) (b:dm):(Option fO):=(xy a.m b.t)
def HJ (a:dm) (b:dm):(Option fO):=(CA ((O7 a b).getD default) a.t)
def HK (a:dm) (b:dm):(Option Int):=(nz a.m.e0 (⟨b.m.e0.e0,b.m.e1.e0,b.m.e2.e0⟩:fO))
def HL (a:dm) (b:dm):(Option Int):=(nz a.m.e0 (⟨b.m.e0.e1,b.m.e1.e1,b.m.e2.e1⟩:fO))
def HM (a:dm) (b:dm):(Option Int):=(nz a.m.e0 (⟨b.m.e0.e2,b.m.e1.e2,b.m.e2.e2⟩:fO))
def HN (a:dm) (b:dm):(Option Int):=(nz a.m.e1 (⟨b.m.e0.e0,b.m.e1.e0,b.m.e2.e0⟩:fO))
def HO (a:dm) (b:dm):(Option Int):=(nz a.m.e1 (⟨b.m.e0.e1,b.m.e1.e1,b.m.e2.e1⟩:fO))
def HP (a:dm) (b:dm):(Option Int):=(nz a.m.e1 (⟨b.m.e0.e2,b.m.e1.e2,b.m.e2.e2⟩:fO))
def FE (a:dm) (b:dm):(Option Int):=(nz a.m.e2 (⟨b.m.e0.e0,b.m.e1.e0,b.m.e2.e0⟩:fO))
def FF (a:dm) (b:dm):(Option Int):=(nz a.m.e2 (⟨b.m.e0.e1,b.m.e1.e1,b.m.e2.e1⟩:fO))
def FG (a:dm) (b:dm):(Option Int):=(nz a.m.e2 (⟨b.m.e0.e2,b.m.e1.e2,b.m.e2.e2⟩:fO))
def LL (a:dm) (b:dm):(Option Bool):=(wk (⟨(⟨(⟨((HK a b).getD default),((HL a b).getD default),((HM a b).getD default)⟩:az),(⟨((HN a b).getD default),((HO a b).getD default),((HP a b).getD default)⟩:az),(⟨((FE a b).getD default),((FF a b).getD default),((FG a b).getD default)⟩:az)⟩:bw),((HJ a b).getD default)⟩:dm))
def EY (a:dm) (b:dm):Option (dm×Int):=(cond (O5 a b).isSome (cond (!((O5 a b).getD default)) (some ((⟨(⟨(⟨(0:Int),(0:Int),(0:Int)⟩:az),(⟨(0:Int),(0:Int),(0:Int)⟩:az),(⟨(0:Int),(0:Int),(0:Int)⟩:az)⟩:bw),(⟨(0:Int),(0:Int),(0:Int)⟩:fO)⟩:dm),(20:Int))) (cond (O6 a b).isSome (cond (!((O6 a b).getD default)) (some ((⟨(⟨(⟨(0:Int),(0:Int),(0:Int)⟩:az),(⟨(0:Int),(0:Int),(0:Int)⟩:az),(⟨(0:Int),(0:Int),(0:Int)⟩:az)⟩:bw),(⟨(0:Int),(0:Int),(0:Int)⟩:fO)⟩:dm),(20:Int))) (cond (O7 a b).isSome (cond (HJ a b).isSome (cond (HK a b).isSome (cond (HL a b).isSome (cond (HM a b).isSome (cond (HN a b).isSome (cond (HO a b).isSome (cond (HP a b).isSome (cond (FE a b).isSome (cond (FF a b).isSome (cond (FG a b).isSome (cond (LL a b).isSome (cond (!((LL a b).getD default)) (some ((⟨(⟨(⟨(0:Int),(0:Int),(0:Int)⟩:az),(⟨(0:Int),(0:Int),(0:Int)⟩:az),(⟨(0:Int),(0:Int),(0:Int)⟩:az)⟩:bw),(⟨(0:Int),(0:Int),(0:Int)⟩:fO)⟩:dm),(20:Int))) (some ((⟨(⟨(⟨((HK a b).getD default),((HL a b).getD default),((HM a b).getD default)⟩:az),(⟨((HN a b).getD default),((HO a b).getD default),((HP a b).getD default)⟩:az),(⟨((FE a b).getD default),((FF a b).getD default),((FG a b).getD default)⟩:az)⟩:bw),((HJ a b).getD default)⟩:dm),(0:Int)))) none) none) none) none) none) none) none) none) none) none) none) none)) none)) none)
theorem amy (a:dm) (b:dm):cD Tryz.prog (bp Tryz.prog adq adr (fun _=>false)) 9 9 96 [mu a,mu b] = (EY a b).map (fun (r:dm×Int)=>KV.na [mu r.1,(kI .i64) r.2]):=by
 unfold EY
 try simp only [bq]
 kernel_rfl
def W9:List KV->KR KV:=bI Tryz.prog 96 (bL (fun (r:dm×Int)=>KV.na [mu r.1,(kI .i64) r.2]) fun vs=>EY (mv (vs.getD 0 .ao)) (mv (vs.getD 1 .ao)))
theorem aj3 (w:Nat->KV):ck Tryz.prog [45,45] w 0 = [mu (mv (ax Tryz.prog (ai Tryz.prog aj) 45 (w 0))),mu (mv (ax Tryz.prog (ai Tryz.prog aj) 45 (w 1)))]:=by kernel_rfl
theorem Ve:bH Tryz.prog 96 W9:=aL funcs mixed aj1 aj2 (L:=9) (n:=9) fun w=>by
 have e:aG Tryz.prog 96 = [45,45]:=by kernel_rfl
 rw [e,aj3]
 exact (amy (mv (ax Tryz.prog (ai Tryz.prog aj) 45 (w 0))) (mv (ax Tryz.prog (ai Tryz.prog aj) 45 (w 1)))).trans (by kernel_rfl)
structure iD where
 upto:Int
 t7:Int
 i:Int
 s:aP
 p:Path
 t6:dm
 m:dm
instance:Inhabited iD:=⟨by constructor<;>exact default⟩
def Ah (x:iD):List KV:=[.int .i64 x.upto,.int .i64 x.t7,.int .i64 x.i]
def Ai (x:iD):List (List KV):=[uE x.s,RW x.p,arA x.t6,arA x.m]
def Nj (vs:List KV) (rs:List (List KV)):iD:=⟨ay (vs.getD 0 .ao),ay (vs.getD 1 .ao),ay (vs.getD 2 .ao),uF (fun k=>(rs.getD 0 []).getD k .ao),RX (fun k=>(rs.getD 1 []).getD k .ao),arB (fun k=>(rs.getD 2 []).getD k .ao),arB (fun k=>(rs.getD 3 []).getD k .ao)⟩
def PU:aV:=⟨[(2,⟨false,[.k (.int .i64)]⟩),(7,⟨false,[.k (.int .i64)]⟩),(9,⟨false,[.k (.int .i64)]⟩)],[(3,[.k (.slice 111),.k (.slice 35),.k (.slice 77),.k (.slice 88),.k (.slice 91),.k (.int .i64),.k (.int .i64)],1),(4,[.k (.slice 32),.k (.slice 3)],1),(6,[.k (.int .i64),.k (.int .i64),.k (.int .i64),.k (.int .i64),.k (.int .i64),.k (.int .i64),.k (.int .i64),.k (.int .i64),.k (.int .i64),.k (.int .i64),.k (.int .i64),.k (.int .i64)],1),(8,[.k (.int .i64),.k (.int .i64),.k (.int .i64),.k (.int .i64),.k (.int .i64),.k (.int .i64),.k (.int .i64),.k (.int .i64),.k (.int .i64),.k (.int .i64),.k (.int .i64),.k (.int .i64)],1)],[(3,0,0),(4,1,0),(6,2,0),(8,3,0)]⟩
def abS:=dB Tryz.prog (bp Tryz.prog [(96,W9),(95,Sg)] [] (fun _=>false)) 9 9 46 58 (dF Tryz.prog 46 58) PU
def uc (x:iD):(Option (Prod dm Int)):=(EY x.m (x.s.nodes.get (Int.toNat (x.p.nodes.get (Int.toNat x.i)).slot)).gd)
def lE (x:iD):aW iD:=(cond (decide (x.i<=x.upto)) (cond ((decide ((0:Int)<=x.i))&&(decide (x.i < ((x.p.nodes.n:Nat):Int)))) (cond ((decide ((0:Int)<=(x.p.nodes.get (Int.toNat x.i)).slot))&&(decide ((x.p.nodes.get (Int.toNat x.i)).slot < ((x.s.nodes.n:Nat):Int)))) (cond ((x.s.nodes.get (Int.toNat (x.p.nodes.get (Int.toNat x.i)).slot)).kind==(2:Int)) (cond (uc x).isSome (cond (((uc x).getD default).snd != (0:Int)) (.out aB.ae.ret (⟨x.upto,((uc x).getD default).snd,x.i,x.s,x.p,(⟨(⟨(⟨(0:Int),(0:Int),(0:Int)⟩:az),(⟨(0:Int),(0:Int),(0:Int)⟩:az),(⟨(0:Int),(0:Int),(0:Int)⟩:az)⟩:bw),(⟨(0:Int),(0:Int),(0:Int)⟩:fO)⟩:dm),x.m⟩:iD)) (.next (⟨x.upto,x.t7,(aR (x.i+(1:Int))),x.s,x.p,x.t6,((uc x).getD default).fst⟩:iD))) .fail) (.next (⟨x.upto,x.t7,(aR (x.i+(1:Int))),x.s,x.p,x.t6,x.m⟩:iD))) .fail) .fail) (.out (aB.ae.exit 0) x))
theorem Xa (x:iD):abS (Ah x) (Ai x)=aW.enc Ah Ai (lE x):=by
 unfold lE
 try simp only [aW.cf]
 kernel_rfl
def BH:Lp:=⟨46,58,PU,fun vs rs=>dC Ah Ai (goN lE (Nj vs rs)) [aB.ae.exit 0,aB.ae.ret],false⟩
theorem abT:BH.Ok Tryz.prog:=b8 funcs mixed (ah.cons Ve (ah.cons Sh ah.nil)) au.nil (L:=9) (n:=9) (step:=lE) (ev:=Ah) (er:=Ai) (pa:=Nj) rfl (fun wv wr=>⟨by kernel_rfl,by kernel_rfl⟩) Xa
theorem TS:bZ Tryz.prog BH.f BH.p=true:=by kernel_rfl
def Vf:List (Nat×(List KV->KR KV)):=[(96,W9),(95,Sg)]
def Vg:List Lp:=[BH]
theorem aeH:ah Tryz.prog Vf:=(ah.cons Ve (ah.cons Sh ah.nil))
theorem aeI:au Tryz.prog Vg:=(au.cons abT TS au.nil)
def Jy (s:aP) (p:Path) (upto:Int):(Option dm):=Gi
def vA (s:aP) (p:Path) (upto:Int):(aW iD):=(goN lE (⟨upto,(0:Int),(0:Int),s,p,(⟨(⟨(⟨(0:Int),(0:Int),(0:Int)⟩:az),(⟨(0:Int),(0:Int),(0:Int)⟩:az),(⟨(0:Int),(0:Int),(0:Int)⟩:az)⟩:bw),(⟨(0:Int),(0:Int),(0:Int)⟩:fO)⟩:dm),((Jy s p upto).getD default)⟩:iD))
def Aj (s:aP) (p:Path) (upto:Int):Option (dm×Int):=(cond (Jy s p upto).isSome (cond ((vA s p upto).by (aB.ae.exit 0)) (some ((vA s p upto).st.m,(0:Int))) (cond ((vA s p upto).by aB.ae.ret) (some ((vA s p upto).st.t6,(vA s p upto).st.t7)) none)) none)
theorem aiz (s:aP) (p:Path) (upto:Int):cD Tryz.prog (bp Tryz.prog Vf Vg (fun _=>false)) 9 9 46 [dx s,sB p,(kI .i64) upto] = (Aj s p upto).map (fun (r:dm×Int)=>KV.na [mu r.1,(kI .i64) r.2]):=by
 unfold Aj
 try simp only [bq]
 kernel_rfl
def Z9:List KV->KR KV:=bI Tryz.prog 46 (bL (fun (r:dm×Int)=>KV.na [mu r.1,(kI .i64) r.2]) fun vs=>Aj (b6 (vs.getD 0 .ao)) (qR (vs.getD 1 .ao)) (ay (vs.getD 2 .ao)))
theorem aeJ (w:Nat->KV):ck Tryz.prog [34,38,3] w 0 = [dx (b6 (ax Tryz.prog (ai Tryz.prog aj) 34 (w 0))),sB (qR (ax Tryz.prog (ai Tryz.prog aj) 38 (w 1))),(kI .i64) (ay (ax Tryz.prog (ai Tryz.prog aj) 3 (w 2)))]:=by kernel_rfl
theorem aeK:bH Tryz.prog 46 Z9:=aL funcs mixed aeH aeI (L:=9) (n:=9) fun w=>by
 have e:aG Tryz.prog 46 = [34,38,3]:=by kernel_rfl
 rw [e,aeJ]
 exact (aiz (b6 (ax Tryz.prog (ai Tryz.prog aj) 34 (w 0))) (qR (ax Tryz.prog (ai Tryz.prog aj) 38 (w 1))) (ay (ax Tryz.prog (ai Tryz.prog aj) 3 (w 2)))).trans (by kernel_rfl)
def ads:List (Nat×(List KV->KR KV)):=[(46,Z9),(21,ak1)]
def adt:List Lp:=[]
theorem aj4:ah Tryz.prog ads:=(ah.cons aeK (ah.cons amu ah.nil))
theorem aj5:au Tryz.prog adt:=au.nil
def HQ (s:aP) (p:Path):(Option (Prod Bool Int)):=(H6 s p)
def HR (s:aP) (p:Path):(Option (Prod dm Int)):=(Aj s p (aR (((p.nodes.n:Nat):Int) - (1:Int))))
def EZ (s:aP) (p:Path):Option (dm×Int):=(cond (HQ s p).isSome (cond (((HQ s p).getD default).snd != (0:Int)) (some ((⟨(⟨(⟨(0:Int),(0:Int),(0:Int)⟩:az),(⟨(0:Int),(0:Int),(0:Int)⟩:az),(⟨(0:Int),(0:Int),(0:Int)⟩:az)⟩:bw),(⟨(0:Int),(0:Int),(0:Int)⟩:fO)⟩:dm),((HQ s p).getD default).snd)) (cond (HR s p).isSome (some (((HR s p).getD default).fst,((HR s p).getD default).snd)) none)) none)
theorem amz (s:aP) (p:Path):cD Tryz.prog (bp Tryz.prog ads adt (fun _=>false)) 9 9 14 [dx s,sB p] = (EZ s p).map (fun (r:dm×Int)=>KV.na [mu r.1,(kI .i64) r.2]):=by
 unfold EZ
 try simp only [bq]
 kernel_rfl
def aiA:List KV->KR KV:=bI Tryz.prog 14 (bL (fun (r:dm×Int)=>KV.na [mu r.1,(kI .i64) r.2]) fun vs=>EZ (b6 (vs.getD 0 .ao)) (qR (vs.getD 1 .ao)))
theorem aj6 (w:Nat->KV):ck Tryz.prog [34,38] w 0 = [dx (b6 (ax Tryz.prog (ai Tryz.prog aj) 34 (w 0))),sB (qR (ax Tryz.prog (ai Tryz.prog aj) 38 (w 1)))]:=by kernel_rfl
theorem aj7:bH Tryz.prog 14 aiA:=aL funcs mixed aj4 aj5 (L:=9) (n:=9) fun w=>by
 have e:aG Tryz.prog 14 = [34,38]:=by kernel_rfl
 rw [e,aj6]
 exact (amz (b6 (ax Tryz.prog (ai Tryz.prog aj) 34 (w 0))) (qR (ax Tryz.prog (ai Tryz.prog aj) 38 (w 1)))).trans (by kernel_rfl)
def E4:List (Nat×(List KV->KR KV)):=[(14,aiA),(13,ZS),(12,YG)]
def E5:List Lp:=[]
theorem Xb:ah Tryz.prog E4:=(ah.cons aj7 (ah.cons aez (ah.cons adS ah.nil)))
theorem Xc:au Tryz.prog E5:=au.nil
def DT (s:aP) (p:Path):(Option Bool):=(zw s)
def fa (s:aP) (p:Path):(Option (Prod dm Int)):=(Ae s p)
def fc (s:aP) (p:Path):(Option (Prod dm Int)):=(EZ s p)
def BI (s:aP) (p:Path):Option (Bool):=(cond (DT s p).isSome (cond ((DT s p).getD default) (some (true)) (cond (decide (((p.nodes.n:Nat):Int) > (400:Int))) (some (true)) (cond (decide (((p.kids.n:Nat):Int) > (400:Int))) (some (true)) (cond (fa s p).isSome (cond (fc s p).isSome (cond ((((fa s p).getD default).fst.m.e0.e0==((fc s p).getD default).fst.m.e0.e0)&&((((fa s p).getD default).fst.m.e0.e1==((fc s p).getD default).fst.m.e0.e1)&&((((fa s p).getD default).fst.m.e0.e2==((fc s p).getD default).fst.m.e0.e2)&&((((fa s p).getD default).fst.m.e1.e0==((fc s p).getD default).fst.m.e1.e0)&&((((fa s p).getD default).fst.m.e1.e1==((fc s p).getD default).fst.m.e1.e1)&&((((fa s p).getD default).fst.m.e1.e2==((fc s p).getD default).fst.m.e1.e2)&&((((fa s p).getD default).fst.m.e2.e0==((fc s p).getD default).fst.m.e2.e0)&&((((fa s p).getD default).fst.m.e2.e1==((fc s p).getD default).fst.m.e2.e1)&&((((fa s p).getD default).fst.m.e2.e2==((fc s p).getD default).fst.m.e2.e2)&&((((fa s p).getD default).fst.t.x==((fc s p).getD default).fst.t.x)&&((((fa s p).getD default).fst.t.y==((fc s p).getD default).fst.t.y)&&((((fa s p).getD default).fst.t.z==((fc s p).getD default).fst.t.z)&&true)))))))))))) (some ((((fa s p).getD default).snd==((fc s p).getD default).snd))) (some (false))) none) none)))) none)
theorem aaa (s:aP) (p:Path):cD Tryz.prog (bp Tryz.prog E4 E5 (fun q=>Nat.beq q 3)) 9 9 3 [dx s,sB p] = (BI s p).map kB:=by
 unfold BI
 try simp only [bq]
 kernel_rfl
theorem Xd (w:Nat->KV):ck Tryz.prog [34,38] w 0 = [dx (b6 (ax Tryz.prog (ai Tryz.prog aj) 34 (w 0))),sB (qR (ax Tryz.prog (ai Tryz.prog aj) 38 (w 1)))]:=by kernel_rfl
end
end Go.Proofs.YtckbdndhmcoihaaGreat.b
end
section
namespace Go.K
open Go Go.aB
theorem aW.go_rule {X:Type} {step:X->aW X} {I:Nat->X->Prop} {Q:ae->X->Prop} {n:Nat}
  (h:∀ j x,j<=n->I j x->(∃ x',step x = .next x'/\j < n/\I (j+1) x')\/∃ e x',step x = .out e x'/\u7 e=false/\Q e x') :
  ∀ (r j:Nat) (x:X),j+r=n->I j x->∀ N,r < N->∃ e x',aW.go step N x = .out e x'/\Q e x'
 | r,j,x,hj,hI,0,hN=>by omega
 | r,j,x,hj,hI,N+1,hN=>by
  rcases h j x (by omega) hI with ⟨x',h1,h2,h3⟩ | ⟨e,x',h1,h2,h3⟩
  ·obtain ⟨r',rfl⟩:∃ r',r=r' + 1:=⟨r - 1,by omega⟩
   obtain ⟨e,y,h4,h5⟩:=aW.go_rule h r' (j+1) x' (by omega) h3 N (by omega);exact ⟨e,y,by simp only [aW.go,h1,h4],h5⟩
  ·exact ⟨e,x',by simp only [aW.go,h1,h2,ba],h3⟩
theorem jo {X:Type} {step:X->aW X} (I:Nat->X->Prop) (Q:ae->X->Prop) (n:Nat) (hn:n < iH)
  (h:∀ j x,j<=n->I j x->(∃ x',step x = .next x'/\j < n/\I (j+1) x')\/∃ e x',step x = .out e x'/\u7 e=false/\Q e x') {x:X} (h0:I 0 x) :
  ∃ e x',goN step x = .out e x'/\Q e x':=aW.go_rule h n 0 x (by omega) h0 iH hn
theorem jF {X:Type} {step:X->aW X} (n:Nat) (hn:n < iH) (st:Nat->X) (C:Nat->Prop) {e0 er:ae} (h0:u7 e0=false) (hr:u7 er=false) (R:X->Prop) {xe:X}
  (nA:∀ j,j < n->(C j->step (st j) = .next (st (j+1)))/\(¬ C j->∃ x',step (st j) = .out er x'/\R x')) (aq2:step (st n) = .out e0 xe) :
  (goN step (st 0) = .out e0 xe/\∀ j,j < n->C j)\/∃ x',goN step (st 0) = .out er x'/\R x'/\∃ j,j < n/\¬ C j:=by
 obtain ⟨e,x',h1,h2⟩:=jo (step:=step) (fun j x=>x=st j/\∀ i,i < j->C i) (fun e x'=>(e=e0/\x' = xe/\∀ j,j < n->C j)\/(e=er/\R x'/\∃ j,j < n/\¬ C j)) n hn (fun j x hj ⟨hx,dt⟩=>by
  subst hx;by_cases bG:j < n
  ·obtain ⟨q1,q2⟩:=nA j bG
   by_cases hc:C j
   ·exact .inl ⟨_,q1 hc,bG,rfl,fun i hi=>by
     by_cases e:i=j
     ·subst e; exact hc
     ·exact dt i (by omega)⟩
   ·obtain ⟨x',h3,h4⟩:=q2 hc
    exact .inr ⟨_,_,h3,hr,.inr ⟨rfl,h4,j,bG,hc⟩⟩
  ·have:j=n:=by omega
   subst this;exact .inr ⟨_,_,aq2,h0,.inl ⟨rfl,rfl,dt⟩⟩) (x:=st 0) ⟨rfl,fun i hi=>absurd hi (o6 _)⟩
 rcases h2 with ⟨rfl,rfl,h2⟩ | ⟨rfl,h2,h3⟩
 ·exact .inl ⟨h1,h2⟩
 ·exact .inr ⟨x',h1,h2,h3⟩
theorem aW.lB {X:Type} (e:ae) (x:X) (e' : ae):(aW.out e x).by e' = sE e e':=rfl
theorem aW.ln {X:Type} [Inhabited X] (e:ae) (x:X):(aW.out e x).st=x:=rfl
theorem cd {n:Int} (h : -9223372036854775808<=n) (h' : n < 9223372036854775808):aR n=n:=by
 show IntKind.wrap .i64 n=n;unfold IntKind.wrap;by_cases hn:0<=n
 ·have h1:n % (2 ^ IntKind.i64.bits:Int)=n:=Int.emod_eq_of_lt hn (by show n < 18446744073709551616; omega)
  simp only [h1];rw [av];intro hc;simp only [aA,o5] at hc;have:n >= 9223372036854775808:=hc.2;omega
 ·have h1:n % (2 ^ IntKind.i64.bits:Int)=n+18446744073709551616:=by
   show n % 18446744073709551616=n+18446744073709551616;omega
  simp only [h1];rw [aY]
  ·show n+18446744073709551616 - 18446744073709551616=n
   omega
  ·simp only [aA,o5]
   refine ⟨rfl,?_⟩;show n+18446744073709551616 >= 9223372036854775808;omega
theorem ak2 {b n m:Nat} (h:(n+m) * b<=140737488355328) (h2:n+m<=17592186044416):kC b n m=true:=by
 unfold kC;rw [aA];exact ⟨Nat.ble_eq_true_of_le h,Nat.ble_eq_true_of_le h2⟩
theorem appOk_small {b n m:Nat} (hb:b<=1000000) (hn:n<=1000000) (hm:m<=1000000) (_:0 < m\/n=0):kC b n m=true:=
 ak2 (o7 (Nat.mul_le_mul (by omega:n+m<=2000000) hb) (by decide)) (by omega)
theorem ur {b n m:Nat} (hb:b<=1000000:=by omega) (hn:n<=1000000:=by omega) (hm:m<=1000000:=by omega):kC b n m=true:=
 ak2 (o7 (Nat.mul_le_mul (by omega:n+m<=2000000) hb) (by decide)) (by omega)
@[simp] theorem cv (n:Nat):bz n n=true:=yX n
theorem Sl.KN {α:Type} [Inhabited α] (s:Sl α) (v:α):(s.push v).n=s.n+1:=rfl
theorem Sl.abU {α:Type} [Inhabited α] {s:Sl α} {v:α} {i:Nat} (h:i < s.n):(s.push v).get i=s.get i:=by
 have:Nat.blt i s.n=true:=by rw [cq]; exact h
 simp only [Sl.push,this,ak]
theorem Sl.abV {α:Type} [Inhabited α] {s:Sl α} {v:α} : (s.push v).get s.n=v:=by
 have:Nat.blt s.n s.n=false:=by
  cases h:Nat.blt s.n s.n with
  | false=>rfl
  | true=>rw [cq] at h; omega
 simp only [Sl.push,this,ba,yX,ak]
end Go.K
end
section
namespace Go.Proofs.YtckbdndhmcoihaaGreat.sc
open Go Go.K
def lN (n cA:Int):Prop:=-cA<=n/\n<=cA
instance (n cA:Int):Decidable (lN n cA):=by unfold lN; exact inferInstance
def qS (v:b.fO) (k:Int):Prop:=lN v.x k/\lN v.y k/\lN v.z k
instance (v:b.fO) (k:Int):Decidable (qS v k):=by unfold qS; exact inferInstance
def LM (r:b.az):Prop:=lN r.e0 1024/\lN r.e1 1024/\lN r.e2 1024
def RowsIn (m:b.bw):Prop:=LM m.e0/\LM m.e1/\LM m.e2
def E6 (m:b.dm):Prop:=RowsIn m.m/\qS m.t 4096
theorem bin {x:Option Bool} {P:Prop} (h:∃ r,x=some r/\(r=true↔P)) [Decidable P] : x=some (decide P):=by
 obtain ⟨r,h1,h2⟩:=h;rw [h1];congr 1;rw [Bool.eq_iff_iff,h2,decide_eq_true_iff]
theorem chain {p:Prop} [Decidable p] {x:Option Bool} {Q:Prop} (h1:p->¬ Q) (h2 : ¬ p->∃ r,x=some r/\(r=true↔Q)):∃ r,cond (decide p) (some false) x=some r/\(r=true↔Q):=by
 by_cases h:p
 ·rw [aq h]
  exact ⟨false,rfl,⟨fun k=>by simp at k,fun k=>absurd k (h1 h)⟩⟩
 ·rw [bj h]
  exact h2 h
theorem aab (n cA:Int) (h:0<=cA) (h' : cA<=1000000):b.nv n cA=some (decide (lN n cA)):=by
 unfold b.nv;rw [cd (by omega) (by omega)];by_cases h1:n >= 0 - cA
 ·rw [aq h1,ak]
  by_cases h2:n<=cA
  ·rw [aq h2,aq (show lN n cA from ⟨by omega,h2⟩)]
  ·rw [bj h2,bj (show ¬ lN n cA from fun k=>h2 k.2)]
 ·rw [bj h1,ba,bj (show ¬ lN n cA from fun k=>h1 (by have:=k.1; omega))]
theorem ak3 (v:b.fO) (cA:Int) (h:0<=cA) (h' : cA<=1000000):b.B8 v cA=some (decide (qS v cA)):=by
 refine bin ?_;unfold b.B8 b.OE b.OG b.OH qS;rw [aab _ _ h h',aab _ _ h h',aab _ _ h h'];simp only [fQ,ee,ak];by_cases h1:lN v.x cA <;> by_cases h2:lN v.y cA <;> by_cases h3:lN v.z cA <;> simp [h1,h2,h3]
theorem ap0 (m:b.bw):∃ r,b.Ct m 1024=some r/\(r=true↔RowsIn m):=by
 have e:=fun n=>aab n 1024 (by omega) (by omega);unfold b.Ct b.Lu b.Lv b.Lw b.Lx b.Ly b.Lz b.LA b.LB b.LC RowsIn LM;simp only [e,fQ,ee,ak];by_cases h1:lN m.e0.e0 1024
 ·by_cases h2:lN m.e0.e1 1024
  ·by_cases h3:lN m.e0.e2 1024
   ·by_cases h4:lN m.e1.e0 1024
    ·by_cases h5:lN m.e1.e1 1024
     ·by_cases h6:lN m.e1.e2 1024
      ·by_cases h7:lN m.e2.e0 1024
       ·by_cases h8:lN m.e2.e1 1024
        ·by_cases h9:lN m.e2.e2 1024 <;> simp [h1,h2,h3,h4,h5,h6,h7,h8,h9]
        ·simp [h1,h2,h3,h4,h5,h6,h7,h8]
       ·simp [h1,h2,h3,h4,h5,h6,h7]
      ·simp [h1,h2,h3,h4,h5,h6]
     ·simp [h1,h2,h3,h4,h5]
    ·simp [h1,h2,h3,h4]
   ·simp [h1,h2,h3]
  ·simp [h1,h2]
 ·simp [h1]
theorem SZ (m:b.dm):∃ r,b.wk m=some r/\(r=true↔E6 m):=by
 unfold b.wk b.OI b.OJ E6;obtain ⟨r,h1,h2⟩:=ap0 m.m;rw [h1,ak3 _ _ (by omega) (by omega)];simp only [fQ,ee,ak];cases r with
 | true=>
  refine ⟨_,rfl,?_⟩;rw [decide_eq_true_iff];exact ⟨fun h=>⟨h2.1 rfl,h⟩,fun h=>h.2⟩
 | false=>exact ⟨false,rfl,⟨fun h=>by simp at h,fun h=>h2.2 h.1⟩⟩
theorem asv (cA:Int) (l:Sl Int) (h:0<=cA) (h' : cA<=1000000) (hn:l.n < 1000000):∃ r,b.H5 cA l=some r/\(r=true↔∀ i,i < l.n->lN (l.get i) cA):=by
 unfold b.H5 b.KD;obtain ⟨e,x',h1,h2⟩:∃ e x',goN b.qP (⟨cA,false,l,((l.n:Nat):Int),(0:Int)⟩:b.ll) = .out e x'/\((e = .exit 0/\∀ i,i < l.n->lN (l.get i) cA)\/(e = .ret/\x'.t4=false/\∃ i,i < l.n/\¬ lN (l.get i) cA)):=by
  refine jo (X:=b.ll) (fun j x=>x=⟨cA,false,l,((l.n:Nat):Int),(j:Int)⟩/\∀ i,i < j->lN (l.get i) cA) (fun e x'=>(e = .exit 0/\∀ i,i < l.n->lN (l.get i) cA)\/(e = .ret/\x'.t4=false/\∃ i,i < l.n/\¬ lN (l.get i) cA)) l.n (by unfold iH; omega) ?_ ⟨rfl,fun i hi=>absurd hi (o6 _)⟩;rintro j _ hj ⟨rfl,dt⟩;unfold b.qP
  dsimp only
  by_cases bG:(j:Int) < (l.n:Int)
  ·have h0:(0:Int)<=(j:Int):=by omega
   rw [aq bG,aq h0,cd (n:=0 - cA) (by omega) (by omega)];simp only [pR,ak];have ej:Int.toNat (j:Int)=j:=rfl;rw [ej];by_cases q1:l.get j < 0 - cA
   ·rw [aq q1]
    exact .inr ⟨_,_,rfl,rfl,.inr ⟨rfl,rfl,j,by omega,fun k=>by have:=k.1; omega⟩⟩
   ·rw [bj q1,ba]
    by_cases q2:l.get j > cA
    ·rw [aq q2]
     exact .inr ⟨_,_,rfl,rfl,.inr ⟨rfl,rfl,j,by omega,fun k=>by have:=k.2; omega⟩⟩
    ·rw [bj q2,ba,cd (by omega) (by omega)]
     refine .inl ⟨_,rfl,by omega,by congr 1,fun i hi=>?_⟩;by_cases e:i=j
     ·subst e; exact ⟨by omega,by omega⟩
     ·exact dt i (by omega)
  ·rw [bj bG,ba]
   exact .inr ⟨_,_,rfl,rfl,.inl ⟨rfl,fun i hi=>dt i (by omega)⟩⟩
 rw [h1];rcases h2 with ⟨rfl,h2⟩ | ⟨rfl,h2,i,h3,h4⟩
 ·exact ⟨true,rfl,⟨fun _=>h2,fun _=>rfl⟩⟩
 ·exact ⟨x'.t4,rfl,⟨fun k=>by rw [h2] at k; simp at k,fun k=>absurd (k i h3) h4⟩⟩
theorem awU {P:Int->Prop} {x y z:Int} : (∀ i,i < (Sl.lit [x,y,z]).n->P ((Sl.lit [x,y,z]).get i))↔P x/\P y/\P z:=by
 constructor
 ·exact fun h=>⟨h 0 (show 0 < 3 by omega),h 1 (show 1 < 3 by omega),h 2 (show 2 < 3 by omega)⟩
 ·rintro ⟨h1,h2,h3⟩ i hi
  have hi:i < 3:=hi;rcases (by omega:i=0\/i=1\/i=2) with rfl | rfl | rfl
  ·exact h1
  ·exact h2
  ·exact h3
theorem adu (v:b.fO):b.wq v=some (if qS v 4096 then 0 else 20):=by
 unfold b.wq b.DC;obtain ⟨r,h1,h2⟩:=asv 4096 (Sl.lit [v.x,v.y,v.z]) (by omega) (by omega) (by show 3 < 1000000; omega);have h2:r=true↔qS v 4096:=h2.trans (awU (P:=fun n=>lN n 4096));rw [h1];cases r with
 | true=>rw [aY (h2.1 rfl)]; rfl
 | false=>rw [av fun k=>by have:=h2.2 k; simp at this]; rfl
theorem ap1 (m:b.bw):∃ r,b.Cw m=some r/\(r=true↔RowsIn m):=by
 unfold b.Cw RowsIn LM lN
 iterate 18 refine chain (fun h k=>by omega) fun _=>?_
 exact ⟨true,rfl,⟨fun _=>by omega,fun _=>rfl⟩⟩
theorem DU (m:b.dm):(∃ e,b.mU m=some e/\(e=0/\E6 m\/e=20/\¬ E6 m)):=by
 unfold b.mU b.DD b.DE E6;obtain ⟨r,h1,h2⟩:=ap1 m.m;rw [h1,adu];cases r with
 | false=>exact ⟨20,rfl,.inr ⟨rfl,fun k=>by have:=h2.2 k.1; simp at this⟩⟩
 | true=>
  by_cases h3:qS m.t 4096
  ·rw [aY h3]; exact ⟨0,rfl,.inl ⟨rfl,h2.1 rfl,h3⟩⟩
  ·rw [av h3]; exact ⟨20,rfl,.inr ⟨rfl,fun k=>h3 k.2⟩⟩
theorem aoA (a:Int) (ha : -4611686018427387904<=a/\a<=4611686018427387904):b.n5 a 256=some (a / 256,0):=by
 have h1:decide ((256:Int) < 1)=false:=rfl;have h2:decide ((256:Int)=0)=false:=rfl;have h3:=Int.mul_tdiv_add_tmod a 256;have h4:=Int.natAbs_tdiv_le_natAbs a 256;have h5:(Int.tmod a 256).natAbs < (256:Int).natAbs:=by rw [Int.natAbs_tmod]; exact Nat.mod_lt _ (by omega)
 unfold b.n5;simp only [h1,h2,ba,E8,ak];by_cases hr:Int.tmod a 256 < 0
 ·have e:a / 256=Int.tdiv a 256 - 1:=((Int.ediv_emod_unique (by omega:(0:Int) < 256)).2 ⟨(show (Int.tmod a 256+256)+256 * (Int.tdiv a 256 - 1)=a by omega),by omega,by omega⟩).1
  rw [aq hr,ak,cd (n:=Int.tdiv a 256) (by omega) (by omega),cd (by omega) (by omega),e]
 ·have e:a / 256=Int.tdiv a 256:=((Int.ediv_emod_unique (by omega:(0:Int) < 256)).2 ⟨(show Int.tmod a 256+256 * Int.tdiv a 256=a by omega),by omega,by omega⟩).1
  rw [bj hr,ba,cd (by omega) (by omega),e]
theorem ap2 (a:Int) (ha : -4611686018427387904<=a/\a<=4611686018427387904):b.yS a 256=some (a / 256):=by
 have h2:decide ((256:Int)=0)=false:=rfl;have h3:=Int.mul_tdiv_add_tmod a 256;have h4:=Int.natAbs_tdiv_le_natAbs a 256;have h5:(Int.tmod a 256).natAbs < (256:Int).natAbs:=by rw [Int.natAbs_tmod]; exact Nat.mod_lt _ (by omega)
 unfold b.yS;simp only [h2,E8,ak];rw [cd (n:=Int.tdiv a 256) (by omega) (by omega),cd (n:=Int.tdiv a 256 * 256) (by omega) (by omega)];by_cases hr:Int.tmod a 256 < 0
 ·have e:a / 256=Int.tdiv a 256 - 1:=((Int.ediv_emod_unique (by omega:(0:Int) < 256)).2 ⟨(show (Int.tmod a 256+256)+256 * (Int.tdiv a 256 - 1)=a by omega),by omega,by omega⟩).1
  rw [aq (show Int.tdiv a 256 * 256 > a by omega),ak,cd (by omega) (by omega),e]
 ·have e:a / 256=Int.tdiv a 256:=((Int.ediv_emod_unique (by omega:(0:Int) < 256)).2 ⟨(show Int.tmod a 256+256 * Int.tdiv a 256=a by omega),by omega,by omega⟩).1
  rw [bj (show ¬ Int.tdiv a 256 * 256 > a by omega),ba,e]
def dot (r:b.az) (x y z:Int):Int:=r.e0 * x+r.e1 * y+r.e2 * z
theorem amA {a b A B:Int} (h:lN a A) (k:lN b B) (hA:0<=A) (hB:0<=B):lN (a * b) (A * B):=by
 have h1:a.natAbs<=A.natAbs:=by have:=h.1; have:=h.2; omega
 have h2:b.natAbs<=B.natAbs:=by have:=k.1; have:=k.2; omega
 have h3:(a * b).natAbs<=A.natAbs * B.natAbs:=by rw [Int.natAbs_mul]; exact Nat.mul_le_mul h1 h2
 have h4:((A.natAbs * B.natAbs:Nat):Int)=A * B:=by rw [Int.natCast_mul,Int.natAbs_of_nonneg hA,Int.natAbs_of_nonneg hB]
 unfold lN;omega
theorem Xe {r:b.az} {x y z:Int} (h:LM r) (hx:lN x 4096) (hy:lN y 4096) (hz:lN z 4096):lN (r.e0 * x) 4194304/\lN (r.e1 * y) 4194304/\lN (r.e2 * z) 4194304:=
 ⟨amA h.1 hx (by omega) (by omega),amA h.2.1 hy (by omega) (by omega),amA h.2.2 hz (by omega) (by omega)⟩
theorem KO {r:b.az} {x y z:Int} (h:LM r) (hx:lN x 4096) (hy:lN y 4096) (hz:lN z 4096):lN (dot r x y z) 12582912:=by
 obtain ⟨h1,h2,h3⟩:=Xe h hx hy hz;unfold dot;unfold lN at *;omega
theorem O8 (m:b.bw) (v:b.az) (h:RowsIn m) (hx:lN v.e0 4096) (hy:lN v.e1 4096) (hz:lN v.e2 4096) :
  b.ua m v=some ⟨dot m.e0 v.e0 v.e1 v.e2 / 256,dot m.e1 v.e0 v.e1 v.e2 / 256,dot m.e2 v.e0 v.e1 v.e2 / 256⟩:=by
 have one:∀ r,LM r->b.n5 (aR ((aR ((aR ((0:Int)+(aR (r.e0 * v.e0))))+(aR (r.e1 * v.e1))))+(aR (r.e2 * v.e2)))) 256=some (dot r v.e0 v.e1 v.e2 / 256,0):=by
  intro r hr;obtain ⟨h1,h2,h3⟩:=Xe hr hx hy hz;have h4:=KO hr hx hy hz;unfold dot lN at *;rw [cd (n:=r.e0 * v.e0) (by omega) (by omega),cd (n:=r.e1 * v.e1) (by omega) (by omega),cd (n:=r.e2 * v.e2) (by omega) (by omega),cd (n:=0+r.e0 * v.e0) (by omega) (by omega),Int.zero_add,cd (n:=r.e0 * v.e0+r.e1 * v.e1) (by omega) (by omega),cd (by omega) (by omega)];exact aoA _ (by omega)
 unfold b.ua b.LH b.LI b.LJ;rw [one _ h.1,one _ h.2.1,one _ h.2.2];rfl
theorem xa (r:b.az) (v:b.fO) (h:LM r) (hv:qS v 4096):b.nz r v=some (dot r v.x v.y v.z / 256):=by
 obtain ⟨hx,hy,hz⟩:=hv;obtain ⟨h1,h2,h3⟩:=Xe h hx hy hz;have h4:=KO h hx hy hz;unfold b.nz b.Si;have:b.yS (aR ((aR ((aR (r.e0 * v.x))+(aR (r.e1 * v.y))))+(aR (r.e2 * v.z)))) 256=some (dot r v.x v.y v.z / 256):=by
  unfold dot lN at *;rw [cd (n:=r.e0 * v.x) (by omega) (by omega),cd (n:=r.e1 * v.y) (by omega) (by omega),cd (n:=r.e2 * v.z) (by omega) (by omega),cd (n:=r.e0 * v.x+r.e1 * v.y) (by omega) (by omega),cd (by omega) (by omega)];exact ap2 _ (by omega)
 rw [this];rfl
def GX (t:b.je):Prop:=0 < t.w/\t.w<=16/\0 < t.h/\t.h<=16/\((t.SY.n:Nat):Int)=aR (t.w * t.h)
theorem aiB (n:Int):∃ r,b.qO n=some r/\(r=true↔0 < n/\n<=16):=by
 unfold b.qO;by_cases h1:n > 0
 ·rw [aq h1]
  exact ⟨_,rfl,by rw [decide_eq_true_iff]; omega⟩
 ·rw [bj h1]
  exact ⟨false,rfl,⟨fun k=>by simp at k,fun k=>absurd k.1 h1⟩⟩
theorem asw (t:b.je):∃ e,b.rS t=some e/\(e=0/\GX t\/e=8/\¬ GX t):=by
 unfold b.rS b.Ca b.Cb GX;obtain ⟨r,h1,h2⟩:=aiB t.w;obtain ⟨q,h3,h4⟩:=aiB t.h;rw [h1,h3];simp only [fQ,ee,ak];cases r with
 | false=>exact ⟨8,rfl,.inr ⟨rfl,fun k=>by have:=h2.2 ⟨k.1,k.2.1⟩; simp at this⟩⟩
 | true=>
  have h2:=h2.1 rfl;cases q with
  | false=>exact ⟨8,rfl,.inr ⟨rfl,fun k=>by have:=h4.2 ⟨k.2.2.1,k.2.2.2.1⟩; simp at this⟩⟩
  | true=>
   have h4:=h4.1 rfl;by_cases h5:((t.SY.n:Nat):Int)=aR (t.w * t.h)
   ·rw [bne_eq_false_iff_eq.2 h5]
    exact ⟨0,rfl,.inl ⟨rfl,h2.1,h2.2,h4.1,h4.2,h5⟩⟩
   ·rw [bne_iff_ne.2 h5]
    exact ⟨8,rfl,.inr ⟨rfl,fun k=>h5 k.2.2.2.2⟩⟩
theorem ap3 (t:b.je):∃ r,b.EL t=some r/\(r=true↔GX t):=by
 have one:∀ {p:Prop} [Decidable p] {x:Option Bool} {Q:Prop},(¬ p->¬ Q)->(p->∃ r,x=some r/\(r=true↔Q))->∃ r,cond (decide p) x (some false)=some r/\(r=true↔Q):=by
  intro p _ x Q h1 h2;by_cases h:p
  ·rw [aq h]; exact h2 h
  ·rw [bj h]; exact ⟨false,rfl,⟨fun k=>by simp at k,fun k=>absurd k (h1 h)⟩⟩
 unfold b.EL GX;refine one (fun h k=>by omega) fun h1=>one (fun h k=>by omega) fun h2=>one (fun h k=>by omega) fun h3=>one (fun h k=>by omega) fun h4=>⟨_,rfl,?_⟩
 rw [ko];exact ⟨fun h=>⟨by omega,h2,by omega,h4,h⟩,fun h=>h.2.2.2.2⟩
def S3 (p:b.Prim):Prop:=p.kind<=2/\p.index.n<=200/\(p.kind=0->p.index.n % 3=0)/\(p.kind > 0->p.index.n=0\/3<=p.index.n)
def GY (k:Int) (j:Nat):Nat:=if k=0 then (j+2) / 3 else j
def Mp (p:b.Prim):Nat:=GY p.kind (p.index.n - 2)
theorem ap4 (p:b.Prim) (h0:0<=p.kind) (h2:p.kind<=2) (hn:p.index.n<=200) (z:Sl b.az) (t:Int) :
  ∃ x',goN b.kX (⟨z,t,⟨0,fun _=>⟨0,0,0⟩⟩,p.index,(0:Int),p⟩:b.cr) = .out (.exit 1) x'/\x'.out.n=Mp p:=by
 have AU:=fun nA=>jo (X:=b.cr) (step:=b.kX) (fun j x=>∃ o:Sl b.az,x=⟨z,t,o,p.index,(j:Int),p⟩/\o.n=GY p.kind j) (fun e x'=>e = .exit 1/\x'.out.n=Mp p) (p.index.n - 2) (by unfold iH; omega) nA (x:=⟨z,t,⟨0,fun _=>⟨0,0,0⟩⟩,p.index,(0:Int),p⟩) ⟨_,rfl,by unfold GY; split <;> rfl⟩;refine Exists.elim (AU ?_) fun e ⟨x,h1,he,h3⟩=>?_
 rotate_left
 ·subst he; exact ⟨x,h1,h3⟩
 rintro j _ hj ⟨o,rfl,ho⟩;have ho200:o.n<=200:=by rw [ho]; unfold GY; split <;> omega
 unfold b.kX
 dsimp only
 have e1:aR ((j:Int)+1)=((j+1:Nat):Int):=by rw [cd (by omega) (by omega)]; omega
 have e2:aR ((j:Int)+2)=((j+2:Nat):Int):=by rw [cd (by omega) (by omega)]; omega
 rw [e1,e2];by_cases bG:((j+2:Nat):Int) < (p.index.n:Int)
 ·have d1:decide ((0:Int)<=(j:Int))=true:=aq (by omega)
  have d2:decide ((j:Int) < (p.index.n:Int))=true:=aq (by omega);have d3:decide ((0:Int)<=((j+1:Nat):Int))=true:=aq (by omega);have d4:decide (((j+1:Nat):Int) < (p.index.n:Int))=true:=aq (by omega);have d5:decide ((0:Int)<=((j+2:Nat):Int))=true:=aq (by omega);have d6:decide (((j+2:Nat):Int) < (p.index.n:Int))=true:=aq bG;have d7:decide ((0:Int) < (p.index.n:Int))=true:=aq (by omega);have da:kC 24 o.n 1=true:=ur;rw [d1,d2,d3,d4,d5,d6,d7,da];simp only [cv,pR,dk,ak];have hjn:j < p.index.n - 2:=by omega
  rcases (by omega:p.kind=0\/p.kind=1\/p.kind=2) with hk | hk | hk
  ·rw [hk]
   by_cases h3:Int.tmod (j:Int) 3=0
   ·rw [ko.2 h3]
    refine .inl ⟨_,rfl,hjn,_,rfl,?_⟩;rw [Sl.KN,ho,hk];have:Int.tmod (j:Int) 3=((j % 3:Nat):Int):=rfl;unfold GY;rw [aY rfl,aY rfl];omega
   ·rw [beq_eq_false_iff_ne.2 h3]
    refine .inl ⟨_,rfl,hjn,_,rfl,?_⟩;rw [ho,hk];have:Int.tmod (j:Int) 3=((j % 3:Nat):Int):=rfl;unfold GY;rw [aY rfl,aY rfl];omega
  ·rw [hk]
   have hc:∀ j,GY 1 j=j:=fun j=>rfl;by_cases h3:Int.tmod (j:Int) 2=0
   ·rw [ko.2 h3]
    exact .inl ⟨_,rfl,hjn,_,rfl,by rw [Sl.KN,ho,hk,hc,hc]⟩
   ·rw [beq_eq_false_iff_ne.2 h3]
    exact .inl ⟨_,rfl,hjn,_,rfl,by rw [Sl.KN,ho,hk,hc,hc]⟩
  ·rw [hk]
   have hc:∀ j,GY 2 j=j:=fun j=>rfl;exact .inl ⟨_,rfl,hjn,_,rfl,by rw [Sl.KN,ho,hk,hc,hc]⟩
 ·rw [bj bG,ba]
  simp only [cv,ak];refine .inr ⟨_,_,rfl,rfl,rfl,?_⟩;show o.n=_;rw [ho];have:j=p.index.n - 2:=by omega
  subst this;rfl
theorem ap5 (p:b.Prim) (h0:0<=p.kind) (h2:p.kind<=2):∃ r,b.zV p=some r/\(r=true↔(p.kind=0->p.index.n % 3=0)/\(p.kind > 0->p.index.n=0\/3<=p.index.n)):=by
 unfold b.zV;have key:∀ {k:Int},(p.kind=k->k > 0)->∃ r,cond (((p.index.n:Nat):Int)==(0:Int)) (some true) (some (decide (((p.index.n:Nat):Int) >= (3:Int))))=some r/\(r=true↔(p.index.n=0\/3<=p.index.n)):=by
  intro k _;by_cases h:((p.index.n:Nat):Int)=0
  ·rw [ko.2 h]
   exact ⟨true,rfl,⟨fun _=>.inl (by omega),fun _=>rfl⟩⟩
  ·rw [beq_eq_false_iff_ne.2 h]
   exact ⟨_,rfl,by rw [decide_eq_true_iff]; omega⟩
 rcases (by omega:p.kind=0\/p.kind=1\/p.kind=2) with hk | hk | hk
 ·rw [hk]
  refine ⟨_,rfl,?_⟩;rw [ko];have:Int.tmod ((p.index.n:Nat):Int) 3=((p.index.n % 3:Nat):Int):=rfl;rw [this];exact ⟨fun h=>⟨fun _=>by omega,fun h=>absurd h (by omega)⟩,fun h=>by have:=h.1 rfl; omega⟩
 ·rw [hk]
  obtain ⟨r,h1,h3⟩:=key (k:=1) (fun _=>by omega);exact ⟨r,h1,h3.trans ⟨fun h=>⟨fun k=>absurd k (by omega),fun _=>h⟩,fun h=>h.2 (by omega)⟩⟩
 ·rw [hk]
  obtain ⟨r,h1,h3⟩:=key (k:=2) (fun _=>by omega);exact ⟨r,h1,h3.trans ⟨fun h=>⟨fun k=>absurd k (by omega),fun _=>h⟩,fun h=>h.2 (by omega)⟩⟩
theorem ap6 (p:b.Prim) (h0:0<=p.kind):∃ l e,b.zX p=some (l,e)/\(e=0/\S3 p/\l.n=Mp p\/e≠0/\¬ S3 p/\l.n=0):=by
 unfold b.zX;by_cases h1:p.kind > 2
 ·rw [aq h1]
  exact ⟨_,_,rfl,.inr ⟨by decide,fun k=>by have:=k.1; omega,rfl⟩⟩
 ·rw [bj h1,ba]
  by_cases h2:((p.index.n:Nat):Int) > 200
  ·rw [aq h2]
   exact ⟨_,_,rfl,.inr ⟨by decide,fun k=>by have:=k.2.1; omega,rfl⟩⟩
  ·rw [bj h2,ba]
   unfold b.Jh b.Ji;obtain ⟨r,h3,h4⟩:=ap5 p h0 (by omega);rw [h3];cases r with
   | false=>
    exact ⟨_,_,rfl,.inr ⟨by decide,fun k=>by have:=h4.2 k.2.2; simp at this,rfl⟩⟩
   | true=>
    obtain ⟨x',h5,h6⟩:=ap4 p h0 (by omega) (by omega) ⟨0,fun _=>⟨0,0,0⟩⟩ 0;rw [h5];exact ⟨_,_,rfl,.inl ⟨rfl,⟨by omega,by omega,h4.1 rfl⟩,h6⟩⟩
theorem aoB (p:b.Prim) (h3:p.index.n % 3=0) (hn:p.index.n<=200) (z:Sl b.az) (t:Int) (o:Sl b.az) (ho:o.n=0) :
  ∃ o' i',goN b.kW (⟨z,t,((p.index.n:Nat):Int),o,(0:Int),p⟩:b.jn) = .out (.exit 0) ⟨z,t,((p.index.n:Nat):Int),o',i',p⟩/\o'.n=p.index.n / 3:=by
 have AU:=fun nA=>jo (X:=b.jn) (step:=b.kW) (fun j x=>∃ o:Sl b.az,x=⟨z,t,((p.index.n:Nat):Int),o,((3 * j:Nat):Int),p⟩/\o.n=j) (fun e x'=>e = .exit 0/\∃ o' i',x' = ⟨z,t,((p.index.n:Nat):Int),o',i',p⟩/\o'.n=p.index.n / 3) (p.index.n / 3) (by unfold iH; omega) nA (x:=⟨z,t,((p.index.n:Nat):Int),o,(0:Int),p⟩) ⟨o,rfl,ho⟩;refine Exists.elim (AU ?_) fun e ⟨x,h1,he,o',i',hx,h2⟩=>?_
 rotate_left
 ·subst he hx; exact ⟨o',i',h1,h2⟩
 rintro j _ hj ⟨o,rfl,ho⟩;unfold b.kW
 dsimp only
 have e1:aR (((3 * j:Nat):Int)+1)=((3 * j+1:Nat):Int):=by rw [cd (by omega) (by omega)]; omega
 have e2:aR (((3 * j:Nat):Int)+2)=((3 * j+2:Nat):Int):=by rw [cd (by omega) (by omega)]; omega
 have e3:aR (((3 * j:Nat):Int)+3)=((3 * (j+1):Nat):Int):=by rw [cd (by omega) (by omega)]; omega
 rw [e1,e2,e3];by_cases bG:((3 * j:Nat):Int) < ((p.index.n:Nat):Int)
 ·have d1:decide ((0:Int)<=((3 * j:Nat):Int))=true:=aq (by omega)
  have d2:decide (((3 * j:Nat):Int) < ((p.index.n:Nat):Int))=true:=aq bG;have d3:decide ((0:Int)<=((3 * j+1:Nat):Int))=true:=aq (by omega);have d4:decide (((3 * j+1:Nat):Int) < ((p.index.n:Nat):Int))=true:=aq (by omega);have d5:decide ((0:Int)<=((3 * j+2:Nat):Int))=true:=aq (by omega);have d6:decide (((3 * j+2:Nat):Int) < ((p.index.n:Nat):Int))=true:=aq (by omega);have da:kC 24 o.n 1=true:=ur;rw [d1,d2,d3,d4,d5,d6,da];simp only [cv,pR,dk,ak];exact .inl ⟨_,rfl,by omega,_,rfl,by rw [Sl.KN,ho]⟩
 ·rw [bj bG,ba]
  simp only [cv,ak];exact .inr ⟨_,_,rfl,rfl,rfl,o,_,rfl,by omega⟩
theorem aac (p:b.Prim) (hq:p.index.n=0\/3<=p.index.n\/p.kind≠1) (hn:p.index.n<=200) (z:Sl b.az) (t:Int) (o:Sl b.az) (ho:o.n<=200) :
  ∃ o' i',goN b.jN (⟨z,t,((p.index.n:Nat):Int),o,(0:Int),p⟩:b.fM) = .out (.exit 2) ⟨z,t,((p.index.n:Nat):Int),o',i',p⟩/\o'.n=o.n+if p.kind=1 then p.index.n - 2 else 0:=by
 have AU:=fun nA=>jo (X:=b.fM) (step:=b.jN) (fun j x=>∃ o1:Sl b.az,x=⟨z,t,((p.index.n:Nat):Int),o1,(j:Int),p⟩/\o1.n=o.n+j/\(p.kind≠1->j=0)) (fun e x'=>e = .exit 2/\∃ o' i',x' = ⟨z,t,((p.index.n:Nat):Int),o',i',p⟩/\o'.n=o.n+if p.kind=1 then p.index.n - 2 else 0) (p.index.n - 2) (by unfold iH; omega) nA (x:=⟨z,t,((p.index.n:Nat):Int),o,(0:Int),p⟩) ⟨o,rfl,rfl,fun _=>rfl⟩;refine Exists.elim (AU ?_) fun e ⟨x,h1,he,o',i',hx,h2⟩=>?_
 rotate_left
 ·subst he hx; exact ⟨o',i',h1,h2⟩
 rintro j _ hj ⟨o1,rfl,Xz,D0⟩;unfold b.jN
 dsimp only
 have e1:aR ((j:Int)+1)=((j+1:Nat):Int):=by rw [cd (by omega) (by omega)]; omega
 have e2:aR ((j:Int)+2)=((j+2:Nat):Int):=by rw [cd (by omega) (by omega)]; omega
 have e3:aR (((p.index.n:Nat):Int) - 3)=((p.index.n:Nat):Int) - 3:=cd (by omega) (by omega);rw [e1,e2,e3];by_cases bG:(j:Int)<=((p.index.n:Nat):Int) - 3
 ·rw [aq bG]
  by_cases hk:p.kind=1
  ·have d1:decide ((0:Int)<=(j:Int))=true:=aq (by omega)
   have d2:decide ((j:Int) < ((p.index.n:Nat):Int))=true:=aq (by omega);have d3:decide ((0:Int)<=((j+1:Nat):Int))=true:=aq (by omega);have d4:decide (((j+1:Nat):Int) < ((p.index.n:Nat):Int))=true:=aq (by omega);have d5:decide ((0:Int)<=((j+2:Nat):Int))=true:=aq (by omega);have d6:decide (((j+2:Nat):Int) < ((p.index.n:Nat):Int))=true:=aq (by omega);have da:kC 24 o1.n 1=true:=ur;rw [ko.2 hk,d1,d2,d3,d4,d5,d6,da];simp only [cv,pR,dk,ak];cases hm:(Int.tmod (j:Int) 2==(1:Int)) with
   | true=>exact .inl ⟨_,rfl,by omega,_,rfl,by rw [Sl.KN,Xz]; omega,fun h=>absurd hk h⟩
   | false=>exact .inl ⟨_,rfl,by omega,_,rfl,by rw [Sl.KN,Xz]; omega,fun h=>absurd hk h⟩
  ·rw [beq_eq_false_iff_ne.2 hk]
   simp only [cv,ak,ba];exact .inr ⟨_,_,rfl,rfl,rfl,o1,_,rfl,by rw [Xz,D0 hk,av hk]⟩
 ·rw [bj bG,ba]
  simp only [cv,ak];refine .inr ⟨_,_,rfl,rfl,rfl,o1,_,rfl,?_⟩;by_cases hk:p.kind=1
  ·rw [Xz,aY hk]; omega
  ·rw [Xz,D0 hk,av hk]
theorem aiC (p:b.Prim) (hq:p.index.n=0\/3<=p.index.n\/p.kind≠2) (hn:p.index.n<=200) (z:Sl b.az) (t:Int) (o:Sl b.az) (ho:o.n<=200) :
  ∃ o' i',goN b.jO (⟨z,t,((p.index.n:Nat):Int),o,(1:Int),p⟩:b.gE) = .out (.exit 4) ⟨z,t,((p.index.n:Nat):Int),o',i',p⟩/\o'.n=o.n+if p.kind=2 then p.index.n - 2 else 0:=by
 have AU:=fun nA=>jo (X:=b.gE) (step:=b.jO) (fun j x=>∃ o1:Sl b.az,x=⟨z,t,((p.index.n:Nat):Int),o1,((j+1:Nat):Int),p⟩/\o1.n=o.n+j/\(p.kind≠2->j=0)) (fun e x'=>e = .exit 4/\∃ o' i',x' = ⟨z,t,((p.index.n:Nat):Int),o',i',p⟩/\o'.n=o.n+if p.kind=2 then p.index.n - 2 else 0) (p.index.n - 2) (by unfold iH; omega) nA (x:=⟨z,t,((p.index.n:Nat):Int),o,(1:Int),p⟩) ⟨o,rfl,rfl,fun _=>rfl⟩;refine Exists.elim (AU ?_) fun e ⟨x,h1,he,o',i',hx,h2⟩=>?_
 rotate_left
 ·subst he hx; exact ⟨o',i',h1,h2⟩
 rintro j _ hj ⟨o1,rfl,Xz,D0⟩;unfold b.jO
 dsimp only
 have e1:aR (((j+1:Nat):Int)+1)=((j+1+1:Nat):Int):=by rw [cd (by omega) (by omega)]; omega
 have e3:aR (((p.index.n:Nat):Int) - 2)=((p.index.n:Nat):Int) - 2:=cd (by omega) (by omega);rw [e1,e3];by_cases bG:((j+1:Nat):Int)<=((p.index.n:Nat):Int) - 2
 ·rw [aq bG]
  by_cases hk:p.kind=2
  ·have d1:decide ((0:Int) < ((p.index.n:Nat):Int))=true:=aq (by omega)
   have d2:decide ((0:Int)<=((j+1:Nat):Int))=true:=aq (by omega);have d3:decide (((j+1:Nat):Int) < ((p.index.n:Nat):Int))=true:=aq (by omega);have d4:decide ((0:Int)<=((j+1+1:Nat):Int))=true:=aq (by omega);have d5:decide (((j+1+1:Nat):Int) < ((p.index.n:Nat):Int))=true:=aq (by omega);have da:kC 24 o1.n 1=true:=ur;rw [ko.2 hk,d1,d2,d3,d4,d5,da];simp only [cv,pR,dk,ak];exact .inl ⟨_,rfl,by omega,_,rfl,by rw [Sl.KN,Xz]; omega,fun h=>absurd hk h⟩
  ·rw [beq_eq_false_iff_ne.2 hk]
   simp only [cv,ak,ba];exact .inr ⟨_,_,rfl,rfl,rfl,o1,_,rfl,by rw [Xz,D0 hk,av hk]⟩
 ·rw [bj bG,ba]
  simp only [cv,ak];refine .inr ⟨_,_,rfl,rfl,rfl,o1,_,rfl,?_⟩;by_cases hk:p.kind=2
  ·rw [Xz,aY hk]; omega
  ·rw [Xz,D0 hk,av hk]
theorem aoC (p:b.Prim) (h0:0<=p.kind):∃ l e,b.Cs p=some (l,e)/\(e=0/\S3 p/\l.n=Mp p\/e≠0/\¬ S3 p/\l.n=0):=by
 unfold b.Cs;by_cases h1:p.kind > 2
 ·rw [aq h1]
  exact ⟨_,_,rfl,.inr ⟨by decide,fun k=>by have:=k.1; omega,rfl⟩⟩
 rw [bj h1,ba];by_cases h2:((p.index.n:Nat):Int) > 200
 ·rw [aq h2]
  exact ⟨_,_,rfl,.inr ⟨by decide,fun k=>by have:=k.2.1; omega,rfl⟩⟩
 rw [bj h2,ba];have hm:Int.tmod ((p.index.n:Nat):Int) 3=((p.index.n % 3:Nat):Int):=rfl;unfold b.pI b.gL b.pH b.gK b.gJ;rcases (by omega:p.kind=0\/p.kind > 0) with hk | hk
 ·rw [ko.2 hk,bj (show ¬ p.kind > 0 by omega)]
  simp only [ak,ba];by_cases h3:p.index.n % 3=0
  ·rw [hm,h3]
   obtain ⟨o1,i1,q1,q2⟩:=aoB p h3 (by omega) ⟨0,fun _=>⟨0,0,0⟩⟩ 0 ⟨0,fun _=>⟨0,0,0⟩⟩ rfl;obtain ⟨o2,i2,q3,q4⟩:=aac p (.inr (.inr (by omega))) (by omega) ⟨0,fun _=>⟨0,0,0⟩⟩ 0 o1 (by omega);rw [av (by omega)] at q4;obtain ⟨o3,i3,q5,q6⟩:=aiC p (.inr (.inr (by omega))) (by omega) ⟨0,fun _=>⟨0,0,0⟩⟩ 0 o2 (by omega);rw [av (by omega)] at q6;rw [q1];simp only [aW.lB,aW.ln,cv];rw [q3];simp only [aW.lB,aW.ln,cv];rw [q5];refine ⟨_,_,rfl,.inl ⟨rfl,⟨by omega,by omega,fun _=>h3,fun k=>absurd k (by omega)⟩,?_⟩⟩;show o3.n=Mp p;unfold Mp GY;rw [aY hk];omega
  ·have de:(Int.tmod ((p.index.n:Nat):Int) 3 != (0:Int))=true:=by rw [hm,bne_iff_ne]; omega
   rw [de];exact ⟨_,_,rfl,.inr ⟨by decide,fun k=>h3 (k.2.2.1 hk),rfl⟩⟩
 ·rw [beq_eq_false_iff_ne.2 (show p.kind≠0 by omega),aq hk]
  simp only [ak,ba];by_cases h3:((p.index.n:Nat):Int)=1
  ·rw [ko.2 h3]
   exact ⟨_,_,rfl,.inr ⟨by decide,fun k=>by have:=k.2.2.2 hk; omega,rfl⟩⟩
  rw [beq_eq_false_iff_ne.2 h3];by_cases h4:((p.index.n:Nat):Int)=2
  ·rw [ko.2 h4]
   exact ⟨_,_,rfl,.inr ⟨by decide,fun k=>by have:=k.2.2.2 hk; omega,rfl⟩⟩
  rw [beq_eq_false_iff_ne.2 h4];obtain ⟨o2,i2,q3,q4⟩:=aac p (by omega) (by omega) ⟨0,fun _=>⟨0,0,0⟩⟩ 0 ⟨0,fun _=>⟨0,0,0⟩⟩ (by show 0<=200; omega);obtain ⟨o3,i3,q5,q6⟩:=aiC p (by omega) (by omega) ⟨0,fun _=>⟨0,0,0⟩⟩ 0 o2 (by rw [q4]; show 0+_<=200; split <;> omega);rw [q3];simp only [ba,aW.lB,aW.ln,cv];rw [q5];refine ⟨_,_,rfl,.inl ⟨rfl,⟨by omega,by omega,fun k=>absurd k (by omega),fun _=>by omega⟩,?_⟩⟩;show o3.n=Mp p;rw [q6,q4];unfold Mp GY;rw [av (show p.kind≠0 by omega)];show 0+_+_=_;split <;> split <;> omega
def Sm (m:b.iR):Nat->Nat
 | 0=>0
 | k+1=>Sm m k+Mp (m.cG.get k)
theorem asx (m:b.iR) {i j:Nat} (h:i<=j):Sm m i<=Sm m j:=by
 induction j with
 | zero=>have:i=0:=by omega
         subst this; exact aU _
 | succ j ih=>
  by_cases e:i=j+1
  ·subst e; exact aU _
  ·have:=ih (by omega)
   show Sm m i<=Sm m j+_;omega
def HS (m:b.iR) (k:Nat):Prop:=S3 (m.cG.get k)/\∀ i,i < (m.cG.get k).index.n->0<=(m.cG.get k).index.get i/\(m.cG.get k).index.get i < (m.gh.n:Int)
def S4 (m:b.iR):Prop:=(∀ k,k < m.cG.n->HS m k)/\Sm m m.cG.n<=64
def Bi (m:b.iR):Prop:=∀ k,k < m.cG.n->0<=(m.cG.get k).kind
theorem aoD (z o:Sl b.az) (t:Bool) (q:Sl b.Prim) (a c:Int) (l:Sl Int) (hl:l.n<=1000) (m:b.iR) :
  (∃ k,goN b.fV (⟨z,t,o,q,a,c,l,((l.n:Nat):Int),(0:Int),m⟩:b.eC) = .out (.exit 2) ⟨z,t,o,q,a,c,l,((l.n:Nat):Int),k,m⟩/\∀ i,i < l.n->0<=l.get i/\l.get i < (m.gh.n:Int))\/
  ∃ x',goN b.fV (⟨z,t,o,q,a,c,l,((l.n:Nat):Int),(0:Int),m⟩:b.eC) = .out .ret x'/\x'.t3=false/\∃ i,i < l.n/\¬ (0<=l.get i/\l.get i < (m.gh.n:Int)):=by
 have key:=jF (step:=b.fV) l.n (by unfold iH; omega) (fun j=>⟨z,t,o,q,a,c,l,((l.n:Nat):Int),(j:Int),m⟩) (fun i=>0<=l.get i/\l.get i < (m.gh.n:Int)) (e0:=.exit 2) (er:=.ret) rfl rfl (fun x'=>x'.t3=false) (xe:=⟨z,t,o,q,a,c,l,((l.n:Nat):Int),((l.n:Nat):Int),m⟩) (fun j hj=>by
  have e1:aR ((j:Int)+1)=((j+1:Nat):Int):=by rw [cd (by omega) (by omega)]; omega
  have d1:decide ((j:Int) < ((l.n:Nat):Int))=true:=aq (by omega);have d2:decide ((0:Int)<=(j:Int))=true:=aq (by omega);have ej:Int.toNat (j:Int)=j:=rfl;unfold b.fV
  dsimp only
  rw [d1,d2,ej,e1];simp only [cv,dk,ak];constructor
  ·rintro ⟨h1,h2⟩
   rw [bj (show ¬ l.get j < 0 by omega),bj (show ¬ l.get j >= (m.gh.n:Int) by omega)];rfl
  ·intro h
   by_cases h1:l.get j < 0
   ·rw [aq h1]
    exact ⟨_,rfl,rfl⟩
   ·rw [bj h1,aq (show l.get j >= (m.gh.n:Int) by omega)]
    exact ⟨_,rfl,rfl⟩) (by
  unfold b.fV
  dsimp only
  rw [bj (Int.lt_irrefl _)];simp only [cv,ak,ba])
 rcases key with ⟨h1,h2⟩ | ⟨x',h1,h2,h3⟩
 ·exact .inl ⟨_,h1,h2⟩
 ·exact .inr ⟨x',h1,h2,h3⟩
theorem ap7 (m:b.iR) (hk:Bi m) (hp:m.cG.n < 1000000):∃ l r,b.z6 m=some (l,r)/\(r=true↔S4 m):=by
 unfold b.z6 b.vv;obtain ⟨e,x',h1,h2⟩:∃ e x',goN b.nh (⟨⟨0,fun _=>⟨0,0,0⟩⟩,false,⟨0,fun _=>⟨0,0,0⟩⟩,m.cG,((m.cG.n:Nat):Int),(0:Int),m⟩:b.fh) = .out e x'/\((e = .exit 0/\S4 m)\/(e = .ret/\x'.t3=false/\¬ S4 m)):=by
  refine jo (X:=b.fh) (fun j x=>∃ o:Sl b.az,x=⟨⟨0,fun _=>⟨0,0,0⟩⟩,false,o,m.cG,((m.cG.n:Nat):Int),(j:Int),m⟩/\o.n=Sm m j/\Sm m j<=64/\∀ k,k < j->HS m k) (fun e x'=>(e = .exit 0/\S4 m)\/(e = .ret/\x'.t3=false/\¬ S4 m)) m.cG.n (by unfold iH; omega) ?_ ⟨_,rfl,rfl,by show 0<=64; omega,fun k hk=>absurd hk (o6 _)⟩;rintro j _ hj ⟨o,rfl,ho,ht,mi⟩;unfold b.nh b.cI b.fJ
  dsimp only
  by_cases bG:(j:Int) < ((m.cG.n:Nat):Int)
  ·have d1:decide ((j:Int) < ((m.cG.n:Nat):Int))=true:=aq bG
   have d2:decide ((0:Int)<=(j:Int))=true:=aq (by omega);have ej:Int.toNat (j:Int)=j:=rfl;obtain ⟨l,e,h1,h2⟩:=ap6 (m.cG.get j) (hk j (by omega));have hln:l.n<=200:=by
    rcases h2 with ⟨_,q,h⟩ | ⟨_,_,h⟩
    ·rw [h]; have:=q.2.1; unfold Mp GY; split <;> omega
    ·omega
   have da:kC 24 o.n l.n=true:=ur;rw [d1,d2,ej,h1];simp only [fQ,ee,ak,dk,cv,da];rcases h2 with ⟨rfl,hpo,hn⟩ | ⟨he,hpo,hn⟩
   ·have de:((0:Int) != 0)=false:=rfl
    rw [de,ba];have hs:Sm m (j+1)=o.n+l.n:=by show Sm m j+Mp _=_; rw [ho,hn]
    by_cases h64:(((o.n+l.n:Nat)):Int) > 64
    ·rw [aq h64]
     exact .inr ⟨_,_,rfl,rfl,.inr ⟨rfl,rfl,fun k=>by have:=asx m (show j+1<=m.cG.n by omega); have:=k.2; omega⟩⟩
    ·rw [bj h64,ba]
     have e1:aR ((j:Int)+1)=((j+1:Nat):Int):=by rw [cd (by omega) (by omega)]; omega
     rcases aoD ⟨0,fun _=>⟨0,0,0⟩⟩ (o.join l) false m.cG ((m.cG.n:Nat):Int) (j:Int) (m.cG.get j).index (by have:=hpo.2.1; omega) m with ⟨k,q1,q2⟩ | ⟨x',q1,q2,i,q3,q4⟩
     ·rw [q1]
      simp only [aW.lB,aW.ln,cv,ak];rw [e1];refine .inl ⟨_,rfl,by omega,o.join l,rfl,by rw [hs]; rfl,by omega,fun k' yo=>?_⟩;by_cases e:k' = j
      ·subst e; exact ⟨hpo,q2⟩
      ·exact mi k' (by omega)
     ·rw [q1]
      simp only [aW.lB,aW.ln,cv,ak];exact .inr ⟨_,_,rfl,rfl,.inr ⟨rfl,q2,fun k=>q4 ((k.1 j (by omega)).2 i q3)⟩⟩
   ·have de:(e != (0:Int))=true:=by rw [bne_iff_ne]; exact he
    rw [de];exact .inr ⟨_,_,rfl,rfl,.inr ⟨rfl,rfl,fun k=>hpo (k.1 j (by omega)).1⟩⟩
  ·rw [bj bG,ba]
   simp only [cv,ak];have:j=m.cG.n:=by omega
   subst this;exact .inr ⟨_,_,rfl,rfl,.inl ⟨rfl,mi,ht⟩⟩
 rw [h1];rcases h2 with ⟨rfl,h2⟩ | ⟨rfl,h2,h3⟩
 ·exact ⟨_,true,rfl,⟨fun _=>h2,fun _=>rfl⟩⟩
 ·exact ⟨_,x'.t3,rfl,⟨fun k=>by rw [h2] at k; simp at k,fun k=>absurd k h3⟩⟩
theorem H7 (n low high:Int):b.vl n low high=some (decide (low<=n/\n<=high)):=by
 refine bin ?_;unfold b.vl;by_cases h:n >= low
 ·rw [aq h]
  exact ⟨_,rfl,by rw [decide_eq_true_iff]; omega⟩
 ·rw [bj h]
  exact ⟨false,rfl,⟨fun k=>by simp at k,fun k=>absurd k.1 h⟩⟩
theorem amB (z o:Sl b.az) (t:Bool) (i:Nat) (l:Sl b.az) (m:b.iR) (hi:i < m.cG.n) (hl:(m.cG.get i).index.n<=1000) (hv:m.gh.n<=1000) :
  (∃ k,goN b.ja (⟨z,t,o,(i:Int),l,(0:Int),m⟩:b.gF) = .out (.exit 2) ⟨z,t,o,(i:Int),l,k,m⟩/\∀ k,k < (m.cG.get i).index.n->0<=(m.cG.get i).index.get k/\(m.cG.get i).index.get k < (m.gh.n:Int))\/
  ∃ x',goN b.ja (⟨z,t,o,(i:Int),l,(0:Int),m⟩:b.gF) = .out .ret x'/\x'.t3=false/\∃ k,k < (m.cG.get i).index.n/\¬ (0<=(m.cG.get i).index.get k/\(m.cG.get i).index.get k < (m.gh.n:Int)):=by
 have g1:decide ((0:Int)<=(i:Int))=true:=aq (by omega);have g2:decide ((i:Int) < ((m.cG.n:Nat):Int))=true:=aq (by omega);have ei:Int.toNat (i:Int)=i:=rfl;have ev:aR (((m.gh.n:Nat):Int) - 1)=((m.gh.n:Nat):Int) - 1:=cd (by omega) (by omega);have key:=jF (step:=b.ja) (m.cG.get i).index.n (by unfold iH; omega) (fun j=>⟨z,t,o,(i:Int),l,(j:Int),m⟩) (fun k=>0<=(m.cG.get i).index.get k/\(m.cG.get i).index.get k < (m.gh.n:Int)) (e0:=.exit 2) (er:=.ret) rfl rfl (fun x'=>x'.t3=false) (xe:=⟨z,t,o,(i:Int),l,(((m.cG.get i).index.n:Nat):Int),m⟩) (fun j hj=>by
  have e1:aR ((j:Int)+1)=((j+1:Nat):Int):=by rw [cd (by omega) (by omega)]; omega
  have d1:decide ((j:Int) < (((m.cG.get i).index.n:Nat):Int))=true:=aq (by omega);have d2:decide ((0:Int)<=(j:Int))=true:=aq (by omega);have ej:Int.toNat (j:Int)=j:=rfl;unfold b.ja b.B5
  dsimp only
  rw [g1,g2,ei,d1,d2,ej,e1,ev,H7];simp only [cv,dk,ak,fQ,ee];constructor
  ·rintro ⟨h1,h2⟩
   rw [aq (show 0<=(m.cG.get i).index.get j/\(m.cG.get i).index.get j<=((m.gh.n:Nat):Int) - 1 by omega)];rfl
  ·intro h
   rw [bj (show ¬ (0<=(m.cG.get i).index.get j/\(m.cG.get i).index.get j<=((m.gh.n:Nat):Int) - 1) by omega)];exact ⟨_,rfl,rfl⟩) (by
  unfold b.ja
  dsimp only
  rw [g1,g2,ei,bj (Int.lt_irrefl _)];simp only [cv,ak,ba,dk])
 rcases key with ⟨h1,h2⟩ | ⟨x',h1,h2,h3⟩
 ·exact .inl ⟨_,h1,h2⟩
 ·exact .inr ⟨x',h1,h2,h3⟩
theorem auK {p:b.Prim} (h:S3 p):Mp p<=200:=by
 have:=h.2.1;unfold Mp GY;split <;> omega
theorem ap8 (m:b.iR) (hk:Bi m) (hp:m.cG.n<=16) (hv:m.gh.n<=1000):∃ l r,b.EE m=some (l,r)/\(r=true/\(∀ k,k < m.cG.n->HS m k)/\l.n=Sm m m.cG.n\/r=false/\¬ ∀ k,k < m.cG.n->HS m k):=by
 unfold b.EE b.zO;obtain ⟨e,x',h1,h2⟩:∃ e x',goN b.pA (⟨⟨0,fun _=>⟨0,0,0⟩⟩,false,⟨0,fun _=>⟨0,0,0⟩⟩,(0:Int),m⟩:b.iZ) = .out e x'/\((e = .exit 0/\(∀ k,k < m.cG.n->HS m k)/\x'.out.n=Sm m m.cG.n)\/(e = .ret/\x'.t3=false/\¬ ∀ k,k < m.cG.n->HS m k)):=by
  refine jo (X:=b.iZ) (fun j x=>∃ o:Sl b.az,x=⟨⟨0,fun _=>⟨0,0,0⟩⟩,false,o,(j:Int),m⟩/\o.n=Sm m j/\Sm m j<=200 * j/\∀ k,k < j->HS m k) (fun e x'=>(e = .exit 0/\(∀ k,k < m.cG.n->HS m k)/\x'.out.n=Sm m m.cG.n)\/(e = .ret/\x'.t3=false/\¬ ∀ k,k < m.cG.n->HS m k)) m.cG.n (by unfold iH; omega) ?_ ⟨_,rfl,rfl,aU _,fun k hk=>absurd hk (o6 _)⟩;rintro j _ hj ⟨o,rfl,ho,ht,mi⟩;unfold b.pA b.cQ b.Bu
  dsimp only
  by_cases bG:(j:Int) < ((m.cG.n:Nat):Int)
  ·have d1:decide ((j:Int) < ((m.cG.n:Nat):Int))=true:=aq bG
   have d2:decide ((0:Int)<=(j:Int))=true:=aq (by omega);have ej:Int.toNat (j:Int)=j:=rfl;obtain ⟨l,e,h1,h2⟩:=aoC (m.cG.get j) (hk j (by omega));rw [d1,d2,ej,h1];simp only [fQ,ee,ak,dk,cv];rcases h2 with ⟨rfl,hpo,hn⟩ | ⟨he,hpo,hn⟩
   ·have de:((0:Int) != 0)=false:=rfl
    rw [de,ba];have hc:=auK hpo;have hs:Sm m (j+1)=o.n+l.n:=by show Sm m j+Mp _=_; rw [ho,hn]
    have e1:aR ((j:Int)+1)=((j+1:Nat):Int):=by rw [cd (by omega) (by omega)]; omega
    have da:kC 24 o.n l.n=true:=ur;rcases amB ⟨0,fun _=>⟨0,0,0⟩⟩ o false j l m (by omega) (by have:=hpo.2.1; omega) hv with ⟨k,q1,q2⟩ | ⟨x',q1,q2,i,q3,q4⟩
    ·rw [q1]
     simp only [aW.lB,aW.ln,cv,ak];rw [e1,da];refine .inl ⟨_,rfl,by omega,o.join l,rfl,by rw [hs]; rfl,by omega,fun k' yo=>?_⟩;by_cases e:k' = j
     ·subst e; exact ⟨hpo,q2⟩
     ·exact mi k' (by omega)
    ·rw [q1]
     simp only [aW.lB,aW.ln,cv,ak];exact .inr ⟨_,_,rfl,rfl,.inr ⟨rfl,q2,fun k=>q4 ((k j (by omega)).2 i q3)⟩⟩
   ·have de:(e != (0:Int))=true:=by rw [bne_iff_ne]; exact he
    rw [de];exact .inr ⟨_,_,rfl,rfl,.inr ⟨rfl,rfl,fun k=>hpo (k j (by omega)).1⟩⟩
  ·rw [bj bG,ba]
   simp only [cv,ak];have:j=m.cG.n:=by omega
   subst this;exact .inr ⟨_,_,rfl,rfl,.inl ⟨rfl,mi,ho⟩⟩
 rw [h1];rcases h2 with ⟨rfl,h2,h3⟩ | ⟨rfl,h2,h3⟩
 ·exact ⟨_,true,rfl,.inl ⟨rfl,h2,h3⟩⟩
 ·exact ⟨_,x'.t3,rfl,.inr ⟨h2,h3⟩⟩
def aad (q:b.rp):Prop:=0<=q.e0/\q.e0<=255/\0<=q.e1/\q.e1<=255
def abW (m:b.iR):Prop:=m.gh.n<=64/\m.uV.n<=64/\m.cG.n<=16
def DV (m:b.iR):Prop:=abW m/\m.uV.n=m.gh.n/\(∀ i,i < m.gh.n->qS (m.gh.get i) 1024)/\(∀ i,i < m.uV.n->aad (m.uV.get i))/\S4 m
theorem aoE (s:Sl b.fO) (hs:s.n<=64):(∃ x',goN b.bS (⟨s,(0:Int),((s.n:Nat):Int),(0:Int)⟩:b.aO) = .out (.exit 0) x'/\∀ i,i < s.n->qS (s.get i) 1024)\/
  ∃ x',goN b.bS (⟨s,(0:Int),((s.n:Nat):Int),(0:Int)⟩:b.aO) = .out .ret x'/\x'.t4 >= 0/\∃ i,i < s.n/\¬ qS (s.get i) 1024:=by
 have key:=jF (step:=b.bS) s.n (by unfold iH; omega) (fun j=>⟨s,(0:Int),((s.n:Nat):Int),(j:Int)⟩) (fun k=>qS (s.get k) 1024) (e0:=.exit 0) (er:=.ret) rfl rfl (fun x'=>x'.t4 >= 0) (xe:=⟨s,(0:Int),((s.n:Nat):Int),((s.n:Nat):Int)⟩) (fun j hj=>by
  have e1:aR ((j:Int)+1)=((j+1:Nat):Int):=by rw [cd (by omega) (by omega)]; omega
  have d1:decide ((j:Int) < ((s.n:Nat):Int))=true:=aq (by omega);have d2:decide ((0:Int)<=(j:Int))=true:=aq (by omega);have ej:Int.toNat (j:Int)=j:=rfl;unfold b.bS qS lN
  dsimp only
  rw [d1,d2,ej,e1];simp only [dk,ak];generalize s.get j=v;have D0:(j:Int) >= 0:=by omega
  by_cases h1:v.x >= -1024
  ·by_cases h2:v.x<=1024
   ·by_cases h3:v.y >= -1024
    ·by_cases h4:v.y<=1024
     ·by_cases h5:v.z >= -1024
      ·by_cases h6:v.z<=1024
       ·rw [aq h1,aq h2,aq h3,aq h4,aq h5,aq h6]
        exact ⟨fun _=>rfl,fun h=>absurd ⟨⟨h1,h2⟩,⟨h3,h4⟩,h5,h6⟩ h⟩
       ·rw [aq h1,aq h2,aq h3,aq h4,aq h5,bj h6]
        exact ⟨fun h=>absurd h.2.2.2 h6,fun h=>⟨_,rfl,D0⟩⟩
      ·rw [aq h1,aq h2,aq h3,aq h4,bj h5]
       exact ⟨fun h=>absurd h.2.2.1 h5,fun h=>⟨_,rfl,D0⟩⟩
     ·rw [aq h1,aq h2,aq h3,bj h4]
      exact ⟨fun h=>absurd h.2.1.2 h4,fun h=>⟨_,rfl,D0⟩⟩
    ·rw [aq h1,aq h2,bj h3]
     exact ⟨fun h=>absurd h.2.1.1 h3,fun h=>⟨_,rfl,D0⟩⟩
   ·rw [aq h1,bj h2]
    exact ⟨fun h=>absurd h.1.2 h2,fun h=>⟨_,rfl,D0⟩⟩
  ·rw [bj h1]
   exact ⟨fun h=>absurd h.1.1 h1,fun h=>⟨_,rfl,D0⟩⟩) (by
  unfold b.bS
  dsimp only
  rw [bj (Int.lt_irrefl _)];rfl)
 rcases key with ⟨h1,h2⟩ | ⟨x',h1,h2,h3⟩
 ·exact .inl ⟨_,h1,h2⟩
 ·exact .inr ⟨x',h1,h2,h3⟩
theorem asy (s:Sl b.rp) (hs:s.n<=64):(∃ x',goN b.bT (⟨s,(0:Int),((s.n:Nat):Int),(0:Int)⟩:b.aZ) = .out (.exit 0) x'/\∀ i,i < s.n->aad (s.get i))\/
  ∃ x',goN b.bT (⟨s,(0:Int),((s.n:Nat):Int),(0:Int)⟩:b.aZ) = .out .ret x'/\x'.t4 >= 0/\∃ i,i < s.n/\¬ aad (s.get i):=by
 have key:=jF (step:=b.bT) s.n (by unfold iH; omega) (fun j=>⟨s,(0:Int),((s.n:Nat):Int),(j:Int)⟩) (fun k=>aad (s.get k)) (e0:=.exit 0) (er:=.ret) rfl rfl (fun x'=>x'.t4 >= 0) (xe:=⟨s,(0:Int),((s.n:Nat):Int),((s.n:Nat):Int)⟩) (fun j hj=>by
  have e1:aR ((j:Int)+1)=((j+1:Nat):Int):=by rw [cd (by omega) (by omega)]; omega
  have d1:decide ((j:Int) < ((s.n:Nat):Int))=true:=aq (by omega);have d2:decide ((0:Int)<=(j:Int))=true:=aq (by omega);have ej:Int.toNat (j:Int)=j:=rfl;unfold b.bT aad
  dsimp only
  rw [d1,d2,ej,e1];simp only [dk,ak];generalize s.get j=v;have D0:(j:Int) >= 0:=by omega
  by_cases h1:v.e0 < 0
  ·rw [aq h1]
   exact ⟨fun h=>absurd h.1 (by omega),fun h=>⟨_,rfl,D0⟩⟩
  ·by_cases h2:v.e0 > 255
   ·rw [bj h1,aq h2]
    exact ⟨fun h=>absurd h.2.1 (by omega),fun h=>⟨_,rfl,D0⟩⟩
   ·by_cases h3:v.e1 < 0
    ·rw [bj h1,bj h2,aq h3]
     exact ⟨fun h=>absurd h.2.2.1 (by omega),fun h=>⟨_,rfl,D0⟩⟩
    ·by_cases h4:v.e1 > 255
     ·rw [bj h1,bj h2,bj h3,aq h4]
      exact ⟨fun h=>absurd h.2.2.2 (by omega),fun h=>⟨_,rfl,D0⟩⟩
     ·rw [bj h1,bj h2,bj h3,bj h4]
      exact ⟨fun _=>rfl,fun h=>absurd ⟨by omega,by omega,by omega,by omega⟩ h⟩) (by
  unfold b.bT
  dsimp only
  rw [bj (Int.lt_irrefl _)];rfl)
 rcases key with ⟨h1,h2⟩ | ⟨x',h1,h2,h3⟩
 ·exact .inl ⟨_,h1,h2⟩
 ·exact .inr ⟨x',h1,h2,h3⟩
open Classical in
noncomputable def Gj (m:b.iR):Int:=if abW m then (if DV m then 0 else 40) else 4
theorem ap9 (m:b.iR) (hk:Bi m):b.xu m=some (Gj m):=by
 unfold b.xu Gj;by_cases h1:((m.gh.n:Nat):Int) > 64
 ·rw [aq h1,av fun k=>by have:=k.1; omega]; rfl
 rw [bj h1];by_cases h2:((m.uV.n:Nat):Int) > 64
 ·rw [aq h2,av fun k=>by have:=k.2.1; omega]; rfl
 rw [bj h2];by_cases h3:((m.cG.n:Nat):Int) > 16
 ·rw [aq h3,av fun k=>by have:=k.2.2; omega]; rfl
 rw [bj h3];have hf:abW m:=⟨by omega,by omega,by omega⟩
 rw [aY hf];simp only [ba];by_cases h4:((m.uV.n:Nat):Int)=((m.gh.n:Nat):Int)
 ·rw [bne_eq_false_iff_eq.2 h4,ba]
  unfold b.Bx b.qN b.mT;rcases aoE m.gh hf.1 with ⟨x',q1,q2⟩ | ⟨x',q1,q2,i,q3,q4⟩
  ·rw [q1]
   rcases asy m.uV hf.2.1 with ⟨y',r1,r2⟩ | ⟨y',r1,r2,i,r3,r4⟩
   ·rw [r1]
    obtain ⟨l,r,s1,s2⟩:=ap7 m hk (by have:=hf.2.2; omega);rw [s1];cases r with
    | true=>rw [aY ⟨hf,by omega,q2,r2,s2.1 rfl⟩]; rfl
    | false=>rw [av fun k=>by have:=s2.2 k.2.2.2.2; simp at this]; rfl
   ·rw [r1,av fun k=>r4 (k.2.2.2.1 i r3)]
    simp only [aW.lB,aW.ln,r2,decide_true];rfl
  ·rw [q1,av fun k=>q4 (k.2.2.1 i q3)]
   simp only [aW.lB,aW.ln,q2,decide_true];rfl
 ·rw [bne_iff_ne.2 h4,av fun k=>h4 (by rw [k.2.1])]; rfl
theorem aqa (m:b.iR) (hv:m.gh.n<=64) (hu:m.uV.n=m.gh.n):(∃ k,goN b.kS (⟨false,(0:Int),m⟩:b.eD) = .out (.exit 0) ⟨false,k,m⟩/\∀ i,i < m.gh.n->qS (m.gh.get i) 1024/\aad (m.uV.get i))\/
  ∃ x',goN b.kS (⟨false,(0:Int),m⟩:b.eD) = .out .ret x'/\x'.t2=false/\∃ i,i < m.gh.n/\¬ (qS (m.gh.get i) 1024/\aad (m.uV.get i)):=by
 have key:=jF (step:=b.kS) m.gh.n (by unfold iH; omega) (fun j=>⟨false,(j:Int),m⟩) (fun i=>qS (m.gh.get i) 1024/\aad (m.uV.get i)) (e0:=.exit 0) (er:=.ret) rfl rfl (fun x'=>x'.t2=false) (xe:=⟨false,((m.gh.n:Nat):Int),m⟩) (fun j hj=>by
  have e1:aR ((j:Int)+1)=((j+1:Nat):Int):=by rw [cd (by omega) (by omega)]; omega
  have d1:decide ((j:Int) < ((m.gh.n:Nat):Int))=true:=aq (by omega);have d2:decide ((0:Int)<=(j:Int))=true:=aq (by omega);have d3:decide ((j:Int) < ((m.uV.n:Nat):Int))=true:=aq (by omega);have ej:Int.toNat (j:Int)=j:=rfl;unfold b.kS b.GC b.GD b.GF b.GG b.GH qS lN aad
  dsimp only
  rw [d1,d2,d3,ej,e1,H7,H7,H7,H7,H7];simp only [dk,ak,fQ,ee];generalize m.gh.get j=v;generalize m.uV.get j=u;by_cases h1 : -1024<=v.x/\v.x<=1024
  ·by_cases h2 : -1024<=v.y/\v.y<=1024
   ·by_cases h3 : -1024<=v.z/\v.z<=1024
    ·by_cases h4:0<=u.e0/\u.e0<=255
     ·by_cases h5:0<=u.e1/\u.e1<=255
      ·rw [aq h1,aq h2,aq h3,aq h4,aq h5]
       exact ⟨fun _=>rfl,fun h=>absurd ⟨⟨h1,h2,h3⟩,h4.1,h4.2,h5⟩ h⟩
      ·rw [aq h1,aq h2,aq h3,aq h4,bj h5]
       exact ⟨fun h=>absurd h.2.2.2 h5,fun h=>⟨_,rfl,rfl⟩⟩
     ·rw [aq h1,aq h2,aq h3,bj h4]
      exact ⟨fun h=>absurd ⟨h.2.1,h.2.2.1⟩ h4,fun h=>⟨_,rfl,rfl⟩⟩
    ·rw [aq h1,aq h2,bj h3]
     exact ⟨fun h=>absurd h.1.2.2 h3,fun h=>⟨_,rfl,rfl⟩⟩
   ·rw [aq h1,bj h2]
    exact ⟨fun h=>absurd h.1.2.1 h2,fun h=>⟨_,rfl,rfl⟩⟩
  ·rw [bj h1]
   exact ⟨fun h=>absurd h.1.1 h1,fun h=>⟨_,rfl,rfl⟩⟩) (by
  unfold b.kS
  dsimp only
  rw [bj (Int.lt_irrefl _)];rfl)
 rcases key with ⟨h1,h2⟩ | ⟨x',h1,h2,h3⟩
 ·exact .inl ⟨_,h1,h2⟩
 ·exact .inr ⟨x',h1,h2,h3⟩
theorem aqb (m:b.iR) (hk:Bi m) (hf:abW m):∃ r,b.EJ m=some r/\(r=true↔DV m):=by
 unfold b.EJ;by_cases h4:((m.uV.n:Nat):Int)=((m.gh.n:Nat):Int)
 ·rw [bne_eq_false_iff_eq.2 h4,ba]
  unfold b.HB b.Dy;rcases aqa m hf.1 (by omega) with ⟨k,q1,q2⟩ | ⟨x',q1,q2,i,q3,q4⟩
  ·rw [q1]
   obtain ⟨l,r,s1,s2⟩:=ap8 m hk hf.2.2 (by have:=hf.1; omega);simp only [aW.lB,aW.ln,s1,fQ,ee,ak];rcases s2 with ⟨rfl,s2,s3⟩ | ⟨rfl,s2⟩
   ·refine ⟨_,rfl,?_⟩
    simp only [o5];exact ⟨fun h=>⟨hf,by omega,fun i hi=>(q2 i hi).1,fun i hi=>(q2 i (by omega)).2,s2,by omega⟩,fun h=>by have:=h.2.2.2.2.2; omega⟩
   ·exact ⟨false,rfl,⟨fun h=>by simp at h,fun h=>absurd h.2.2.2.2.1 s2⟩⟩
  ·rw [q1]
   exact ⟨x'.t2,rfl,⟨fun h=>by rw [q2] at h; simp at h,fun h=>absurd ⟨h.2.2.1 i q3,h.2.2.2.1 i (by omega)⟩ q4⟩⟩
 ·rw [bne_iff_ne.2 h4]
  exact ⟨false,rfl,⟨fun h=>by simp at h,fun h=>absurd (by rw [h.2.1]) h4⟩⟩
theorem aoF (m:b.iR) (hk:Bi m):b.zP m=some (Gj m):=by
 unfold b.zP Gj;by_cases h1:((m.gh.n:Nat):Int) > 64
 ·rw [aq h1,av fun k=>by have:=k.1; omega]; rfl
 rw [bj h1];by_cases h2:((m.uV.n:Nat):Int) > 64
 ·rw [aq h2,av fun k=>by have:=k.2.1; omega]; rfl
 rw [bj h2];by_cases h3:((m.cG.n:Nat):Int) > 16
 ·rw [aq h3,av fun k=>by have:=k.2.2; omega]; rfl
 rw [bj h3];have hf:abW m:=⟨by omega,by omega,by omega⟩
 rw [aY hf];unfold b.I8;obtain ⟨r,s1,s2⟩:=aqb m hk hf;rw [s1];cases r with
 | true=>rw [aY (s2.1 rfl)]; rfl
 | false=>rw [av fun k=>by have:=s2.2 k; simp at this]; rfl
def O9 (l:b.iq):Prop:=-1<=l.cN/\l.cN < 16/\l.ly<=2/\-1024<=l.jV/\l.jV<=1024/\0<=l.bin/\l.bin<=15
theorem auL {p:Prop} [Decidable p] {x:Option Int} {Q:Prop} (h1:p->¬ Q) (h2 : ¬ p->∃ e,x=some e/\(e=0/\Q\/e=8/\¬ Q)):∃ e,cond (decide p) (some 8) x=some e/\(e=0/\Q\/e=8/\¬ Q):=by
 by_cases h:p
 ·rw [aq h]
  exact ⟨8,rfl,.inr ⟨rfl,h1 h⟩⟩
 ·rw [bj h]
  exact h2 h
theorem auM {p:Prop} [Decidable p] {x:Option Bool} {Q:Prop} (h1 : ¬ p->¬ Q) (h2:p->∃ r,x=some r/\(r=true↔Q)):∃ r,cond (decide p) x (some false)=some r/\(r=true↔Q):=by
 by_cases h:p
 ·rw [aq h]; exact h2 h
 ·rw [bj h]; exact ⟨false,rfl,⟨fun k=>by simp at k,fun k=>absurd k (h1 h)⟩⟩
theorem aqc (l:b.iq):∃ e,b.oa l=some e/\(e=0/\O9 l\/e=8/\¬ O9 l):=by
 unfold b.oa O9
 iterate 7 refine auL (fun h k=>by omega) fun _=>?_
 exact ⟨0,rfl,.inl ⟨rfl,by omega⟩⟩
theorem aoG (l:b.iq):∃ r,b.vj l=some r/\(r=true↔O9 l):=by
 unfold b.vj O9
 iterate 6 refine auM (fun h k=>by omega) fun _=>?_
 exact ⟨_,rfl,by rw [decide_eq_true_iff]; omega⟩
def jh (n:Int):Prop:=n=0\/n=1\/n=3\/n=5\/n=7
def Sn (s:b.gM) (l:b.iq):b.iq:=if s.bN.e0=0 then l else ⟨s.look.color,l.cN,l.ly,l.jV,l.ff,l.bin⟩
theorem awV (t:Int) (s:b.gM) (l:b.iq):(jh s.bN.e0->b.bQ ⟨t,0,s,l⟩ = .next ⟨t,1,s,Sn s l⟩)/\(¬ jh s.bN.e0->∃ x',b.bQ ⟨t,0,s,l⟩ = .out .ret x'/\x'.t2=8):=by
 unfold b.bQ jh Sn
 dsimp only
 have e1:aR ((0:Int)+1)=1:=by decide
 rw [e1];constructor
 ·rintro (h | h | h | h | h) <;> rw [h] <;> rfl
 ·intro h
  rw [beq_eq_false_iff_ne.2 (fun k=>h (by omega):s.bN.e0≠0),beq_eq_false_iff_ne.2 (fun k=>h (by omega):s.bN.e0≠1),beq_eq_false_iff_ne.2 (fun k=>h (by omega):s.bN.e0≠3),beq_eq_false_iff_ne.2 (fun k=>h (by omega):s.bN.e0≠5),beq_eq_false_iff_ne.2 (fun k=>h (by omega):s.bN.e0≠7)];exact ⟨_,rfl,rfl⟩
def Xf (s:b.gM) (l:b.iq):b.iq:=if s.bN.e1=0 then l else ⟨l.color,s.look.cN,l.ly,l.jV,l.ff,l.bin⟩
theorem awW (t:Int) (s:b.gM) (l:b.iq):(jh s.bN.e1->b.bQ ⟨t,1,s,l⟩ = .next ⟨t,2,s,Xf s l⟩)/\(¬ jh s.bN.e1->∃ x',b.bQ ⟨t,1,s,l⟩ = .out .ret x'/\x'.t2=8):=by
 unfold b.bQ jh Xf
 dsimp only
 have e1:aR ((1:Int)+1)=2:=by decide
 rw [e1];constructor
 ·rintro (h | h | h | h | h) <;> rw [h] <;> rfl
 ·intro h
  rw [beq_eq_false_iff_ne.2 (fun k=>h (by omega):s.bN.e1≠0),beq_eq_false_iff_ne.2 (fun k=>h (by omega):s.bN.e1≠1),beq_eq_false_iff_ne.2 (fun k=>h (by omega):s.bN.e1≠3),beq_eq_false_iff_ne.2 (fun k=>h (by omega):s.bN.e1≠5),beq_eq_false_iff_ne.2 (fun k=>h (by omega):s.bN.e1≠7)];exact ⟨_,rfl,rfl⟩
def abX (s:b.gM) (l:b.iq):b.iq:=if s.bN.e2=0 then l else ⟨l.color,l.cN,s.look.ly,l.jV,l.ff,l.bin⟩
theorem awX (t:Int) (s:b.gM) (l:b.iq):(jh s.bN.e2->b.bQ ⟨t,2,s,l⟩ = .next ⟨t,3,s,abX s l⟩)/\(¬ jh s.bN.e2->∃ x',b.bQ ⟨t,2,s,l⟩ = .out .ret x'/\x'.t2=8):=by
 unfold b.bQ jh abX
 dsimp only
 have e1:aR ((2:Int)+1)=3:=by decide
 rw [e1];constructor
 ·rintro (h | h | h | h | h) <;> rw [h] <;> rfl
 ·intro h
  rw [beq_eq_false_iff_ne.2 (fun k=>h (by omega):s.bN.e2≠0),beq_eq_false_iff_ne.2 (fun k=>h (by omega):s.bN.e2≠1),beq_eq_false_iff_ne.2 (fun k=>h (by omega):s.bN.e2≠3),beq_eq_false_iff_ne.2 (fun k=>h (by omega):s.bN.e2≠5),beq_eq_false_iff_ne.2 (fun k=>h (by omega):s.bN.e2≠7)];exact ⟨_,rfl,rfl⟩
def aiD (s:b.gM) (l:b.iq):b.iq:=if s.bN.e3=0 then l else ⟨l.color,l.cN,l.ly,s.look.jV,l.ff,l.bin⟩
theorem awY (t:Int) (s:b.gM) (l:b.iq):(jh s.bN.e3->b.bQ ⟨t,3,s,l⟩ = .next ⟨t,4,s,aiD s l⟩)/\(¬ jh s.bN.e3->∃ x',b.bQ ⟨t,3,s,l⟩ = .out .ret x'/\x'.t2=8):=by
 unfold b.bQ jh aiD
 dsimp only
 have e1:aR ((3:Int)+1)=4:=by decide
 rw [e1];constructor
 ·rintro (h | h | h | h | h) <;> rw [h] <;> rfl
 ·intro h
  rw [beq_eq_false_iff_ne.2 (fun k=>h (by omega):s.bN.e3≠0),beq_eq_false_iff_ne.2 (fun k=>h (by omega):s.bN.e3≠1),beq_eq_false_iff_ne.2 (fun k=>h (by omega):s.bN.e3≠3),beq_eq_false_iff_ne.2 (fun k=>h (by omega):s.bN.e3≠5),beq_eq_false_iff_ne.2 (fun k=>h (by omega):s.bN.e3≠7)];exact ⟨_,rfl,rfl⟩
def amC (s:b.gM) (l:b.iq):b.iq:=if s.bN.e4=0 then l else ⟨l.color,l.cN,l.ly,l.jV,s.look.ff,s.look.bin⟩
theorem awZ (t:Int) (s:b.gM) (l:b.iq):(jh s.bN.e4->b.bQ ⟨t,4,s,l⟩ = .next ⟨t,5,s,amC s l⟩)/\(¬ jh s.bN.e4->∃ x',b.bQ ⟨t,4,s,l⟩ = .out .ret x'/\x'.t2=8):=by
 unfold b.bQ jh amC
 dsimp only
 have e1:aR ((4:Int)+1)=5:=by decide
 rw [e1];constructor
 ·rintro (h | h | h | h | h) <;> rw [h] <;> rfl
 ·intro h
  rw [beq_eq_false_iff_ne.2 (fun k=>h (by omega):s.bN.e4≠0),beq_eq_false_iff_ne.2 (fun k=>h (by omega):s.bN.e4≠1),beq_eq_false_iff_ne.2 (fun k=>h (by omega):s.bN.e4≠3),beq_eq_false_iff_ne.2 (fun k=>h (by omega):s.bN.e4≠5),beq_eq_false_iff_ne.2 (fun k=>h (by omega):s.bN.e4≠7)];exact ⟨_,rfl,rfl⟩
def LN:b.iq:=⟨⟨0,0,0,0⟩,0,0,0,false,0⟩
def said (s:b.gM):b.iq:=amC s (aiD s (abX s (Xf s (Sn s LN))))
def S5 (s:b.gM):Prop:=jh s.bN.e0/\jh s.bN.e1/\jh s.bN.e2/\jh s.bN.e3/\jh s.bN.e4
def Jz (s:b.gM):Prop:=S5 s/\said s=s.look/\O9 s.look
theorem aqd (s:b.gM):(goN b.bQ (⟨0,0,s,LN⟩:b.aQ) = .out (.exit 0) ⟨0,5,s,said s⟩/\S5 s)\/∃ x',goN b.bQ (⟨0,0,s,LN⟩:b.aQ) = .out .ret x'/\x'.t2=8/\¬ S5 s:=by
 have key:=jF (step:=b.bQ) 5 (by unfold iH; omega) (fun j=>match j with
  | 0=>⟨0,0,s,LN⟩
  | 1=>⟨0,1,s,Sn s LN⟩
  | 2=>⟨0,2,s,Xf s (Sn s LN)⟩
  | 3=>⟨0,3,s,abX s (Xf s (Sn s LN))⟩
  | 4=>⟨0,4,s,aiD s (abX s (Xf s (Sn s LN)))⟩
  | _=>⟨0,5,s,said s⟩) (fun j=>match j with
  | 0=>jh s.bN.e0
  | 1=>jh s.bN.e1
  | 2=>jh s.bN.e2
  | 3=>jh s.bN.e3
  | _=>jh s.bN.e4) (e0:=.exit 0) (er:=.ret) rfl rfl (fun x'=>x'.t2=8) (xe:=⟨0,5,s,said s⟩) (fun j hj=>by
   rcases (by omega:j=0\/j=1\/j=2\/j=3\/j=4) with rfl | rfl | rfl | rfl | rfl
   ·exact awV 0 s _
   ·exact awW 0 s _
   ·exact awX 0 s _
   ·exact awY 0 s _
   ·exact awZ 0 s _) rfl
 rcases key with ⟨h1,h2⟩ | ⟨x',h1,h2,j,h3,h4⟩
 ·exact .inl ⟨h1,h2 0 (by omega),h2 1 (by omega),h2 2 (by omega),h2 3 (by omega),h2 4 (by omega)⟩
 ·refine .inr ⟨x',h1,h2,fun k=>h4 ?_⟩
  obtain ⟨k0,k1,k2,k3,k4⟩:=k;rcases (by omega:j=0\/j=1\/j=2\/j=3\/j=4) with rfl | rfl | rfl | rfl | rfl <;> assumption
theorem look_eq (a c:b.iq):((a.color.e0==c.color.e0)&&((a.color.e1==c.color.e1)&&((a.color.e2==c.color.e2)&&((a.color.e3==c.color.e3)&&((a.cN==c.cN)&&((a.ly==c.ly)&&((a.jV==c.jV)&&((a.ff==c.ff)&&((a.bin==c.bin)&&true)))))))))=true↔a=c:=by
 obtain ⟨⟨a0,a1,a2,a3⟩,a4,a5,a6,a7,a8⟩:=a;obtain ⟨⟨c0,c1,c2,c3⟩,c4,c5,c6,c7,c8⟩:=c;simp [aA,and_assoc]
theorem aoH (s:b.gM):∃ e,b.tr s=some e/\(e=0/\Jz s\/e=8/\¬ Jz s):=by
 unfold b.tr b.Dp b.cF;have e0:(⟨0,0,s,⟨⟨0,0,0,0⟩,0,0,0,false,0⟩⟩:b.aQ)=⟨0,0,s,LN⟩:=rfl;rw [e0];rcases aqd s with ⟨h1,h2⟩ | ⟨x',h1,h2,h3⟩
 ·rw [h1]
  simp only [aW.lB,aW.ln];by_cases hl:said s=s.look
  ·rw [(look_eq _ _).2 hl]
   obtain ⟨e,q1,q2⟩:=aqc s.look;rw [q1];refine ⟨e,rfl,?_⟩;rcases q2 with ⟨rfl,q2⟩ | ⟨rfl,q2⟩
   ·exact .inl ⟨rfl,h2,hl,q2⟩
   ·exact .inr ⟨rfl,fun k=>q2 k.2.2⟩
  ·rw [Bool.eq_false_iff.2 fun k=>hl ((look_eq _ _).1 k)]
   exact ⟨8,rfl,.inr ⟨rfl,fun k=>hl k.2.1⟩⟩
 ·rw [h1]
  exact ⟨x'.t2,rfl,.inr ⟨h2,fun k=>h3 k.1⟩⟩
theorem cc {α:Type} (a c:Bool) (F X:α):cond a (cond c F X) X=cond (a&&c) F X:=by cases a <;> cases c <;> rfl
theorem cc2 {α:Type} (a c d:Bool) (F X:α):cond a (cond c F (cond d F X)) X=cond (a&&(c||d)) F X:=by cases a <;> cases c <;> cases d <;> rfl
def Pa (s:b.gM):Prop:=(0<=s.bN.e0/\s.bN.e0<=255)/\(0<=s.bN.e1/\s.bN.e1<=255)/\(0<=s.bN.e2/\s.bN.e2<=255)/\(0<=s.bN.e3/\s.bN.e3<=255)/\(0<=s.bN.e4/\s.bN.e4<=255)
theorem avS (t:Bool) (s:b.gM) (h0:0<=s.bN.e0):(jh s.bN.e0->b.cL ⟨t,0,s⟩ = .next ⟨t,1,s⟩)/\(¬ jh s.bN.e0->∃ x',b.cL ⟨t,0,s⟩ = .out .ret x'/\x'.t2=false):=by
 unfold b.cL jh
 dsimp only
 have e1:aR ((0:Int)+1)=1:=by decide
 rw [e1];constructor
 ·rintro (h | h | h | h | h) <;> rw [h] <;> rfl
 ·intro h
  by_cases h7:s.bN.e0 > 7
  ·rw [aq h7]
   exact ⟨_,rfl,rfl⟩
  ·rcases (by omega:s.bN.e0=2\/s.bN.e0=4\/s.bN.e0=6) with q | q | q <;> rw [q] <;> exact ⟨_,rfl,rfl⟩
theorem avT (t:Bool) (s:b.gM) (h0:0<=s.bN.e1):(jh s.bN.e1->b.cL ⟨t,1,s⟩ = .next ⟨t,2,s⟩)/\(¬ jh s.bN.e1->∃ x',b.cL ⟨t,1,s⟩ = .out .ret x'/\x'.t2=false):=by
 unfold b.cL jh
 dsimp only
 have e1:aR ((1:Int)+1)=2:=by decide
 rw [e1];constructor
 ·rintro (h | h | h | h | h) <;> rw [h] <;> rfl
 ·intro h
  by_cases h7:s.bN.e1 > 7
  ·rw [aq h7]
   exact ⟨_,rfl,rfl⟩
  ·rcases (by omega:s.bN.e1=2\/s.bN.e1=4\/s.bN.e1=6) with q | q | q <;> rw [q] <;> exact ⟨_,rfl,rfl⟩
theorem avU (t:Bool) (s:b.gM) (h0:0<=s.bN.e2):(jh s.bN.e2->b.cL ⟨t,2,s⟩ = .next ⟨t,3,s⟩)/\(¬ jh s.bN.e2->∃ x',b.cL ⟨t,2,s⟩ = .out .ret x'/\x'.t2=false):=by
 unfold b.cL jh
 dsimp only
 have e1:aR ((2:Int)+1)=3:=by decide
 rw [e1];constructor
 ·rintro (h | h | h | h | h) <;> rw [h] <;> rfl
 ·intro h
  by_cases h7:s.bN.e2 > 7
  ·rw [aq h7]
   exact ⟨_,rfl,rfl⟩
  ·rcases (by omega:s.bN.e2=2\/s.bN.e2=4\/s.bN.e2=6) with q | q | q <;> rw [q] <;> exact ⟨_,rfl,rfl⟩
theorem avV (t:Bool) (s:b.gM) (h0:0<=s.bN.e3):(jh s.bN.e3->b.cL ⟨t,3,s⟩ = .next ⟨t,4,s⟩)/\(¬ jh s.bN.e3->∃ x',b.cL ⟨t,3,s⟩ = .out .ret x'/\x'.t2=false):=by
 unfold b.cL jh
 dsimp only
 have e1:aR ((3:Int)+1)=4:=by decide
 rw [e1];constructor
 ·rintro (h | h | h | h | h) <;> rw [h] <;> rfl
 ·intro h
  by_cases h7:s.bN.e3 > 7
  ·rw [aq h7]
   exact ⟨_,rfl,rfl⟩
  ·rcases (by omega:s.bN.e3=2\/s.bN.e3=4\/s.bN.e3=6) with q | q | q <;> rw [q] <;> exact ⟨_,rfl,rfl⟩
theorem avW (t:Bool) (s:b.gM) (h0:0<=s.bN.e4):(jh s.bN.e4->b.cL ⟨t,4,s⟩ = .next ⟨t,5,s⟩)/\(¬ jh s.bN.e4->∃ x',b.cL ⟨t,4,s⟩ = .out .ret x'/\x'.t2=false):=by
 unfold b.cL jh
 dsimp only
 have e1:aR ((4:Int)+1)=5:=by decide
 rw [e1];constructor
 ·rintro (h | h | h | h | h) <;> rw [h] <;> rfl
 ·intro h
  by_cases h7:s.bN.e4 > 7
  ·rw [aq h7]
   exact ⟨_,rfl,rfl⟩
  ·rcases (by omega:s.bN.e4=2\/s.bN.e4=4\/s.bN.e4=6) with q | q | q <;> rw [q] <;> exact ⟨_,rfl,rfl⟩
theorem aoI (s:b.gM) (hs:Pa s):(goN b.cL (⟨false,0,s⟩:b.cE) = .out (.exit 0) ⟨false,5,s⟩/\S5 s)\/∃ x',goN b.cL (⟨false,0,s⟩:b.cE) = .out .ret x'/\x'.t2=false/\¬ S5 s:=by
 obtain ⟨⟨s0,_⟩,⟨s1,_⟩,⟨s2,_⟩,⟨s3,_⟩,⟨s4,_⟩⟩:=hs;have key:=jF (step:=b.cL) 5 (by unfold iH; omega) (fun j=>match j with
  | 0=>⟨false,0,s⟩
  | 1=>⟨false,1,s⟩
  | 2=>⟨false,2,s⟩
  | 3=>⟨false,3,s⟩
  | 4=>⟨false,4,s⟩
  | _=>⟨false,5,s⟩) (fun j=>match j with
  | 0=>jh s.bN.e0
  | 1=>jh s.bN.e1
  | 2=>jh s.bN.e2
  | 3=>jh s.bN.e3
  | _=>jh s.bN.e4) (e0:=.exit 0) (er:=.ret) rfl rfl (fun x'=>x'.t2=false) (xe:=⟨false,5,s⟩) (fun j hj=>by
   rcases (by omega:j=0\/j=1\/j=2\/j=3\/j=4) with rfl | rfl | rfl | rfl | rfl
   ·exact avS _ s s0
   ·exact avT _ s s1
   ·exact avU _ s s2
   ·exact avV _ s s3
   ·exact avW _ s s4) rfl
 rcases key with ⟨h1,h2⟩ | ⟨x',h1,h2,j,h3,h4⟩
 ·exact .inl ⟨h1,h2 0 (by omega),h2 1 (by omega),h2 2 (by omega),h2 3 (by omega),h2 4 (by omega)⟩
 ·refine .inr ⟨x',h1,h2,fun k=>h4 ?_⟩
  obtain ⟨k0,k1,k2,k3,k4⟩:=k;rcases (by omega:j=0\/j=1\/j=2\/j=3\/j=4) with rfl | rfl | rfl | rfl | rfl <;> assumption
theorem asz (s:b.gM):said s=s.look↔(s.bN.e0=0->s.look.color=⟨0,0,0,0⟩)/\(s.bN.e1=0->s.look.cN=0)/\(s.bN.e2=0->s.look.ly=0)/\(s.bN.e3=0->s.look.jV=0)/\(s.bN.e4=0->s.look.ff=false/\s.look.bin=0):=by
 obtain ⟨⟨e0,e1,e2,e3,e4⟩,⟨c,t,u,i,bl,n⟩⟩:=s;unfold said amC aiD abX Xf Sn LN
 dsimp only
 by_cases h0:e0=0 <;> by_cases h1:e1=0 <;> by_cases h2:e2=0 <;> by_cases h3:e3=0 <;> by_cases h4:e4=0 <;> simp [h0,h1,h2,h3,h4,eq_comm,and_assoc]
theorem AJ {p:Prop} {c:Bool} {x:Option Bool} {Q:Prop} (hc:c=true↔p) (h1:p->¬ Q) (h2 : ¬ p->∃ r,x=some r/\(r=true↔Q)):∃ r,cond c (some false) x=some r/\(r=true↔Q):=by
 cases c with
 | true=>exact ⟨false,rfl,⟨fun k=>by simp at k,fun k=>absurd k (h1 (hc.1 rfl))⟩⟩
 | false=>exact h2 fun k=>by have:=hc.2 k; simp at this
theorem amD (s:b.gM) (hs:Pa s):∃ r,b.ED s=some r/\(r=true↔Jz s):=by
 unfold b.ED b.aX b.aI;rcases aoI s hs with ⟨h1,h2⟩ | ⟨x',h1,h2,h3⟩
 ·rw [h1]
  obtain ⟨r,q1,q2⟩:=aoG s.look;simp only [aW.lB,aW.ln,q1,fQ,ee,ak,cc2,cc];show ∃ r_1,cond _ (some false) _=some r_1/\_;have key:Jz s↔S5 s/\said s=s.look/\O9 s.look:=Iff.rfl;have abY:=asz s;have aw0:((s.look.color.e0==0)&&((s.look.color.e1==0)&&((s.look.color.e2==0)&&((s.look.color.e3==0)&&true))))=true↔s.look.color=⟨0,0,0,0⟩:=by
   obtain ⟨a,c,d,e⟩:=s.look.color;simp
  refine AJ (p:=s.bN.e0=0/\s.look.color≠⟨0,0,0,0⟩) ?_ (fun h k=>h.2 ((abY.1 k.2.1).1 h.1)) fun n0=>?_
  ·rw [aA,ko,mw,<- Bool.not_eq_true,aw0]
  refine AJ (p:=s.bN.e1=0/\s.look.cN≠0) (by simp) (fun h k=>h.2 ((abY.1 k.2.1).2.1 h.1)) fun n1=>?_;refine AJ (p:=s.bN.e2=0/\s.look.ly≠0) (by simp) (fun h k=>h.2 ((abY.1 k.2.1).2.2.1 h.1)) fun n2=>?_;refine AJ (p:=s.bN.e3=0/\s.look.jV≠0) (by simp) (fun h k=>h.2 ((abY.1 k.2.1).2.2.2.1 h.1)) fun n3=>?_;refine AJ (p:=s.bN.e4=0/\(s.look.ff=true\/s.look.bin≠0)) (by simp) (fun h k=>by
   obtain ⟨g1,g2⟩:=(abY.1 k.2.1).2.2.2.2 h.1;rcases h.2 with h | h
   ·rw [g1] at h; simp at h
   ·exact h g2) fun n4=>?_
  refine ⟨r,rfl,q2.trans ⟨fun h=>⟨h2,abY.2 ⟨fun k=>Classical.byContradiction fun w=>n0 ⟨k,w⟩,fun k=>Classical.byContradiction fun w=>n1 ⟨k,w⟩,fun k=>Classical.byContradiction fun w=>n2 ⟨k,w⟩,fun k=>Classical.byContradiction fun w=>n3 ⟨k,w⟩,fun k=>⟨?_,Classical.byContradiction fun w=>n4 ⟨k,.inr w⟩⟩⟩,h⟩,fun h=>h.2.2⟩⟩;cases hb:s.look.ff with
  | false=>rfl
  | true=>exact absurd ⟨k,.inl hb⟩ n4
 ·rw [h1]
  exact ⟨x'.t2,rfl,⟨fun k=>by rw [h2] at k; simp at k,fun k=>absurd k.1 h3⟩⟩
def KQ (l:Sl Int):Nat->Int
 | 0=>0
 | k+1=>l.get k
def aiE (l:Sl Int):Prop:=(∀ j,j < l.n->KQ l j<=l.get j/\l.get j<=8192)/\l.n<=16
theorem aoJ {l:Sl Int} {n:Nat} (h:∀ j,j < n->KQ l j<=l.get j/\l.get j<=8192):∀ j,j < n->0<=l.get j
 | 0,hj=>(h 0 hj).1
 | k+1,hj=>Int.le_trans (aoJ h k (by omega)) (h (k+1) hj).1
theorem asA (l:Sl Int) (hn:l.n < 1000000):∃ r,b.Cx l=some r/\(r=true↔aiE l):=by
 unfold b.Cx b.Bg;have key:=jF (step:=b.j4) l.n (by unfold iH; omega) (fun j=>⟨l,false,KQ l j,l,((l.n:Nat):Int),(j:Int)⟩) (fun j=>KQ l j<=l.get j/\l.get j<=8192) (e0:=.exit 0) (er:=.ret) rfl rfl (fun x'=>x'.t2=false) (xe:=⟨l,false,KQ l l.n,l,((l.n:Nat):Int),((l.n:Nat):Int)⟩) (fun j hj=>by
  have e1:aR ((j:Int)+1)=((j+1:Nat):Int):=by rw [cd (by omega) (by omega)]; omega
  have d1:decide ((j:Int) < ((l.n:Nat):Int))=true:=aq (by omega);have d2:decide ((0:Int)<=(j:Int))=true:=aq (by omega);have ej:Int.toNat (j:Int)=j:=rfl;unfold b.j4
  dsimp only
  rw [d1,d2,ej,e1];simp only [dk,ak];by_cases h1:l.get j < KQ l j
  ·rw [aq h1]
   exact ⟨fun h=>absurd h.1 (by omega),fun _=>⟨_,rfl,rfl⟩⟩
  ·by_cases h2:l.get j > 8192
   ·rw [bj h1,aq h2]
    exact ⟨fun h=>absurd h.2 (by omega),fun _=>⟨_,rfl,rfl⟩⟩
   ·rw [bj h1,bj h2]
    exact ⟨fun _=>rfl,fun h=>absurd ⟨by omega,by omega⟩ h⟩) (by
  unfold b.j4
  dsimp only
  rw [bj (Int.lt_irrefl _)];rfl)
 have e0:goN b.j4 (⟨l,false,(0:Int),l,((l.n:Nat):Int),(0:Int)⟩:b.jX)=goN b.j4 ⟨l,false,KQ l 0,l,((l.n:Nat):Int),((0:Nat):Int)⟩:=rfl;rw [e0];rcases key with ⟨h1,h2⟩ | ⟨x',h1,h2,j,h3,h4⟩
 ·rw [h1]
  refine ⟨decide (((l.n:Nat):Int)<=16),rfl,?_⟩;rw [decide_eq_true_iff];exact ⟨fun h=>⟨h2,by omega⟩,fun h=>by have:=h.2; omega⟩
 ·rw [h1]
  exact ⟨x'.t2,rfl,⟨fun h=>by rw [h2] at h; simp at h,fun h=>absurd (h.1 j h3) h4⟩⟩
theorem aqe (l:Sl Int) (hn:l.n < 1000000):∃ r,b.rR l=some r/\(r=true↔aiE l):=by
 unfold b.rR b.rZ;have hit:∀ j:Nat,Int.toNat (((j+1:Nat):Int) - 1)=j:=fun j=>by omega
 have key:=jF (step:=b.fU) l.n (by unfold iH; omega) (fun j=>⟨l,false,(j:Int)⟩) (fun j=>0<=l.get j/\KQ l j<=l.get j/\l.get j<=8192) (e0:=.exit 0) (er:=.ret) rfl rfl (fun x'=>x'.t2=false) (xe:=⟨l,false,((l.n:Nat):Int)⟩) (fun j hj=>by
  have e1:aR ((j:Int)+1)=((j+1:Nat):Int):=by rw [cd (by omega) (by omega)]; omega
  have d1:decide ((j:Int) < ((l.n:Nat):Int))=true:=aq (by omega);have d2:decide ((0:Int)<=(j:Int))=true:=aq (by omega);have ej:Int.toNat (j:Int)=j:=rfl;unfold b.fU
  dsimp only
  rw [d1,d2,ej,e1];simp only [dk,ak];by_cases h1:l.get j < 0
  ·rw [aq h1]
   exact ⟨fun h=>absurd h.1 (by omega),fun _=>⟨_,rfl,rfl⟩⟩
  ·by_cases h2:l.get j > 8192
   ·rw [bj h1,aq h2]
    exact ⟨fun h=>absurd h.2.2 (by omega),fun _=>⟨_,rfl,rfl⟩⟩
   ·rw [bj h1,bj h2]
    cases j with
    | zero=>exact ⟨fun _=>rfl,fun h=>absurd ⟨by omega,show (0:Int)<=l.get 0 by omega,by omega⟩ h⟩
    | succ k=>
     have e3:aR (((k+1:Nat):Int) - 1)=((k:Nat):Int):=by rw [cd (by omega) (by omega)]; omega
     have d3:decide (((k+1:Nat):Int) > 0)=true:=aq (by omega);have d4:decide ((0:Int)<=((k:Nat):Int))=true:=aq (by omega);have d5:decide (((k:Nat):Int) < ((l.n:Nat):Int))=true:=aq (by omega);have ek:Int.toNat ((k:Nat):Int)=k:=rfl;rw [e3,d3,d4,d5,ek];simp only [dk,ak,ba];by_cases h3:l.get (k+1) < l.get k
     ·rw [aq h3]
      exact ⟨fun h=>absurd h.2.1 (by show ¬ l.get k<=l.get (k+1); omega),fun _=>⟨_,rfl,rfl⟩⟩
     ·rw [bj h3]
      exact ⟨fun _=>rfl,fun h=>absurd ⟨by omega,show l.get k<=l.get (k+1) by omega,by omega⟩ h⟩) (by
  unfold b.fU
  dsimp only
  rw [bj (Int.lt_irrefl _)];rfl)
 have e0:goN b.fU (⟨l,false,(0:Int)⟩:b.dH)=goN b.fU ⟨l,false,((0:Nat):Int)⟩:=rfl;rw [e0];rcases key with ⟨h1,h2⟩ | ⟨x',h1,h2,j,h3,h4⟩
 ·rw [h1]
  refine ⟨decide (((l.n:Nat):Int)<=16),rfl,?_⟩;rw [decide_eq_true_iff];exact ⟨fun h=>⟨fun j hj=>(h2 j hj).2,by omega⟩,fun h=>by have:=h.2; omega⟩
 ·rw [h1]
  exact ⟨x'.t2,rfl,⟨fun h=>by rw [h2] at h; simp at h,fun h=>absurd ⟨aoJ h.1 j h3,h.1 j h3⟩ h4⟩⟩
def Sp {α:Type} (a c:Sl α):Prop:=a.n=c.n/\∀ i,i < a.n->a.get i=c.get i
theorem Sp.refl {α:Type} (a:Sl α):Sp a a:=⟨rfl,fun _ _=>rfl⟩
theorem QD (a c:Sl Int) (hn:a.n < 1000000):∃ r,b.ob a c=some r/\(r=true↔Sp a c):=by
 unfold b.ob b.sh;by_cases hq:a.n=c.n
 ·have de:(((a.n:Nat):Int) != ((c.n:Nat):Int))=false:=by simp [hq]
  rw [de,ba];have key:=jF (step:=b.eE) a.n (by unfold iH; omega) (fun j=>⟨a,c,false,((a.n:Nat):Int),(j:Int)⟩) (fun j=>a.get j=c.get j) (e0:=.exit 0) (er:=.ret) rfl rfl (fun x'=>x'.t4=false) (xe:=⟨a,c,false,((a.n:Nat):Int),((a.n:Nat):Int)⟩) (fun j hj=>by
   have e1:aR ((j:Int)+1)=((j+1:Nat):Int):=by rw [cd (by omega) (by omega)]; omega
   have d1:decide ((j:Int) < ((a.n:Nat):Int))=true:=aq (by omega);have d2:decide ((0:Int)<=(j:Int))=true:=aq (by omega);have d3:decide ((j:Int) < ((c.n:Nat):Int))=true:=aq (by omega);have ej:Int.toNat (j:Int)=j:=rfl;unfold b.eE
   dsimp only
   rw [d1,d2,d3,ej,e1];simp only [dk,ak];by_cases h1:a.get j=c.get j
   ·have:(a.get j != c.get j)=false:=by simp [h1]
    rw [this];exact ⟨fun _=>rfl,fun h=>absurd h1 h⟩
   ·have:(a.get j != c.get j)=true:=by simp [h1]
    rw [this];exact ⟨fun h=>absurd h h1,fun _=>⟨_,rfl,rfl⟩⟩) (by
   unfold b.eE
   dsimp only
   rw [bj (Int.lt_irrefl _)];rfl)
  have e0:goN b.eE (⟨a,c,false,((a.n:Nat):Int),(0:Int)⟩:b.eh)=goN b.eE ⟨a,c,false,((a.n:Nat):Int),((0:Nat):Int)⟩:=rfl;rw [e0];rcases key with ⟨h1,h2⟩ | ⟨x',h1,h2,j,h3,h4⟩
  ·rw [h1]
   exact ⟨true,rfl,⟨fun _=>⟨hq,h2⟩,fun _=>rfl⟩⟩
  ·rw [h1]
   exact ⟨x'.t4,rfl,⟨fun h=>by rw [h2] at h; simp at h,fun h=>absurd (h.2 j h3) h4⟩⟩
 ·have de:(((a.n:Nat):Int) != ((c.n:Nat):Int))=true:=by simp; omega
  rw [de,ak];exact ⟨false,rfl,⟨fun h=>by simp at h,fun h=>absurd h.1 hq⟩⟩
theorem asB (a c:Sl Int) (hn:a.n < 1000000):∃ r,b.vr a c=some r/\(r=true↔Sp a c):=by
 unfold b.vr b.zR;by_cases hq:a.n=c.n
 ·have de:(((a.n:Nat):Int) != ((c.n:Nat):Int))=false:=by simp [hq]
  rw [de,ba];have key:=jF (step:=b.hQ) a.n (by unfold iH; omega) (fun j=>⟨a,c,false,(j:Int)⟩) (fun j=>a.get j=c.get j) (e0:=.exit 0) (er:=.ret) rfl rfl (fun x'=>x'.t4=false) (xe:=⟨a,c,false,((a.n:Nat):Int)⟩) (fun j hj=>by
   have e1:aR ((j:Int)+1)=((j+1:Nat):Int):=by rw [cd (by omega) (by omega)]; omega
   have d1:decide ((j:Int) < ((a.n:Nat):Int))=true:=aq (by omega);have d2:decide ((0:Int)<=(j:Int))=true:=aq (by omega);have d3:decide ((j:Int) < ((c.n:Nat):Int))=true:=aq (by omega);have ej:Int.toNat (j:Int)=j:=rfl;unfold b.hQ
   dsimp only
   rw [d1,d2,d3,ej,e1];simp only [dk,ak];by_cases h1:a.get j=c.get j
   ·have:(a.get j != c.get j)=false:=by simp [h1]
    rw [this];exact ⟨fun _=>rfl,fun h=>absurd h1 h⟩
   ·have:(a.get j != c.get j)=true:=by simp [h1]
    rw [this];exact ⟨fun h=>absurd h h1,fun _=>⟨_,rfl,rfl⟩⟩) (by
   unfold b.hQ
   dsimp only
   rw [bj (Int.lt_irrefl _)];rfl)
  have e0:goN b.hQ (⟨a,c,false,(0:Int)⟩:b.ir)=goN b.hQ ⟨a,c,false,((0:Nat):Int)⟩:=rfl;rw [e0];rcases key with ⟨h1,h2⟩ | ⟨x',h1,h2,j,h3,h4⟩
  ·rw [h1]
   exact ⟨true,rfl,⟨fun _=>⟨hq,h2⟩,fun _=>rfl⟩⟩
  ·rw [h1]
   exact ⟨x'.t4,rfl,⟨fun h=>by rw [h2] at h; simp at h,fun h=>absurd (h.2 j h3) h4⟩⟩
 ·have de:(((a.n:Nat):Int) != ((c.n:Nat):Int))=true:=by simp; omega
  rw [de,ak];exact ⟨false,rfl,⟨fun h=>by simp at h,fun h=>absurd h.1 hq⟩⟩
def Nk (a c:b.Node):Prop:=a.kind=c.kind/\a.gd=c.gd/\a.uz=c.uz/\a.cl=c.cl/\Sp a.nb c.nb/\a.cJ=c.cJ/\a.b7=c.b7
theorem afa (a c:b.dm):((a.m.e0.e0==c.m.e0.e0)&&((a.m.e0.e1==c.m.e0.e1)&&((a.m.e0.e2==c.m.e0.e2)&&((a.m.e1.e0==c.m.e1.e0)&&((a.m.e1.e1==c.m.e1.e1)&&((a.m.e1.e2==c.m.e1.e2)&&((a.m.e2.e0==c.m.e2.e0)&&((a.m.e2.e1==c.m.e2.e1)&&((a.m.e2.e2==c.m.e2.e2)&&((a.t.x==c.t.x)&&((a.t.y==c.t.y)&&((a.t.z==c.t.z)&&true))))))))))))=true↔a=c:=by
 obtain ⟨⟨⟨a0,a1,a2⟩,⟨a3,a4,a5⟩,⟨a6,a7,a8⟩⟩,⟨a9,a10,a11⟩⟩:=a;obtain ⟨⟨⟨c0,c1,c2⟩,⟨c3,c4,c5⟩,⟨c6,c7,c8⟩⟩,⟨c9,c10,c11⟩⟩:=c;simp [and_assoc]
theorem amE (a c:b.fO):((a.x==c.x)&&((a.y==c.y)&&((a.z==c.z)&&true)))=true↔a=c:=by
 obtain ⟨a0,a1,a2⟩:=a;obtain ⟨c0,c1,c2⟩:=c;simp
theorem ak4 (a c:b.gM):((a.bN.e0==c.bN.e0)&&((a.bN.e1==c.bN.e1)&&((a.bN.e2==c.bN.e2)&&((a.bN.e3==c.bN.e3)&&((a.bN.e4==c.bN.e4)&&((a.look.color.e0==c.look.color.e0)&&((a.look.color.e1==c.look.color.e1)&&((a.look.color.e2==c.look.color.e2)&&((a.look.color.e3==c.look.color.e3)&&((a.look.cN==c.look.cN)&&((a.look.ly==c.look.ly)&&((a.look.jV==c.look.jV)&&((a.look.ff==c.look.ff)&&((a.look.bin==c.look.bin)&&true))))))))))))))=true↔a=c:=by
 obtain ⟨⟨a0,a1,a2,a3,a4⟩,⟨⟨a5,a6,a7,a8⟩,a9,a10,a11,a12,a13⟩⟩:=a;obtain ⟨⟨c0,c1,c2,c3,c4⟩,⟨⟨c5,c6,c7,c8⟩,c9,c10,c11,c12,c13⟩⟩:=c;simp [and_assoc]
theorem DW {p:Prop} {c:Bool} {x:Option Bool} {Q:Prop} (hc:c=true↔p) (h1 : ¬ p->¬ Q) (h2:p->∃ r,x=some r/\(r=true↔Q)):∃ r,cond c x (some false)=some r/\(r=true↔Q):=by
 cases c with
 | false=>exact ⟨false,rfl,⟨fun k=>by simp at k,fun k=>absurd k (h1 fun q=>by have:=hc.2 q; simp at this)⟩⟩
 | true=>exact h2 (hc.1 rfl)
theorem aiF (a c:b.Node) (hn:a.nb.n < 1000000):∃ r,b.wu a c=some r/\(r=true↔Nk a c):=by
 unfold b.wu b.Jl;obtain ⟨r,q1,q2⟩:=QD a.nb c.nb hn;rw [q1,fQ,ee,ak];refine DW ko (fun h k=>h k.1) fun g1=>?_;refine DW (afa _ _) (fun h k=>h k.2.1) fun g2=>?_;refine DW ko (fun h k=>h k.2.2.1) fun g3=>?_;refine DW (amE _ _) (fun h k=>h k.2.2.2.1) fun g4=>?_;refine DW q2 (fun h k=>h k.2.2.2.2.1) fun g5=>?_;refine DW ko (fun h k=>h k.2.2.2.2.2.1) fun g6=>?_;exact ⟨_,rfl,(ak4 _ _).trans ⟨fun h=>⟨g1,g2,g3,g4,g5,g6,h⟩,fun h=>h.2.2.2.2.2.2⟩⟩
theorem aoK (a c:b.Node) (hn:a.nb.n < 1000000):∃ r,b.qM a c=some r/\(r=true↔Nk a c):=by
 unfold b.qM b.Dz;obtain ⟨r,q1,q2⟩:=asB a.nb c.nb hn;rw [q1,fQ,ee,ak];refine DW ko (fun h k=>h k.1) fun g1=>?_;refine DW (afa _ _) (fun h k=>h k.2.1) fun g2=>?_;refine DW ko (fun h k=>h k.2.2.1) fun g3=>?_;refine DW (amE _ _) (fun h k=>h k.2.2.2.1) fun g4=>?_;refine DW q2 (fun h k=>h k.2.2.2.2.1) fun g5=>?_;refine DW ko (fun h k=>h k.2.2.2.2.2.1) fun g6=>?_;exact ⟨_,rfl,(ak4 _ _).trans ⟨fun h=>⟨g1,g2,g3,g4,g5,g6,h⟩,fun h=>h.2.2.2.2.2.2⟩⟩
theorem Pb {n:Int} (h:lN n 1024):lN n 4096:=by unfold lN at *; omega
theorem aoL (m:b.dm) (v:b.fO) (h:E6 m) (hv:qS v 4096) :
  b.Ac m v=some ⟨dot m.m.e0 v.x v.y v.z / 256+m.t.x,dot m.m.e1 v.x v.y v.z / 256+m.t.y,dot m.m.e2 v.x v.y v.z / 256+m.t.z⟩:=by
 obtain ⟨⟨h0,h1,h2⟩,t1,t2,t3⟩:=h;have k0:=KO h0 hv.1 hv.2.1 hv.2.2;have k1:=KO h1 hv.1 hv.2.1 hv.2.2;have k2:=KO h2 hv.1 hv.2.1 hv.2.2;unfold b.Ac b.yQ b.Js b.Jr b.Gg b.DJ;simp only [fQ,ee,ak];rw [O8 m.m ⟨v.x,v.y,v.z⟩ ⟨h0,h1,h2⟩ hv.1 hv.2.1 hv.2.2];simp only [fQ,ee,ak];unfold lN at *;rw [cd (by omega) (by omega),cd (by omega) (by omega),cd (by omega) (by omega)]
theorem amF (m:b.bw) (v:b.fO) (h:RowsIn m) (hv:qS v 4096):b.xy m v=some ⟨dot m.e0 v.x v.y v.z / 256,dot m.e1 v.x v.y v.z / 256,dot m.e2 v.x v.y v.z / 256⟩:=by
 unfold b.xy b.GU b.GV b.GW;rw [xa _ _ h.1 hv,xa _ _ h.2.1 hv,xa _ _ h.2.2 hv];rfl
def mul (a c:b.dm):b.dm:=
 ⟨⟨⟨dot a.m.e0 c.m.e0.e0 c.m.e1.e0 c.m.e2.e0 / 256,dot a.m.e0 c.m.e0.e1 c.m.e1.e1 c.m.e2.e1 / 256,dot a.m.e0 c.m.e0.e2 c.m.e1.e2 c.m.e2.e2 / 256⟩,
  ⟨dot a.m.e1 c.m.e0.e0 c.m.e1.e0 c.m.e2.e0 / 256,dot a.m.e1 c.m.e0.e1 c.m.e1.e1 c.m.e2.e1 / 256,dot a.m.e1 c.m.e0.e2 c.m.e1.e2 c.m.e2.e2 / 256⟩,
  ⟨dot a.m.e2 c.m.e0.e0 c.m.e1.e0 c.m.e2.e0 / 256,dot a.m.e2 c.m.e0.e1 c.m.e1.e1 c.m.e2.e1 / 256,dot a.m.e2 c.m.e0.e2 c.m.e1.e2 c.m.e2.e2 / 256⟩⟩,
  ⟨dot a.m.e0 c.t.x c.t.y c.t.z / 256+a.t.x,dot a.m.e1 c.t.x c.t.y c.t.z / 256+a.t.y,dot a.m.e2 c.t.x c.t.y c.t.z / 256+a.t.z⟩⟩
def xb:b.dm:=⟨⟨⟨0,0,0⟩,⟨0,0,0⟩,⟨0,0,0⟩⟩,⟨0,0,0⟩⟩
open Classical in
noncomputable def ym (a c:b.dm):b.dm×Int:=if E6 a/\E6 c/\E6 (mul a c) then (mul a c,0) else (xb,20)
theorem at9 {c:b.dm} (h:E6 c):(∀ r,LM r->True)/\(lN c.m.e0.e0 4096/\lN c.m.e1.e0 4096/\lN c.m.e2.e0 4096)/\(lN c.m.e0.e1 4096/\lN c.m.e1.e1 4096/\lN c.m.e2.e1 4096)/\(lN c.m.e0.e2 4096/\lN c.m.e1.e2 4096/\lN c.m.e2.e2 4096):=by
 obtain ⟨⟨⟨a1,a2,a3⟩,⟨a4,a5,a6⟩,⟨a7,a8,a9⟩⟩,_⟩:=h;exact ⟨fun _ _=>trivial,⟨Pb a1,Pb a4,Pb a7⟩,⟨Pb a2,Pb a5,Pb a8⟩,⟨Pb a3,Pb a6,Pb a9⟩⟩
theorem aqf (a c:b.dm):b.EV a c=some (ym a c):=by
 unfold b.EV b.O0 b.O1;obtain ⟨e,h1,h2⟩:=DU a;rw [h1];rcases h2 with ⟨rfl,ha⟩ | ⟨rfl,ha⟩
 ·obtain ⟨e,h3,h4⟩:=DU c
  rw [h3];rcases h4 with ⟨rfl,hc⟩ | ⟨rfl,hc⟩
  ·obtain ⟨_,c1,c2,c3⟩:=at9 hc
   unfold b.DK b.rA b.rB b.rC b.HI b.DK b.rA b.rB b.rC;rw [aoL a c.t ha hc.2,O8 a.m ⟨c.m.e0.e0,c.m.e1.e0,c.m.e2.e0⟩ ha.1 c1.1 c1.2.1 c1.2.2,O8 a.m ⟨c.m.e0.e1,c.m.e1.e1,c.m.e2.e1⟩ ha.1 c2.1 c2.2.1 c2.2.2,O8 a.m ⟨c.m.e0.e2,c.m.e1.e2,c.m.e2.e2⟩ ha.1 c3.1 c3.2.1 c3.2.2];simp only [fQ,ee,ak];obtain ⟨e,h5,h6⟩:=DU (mul a c);have h5':=h5;unfold mul at h5';rw [h5'];rcases h6 with ⟨rfl,hm⟩ | ⟨rfl,hm⟩
   ·unfold ym
    rw [aY ⟨ha,hc,hm⟩];rfl
   ·unfold ym
    rw [av fun k=>hm k.2.2];rfl
  ·unfold ym
   rw [av fun k=>hc k.2.1];rfl
 ·unfold ym
  rw [av fun k=>ha k.1];rfl
theorem aqg (a c:b.dm):b.EY a c=some (ym a c):=by
 unfold b.EY b.O5 b.O6;obtain ⟨r,h1,h2⟩:=SZ a;rw [h1];cases r with
 | false=>
  unfold ym;rw [av fun k=>by have:=h2.2 k.1; simp at this];rfl
 | true=>
  have ha:=h2.1 rfl;obtain ⟨r,h3,h4⟩:=SZ c;rw [h3];cases r with
  | false=>
   unfold ym;rw [av fun k=>by have:=h4.2 k.2.1; simp at this];rfl
  | true=>
   have hc:=h4.1 rfl;obtain ⟨_,c1,c2,c3⟩:=at9 hc;obtain ⟨⟨r0,r1,r2⟩,t1,t2,t3⟩:=id ha;have k0:=KO r0 hc.2.1 hc.2.2.1 hc.2.2.2;have k1:=KO r1 hc.2.1 hc.2.2.1 hc.2.2.2;have k2:=KO r2 hc.2.1 hc.2.2.1 hc.2.2.2;unfold b.LL b.HJ b.O7 b.HK b.HL b.HM b.HN b.HO b.HP b.FE b.FF b.FG;rw [amF a.m c.t ha.1 hc.2,xa _ ⟨c.m.e0.e0,c.m.e1.e0,c.m.e2.e0⟩ r0 c1,xa _ ⟨c.m.e0.e1,c.m.e1.e1,c.m.e2.e1⟩ r0 c2,xa _ ⟨c.m.e0.e2,c.m.e1.e2,c.m.e2.e2⟩ r0 c3,xa _ ⟨c.m.e0.e0,c.m.e1.e0,c.m.e2.e0⟩ r1 c1,xa _ ⟨c.m.e0.e1,c.m.e1.e1,c.m.e2.e1⟩ r1 c2,xa _ ⟨c.m.e0.e2,c.m.e1.e2,c.m.e2.e2⟩ r1 c3,xa _ ⟨c.m.e0.e0,c.m.e1.e0,c.m.e2.e0⟩ r2 c1,xa _ ⟨c.m.e0.e1,c.m.e1.e1,c.m.e2.e1⟩ r2 c2,xa _ ⟨c.m.e0.e2,c.m.e1.e2,c.m.e2.e2⟩ r2 c3];simp only [fQ,ee,ak];have ep:b.CA ⟨dot a.m.e0 c.t.x c.t.y c.t.z / 256,dot a.m.e1 c.t.x c.t.y c.t.z / 256,dot a.m.e2 c.t.x c.t.y c.t.z / 256⟩ a.t=some (mul a c).t:=by
    unfold b.CA mul;unfold lN at *;rw [cd (by dsimp only; omega) (by dsimp only; omega),cd (by dsimp only; omega) (by dsimp only; omega),cd (by dsimp only; omega) (by dsimp only; omega)]
   rw [ep];simp only [fQ,ee,ak];obtain ⟨r,h5,h6⟩:=SZ (mul a c);have h5':=h5;unfold mul at h5';rw [show (mul a c).t=⟨dot a.m.e0 c.t.x c.t.y c.t.z / 256+a.t.x,dot a.m.e1 c.t.x c.t.y c.t.z / 256+a.t.y,dot a.m.e2 c.t.x c.t.y c.t.z / 256+a.t.z⟩ from rfl,h5'];cases r with
   | true=>
    unfold ym;rw [aY ⟨ha,hc,h6.1 rfl⟩];rfl
   | false=>
    unfold ym;rw [av fun k=>by have:=h6.2 k.2.2; simp at this];rfl
def PV:b.fO:=⟨0,0,0⟩
def aoM:Sl Int:=⟨0,fun _=>0⟩
def afb (s:b.aP) (n:b.Node):Prop:=(1<=n.kind/\n.kind<=5)/\Jz n.b7/\(n.b7.bN.e1=0\/n.b7.look.cN < (s.dD.n:Int))/\(n.kind=2->E6 n.gd)/\(n.kind≠2->n.gd=xb)/\(n.kind≠3->n.uz=0)/\(n.kind=4->qS n.cl 4096/\aiE n.nb)/\(n.kind≠4->n.cl=PV/\n.nb.n=0)/\(n.kind=5->0<=n.cJ/\n.cJ < (s.bX.n:Int))/\(n.kind≠5->n.cJ=0)
theorem Nl {c:Bool} {p:Prop} (h:c=true↔p):(!c)=true↔¬ p:=by
 cases c <;> simp at h ⊢ <;> exact h
theorem adv {c d:Bool} {p q:Prop} (h:c=true↔p) (k:d=true↔q):(c&&d)=true↔p/\q:=by
 rw [aA,h,k]
theorem orI {c d:Bool} {p q:Prop} (h:c=true↔p) (k:d=true↔q):(c||d)=true↔p\/q:=by
 rw [uB,h,k]
theorem Ea {p:Prop} [Decidable p] : decide p=true↔p:=decide_eq_true_iff
theorem LZ {x y:Int} : (x==y)=true↔x=y:=ko
theorem neI {x y:Int} : (x != y)=true↔x≠y:=bne_iff_ne
theorem aw1 (m:b.dm):((m.m.e0.e0==(0:Int))&&((m.m.e0.e1==(0:Int))&&((m.m.e0.e2==(0:Int))&&((m.m.e1.e0==(0:Int))&&((m.m.e1.e1==(0:Int))&&((m.m.e1.e2==(0:Int))&&((m.m.e2.e0==(0:Int))&&((m.m.e2.e1==(0:Int))&&((m.m.e2.e2==(0:Int))&&((m.t.x==(0:Int))&&((m.t.y==(0:Int))&&((m.t.z==(0:Int))&&true))))))))))))=true↔m=xb:=afa m xb
theorem aw2 (v:b.fO):((v.x==(0:Int))&&((v.y==(0:Int))&&((v.z==(0:Int))&&true)))=true↔v=PV:=amE v PV
theorem aqh {l:Sl Int} (h:l.n=0):aiE l:=⟨fun j hj=>absurd hj (by omega),by omega⟩
theorem aua:qS PV 4096:=by unfold qS lN PV; simp
theorem aoN (s:b.aP) (n:b.Node) (hs:Pa n.b7) (hn:n.nb.n < 1000000):∃ r,b.vq s n=some r/\(r=true↔afb s n):=by
 unfold b.vq b.EM b.lM b.aC b.aD;obtain ⟨r0,q0,i0⟩:=amD n.b7 hs;obtain ⟨r1,q1,i1⟩:=SZ n.gd;have q2:=ak3 n.cl 4096 (by omega) (by omega);obtain ⟨r3,q3,i3⟩:=aqe n.nb hn;simp only [q0,q1,q2,q3,fQ,ee,ak,cc2,cc];have hz:=aw1 n.gd;have hv:=aw2 n.cl;have aoO:0<=n.b7.bN.e1:=hs.2.1.1;refine AJ Ea (fun h k=>absurd k.1.1 (by omega)) fun k1=>?_;refine AJ Ea (fun h k=>absurd k.1.2 (by omega)) fun k2=>?_;refine AJ (Nl i0) (fun h k=>h k.2.1) fun k3=>?_;refine AJ (adv Ea Ea) (fun h k=>by rcases k.2.2.1 with g | g <;> omega) fun k4=>?_;refine AJ (adv neI (Nl hz)) (fun h k=>h.2 (k.2.2.2.2.1 h.1)) fun k5=>?_;refine AJ (adv LZ (Nl i1)) (fun h k=>h.2 (k.2.2.2.1 h.1)) fun k6=>?_;refine AJ (adv neI neI) (fun h k=>h.2 (k.2.2.2.2.2.1 h.1)) fun k7=>?_;refine AJ (adv neI (orI (Nl hv) Ea)) (fun h k=>by
  have:=k.2.2.2.2.2.2.2.1 h.1;rcases h.2 with g | g
  ·exact g this.1
  ·omega) fun k8=>?_
 have c3:Jz n.b7:=Classical.byContradiction k3;have c5:n.kind≠2->n.gd=xb:=fun h=>Classical.byContradiction fun g=>k5 ⟨h,g⟩;have c6:n.kind=2->E6 n.gd:=fun h=>Classical.byContradiction fun g=>k6 ⟨h,g⟩;have c7:n.kind≠3->n.uz=0:=fun h=>Classical.byContradiction fun g=>k7 ⟨h,g⟩;have c8:n.kind≠4->n.cl=PV/\n.nb.n=0:=fun h=>⟨Classical.byContradiction fun g=>k8 ⟨h,.inl g⟩,Classical.byContradiction fun g=>k8 ⟨h,.inr (by omega)⟩⟩
 have c4:n.b7.bN.e1=0\/n.b7.look.cN < (s.dD.n:Int):=by omega
 by_cases h5:n.kind=5
 ·have e5:(n.kind==(5:Int))=true:=LZ.2 h5
  rw [e5,ak];refine DW Ea (fun h k=>absurd (k.2.2.2.2.2.2.2.2.1 h5).1 (by omega)) fun k9=>?_;exact ⟨_,rfl,Ea.trans ⟨fun h=>⟨⟨by omega,by omega⟩,c3,c4,c6,c5,c7,fun h=>absurd h (by omega),c8,fun _=>⟨by omega,h⟩,fun h=>absurd h5 h⟩,fun h=>(h.2.2.2.2.2.2.2.2.1 h5).2⟩⟩
 ·have e5:(n.kind==(5:Int))=false:=by
   rw [<- Bool.not_eq_true,LZ]; exact h5
  rw [e5,ba];refine DW (adv LZ Ea) (fun h k=>h ⟨k.2.2.2.2.2.2.2.2.2 h5,by
   by_cases h4:n.kind=4
   ·exact (k.2.2.2.2.2.2.1 h4).1
   ·rw [(c8 h4).1]; exact aua⟩) fun ⟨k9,k10⟩=>?_
  refine ⟨_,rfl,i3.trans ⟨fun h=>⟨⟨by omega,by omega⟩,c3,c4,c6,c5,c7,fun _=>⟨k10,h⟩,c8,fun h=>absurd h h5,fun _=>k9⟩,fun h=>?_⟩⟩;by_cases h4:n.kind=4
  ·exact (h.2.2.2.2.2.2.1 h4).2
  ·exact aqh (c8 h4).2
def aiG (n:b.Node):Prop:=(1<=n.kind/\n.kind<=5)/\(n.kind=2->E6 n.gd)/\(n.kind=4->qS n.cl 4096/\aiE n.nb)
open Classical in
theorem aoP (n:b.Node) (hn:n.nb.n < 1000000):∃ ok,b.xv n=some (⟨n.kind,if n.kind=2 then n.gd else xb,if n.kind=3 then n.uz else 0,if n.kind=4 then n.cl else PV,if n.kind=4 then n.nb else aoM,if n.kind=5 then n.cJ else 0,n.b7⟩,ok)/\(ok=true↔aiG n):=by
 unfold b.xv b.GN b.GP b.GQ;obtain ⟨e1,q1,i1⟩:=DU n.gd;have q2:=adu n.cl;obtain ⟨r3,q3,i3⟩:=asA n.nb hn;simp only [q1,q2,q3,fQ,ee,ak];obtain ⟨k,m,o,c,f,x,st⟩:=n
 dsimp only at *
 unfold aiG
 dsimp only
 by_cases h1:k=1
 ·subst h1
  exact ⟨true,rfl,by simp⟩
 have g1:(k==(1:Int))=false:=by rw [<- Bool.not_eq_true,LZ]; exact h1
 rw [g1,ba];by_cases h2:k=2
 ·subst h2
  refine ⟨_,rfl,?_⟩;rw [LZ];rcases i1 with ⟨a,c⟩ | ⟨a,c⟩ <;> simp [a,c]
 have g2:(k==(2:Int))=false:=by rw [<- Bool.not_eq_true,LZ]; exact h2
 rw [g2,ba];by_cases h3:k=3
 ·subst h3
  exact ⟨true,rfl,by simp⟩
 have g3:(k==(3:Int))=false:=by rw [<- Bool.not_eq_true,LZ]; exact h3
 rw [g3,ba];by_cases h4:k=4
 ·subst h4
  by_cases hv:qS c 4096
  ·rw [aY hv]
   exact ⟨r3,rfl,i3.trans (by simp [hv])⟩
  ·rw [av hv]
   exact ⟨false,rfl,by simp [hv]⟩
 have g4:(k==(4:Int))=false:=by rw [<- Bool.not_eq_true,LZ]; exact h4
 rw [g4,ba];by_cases h5:k=5
 ·subst h5
  exact ⟨true,rfl,by simp⟩
 have g5:(k==(5:Int))=false:=by rw [<- Bool.not_eq_true,LZ]; exact h5
 rw [g5,ba,av h2,av h3,av h4,av h4,av h5];exact ⟨false,rfl,by simp; omega⟩
theorem DX {p:Prop} {c:Bool} {x:Option Int} {Q:Prop} (hc:c=true↔p) (h1:p->¬ Q) (h2 : ¬ p->∃ e,x=some e/\(e=0/\Q\/e=8/\¬ Q)):∃ e,cond c (some 8) x=some e/\(e=0/\Q\/e=8/\¬ Q):=by
 cases c with
 | true=>exact ⟨8,rfl,.inr ⟨rfl,h1 (hc.1 rfl)⟩⟩
 | false=>exact h2 fun q=>by have:=hc.2 q; simp at this
theorem aqi (s:b.aP) (n:b.Node) (hs:Pa n.b7) (hn:n.nb.n < 1000000):∃ e,b.pW s n=some e/\(e=0/\afb s n\/e=8/\¬ afb s n):=by
 unfold b.pW b.AE b.uK b.AG;obtain ⟨ok,q1,i1⟩:=aoP n hn;simp only [q1,fQ,ee,ak];obtain ⟨r2,q2,i2⟩:=aiF ⟨n.kind,if n.kind=2 then n.gd else xb,if n.kind=3 then n.uz else 0,if n.kind=4 then n.cl else PV,if n.kind=4 then n.nb else aoM,if n.kind=5 then n.cJ else 0,n.b7⟩ n (by
  by_cases h:n.kind=4
  ·simp only [aY h]; exact hn
  ·simp only [av h]; exact (by decide:(0:Nat) < 1000000))
 obtain ⟨e3,q3,i3⟩:=aoH n.b7;simp only [q2,q3,fQ,ee,ak,cc2,cc];have aoO:0<=n.b7.bN.e1:=hs.2.1.1;have i2' : r2=true↔(n.kind≠2->n.gd=xb)/\(n.kind≠3->n.uz=0)/\(n.kind≠4->n.cl=PV/\n.nb.n=0)/\(n.kind≠5->n.cJ=0):=by
  rw [i2];unfold Nk
  dsimp only
  constructor
  ·rintro ⟨_,a2,a3,a4,a5,a6,_⟩
   refine ⟨fun h=>?_,fun h=>?_,fun h=>⟨?_,?_⟩,fun h=>?_⟩
   ·rw [av h] at a2; exact a2.symm
   ·rw [av h] at a3; exact a3.symm
   ·rw [av h] at a4; exact a4.symm
   ·rw [av h] at a5; exact a5.1.symm
   ·rw [av h] at a6; exact a6.symm
  ·rintro ⟨a1,a2,a3,a4⟩
   refine ⟨rfl,?_,?_,?_,?_,?_,rfl⟩
   ·by_cases h:n.kind=2
    ·rw [aY h]
    ·rw [av h]; exact (a1 h).symm
   ·by_cases h:n.kind=3
    ·rw [aY h]
    ·rw [av h]; exact (a2 h).symm
   ·by_cases h:n.kind=4
    ·rw [aY h]
    ·rw [av h]; exact (a3 h).1.symm
   ·by_cases h:n.kind=4
    ·rw [aY h]; exact Sp.refl _
    ·rw [av h]; exact ⟨(a3 h).2.symm,fun i hi=>absurd hi (o6 i)⟩
   ·by_cases h:n.kind=5
    ·rw [aY h]
    ·rw [av h]; exact (a4 h).symm
 refine DX (Nl i1) (fun h k=>h ⟨k.1,k.2.2.2.1,k.2.2.2.2.2.2.1⟩) fun k1=>?_;refine DX (Nl i2') (fun h k=>h ⟨k.2.2.2.2.1,k.2.2.2.2.2.1,k.2.2.2.2.2.2.2.1,k.2.2.2.2.2.2.2.2.2⟩) fun k2=>?_;refine DX neI (fun h k=>by
  rcases i3 with g | g
  ·exact h g.1
  ·exact g.2 k.2.1) fun k3=>?_
 have c1:aiG n:=Classical.byContradiction k1;have c2:=Classical.byContradiction k2;have c3:Jz n.b7:=by
  rcases i3 with g | g
  ·exact g.2
  ·exact absurd (fun h=>by rw [g.1] at h; simp at h) k3
 refine DX (adv LZ (orI Ea Ea)) (fun h k=>by have:=k.2.2.2.2.2.2.2.2.1 h.1; omega) fun k4=>?_;refine DX (adv neI Ea) (fun h k=>by rcases k.2.2.1 with g | g <;> omega) fun k5=>?_;exact ⟨0,rfl,.inl ⟨rfl,c1.1,c3,by omega,c1.2.1,c2.1,c2.2.1,c1.2.2,c2.2.2.1,fun h=>by omega,c2.2.2.2⟩⟩
end Go.Proofs.YtckbdndhmcoihaaGreat.sc
end
section
namespace Go.Proofs.YtckbdndhmcoihaaGreat.nodes
open Go Go.K
def Xg (s:b.Slot):Prop:=1<=s.gen/\s.gen<=1073741824
structure yT (a:b.jH):Prop where
 few:a.bJ.n<=128
 arI:∀ i,i < a.bJ.n->Xg (a.bJ.get i)
theorem Sq (a:b.jH):∃ n,b.fB a=some n/\(n=0/\yT a\/n=8/\¬ yT a):=by
 unfold b.fB;by_cases h:((a.bJ.n:Nat):Int) > 128
 ·rw [aq h,ak]
  exact ⟨8,rfl,.inr ⟨rfl,fun k=>by have:=k.few; omega⟩⟩
 ·rw [bj h,ba]
  obtain ⟨e,x',h1,h2⟩:∃ e x',b.vb a = .out e x'/\((e = .exit 0/\∀ i,i < a.bJ.n->Xg (a.bJ.get i))\/(e = .ret/\0<=x'.t4/\¬ yT a)):=by
   unfold b.vb;refine jo (X:=b.bx) (fun j x=>x.s=a.bJ/\x.t7=(a.bJ.n:Int)/\x.t8=(j:Int)/\∀ i,i < j->Xg (a.bJ.get i)) (fun e x'=>(e = .exit 0/\∀ i,i < a.bJ.n->Xg (a.bJ.get i))\/(e = .ret/\0<=x'.t4/\¬ yT a)) a.bJ.n (by unfold iH; omega) ?_ ⟨rfl,rfl,rfl,fun i hi=>absurd hi (o6 _)⟩;rintro j ⟨s,t4,t7,t8⟩ hj ⟨rfl,rfl,rfl,dt⟩;unfold b.du
   dsimp only
   by_cases bG:(j:Int) < (a.bJ.n:Int)
   ·have h0:(0:Int)<=(j:Int):=by omega
    rw [aq bG,aq h0,ak,pR,ak];have ej:Int.toNat (j:Int)=j:=rfl;rw [ej];by_cases g1:(a.bJ.get j).gen < 1
    ·rw [aq g1,ak]
     exact .inr ⟨_,_,rfl,rfl,.inr ⟨rfl,h0,fun k=>by have:=(k.arI j (by omega)).1; omega⟩⟩
    ·rw [bj g1,ba]
     by_cases g2:(a.bJ.get j).gen > 1073741824
     ·rw [aq g2,ak]
      exact .inr ⟨_,_,rfl,rfl,.inr ⟨rfl,h0,fun k=>by have:=(k.arI j (by omega)).2; omega⟩⟩
     ·rw [bj g2,ba]
      refine .inl ⟨_,rfl,by omega,rfl,rfl,?_,fun i hi=>?_⟩
      ·show aR ((j:Int)+1)=_
       rw [cd (by omega) (by omega)];omega
      ·by_cases e:i=j
       ·subst e; exact ⟨by omega,by omega⟩
       ·exact dt i (by omega)
   ·rw [bj bG,ba]
    exact .inr ⟨_,_,rfl,rfl,.inl ⟨rfl,fun i hi=>dt i (by omega)⟩⟩
  rw [h1];rcases h2 with ⟨rfl,h2⟩ | ⟨rfl,h2,h3⟩
  ·exact ⟨0,rfl,.inl ⟨rfl,by omega,h2⟩⟩
  ·refine ⟨8,?_,.inr ⟨rfl,h3⟩⟩
   show cond false _ (cond true (cond (decide (x'.t4 >= 0)) _ _) _)=_;rw [aq (show x'.t4 >= 0 from h2)];rfl
def pf (a:b.jH) (h:b.Handle):Prop:=0<=h.slot/\h.slot < (a.bJ.n:Int)/\(a.bJ.get h.slot.toNat).gen=h.gen/\(a.bJ.get h.slot.toNat).live=true
theorem aqj (a:b.jH) (h:b.Handle):∃ r,b.nC a h=some r/\(r=true↔pf a h):=by
 unfold b.nC pf;by_cases h1:h.slot >= 0
 ·by_cases h2:h.slot < (a.bJ.n:Int)
  ·rw [aq h1,aq h2,ak,ak]
   refine ⟨_,rfl,?_⟩;simp only [aA,ko,pR];exact ⟨fun k=>⟨h1,h2,k.1,k.2⟩,fun k=>⟨k.2.2.1,k.2.2.2⟩⟩
  ·rw [aq h1,bj h2,ak,ba]
   exact ⟨false,rfl,⟨fun k=>by simp at k,fun k=>absurd k.2.1 h2⟩⟩
 ·rw [bj h1,ba]
  exact ⟨false,rfl,⟨fun k=>by simp at k,fun k=>absurd k.1 h1⟩⟩
theorem adw (a:b.jH) (h:b.Handle):∃ r,b.eG a h=some r/\(r=true↔yT a/\pf a h):=by
 obtain ⟨n,hn,hs⟩:=Sq a;obtain ⟨r,hr,hh⟩:=aqj a h;unfold b.eG b.vc b.vd;rw [hn,hr];rcases hs with ⟨rfl,ha⟩ | ⟨rfl,ha⟩
 ·exact ⟨r,rfl,hh.trans ⟨fun k=>⟨ha,k⟩,fun k=>k.2⟩⟩
 ·exact ⟨false,rfl,⟨fun k=>by simp at k,fun k=>absurd k.1 ha⟩⟩
theorem aqk (a:b.jH) (Zg:a.bJ.n < 1000000):∃ r,b.Ez a=some r/\(r=true↔yT a):=by
 unfold b.Ez;obtain ⟨e,x',h1,h2⟩:∃ e x',b.zh a = .out e x'/\((e = .exit 0/\x'.a=a/\∀ i,i < a.bJ.n->Xg (a.bJ.get i))\/(e = .ret/\x'.t2=false/\¬ yT a)):=by
  unfold b.zh;refine jo (X:=b.kR) (fun j x=>x.a=a/\x.i=(j:Int)/\∀ i,i < j->Xg (a.bJ.get i)) (fun e x'=>(e = .exit 0/\x'.a=a/\∀ i,i < a.bJ.n->Xg (a.bJ.get i))\/(e = .ret/\x'.t2=false/\¬ yT a)) a.bJ.n (by unfold iH; omega) ?_ ⟨rfl,rfl,fun i hi=>absurd hi (o6 _)⟩;rintro j ⟨t2,ii,aa⟩ hj ⟨rfl,rfl,dt⟩;unfold b.rO
  dsimp only
  by_cases bG:(j:Int) < (aa.bJ.n:Int)
  ·have h0:(0:Int)<=(j:Int):=by omega
   rw [aq bG,aq h0];simp only [pR,ak];have ej:Int.toNat (j:Int)=j:=rfl;rw [ej];by_cases g1:(aa.bJ.get j).gen < 1
   ·rw [aq g1,ak]
    exact .inr ⟨_,_,rfl,rfl,.inr ⟨rfl,rfl,fun k=>by have:=(k.arI j (by omega)).1; omega⟩⟩
   ·rw [bj g1,ba]
    by_cases g2:(aa.bJ.get j).gen > 1073741824
    ·rw [aq g2,ak]
     exact .inr ⟨_,_,rfl,rfl,.inr ⟨rfl,rfl,fun k=>by have:=(k.arI j (by omega)).2; omega⟩⟩
    ·rw [bj g2,ba]
     refine .inl ⟨_,rfl,by omega,rfl,?_,fun i hi=>?_⟩
     ·show aR ((j:Int)+1)=_
      rw [cd (by omega) (by omega)];omega
     ·by_cases e:i=j
      ·subst e; exact ⟨by omega,by omega⟩
      ·exact dt i (by omega)
  ·rw [bj bG,ba]
   exact .inr ⟨_,_,rfl,rfl,.inl ⟨rfl,rfl,fun i hi=>dt i (by omega)⟩⟩
 rw [h1];rcases h2 with ⟨rfl,ha,h2⟩ | ⟨rfl,h2,h3⟩
 ·refine ⟨decide (((x'.a.bJ.n:Nat):Int)<=128),rfl,?_⟩
  rw [ha,decide_eq_true_iff];exact ⟨fun k=>⟨by omega,h2⟩,fun k=>by have:=k.few; omega⟩
 ·exact ⟨x'.t2,rfl,⟨fun k=>by rw [h2] at k; simp at k,fun k=>absurd k h3⟩⟩
theorem adx (a:b.jH) (h:b.Handle):∃ r,b.yN a h=some r/\(r=true↔pf a h):=by
 unfold b.yN pf;by_cases h1:h.slot >= 0
 ·by_cases h2:h.slot < (a.bJ.n:Int)
  ·rw [aq h1,aq h2]
   cases hl:(a.bJ.get h.slot.toNat).live with
   | true=>
    refine ⟨((a.bJ.get h.slot.toNat).gen==h.gen),rfl,?_⟩;rw [ko];exact ⟨fun k=>⟨h1,h2,k,rfl⟩,fun k=>k.2.2.1⟩
   | false=>exact ⟨false,rfl,⟨fun k=>by simp at k,fun k=>by have:=k.2.2.2; simp at this⟩⟩
  ·rw [aq h1,bj h2]
   exact ⟨false,rfl,⟨fun k=>by simp at k,fun k=>absurd k.2.1 h2⟩⟩
 ·rw [bj h1]
  exact ⟨false,rfl,⟨fun k=>by simp at k,fun k=>absurd k.1 h1⟩⟩
theorem aoQ (g:b.dG) (t:Bool) (i:Nat) (hi:i < g.kids.n) (Zg:(g.kids.get i).n < 1000000) :
  ∃ e x',goN b.cn (⟨t,(i:Int),(0:Int),g⟩:b.cj) = .out e x'/\x'.g=g/\x'.i=(i:Int)/\((e = .exit 2/\x'.t2=t/\∀ k,k < (g.kids.get i).n->pf g.ca ((g.kids.get i).get k))\/(e = .ret/\x'.t2=false/\∃ k,k < (g.kids.get i).n/\¬ pf g.ca ((g.kids.get i).get k))):=by
 refine jo (X:=b.cj) (fun j x=>x.g=g/\x.i=(i:Int)/\x.t2=t/\x.k=(j:Int)/\∀ k,k < j->pf g.ca ((g.kids.get i).get k)) (fun e x'=>x'.g=g/\x'.i=(i:Int)/\((e = .exit 2/\x'.t2=t/\∀ k,k < (g.kids.get i).n->pf g.ca ((g.kids.get i).get k))\/(e = .ret/\x'.t2=false/\∃ k,k < (g.kids.get i).n/\¬ pf g.ca ((g.kids.get i).get k)))) (g.kids.get i).n (by unfold iH; omega) ?_ ⟨rfl,rfl,rfl,rfl,fun k hk=>absurd hk (o6 _)⟩;rintro j ⟨t2,ii,kk,gg⟩ hj ⟨rfl,rfl,rfl,rfl,dt⟩;unfold b.cn b.Dj
 dsimp only
 have hi:i < gg.kids.n:=hi;have hj:j<=(gg.kids.get i).n:=hj;have hi0:(0:Int)<=(i:Int):=by omega
 have hiz:(i:Int) < (gg.kids.n:Int):=by omega
 have ei:Int.toNat (i:Int)=i:=rfl;have ej:Int.toNat (j:Int)=j:=rfl;rw [ei,ej,aq hi0,aq hiz];simp only [pR,ak];by_cases bG:(j:Int) < ((gg.kids.get i).n:Int)
 ·have h0:(0:Int)<=(j:Int):=by omega
  obtain ⟨r,hr,hh⟩:=adx gg.ca ((gg.kids.get i).get j);rw [aq bG,aq h0];simp only [pR,ak];rw [hr];simp only [fQ,ak,ee];cases r with
  | false=>exact .inr ⟨_,_,rfl,rfl,rfl,rfl,.inr ⟨rfl,rfl,j,by omega,fun k=>by have:=hh.2 k; simp at this⟩⟩
  | true=>
   refine .inl ⟨_,rfl,by omega,rfl,rfl,rfl,?_,fun k hk=>?_⟩
   ·show aR ((j:Int)+1)=_
    rw [cd (by omega) (by omega)];omega
   ·by_cases e:k=j
    ·subst e; exact hh.1 rfl
    ·exact dt k (by omega)
 ·rw [bj bG,ba]
  exact .inr ⟨_,_,rfl,rfl,rfl,rfl,.inl ⟨rfl,rfl,fun k hk=>dt k (by omega)⟩⟩
def Nn (g:b.dG) (i:Nat):Prop:=(g.kids.get i).n<=16/\(0 < (g.kids.get i).n->(g.ca.bJ.get i).live=true)/\∀ k,k < (g.kids.get i).n->pf g.ca ((g.kids.get i).get k)
theorem aoR (g:b.dG) (hlen:g.kids.n=g.ca.bJ.n) (Zg:g.kids.n < 1000000) :
  ∃ e x',b.zm g = .out e x'/\((e = .exit 0/\x'.g=g/\∀ i,i < g.kids.n->Nn g i)\/(e = .ret/\x'.t2=false/\∃ i,i < g.kids.n/\¬ Nn g i)):=by
 unfold b.zm;refine jo (X:=b.dV) (fun j x=>x.g=g/\x.i=(j:Int)/\x.t2=false/\∀ i,i < j->Nn g i) (fun e x'=>(e = .exit 0/\x'.g=g/\∀ i,i < g.kids.n->Nn g i)\/(e = .ret/\x'.t2=false/\∃ i,i < g.kids.n/\¬ Nn g i)) g.kids.n (by unfold iH; omega) ?_ ⟨rfl,rfl,rfl,fun k hk=>absurd hk (o6 _)⟩;rintro j ⟨t2,ii,gg⟩ hj ⟨rfl,rfl,rfl,dt⟩;have hj:j<=gg.kids.n:=hj;have hlen:gg.kids.n=gg.ca.bJ.n:=hlen;have Zg:gg.kids.n < 1000000:=Zg;unfold b.rP b.fg
 dsimp only
 by_cases bG:(j:Int) < (gg.kids.n:Int)
 ·have h0:(0:Int)<=(j:Int):=by omega
  have hs:(j:Int) < (gg.ca.bJ.n:Int):=by omega
  have ej:Int.toNat (j:Int)=j:=rfl;rw [ej,aq bG,aq h0,aq hs];simp only [pR,ak];by_cases h16:((gg.kids.get j).n:Int) > 16
  ·rw [aq h16,ak]
   exact .inr ⟨_,_,rfl,rfl,.inr ⟨rfl,rfl,j,by omega,fun k=>by have:=k.1; omega⟩⟩
  ·rw [bj h16,ba]
   obtain ⟨e,x',k1,k2,k3,k4⟩:=aoQ gg false j (by omega) (by omega);have fin:(0 < (gg.kids.get j).n->(gg.ca.bJ.get j).live=true)->(∃ x2,(cond ((goN b.cn (⟨false,(j:Int),(0:Int),gg⟩:b.cj)).by (aB.ae.exit 2)) (.next (⟨(goN b.cn (⟨false,(j:Int),(0:Int),gg⟩:b.cj)).st.t2,(aR ((goN b.cn (⟨false,(j:Int),(0:Int),gg⟩:b.cj)).st.i+(1:Int))),(goN b.cn (⟨false,(j:Int),(0:Int),gg⟩:b.cj)).st.g⟩:b.dV)) (cond ((goN b.cn (⟨false,(j:Int),(0:Int),gg⟩:b.cj)).by aB.ae.ret) (.out aB.ae.ret (⟨(goN b.cn (⟨false,(j:Int),(0:Int),gg⟩:b.cj)).st.t2,(goN b.cn (⟨false,(j:Int),(0:Int),gg⟩:b.cj)).st.i,(goN b.cn (⟨false,(j:Int),(0:Int),gg⟩:b.cj)).st.g⟩:b.dV)) .fail):aW b.dV) = .next x2/\j < gg.kids.n/\x2.g=gg/\x2.i=((j+1:Nat):Int)/\x2.t2=false/\∀ i,i < j+1->Nn gg i)\/∃ e x2,(cond ((goN b.cn (⟨false,(j:Int),(0:Int),gg⟩:b.cj)).by (aB.ae.exit 2)) (.next (⟨(goN b.cn (⟨false,(j:Int),(0:Int),gg⟩:b.cj)).st.t2,(aR ((goN b.cn (⟨false,(j:Int),(0:Int),gg⟩:b.cj)).st.i+(1:Int))),(goN b.cn (⟨false,(j:Int),(0:Int),gg⟩:b.cj)).st.g⟩:b.dV)) (cond ((goN b.cn (⟨false,(j:Int),(0:Int),gg⟩:b.cj)).by aB.ae.ret) (.out aB.ae.ret (⟨(goN b.cn (⟨false,(j:Int),(0:Int),gg⟩:b.cj)).st.t2,(goN b.cn (⟨false,(j:Int),(0:Int),gg⟩:b.cj)).st.i,(goN b.cn (⟨false,(j:Int),(0:Int),gg⟩:b.cj)).st.g⟩:b.dV)) .fail):aW b.dV) = .out e x2/\u7 e=false/\((e = .exit 0/\x2.g=gg/\∀ i,i < gg.kids.n->Nn gg i)\/(e = .ret/\x2.t2=false/\∃ i,i < gg.kids.n/\¬ Nn gg i)):=by
    intro hl;rw [k1];rcases k4 with ⟨rfl,q1,q2⟩ | ⟨rfl,q1,k,q2,q3⟩
    ·refine .inl ⟨_,rfl,by omega,k2,?_,q1,fun i hi=>?_⟩
     ·show aR (x'.i+1)=_
      rw [k3,cd (by omega) (by omega)];omega
     ·by_cases e:i=j
      ·subst e; exact ⟨by omega,hl,q2⟩
      ·exact dt i (by omega)
    ·exact .inr ⟨_,_,rfl,rfl,.inr ⟨rfl,q1,j,by omega,fun r=>q3 (r.2.2 k q2)⟩⟩
   by_cases D1:((gg.kids.get j).n:Int) > 0
   ·rw [aq D1,ak]
    cases hl:(gg.ca.bJ.get j).live with
    | true=>exact fin fun _=>hl
    | false=>exact .inr ⟨_,_,rfl,rfl,.inr ⟨rfl,rfl,j,by omega,fun r=>by have:=r.2.1 (by omega); rw [hl] at this; simp at this⟩⟩
   ·rw [bj D1,ba]
    exact fin fun h=>absurd h (by omega)
 ·rw [bj bG,ba]
  exact .inr ⟨_,_,rfl,rfl,.inl ⟨rfl,rfl,fun k hk=>dt k (by omega)⟩⟩
theorem arJ {g:b.dG} (ha:yT g.ca) (i:Nat):sm g i↔Nn g i:=by
 have key:∀ h,b.eG g.ca h=some true↔pf g.ca h:=fun h=>by
  obtain ⟨r,hr,hh⟩:=adw g.ca h;rw [hr,di,hh];exact ⟨fun k=>k.2,fun k=>⟨ha,k⟩⟩
 exact ⟨fun h=>⟨h.1,h.2.1,fun k hk=>(key _).1 (h.2.2 k hk)⟩,fun h=>⟨h.1,h.2.1,fun k hk=>(key _).2 (h.2.2 k hk)⟩⟩
theorem xz (g:b.dG):pj g↔yT g.ca/\g.kids.n=g.ca.bJ.n/\(∀ i,i < g.kids.n->Nn g i)/\∀ i,i < g.kids.n->Jc g i:=by
 obtain ⟨n,hn,hs⟩:=Sq g.ca;constructor
 ·intro h
  rcases hs with ⟨rfl,ha⟩ | ⟨rfl,ha⟩
  ·exact ⟨ha,h.len,fun i hi=>(arJ ha i).1 (h.row i hi),h.free⟩
  ·have:=h.bJ
   rw [hn] at this;simp at this
 ·rintro ⟨ha,hl,hr,hf⟩
  rcases hs with ⟨rfl,_⟩ | ⟨rfl,hb⟩
  ·exact ⟨hn,hl,fun i hi=>(arJ ha i).2 (hr i hi),hf⟩
  ·exact absurd ha hb
end Go.Proofs.YtckbdndhmcoihaaGreat.nodes
end
section
namespace Go.Xh
theorem afc:∀ (n:Nat) (g:Nat->Nat),(∀ j,j<=n->g j < n)->∃ i j,i < j/\j<=n/\g i=g j
 | 0,g,h=>absurd (h 0 (aU 0)) (o6 _)
 | n+1,g,h=>by
  by_cases he:∃ i,i<=n/\g i=g (n+1)
  ·obtain ⟨i,hi,e⟩:=he
   exact ⟨i,n+1,by omega,aU _,e⟩
  ·have de:∀ i,i<=n->g i≠g (n+1):=fun i hi e=>he ⟨i,hi,e⟩
   have hl:=h (n+1) (aU _);obtain ⟨i,j,h1,h2,h3⟩:=afc n (fun j=>if g j=n then g (n+1) else g j) fun j hj=>by
    have h1:=h j (by omega);have h2:=de j hj;show (if g j=n then g (n+1) else g j) < n;split <;> omega
   refine ⟨i,j,h1,by omega,?_⟩;have hi:=de i (by omega);have hj:=de j h2;have h3:(if g i=n then g (n+1) else g i)=if g j=n then g (n+1) else g j:=h3;split at h3 <;> split at h3 <;> omega
section
variable (n:Nat) (LO:Nat->Nat) (c:Nat->Nat->Nat)
inductive Below (to:Nat):Nat->Prop where
 | here:Below to to
 | pN (i k:Nat) (hk:k < LO i) (r:Below to (c i k)):Below to i
def Jc:Prop:=∀ i,i < n->∀ k,k < LO i->¬ Below LO c i (c i k)
structure Np (f:Nat->Bool) (m:Nat):Prop where
 list:∃ l:List Nat,l.length=m/\l.Nodup/\(∀ i,i∈l↔i < n/\f i=true)/\∀ a b,l=a++b->∀ i,b.head? = some i->∀ k,k < LO i->c i k∈b.tail
variable {n LO c}
theorem Np.start {f:Nat->Bool} (h:∀ i,i < n->f i=false):Np n LO c f 0:=
 ⟨[],rfl,.nil,fun i=>⟨fun k=>by simp at k,fun ⟨k,e⟩=>by rw [h i k] at e; simp at e⟩,fun a b e i hi=>by
  have:=List.append_eq_nil_iff.1 e.symm;rw [this.2] at hi;simp at hi⟩
theorem Np.more {f:Nat->Bool} {m i:Nat} (h:Np n LO c f m) (hi:i < n) (hf:f i=false) (hc:∀ k,k < LO i->c i k < n/\f (c i k)=true) {f' : Nat->Bool} (he:∀ j,f' j=if j=i then true else f j):Np n LO c f' (m+1):=by
 obtain ⟨l,h1,h2,h3,h4⟩:=h.list;refine ⟨i::l,by rw [CG,h1],List.nodup_cons.2 ⟨fun k=>?_,h2⟩,fun j=>?_,fun a b e j hj k hk=>?_⟩
 ·have:=((h3 i).1 k).2
  rw [hf] at this;simp at this
 ·rw [fA,h3,he]
  by_cases e:j=i
  ·subst e; simp [hi]
  ·simp [e]
 ·cases a with
  | nil=>
   have e:i::l=b:=e;subst e;have e:i=j:=by simpa using hj
   subst e;exact (h3 _).2 (hc k hk)
  | cons x a=>
   rw [List.cons_append,List.cons.injEq] at e;exact h4 a b e.2 j hj k hk
theorem nodup_range:∀ {l:List Nat} {n:Nat},l.Nodup->(∀ i,i∈l->i < n)->l.length<=n:=by
 intro l n h hb;apply Classical.byContradiction;intro hn;obtain ⟨i,j,h1,h2,h3⟩:=afc n (fun j=>l.getD j 0) fun j hj=>by
  have:j < l.length:=by omega
  show l.getD j 0 < n;rw [iK,dr this];exact hb _ (List.getElem_mem this)
 have hi:i < l.length:=by omega
 have hj:j < l.length:=by omega
 have h3:l.getD i 0=l.getD j 0:=h3;rw [iK,dr hi,iK,dr hj] at h3;have:=(List.getElem_inj h).1 h3;omega
theorem Np.le {f:Nat->Bool} {m:Nat} (h:Np n LO c f m):m<=n:=by
 obtain ⟨l,h1,h2,h3,_⟩:=h.list;rw [<- h1];exact nodup_range h2 fun i hi=>((h3 i).1 hi).1
theorem Np.free {f:Nat->Bool} (h:Np n LO c f n):Jc n LO c:=by
 obtain ⟨l,h1,h2,h3,h4⟩:=h.list;have mi:∀ i,i < n->i∈l:=by
  intro i hi;apply Classical.byContradiction;intro hni;have:=nodup_range (l:=i::l) (n:=n) (List.nodup_cons.2 ⟨hni,h2⟩) fun j hj=>by
   rcases fA.1 hj with rfl | hj
   ·exact hi
   ·exact ((h3 j).1 hj).1
  rw [CG,h1] at this;omega
 have key:∀ to x,Below LO c to x->∀ a b,l=a++b->x∈b->to∈b:=by
  intro to x hr
  induction hr with
  | here=>exact fun a b _ hx=>hx
  | pN i k hk _ ih=>
   intro a b e hi;obtain ⟨b1,b2,rfl⟩:=List.append_of_mem hi;have yo:=h4 (a++b1) (i::b2) (by rw [e,List.append_assoc]) i rfl k hk;have:=ih (a++(b1++[i])) b2 (by rw [e]; simp) yo;simp [this]
 intro i hi k hk hb;obtain ⟨a,b,e⟩:=List.append_of_mem (mi i hi);have h5:=h4 a (i::b) e i rfl k hk;have h6:=key i _ hb (a++[i]) b (by rw [e]; simp) h5;rw [e] at h2;have:=(List.nodup_append.1 h2).2.1;exact (List.nodup_cons.1 this).1 h6
def LQ (n:Nat) (LO:Nat->Nat) (c:Nat->Nat->Nat) (f:Nat->Bool):Prop:=∀ i,i < n->f i=false->∃ k,k < LO i/\f (c i k)=false
theorem aoS {f:Nat->Bool} (sq:∀ i,i < n->∀ k,k < LO i->c i k < n) (hs:LQ n LO c f) (hf:Jc n LO c):∀ i,i < n->f i=true:=by
 intro i0 hi0;apply Classical.byContradiction;intro h0;have h0:f i0=false:=by simpa using h0
 have hc:∀ i,∃ j,i < n->f i=false->(j < n/\f j=false/\∃ k,k < LO i/\c i k=j):=by
  intro i;by_cases hi:i < n
  ·by_cases hq:f i=false
   ·obtain ⟨k,h1,h2⟩:=hs i hi hq
    exact ⟨c i k,fun _ _=>⟨sq i hi k h1,h2,k,h1,rfl⟩⟩
   ·exact ⟨0,fun _ k=>absurd k hq⟩
  ·exact ⟨0,fun k=>absurd k hi⟩
 obtain ⟨g,hg⟩:=Classical.axiomOfChoice hc
 let it:Nat->Nat:=fun j=>Nat.rec i0 (fun _ x=>g x) j
 have hit:∀ j,it j < n/\f (it j)=false:=by
  intro j
  induction j with
  | zero=>exact ⟨hi0,h0⟩
  | succ j ih=>exact ⟨(hg _ ih.1 ih.2).1,(hg _ ih.1 ih.2).2.1⟩
 have hup:∀ d j,Below LO c (it (j+d)) (it j):=by
  intro d
  induction d with
  | zero=>exact fun j=>.here
  | succ d ih=>
   intro j;obtain ⟨_,_,k,h1,h2⟩:=hg _ (hit j).1 (hit j).2;have:=ih (j+1);rw [show j+1+d=j+(d+1) by omega] at this;refine .pN _ k h1 ?_;rw [h2];exact this
 obtain ⟨i,j,h1,h2,h3⟩:=afc n it fun j _=>(hit j).1;obtain ⟨_,_,k,q1,q2⟩:=hg _ (hit i).1 (hit i).2;refine hf _ (hit i).1 k q1 ?_;rw [q2];have:=hup (j - (i+1)) (i+1);rw [show i+1+(j - (i+1))=j by omega,<- h3] at this;exact this
theorem Np.full {f:Nat->Bool} {m:Nat} (h:Np n LO c f m) (hf:∀ i,i < n->f i=true):m=n:=by
 have hle:=h.le;obtain ⟨l,h1,h2,h3,_⟩:=h.list;apply Classical.byContradiction;intro de;have hm:∀ i,i < n->i∈l:=fun i hi=>(h3 i).2 ⟨hi,hf i hi⟩;obtain ⟨i,j,q1,q2,q3⟩:=afc m (fun j=>l.idxOf j) fun j hj=>by
  have:=List.idxOf_lt_length_iff.2 (hm j (by omega));show l.idxOf j < m;omega
 have hi:=List.idxOf_lt_length_iff.2 (hm i (by omega));have hj:=List.idxOf_lt_length_iff.2 (hm j (by omega));have e1:=List.getElem_idxOf hi;have e2:=List.getElem_idxOf hj;have q3:l.idxOf i=l.idxOf j:=q3;have e3:l[l.idxOf i]'hi=l[l.idxOf j]'hj:=by congr 1
 rw [e1,e2] at e3;omega
end
end Go.Xh
end
section
namespace Go.Proofs.YtckbdndhmcoihaaGreat.nodes
open Go Go.K Go.Xh
def dg (g:b.dG) (i:Nat):Nat:=(g.kids.get i).n
def ch (g:b.dG) (i k:Nat):Nat:=((g.kids.get i).get k).slot.toNat
structure Fit (g:b.dG):Prop where
 small:g.kids.n < 1000000
 few:∀ i,i < g.kids.n->dg g i < 1000000
 inr:∀ i,i < g.kids.n->∀ k,k < dg g i->0<=((g.kids.get i).get k).slot/\((g.kids.get i).get k).slot < (g.kids.n:Int)
theorem Fit.ch {g:b.dG} (h:Fit g) {i k:Nat} (hi:i < g.kids.n) (hk:k < dg g i):nodes.ch g i k < g.kids.n:=by
 have:=h.inr i hi k hk;unfold nodes.ch;omega
theorem asC {g:b.dG} (hf:Fit g) (t:Bool) (f:Sl Bool) (hn:f.n=g.kids.n) (m ag:Int) (i:Nat) (hi:i < g.kids.n) :
  ∃ a kk,goN b.iQ (⟨t,f,m,ag,(i:Int),true,(0:Int),g⟩:b.eH) = .out (.exit 4) ⟨t,f,m,ag,(i:Int),a,kk,g⟩/\(a=true↔∀ k,k < dg g i->f.get (ch g i k)=true):=by
 have AU:=fun nA=>jo (X:=b.eH) (step:=b.iQ) (fun j x=>∃ a,x=⟨t,f,m,ag,(i:Int),a,(j:Int),g⟩/\(a=true↔∀ k,k < j->f.get (ch g i k)=true)) (fun e x'=>e = .exit 4/\∃ a kk,x' = ⟨t,f,m,ag,(i:Int),a,kk,g⟩/\(a=true↔∀ k,k < dg g i->f.get (ch g i k)=true)) (dg g i) (by have:=hf.few i hi; unfold iH; omega) nA (x:=⟨t,f,m,ag,(i:Int),true,(0:Int),g⟩) ⟨true,rfl,by simp⟩;refine Exists.elim (AU ?_) fun e ⟨x,h1,he,a,kk,hx,h2⟩=>?_
 rotate_left
 ·subst he hx; exact ⟨a,kk,h1,h2⟩
 rintro j _ hj ⟨a,rfl,ha⟩;have hfew:=hf.few i hi;unfold b.iQ
 dsimp only
 have hi0:(0:Int)<=(i:Int):=by omega
 have hiz:(i:Int) < (g.kids.n:Int):=by omega
 have ei:Int.toNat (i:Int)=i:=rfl;have ej:Int.toNat (j:Int)=j:=rfl;rw [ei,ej,aq hi0,aq hiz];simp only [pR,ak,cv];by_cases bG:(j:Int) < ((g.kids.get i).n:Int)
 ·have hjd:j < dg g i:=by unfold dg; omega
  have h0:(0:Int)<=(j:Int):=by omega
  obtain ⟨q1,q2⟩:=hf.inr i hi j hjd;have q2' : ((g.kids.get i).get j).slot < (f.n:Int):=by rw [hn]; exact q2
  rw [aq bG,aq h0,aq q1,aq q2'];simp only [pR,ak,bM];have ec:f.get (Int.toNat ((g.kids.get i).get j).slot)=f.get (ch g i j):=rfl;rw [ec];have ew:aR ((j:Int)+1)=((j+1:Nat):Int):=by rw [cd (by omega) (by omega)]; omega
  rw [ew];cases hc:f.get (ch g i j) with
  | true=>
   refine .inl ⟨_,rfl,hjd,a,rfl,ha.trans ⟨fun h k hk=>?_,fun h k hk=>h k (by omega)⟩⟩;by_cases e:k=j
   ·subst e; exact hc
   ·exact h k (by omega)
  | false=>
   refine .inl ⟨_,rfl,hjd,false,rfl,⟨fun h=>by simp at h,fun h=>?_⟩⟩;have:=h j (by omega);rw [hc] at this;simp at this
 ·rw [bj bG,ba]
  have hjd:j=dg g i:=by unfold dg at hj ⊢; omega
  subst hjd;exact .inr ⟨_,_,rfl,rfl,rfl,a,_,rfl,ha⟩
theorem aql {g:b.dG} (hf:Fit g) (t:Bool) (f:Sl Bool) (hn:f.n=g.kids.n) (m:Nat) (ag:Int) (hc:Np g.kids.n (dg g) (ch g) f.get m) :
  ∃ x',goN b.kd (⟨t,f,(m:Int),ag,(0:Int),g⟩:b.e8) = .out (.exit 2) x'/\x'.g=g/\x'.again=ag/\x'.cH.n=g.kids.n/\∃ m',x'.n=((m' : Nat):Int)/\Np g.kids.n (dg g) (ch g) x'.cH.get m'/\m<=m'/\(m' = m->LQ g.kids.n (dg g) (ch g) x'.cH.get)/\(LQ g.kids.n (dg g) (ch g) f.get->m' = m):=by
 have hs:=hf.small;have AU:=fun nA=>jo (X:=b.e8) (step:=b.kd) (fun j x=>x.i=(j:Int)/\x.g=g/\x.again=ag/\x.cH.n=g.kids.n/\∃ m',x.n=((m' : Nat):Int)/\Np g.kids.n (dg g) (ch g) x.cH.get m'/\m<=m'/\(m' = m->∀ i,i < j->x.cH.get i=false->∃ k,k < dg g i/\x.cH.get (ch g i k)=false)/\(LQ g.kids.n (dg g) (ch g) f.get->x.cH=f/\m' = m))
  (fun e x'=>e = .exit 2/\x'.g=g/\x'.again=ag/\x'.cH.n=g.kids.n/\∃ m',x'.n=((m' : Nat):Int)/\Np g.kids.n (dg g) (ch g) x'.cH.get m'/\m<=m'/\(m' = m->LQ g.kids.n (dg g) (ch g) x'.cH.get)/\(LQ g.kids.n (dg g) (ch g) f.get->m' = m)) g.kids.n (by unfold iH; omega) nA (x:=⟨t,f,(m:Int),ag,(0:Int),g⟩) ⟨rfl,rfl,rfl,hn,m,rfl,hc,aU _,fun _ i hi=>absurd hi (o6 _),fun _=>⟨rfl,rfl⟩⟩
 refine Exists.elim (AU ?_) fun e ⟨x,h1,he,h2⟩=>?_
 rotate_left
 ·subst he; exact ⟨x,h1,h2⟩
 rintro j ⟨t2,f2,n2,ag2,i2,g2⟩ hj ⟨rfl,rfl,rfl,VM,m',rfl,hc2,hle,gQ,hsk⟩;have VM:f2.n=g2.kids.n:=VM;have hf:Fit g2:=hf;have hj:j<=g2.kids.n:=hj;have hc2:Np g2.kids.n (dg g2) (ch g2) f2.get m':=hc2;have gQ:m' = m->∀ i,i < j->f2.get i=false->∃ k,k < dg g2 i/\f2.get (ch g2 i k)=false:=gQ;have hsk:LQ g2.kids.n (dg g2) (ch g2) f.get->f2=f/\m' = m:=hsk;unfold b.kd b.bh
 dsimp only
 have hm':=hc2.le;have lz:g2.kids.n < 1000000:=hf.small;by_cases bG:(j:Int) < (g2.kids.n:Int)
 ·obtain ⟨a,kk,k1,k2⟩:=asC hf t2 f2 VM (m' : Int) ag2 j (by omega)
  have h0:(0:Int)<=(j:Int):=by omega
  have hjn:(j:Int) < (f2.n:Int):=by rw [VM]; exact bG
  have ej:Int.toNat (j:Int)=j:=rfl;rw [aq bG,k1];simp only [ak,cv,aW.lB,aW.ln,ej,bM,h0,hjn,decide_true];have ew:aR ((j:Int)+1)=((j+1:Nat):Int):=by rw [cd (by omega) (by omega)]; omega
  have ew2:aR ((m' : Int)+1)=((m' + 1:Nat):Int):=by rw [cd (by omega) (by omega)]; omega
  rw [ew,ew2];have es:sE (aB.ae.exit 4) (aB.ae.exit 4)=true:=rfl;simp only [es,ak,pR];cases hfj:f2.get j with
  | true=>
   have fin:∃ m'',((m' : Nat):Int)=((m'' : Nat):Int)/\Np g2.kids.n (dg g2) (ch g2) f2.get m''/\m<=m''/\(m'' = m->∀ i,i < j+1->f2.get i=false->∃ k,k < dg g2 i/\f2.get (ch g2 i k)=false)/\(LQ g2.kids.n (dg g2) (ch g2) f.get->f2=f/\m'' = m):=⟨m',rfl,hc2,hle,fun e i hi hfi=>by
    by_cases e' : i=j
    ·subst e'; rw [hfj] at hfi; simp at hfi
    ·exact gQ e i (by omega) hfi,hsk⟩
   cases a with
   | true=>exact .inl ⟨_,rfl,by omega,rfl,rfl,rfl,VM,fin⟩
   | false=>exact .inl ⟨_,rfl,by omega,rfl,rfl,rfl,VM,fin⟩
  | false=>
   cases a with
   | true=>
    refine .inl ⟨_,rfl,by omega,rfl,rfl,rfl,VM,m' + 1,rfl,?_,by omega,fun e=>by omega,fun hk=>by
     obtain ⟨rfl,_⟩:=hsk hk;obtain ⟨k,q1,q2⟩:=hk j (by omega) hfj;rw [k2.1 rfl k q1] at q2;simp at q2⟩
    refine hc2.more (i:=j) (by omega) hfj (fun k hk=>⟨hf.ch (by omega) hk,k2.1 rfl k hk⟩) fun i=>?_;show cond (Nat.beq i j) true (f2.get i)=_;by_cases e:i=j
    ·subst e; rw [yX,aY rfl]; rfl
    ·have:Nat.beq i j=false:=by
      cases hb:Nat.beq i j with
      | false=>rfl
      | true=>exact absurd (bu hb) e
     rw [this,av e];rfl
   | false=>
    refine .inl ⟨_,rfl,by omega,rfl,rfl,rfl,VM,m',rfl,hc2,hle,fun e i hi hfi=>?_,hsk⟩;by_cases e' : i=j
    ·subst e'
     apply Classical.byContradiction;intro hno;have:=k2.2 fun k hk=>by
      cases hq:f2.get (ch g2 i k) with
      | true=>rfl
      | false=>exact absurd ⟨k,hk,hq⟩ hno
     simp at this
    ·exact gQ e i (by omega) hfi
 ·rw [bj bG,ba]
  simp only [cv,ak];refine .inr ⟨_,_,rfl,rfl,rfl,rfl,rfl,VM,m',rfl,hc2,hle,fun e i hi hfi=>gQ e i (by omega) hfi,fun hk=>(hsk hk).2⟩
theorem aoT {g:b.dG} (hf:Fit g):∃ r,b.zj g=some r/\(r=true↔Xh.Jc g.kids.n (dg g) (ch g)):=by
 have hs:=hf.small;have AU:=fun nA=>jo (X:=b.jk) (step:=b.lZ) (fun j x=>x.again=(j:Int)/\x.g=g/\x.cH.n=g.kids.n/\∃ m,x.n=((m:Nat):Int)/\Np g.kids.n (dg g) (ch g) x.cH.get m/\(j<=m\/LQ g.kids.n (dg g) (ch g) x.cH.get))
  (fun e x'=>e = .exit 0/\x'.g=g/\x'.cH.n=g.kids.n/\∃ m,x'.n=((m:Nat):Int)/\Np g.kids.n (dg g) (ch g) x'.cH.get m/\(g.kids.n<=m\/LQ g.kids.n (dg g) (ch g) x'.cH.get)) g.kids.n (by unfold iH; omega) nA (x:=⟨false,⟨g.kids.n,fun _=>false⟩,(0:Int),(0:Int),g⟩) ⟨rfl,rfl,rfl,0,rfl,.start fun _ _=>rfl,.inl (E7 _)⟩
 refine Exists.elim (AU ?_) fun e ⟨x,h1,he,hg,hn,m,hm,hc,gQ⟩=>?_
 rotate_left
 ·subst he
  unfold b.zj b.Dg;have en:Int.toNat ((g.kids.n:Nat):Int)=g.kids.n:=rfl;have hb:Nat.ble (1 * g.kids.n) 281474976710656=true:=by rw [Nat.ble_eq]; omega
  rw [en,h1,hb,aq (Int.le_refl _)];simp only [pR,ak,cv,aW.lB,aW.ln,hg,hm];refine ⟨_,rfl,?_⟩;rw [ko];constructor
  ·intro e
   have:m=g.kids.n:=by omega
   subst this;exact hc.free
  ·intro ahD
   rcases gQ with h | h
   ·have:=hc.le; omega
   ·have:=hc.full (aoS (fun i hi k hk=>hf.ch hi hk) h ahD)
    omega
 rintro j ⟨t2,f2,n2,ag2,g2⟩ hj ⟨rfl,rfl,VM,m,rfl,hc,gQ⟩;have VM:f2.n=g2.kids.n:=VM;have hf:Fit g2:=hf;have hj:j<=g2.kids.n:=hj;have hc:Np g2.kids.n (dg g2) (ch g2) f2.get m:=hc;unfold b.lZ b.kv
 dsimp only
 by_cases bG:(j:Int) < (g2.kids.n:Int)
 ·obtain ⟨x',k1,k2,k3,k4,m',k5,k6,k7,k8,k9⟩:=aql hf t2 f2 VM m (j:Int) hc
  rw [aq bG,k1];simp only [ak,cv,aW.lB,aW.ln,k2,k3,k5];have ew:aR ((j:Int)+1)=((j+1:Nat):Int):=by rw [cd (by omega) (by omega)]; omega
  rw [ew];refine .inl ⟨_,rfl,by omega,rfl,rfl,k4,m',rfl,k6,?_⟩;by_cases e:m' = m
  ·exact .inr (k8 e)
  ·rcases gQ with h | h
   ·exact .inl (by omega)
   ·exact .inr (k8 (k9 h))
 ·rw [bj bG,ba]
  simp only [cv,ak];refine .inr ⟨_,_,rfl,rfl,rfl,rfl,VM,m,rfl,hc,?_⟩;have:j=g2.kids.n:=by omega
  subst this;exact gQ
end Go.Proofs.YtckbdndhmcoihaaGreat.nodes
end
