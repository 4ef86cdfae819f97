/- Part of the proof of WorldMat: the machine, shown to be the model's, and plain models. No conditions. -/
import Derived.Test.YtckbdndhmcoihaaGreatGp
import Derived.Test.YtckbdndhmcoihaaGreatProg
import Derived.WalkKit
import Derived.Lib.Walk
import Derived.Lib.SliceRun
import Derived.Shelf.SlicesQ.Load
import Derived.Shelf.GgClosure.Gives
import Derived.MapKept
import Derived.Deep.RegionWith
import Derived.Laws.EntriesVeiled
set_option linter.unusedSimpArgs false
set_option linter.unusedVariables false
section
namespace Go.Proofs.YtckbdndhmcoihaaGreat.b
open Go.K
noncomputable section
def F3:List (Nat×(List KV->KR KV)):=[]
def F4:List Lp:=[]
theorem OB:ah Tryz.prog F3:=ah.nil
theorem OC:au Tryz.prog F4:=au.nil
def od (l:ir):Option (Int):=(cond (decide (l.cN < (-(1:Int)))) (some ((8:Int))) (cond (decide (l.cN >= (16:Int))) (some ((8:Int))) (cond (decide (l.lz > (2:Int))) (some ((8:Int))) (cond (decide (l.jW < (-(1024:Int)))) (some ((8:Int))) (cond (decide (l.jW > (1024:Int))) (some ((8:Int))) (cond (decide (l.bin < (0:Int))) (some ((8:Int))) (cond (decide (l.bin > (15:Int))) (some ((8:Int))) (some ((0:Int))))))))))
theorem P4 (l:ir):cD Tryz.prog (bp Tryz.prog F3 F4 (fun _=>false)) 9 9 137 [wi l] = (od l).map (kI .i64):=by
 unfold od
 try simp only [bq]
 kernel_rfl
def AD:List KV->KR KV:=bI Tryz.prog 137 (bL (kI .i64) fun vs=>od (o6 (vs.getD 0 .ao)))
theorem OD (w:Nat->KV):ck Tryz.prog [60] w 0 = [wi (o6 (ax Tryz.prog (ai Tryz.prog aj) 60 (w 0)))]:=by kernel_rfl
theorem Dq:bH Tryz.prog 137 AD:=aL funcs mixed OB OC (L:=9) (n:=9) fun w=>by
 have e:aG Tryz.prog 137 = [60]:=by kernel_rfl
 rw [e,OD]
 exact (P4 (o6 (ax Tryz.prog (ai Tryz.prog aj) 60 (w 0)))).trans (by kernel_rfl)
structure aQ where
 t2:Int
 t7:Int
 s:gN
 said:ir
instance:Inhabited aQ:=⟨⟨default,default,default,default⟩⟩
def uI (x:aQ):List KV:=[.int .i64 x.t2,.agg [.fn (.func 183) [] [],.fn (.func 184) [] [],.fn (.func 185) [] [],.fn (.func 186) [] [],.fn (.func 187) [] []],.int .i64 x.t7]
def uJ (x:aQ):List (List KV):=[al3 x.s,atY x.said]
def G4 (vs:List KV) (rs:List (List KV)):aQ:=⟨ay (vs.getD 0 .ao),ay (vs.getD 2 .ao),al4 (fun k=>(rs.getD 0 []).getD k .ao),atZ (fun k=>(rs.getD 1 []).getD k .ao)⟩
def I7:aV:=⟨[(2,⟨false,[.k (.int .i64)]⟩),(6,⟨true,[.lit (.fn (.func 183) [] []),.lit (.fn (.func 184) [] []),.lit (.fn (.func 185) [] []),.lit (.fn (.func 186) [] []),.lit (.fn (.func 187) [] [])]⟩),(7,⟨false,[.k (.int .i64)]⟩)],[(1,[.k (.int .u8),.k (.int .u8),.k (.int .u8),.k (.int .u8),.k (.int .u8),.k (.int .u8),.k (.int .u8),.k (.int .u8),.k (.int .u8),.k (.int .i64),.k (.int .u8),.k (.int .i64),.k .bool,.k (.int .i64)],1),(3,[.k (.int .u8),.k (.int .u8),.k (.int .u8),.k (.int .u8),.k (.int .i64),.k (.int .u8),.k (.int .i64),.k .bool,.k (.int .i64)],1)],[(1,0,0),(3,1,0)]⟩
def Tr:=dB Tryz.prog (bp Tryz.prog [(137,AD)] [] (fun _=>false)) 9 9 80 58 (dF Tryz.prog 80 58) I7
def bQ (x:aQ):aW aQ:=(cond (x.t7==(0:Int)) (cond (x.s.bN.e0==(0:Int)) (.next (⟨x.t2,(aR ((0:Int)+(1:Int))),x.s,x.said⟩:aQ)) (cond (x.s.bN.e0==(1:Int)) (.next (⟨x.t2,(aR ((0:Int)+(1:Int))),x.s,(⟨x.s.look.color,x.said.cN,x.said.lz,x.said.jW,x.said.ff,x.said.bin⟩:ir)⟩:aQ)) (cond (x.s.bN.e0==(3:Int)) (.next (⟨x.t2,(aR ((0:Int)+(1:Int))),x.s,(⟨x.s.look.color,x.said.cN,x.said.lz,x.said.jW,x.said.ff,x.said.bin⟩:ir)⟩:aQ)) (cond (x.s.bN.e0==(5:Int)) (.next (⟨x.t2,(aR ((0:Int)+(1:Int))),x.s,(⟨x.s.look.color,x.said.cN,x.said.lz,x.said.jW,x.said.ff,x.said.bin⟩:ir)⟩:aQ)) (cond (x.s.bN.e0==(7:Int)) (.next (⟨x.t2,(aR ((0:Int)+(1:Int))),x.s,(⟨x.s.look.color,x.said.cN,x.said.lz,x.said.jW,x.said.ff,x.said.bin⟩:ir)⟩:aQ)) (.out aB.ae.ret (⟨(8:Int),(0:Int),x.s,x.said⟩:aQ))))))) (cond (x.t7==(1:Int)) (cond (x.s.bN.e1==(0:Int)) (.next (⟨x.t2,(aR ((1:Int)+(1:Int))),x.s,x.said⟩:aQ)) (cond (x.s.bN.e1==(1:Int)) (.next (⟨x.t2,(aR ((1:Int)+(1:Int))),x.s,(⟨x.said.color,x.s.look.cN,x.said.lz,x.said.jW,x.said.ff,x.said.bin⟩:ir)⟩:aQ)) (cond (x.s.bN.e1==(3:Int)) (.next (⟨x.t2,(aR ((1:Int)+(1:Int))),x.s,(⟨x.said.color,x.s.look.cN,x.said.lz,x.said.jW,x.said.ff,x.said.bin⟩:ir)⟩:aQ)) (cond (x.s.bN.e1==(5:Int)) (.next (⟨x.t2,(aR ((1:Int)+(1:Int))),x.s,(⟨x.said.color,x.s.look.cN,x.said.lz,x.said.jW,x.said.ff,x.said.bin⟩:ir)⟩:aQ)) (cond (x.s.bN.e1==(7:Int)) (.next (⟨x.t2,(aR ((1:Int)+(1:Int))),x.s,(⟨x.said.color,x.s.look.cN,x.said.lz,x.said.jW,x.said.ff,x.said.bin⟩:ir)⟩:aQ)) (.out aB.ae.ret (⟨(8:Int),(1:Int),x.s,x.said⟩:aQ))))))) (cond (x.t7==(2:Int)) (cond (x.s.bN.e2==(0:Int)) (.next (⟨x.t2,(aR ((2:Int)+(1:Int))),x.s,x.said⟩:aQ)) (cond (x.s.bN.e2==(1:Int)) (.next (⟨x.t2,(aR ((2:Int)+(1:Int))),x.s,(⟨x.said.color,x.said.cN,x.s.look.lz,x.said.jW,x.said.ff,x.said.bin⟩:ir)⟩:aQ)) (cond (x.s.bN.e2==(3:Int)) (.next (⟨x.t2,(aR ((2:Int)+(1:Int))),x.s,(⟨x.said.color,x.said.cN,x.s.look.lz,x.said.jW,x.said.ff,x.said.bin⟩:ir)⟩:aQ)) (cond (x.s.bN.e2==(5:Int)) (.next (⟨x.t2,(aR ((2:Int)+(1:Int))),x.s,(⟨x.said.color,x.said.cN,x.s.look.lz,x.said.jW,x.said.ff,x.said.bin⟩:ir)⟩:aQ)) (cond (x.s.bN.e2==(7:Int)) (.next (⟨x.t2,(aR ((2:Int)+(1:Int))),x.s,(⟨x.said.color,x.said.cN,x.s.look.lz,x.said.jW,x.said.ff,x.said.bin⟩:ir)⟩:aQ)) (.out aB.ae.ret (⟨(8:Int),(2:Int),x.s,x.said⟩:aQ))))))) (cond (x.t7==(3:Int)) (cond (x.s.bN.e3==(0:Int)) (.next (⟨x.t2,(aR ((3:Int)+(1:Int))),x.s,x.said⟩:aQ)) (cond (x.s.bN.e3==(1:Int)) (.next (⟨x.t2,(aR ((3:Int)+(1:Int))),x.s,(⟨x.said.color,x.said.cN,x.said.lz,x.s.look.jW,x.said.ff,x.said.bin⟩:ir)⟩:aQ)) (cond (x.s.bN.e3==(3:Int)) (.next (⟨x.t2,(aR ((3:Int)+(1:Int))),x.s,(⟨x.said.color,x.said.cN,x.said.lz,x.s.look.jW,x.said.ff,x.said.bin⟩:ir)⟩:aQ)) (cond (x.s.bN.e3==(5:Int)) (.next (⟨x.t2,(aR ((3:Int)+(1:Int))),x.s,(⟨x.said.color,x.said.cN,x.said.lz,x.s.look.jW,x.said.ff,x.said.bin⟩:ir)⟩:aQ)) (cond (x.s.bN.e3==(7:Int)) (.next (⟨x.t2,(aR ((3:Int)+(1:Int))),x.s,(⟨x.said.color,x.said.cN,x.said.lz,x.s.look.jW,x.said.ff,x.said.bin⟩:ir)⟩:aQ)) (.out aB.ae.ret (⟨(8:Int),(3:Int),x.s,x.said⟩:aQ))))))) (cond (x.t7==(4:Int)) (cond (x.s.bN.e4==(0:Int)) (.next (⟨x.t2,(aR ((4:Int)+(1:Int))),x.s,x.said⟩:aQ)) (cond (x.s.bN.e4==(1:Int)) (.next (⟨x.t2,(aR ((4:Int)+(1:Int))),x.s,(⟨x.said.color,x.said.cN,x.said.lz,x.said.jW,x.s.look.ff,x.s.look.bin⟩:ir)⟩:aQ)) (cond (x.s.bN.e4==(3:Int)) (.next (⟨x.t2,(aR ((4:Int)+(1:Int))),x.s,(⟨x.said.color,x.said.cN,x.said.lz,x.said.jW,x.s.look.ff,x.s.look.bin⟩:ir)⟩:aQ)) (cond (x.s.bN.e4==(5:Int)) (.next (⟨x.t2,(aR ((4:Int)+(1:Int))),x.s,(⟨x.said.color,x.said.cN,x.said.lz,x.said.jW,x.s.look.ff,x.s.look.bin⟩:ir)⟩:aQ)) (cond (x.s.bN.e4==(7:Int)) (.next (⟨x.t2,(aR ((4:Int)+(1:Int))),x.s,(⟨x.said.color,x.said.cN,x.said.lz,x.said.jW,x.s.look.ff,x.s.look.bin⟩:ir)⟩:aQ)) (.out aB.ae.ret (⟨(8:Int),(4:Int),x.s,x.said⟩:aQ))))))) (cond (x.t7==(5:Int)) (.out (aB.ae.exit 0) (⟨x.t2,(5:Int),x.s,x.said⟩:aQ)) .fail))))))
theorem P5 (x:aQ):bQ x = .fail\/Tr (uI x) (uJ x)=aW.enc uI uJ (bQ x):=by
 obtain ⟨t2,t7,s,said⟩:=x
 exact (aW.lit (fun h=>by subst h; (try simp only [aW.cf,db,dM,dY,dZ,eO,eP,eQ,eR,eN,dn,dW,dX,fj,fo,fp,fq,fv,fw,fk,dw,eY,eZ,gw,gz,gA,gC,gD,gE,gx,dK,fG,fH,gW,gY,gZ,hD,hH,hJ,gX,eJ,oP,oQ,qG,qI,qJ,qK,qL,qM,qH,mS,lI,lJ,mL,mN,mO,mP,mQ,mR,mM,kN,qE,qF,th,tj,tl,tq,tr,tt,ti,oO,qC,qD,s6,s9,ta,te,tf,tg,s7,oM,mJ,mK,oE,oH,oI,oJ,oK,oL,oG,lH,qA,qB,sT,sV,sX,sY,sZ,s5,sU,oD,oB,oC,qt,qv,qw,qx,qy,qz,qu,mI,qp,qq,sL,sN,sP,sQ,sR,sS,sM,oA,oy,oz,qi,qk,ql,qm,qn,qo,qj,mH,ow,ox,qb,qd,qe,qf,qg,qh,qc,mG,sJ,sK,wV,wX,wY,wZ,w4,w5,wW,qa,sH,sI,wO,wQ,wR,wS,wT,wU,wP,p9,jQ,jR,kE,kG,kH,kJ,kK,kL,kF,jm,jN,ll,oj,oo,oq,ot,ou,ov,om,lG,fL,fY,iK,je,ju,jv,jw,jx,eW,eX,gu,iJ,gq,eV,dJ]); kernel_rfl) (aW.lit (fun h=>by subst h; (try simp only [aW.cf,db,dM,dY,dZ,eO,eP,eQ,eR,eN,dn,dW,dX,fj,fo,fp,fq,fv,fw,fk,dw,eY,eZ,gw,gz,gA,gC,gD,gE,gx,dK,fG,fH,gW,gY,gZ,hD,hH,hJ,gX,eJ,oP,oQ,qG,qI,qJ,qK,qL,qM,qH,mS,lI,lJ,mL,mN,mO,mP,mQ,mR,mM,kN,qE,qF,th,tj,tl,tq,tr,tt,ti,oO,qC,qD,s6,s9,ta,te,tf,tg,s7,oM,mJ,mK,oE,oH,oI,oJ,oK,oL,oG,lH,qA,qB,sT,sV,sX,sY,sZ,s5,sU,oD,oB,oC,qt,qv,qw,qx,qy,qz,qu,mI,qp,qq,sL,sN,sP,sQ,sR,sS,sM,oA,oy,oz,qi,qk,ql,qm,qn,qo,qj,mH,ow,ox,qb,qd,qe,qf,qg,qh,qc,mG,sJ,sK,wV,wX,wY,wZ,w4,w5,wW,qa,sH,sI,wO,wQ,wR,wS,wT,wU,wP,p9,jQ,jR,kE,kG,kH,kJ,kK,kL,kF,jm,jN,ll,oj,oo,oq,ot,ou,ov,om,lG,fL,fY,iK,je,ju,jv,jw,jx,eW,eX,gu,iJ,gq,eV,dJ]); kernel_rfl) (aW.lit (fun h=>by subst h; (try simp only [aW.cf,db,dM,dY,dZ,eO,eP,eQ,eR,eN,dn,dW,dX,fj,fo,fp,fq,fv,fw,fk,dw,eY,eZ,gw,gz,gA,gC,gD,gE,gx,dK,fG,fH,gW,gY,gZ,hD,hH,hJ,gX,eJ,oP,oQ,qG,qI,qJ,qK,qL,qM,qH,mS,lI,lJ,mL,mN,mO,mP,mQ,mR,mM,kN,qE,qF,th,tj,tl,tq,tr,tt,ti,oO,qC,qD,s6,s9,ta,te,tf,tg,s7,oM,mJ,mK,oE,oH,oI,oJ,oK,oL,oG,lH,qA,qB,sT,sV,sX,sY,sZ,s5,sU,oD,oB,oC,qt,qv,qw,qx,qy,qz,qu,mI,qp,qq,sL,sN,sP,sQ,sR,sS,sM,oA,oy,oz,qi,qk,ql,qm,qn,qo,qj,mH,ow,ox,qb,qd,qe,qf,qg,qh,qc,mG,sJ,sK,wV,wX,wY,wZ,w4,w5,wW,qa,sH,sI,wO,wQ,wR,wS,wT,wU,wP,p9,jQ,jR,kE,kG,kH,kJ,kK,kL,kF,jm,jN,ll,oj,oo,oq,ot,ou,ov,om,lG,fL,fY,iK,je,ju,jv,jw,jx,eW,eX,gu,iJ,gq,eV,dJ]); kernel_rfl) (aW.lit (fun h=>by subst h; (try simp only [aW.cf,db,dM,dY,dZ,eO,eP,eQ,eR,eN,dn,dW,dX,fj,fo,fp,fq,fv,fw,fk,dw,eY,eZ,gw,gz,gA,gC,gD,gE,gx,dK,fG,fH,gW,gY,gZ,hD,hH,hJ,gX,eJ,oP,oQ,qG,qI,qJ,qK,qL,qM,qH,mS,lI,lJ,mL,mN,mO,mP,mQ,mR,mM,kN,qE,qF,th,tj,tl,tq,tr,tt,ti,oO,qC,qD,s6,s9,ta,te,tf,tg,s7,oM,mJ,mK,oE,oH,oI,oJ,oK,oL,oG,lH,qA,qB,sT,sV,sX,sY,sZ,s5,sU,oD,oB,oC,qt,qv,qw,qx,qy,qz,qu,mI,qp,qq,sL,sN,sP,sQ,sR,sS,sM,oA,oy,oz,qi,qk,ql,qm,qn,qo,qj,mH,ow,ox,qb,qd,qe,qf,qg,qh,qc,mG,sJ,sK,wV,wX,wY,wZ,w4,w5,wW,qa,sH,sI,wO,wQ,wR,wS,wT,wU,wP,p9,jQ,jR,kE,kG,kH,kJ,kK,kL,kF,jm,jN,ll,oj,oo,oq,ot,ou,ov,om,lG,fL,fY,iK,je,ju,jv,jw,jx,eW,eX,gu,iJ,gq,eV,dJ]); kernel_rfl) (aW.lit (fun h=>by subst h; (try simp only [aW.cf,db,dM,dY,dZ,eO,eP,eQ,eR,eN,dn,dW,dX,fj,fo,fp,fq,fv,fw,fk,dw,eY,eZ,gw,gz,gA,gC,gD,gE,gx,dK,fG,fH,gW,gY,gZ,hD,hH,hJ,gX,eJ,oP,oQ,qG,qI,qJ,qK,qL,qM,qH,mS,lI,lJ,mL,mN,mO,mP,mQ,mR,mM,kN,qE,qF,th,tj,tl,tq,tr,tt,ti,oO,qC,qD,s6,s9,ta,te,tf,tg,s7,oM,mJ,mK,oE,oH,oI,oJ,oK,oL,oG,lH,qA,qB,sT,sV,sX,sY,sZ,s5,sU,oD,oB,oC,qt,qv,qw,qx,qy,qz,qu,mI,qp,qq,sL,sN,sP,sQ,sR,sS,sM,oA,oy,oz,qi,qk,ql,qm,qn,qo,qj,mH,ow,ox,qb,qd,qe,qf,qg,qh,qc,mG,sJ,sK,wV,wX,wY,wZ,w4,w5,wW,qa,sH,sI,wO,wQ,wR,wS,wT,wU,wP,p9,jQ,jR,kE,kG,kH,kJ,kK,kL,kF,jm,jN,ll,oj,oo,oq,ot,ou,ov,om,lG,fL,fY,iK,je,ju,jv,jw,jx,eW,eX,gu,iJ,gq,eV,dJ]); kernel_rfl) (aW.lit (fun h=>by subst h; (try simp only [aW.cf,db,dM,dY,dZ,eO,eP,eQ,eR,eN,dn,dW,dX,fj,fo,fp,fq,fv,fw,fk,dw,eY,eZ,gw,gz,gA,gC,gD,gE,gx,dK,fG,fH,gW,gY,gZ,hD,hH,hJ,gX,eJ,oP,oQ,qG,qI,qJ,qK,qL,qM,qH,mS,lI,lJ,mL,mN,mO,mP,mQ,mR,mM,kN,qE,qF,th,tj,tl,tq,tr,tt,ti,oO,qC,qD,s6,s9,ta,te,tf,tg,s7,oM,mJ,mK,oE,oH,oI,oJ,oK,oL,oG,lH,qA,qB,sT,sV,sX,sY,sZ,s5,sU,oD,oB,oC,qt,qv,qw,qx,qy,qz,qu,mI,qp,qq,sL,sN,sP,sQ,sR,sS,sM,oA,oy,oz,qi,qk,ql,qm,qn,qo,qj,mH,ow,ox,qb,qd,qe,qf,qg,qh,qc,mG,sJ,sK,wV,wX,wY,wZ,w4,w5,wW,qa,sH,sI,wO,wQ,wR,wS,wT,wU,wP,p9,jQ,jR,kE,kG,kH,kJ,kK,kL,kF,jm,jN,ll,oj,oo,oq,ot,ou,ov,om,lG,fL,fY,iK,je,ju,jv,jw,jx,eW,eX,gu,iJ,gq,eV,dJ]); kernel_rfl) (.inl rfl)))))))
def wo:Lp:=⟨80,58,I7,fun vs rs=>dC uI uJ (goN bQ (G4 vs rs)) [aB.ae.exit 0,aB.ae.ret],false⟩
theorem Ts:wo.Ok Tryz.prog:=Yo funcs mixed (ah.cons Dq ah.nil) au.nil (L:=9) (n:=9) (step:=bQ) (ev:=uI) (er:=uJ) (pa:=G4) rfl (fun wv wr=>⟨by kernel_rfl,by kernel_rfl⟩) P5
theorem OE:bZ Tryz.prog wo.f wo.p=true:=by kernel_rfl
def MS:List (Nat×(List KV->KR KV)):=[(137,AD)]
def MT:List Lp:=[wo]
theorem Wo:ah Tryz.prog MS:=(ah.cons Dq ah.nil)
theorem Wp:au Tryz.prog MT:=(au.cons Ts OE au.nil)
def cF (s:gN):(aW aQ):=(goN bQ (⟨(0:Int),(0:Int),s,(⟨(⟨(0:Int),(0:Int),(0:Int),(0:Int)⟩:Color),(0:Int),(0:Int),(0:Int),false,(0:Int)⟩:ir)⟩:aQ))
def Dr (s:gN):(Option Int):=(od (cF s).st.s.look)
def tu (s:gN):Option (Int):=(cond ((cF s).by (aB.ae.exit 0)) (cond (!(((cF s).st.said.color.e0==(cF s).st.s.look.color.e0)&&(((cF s).st.said.color.e1==(cF s).st.s.look.color.e1)&&(((cF s).st.said.color.e2==(cF s).st.s.look.color.e2)&&(((cF s).st.said.color.e3==(cF s).st.s.look.color.e3)&&(((cF s).st.said.cN==(cF s).st.s.look.cN)&&(((cF s).st.said.lz==(cF s).st.s.look.lz)&&(((cF s).st.said.jW==(cF s).st.s.look.jW)&&(((cF s).st.said.ff==(cF s).st.s.look.ff)&&(((cF s).st.said.bin==(cF s).st.s.look.bin)&&true)))))))))) (some ((8:Int))) (cond (Dr s).isSome (some (((Dr s).getD default))) none)) (cond ((cF s).by aB.ae.ret) (some ((cF s).st.t2)) none))
theorem YJ (s:gN):cD Tryz.prog (bp Tryz.prog MS MT (fun _=>false)) 9 9 80 [rq s] = (tu s).map (kI .i64):=by
 unfold tu
 try simp only [bq]
 kernel_rfl
def Px:List KV->KR KV:=bI Tryz.prog 80 (bL (kI .i64) fun vs=>tu (lB (vs.getD 0 .ao)))
theorem Wq (w:Nat->KV):ck Tryz.prog [75] w 0 = [rq (lB (ax Tryz.prog (ai Tryz.prog aj) 75 (w 0)))]:=by kernel_rfl
theorem Wr:bH Tryz.prog 80 Px:=aL funcs mixed Wo Wp (L:=9) (n:=9) fun w=>by
 have e:aG Tryz.prog 80 = [75]:=by kernel_rfl
 rw [e,Wq]
 exact (YJ (lB (ax Tryz.prog (ai Tryz.prog aj) 75 (w 0)))).trans (by kernel_rfl)
structure tR where
 e0:Bool
 e1:Bool
 e2:Bool
 e3:Bool
 e4:Bool
instance:Inhabited tR:=⟨⟨default,default,default,default,default⟩⟩
def aso (x:tR):List KV:=[.bool x.e0,.bool x.e1,.bool x.e2,.bool x.e3,.bool x.e4]
def pA (x:tR):KV:=.agg (aso x)
def asp (c:Nat->KV):tR:=⟨dj (c 0),dj (c 1),dj (c 2),dj (c 3),dj (c 4)⟩
def ki (v:KV):tR:=asp fun k=>v.cells.getD k .ao
theorem rM (x:tR):ki (pA x)=x:=rfl
theorem acT:ki .ao=default:=rfl
theorem xr (s:Sl tR) (v:tR):s.push v=aF ki (s.n+1) (aH s.n (fun i=>pA (s.get i)) (ef [pA v])):=(kf rM acT s v).symm
theorem xt (s t:Sl tR):s.join t=aF ki (s.n+t.n) (aH s.n (fun i=>pA (s.get i)) (fun i=>pA (t.get i))):=(kh rM s t).symm
theorem zz (l:List tR):Sl.lit l=aF ki l.length (ef (l.map pA)):=(lT rM acT l).symm
theorem zA (s:Sl tR) (i:Nat) (v:tR):s.set i v=aF ki s.n (cB (fun j=>pA (s.get j)) i (pA v)):=(lU rM s i v).symm
theorem vi (s t:Sl tR) (o m:Nat):s.rp o m t=aF ki s.n (aJ o m (fun j=>pA (s.get j)) (fun j=>pA (t.get j))):=(jh rM s t o m).symm
theorem zB (m n n' : Nat) (acc aE:Nat->KV):aF ki m (aH n (fun i=>pA ((aF ki n' acc).get i)) aE)=aF ki m (aH n acc aE):=mm rM ..
theorem zC (m n n' : Nat) (acc aE:Nat->KV):aF ki m (aH n acc (fun i=>pA ((aF ki n' aE).get i)))=aF ki m (aH n acc aE):=mn rM ..
theorem zD (m n' i:Nat) (acc:Nat->KV) (v:KV):aF ki m (cB (fun j=>pA ((aF ki n' acc).get j)) i v)=aF ki m (cB acc i v):=mo rM ..
theorem zF (n n' o m:Nat) (acc aE:Nat->KV):aF ki n (aJ o m (fun j=>pA ((aF ki n' acc).get j)) aE)=aF ki n (aJ o m acc aE):=mq rM ..
theorem zG (n n' o m:Nat) (acc aE:Nat->KV):aF ki n (aJ o m acc (fun j=>pA ((aF ki n' aE).get j)))=aF ki n (aJ o m acc aE):=mr rM ..
structure vj where
 look:ir
 kept:tR
instance:Inhabited vj:=⟨⟨default,default⟩⟩
def asq (x:vj):List KV:=[.int .u8 x.look.color.e0,.int .u8 x.look.color.e1,.int .u8 x.look.color.e2,.int .u8 x.look.color.e3,.int .i64 x.look.cN,.int .u8 x.look.lz,.int .i64 x.look.jW,.bool x.look.ff,.int .i64 x.look.bin,.bool x.kept.e0,.bool x.kept.e1,.bool x.kept.e2,.bool x.kept.e3,.bool x.kept.e4]
def pB (x:vj):KV:=.agg (asq x)
def asr (c:Nat->KV):vj:=⟨⟨⟨ay (c 0),ay (c 1),ay (c 2),ay (c 3)⟩,ay (c 4),ay (c 5),ay (c 6),dj (c 7),ay (c 8)⟩,⟨dj (c 9),dj (c 10),dj (c 11),dj (c 12),dj (c 13)⟩⟩
def kl (v:KV):vj:=asr fun k=>v.cells.getD k .ao
theorem rN (x:vj):kl (pB x)=x:=rfl
theorem acU:kl .ao=default:=rfl
theorem xu (s:Sl vj) (v:vj):s.push v=aF kl (s.n+1) (aH s.n (fun i=>pB (s.get i)) (ef [pB v])):=(kf rN acU s v).symm
theorem xv (s t:Sl vj):s.join t=aF kl (s.n+t.n) (aH s.n (fun i=>pB (s.get i)) (fun i=>pB (t.get i))):=(kh rN s t).symm
theorem zH (l:List vj):Sl.lit l=aF kl l.length (ef (l.map pB)):=(lT rN acU l).symm
theorem zI (s:Sl vj) (i:Nat) (v:vj):s.set i v=aF kl s.n (cB (fun j=>pB (s.get j)) i (pB v)):=(lU rN s i v).symm
theorem vl (s t:Sl vj) (o m:Nat):s.rp o m t=aF kl s.n (aJ o m (fun j=>pB (s.get j)) (fun j=>pB (t.get j))):=(jh rN s t o m).symm
theorem zJ (m n n' : Nat) (acc aE:Nat->KV):aF kl m (aH n (fun i=>pB ((aF kl n' acc).get i)) aE)=aF kl m (aH n acc aE):=mm rN ..
theorem zL (m n n' : Nat) (acc aE:Nat->KV):aF kl m (aH n acc (fun i=>pB ((aF kl n' aE).get i)))=aF kl m (aH n acc aE):=mn rN ..
theorem zM (m n' i:Nat) (acc:Nat->KV) (v:KV):aF kl m (cB (fun j=>pB ((aF kl n' acc).get j)) i v)=aF kl m (cB acc i v):=mo rN ..
theorem zN (n n' o m:Nat) (acc aE:Nat->KV):aF kl n (aJ o m (fun j=>pB ((aF kl n' acc).get j)) aE)=aF kl n (aJ o m acc aE):=mq rN ..
theorem zO (n n' o m:Nat) (acc aE:Nat->KV):aF kl n (aJ o m acc (fun j=>pB ((aF kl n' aE).get j)))=aF kl n (aJ o m acc aE):=mr rN ..
def Py:List (Nat×(List KV->KR KV)):=[]
def Pz:List Lp:=[]
theorem YK:ah Tryz.prog Py:=ah.nil
theorem YL:au Tryz.prog Pz:=au.nil
def vm (l:ir):Option (Bool):=(cond (decide (l.cN >= (-(1:Int)))) (cond (decide (l.cN < (16:Int))) (cond (decide (l.lz<=(2:Int))) (cond (decide (l.jW >= (-(1024:Int)))) (cond (decide (l.jW<=(1024:Int))) (cond (decide (l.bin >= (0:Int))) (some ((decide (l.bin<=(15:Int))))) (some (false))) (some (false))) (some (false))) (some (false))) (some (false))) (some (false)))
theorem abf (l:ir):cD Tryz.prog (bp Tryz.prog Py Pz (fun _=>false)) 9 9 168 [wi l] = (vm l).map kB:=by
 unfold vm
 try simp only [bq]
 kernel_rfl
def I8:List KV->KR KV:=bI Tryz.prog 168 (bL kB fun vs=>vm (o6 (vs.getD 0 .ao)))
theorem YM (w:Nat->KV):ck Tryz.prog [60] w 0 = [wi (o6 (ax Tryz.prog (ai Tryz.prog aj) 60 (w 0)))]:=by kernel_rfl
theorem Kg:bH Tryz.prog 168 I8:=aL funcs mixed YK YL (L:=9) (n:=9) fun w=>by
 have e:aG Tryz.prog 168 = [60]:=by kernel_rfl
 rw [e,YM]
 exact (abf (o6 (ax Tryz.prog (ai Tryz.prog aj) 60 (w 0)))).trans (by kernel_rfl)
structure cE where
 t2:Bool
 i:Int
 s:gN
instance:Inhabited cE:=⟨⟨default,default,default⟩⟩
def Ds (x:cE):List KV:=[.bool x.t2,.int .i64 x.i]
def Dt (x:cE):List (List KV):=[al3 x.s]
def Rr (vs:List KV) (rs:List (List KV)):cE:=⟨dj (vs.getD 0 .ao),ay (vs.getD 1 .ao),al4 (fun k=>(rs.getD 0 []).getD k .ao)⟩
def UD:aV:=⟨[(2,⟨false,[.k .bool]⟩),(3,⟨false,[.k (.int .i64)]⟩)],[(1,[.k (.int .u8),.k (.int .u8),.k (.int .u8),.k (.int .u8),.k (.int .u8),.k (.int .u8),.k (.int .u8),.k (.int .u8),.k (.int .u8),.k (.int .i64),.k (.int .u8),.k (.int .i64),.k .bool,.k (.int .i64)],1)],[(1,0,0)]⟩
def ag9:=dB Tryz.prog (bp Tryz.prog [(168,I8)] [] (fun _=>false)) 9 9 103 26 (dF Tryz.prog 103 26) UD
def cL (x:cE):aW cE:=(cond (x.i==(0:Int)) (cond (decide (x.s.bN.e0 > (7:Int))) (.out aB.ae.ret (⟨false,(0:Int),x.s⟩:cE)) (cond ((Int.tmod x.s.bN.e0 (2:Int))==(0:Int)) (cond (decide (x.s.bN.e0 > (0:Int))) (.out aB.ae.ret (⟨false,(0:Int),x.s⟩:cE)) (.next (⟨x.t2,(aR ((0:Int)+(1:Int))),x.s⟩:cE))) (.next (⟨x.t2,(aR ((0:Int)+(1:Int))),x.s⟩:cE)))) (cond (x.i==(1:Int)) (cond (decide (x.s.bN.e1 > (7:Int))) (.out aB.ae.ret (⟨false,(1:Int),x.s⟩:cE)) (cond ((Int.tmod x.s.bN.e1 (2:Int))==(0:Int)) (cond (decide (x.s.bN.e1 > (0:Int))) (.out aB.ae.ret (⟨false,(1:Int),x.s⟩:cE)) (.next (⟨x.t2,(aR ((1:Int)+(1:Int))),x.s⟩:cE))) (.next (⟨x.t2,(aR ((1:Int)+(1:Int))),x.s⟩:cE)))) (cond (x.i==(2:Int)) (cond (decide (x.s.bN.e2 > (7:Int))) (.out aB.ae.ret (⟨false,(2:Int),x.s⟩:cE)) (cond ((Int.tmod x.s.bN.e2 (2:Int))==(0:Int)) (cond (decide (x.s.bN.e2 > (0:Int))) (.out aB.ae.ret (⟨false,(2:Int),x.s⟩:cE)) (.next (⟨x.t2,(aR ((2:Int)+(1:Int))),x.s⟩:cE))) (.next (⟨x.t2,(aR ((2:Int)+(1:Int))),x.s⟩:cE)))) (cond (x.i==(3:Int)) (cond (decide (x.s.bN.e3 > (7:Int))) (.out aB.ae.ret (⟨false,(3:Int),x.s⟩:cE)) (cond ((Int.tmod x.s.bN.e3 (2:Int))==(0:Int)) (cond (decide (x.s.bN.e3 > (0:Int))) (.out aB.ae.ret (⟨false,(3:Int),x.s⟩:cE)) (.next (⟨x.t2,(aR ((3:Int)+(1:Int))),x.s⟩:cE))) (.next (⟨x.t2,(aR ((3:Int)+(1:Int))),x.s⟩:cE)))) (cond (x.i==(4:Int)) (cond (decide (x.s.bN.e4 > (7:Int))) (.out aB.ae.ret (⟨false,(4:Int),x.s⟩:cE)) (cond ((Int.tmod x.s.bN.e4 (2:Int))==(0:Int)) (cond (decide (x.s.bN.e4 > (0:Int))) (.out aB.ae.ret (⟨false,(4:Int),x.s⟩:cE)) (.next (⟨x.t2,(aR ((4:Int)+(1:Int))),x.s⟩:cE))) (.next (⟨x.t2,(aR ((4:Int)+(1:Int))),x.s⟩:cE)))) (cond (x.i==(5:Int)) (.out (aB.ae.exit 0) (⟨x.t2,(5:Int),x.s⟩:cE)) .fail))))))
theorem abg (x:cE):cL x = .fail\/ag9 (Ds x) (Dt x)=aW.enc Ds Dt (cL x):=by
 obtain ⟨t2,i,s⟩:=x
 exact (aW.lit (fun h=>by subst h; (try simp only [aW.cf,xu,xv,zH,zJ,zL,zM,zN,zO,zI,vl,xr,xt,zz,zB,zC,zD,zF,zG,zA,vi,db,dM,dY,dZ,eO,eP,eQ,eR,eN,dn,dW,dX,fj,fo,fp,fq,fv,fw,fk,dw,eY,eZ,gw,gz,gA,gC,gD,gE,gx,dK,fG,fH,gW,gY,gZ,hD,hH,hJ,gX,eJ,oP,oQ,qG,qI,qJ,qK,qL,qM,qH,mS,lI,lJ,mL,mN,mO,mP,mQ,mR,mM,kN,qE,qF,th,tj,tl,tq,tr,tt,ti,oO,qC,qD,s6,s9,ta,te,tf,tg,s7,oM,mJ,mK,oE,oH,oI,oJ,oK,oL,oG,lH,qA,qB,sT,sV,sX,sY,sZ,s5,sU,oD,oB,oC,qt,qv,qw,qx,qy,qz,qu,mI,qp,qq,sL,sN,sP,sQ,sR,sS,sM,oA,oy,oz,qi,qk,ql,qm,qn,qo,qj,mH,ow,ox,qb,qd,qe,qf,qg,qh,qc,mG,sJ,sK,wV,wX,wY,wZ,w4,w5,wW,qa,sH,sI,wO,wQ,wR,wS,wT,wU,wP,p9,jQ,jR,kE,kG,kH,kJ,kK,kL,kF,jm,jN,ll,oj,oo,oq,ot,ou,ov,om,lG,fL,fY,iK,je,ju,jv,jw,jx,eW,eX,gu,iJ,gq,eV,dJ]); kernel_rfl) (aW.lit (fun h=>by subst h; (try simp only [aW.cf,xu,xv,zH,zJ,zL,zM,zN,zO,zI,vl,xr,xt,zz,zB,zC,zD,zF,zG,zA,vi,db,dM,dY,dZ,eO,eP,eQ,eR,eN,dn,dW,dX,fj,fo,fp,fq,fv,fw,fk,dw,eY,eZ,gw,gz,gA,gC,gD,gE,gx,dK,fG,fH,gW,gY,gZ,hD,hH,hJ,gX,eJ,oP,oQ,qG,qI,qJ,qK,qL,qM,qH,mS,lI,lJ,mL,mN,mO,mP,mQ,mR,mM,kN,qE,qF,th,tj,tl,tq,tr,tt,ti,oO,qC,qD,s6,s9,ta,te,tf,tg,s7,oM,mJ,mK,oE,oH,oI,oJ,oK,oL,oG,lH,qA,qB,sT,sV,sX,sY,sZ,s5,sU,oD,oB,oC,qt,qv,qw,qx,qy,qz,qu,mI,qp,qq,sL,sN,sP,sQ,sR,sS,sM,oA,oy,oz,qi,qk,ql,qm,qn,qo,qj,mH,ow,ox,qb,qd,qe,qf,qg,qh,qc,mG,sJ,sK,wV,wX,wY,wZ,w4,w5,wW,qa,sH,sI,wO,wQ,wR,wS,wT,wU,wP,p9,jQ,jR,kE,kG,kH,kJ,kK,kL,kF,jm,jN,ll,oj,oo,oq,ot,ou,ov,om,lG,fL,fY,iK,je,ju,jv,jw,jx,eW,eX,gu,iJ,gq,eV,dJ]); kernel_rfl) (aW.lit (fun h=>by subst h; (try simp only [aW.cf,xu,xv,zH,zJ,zL,zM,zN,zO,zI,vl,xr,xt,zz,zB,zC,zD,zF,zG,zA,vi,db,dM,dY,dZ,eO,eP,eQ,eR,eN,dn,dW,dX,fj,fo,fp,fq,fv,fw,fk,dw,eY,eZ,gw,gz,gA,gC,gD,gE,gx,dK,fG,fH,gW,gY,gZ,hD,hH,hJ,gX,eJ,oP,oQ,qG,qI,qJ,qK,qL,qM,qH,mS,lI,lJ,mL,mN,mO,mP,mQ,mR,mM,kN,qE,qF,th,tj,tl,tq,tr,tt,ti,oO,qC,qD,s6,s9,ta,te,tf,tg,s7,oM,mJ,mK,oE,oH,oI,oJ,oK,oL,oG,lH,qA,qB,sT,sV,sX,sY,sZ,s5,sU,oD,oB,oC,qt,qv,qw,qx,qy,qz,qu,mI,qp,qq,sL,sN,sP,sQ,sR,sS,sM,oA,oy,oz,qi,qk,ql,qm,qn,qo,qj,mH,ow,ox,qb,qd,qe,qf,qg,qh,qc,mG,sJ,sK,wV,wX,wY,wZ,w4,w5,wW,qa,sH,sI,wO,wQ,wR,wS,wT,wU,wP,p9,jQ,jR,kE,kG,kH,kJ,kK,kL,kF,jm,jN,ll,oj,oo,oq,ot,ou,ov,om,lG,fL,fY,iK,je,ju,jv,jw,jx,eW,eX,gu,iJ,gq,eV,dJ]); kernel_rfl) (aW.lit (fun h=>by subst h; (try simp only [aW.cf,xu,xv,zH,zJ,zL,zM,zN,zO,zI,vl,xr,xt,zz,zB,zC,zD,zF,zG,zA,vi,db,dM,dY,dZ,eO,eP,eQ,eR,eN,dn,dW,dX,fj,fo,fp,fq,fv,fw,fk,dw,eY,eZ,gw,gz,gA,gC,gD,gE,gx,dK,fG,fH,gW,gY,gZ,hD,hH,hJ,gX,eJ,oP,oQ,qG,qI,qJ,qK,qL,qM,qH,mS,lI,lJ,mL,mN,mO,mP,mQ,mR,mM,kN,qE,qF,th,tj,tl,tq,tr,tt,ti,oO,qC,qD,s6,s9,ta,te,tf,tg,s7,oM,mJ,mK,oE,oH,oI,oJ,oK,oL,oG,lH,qA,qB,sT,sV,sX,sY,sZ,s5,sU,oD,oB,oC,qt,qv,qw,qx,qy,qz,qu,mI,qp,qq,sL,sN,sP,sQ,sR,sS,sM,oA,oy,oz,qi,qk,ql,qm,qn,qo,qj,mH,ow,ox,qb,qd,qe,qf,qg,qh,qc,mG,sJ,sK,wV,wX,wY,wZ,w4,w5,wW,qa,sH,sI,wO,wQ,wR,wS,wT,wU,wP,p9,jQ,jR,kE,kG,kH,kJ,kK,kL,kF,jm,jN,ll,oj,oo,oq,ot,ou,ov,om,lG,fL,fY,iK,je,ju,jv,jw,jx,eW,eX,gu,iJ,gq,eV,dJ]); kernel_rfl) (aW.lit (fun h=>by subst h; (try simp only [aW.cf,xu,xv,zH,zJ,zL,zM,zN,zO,zI,vl,xr,xt,zz,zB,zC,zD,zF,zG,zA,vi,db,dM,dY,dZ,eO,eP,eQ,eR,eN,dn,dW,dX,fj,fo,fp,fq,fv,fw,fk,dw,eY,eZ,gw,gz,gA,gC,gD,gE,gx,dK,fG,fH,gW,gY,gZ,hD,hH,hJ,gX,eJ,oP,oQ,qG,qI,qJ,qK,qL,qM,qH,mS,lI,lJ,mL,mN,mO,mP,mQ,mR,mM,kN,qE,qF,th,tj,tl,tq,tr,tt,ti,oO,qC,qD,s6,s9,ta,te,tf,tg,s7,oM,mJ,mK,oE,oH,oI,oJ,oK,oL,oG,lH,qA,qB,sT,sV,sX,sY,sZ,s5,sU,oD,oB,oC,qt,qv,qw,qx,qy,qz,qu,mI,qp,qq,sL,sN,sP,sQ,sR,sS,sM,oA,oy,oz,qi,qk,ql,qm,qn,qo,qj,mH,ow,ox,qb,qd,qe,qf,qg,qh,qc,mG,sJ,sK,wV,wX,wY,wZ,w4,w5,wW,qa,sH,sI,wO,wQ,wR,wS,wT,wU,wP,p9,jQ,jR,kE,kG,kH,kJ,kK,kL,kF,jm,jN,ll,oj,oo,oq,ot,ou,ov,om,lG,fL,fY,iK,je,ju,jv,jw,jx,eW,eX,gu,iJ,gq,eV,dJ]); kernel_rfl) (aW.lit (fun h=>by subst h; (try simp only [aW.cf,xu,xv,zH,zJ,zL,zM,zN,zO,zI,vl,xr,xt,zz,zB,zC,zD,zF,zG,zA,vi,db,dM,dY,dZ,eO,eP,eQ,eR,eN,dn,dW,dX,fj,fo,fp,fq,fv,fw,fk,dw,eY,eZ,gw,gz,gA,gC,gD,gE,gx,dK,fG,fH,gW,gY,gZ,hD,hH,hJ,gX,eJ,oP,oQ,qG,qI,qJ,qK,qL,qM,qH,mS,lI,lJ,mL,mN,mO,mP,mQ,mR,mM,kN,qE,qF,th,tj,tl,tq,tr,tt,ti,oO,qC,qD,s6,s9,ta,te,tf,tg,s7,oM,mJ,mK,oE,oH,oI,oJ,oK,oL,oG,lH,qA,qB,sT,sV,sX,sY,sZ,s5,sU,oD,oB,oC,qt,qv,qw,qx,qy,qz,qu,mI,qp,qq,sL,sN,sP,sQ,sR,sS,sM,oA,oy,oz,qi,qk,ql,qm,qn,qo,qj,mH,ow,ox,qb,qd,qe,qf,qg,qh,qc,mG,sJ,sK,wV,wX,wY,wZ,w4,w5,wW,qa,sH,sI,wO,wQ,wR,wS,wT,wU,wP,p9,jQ,jR,kE,kG,kH,kJ,kK,kL,kF,jm,jN,ll,oj,oo,oq,ot,ou,ov,om,lG,fL,fY,iK,je,ju,jv,jw,jx,eW,eX,gu,iJ,gq,eV,dJ]); kernel_rfl) (.inl rfl)))))))
def Fx:Lp:=⟨103,26,UD,fun vs rs=>dC Ds Dt (goN cL (Rr vs rs)) [aB.ae.exit 0,aB.ae.ret],false⟩
theorem aha:Fx.Ok Tryz.prog:=Yo funcs mixed (ah.cons Kg ah.nil) au.nil (L:=9) (n:=9) (step:=cL) (ev:=Ds) (er:=Dt) (pa:=Rr) rfl (fun wv wr=>⟨by kernel_rfl,by kernel_rfl⟩) abg
theorem YN:bZ Tryz.prog Fx.f Fx.p=true:=by kernel_rfl
def acV:List (Nat×(List KV->KR KV)):=[(168,I8)]
def acW:List Lp:=[Fx]
theorem aje:ah Tryz.prog acV:=(ah.cons Kg ah.nil)
theorem ajf:au Tryz.prog acW:=(au.cons aha YN au.nil)
def aI (s:gN):(aW cE):=(goN cL (⟨false,(0:Int),s⟩:cE))
def aX (s:gN):(Option Bool):=(vm (aI s).st.s.look)
def EJ (s:gN):Option (Bool):=(cond ((aI s).by (aB.ae.exit 0)) (cond ((aI s).st.s.bN.e0==(0:Int)) (cond (!(((aI s).st.s.look.color.e0==(0:Int))&&(((aI s).st.s.look.color.e1==(0:Int))&&(((aI s).st.s.look.color.e2==(0:Int))&&(((aI s).st.s.look.color.e3==(0:Int))&&true))))) (some (false)) (cond ((aI s).st.s.bN.e1==(0:Int)) (cond ((aI s).st.s.look.cN != (0:Int)) (some (false)) (cond ((aI s).st.s.bN.e2==(0:Int)) (cond ((aI s).st.s.look.lz != (0:Int)) (some (false)) (cond ((aI s).st.s.bN.e3==(0:Int)) (cond ((aI s).st.s.look.jW != (0:Int)) (some (false)) (cond ((aI s).st.s.bN.e4==(0:Int)) (cond (aI s).st.s.look.ff (some (false)) (cond ((aI s).st.s.look.bin != (0:Int)) (some (false)) (cond (aX s).isSome (some (((aX s).getD default))) none))) (cond (aX s).isSome (some (((aX s).getD default))) none))) (cond ((aI s).st.s.bN.e4==(0:Int)) (cond (aI s).st.s.look.ff (some (false)) (cond ((aI s).st.s.look.bin != (0:Int)) (some (false)) (cond (aX s).isSome (some (((aX s).getD default))) none))) (cond (aX s).isSome (some (((aX s).getD default))) none)))) (cond ((aI s).st.s.bN.e3==(0:Int)) (cond ((aI s).st.s.look.jW != (0:Int)) (some (false)) (cond ((aI s).st.s.bN.e4==(0:Int)) (cond (aI s).st.s.look.ff (some (false)) (cond ((aI s).st.s.look.bin != (0:Int)) (some (false)) (cond (aX s).isSome (some (((aX s).getD default))) none))) (cond (aX s).isSome (some (((aX s).getD default))) none))) (cond ((aI s).st.s.bN.e4==(0:Int)) (cond (aI s).st.s.look.ff (some (false)) (cond ((aI s).st.s.look.bin != (0:Int)) (some (false)) (cond (aX s).isSome (some (((aX s).getD default))) none))) (cond (aX s).isSome (some (((aX s).getD default))) none))))) (cond ((aI s).st.s.bN.e2==(0:Int)) (cond ((aI s).st.s.look.lz != (0:Int)) (some (false)) (cond ((aI s).st.s.bN.e3==(0:Int)) (cond ((aI s).st.s.look.jW != (0:Int)) (some (false)) (cond ((aI s).st.s.bN.e4==(0:Int)) (cond (aI s).st.s.look.ff (some (false)) (cond ((aI s).st.s.look.bin != (0:Int)) (some (false)) (cond (aX s).isSome (some (((aX s).getD default))) none))) (cond (aX s).isSome (some (((aX s).getD default))) none))) (cond ((aI s).st.s.bN.e4==(0:Int)) (cond (aI s).st.s.look.ff (some (false)) (cond ((aI s).st.s.look.bin != (0:Int)) (some (false)) (cond (aX s).isSome (some (((aX s).getD default))) none))) (cond (aX s).isSome (some (((aX s).getD default))) none)))) (cond ((aI s).st.s.bN.e3==(0:Int)) (cond ((aI s).st.s.look.jW != (0:Int)) (some (false)) (cond ((aI s).st.s.bN.e4==(0:Int)) (cond (aI s).st.s.look.ff (some (false)) (cond ((aI s).st.s.look.bin != (0:Int)) (some (false)) (cond (aX s).isSome (some (((aX s).getD default))) none))) (cond (aX s).isSome (some (((aX s).getD default))) none))) (cond ((aI s).st.s.bN.e4==(0:Int)) (cond (aI s).st.s.look.ff (some (false)) (cond ((aI s).st.s.look.bin != (0:Int)) (some (false)) (cond (aX s).isSome (some (((aX s).getD default))) none))) (cond (aX s).isSome (some (((aX s).getD default))) none)))))) (cond ((aI s).st.s.bN.e1==(0:Int)) (cond ((aI s).st.s.look.cN != (0:Int)) (some (false)) (cond ((aI s).st.s.bN.e2==(0:Int)) (cond ((aI s).st.s.look.lz != (0:Int)) (some (false)) (cond ((aI s).st.s.bN.e3==(0:Int)) (cond ((aI s).st.s.look.jW != (0:Int)) (some (false)) (cond ((aI s).st.s.bN.e4==(0:Int)) (cond (aI s).st.s.look.ff (some (false)) (cond ((aI s).st.s.look.bin != (0:Int)) (some (false)) (cond (aX s).isSome (some (((aX s).getD default))) none))) (cond (aX s).isSome (some (((aX s).getD default))) none))) (cond ((aI s).st.s.bN.e4==(0:Int)) (cond (aI s).st.s.look.ff (some (false)) (cond ((aI s).st.s.look.bin != (0:Int)) (some (false)) (cond (aX s).isSome (some (((aX s).getD default))) none))) (cond (aX s).isSome (some (((aX s).getD default))) none)))) (cond ((aI s).st.s.bN.e3==(0:Int)) (cond ((aI s).st.s.look.jW != (0:Int)) (some (false)) (cond ((aI s).st.s.bN.e4==(0:Int)) (cond (aI s).st.s.look.ff (some (false)) (cond ((aI s).st.s.look.bin != (0:Int)) (some (false)) (cond (aX s).isSome (some (((aX s).getD default))) none))) (cond (aX s).isSome (some (((aX s).getD default))) none))) (cond ((aI s).st.s.bN.e4==(0:Int)) (cond (aI s).st.s.look.ff (some (false)) (cond ((aI s).st.s.look.bin != (0:Int)) (some (false)) (cond (aX s).isSome (some (((aX s).getD default))) none))) (cond (aX s).isSome (some (((aX s).getD default))) none))))) (cond ((aI s).st.s.bN.e2==(0:Int)) (cond ((aI s).st.s.look.lz != (0:Int)) (some (false)) (cond ((aI s).st.s.bN.e3==(0:Int)) (cond ((aI s).st.s.look.jW != (0:Int)) (some (false)) (cond ((aI s).st.s.bN.e4==(0:Int)) (cond (aI s).st.s.look.ff (some (false)) (cond ((aI s).st.s.look.bin != (0:Int)) (some (false)) (cond (aX s).isSome (some (((aX s).getD default))) none))) (cond (aX s).isSome (some (((aX s).getD default))) none))) (cond ((aI s).st.s.bN.e4==(0:Int)) (cond (aI s).st.s.look.ff (some (false)) (cond ((aI s).st.s.look.bin != (0:Int)) (some (false)) (cond (aX s).isSome (some (((aX s).getD default))) none))) (cond (aX s).isSome (some (((aX s).getD default))) none)))) (cond ((aI s).st.s.bN.e3==(0:Int)) (cond ((aI s).st.s.look.jW != (0:Int)) (some (false)) (cond ((aI s).st.s.bN.e4==(0:Int)) (cond (aI s).st.s.look.ff (some (false)) (cond ((aI s).st.s.look.bin != (0:Int)) (some (false)) (cond (aX s).isSome (some (((aX s).getD default))) none))) (cond (aX s).isSome (some (((aX s).getD default))) none))) (cond ((aI s).st.s.bN.e4==(0:Int)) (cond (aI s).st.s.look.ff (some (false)) (cond ((aI s).st.s.look.bin != (0:Int)) (some (false)) (cond (aX s).isSome (some (((aX s).getD default))) none))) (cond (aX s).isSome (some (((aX s).getD default))) none)))))) (cond ((aI s).by aB.ae.ret) (some ((aI s).st.t2)) none))
theorem al5 (s:gN):cD Tryz.prog (bp Tryz.prog acV acW (fun _=>false)) 9 9 103 [rq s] = (EJ s).map kB:=by
 unfold EJ
 try simp only [bq]
 kernel_rfl
def ahb:List KV->KR KV:=bI Tryz.prog 103 (bL kB fun vs=>EJ (lB (vs.getD 0 .ao)))
theorem ajg (w:Nat->KV):ck Tryz.prog [75] w 0 = [rq (lB (ax Tryz.prog (ai Tryz.prog aj) 75 (w 0)))]:=by kernel_rfl
theorem ajh:bH Tryz.prog 103 ahb:=aL funcs mixed aje ajf (L:=9) (n:=9) fun w=>by
 have e:aG Tryz.prog 103 = [75]:=by kernel_rfl
 rw [e,ajg]
 exact (al5 (lB (ax Tryz.prog (ai Tryz.prog aj) 75 (w 0)))).trans (by kernel_rfl)
def ahc:List (Nat×(List KV->KR KV)):=[]
def ahd:List Lp:=[]
theorem al6:ah Tryz.prog ahc:=ah.nil
theorem al7:au Tryz.prog ahd:=au.nil
def vo (n:Int) (low:Int) (high:Int):Option (Bool):=(cond (decide (n >= low)) (some ((decide (n<=high)))) (some (false)))
theorem aom (n:Int) (low:Int) (high:Int):cD Tryz.prog (bp Tryz.prog ahc ahd (fun _=>false)) 9 9 221 [(kI .i64) n,(kI .i64) low,(kI .i64) high] = (vo n low high).map kB:=by
 unfold vo
 try simp only [bq]
 kernel_rfl
def H6:List KV->KR KV:=bI Tryz.prog 221 (bL kB fun vs=>vo (ay (vs.getD 0 .ao)) (ay (vs.getD 1 .ao)) (ay (vs.getD 2 .ao)))
theorem al8 (w:Nat->KV):ck Tryz.prog [3,3,3] w 0 = [(kI .i64) (ay (ax Tryz.prog (ai Tryz.prog aj) 3 (w 0))),(kI .i64) (ay (ax Tryz.prog (ai Tryz.prog aj) 3 (w 1))),(kI .i64) (ay (ax Tryz.prog (ai Tryz.prog aj) 3 (w 2)))]:=by kernel_rfl
theorem Du:bH Tryz.prog 221 H6:=aL funcs mixed al6 al7 (L:=9) (n:=9) fun w=>by
 have e:aG Tryz.prog 221 = [3,3,3]:=by kernel_rfl
 rw [e,al8]
 exact (aom (ay (ax Tryz.prog (ai Tryz.prog aj) 3 (w 0))) (ay (ax Tryz.prog (ai Tryz.prog aj) 3 (w 1))) (ay (ax Tryz.prog (ai Tryz.prog aj) 3 (w 2)))).trans (by kernel_rfl)
structure fM where
 t2:(Sl az)
 t3:Int
 n:Int
 out:(Sl az)
 i:Int
 p:Prim
instance:Inhabited fM:=⟨by constructor<;>exact default⟩
def xZ (x:fM):List KV:=[eA 40 df x.t2,.int .i64 x.t3,.int .i64 x.n,eA 40 df x.out,.int .i64 x.i]
def x4 (x:fM):List (List KV):=[ag0 x.p]
def Kh (vs:List KV) (rs:List (List KV)):fM:=⟨dP dv (vs.getD 0 .ao),ay (vs.getD 1 .ao),ay (vs.getD 2 .ao),dP dv (vs.getD 3 .ao),ay (vs.getD 4 .ao),ag1 (fun k=>(rs.getD 0 []).getD k .ao)⟩
def MU:aV:=⟨[(2,⟨false,[.k (.slice 40)]⟩),(3,⟨false,[.k (.int .i64)]⟩),(4,⟨false,[.k (.int .i64)]⟩),(5,⟨false,[.bA 40]⟩),(7,⟨false,[.k (.int .i64)]⟩)],[(1,[.k (.int .u8),.k (.slice 3)],1)],[(1,0,0)]⟩
def YO:=dB Tryz.prog (bp Tryz.prog [] [] (fun _=>false)) 9 9 226 2042 (dF Tryz.prog 226 2042) MU
def jO (x:fM):aW fM:=(cond (decide (x.i<=(aR (x.n - (3:Int))))) (cond (x.p.kind==(1:Int)) (cond ((decide ((0:Int)<=x.i))&&(decide (x.i < ((x.p.index.n:Nat):Int)))) (cond ((decide ((0:Int)<=(aR (x.i+(1:Int)))))&&(decide ((aR (x.i+(1:Int))) < ((x.p.index.n:Nat):Int)))) (cond ((Int.tmod x.i (2:Int))==(1:Int)) (cond ((decide ((0:Int)<=(aR (x.i+(1:Int)))))&&(decide ((aR (x.i+(1:Int))) < ((x.p.index.n:Nat):Int)))) (cond ((decide ((0:Int)<=x.i))&&(decide (x.i < ((x.p.index.n:Nat):Int)))) (cond ((decide ((0:Int)<=(aR (x.i+(2:Int)))))&&(decide ((aR (x.i+(2:Int))) < ((x.p.index.n:Nat):Int)))) (cond ((bz x.out.n x.out.n)&&(kD 24 x.out.n 1)) (cond (bz (x.out.n+1) (x.out.n+1)) (.next (⟨x.t2,x.t3,x.n,(x.out.push (⟨(x.p.index.get (Int.toNat (aR (x.i+(1:Int))))),(x.p.index.get (Int.toNat x.i)),(x.p.index.get (Int.toNat (aR (x.i+(2:Int)))))⟩:az)),(aR (x.i+(1:Int))),x.p⟩:fM)) .fail) .fail) .fail) .fail) .fail) (cond ((decide ((0:Int)<=(aR (x.i+(2:Int)))))&&(decide ((aR (x.i+(2:Int))) < ((x.p.index.n:Nat):Int)))) (cond ((bz x.out.n x.out.n)&&(kD 24 x.out.n 1)) (cond (bz (x.out.n+1) (x.out.n+1)) (.next (⟨x.t2,x.t3,x.n,(x.out.push (⟨(x.p.index.get (Int.toNat x.i)),(x.p.index.get (Int.toNat (aR (x.i+(1:Int))))),(x.p.index.get (Int.toNat (aR (x.i+(2:Int)))))⟩:az)),(aR (x.i+(1:Int))),x.p⟩:fM)) .fail) .fail) .fail)) .fail) .fail) (cond (bz x.out.n x.out.n) (.out (aB.ae.exit 2) x) .fail)) (cond (bz x.out.n x.out.n) (.out (aB.ae.exit 2) x) .fail))
theorem Tt (x:fM):YO (xZ x) (x4 x)=aW.enc xZ x4 (jO x):=by
 unfold jO
 try simp only [aW.cf,jN]
 kernel_rfl
def rS:Lp:=⟨226,2042,MU,fun vs rs=>dC xZ x4 (goN jO (Kh vs rs)) [aB.ae.exit 2],false⟩
theorem Dv:rS.Ok Tryz.prog:=b8 funcs mixed ah.nil au.nil (L:=9) (n:=9) (step:=jO) (ev:=xZ) (er:=x4) (pa:=Kh) rfl (fun wv wr=>⟨by kernel_rfl,by kernel_rfl⟩) Tt
theorem yQ:bZ Tryz.prog rS.f rS.p=true:=by kernel_rfl
structure jo where
 t2:(Sl az)
 t3:Int
 n:Int
 out:(Sl az)
 i:Int
 p:Prim
instance:Inhabited jo:=⟨by constructor<;>exact default⟩
def x5 (x:jo):List KV:=[eA 40 df x.t2,.int .i64 x.t3,.int .i64 x.n,eA 40 df x.out,.int .i64 x.i]
def x6 (x:jo):List (List KV):=[ag0 x.p]
def Ki (vs:List KV) (rs:List (List KV)):jo:=⟨dP dv (vs.getD 0 .ao),ay (vs.getD 1 .ao),ay (vs.getD 2 .ao),dP dv (vs.getD 3 .ao),ay (vs.getD 4 .ao),ag1 (fun k=>(rs.getD 0 []).getD k .ao)⟩
def MV:aV:=⟨[(2,⟨false,[.k (.slice 40)]⟩),(3,⟨false,[.k (.int .i64)]⟩),(4,⟨false,[.k (.int .i64)]⟩),(5,⟨false,[.bA 40]⟩),(6,⟨false,[.k (.int .i64)]⟩)],[(1,[.k (.int .u8),.k (.slice 3)],1)],[(1,0,0)]⟩
def YP:=dB Tryz.prog (bp Tryz.prog [] [rS] (fun _=>false)) 9 9 226 4074 (dF Tryz.prog 226 4074) MV
def kX (x:jo):aW jo:=(cond (decide (x.i < x.n)) (cond ((decide ((0:Int)<=x.i))&&(decide (x.i < ((x.p.index.n:Nat):Int)))) (cond ((decide ((0:Int)<=(aR (x.i+(1:Int)))))&&(decide ((aR (x.i+(1:Int))) < ((x.p.index.n:Nat):Int)))) (cond ((decide ((0:Int)<=(aR (x.i+(2:Int)))))&&(decide ((aR (x.i+(2:Int))) < ((x.p.index.n:Nat):Int)))) (cond ((bz x.out.n x.out.n)&&(kD 24 x.out.n 1)) (cond (bz (x.out.n+1) (x.out.n+1)) (.next (⟨x.t2,x.t3,x.n,(x.out.push (⟨(x.p.index.get (Int.toNat x.i)),(x.p.index.get (Int.toNat (aR (x.i+(1:Int))))),(x.p.index.get (Int.toNat (aR (x.i+(2:Int)))))⟩:az)),(aR (x.i+(3:Int))),x.p⟩:jo)) .fail) .fail) .fail) .fail) .fail) (cond (bz x.out.n x.out.n) (.out (aB.ae.exit 0) x) .fail))
theorem Tu (x:jo):YP (x5 x) (x6 x)=aW.enc x5 x6 (kX x):=by
 unfold kX
 try simp only [aW.cf,jN]
 kernel_rfl
def vp:Lp:=⟨226,4074,MV,fun vs rs=>dC x5 x6 (goN kX (Ki vs rs)) [aB.ae.exit 0],false⟩
theorem Kj:vp.Ok Tryz.prog:=b8 funcs mixed ah.nil (au.cons Dv yQ au.nil) (L:=9) (n:=9) (step:=kX) (ev:=x5) (er:=x6) (pa:=Ki) rfl (fun wv wr=>⟨by kernel_rfl,by kernel_rfl⟩) Tu
theorem F5:bZ Tryz.prog vp.f vp.p=true:=by kernel_rfl
structure gF where
 t2:(Sl az)
 t3:Int
 n:Int
 out:(Sl az)
 i:Int
 p:Prim
instance:Inhabited gF:=⟨by constructor<;>exact default⟩
def x7 (x:gF):List KV:=[eA 40 df x.t2,.int .i64 x.t3,.int .i64 x.n,eA 40 df x.out,.int .i64 x.i]
def x8 (x:gF):List (List KV):=[ag0 x.p]
def Kk (vs:List KV) (rs:List (List KV)):gF:=⟨dP dv (vs.getD 0 .ao),ay (vs.getD 1 .ao),ay (vs.getD 2 .ao),dP dv (vs.getD 3 .ao),ay (vs.getD 4 .ao),ag1 (fun k=>(rs.getD 0 []).getD k .ao)⟩
def MW:aV:=⟨[(2,⟨false,[.k (.slice 40)]⟩),(3,⟨false,[.k (.int .i64)]⟩),(4,⟨false,[.k (.int .i64)]⟩),(5,⟨false,[.bA 40]⟩),(10,⟨false,[.k (.int .i64)]⟩)],[(1,[.k (.int .u8),.k (.slice 3)],1)],[(1,0,0)]⟩
def YQ:=dB Tryz.prog (bp Tryz.prog [] [rS,vp] (fun _=>false)) 9 9 226 4090 (dF Tryz.prog 226 4090) MW
def jP (x:gF):aW gF:=(cond (decide (x.i<=(aR (x.n - (2:Int))))) (cond (x.p.kind==(2:Int)) (cond (decide ((0:Int) < ((x.p.index.n:Nat):Int))) (cond ((decide ((0:Int)<=x.i))&&(decide (x.i < ((x.p.index.n:Nat):Int)))) (cond ((decide ((0:Int)<=(aR (x.i+(1:Int)))))&&(decide ((aR (x.i+(1:Int))) < ((x.p.index.n:Nat):Int)))) (cond ((bz x.out.n x.out.n)&&(kD 24 x.out.n 1)) (cond (bz (x.out.n+1) (x.out.n+1)) (.next (⟨x.t2,x.t3,x.n,(x.out.push (⟨(x.p.index.get 0),(x.p.index.get (Int.toNat x.i)),(x.p.index.get (Int.toNat (aR (x.i+(1:Int)))))⟩:az)),(aR (x.i+(1:Int))),x.p⟩:gF)) .fail) .fail) .fail) .fail) .fail) (cond (bz x.out.n x.out.n) (.out (aB.ae.exit 4) x) .fail)) (cond (bz x.out.n x.out.n) (.out (aB.ae.exit 4) x) .fail))
theorem Tv (x:gF):YQ (x7 x) (x8 x)=aW.enc x7 x8 (jP x):=by
 unfold jP
 try simp only [aW.cf,jN]
 kernel_rfl
def zP:Lp:=⟨226,4090,MW,fun vs rs=>dC x7 x8 (goN jP (Kk vs rs)) [aB.ae.exit 4],false⟩
theorem YR:zP.Ok Tryz.prog:=b8 funcs mixed ah.nil (au.cons Dv yQ (au.cons Kj F5 au.nil)) (L:=9) (n:=9) (step:=jP) (ev:=x7) (er:=x8) (pa:=Kk) rfl (fun wv wr=>⟨by kernel_rfl,by kernel_rfl⟩) Tv
theorem Rs:bZ Tryz.prog zP.f zP.p=true:=by kernel_rfl
def YS:List (Nat×(List KV->KR KV)):=[]
def YT:List Lp:=[rS,vp,zP]
theorem ahe:ah Tryz.prog YS:=ah.nil
theorem ahf:au Tryz.prog YT:=(au.cons Dv yQ (au.cons Kj F5 (au.cons YR Rs au.nil)))
def gK (p:Prim):(aW jo):=(goN kX (⟨(⟨0,(fun i=>(⟨(0:Int),(0:Int),(0:Int)⟩:az))⟩:Sl _),(0:Int),((p.index.n:Nat):Int),(⟨0,(fun i=>(⟨(0:Int),(0:Int),(0:Int)⟩:az))⟩:Sl _),(0:Int),p⟩:jo))
def gL (p:Prim):(aW fM):=(goN jO (⟨(gK p).st.t2,(gK p).st.t3,(gK p).st.n,(gK p).st.out,(0:Int),(gK p).st.p⟩:fM))
def pJ (p:Prim):(aW gF):=(goN jP (⟨(gL p).st.t2,(gL p).st.t3,(gL p).st.n,(gL p).st.out,(1:Int),(gL p).st.p⟩:gF))
def gM (p:Prim):(aW fM):=(goN jO (⟨(⟨0,(fun i=>(⟨(0:Int),(0:Int),(0:Int)⟩:az))⟩:Sl _),(0:Int),((p.index.n:Nat):Int),(⟨0,(fun i=>(⟨(0:Int),(0:Int),(0:Int)⟩:az))⟩:Sl _),(0:Int),p⟩:fM))
def pK (p:Prim):(aW gF):=(goN jP (⟨(gM p).st.t2,(gM p).st.t3,(gM p).st.n,(gM p).st.out,(1:Int),(gM p).st.p⟩:gF))
def Cu (p:Prim):Option ((Sl az)×Int):=(cond (decide (p.kind > (2:Int))) (some ((⟨0,(fun i=>(⟨(0:Int),(0:Int),(0:Int)⟩:az))⟩:Sl _),(2:Int))) (cond (decide (((p.index.n:Nat):Int) > (200:Int))) (some ((⟨0,(fun i=>(⟨(0:Int),(0:Int),(0:Int)⟩:az))⟩:Sl _),(4:Int))) (cond (p.kind==(0:Int)) (cond ((Int.tmod ((p.index.n:Nat):Int) (3:Int)) != (0:Int)) (some ((⟨0,(fun i=>(⟨(0:Int),(0:Int),(0:Int)⟩:az))⟩:Sl _),(40:Int))) (cond (decide (p.kind > (0:Int))) (cond (((p.index.n:Nat):Int)==(1:Int)) (some ((⟨0,(fun i=>(⟨(0:Int),(0:Int),(0:Int)⟩:az))⟩:Sl _),(40:Int))) (cond (((p.index.n:Nat):Int)==(2:Int)) (some ((⟨0,(fun i=>(⟨(0:Int),(0:Int),(0:Int)⟩:az))⟩:Sl _),(40:Int))) (cond (p.kind==(0:Int)) (cond ((gK p).by (aB.ae.exit 0)) (cond (bz (gK p).st.out.n (gK p).st.out.n) (cond ((gL p).by (aB.ae.exit 2)) (cond (bz (gL p).st.out.n (gL p).st.out.n) (cond ((pJ p).by (aB.ae.exit 4)) (some ((pJ p).st.out,(0:Int))) none) none) none) none) none) (cond ((gM p).by (aB.ae.exit 2)) (cond (bz (gM p).st.out.n (gM p).st.out.n) (cond ((pK p).by (aB.ae.exit 4)) (some ((pK p).st.out,(0:Int))) none) none) none)))) (cond (p.kind==(0:Int)) (cond ((gK p).by (aB.ae.exit 0)) (cond (bz (gK p).st.out.n (gK p).st.out.n) (cond ((gL p).by (aB.ae.exit 2)) (cond (bz (gL p).st.out.n (gL p).st.out.n) (cond ((pJ p).by (aB.ae.exit 4)) (some ((pJ p).st.out,(0:Int))) none) none) none) none) none) (cond ((gM p).by (aB.ae.exit 2)) (cond (bz (gM p).st.out.n (gM p).st.out.n) (cond ((pK p).by (aB.ae.exit 4)) (some ((pK p).st.out,(0:Int))) none) none) none)))) (cond (decide (p.kind > (0:Int))) (cond (((p.index.n:Nat):Int)==(1:Int)) (some ((⟨0,(fun i=>(⟨(0:Int),(0:Int),(0:Int)⟩:az))⟩:Sl _),(40:Int))) (cond (((p.index.n:Nat):Int)==(2:Int)) (some ((⟨0,(fun i=>(⟨(0:Int),(0:Int),(0:Int)⟩:az))⟩:Sl _),(40:Int))) (cond (p.kind==(0:Int)) (cond ((gK p).by (aB.ae.exit 0)) (cond (bz (gK p).st.out.n (gK p).st.out.n) (cond ((gL p).by (aB.ae.exit 2)) (cond (bz (gL p).st.out.n (gL p).st.out.n) (cond ((pJ p).by (aB.ae.exit 4)) (some ((pJ p).st.out,(0:Int))) none) none) none) none) none) (cond ((gM p).by (aB.ae.exit 2)) (cond (bz (gM p).st.out.n (gM p).st.out.n) (cond ((pK p).by (aB.ae.exit 4)) (some ((pK p).st.out,(0:Int))) none) none) none)))) (cond (p.kind==(0:Int)) (cond ((gK p).by (aB.ae.exit 0)) (cond (bz (gK p).st.out.n (gK p).st.out.n) (cond ((gL p).by (aB.ae.exit 2)) (cond (bz (gL p).st.out.n (gL p).st.out.n) (cond ((pJ p).by (aB.ae.exit 4)) (some ((pJ p).st.out,(0:Int))) none) none) none) none) none) (cond ((gM p).by (aB.ae.exit 2)) (cond (bz (gM p).st.out.n (gM p).st.out.n) (cond ((pK p).by (aB.ae.exit 4)) (some ((pK p).st.out,(0:Int))) none) none) none))))))
theorem aji (p:Prim):cD Tryz.prog (bp Tryz.prog YS YT (fun _=>false)) 9 9 226 [rv p] = (Cu p).map (fun (r:(Sl az)×Int)=>KV.nb [(eA 40 df) r.1,(kI .i64) r.2]):=by
 unfold Cu
 try simp only [bq]
 kernel_rfl
def Kl:List KV->KR KV:=bI Tryz.prog 226 (bL (fun (r:(Sl az)×Int)=>KV.nb [(eA 40 df) r.1,(kI .i64) r.2]) fun vs=>Cu (lM (vs.getD 0 .ao)))
theorem ahg (w:Nat->KV):ck Tryz.prog [172] w 0 = [rv (lM (ax Tryz.prog (ai Tryz.prog aj) 172 (w 0)))]:=by kernel_rfl
theorem I9:bH Tryz.prog 226 Kl:=aL funcs mixed ahe ahf (L:=9) (n:=9) fun w=>by
 have e:aG Tryz.prog 226 = [172]:=by kernel_rfl
 rw [e,ahg]
 exact (aji (lM (ax Tryz.prog (ai Tryz.prog aj) 172 (w 0)))).trans (by kernel_rfl)
structure ja where
 t2:(Sl az)
 t3:Bool
 out:(Sl az)
 i:Int
 m:iU
instance:Inhabited ja:=⟨⟨default,default,default,default,default⟩⟩
def Dw (x:ja):List KV:=[eA 40 df x.t2,.bool x.t3,eA 40 df x.out,.int .i64 x.i]
def Dx (x:ja):List (List KV):=[Wi x.m]
def Rt (vs:List KV) (rs:List (List KV)):ja:=⟨dP dv (vs.getD 0 .ao),dj (vs.getD 1 .ao),dP dv (vs.getD 2 .ao),ay (vs.getD 3 .ao),Wj (fun k=>(rs.getD 0 []).getD k .ao)⟩
def UE:aV:=⟨[(2,⟨false,[.k (.slice 40)]⟩),(3,⟨false,[.k .bool]⟩),(4,⟨false,[.bA 40]⟩),(5,⟨false,[.k (.int .i64)]⟩)],[(1,[.k (.slice 43),.k (.slice 185),.k (.slice 172)],1)],[(1,0,0)]⟩
structure gG where
 t2:(Sl az)
 t3:Bool
 out:(Sl az)
 i:Int
 l:(Sl az)
 k:Int
 m:iU
instance:Inhabited gG:=⟨by constructor<;>exact default⟩
def x9 (x:gG):List KV:=[eA 40 df x.t2,.bool x.t3,eA 40 df x.out,.int .i64 x.i,eA 40 df x.l,.int .i64 x.k]
def ya (x:gG):List (List KV):=[Wi x.m]
def Km (vs:List KV) (rs:List (List KV)):gG:=⟨dP dv (vs.getD 0 .ao),dj (vs.getD 1 .ao),dP dv (vs.getD 2 .ao),ay (vs.getD 3 .ao),dP dv (vs.getD 4 .ao),ay (vs.getD 5 .ao),Wj (fun k=>(rs.getD 0 []).getD k .ao)⟩
def MX:aV:=⟨[(2,⟨false,[.k (.slice 40)]⟩),(3,⟨false,[.k .bool]⟩),(4,⟨false,[.bA 40]⟩),(5,⟨false,[.k (.int .i64)]⟩),(6,⟨false,[.k (.slice 40)]⟩),(8,⟨false,[.k (.int .i64)]⟩)],[(1,[.k (.slice 43),.k (.slice 185),.k (.slice 172)],1)],[(1,0,0)]⟩
def YU:=dB Tryz.prog (bp Tryz.prog [(221,H6),(226,Kl)] [] (fun _=>false)) 9 9 222 29850 (dF Tryz.prog 222 29850) MX
def B7 (x:gG):(Option Bool):=(vo ((x.m.cG.get (Int.toNat x.i)).index.get (Int.toNat x.k)) (0:Int) (aR (((x.m.gh.n:Nat):Int) - (1:Int))))
def jb (x:gG):aW gG:=(cond ((decide ((0:Int)<=x.i))&&(decide (x.i < ((x.m.cG.n:Nat):Int)))) (cond (decide (x.k < (((x.m.cG.get (Int.toNat x.i)).index.n:Nat):Int))) (cond ((decide ((0:Int)<=x.i))&&(decide (x.i < ((x.m.cG.n:Nat):Int)))) (cond ((decide ((0:Int)<=x.k))&&(decide (x.k < (((x.m.cG.get (Int.toNat x.i)).index.n:Nat):Int)))) (cond (B7 x).isSome (cond (!((B7 x).getD default)) (cond (bz x.out.n x.out.n) (.out aB.ae.ret (⟨(⟨0,(fun i=>(⟨(0:Int),(0:Int),(0:Int)⟩:az))⟩:Sl _),false,x.out,x.i,x.l,x.k,x.m⟩:gG)) .fail) (cond (bz x.out.n x.out.n) (.next (⟨x.t2,x.t3,x.out,x.i,x.l,(aR (x.k+(1:Int))),x.m⟩:gG)) .fail)) .fail) .fail) .fail) (cond (bz x.out.n x.out.n) (.out (aB.ae.exit 2) x) .fail)) .fail)
theorem Tw (x:gG):YU (x9 x) (ya x)=aW.enc x9 ya (jb x):=by
 unfold jb
 try simp only [aW.cf]
 kernel_rfl
def vq:Lp:=⟨222,29850,MX,fun vs rs=>dC x9 ya (goN jb (Km vs rs)) [aB.ae.exit 2,aB.ae.ret],false⟩
theorem Kn:vq.Ok Tryz.prog:=b8 funcs mixed (ah.cons Du (ah.cons I9 ah.nil)) au.nil (L:=9) (n:=9) (step:=jb) (ev:=x9) (er:=ya) (pa:=Km) rfl (fun wv wr=>⟨by kernel_rfl,by kernel_rfl⟩) Tw
theorem F6:bZ Tryz.prog vq.f vq.p=true:=by kernel_rfl
def ahh:=dB Tryz.prog (bp Tryz.prog [(221,H6),(226,Kl)] [vq] (fun _=>false)) 9 9 222 58 (dF Tryz.prog 222 58) UE
def Bw (x:ja):(Option (Prod (Sl az) Int)):=(Cu (x.m.cG.get (Int.toNat x.i)))
def cQ (x:ja):(aW gG):=(goN jb (⟨x.t2,x.t3,x.out,x.i,((Bw x).getD default).fst,(0:Int),x.m⟩:gG))
def pC (x:ja):aW ja:=(cond (decide (x.i < ((x.m.cG.n:Nat):Int))) (cond ((decide ((0:Int)<=x.i))&&(decide (x.i < ((x.m.cG.n:Nat):Int)))) (cond (Bw x).isSome (cond (((Bw x).getD default).snd != (0:Int)) (cond (bz x.out.n x.out.n) (.out aB.ae.ret (⟨(⟨0,(fun i=>(⟨(0:Int),(0:Int),(0:Int)⟩:az))⟩:Sl _),false,x.out,x.i,x.m⟩:ja)) .fail) (cond (bz x.out.n x.out.n) (cond ((cQ x).by (aB.ae.exit 2)) (cond ((bz (cQ x).st.out.n (cQ x).st.out.n)&&(kD 24 (cQ x).st.out.n (cQ x).st.l.n)) (cond (bz ((cQ x).st.out.n+(cQ x).st.l.n) ((cQ x).st.out.n+(cQ x).st.l.n)) (.next (⟨(cQ x).st.t2,(cQ x).st.t3,((cQ x).st.out.join (cQ x).st.l),(aR ((cQ x).st.i+(1:Int))),(cQ x).st.m⟩:ja)) .fail) .fail) (cond ((cQ x).by aB.ae.ret) (cond (bz (cQ x).st.out.n (cQ x).st.out.n) (.out aB.ae.ret (⟨(cQ x).st.t2,(cQ x).st.t3,(cQ x).st.out,(cQ x).st.i,(cQ x).st.m⟩:ja)) .fail) .fail)) .fail)) .fail) .fail) (cond (bz x.out.n x.out.n) (.out (aB.ae.exit 0) x) .fail))
theorem abh (x:ja):ahh (Dw x) (Dx x)=aW.enc Dw Dx (pC x):=by
 unfold pC
 try simp only [aW.cf,ll]
 kernel_rfl
def Fy:Lp:=⟨222,58,UE,fun vs rs=>dC Dw Dx (goN pC (Rt vs rs)) [aB.ae.exit 0,aB.ae.ret],false⟩
theorem ahi:Fy.Ok Tryz.prog:=b8 funcs mixed (ah.cons Du (ah.cons I9 ah.nil)) (au.cons Kn F6 au.nil) (L:=9) (n:=9) (step:=pC) (ev:=Dw) (er:=Dx) (pa:=Rt) rfl (fun wv wr=>⟨by kernel_rfl,by kernel_rfl⟩) abh
theorem YV:bZ Tryz.prog Fy.f Fy.p=true:=by kernel_rfl
def acX:List (Nat×(List KV->KR KV)):=[(221,H6),(226,Kl)]
def acY:List Lp:=[vq,Fy]
theorem ajj:ah Tryz.prog acX:=(ah.cons Du (ah.cons I9 ah.nil))
theorem ajk:au Tryz.prog acY:=(au.cons Kn F6 (au.cons ahi YV au.nil))
def zQ (m:iU):(aW ja):=(goN pC (⟨(⟨0,(fun i=>(⟨(0:Int),(0:Int),(0:Int)⟩:az))⟩:Sl _),false,(⟨0,(fun i=>(⟨(0:Int),(0:Int),(0:Int)⟩:az))⟩:Sl _),(0:Int),m⟩:ja))
def EL (m:iU):Option ((Sl az)×Bool):=(cond ((zQ m).by (aB.ae.exit 0)) (some ((zQ m).st.out,true)) (cond ((zQ m).by aB.ae.ret) (some ((zQ m).st.t2,(zQ m).st.t3)) none))
theorem al9 (m:iU):cD Tryz.prog (bp Tryz.prog acX acY (fun _=>false)) 9 9 222 [n5 m] = (EL m).map (fun (r:(Sl az)×Bool)=>KV.nb [(eA 40 df) r.1,kB r.2]):=by
 unfold EL
 try simp only [bq]
 kernel_rfl
def Ws:List KV->KR KV:=bI Tryz.prog 222 (bL (fun (r:(Sl az)×Bool)=>KV.nb [(eA 40 df) r.1,kB r.2]) fun vs=>EL (jJ (vs.getD 0 .ao)))
theorem ajl (w:Nat->KV):ck Tryz.prog [88] w 0 = [n5 (jJ (ax Tryz.prog (ai Tryz.prog aj) 88 (w 0)))]:=by kernel_rfl
theorem UF:bH Tryz.prog 222 Ws:=aL funcs mixed ajj ajk (L:=9) (n:=9) fun w=>by
 have e:aG Tryz.prog 222 = [88]:=by kernel_rfl
 rw [e,ajl]
 exact (al9 (jJ (ax Tryz.prog (ai Tryz.prog aj) 88 (w 0)))).trans (by kernel_rfl)
structure eD where
 t2:Bool
 i:Int
 m:iU
instance:Inhabited eD:=⟨⟨default,default,default⟩⟩
def Dy (x:eD):List KV:=[.bool x.t2,.int .i64 x.i]
def Dz (x:eD):List (List KV):=[Wi x.m]
def Ru (vs:List KV) (rs:List (List KV)):eD:=⟨dj (vs.getD 0 .ao),ay (vs.getD 1 .ao),Wj (fun k=>(rs.getD 0 []).getD k .ao)⟩
def UG:aV:=⟨[(2,⟨false,[.k .bool]⟩),(3,⟨false,[.k (.int .i64)]⟩)],[(1,[.k (.slice 43),.k (.slice 185),.k (.slice 172)],1)],[(1,0,0)]⟩
def ahj:=dB Tryz.prog (bp Tryz.prog [(222,Ws),(221,H6)] [] (fun _=>false)) 9 9 211 58 (dF Tryz.prog 211 58) UG
def GF (x:eD):(Option Bool):=(vo (x.m.gh.get (Int.toNat x.i)).x (-(1024:Int)) (1024:Int))
def GG (x:eD):(Option Bool):=(vo (x.m.gh.get (Int.toNat x.i)).y (-(1024:Int)) (1024:Int))
def GH (x:eD):(Option Bool):=(vo (x.m.gh.get (Int.toNat x.i)).z (-(1024:Int)) (1024:Int))
def GI (x:eD):(Option Bool):=(vo (x.m.uV.get (Int.toNat x.i)).e0 (0:Int) (255:Int))
def GJ (x:eD):(Option Bool):=(vo (x.m.uV.get (Int.toNat x.i)).e1 (0:Int) (255:Int))
def kT (x:eD):aW eD:=(cond (decide (x.i < ((x.m.gh.n:Nat):Int))) (cond ((decide ((0:Int)<=x.i))&&(decide (x.i < ((x.m.gh.n:Nat):Int)))) (cond (GF x).isSome (cond (!((GF x).getD default)) (.out aB.ae.ret (⟨false,x.i,x.m⟩:eD)) (cond (GG x).isSome (cond (!((GG x).getD default)) (.out aB.ae.ret (⟨false,x.i,x.m⟩:eD)) (cond (GH x).isSome (cond (!((GH x).getD default)) (.out aB.ae.ret (⟨false,x.i,x.m⟩:eD)) (cond ((decide ((0:Int)<=x.i))&&(decide (x.i < ((x.m.uV.n:Nat):Int)))) (cond (GI x).isSome (cond (!((GI x).getD default)) (.out aB.ae.ret (⟨false,x.i,x.m⟩:eD)) (cond ((decide ((0:Int)<=x.i))&&(decide (x.i < ((x.m.uV.n:Nat):Int)))) (cond (GJ x).isSome (cond (!((GJ x).getD default)) (.out aB.ae.ret (⟨false,x.i,x.m⟩:eD)) (.next (⟨x.t2,(aR (x.i+(1:Int))),x.m⟩:eD))) .fail) .fail)) .fail) .fail)) .fail)) .fail)) .fail) .fail) (.out (aB.ae.exit 0) x))
theorem abi (x:eD):ahj (Dy x) (Dz x)=aW.enc Dy Dz (kT x):=by
 unfold kT
 try simp only [aW.cf]
 kernel_rfl
def Fz:Lp:=⟨211,58,UG,fun vs rs=>dC Dy Dz (goN kT (Ru vs rs)) [aB.ae.exit 0,aB.ae.ret],false⟩
theorem ahk:Fz.Ok Tryz.prog:=b8 funcs mixed (ah.cons UF (ah.cons Du ah.nil)) au.nil (L:=9) (n:=9) (step:=kT) (ev:=Dy) (er:=Dz) (pa:=Ru) rfl (fun wv wr=>⟨by kernel_rfl,by kernel_rfl⟩) abi
theorem YW:bZ Tryz.prog Fz.f Fz.p=true:=by kernel_rfl
def acZ:List (Nat×(List KV->KR KV)):=[(222,Ws),(221,H6)]
def ac0:List Lp:=[Fz]
theorem ajm:ah Tryz.prog acZ:=(ah.cons UF (ah.cons Du ah.nil))
theorem ajn:au Tryz.prog ac0:=(au.cons ahk YW au.nil)
def DA (m:iU):(aW eD):=(goN kT (⟨false,(0:Int),m⟩:eD))
def HD (m:iU):(Option (Prod (Sl az) Bool)):=(EL (DA m).st.m)
def EM (m:iU):Option (Bool):=(cond (((m.uV.n:Nat):Int) != ((m.gh.n:Nat):Int)) (some (false)) (cond ((DA m).by (aB.ae.exit 0)) (cond (HD m).isSome (cond ((HD m).getD default).snd (some ((decide (((((HD m).getD default).fst.n:Nat):Int)<=(64:Int))))) (some (false))) none) (cond ((DA m).by aB.ae.ret) (some ((DA m).st.t2)) none)))
theorem ama (m:iU):cD Tryz.prog (bp Tryz.prog acZ ac0 (fun _=>false)) 9 9 211 [n5 m] = (EM m).map kB:=by
 unfold EM
 try simp only [bq]
 kernel_rfl
def ahl:List KV->KR KV:=bI Tryz.prog 211 (bL kB fun vs=>EM (jJ (vs.getD 0 .ao)))
theorem ajo (w:Nat->KV):ck Tryz.prog [88] w 0 = [n5 (jJ (ax Tryz.prog (ai Tryz.prog aj) 88 (w 0)))]:=by kernel_rfl
theorem ajp:bH Tryz.prog 211 ahl:=aL funcs mixed ajm ajn (L:=9) (n:=9) fun w=>by
 have e:aG Tryz.prog 211 = [88]:=by kernel_rfl
 rw [e,ajo]
 exact (ama (jJ (ax Tryz.prog (ai Tryz.prog aj) 88 (w 0)))).trans (by kernel_rfl)
def UH:List (Nat×(List KV->KR KV)):=[(211,ahl)]
def UI:List Lp:=[]
theorem adV:ah Tryz.prog UH:=(ah.cons ajp ah.nil)
theorem adW:au Tryz.prog UI:=au.nil
def Ja (m:iU):(Option Bool):=(EM m)
def zR (m:iU):Option (Int):=(cond (decide (((m.gh.n:Nat):Int) > (64:Int))) (some ((4:Int))) (cond (decide (((m.uV.n:Nat):Int) > (64:Int))) (some ((4:Int))) (cond (decide (((m.cG.n:Nat):Int) > (16:Int))) (some ((4:Int))) (cond (Ja m).isSome (cond (!((Ja m).getD default)) (some ((40:Int))) (some ((0:Int)))) none))))
theorem ahm (m:iU):cD Tryz.prog (bp Tryz.prog UH UI (fun _=>false)) 9 9 179 [n5 m] = (zR m).map (kI .i64):=by
 unfold zR
 try simp only [bq]
 kernel_rfl
def HF:List KV->KR KV:=bI Tryz.prog 179 (bL (kI .i64) fun vs=>zR (jJ (vs.getD 0 .ao)))
theorem adX (w:Nat->KV):ck Tryz.prog [88] w 0 = [n5 (jJ (ax Tryz.prog (ai Tryz.prog aj) 88 (w 0)))]:=by kernel_rfl
theorem GK:bH Tryz.prog 179 HF:=aL funcs mixed adV adW (L:=9) (n:=9) fun w=>by
 have e:aG Tryz.prog 179 = [88]:=by kernel_rfl
 rw [e,adX]
 exact (ahm (jJ (ax Tryz.prog (ai Tryz.prog aj) 88 (w 0)))).trans (by kernel_rfl)
def ac1:List (Nat×(List KV->KR KV)):=[]
def ac2:List Lp:=[]
theorem ajq:ah Tryz.prog ac1:=ah.nil
theorem ajr:au Tryz.prog ac2:=au.nil
def EO (t:jf):Option (Bool):=(cond (decide (t.w >= (1:Int))) (cond (decide (t.w<=(16:Int))) (cond (decide (t.h >= (1:Int))) (cond (decide (t.h<=(16:Int))) (some ((((t.S3.n:Nat):Int)==(aR (t.w * t.h))))) (some (false))) (some (false))) (some (false))) (some (false)))
theorem amb (t:jf):cD Tryz.prog (bp Tryz.prog ac1 ac2 (fun _=>false)) 9 9 180 [jF t] = (EO t).map kB:=by
 unfold EO
 try simp only [bq]
 kernel_rfl
def OG:List KV->KR KV:=bI Tryz.prog 180 (bL kB fun vs=>EO (eM (vs.getD 0 .ao)))
theorem ajs (w:Nat->KV):ck Tryz.prog [91] w 0 = [jF (eM (ax Tryz.prog (ai Tryz.prog aj) 91 (w 0)))]:=by kernel_rfl
theorem Lu:bH Tryz.prog 180 OG:=aL funcs mixed ajq ajr (L:=9) (n:=9) fun w=>by
 have e:aG Tryz.prog 180 = [91]:=by kernel_rfl
 rw [e,ajs]
 exact (amb (eM (ax Tryz.prog (ai Tryz.prog aj) 91 (w 0)))).trans (by kernel_rfl)
structure gH where
 t2:Bool
 i:Int
 s:aP
instance:Inhabited gH:=⟨⟨default,default,default⟩⟩
def yb (x:gH):List KV:=[.bool x.t2,.int .i64 x.i]
def yc (x:gH):List (List KV):=[uG x.s]
def Ko (vs:List KV) (rs:List (List KV)):gH:=⟨dj (vs.getD 0 .ao),ay (vs.getD 1 .ao),uH (fun k=>(rs.getD 0 []).getD k .ao)⟩
def MZ:aV:=⟨[(2,⟨false,[.k .bool]⟩),(3,⟨false,[.k (.int .i64)]⟩)],[(1,[.k (.slice 111),.k (.slice 35),.k (.slice 77),.k (.slice 88),.k (.slice 91),.k (.int .i64),.k (.int .i64)],1)],[(1,0,0)]⟩
def YX:=dB Tryz.prog (bp Tryz.prog [(180,OG),(179,HF)] [] (fun _=>false)) 9 9 130 26 (dF Tryz.prog 130 26) MZ
def B8 (x:gH):(Option Int):=(zR (x.s.bX.get (Int.toNat x.i)))
def jc (x:gH):aW gH:=(cond (decide (x.i < ((x.s.bX.n:Nat):Int))) (cond ((decide ((0:Int)<=x.i))&&(decide (x.i < ((x.s.bX.n:Nat):Int)))) (cond (B8 x).isSome (cond (((B8 x).getD default) != (0:Int)) (.out aB.ae.ret (⟨false,x.i,x.s⟩:gH)) (.next (⟨x.t2,(aR (x.i+(1:Int))),x.s⟩:gH))) .fail) .fail) (.out (aB.ae.exit 0) x))
theorem Tx (x:gH):YX (yb x) (yc x)=aW.enc yb yc (jc x):=by
 unfold jc
 try simp only [aW.cf]
 kernel_rfl
def vr:Lp:=⟨130,26,MZ,fun vs rs=>dC yb yc (goN jc (Ko vs rs)) [aB.ae.exit 0,aB.ae.ret],false⟩
theorem Kq:vr.Ok Tryz.prog:=b8 funcs mixed (ah.cons Lu (ah.cons GK ah.nil)) au.nil (L:=9) (n:=9) (step:=jc) (ev:=yb) (er:=yc) (pa:=Ko) rfl (fun wv wr=>⟨by kernel_rfl,by kernel_rfl⟩) Tx
theorem F7:bZ Tryz.prog vr.f vr.p=true:=by kernel_rfl
structure gI where
 t2:Bool
 i:Int
 s:aP
instance:Inhabited gI:=⟨⟨default,default,default⟩⟩
def yd (x:gI):List KV:=[.bool x.t2,.int .i64 x.i]
def ye (x:gI):List (List KV):=[uG x.s]
def Kr (vs:List KV) (rs:List (List KV)):gI:=⟨dj (vs.getD 0 .ao),ay (vs.getD 1 .ao),uH (fun k=>(rs.getD 0 []).getD k .ao)⟩
def M0:aV:=⟨[(2,⟨false,[.k .bool]⟩),(4,⟨false,[.k (.int .i64)]⟩)],[(1,[.k (.slice 111),.k (.slice 35),.k (.slice 77),.k (.slice 88),.k (.slice 91),.k (.int .i64),.k (.int .i64)],1)],[(1,0,0)]⟩
def YY:=dB Tryz.prog (bp Tryz.prog [(180,OG),(179,HF)] [vr] (fun _=>false)) 9 9 130 58 (dF Tryz.prog 130 58) M0
def B9 (x:gI):(Option Bool):=(EO (x.s.dD.get (Int.toNat x.i)))
def jd (x:gI):aW gI:=(cond (decide (x.i < ((x.s.dD.n:Nat):Int))) (cond ((decide ((0:Int)<=x.i))&&(decide (x.i < ((x.s.dD.n:Nat):Int)))) (cond (B9 x).isSome (cond (!((B9 x).getD default)) (.out aB.ae.ret (⟨false,x.i,x.s⟩:gI)) (.next (⟨x.t2,(aR (x.i+(1:Int))),x.s⟩:gI))) .fail) .fail) (.out (aB.ae.exit 2) x))
theorem Ty (x:gI):YY (yd x) (ye x)=aW.enc yd ye (jd x):=by
 unfold jd
 try simp only [aW.cf]
 kernel_rfl
def zS:Lp:=⟨130,58,M0,fun vs rs=>dC yd ye (goN jd (Kr vs rs)) [aB.ae.exit 2,aB.ae.ret],false⟩
theorem YZ:zS.Ok Tryz.prog:=b8 funcs mixed (ah.cons Lu (ah.cons GK ah.nil)) (au.cons Kq F7 au.nil) (L:=9) (n:=9) (step:=jd) (ev:=yd) (er:=ye) (pa:=Kr) rfl (fun wv wr=>⟨by kernel_rfl,by kernel_rfl⟩) Ty
theorem Rv:bZ Tryz.prog zS.f zS.p=true:=by kernel_rfl
def Rw:List (Nat×(List KV->KR KV)):=[(180,OG),(179,HF)]
def Rx:List Lp:=[vr,zS]
theorem abj:ah Tryz.prog Rw:=(ah.cons Lu (ah.cons GK ah.nil))
theorem abk:au Tryz.prog Rx:=(au.cons Kq F7 (au.cons YZ Rv au.nil))
def qN (s:aP):(aW gH):=(goN jc (⟨false,(0:Int),s⟩:gH))
def mT (s:aP):(aW gI):=(goN jd (⟨(qN s).st.t2,(0:Int),(qN s).st.s⟩:gI))
def xw (s:aP):Option (Bool):=(cond ((qN s).by (aB.ae.exit 0)) (cond ((mT s).by (aB.ae.exit 2)) (cond (decide ((((mT s).st.s.bX.n:Nat):Int)<=(32:Int))) (some ((decide ((((mT s).st.s.dD.n:Nat):Int)<=(16:Int))))) (some (false))) (cond ((mT s).by aB.ae.ret) (some ((mT s).st.t2)) none)) (cond ((qN s).by aB.ae.ret) (some ((qN s).st.t2)) none))
theorem adY (s:aP):cD Tryz.prog (bp Tryz.prog Rw Rx (fun _=>false)) 9 9 130 [dx s] = (xw s).map kB:=by
 unfold xw
 try simp only [bq]
 kernel_rfl
def Lv:List KV->KR KV:=bI Tryz.prog 130 (bL kB fun vs=>xw (b6 (vs.getD 0 .ao)))
theorem abl (w:Nat->KV):ck Tryz.prog [34] w 0 = [dx (b6 (ax Tryz.prog (ai Tryz.prog aj) 34 (w 0)))]:=by kernel_rfl
theorem M1:bH Tryz.prog 130 Lv:=aL funcs mixed abj abk (L:=9) (n:=9) fun w=>by
 have e:aG Tryz.prog 130 = [34]:=by kernel_rfl
 rw [e,abl]
 exact (adY (b6 (ax Tryz.prog (ai Tryz.prog aj) 34 (w 0)))).trans (by kernel_rfl)
def ahn:List (Nat×(List KV->KR KV)):=[]
def aho:List Lp:=[]
theorem amc:ah Tryz.prog ahn:=ah.nil
theorem amd:au Tryz.prog aho:=au.nil
def ny (n:Int) (cA:Int):Option (Bool):=(cond (decide (n >= (aR ((0:Int) - cA)))) (some ((decide (n<=cA)))) (some (false)))
theorem aon (n:Int) (cA:Int):cD Tryz.prog (bp Tryz.prog ahn aho (fun _=>false)) 9 9 189 [(kI .i64) n,(kI .i64) cA] = (ny n cA).map kB:=by
 unfold ny
 try simp only [bq]
 kernel_rfl
def abm:List KV->KR KV:=bI Tryz.prog 189 (bL kB fun vs=>ny (ay (vs.getD 0 .ao)) (ay (vs.getD 1 .ao)))
theorem ame (w:Nat->KV):ck Tryz.prog [3,3] w 0 = [(kI .i64) (ay (ax Tryz.prog (ai Tryz.prog aj) 3 (w 0))),(kI .i64) (ay (ax Tryz.prog (ai Tryz.prog aj) 3 (w 1)))]:=by kernel_rfl
theorem Y0:bH Tryz.prog 189 abm:=aL funcs mixed amc amd (L:=9) (n:=9) fun w=>by
 have e:aG Tryz.prog 189 = [3,3]:=by kernel_rfl
 rw [e,ame]
 exact (aon (ay (ax Tryz.prog (ai Tryz.prog aj) 3 (w 0))) (ay (ax Tryz.prog (ai Tryz.prog aj) 3 (w 1)))).trans (by kernel_rfl)
def Y1:List (Nat×(List KV->KR KV)):=[(189,abm)]
def Y2:List Lp:=[]
theorem ahp:ah Tryz.prog Y1:=(ah.cons Y0 ah.nil)
theorem ahq:au Tryz.prog Y2:=au.nil
def Lw (m:bw) (cA:Int):(Option Bool):=(ny m.e0.e0 cA)
def Lx (m:bw) (cA:Int):(Option Bool):=(ny m.e0.e1 cA)
def Ly (m:bw) (cA:Int):(Option Bool):=(ny m.e0.e2 cA)
def Lz (m:bw) (cA:Int):(Option Bool):=(ny m.e1.e0 cA)
def LA (m:bw) (cA:Int):(Option Bool):=(ny m.e1.e1 cA)
def LB (m:bw) (cA:Int):(Option Bool):=(ny m.e1.e2 cA)
def LC (m:bw) (cA:Int):(Option Bool):=(ny m.e2.e0 cA)
def LD (m:bw) (cA:Int):(Option Bool):=(ny m.e2.e1 cA)
def LF (m:bw) (cA:Int):(Option Bool):=(ny m.e2.e2 cA)
def Cv (m:bw) (cA:Int):Option (Bool):=(cond (Lw m cA).isSome (cond (!((Lw m cA).getD default)) (some (false)) (cond (Lx m cA).isSome (cond (!((Lx m cA).getD default)) (some (false)) (cond (Ly m cA).isSome (cond (!((Ly m cA).getD default)) (some (false)) (cond (Lz m cA).isSome (cond (!((Lz m cA).getD default)) (some (false)) (cond (LA m cA).isSome (cond (!((LA m cA).getD default)) (some (false)) (cond (LB m cA).isSome (cond (!((LB m cA).getD default)) (some (false)) (cond (LC m cA).isSome (cond (!((LC m cA).getD default)) (some (false)) (cond (LD m cA).isSome (cond (!((LD m cA).getD default)) (some (false)) (cond (LF m cA).isSome (cond (!((LF m cA).getD default)) (some (false)) (some (true))) none)) none)) none)) none)) none)) none)) none)) none)) none)
theorem ajt (m:bw) (cA:Int):cD Tryz.prog (bp Tryz.prog Y1 Y2 (fun _=>false)) 9 9 188 [gb m,(kI .i64) cA] = (Cv m cA).map kB:=by
 unfold Cv
 try simp only [bq]
 kernel_rfl
def ac3:List KV->KR KV:=bI Tryz.prog 188 (bL kB fun vs=>Cv (cV (vs.getD 0 .ao)) (ay (vs.getD 1 .ao)))
theorem ahr (w:Nat->KV):ck Tryz.prog [41,3] w 0 = [gb (cV (ax Tryz.prog (ai Tryz.prog aj) 41 (w 0))),(kI .i64) (ay (ax Tryz.prog (ai Tryz.prog aj) 3 (w 1)))]:=by kernel_rfl
theorem ahs:bH Tryz.prog 188 ac3:=aL funcs mixed ahp ahq (L:=9) (n:=9) fun w=>by
 have e:aG Tryz.prog 188 = [41,3]:=by kernel_rfl
 rw [e,ahr]
 exact (ajt (cV (ax Tryz.prog (ai Tryz.prog aj) 41 (w 0))) (ay (ax Tryz.prog (ai Tryz.prog aj) 3 (w 1)))).trans (by kernel_rfl)
def ac4:List (Nat×(List KV->KR KV)):=[(189,abm)]
def ac5:List Lp:=[]
theorem aju:ah Tryz.prog ac4:=(ah.cons Y0 ah.nil)
theorem ajv:au Tryz.prog ac5:=au.nil
def OH (v:fO) (cA:Int):(Option Bool):=(ny v.x cA)
def OI (v:fO) (cA:Int):(Option Bool):=(ny v.y cA)
def OJ (v:fO) (cA:Int):(Option Bool):=(ny v.z cA)
def Ca (v:fO) (cA:Int):Option (Bool):=(cond (OH v cA).isSome (cond ((OH v cA).getD default) (cond (OI v cA).isSome (cond ((OI v cA).getD default) (cond (OJ v cA).isSome (some (((OJ v cA).getD default))) none) (some (false))) none) (some (false))) none)
theorem amf (v:fO) (cA:Int):cD Tryz.prog (bp Tryz.prog ac4 ac5 (fun _=>false)) 9 9 139 [mu v,(kI .i64) cA] = (Ca v cA).map kB:=by
 unfold Ca
 try simp only [bq]
 kernel_rfl
def Wt:List KV->KR KV:=bI Tryz.prog 139 (bL kB fun vs=>Ca (kM (vs.getD 0 .ao)) (ay (vs.getD 1 .ao)))
theorem ajw (w:Nat->KV):ck Tryz.prog [43,3] w 0 = [mu (kM (ax Tryz.prog (ai Tryz.prog aj) 43 (w 0))),(kI .i64) (ay (ax Tryz.prog (ai Tryz.prog aj) 3 (w 1)))]:=by kernel_rfl
theorem UJ:bH Tryz.prog 139 Wt:=aL funcs mixed aju ajv (L:=9) (n:=9) fun w=>by
 have e:aG Tryz.prog 139 = [43,3]:=by kernel_rfl
 rw [e,ajw]
 exact (amf (kM (ax Tryz.prog (ai Tryz.prog aj) 43 (w 0))) (ay (ax Tryz.prog (ai Tryz.prog aj) 3 (w 1)))).trans (by kernel_rfl)
def ac6:List (Nat×(List KV->KR KV)):=[(139,Wt),(188,ac3)]
def ac7:List Lp:=[]
theorem ajx:ah Tryz.prog ac6:=(ah.cons UJ (ah.cons ahs ah.nil))
theorem ajy:au Tryz.prog ac7:=au.nil
def OK (m:dm):(Option Bool):=(Cv m.m (1024:Int))
def OL (m:dm):(Option Bool):=(Ca m.t (4096:Int))
def wq (m:dm):Option (Bool):=(cond (OK m).isSome (cond ((OK m).getD default) (cond (OL m).isSome (some (((OL m).getD default))) none) (some (false))) none)
theorem amg (m:dm):cD Tryz.prog (bp Tryz.prog ac6 ac7 (fun _=>false)) 9 9 138 [mv m] = (wq m).map kB:=by
 unfold wq
 try simp only [bq]
 kernel_rfl
def Wu:List KV->KR KV:=bI Tryz.prog 138 (bL kB fun vs=>wq (mw (vs.getD 0 .ao)))
theorem ajz (w:Nat->KV):ck Tryz.prog [45] w 0 = [mv (mw (ax Tryz.prog (ai Tryz.prog aj) 45 (w 0)))]:=by kernel_rfl
theorem UK:bH Tryz.prog 138 Wu:=aL funcs mixed ajx ajy (L:=9) (n:=9) fun w=>by
 have e:aG Tryz.prog 138 = [45]:=by kernel_rfl
 rw [e,ajz]
 exact (amg (mw (ax Tryz.prog (ai Tryz.prog aj) 45 (w 0)))).trans (by kernel_rfl)
structure dH where
 l:(Sl Int)
 t2:Bool
 i:Int
instance:Inhabited dH:=⟨⟨default,default,default⟩⟩
def tS (x:dH):List KV:=[eA 3 (kI .i64) x.l,.bool x.t2,.int .i64 x.i]
def tT (x:dH):List (List KV):=[]
def F8 (vs:List KV) (rs:List (List KV)):dH:=⟨dP ay (vs.getD 0 .ao),dj (vs.getD 1 .ao),ay (vs.getD 2 .ao)⟩
def G5:aV:=⟨[(0,⟨false,[.k (.slice 3)]⟩),(2,⟨false,[.k .bool]⟩),(3,⟨false,[.k (.int .i64)]⟩)],[],[]⟩
def Ry:=dB Tryz.prog (bp Tryz.prog [] [] (fun _=>false)) 9 9 140 26 (dF Tryz.prog 140 26) G5
def fU (x:dH):aW dH:=(cond (decide (x.i < ((x.l.n:Nat):Int))) (cond ((decide ((0:Int)<=x.i))&&(decide (x.i < ((x.l.n:Nat):Int)))) (cond (decide ((x.l.get (Int.toNat x.i)) < (0:Int))) (.out aB.ae.ret (⟨x.l,false,x.i⟩:dH)) (cond ((decide ((0:Int)<=x.i))&&(decide (x.i < ((x.l.n:Nat):Int)))) (cond (decide ((x.l.get (Int.toNat x.i)) > (8192:Int))) (.out aB.ae.ret (⟨x.l,false,x.i⟩:dH)) (cond (decide (x.i > (0:Int))) (cond ((decide ((0:Int)<=x.i))&&(decide (x.i < ((x.l.n:Nat):Int)))) (cond ((decide ((0:Int)<=(aR (x.i - (1:Int)))))&&(decide ((aR (x.i - (1:Int))) < ((x.l.n:Nat):Int)))) (cond (decide ((x.l.get (Int.toNat x.i)) < (x.l.get (Int.toNat (aR (x.i - (1:Int))))))) (.out aB.ae.ret (⟨x.l,false,x.i⟩:dH)) (.next (⟨x.l,x.t2,(aR (x.i+(1:Int)))⟩:dH))) .fail) .fail) (.next (⟨x.l,x.t2,(aR (x.i+(1:Int)))⟩:dH)))) .fail)) .fail) (.out (aB.ae.exit 0) x))
theorem OM (x:dH):Ry (tS x) (tT x)=aW.enc tS tT (fU x):=by
 unfold fU
 try simp only [aW.cf]
 kernel_rfl
def uK:Lp:=⟨140,26,G5,fun vs rs=>dC tS tT (goN fU (F8 vs rs)) [aB.ae.exit 0,aB.ae.ret],false⟩
theorem Rz:uK.Ok Tryz.prog:=b8 funcs mixed ah.nil au.nil (L:=9) (n:=9) (step:=fU) (ev:=tS) (er:=tT) (pa:=F8) rfl (fun wv wr=>⟨by kernel_rfl,by kernel_rfl⟩) OM
theorem M3:bZ Tryz.prog uK.f uK.p=true:=by kernel_rfl
def Ks:List (Nat×(List KV->KR KV)):=[]
def Kt:List Lp:=[uK]
theorem Tz:ah Tryz.prog Ks:=ah.nil
theorem TA:au Tryz.prog Kt:=(au.cons Rz M3 au.nil)
def r6 (l:(Sl Int)):(aW dH):=(goN fU (⟨l,false,(0:Int)⟩:dH))
def rT (l:(Sl Int)):Option (Bool):=(cond ((r6 l).by (aB.ae.exit 0)) (some ((decide ((((r6 l).st.l.n:Nat):Int)<=(16:Int))))) (cond ((r6 l).by aB.ae.ret) (some ((r6 l).st.t2)) none))
theorem Wv (l:(Sl Int)):cD Tryz.prog (bp Tryz.prog Ks Kt (fun _=>false)) 9 9 140 [(eA 3 (kI .i64)) l] = (rT l).map kB:=by
 unfold rT
 try simp only [bq]
 kernel_rfl
def M4:List KV->KR KV:=bI Tryz.prog 140 (bL kB fun vs=>rT ((dP ay) (vs.getD 0 .ao)))
theorem TB (w:Nat->KV):ck Tryz.prog [36] w 0 = [(eA 3 (kI .i64)) ((dP ay) (ax Tryz.prog (ai Tryz.prog aj) 36 (w 0)))]:=by kernel_rfl
theorem TC:bH Tryz.prog 140 M4:=aL funcs mixed Tz TA (L:=9) (n:=9) fun w=>by
 have e:aG Tryz.prog 140 = [36]:=by kernel_rfl
 rw [e,TB]
 exact (Wv ((dP ay) (ax Tryz.prog (ai Tryz.prog aj) 36 (w 0)))).trans (by kernel_rfl)
def PA:List (Nat×(List KV->KR KV)):=[(140,M4),(139,Wt),(138,Wu),(103,ahb)]
def PB:List Lp:=[]
theorem Y3:ah Tryz.prog PA:=(ah.cons TC (ah.cons UJ (ah.cons UK (ah.cons ajh ah.nil))))
theorem Y4:au Tryz.prog PB:=au.nil
def EP (s:aP) (n:Node):(Option Bool):=(EJ n.b7)
def lN (s:aP) (n:Node):(Option Bool):=(wq n.gd)
def aC (s:aP) (n:Node):(Option Bool):=(Ca n.cl (4096:Int))
def aD (s:aP) (n:Node):(Option Bool):=(rT n.nc)
def vt (s:aP) (n:Node):Option (Bool):=(cond (decide (n.kind < (1:Int))) (some (false)) (cond (decide (n.kind > (5:Int))) (some (false)) (cond (EP s n).isSome (cond (!((EP s n).getD default)) (some (false)) (cond (decide (n.b7.bN.e1 > (0:Int))) (cond (decide (n.b7.look.cN >= ((s.dD.n:Nat):Int))) (some (false)) (cond (n.kind != (2:Int)) (cond (!((n.gd.m.e0.e0==(0:Int))&&((n.gd.m.e0.e1==(0:Int))&&((n.gd.m.e0.e2==(0:Int))&&((n.gd.m.e1.e0==(0:Int))&&((n.gd.m.e1.e1==(0:Int))&&((n.gd.m.e1.e2==(0:Int))&&((n.gd.m.e2.e0==(0:Int))&&((n.gd.m.e2.e1==(0:Int))&&((n.gd.m.e2.e2==(0:Int))&&((n.gd.t.x==(0:Int))&&((n.gd.t.y==(0:Int))&&((n.gd.t.z==(0:Int))&&true))))))))))))) (some (false)) (cond (n.kind==(2:Int)) (cond (lN s n).isSome (cond (!((lN s n).getD default)) (some (false)) (cond (n.kind != (3:Int)) (cond (n.uB != (0:Int)) (some (false)) (cond (n.kind != (4:Int)) (cond (!((n.cl.x==(0:Int))&&((n.cl.y==(0:Int))&&((n.cl.z==(0:Int))&&true)))) (some (false)) (cond (decide (((n.nc.n:Nat):Int) > (0:Int))) (some (false)) (cond (n.kind==(5:Int)) (cond (decide (n.cJ >= (0:Int))) (some ((decide (n.cJ < ((s.bX.n:Nat):Int))))) (some (false))) (cond (n.cJ==(0:Int)) (cond (aC s n).isSome (cond ((aC s n).getD default) (cond (aD s n).isSome (some (((aD s n).getD default))) none) (some (false))) none) (some (false)))))) (cond (n.kind==(5:Int)) (cond (decide (n.cJ >= (0:Int))) (some ((decide (n.cJ < ((s.bX.n:Nat):Int))))) (some (false))) (cond (n.cJ==(0:Int)) (cond (aC s n).isSome (cond ((aC s n).getD default) (cond (aD s n).isSome (some (((aD s n).getD default))) none) (some (false))) none) (some (false)))))) (cond (n.kind != (4:Int)) (cond (!((n.cl.x==(0:Int))&&((n.cl.y==(0:Int))&&((n.cl.z==(0:Int))&&true)))) (some (false)) (cond (decide (((n.nc.n:Nat):Int) > (0:Int))) (some (false)) (cond (n.kind==(5:Int)) (cond (decide (n.cJ >= (0:Int))) (some ((decide (n.cJ < ((s.bX.n:Nat):Int))))) (some (false))) (cond (n.cJ==(0:Int)) (cond (aC s n).isSome (cond ((aC s n).getD default) (cond (aD s n).isSome (some (((aD s n).getD default))) none) (some (false))) none) (some (false)))))) (cond (n.kind==(5:Int)) (cond (decide (n.cJ >= (0:Int))) (some ((decide (n.cJ < ((s.bX.n:Nat):Int))))) (some (false))) (cond (n.cJ==(0:Int)) (cond (aC s n).isSome (cond ((aC s n).getD default) (cond (aD s n).isSome (some (((aD s n).getD default))) none) (some (false))) none) (some (false))))))) none) (cond (n.kind != (3:Int)) (cond (n.uB != (0:Int)) (some (false)) (cond (n.kind != (4:Int)) (cond (!((n.cl.x==(0:Int))&&((n.cl.y==(0:Int))&&((n.cl.z==(0:Int))&&true)))) (some (false)) (cond (decide (((n.nc.n:Nat):Int) > (0:Int))) (some (false)) (cond (n.kind==(5:Int)) (cond (decide (n.cJ >= (0:Int))) (some ((decide (n.cJ < ((s.bX.n:Nat):Int))))) (some (false))) (cond (n.cJ==(0:Int)) (cond (aC s n).isSome (cond ((aC s n).getD default) (cond (aD s n).isSome (some (((aD s n).getD default))) none) (some (false))) none) (some (false)))))) (cond (n.kind==(5:Int)) (cond (decide (n.cJ >= (0:Int))) (some ((decide (n.cJ < ((s.bX.n:Nat):Int))))) (some (false))) (cond (n.cJ==(0:Int)) (cond (aC s n).isSome (cond ((aC s n).getD default) (cond (aD s n).isSome (some (((aD s n).getD default))) none) (some (false))) none) (some (false)))))) (cond (n.kind != (4:Int)) (cond (!((n.cl.x==(0:Int))&&((n.cl.y==(0:Int))&&((n.cl.z==(0:Int))&&true)))) (some (false)) (cond (decide (((n.nc.n:Nat):Int) > (0:Int))) (some (false)) (cond (n.kind==(5:Int)) (cond (decide (n.cJ >= (0:Int))) (some ((decide (n.cJ < ((s.bX.n:Nat):Int))))) (some (false))) (cond (n.cJ==(0:Int)) (cond (aC s n).isSome (cond ((aC s n).getD default) (cond (aD s n).isSome (some (((aD s n).getD default))) none) (some (false))) none) (some (false)))))) (cond (n.kind==(5:Int)) (cond (decide (n.cJ >= (0:Int))) (some ((decide (n.cJ < ((s.bX.n:Nat):Int))))) (some (false))) (cond (n.cJ==(0:Int)) (cond (aC s n).isSome (cond ((aC s n).getD default) (cond (aD s n).isSome (some (((aD s n).getD default))) none) (some (false))) none) (some (false)))))))) (cond (n.kind==(2:Int)) (cond (lN s n).isSome (cond (!((lN s n).getD default)) (some (false)) (cond (n.kind != (3:Int)) (cond (n.uB != (0:Int)) (some (false)) (cond (n.kind != (4:Int)) (cond (!((n.cl.x==(0:Int))&&((n.cl.y==(0:Int))&&((n.cl.z==(0:Int))&&true)))) (some (false)) (cond (decide (((n.nc.n:Nat):Int) > (0:Int))) (some (false)) (cond (n.kind==(5:Int)) (cond (decide (n.cJ >= (0:Int))) (some ((decide (n.cJ < ((s.bX.n:Nat):Int))))) (some (false))) (cond (n.cJ==(0:Int)) (cond (aC s n).isSome (cond ((aC s n).getD default) (cond (aD s n).isSome (some (((aD s n).getD default))) none) (some (false))) none) (some (false)))))) (cond (n.kind==(5:Int)) (cond (decide (n.cJ >= (0:Int))) (some ((decide (n.cJ < ((s.bX.n:Nat):Int))))) (some (false))) (cond (n.cJ==(0:Int)) (cond (aC s n).isSome (cond ((aC s n).getD default) (cond (aD s n).isSome (some (((aD s n).getD default))) none) (some (false))) none) (some (false)))))) (cond (n.kind != (4:Int)) (cond (!((n.cl.x==(0:Int))&&((n.cl.y==(0:Int))&&((n.cl.z==(0:Int))&&true)))) (some (false)) (cond (decide (((n.nc.n:Nat):Int) > (0:Int))) (some (false)) (cond (n.kind==(5:Int)) (cond (decide (n.cJ >= (0:Int))) (some ((decide (n.cJ < ((s.bX.n:Nat):Int))))) (some (false))) (cond (n.cJ==(0:Int)) (cond (aC s n).isSome (cond ((aC s n).getD default) (cond (aD s n).isSome (some (((aD s n).getD default))) none) (some (false))) none) (some (false)))))) (cond (n.kind==(5:Int)) (cond (decide (n.cJ >= (0:Int))) (some ((decide (n.cJ < ((s.bX.n:Nat):Int))))) (some (false))) (cond (n.cJ==(0:Int)) (cond (aC s n).isSome (cond ((aC s n).getD default) (cond (aD s n).isSome (some (((aD s n).getD default))) none) (some (false))) none) (some (false))))))) none) (cond (n.kind != (3:Int)) (cond (n.uB != (0:Int)) (some (false)) (cond (n.kind != (4:Int)) (cond (!((n.cl.x==(0:Int))&&((n.cl.y==(0:Int))&&((n.cl.z==(0:Int))&&true)))) (some (false)) (cond (decide (((n.nc.n:Nat):Int) > (0:Int))) (some (false)) (cond (n.kind==(5:Int)) (cond (decide (n.cJ >= (0:Int))) (some ((decide (n.cJ < ((s.bX.n:Nat):Int))))) (some (false))) (cond (n.cJ==(0:Int)) (cond (aC s n).isSome (cond ((aC s n).getD default) (cond (aD s n).isSome (some (((aD s n).getD default))) none) (some (false))) none) (some (false)))))) (cond (n.kind==(5:Int)) (cond (decide (n.cJ >= (0:Int))) (some ((decide (n.cJ < ((s.bX.n:Nat):Int))))) (some (false))) (cond (n.cJ==(0:Int)) (cond (aC s n).isSome (cond ((aC s n).getD default) (cond (aD s n).isSome (some (((aD s n).getD default))) none) (some (false))) none) (some (false)))))) (cond (n.kind != (4:Int)) (cond (!((n.cl.x==(0:Int))&&((n.cl.y==(0:Int))&&((n.cl.z==(0:Int))&&true)))) (some (false)) (cond (decide (((n.nc.n:Nat):Int) > (0:Int))) (some (false)) (cond (n.kind==(5:Int)) (cond (decide (n.cJ >= (0:Int))) (some ((decide (n.cJ < ((s.bX.n:Nat):Int))))) (some (false))) (cond (n.cJ==(0:Int)) (cond (aC s n).isSome (cond ((aC s n).getD default) (cond (aD s n).isSome (some (((aD s n).getD default))) none) (some (false))) none) (some (false)))))) (cond (n.kind==(5:Int)) (cond (decide (n.cJ >= (0:Int))) (some ((decide (n.cJ < ((s.bX.n:Nat):Int))))) (some (false))) (cond (n.cJ==(0:Int)) (cond (aC s n).isSome (cond ((aC s n).getD default) (cond (aD s n).isSome (some (((aD s n).getD default))) none) (some (false))) none) (some (false))))))))) (cond (n.kind != (2:Int)) (cond (!((n.gd.m.e0.e0==(0:Int))&&((n.gd.m.e0.e1==(0:Int))&&((n.gd.m.e0.e2==(0:Int))&&((n.gd.m.e1.e0==(0:Int))&&((n.gd.m.e1.e1==(0:Int))&&((n.gd.m.e1.e2==(0:Int))&&((n.gd.m.e2.e0==(0:Int))&&((n.gd.m.e2.e1==(0:Int))&&((n.gd.m.e2.e2==(0:Int))&&((n.gd.t.x==(0:Int))&&((n.gd.t.y==(0:Int))&&((n.gd.t.z==(0:Int))&&true))))))))))))) (some (false)) (cond (n.kind==(2:Int)) (cond (lN s n).isSome (cond (!((lN s n).getD default)) (some (false)) (cond (n.kind != (3:Int)) (cond (n.uB != (0:Int)) (some (false)) (cond (n.kind != (4:Int)) (cond (!((n.cl.x==(0:Int))&&((n.cl.y==(0:Int))&&((n.cl.z==(0:Int))&&true)))) (some (false)) (cond (decide (((n.nc.n:Nat):Int) > (0:Int))) (some (false)) (cond (n.kind==(5:Int)) (cond (decide (n.cJ >= (0:Int))) (some ((decide (n.cJ < ((s.bX.n:Nat):Int))))) (some (false))) (cond (n.cJ==(0:Int)) (cond (aC s n).isSome (cond ((aC s n).getD default) (cond (aD s n).isSome (some (((aD s n).getD default))) none) (some (false))) none) (some (false)))))) (cond (n.kind==(5:Int)) (cond (decide (n.cJ >= (0:Int))) (some ((decide (n.cJ < ((s.bX.n:Nat):Int))))) (some (false))) (cond (n.cJ==(0:Int)) (cond (aC s n).isSome (cond ((aC s n).getD default) (cond (aD s n).isSome (some (((aD s n).getD default))) none) (some (false))) none) (some (false)))))) (cond (n.kind != (4:Int)) (cond (!((n.cl.x==(0:Int))&&((n.cl.y==(0:Int))&&((n.cl.z==(0:Int))&&true)))) (some (false)) (cond (decide (((n.nc.n:Nat):Int) > (0:Int))) (some (false)) (cond (n.kind==(5:Int)) (cond (decide (n.cJ >= (0:Int))) (some ((decide (n.cJ < ((s.bX.n:Nat):Int))))) (some (false))) (cond (n.cJ==(0:Int)) (cond (aC s n).isSome (cond ((aC s n).getD default) (cond (aD s n).isSome (some (((aD s n).getD default))) none) (some (false))) none) (some (false)))))) (cond (n.kind==(5:Int)) (cond (decide (n.cJ >= (0:Int))) (some ((decide (n.cJ < ((s.bX.n:Nat):Int))))) (some (false))) (cond (n.cJ==(0:Int)) (cond (aC s n).isSome (cond ((aC s n).getD default) (cond (aD s n).isSome (some (((aD s n).getD default))) none) (some (false))) none) (some (false))))))) none) (cond (n.kind != (3:Int)) (cond (n.uB != (0:Int)) (some (false)) (cond (n.kind != (4:Int)) (cond (!((n.cl.x==(0:Int))&&((n.cl.y==(0:Int))&&((n.cl.z==(0:Int))&&true)))) (some (false)) (cond (decide (((n.nc.n:Nat):Int) > (0:Int))) (some (false)) (cond (n.kind==(5:Int)) (cond (decide (n.cJ >= (0:Int))) (some ((decide (n.cJ < ((s.bX.n:Nat):Int))))) (some (false))) (cond (n.cJ==(0:Int)) (cond (aC s n).isSome (cond ((aC s n).getD default) (cond (aD s n).isSome (some (((aD s n).getD default))) none) (some (false))) none) (some (false)))))) (cond (n.kind==(5:Int)) (cond (decide (n.cJ >= (0:Int))) (some ((decide (n.cJ < ((s.bX.n:Nat):Int))))) (some (false))) (cond (n.cJ==(0:Int)) (cond (aC s n).isSome (cond ((aC s n).getD default) (cond (aD s n).isSome (some (((aD s n).getD default))) none) (some (false))) none) (some (false)))))) (cond (n.kind != (4:Int)) (cond (!((n.cl.x==(0:Int))&&((n.cl.y==(0:Int))&&((n.cl.z==(0:Int))&&true)))) (some (false)) (cond (decide (((n.nc.n:Nat):Int) > (0:Int))) (some (false)) (cond (n.kind==(5:Int)) (cond (decide (n.cJ >= (0:Int))) (some ((decide (n.cJ < ((s.bX.n:Nat):Int))))) (some (false))) (cond (n.cJ==(0:Int)) (cond (aC s n).isSome (cond ((aC s n).getD default) (cond (aD s n).isSome (some (((aD s n).getD default))) none) (some (false))) none) (some (false)))))) (cond (n.kind==(5:Int)) (cond (decide (n.cJ >= (0:Int))) (some ((decide (n.cJ < ((s.bX.n:Nat):Int))))) (some (false))) (cond (n.cJ==(0:Int)) (cond (aC s n).isSome (cond ((aC s n).getD default) (cond (aD s n).isSome (some (((aD s n).getD default))) none) (some (false))) none) (some (false)))))))) (cond (n.kind==(2:Int)) (cond (lN s n).isSome (cond (!((lN s n).getD default)) (some (false)) (cond (n.kind != (3:Int)) (cond (n.uB != (0:Int)) (some (false)) (cond (n.kind != (4:Int)) (cond (!((n.cl.x==(0:Int))&&((n.cl.y==(0:Int))&&((n.cl.z==(0:Int))&&true)))) (some (false)) (cond (decide (((n.nc.n:Nat):Int) > (0:Int))) (some (false)) (cond (n.kind==(5:Int)) (cond (decide (n.cJ >= (0:Int))) (some ((decide (n.cJ < ((s.bX.n:Nat):Int))))) (some (false))) (cond (n.cJ==(0:Int)) (cond (aC s n).isSome (cond ((aC s n).getD default) (cond (aD s n).isSome (some (((aD s n).getD default))) none) (some (false))) none) (some (false)))))) (cond (n.kind==(5:Int)) (cond (decide (n.cJ >= (0:Int))) (some ((decide (n.cJ < ((s.bX.n:Nat):Int))))) (some (false))) (cond (n.cJ==(0:Int)) (cond (aC s n).isSome (cond ((aC s n).getD default) (cond (aD s n).isSome (some (((aD s n).getD default))) none) (some (false))) none) (some (false)))))) (cond (n.kind != (4:Int)) (cond (!((n.cl.x==(0:Int))&&((n.cl.y==(0:Int))&&((n.cl.z==(0:Int))&&true)))) (some (false)) (cond (decide (((n.nc.n:Nat):Int) > (0:Int))) (some (false)) (cond (n.kind==(5:Int)) (cond (decide (n.cJ >= (0:Int))) (some ((decide (n.cJ < ((s.bX.n:Nat):Int))))) (some (false))) (cond (n.cJ==(0:Int)) (cond (aC s n).isSome (cond ((aC s n).getD default) (cond (aD s n).isSome (some (((aD s n).getD default))) none) (some (false))) none) (some (false)))))) (cond (n.kind==(5:Int)) (cond (decide (n.cJ >= (0:Int))) (some ((decide (n.cJ < ((s.bX.n:Nat):Int))))) (some (false))) (cond (n.cJ==(0:Int)) (cond (aC s n).isSome (cond ((aC s n).getD default) (cond (aD s n).isSome (some (((aD s n).getD default))) none) (some (false))) none) (some (false))))))) none) (cond (n.kind != (3:Int)) (cond (n.uB != (0:Int)) (some (false)) (cond (n.kind != (4:Int)) (cond (!((n.cl.x==(0:Int))&&((n.cl.y==(0:Int))&&((n.cl.z==(0:Int))&&true)))) (some (false)) (cond (decide (((n.nc.n:Nat):Int) > (0:Int))) (some (false)) (cond (n.kind==(5:Int)) (cond (decide (n.cJ >= (0:Int))) (some ((decide (n.cJ < ((s.bX.n:Nat):Int))))) (some (false))) (cond (n.cJ==(0:Int)) (cond (aC s n).isSome (cond ((aC s n).getD default) (cond (aD s n).isSome (some (((aD s n).getD default))) none) (some (false))) none) (some (false)))))) (cond (n.kind==(5:Int)) (cond (decide (n.cJ >= (0:Int))) (some ((decide (n.cJ < ((s.bX.n:Nat):Int))))) (some (false))) (cond (n.cJ==(0:Int)) (cond (aC s n).isSome (cond ((aC s n).getD default) (cond (aD s n).isSome (some (((aD s n).getD default))) none) (some (false))) none) (some (false)))))) (cond (n.kind != (4:Int)) (cond (!((n.cl.x==(0:Int))&&((n.cl.y==(0:Int))&&((n.cl.z==(0:Int))&&true)))) (some (false)) (cond (decide (((n.nc.n:Nat):Int) > (0:Int))) (some (false)) (cond (n.kind==(5:Int)) (cond (decide (n.cJ >= (0:Int))) (some ((decide (n.cJ < ((s.bX.n:Nat):Int))))) (some (false))) (cond (n.cJ==(0:Int)) (cond (aC s n).isSome (cond ((aC s n).getD default) (cond (aD s n).isSome (some (((aD s n).getD default))) none) (some (false))) none) (some (false)))))) (cond (n.kind==(5:Int)) (cond (decide (n.cJ >= (0:Int))) (some ((decide (n.cJ < ((s.bX.n:Nat):Int))))) (some (false))) (cond (n.cJ==(0:Int)) (cond (aC s n).isSome (cond ((aC s n).getD default) (cond (aD s n).isSome (some (((aD s n).getD default))) none) (some (false))) none) (some (false)))))))))) none)))
theorem abn (s:aP) (n:Node):cD Tryz.prog (bp Tryz.prog PA PB (fun _=>false)) 9 9 81 [dx s,lE n] = (vt s n).map kB:=by
 unfold vt
 try simp only [bq]
 kernel_rfl
def Jb:List KV->KR KV:=bI Tryz.prog 81 (bL kB fun vs=>vt (b6 (vs.getD 0 .ao)) (ie (vs.getD 1 .ao)))
theorem Y5 (w:Nat->KV):ck Tryz.prog [34,77] w 0 = [dx (b6 (ax Tryz.prog (ai Tryz.prog aj) 34 (w 0))),lE (ie (ax Tryz.prog (ai Tryz.prog aj) 77 (w 1)))]:=by kernel_rfl
theorem Ku:bH Tryz.prog 81 Jb:=aL funcs mixed Y3 Y4 (L:=9) (n:=9) fun w=>by
 have e:aG Tryz.prog 81 = [34,77]:=by kernel_rfl
 rw [e,Y5]
 exact (abn (b6 (ax Tryz.prog (ai Tryz.prog aj) 34 (w 0))) (ie (ax Tryz.prog (ai Tryz.prog aj) 77 (w 1)))).trans (by kernel_rfl)
structure iu where
 a:(Sl Int)
 b:(Sl Int)
 t4:Bool
 i:Int
instance:Inhabited iu:=⟨⟨default,default,default,default⟩⟩
def wu (x:iu):List KV:=[eA 3 (kI .i64) x.a,eA 3 (kI .i64) x.b,.bool x.t4,.int .i64 x.i]
def wx (x:iu):List (List KV):=[]
def Jc (vs:List KV) (rs:List (List KV)):iu:=⟨dP ay (vs.getD 0 .ao),dP ay (vs.getD 1 .ao),dj (vs.getD 2 .ao),ay (vs.getD 3 .ao)⟩
def Kv:aV:=⟨[(0,⟨false,[.k (.slice 3)]⟩),(1,⟨false,[.k (.slice 3)]⟩),(4,⟨false,[.k .bool]⟩),(5,⟨false,[.k (.int .i64)]⟩)],[],[]⟩
def Ww:=dB Tryz.prog (bp Tryz.prog [] [] (fun _=>false)) 9 9 61 58 (dF Tryz.prog 61 58) Kv
def hX (x:iu):aW iu:=(cond (decide (x.i < ((x.a.n:Nat):Int))) (cond ((decide ((0:Int)<=x.i))&&(decide (x.i < ((x.a.n:Nat):Int)))) (cond ((decide ((0:Int)<=x.i))&&(decide (x.i < ((x.b.n:Nat):Int)))) (cond ((x.a.get (Int.toNat x.i)) != (x.b.get (Int.toNat x.i))) (.out aB.ae.ret (⟨x.a,x.b,false,x.i⟩:iu)) (.next (⟨x.a,x.b,x.t4,(aR (x.i+(1:Int)))⟩:iu))) .fail) .fail) (.out (aB.ae.exit 0) x))
theorem RA (x:iu):Ww (wu x) (wx x)=aW.enc wu wx (hX x):=by
 unfold hX
 try simp only [aW.cf]
 kernel_rfl
def yf:Lp:=⟨61,58,Kv,fun vs rs=>dC wu wx (goN hX (Jc vs rs)) [aB.ae.exit 0,aB.ae.ret],false⟩
theorem Wx:yf.Ok Tryz.prog:=b8 funcs mixed ah.nil au.nil (L:=9) (n:=9) (step:=hX) (ev:=wu) (er:=wx) (pa:=Jc) rfl (fun wv wr=>⟨by kernel_rfl,by kernel_rfl⟩) RA
theorem P6:bZ Tryz.prog yf.f yf.p=true:=by kernel_rfl
def PC:List (Nat×(List KV->KR KV)):=[]
def PD:List Lp:=[yf]
theorem Y6:ah Tryz.prog PC:=ah.nil
theorem Y7:au Tryz.prog PD:=(au.cons Wx P6 au.nil)
def zT (a:(Sl Int)) (b:(Sl Int)):(aW iu):=(goN hX (⟨a,b,false,(0:Int)⟩:iu))
def vu (a:(Sl Int)) (b:(Sl Int)):Option (Bool):=(cond (((a.n:Nat):Int) != ((b.n:Nat):Int)) (some (false)) (cond ((zT a b).by (aB.ae.exit 0)) (some (true)) (cond ((zT a b).by aB.ae.ret) (some ((zT a b).st.t4)) none)))
theorem abo (a:(Sl Int)) (b:(Sl Int)):cD Tryz.prog (bp Tryz.prog PC PD (fun _=>false)) 9 9 61 [(eA 3 (kI .i64)) a,(eA 3 (kI .i64)) b] = (vu a b).map kB:=by
 unfold vu
 try simp only [bq]
 kernel_rfl
def RB:List KV->KR KV:=bI Tryz.prog 61 (bL kB fun vs=>vu ((dP ay) (vs.getD 0 .ao)) ((dP ay) (vs.getD 1 .ao)))
theorem Y8 (w:Nat->KV):ck Tryz.prog [36,36] w 0 = [(eA 3 (kI .i64)) ((dP ay) (ax Tryz.prog (ai Tryz.prog aj) 36 (w 0))),(eA 3 (kI .i64)) ((dP ay) (ax Tryz.prog (ai Tryz.prog aj) 36 (w 1)))]:=by kernel_rfl
theorem Y9:bH Tryz.prog 61 RB:=aL funcs mixed Y6 Y7 (L:=9) (n:=9) fun w=>by
 have e:aG Tryz.prog 61 = [36,36]:=by kernel_rfl
 rw [e,Y8]
 exact (abo ((dP ay) (ax Tryz.prog (ai Tryz.prog aj) 36 (w 0))) ((dP ay) (ax Tryz.prog (ai Tryz.prog aj) 36 (w 1)))).trans (by kernel_rfl)
def M5:List (Nat×(List KV->KR KV)):=[(61,RB)]
def M6:List Lp:=[]
theorem Wy:ah Tryz.prog M5:=(ah.cons Y9 ah.nil)
theorem Wz:au Tryz.prog M6:=au.nil
def DB (a:Node) (b:Node):(Option Bool):=(vu a.nc b.nc)
def qO (a:Node) (b:Node):Option (Bool):=(cond (a.kind==b.kind) (cond ((a.gd.m.e0.e0==b.gd.m.e0.e0)&&((a.gd.m.e0.e1==b.gd.m.e0.e1)&&((a.gd.m.e0.e2==b.gd.m.e0.e2)&&((a.gd.m.e1.e0==b.gd.m.e1.e0)&&((a.gd.m.e1.e1==b.gd.m.e1.e1)&&((a.gd.m.e1.e2==b.gd.m.e1.e2)&&((a.gd.m.e2.e0==b.gd.m.e2.e0)&&((a.gd.m.e2.e1==b.gd.m.e2.e1)&&((a.gd.m.e2.e2==b.gd.m.e2.e2)&&((a.gd.t.x==b.gd.t.x)&&((a.gd.t.y==b.gd.t.y)&&((a.gd.t.z==b.gd.t.z)&&true)))))))))))) (cond (a.uB==b.uB) (cond ((a.cl.x==b.cl.x)&&((a.cl.y==b.cl.y)&&((a.cl.z==b.cl.z)&&true))) (cond (DB a b).isSome (cond ((DB a b).getD default) (cond (a.cJ==b.cJ) (some (((a.b7.bN.e0==b.b7.bN.e0)&&((a.b7.bN.e1==b.b7.bN.e1)&&((a.b7.bN.e2==b.b7.bN.e2)&&((a.b7.bN.e3==b.b7.bN.e3)&&((a.b7.bN.e4==b.b7.bN.e4)&&((a.b7.look.color.e0==b.b7.look.color.e0)&&((a.b7.look.color.e1==b.b7.look.color.e1)&&((a.b7.look.color.e2==b.b7.look.color.e2)&&((a.b7.look.color.e3==b.b7.look.color.e3)&&((a.b7.look.cN==b.b7.look.cN)&&((a.b7.look.lz==b.b7.look.lz)&&((a.b7.look.jW==b.b7.look.jW)&&((a.b7.look.ff==b.b7.look.ff)&&((a.b7.look.bin==b.b7.look.bin)&&true)))))))))))))))) (some (false))) (some (false))) none) (some (false))) (some (false))) (some (false))) (some (false)))
theorem Za (a:Node) (b:Node):cD Tryz.prog (bp Tryz.prog M5 M6 (fun _=>false)) 9 9 38 [lE a,lE b] = (qO a b).map kB:=by
 unfold qO
 try simp only [bq]
 kernel_rfl
def PE:List KV->KR KV:=bI Tryz.prog 38 (bL kB fun vs=>qO (ie (vs.getD 0 .ao)) (ie (vs.getD 1 .ao)))
theorem WA (w:Nat->KV):ck Tryz.prog [77,77] w 0 = [lE (ie (ax Tryz.prog (ai Tryz.prog aj) 77 (w 0))),lE (ie (ax Tryz.prog (ai Tryz.prog aj) 77 (w 1)))]:=by kernel_rfl
theorem WB:bH Tryz.prog 38 PE:=aL funcs mixed Wy Wz (L:=9) (n:=9) fun w=>by
 have e:aG Tryz.prog 38 = [77,77]:=by kernel_rfl
 rw [e,WA]
 exact (Za (ie (ax Tryz.prog (ai Tryz.prog aj) 77 (w 0))) (ie (ax Tryz.prog (ai Tryz.prog aj) 77 (w 1)))).trans (by kernel_rfl)
def Zb:List (Nat×(List KV->KR KV)):=[(38,PE)]
def Zc:List Lp:=[]
theorem aht:ah Tryz.prog Zb:=(ah.cons WB ah.nil)
theorem ahu:au Tryz.prog Zc:=au.nil
def LG (n:Node):(Option Bool):=(qO n (⟨(0:Int),(⟨(⟨(⟨(0:Int),(0:Int),(0:Int)⟩:az),(⟨(0:Int),(0:Int),(0:Int)⟩:az),(⟨(0:Int),(0:Int),(0:Int)⟩:az)⟩:bw),(⟨(0:Int),(0:Int),(0:Int)⟩:fO)⟩:dm),(0:Int),(⟨(0:Int),(0:Int),(0:Int)⟩:fO),(⟨0,(fun i=>(0:Int))⟩:Sl _),(0:Int),(⟨(⟨(0:Int),(0:Int),(0:Int),(0:Int),(0:Int)⟩:AB),(⟨(⟨(0:Int),(0:Int),(0:Int),(0:Int)⟩:Color),(0:Int),(0:Int),(0:Int),false,(0:Int)⟩:ir)⟩:gN)⟩:Node))
def Cw (n:Node):Option (Bool):=(cond (LG n).isSome (some (((LG n).getD default))) none)
theorem ajA (n:Node):cD Tryz.prog (bp Tryz.prog Zb Zc (fun _=>false)) 9 9 131 [lE n] = (Cw n).map kB:=by
 unfold Cw
 try simp only [bq]
 kernel_rfl
def RC:List KV->KR KV:=bI Tryz.prog 131 (bL kB fun vs=>Cw (ie (vs.getD 0 .ao)))
theorem ahv (w:Nat->KV):ck Tryz.prog [77] w 0 = [lE (ie (ax Tryz.prog (ai Tryz.prog aj) 77 (w 0)))]:=by kernel_rfl
theorem RD:bH Tryz.prog 131 RC:=aL funcs mixed aht ahu (L:=9) (n:=9) fun w=>by
 have e:aG Tryz.prog 131 = [77]:=by kernel_rfl
 rw [e,ahv]
 exact (ajA (ie (ax Tryz.prog (ai Tryz.prog aj) 77 (w 0)))).trans (by kernel_rfl)
def Zd:List (Nat×(List KV->KR KV)):=[(177,FY)]
def Ze:List Lp:=[]
theorem ahw:ah Tryz.prog Zd:=(ah.cons Dh ah.nil)
theorem ahx:au Tryz.prog Ze:=au.nil
def LH (s:aP) (h:Handle):(Option Bool):=(yP s.graph.ca h)
def F9 (s:aP) (h:Handle):Option (Bool):=(cond (LH s h).isSome (some (((LH s h).getD default))) none)
theorem ajB (s:aP) (h:Handle):cD Tryz.prog (bp Tryz.prog Zd Ze (fun _=>false)) 9 9 132 [dx s,dL h] = (F9 s h).map kB:=by
 unfold F9
 try simp only [bq]
 kernel_rfl
def RE:List KV->KR KV:=bI Tryz.prog 132 (bL kB fun vs=>F9 (b6 (vs.getD 0 .ao)) (cM (vs.getD 1 .ao)))
theorem ahy (w:Nat->KV):ck Tryz.prog [34,32] w 0 = [dx (b6 (ax Tryz.prog (ai Tryz.prog aj) 34 (w 0))),dL (cM (ax Tryz.prog (ai Tryz.prog aj) 32 (w 1)))]:=by kernel_rfl
theorem RF:bH Tryz.prog 132 RE:=aL funcs mixed ahw ahx (L:=9) (n:=9) fun w=>by
 have e:aG Tryz.prog 132 = [34,32]:=by kernel_rfl
 rw [e,ahy]
 exact (ajB (b6 (ax Tryz.prog (ai Tryz.prog aj) 34 (w 0))) (cM (ax Tryz.prog (ai Tryz.prog aj) 32 (w 1)))).trans (by kernel_rfl)
structure cT where
 t2:Bool
 i:Int
 s:aP
instance:Inhabited cT:=⟨⟨default,default,default⟩⟩
def DC (x:cT):List KV:=[.bool x.t2,.int .i64 x.i]
def DD (x:cT):List (List KV):=[uG x.s]
def RG (vs:List KV) (rs:List (List KV)):cT:=⟨dj (vs.getD 0 .ao),ay (vs.getD 1 .ao),uH (fun k=>(rs.getD 0 []).getD k .ao)⟩
def UL:aV:=⟨[(2,⟨false,[.k .bool]⟩),(3,⟨false,[.k (.int .i64)]⟩)],[(1,[.k (.slice 111),.k (.slice 35),.k (.slice 77),.k (.slice 88),.k (.slice 91),.k (.int .i64),.k (.int .i64)],1)],[(1,0,0)]⟩
def ahz:=dB Tryz.prog (bp Tryz.prog [(132,RE),(131,RC),(81,Jb),(130,Lv),(129,Wh)] [] (fun _=>false)) 9 9 78 58 (dF Tryz.prog 78 58) UL
def GL (x:cT):(Option Bool):=(vt x.s (x.s.nodes.get (Int.toNat x.i)))
def w6 (x:cT):(Option Bool):=(Cw (x.s.nodes.get (Int.toNat x.i)))
def kU (x:cT):aW cT:=(cond (decide (x.i < ((x.s.nodes.n:Nat):Int))) (cond ((decide ((0:Int)<=x.i))&&(decide (x.i < ((x.s.graph.ca.bJ.n:Nat):Int)))) (cond (x.s.graph.ca.bJ.get (Int.toNat x.i)).live (cond ((decide ((0:Int)<=x.i))&&(decide (x.i < ((x.s.nodes.n:Nat):Int)))) (cond (GL x).isSome (cond (!((GL x).getD default)) (.out aB.ae.ret (⟨false,x.i,x.s⟩:cT)) (cond (!(x.s.graph.ca.bJ.get (Int.toNat x.i)).live) (cond ((decide ((0:Int)<=x.i))&&(decide (x.i < ((x.s.nodes.n:Nat):Int)))) (cond (w6 x).isSome (cond (!((w6 x).getD default)) (.out aB.ae.ret (⟨false,x.i,x.s⟩:cT)) (cond ((decide ((0:Int)<=x.i))&&(decide (x.i < ((x.s.nodes.n:Nat):Int)))) (cond ((x.s.nodes.get (Int.toNat x.i)).kind==(5:Int)) (cond ((decide ((0:Int)<=x.i))&&(decide (x.i < ((x.s.graph.kids.n:Nat):Int)))) (cond (decide ((((x.s.graph.kids.get (Int.toNat x.i)).n:Nat):Int) > (0:Int))) (.out aB.ae.ret (⟨false,x.i,x.s⟩:cT)) (.next (⟨x.t2,(aR (x.i+(1:Int))),x.s⟩:cT))) .fail) (.next (⟨x.t2,(aR (x.i+(1:Int))),x.s⟩:cT))) .fail)) .fail) .fail) (cond ((decide ((0:Int)<=x.i))&&(decide (x.i < ((x.s.nodes.n:Nat):Int)))) (cond ((x.s.nodes.get (Int.toNat x.i)).kind==(5:Int)) (cond ((decide ((0:Int)<=x.i))&&(decide (x.i < ((x.s.graph.kids.n:Nat):Int)))) (cond (decide ((((x.s.graph.kids.get (Int.toNat x.i)).n:Nat):Int) > (0:Int))) (.out aB.ae.ret (⟨false,x.i,x.s⟩:cT)) (.next (⟨x.t2,(aR (x.i+(1:Int))),x.s⟩:cT))) .fail) (.next (⟨x.t2,(aR (x.i+(1:Int))),x.s⟩:cT))) .fail))) .fail) .fail) (cond (!(x.s.graph.ca.bJ.get (Int.toNat x.i)).live) (cond ((decide ((0:Int)<=x.i))&&(decide (x.i < ((x.s.nodes.n:Nat):Int)))) (cond (w6 x).isSome (cond (!((w6 x).getD default)) (.out aB.ae.ret (⟨false,x.i,x.s⟩:cT)) (cond ((decide ((0:Int)<=x.i))&&(decide (x.i < ((x.s.nodes.n:Nat):Int)))) (cond ((x.s.nodes.get (Int.toNat x.i)).kind==(5:Int)) (cond ((decide ((0:Int)<=x.i))&&(decide (x.i < ((x.s.graph.kids.n:Nat):Int)))) (cond (decide ((((x.s.graph.kids.get (Int.toNat x.i)).n:Nat):Int) > (0:Int))) (.out aB.ae.ret (⟨false,x.i,x.s⟩:cT)) (.next (⟨x.t2,(aR (x.i+(1:Int))),x.s⟩:cT))) .fail) (.next (⟨x.t2,(aR (x.i+(1:Int))),x.s⟩:cT))) .fail)) .fail) .fail) (cond ((decide ((0:Int)<=x.i))&&(decide (x.i < ((x.s.nodes.n:Nat):Int)))) (cond ((x.s.nodes.get (Int.toNat x.i)).kind==(5:Int)) (cond ((decide ((0:Int)<=x.i))&&(decide (x.i < ((x.s.graph.kids.n:Nat):Int)))) (cond (decide ((((x.s.graph.kids.get (Int.toNat x.i)).n:Nat):Int) > (0:Int))) (.out aB.ae.ret (⟨false,x.i,x.s⟩:cT)) (.next (⟨x.t2,(aR (x.i+(1:Int))),x.s⟩:cT))) .fail) (.next (⟨x.t2,(aR (x.i+(1:Int))),x.s⟩:cT))) .fail))) .fail) (.out (aB.ae.exit 0) x))
theorem abp (x:cT):ahz (DC x) (DD x)=aW.enc DC DD (kU x):=by
 unfold kU
 try simp only [aW.cf]
 kernel_rfl
def FB:Lp:=⟨78,58,UL,fun vs rs=>dC DC DD (goN kU (RG vs rs)) [aB.ae.exit 0,aB.ae.ret],false⟩
theorem ahA:FB.Ok Tryz.prog:=b8 funcs mixed (ah.cons RF (ah.cons RD (ah.cons Ku (ah.cons M1 (ah.cons Uv ah.nil))))) au.nil (L:=9) (n:=9) (step:=kU) (ev:=DC) (er:=DD) (pa:=RG) rfl (fun wv wr=>⟨by kernel_rfl,by kernel_rfl⟩) abp
theorem Zf:bZ Tryz.prog FB.f FB.p=true:=by kernel_rfl
def ac8:List (Nat×(List KV->KR KV)):=[(132,RE),(131,RC),(81,Jb),(130,Lv),(129,Wh)]
def ac9:List Lp:=[FB]
theorem ajC:ah Tryz.prog ac8:=(ah.cons RF (ah.cons RD (ah.cons Ku (ah.cons M1 (ah.cons Uv ah.nil)))))
theorem ajD:au Tryz.prog ac9:=(au.cons ahA Zf au.nil)
def OO (s:aP):(Option Bool):=(EE s.graph)
def OP (s:aP):(Option Bool):=(xw s)
def tU (s:aP):(aW cT):=(goN kU (⟨false,(0:Int),s⟩:cT))
def OQ (s:aP):(Option Bool):=(F9 (tU s).st.s (tU s).st.s.root)
def ER (s:aP):Option (Bool):=(cond (OO s).isSome (cond (!((OO s).getD default)) (some (false)) (cond (((s.nodes.n:Nat):Int) != ((s.graph.kids.n:Nat):Int)) (some (false)) (cond (OP s).isSome (cond (!((OP s).getD default)) (some (false)) (cond ((tU s).by (aB.ae.exit 0)) (cond (((tU s).st.s.root.slot==(0:Int))&&(((tU s).st.s.root.gen==(0:Int))&&true)) (some (true)) (cond (OQ s).isSome (some (((OQ s).getD default))) none)) (cond ((tU s).by aB.ae.ret) (some ((tU s).st.t2)) none))) none))) none)
theorem amh (s:aP):cD Tryz.prog (bp Tryz.prog ac8 ac9 (fun _=>false)) 9 9 78 [dx s] = (ER s).map kB:=by
 unfold ER
 try simp only [bq]
 kernel_rfl
def ahB:List KV->KR KV:=bI Tryz.prog 78 (bL kB fun vs=>ER (b6 (vs.getD 0 .ao)))
theorem ajE (w:Nat->KV):ck Tryz.prog [34] w 0 = [dx (b6 (ax Tryz.prog (ai Tryz.prog aj) 34 (w 0)))]:=by kernel_rfl
theorem ajF:bH Tryz.prog 78 ahB:=aL funcs mixed ajC ajD (L:=9) (n:=9) fun w=>by
 have e:aG Tryz.prog 78 = [34]:=by kernel_rfl
 rw [e,ajE]
 exact (amh (b6 (ax Tryz.prog (ai Tryz.prog aj) 34 (w 0)))).trans (by kernel_rfl)
def UM:List (Nat×(List KV->KR KV)):=[(78,ahB)]
def UN:List Lp:=[]
theorem adZ:ah Tryz.prog UM:=(ah.cons ajF ah.nil)
theorem ad0:au Tryz.prog UN:=au.nil
def Jd (s:aP):(Option Bool):=(ER s)
def zU (s:aP):Option (Int):=(cond (Jd s).isSome (cond (!((Jd s).getD default)) (some ((8:Int))) (some ((0:Int)))) none)
theorem ahC (s:aP):cD Tryz.prog (bp Tryz.prog UM UN (fun _=>false)) 9 9 26 [dx s] = (zU s).map (kI .i64):=by
 unfold zU
 try simp only [bq]
 kernel_rfl
def Zg:List KV->KR KV:=bI Tryz.prog 26 (bL (kI .i64) fun vs=>zU (b6 (vs.getD 0 .ao)))
theorem ad1 (w:Nat->KV):ck Tryz.prog [34] w 0 = [dx (b6 (ax Tryz.prog (ai Tryz.prog aj) 34 (w 0)))]:=by kernel_rfl
theorem ad2:bH Tryz.prog 26 Zg:=aL funcs mixed adZ ad0 (L:=9) (n:=9) fun w=>by
 have e:aG Tryz.prog 26 = [34]:=by kernel_rfl
 rw [e,ad1]
 exact (ahC (b6 (ax Tryz.prog (ai Tryz.prog aj) 34 (w 0)))).trans (by kernel_rfl)
end
end Go.Proofs.YtckbdndhmcoihaaGreat.b
end
section
set_option maxRecDepth 20000
namespace Go.Proofs.YtckbdndhmcoihaaGreat.nodes
open Go Go.RowKit Go.Lib
abbrev hv (x:Int×Int):Value:=.agg #[.int .i64 x.1,.int .i64 x.2]
theorem HG:Tryz.prog.follows .mixedOrders=true:=by kernel_rfl
theorem avO (x y:Int×Int) (w:World):(Op.equal 32 (hv x) (hv y)).run Tryz.prog w = .ok (decide (x=y)) w:=by
 obtain ⟨s,g⟩:=x;obtain ⟨s',g'⟩:=y;have e:decide ((s,g)=(s',g'))=(s==s'&&g==g'):=by
  rw [Bool.eq_iff_iff];simp
 rw [e];have h:=K.QF (P:=Tryz.prog) (E:=⟨fun _=>none,fun _=>none,fun _=>none,fun _=>none⟩) 12 10000 32 ⟨true,[.int .i64,.int .i64]⟩ [.int .i64 s,.int .i64 g] [.int .i64 s',.int .i64 g'] [.int .i64 s,.int .i64 g] [.int .i64 s',.int .i64 g'] ((s==s')&&((g==g')&&true))
  (by kernel_rfl) (by kernel_rfl) (by omega) (.cons .mkInt (.cons .mkInt .nil)) (.cons .mkInt (.cons .mkInt .nil)) rfl rfl rfl
 rw [pT] at h;exact aB.iM h w
def Zh (es:Array MapEntry) (S:List (Int×Int)):Prop:=es.toList.map (·.key)=S.map hv/\∀ e∈es.toList,e.val = .bool true
theorem aoo (k:Int×Int) (w:World):∀ (l:List MapEntry) (S:List (Int×Int)) (i:Nat),l.map (·.key)=S.map hv->(∀ e∈l,e.val = .bool true)->
  ∃ r,(Instr.findAsking 32 (hv k) l i).run Tryz.prog w = .ok r w/\(k∈S->∃ j,r=some (i+j,.bool true)/\j < l.length/\l[j]?.map (·.key)=some (hv k))/\(k ∉ S->r=none)
 | [],[],i,_,_=>⟨none,rfl,fun h=>by simp at h,fun _=>rfl⟩
 | [],_::_,_,h,_=>by simp at h
 | _::_,[],_,h,_=>by simp at h
 | e::l,x::S,i,h,hb=>by
  simp only [List.map_cons,List.cons.injEq] at h;obtain ⟨r,h1,h2,h3⟩:=aoo k w l S (i+1) h.2 (fun e' he=>hb e' (yY _ he));have he:=avO k x w;rw [<- h.1] at he;by_cases hx:k=x
  ·rw [aq hx] at he
   refine ⟨some (i,.bool true),?_,fun _=>⟨0,rfl,by simp,by simp [h.1,hx]⟩,fun hn=>absurd (by rw [hx]; exact List.mem_cons_self ..) hn⟩;have S8:=hb e (List.mem_cons_self ..);simp [Instr.findAsking,he,S8]
  ·rw [bj hx] at he
   refine ⟨r,?_,fun hm=>?_,fun hn=>h3 fun q=>hn (yY _ q)⟩
   ·simp only [Instr.findAsking,Sem.run_bind,he,ko]
    exact h1
   ·obtain ⟨j,q1,q2,q3⟩:=h2 ((fA.1 hm).resolve_left hx)
    exact ⟨j+1,by rw [q1]; congr 2; omega,by simp; omega,by simpa using q3⟩
theorem ak0 (b:Bool) (k:Int×Int) (w:World):(Instr.checkKey b 10000 32 (hv k)).run Tryz.prog w = .ok () w:=by
 have h:aB.dy Tryz.prog (Instr.checkKey b 10000 32 (hv k))=some ():=by cases b <;> kernel_rfl
 exact aB.iM h w
theorem ada (k:Int×Int) (w:World) {es:Array MapEntry} {S:List (Int×Int)} (h:Zh es S) :
  ∃ r,(Instr.findKey 32 (hv k) es.toList).run Tryz.prog w = .ok r w/\(k∈S->∃ j,r=some (j,.bool true))/\(k ∉ S->r=none):=by
 obtain ⟨r,h1,h2,h3⟩:=aoo k w es.toList S 0 h.1 h.2;have u32:=run_underlying Tryz.underlying32;unfold Instr.findKey;cases hl:es.toList with
 | nil=>
  rw [hl] at h1;refine ⟨none,?_,fun hk=>?_,fun _=>rfl⟩
  ·simp only [Sem.run_bind,u32,ko,Instr.findNow]
   rfl
  ·have:=h.1
   rw [hl] at this;have:S = []:=by simpa using this.symm
   rw [this] at hk;simp at hk
 | cons e l=>
  rw [hl] at h1;refine ⟨r,?_,fun hk=>?_,h3⟩
  ·have hn:∀ fs i,Instr.findNow (.struct fs) (hv k) (e::l) i=none:=fun fs i=>by
    unfold Instr.findNow;have:∀ v,Instr.sameNow (.struct fs) (hv k) v=none:=fun v=>by cases v <;> rfl
    rw [this]
   simp only [Sem.run_bind,u32,ko,hn];exact h1
  ·obtain ⟨j,q,_⟩:=h2 hk
   exact ⟨0+j,q⟩
theorem ass {W:World} {mb:Nat} {es:Array MapEntry} {clock:Nat} {S:List (Int×Int)} (hm:W.heap[mb]? = some (.map es clock)) (h:Zh es S) (k:Int×Int) :
  (Instr.lookup 202 (.map (some mb)) (hv k) false).run Tryz.prog W = .ok (.bool (decide (k∈S))) W:=by
 obtain ⟨r,h1,h2,h3⟩:=ada k W h;have RH:=run_underlying Tryz.underlying202;have v4:=Tryz.zeroValue4;unfold Instr.lookup;simp only [Sem.run_bind,RH,ko,MapKept.run_getObj_map hm,Sem.run_pure,ak0,h1];by_cases hk:k∈S
 ·obtain ⟨j,rfl⟩:=h2 hk
  rw [aq hk];rfl
 ·rw [h3 hk,bj hk]
  simp only [Sem.run_bind,v4,ko,Sem.run_pure];rfl
def put (W:World) (mb:Nat) (o:Obj):World:={ W with heap:=W.heap.setIfInBounds mb o }
theorem at2 {W:World} {mb:Nat} {es:Array MapEntry} {clock:Nat} {S:List (Int×Int)} (hm:W.heap[mb]? = some (.map es clock)) (h:Zh es S) (k:Int×Int) (hk:k ∉ S) :
  (Instr.mapUpdate 202 (.map (some mb)) (hv k) (.bool true)).run Tryz.prog W = .ok () (put W mb (.map (es.push ⟨hv k,.bool true,clock⟩) (clock+1))):=by
 obtain ⟨r,h1,h2,h3⟩:=ada k W h;have RH:=run_underlying Tryz.underlying202;unfold Instr.mapUpdate;simp only [Sem.run_bind,RH,ko,MapKept.run_getObj_map hm,Sem.run_pure,ak0,h1,h3 hk];exact MapKept.run_setObj_map _ hm
theorem apW {es:Array MapEntry} {S:List (Int×Int)} (h:Zh es S) (k:Int×Int) (c:Nat):Zh (es.push ⟨hv k,.bool true,c⟩) (S++[k]):=by
 refine ⟨?_,fun e he=>?_⟩
 ·rw [Array.toList_push,List.map_append,List.map_append,h.1]; rfl
 ·rw [Array.toList_push] at he
  rcases nI.1 he with he | he
  ·exact h.2 e he
  ·rw [List.mem_singleton.1 he]
theorem abq:Zh #[] []:=⟨rfl,fun e he=>by simp at he⟩
theorem ae2 {W:World} {mb:Nat} {o o' : Obj} (h:W.heap[mb]? = some o'):(put W mb o).heap[mb]? = some o:=by
 have bG:mb < W.heap.size:=(vM.1 h).1;unfold put;simp [Array.getElem?_setIfInBounds,bG]
theorem ae3 {W:World} {mb k:Nat} {o:Obj} (h:k≠mb):(put W mb o).heap[k]? = W.heap[k]?:=by
 unfold put;simp [Array.getElem?_setIfInBounds,Ne.symm h]
theorem abr {W:World} {mb:Nat} {o:Obj} : (put W mb o).heap.size=W.heap.size:=by
 unfold put;simp
end Go.Proofs.YtckbdndhmcoihaaGreat.nodes
end
section
set_option maxRecDepth 20000
namespace Go.Proofs.YtckbdndhmcoihaaGreat.nodes
open Go Go.RowKit Go.Lib Go.Shelf
set_option maxHeartbeats 4000000 in
theorem auI (g:Nat) (lb:Array Value) (eg:∀ args w,(callFunc g args).run Tryz.prog w = .ok (.enter g args) w) (a:Option Addr) (n c:Nat) (x:Nat->Int×Int) (I:Nat->World->Prop) (T:World->Prop) (Zi:n<=1000000)
  (hQ:∀ W kk,kk < n->I kk W->∃ b off,a=some ⟨b,off,none⟩/\W.cell? ⟨b,off+kk * 2,none⟩=some (.int .i64 (x kk).1)/\W.cell? ⟨b,off+kk * 2+1,none⟩=some (.int .i64 (x kk).2))
  (ami:∀ kk W,kk < n->I kk W->Calls Tryz.prog g (#[hv (x kk)]++lb) W fun e W'=>e = .returned (.bool true)/\T W'\/e = .returned (.bool false)/\I (kk+1) W')
  (w:World) (h0:I 0 w):Calls Tryz.prog 174 #[.slice a n c,.func (.func g) #[] lb] w fun e W'=>(∃ kk:Nat,kk < n/\e = .returned (.int .i64 kk)/\T W')\/e = .returned (.int .i64 (-1))/\I n W':=by
 have mixed:=HG;have t32:=Tryz.underlying32; have a32:=Tryz.isAgg32; have z32:=Tryz.sizeOf32; have v32:=Tryz.zeroValue32; have u32:=run_underlying Tryz.underlying32;have t35:=Tryz.underlying35; have a35:=Tryz.isAgg35; have z35:=Tryz.sizeOf35; have v35:=Tryz.zeroValue35; have u35:=run_underlying Tryz.underlying35;have t3:=Tryz.underlying3; have a3:=Tryz.isAgg3; have z3:=Tryz.sizeOf3; have v3:=Tryz.zeroValue3; have u3:=run_underlying Tryz.underlying3
 go_enter Tryz.func174,Tryz.ntmps174
 go_wp2
 go_loopg [5,8] n (fun gg _ s8 wr=>∃ kk:Nat,kk<=n/\n - kk<=gg/\s8 = .int .i64 kk/\Aside (I kk wr))
 case atStart=>exact ⟨0,E9 _,by omega,rfl,h0⟩
 case round=>
  obtain ⟨kk,hkk,hg,rfl,BW⟩:=hrel;by_cases bG:kk < n
  ·have at3:(kk:Int) < (n:Int):=by omega
   obtain ⟨b,off,ea,l1,l2⟩:=hQ wr kk bG BW.out;subst ea;have hc:=ami kk wr bG BW.out;clear hQ ami;generalize hy:x kk=y at l1 l2 hc;clear hy
   go_wp2_with (go_at_fn g; refine hc.mono ?_; rintro e w' (⟨rfl,hb'⟩ | ⟨rfl,hb'⟩))
   ·go_wp2
    go_ret
    exact .inl ⟨kk,bG,rfl,hb'⟩
   ·go_wp2
    go_roundg (n - (kk+1))
    case measure=>omega
    case rel=>exact ⟨kk+1,by omega,by omega,by go_num,hb'⟩
  ·have at3 : ¬ (kk:Int) < (n:Int):=by omega
   have:kk=n:=by omega
   subst this
   go_wp2
   go_ret
   exact .inr ⟨rfl,BW.out⟩
set_option maxHeartbeats 4000000 in
theorem WC (g:Nat) (lb:Array Value) (eg:∀ args w,(callFunc g args).run Tryz.prog w = .ok (.enter g args) w) (a:Option Addr) (n c:Nat) (x:Nat->Int×Int) (I:Nat->World->Prop) (T:World->Prop) (Zi:n<=1000000)
  (hQ:∀ W kk,kk < n->I kk W->∃ b off,a=some ⟨b,off,none⟩/\W.cell? ⟨b,off+kk * 2,none⟩=some (.int .i64 (x kk).1)/\W.cell? ⟨b,off+kk * 2+1,none⟩=some (.int .i64 (x kk).2))
  (ami:∀ kk W,kk < n->I kk W->Calls Tryz.prog g (#[hv (x kk)]++lb) W fun e W'=>e = .returned (.bool true)/\T W'\/e = .returned (.bool false)/\I (kk+1) W')
  (w:World) (h0:I 0 w):Calls Tryz.prog 122 #[.slice a n c,.func (.func g) #[] lb] w fun e W'=>∃ r,e = .returned (.bool r)/\(r=true/\T W'\/r=false/\I n W'):=by
 have mixed:=HG;have t35:=Tryz.underlying35; have a35:=Tryz.isAgg35; have z35:=Tryz.sizeOf35; have v35:=Tryz.zeroValue35; have u35:=run_underlying Tryz.underlying35;have t3:=Tryz.underlying3; have a3:=Tryz.isAgg3; have z3:=Tryz.sizeOf3; have v3:=Tryz.zeroValue3; have u3:=run_underlying Tryz.underlying3;have hI:=auI g lb eg a n c x I T Zi hQ ami w h0
 go_enter Tryz.func122,Tryz.ntmps122
 go_wp2_with (go_at_call 174; refine hI.mono ?_; rintro e w' (⟨kk,hk,rfl,hb'⟩ | ⟨rfl,hb'⟩))
 ·go_wp2
  go_ret
  exact ⟨true,by congr 2,.inl ⟨rfl,hb'⟩⟩
 ·go_wp2
  go_ret
  exact ⟨false,by congr 2,.inr ⟨rfl,hb'⟩⟩
structure G where
 sa:Option Addr
 sn:Nat
 sc:Nat
 ka:Option Addr
 kn:Nat
 kc:Nat
 ia:Nat->Option Addr
 im:Nat->Nat
 ic:Nat->Nat
 pP:Nat->Nat->Int×Int
structure GAt (q:G) (B:Nat) (W:World):Prop where
 kids:∀ i,i < q.kn->∃ b off,q.ka=some ⟨b,off,none⟩/\b < B/\W.cell? ⟨b,off+i,none⟩=some (.slice (q.ia i) (q.im i) (q.ic i))
 small:∀ i,i < q.kn->q.im i<=1000000
 row:∀ i,i < q.kn->∀ k,k < q.im i->∃ b off,q.ia i=some ⟨b,off,none⟩/\b < B/\W.cell? ⟨b,off+k * 2,none⟩=some (.int .i64 (q.pP i k).1)/\W.cell? ⟨b,off+k * 2+1,none⟩=some (.int .i64 (q.pP i k).2)
structure Kp (mb:Nat) (W W' : World):Prop where
 os:W'.os=W.os
 tape:W'.tape=W.tape
 output:W'.output=W.output
 size:W.heap.size<=W'.heap.size
 block:∀ k,k < W.heap.size->k≠mb->W'.heap[k]? = W.heap[k]?
theorem Kp.refl (mb:Nat) (W:World):Kp mb W W:=⟨rfl,rfl,rfl,aU _,fun _ _ _=>rfl⟩
theorem Kp.trans {mb:Nat} {W W' W2:World} (h:Kp mb W W') (k:Kp mb W' W2):Kp mb W W2:=
 ⟨k.os.trans h.os,k.tape.trans h.tape,k.output.trans h.output,o9 h.size k.size,fun j hj hn=>(k.block j (nK hj h.size) hn).trans (h.block j hj hn)⟩
theorem Kp.below {mb B:Nat} {W W' : World} (h:Kp mb W W') (hB:B<=W.heap.size) (hm:B<=mb):Below B W W':=
 ⟨h.os,h.tape,h.output,h.size,fun k hk=>h.block k (by omega) (by omega)⟩
theorem Kp.cell {mb:Nat} {W W' : World} (h:Kp mb W W') {b j:Nat} (hb:b < W.heap.size) (hm:b≠mb):W'.cell? ⟨b,j,none⟩=W.cell? ⟨b,j,none⟩:=by
 have:=h.block b hb hm;unfold World.cell?;simp only [this]
theorem Kp.alloc {mb:Nat} (W:World) (o:Obj):Kp mb W (W.alloc o):=⟨rfl,rfl,rfl,by simp,fun k hk _=>Below.heap_alloc W o k hk⟩
theorem Kp.drew (mb:Nat) (W:World):Kp mb W W.drew:=⟨rfl,rfl,rfl,aU _,fun _ _ _=>rfl⟩
theorem Kp.put {mb:Nat} (W:World) (o:Obj):Kp mb W (put W mb o):=⟨rfl,rfl,rfl,by rw [abr]; exact aU _,fun k _ hn=>ae3 hn⟩
theorem GAt.ik {q:G} {B mb:Nat} {W W' : World} (h:GAt q B W) (k:Kp mb W W') (hB:B<=W.heap.size) (hm:B<=mb):GAt q B W':=by
 refine ⟨fun i hi=>?_,h.small,fun i hi j hj=>?_⟩
 ·obtain ⟨b,off,h1,h2,h3⟩:=h.kids i hi
  exact ⟨b,off,h1,h2,by rw [k.cell (by omega) (by omega)]; exact h3⟩
 ·obtain ⟨b,off,h1,h2,h3,h4⟩:=h.row i hi j hj
  exact ⟨b,off,h1,h2,by rw [k.cell (by omega) (by omega)]; exact h3,by rw [k.cell (by omega) (by omega)]; exact h4⟩
structure Bx (q:G) (B b1 b2 b3 b4 mb:Nat) (to:Int×Int) (W:World) (S:List (Int×Int)):Prop where
 g:GAt q B W
 iW:B<=W.heap.size
 l1:b1 < W.heap.size/\b1≠mb
 l2:b2 < W.heap.size/\b2≠mb
 l3:b3 < W.heap.size/\b3≠mb
 l4:b4 < W.heap.size/\b4≠mb
 m:B<=mb
 c1:W.cell? ⟨b1,0,none⟩=some (.int .i64 to.1)
 d1:W.cell? ⟨b1,1,none⟩=some (.int .i64 to.2)
 c2:W.cell? ⟨b2,0,none⟩=some (.map (some mb))
 c3:W.cell? ⟨b3,0,none⟩=some (.slice q.sa q.sn q.sc)
 d3:W.cell? ⟨b3,1,none⟩=some (.slice q.ka q.kn q.kc)
 c4:W.cell? ⟨b4,0,none⟩=some (.func (.func 175) #[] #[.pointer (some ⟨b1,0,none⟩),.pointer (some ⟨b2,0,none⟩),.pointer (some ⟨b3,0,none⟩),.pointer (some ⟨b4,0,none⟩)])
 map:∃ es clock,W.heap[mb]? = some (.map es clock)/\Zh es S
 to:to ∉ S
theorem Bx.ik {q:G} {B b1 b2 b3 b4 mb:Nat} {to:Int×Int} {W W' : World} {S S' : List (Int×Int)} (h:Bx q B b1 b2 b3 b4 mb to W S) (k:Kp mb W W') (hm:∃ es clock,W'.heap[mb]? = some (.map es clock)/\Zh es S') (ht:to ∉ S') :
  Bx q B b1 b2 b3 b4 mb to W' S' where
 g:=h.g.ik k h.iW h.m
 iW:=o9 h.iW k.size
 l1:=⟨nK h.l1.1 k.size,h.l1.2⟩
 l2:=⟨nK h.l2.1 k.size,h.l2.2⟩
 l3:=⟨nK h.l3.1 k.size,h.l3.2⟩
 l4:=⟨nK h.l4.1 k.size,h.l4.2⟩
 m:=h.m
 c1:=(k.cell h.l1.1 h.l1.2).trans h.c1
 d1:=(k.cell h.l1.1 h.l1.2).trans h.d1
 c2:=(k.cell h.l2.1 h.l2.2).trans h.c2
 c3:=(k.cell h.l3.1 h.l3.2).trans h.c3
 d3:=(k.cell h.l3.1 h.l3.2).trans h.d3
 c4:=(k.cell h.l4.1 h.l4.2).trans h.c4
 map:=hm
 to:=ht
inductive Reach (q:G) (to:Int×Int):Int×Int->Prop where
 | here:Reach q to to
 | pP (h:Int×Int) (k:Nat) (hk:k < q.im h.1.toNat) (r:Reach q to (q.pP h.1.toNat k)):Reach q to h
structure Grow (q:G) (S:List (Int×Int)) (h:Int×Int) (S' : List (Int×Int)):Prop where
 sub:∀ x∈S,x∈S'
 is:h∈S'
 new:∀ x∈S',x∈S\/∀ k,k < q.im x.1.toNat->q.pP x.1.toNat k∈S'
theorem filter_le {S S1:List (Int×Int)} (h:∀ x∈S,x∈S1):∀ U:List (Int×Int),(U.filter fun u=>!decide (u∈S1)).length<=(U.filter fun u=>!decide (u∈S)).length
 | []=>aU _
 | u::U=>by
  have ih:=filter_le h U;by_cases h1:u∈S
  ·rw [List.filter_cons_of_neg (by simp [h u h1]),List.filter_cons_of_neg (by simp [h1])]; exact ih
  ·rw [List.filter_cons_of_pos (p:=fun u=>!decide (u∈S)) (by simp [h1])]
   by_cases h2:u∈S1
   ·rw [List.filter_cons_of_neg (by simp [h2])]; exact Nat.le_succ_of_le ih
   ·rw [List.filter_cons_of_pos (by simp [h2])]; exact Nat.succ_le_succ ih
theorem filter_lt {S S1:List (Int×Int)} (h:∀ x∈S,x∈S1) {k:Int×Int} (hk:k ∉ S) (CF:k∈S1):∀ U:List (Int×Int),k∈U->(U.filter fun u=>!decide (u∈S1)).length < (U.filter fun u=>!decide (u∈S)).length
 | [],hm=>by simp at hm
 | u::U,hm=>by
  by_cases e:k=u
  ·subst e
   rw [List.filter_cons_of_neg (by simp [CF]),List.filter_cons_of_pos (p:=fun u=>!decide (u∈S)) (by simp [hk])];exact Nat.lt_succ_of_le (filter_le h U)
  ·have ih:=filter_lt h hk CF U ((fA.1 hm).resolve_left e)
   by_cases h1:u∈S
   ·rw [List.filter_cons_of_neg (by simp [h u h1]),List.filter_cons_of_neg (by simp [h1])]; exact ih
   ·rw [List.filter_cons_of_pos (p:=fun u=>!decide (u∈S)) (by simp [h1])]
    by_cases h2:u∈S1
    ·rw [List.filter_cons_of_neg (by simp [h2])]; exact Nat.lt_succ_of_lt ih
    ·rw [List.filter_cons_of_pos (by simp [h2])]; exact Nat.succ_lt_succ ih
set_option maxHeartbeats 4000000 in
theorem look (q:G) (B b1 b2 b3 b4 mb:Nat) (to:Int×Int) (U:List (Int×Int)) (hU:∀ u∈U,(0<=u.1/\u.1 < (q.kn:Int))/\∀ k,k < q.im u.1.toNat->q.pP u.1.toNat k∈U) :
  ∀ (fuel:Nat) (S:List (Int×Int)) (W:World) (h:Int×Int),h∈U->(U.filter fun u=>!decide (u∈S)).length < fuel->Bx q B b1 b2 b3 b4 mb to W S->
   Calls Tryz.prog 175 #[hv h,.pointer (some ⟨b1,0,none⟩),.pointer (some ⟨b2,0,none⟩),.pointer (some ⟨b3,0,none⟩),.pointer (some ⟨b4,0,none⟩)] W fun e W'=>
    ∃ S',Bx q B b1 b2 b3 b4 mb to W' S'/\Kp mb W W'/\(e = .returned (.bool true)/\Reach q to h\/e = .returned (.bool false)/\Grow q S h S'):=by
 intro fuel
 induction fuel with
 | zero=>exact fun S W h _ hf=>absurd hf (o8 _)
 | succ fuel ih=>
  intro S W h hhU hf L;have mixed:=HG;have t32:=Tryz.underlying32; have a32:=Tryz.isAgg32; have z32:=Tryz.sizeOf32; have v32:=Tryz.zeroValue32; have u32:=run_underlying Tryz.underlying32;have t202:=Tryz.underlying202; have arF:=Tryz.isAgg202; have arG:=Tryz.sizeOf202; have arH:=Tryz.zeroValue202; have RH:=run_underlying Tryz.underlying202;have t200:=Tryz.underlying200; have avf:=Tryz.isAgg200; have avg:=Tryz.sizeOf200; have avh:=Tryz.zeroValue200; have avi:=run_underlying Tryz.underlying200;have t25:=Tryz.underlying25; have a25:=Tryz.isAgg25; have z25:=Tryz.sizeOf25; have v25:=Tryz.zeroValue25; have u25:=run_underlying Tryz.underlying25;have t27:=Tryz.underlying27; have a27:=Tryz.isAgg27; have z27:=Tryz.sizeOf27; have v27:=Tryz.zeroValue27; have u27:=run_underlying Tryz.underlying27;have t35:=Tryz.underlying35; have a35:=Tryz.isAgg35; have z35:=Tryz.sizeOf35; have v35:=Tryz.zeroValue35; have u35:=run_underlying Tryz.underlying35;have t3:=Tryz.underlying3; have a3:=Tryz.isAgg3; have z3:=Tryz.sizeOf3; have v3:=Tryz.zeroValue3; have u3:=run_underlying Tryz.underlying3;have t4:=Tryz.underlying4; have a4:=Tryz.isAgg4; have z4:=Tryz.sizeOf4; have v4:=Tryz.zeroValue4; have u4:=run_underlying Tryz.underlying4;obtain ⟨es,clock,at4,aop⟩:=L.map;have avj:mb < W.heap.size:=(vM.1 at4).1;by_cases PZ:h=to
  ·subst PZ
   have KA:=Kp.alloc (mb:=mb) W (.cells #[.int .i64 h.1,.int .i64 h.2] 32);have c1:(W.alloc (.cells #[.int .i64 h.1,.int .i64 h.2] 32)).cell? ⟨b1,0,none⟩=some (.int .i64 h.1):=(KA.cell L.l1.1 L.l1.2).trans L.c1;have d1:(W.alloc (.cells #[.int .i64 h.1,.int .i64 h.2] 32)).cell? ⟨b1,1,none⟩=some (.int .i64 h.2):=(KA.cell L.l1.1 L.l1.2).trans L.d1
   go_enter Tryz.func175,Tryz.ntmps175
   go_wp2
   go_ret
   exact ⟨S,L.ik KA ⟨es,clock,by rw [Below.heap_alloc W _ mb avj]; exact at4,aop⟩ L.to,KA,.inl ⟨rfl,.here⟩⟩
  ·have KA:=Kp.alloc (mb:=mb) W (.cells #[.int .i64 h.1,.int .i64 h.2] 32)
   obtain ⟨t1,c1,d1,avk⟩:∃ t1,(W.alloc (.cells #[.int .i64 h.1,.int .i64 h.2] 32)).cell? ⟨b1,0,none⟩=some (.int .i64 t1)/\(W.alloc (.cells #[.int .i64 h.1,.int .i64 h.2] 32)).cell? ⟨b1,1,none⟩=some (.int .i64 to.2)/\(t1=h.1/\¬ h.2=to.2\/¬ h.1=t1):=by
    refine ⟨to.1,(KA.cell L.l1.1 L.l1.2).trans L.c1,(KA.cell L.l1.1 L.l1.2).trans L.d1,?_⟩;by_cases e1:h.1=to.1
    ·exact .inl ⟨e1.symm,fun e2=>PZ (Prod.ext e1 e2)⟩
    ·exact .inr e1
   have c2:(W.alloc (.cells #[.int .i64 h.1,.int .i64 h.2] 32)).cell? ⟨b2,0,none⟩=some (.map (some mb)):=(KA.cell L.l2.1 L.l2.2).trans L.c2;have amj:(W.alloc (.cells #[.int .i64 h.1,.int .i64 h.2] 32)).heap[mb]? = some (.map es clock):=by rw [Below.heap_alloc W _ mb avj]; exact at4
   have hlk:=ass amj aop h;by_cases hS:h∈S
   ·rw [aq hS] at hlk
    have fin:∃ S',Bx q B b1 b2 b3 b4 mb to (W.alloc (.cells #[.int .i64 h.1,.int .i64 h.2] 32)) S'/\Kp mb W (W.alloc (.cells #[.int .i64 h.1,.int .i64 h.2] 32))/\Grow q S h S':=
     ⟨S,L.ik KA ⟨es,clock,amj,aop⟩ L.to,KA,⟨fun x hx=>hx,hS,fun x hx=>.inl hx⟩⟩
    obtain ⟨S',f1,f2,f3⟩:=fin;rcases avk with ⟨rfl,e2⟩ | e1
    ·go_enter Tryz.func175,Tryz.ntmps175
     go_wp2
     go_ret
     exact ⟨S',f1,f2,.inr ⟨rfl,f3⟩⟩
    ·go_enter Tryz.func175,Tryz.ntmps175
     go_wp2
     go_ret
     exact ⟨S',f1,f2,.inr ⟨rfl,f3⟩⟩
   ·rw [bj hS] at hlk
    have X0:=at2 amj aop h hS;have avP:=ae2 (o:=.map (es.push ⟨hv h,.bool true,clock⟩) (clock+1)) amj;have KP:=Kp.put (mb:=mb) (W.alloc (.cells #[.int .i64 h.1,.int .i64 h.2] 32)) (.map (es.push ⟨hv h,.bool true,clock⟩) (clock+1));have LP:=L.ik (KA.trans KP) ⟨_,_,avP,apW aop h clock⟩ (by
     rw [nI];rintro (hm | hm)
     ·exact L.to hm
     ·exact PZ (List.mem_singleton.1 hm).symm)
    have cb:(put (W.alloc (.cells #[.int .i64 h.1,.int .i64 h.2] 32)) mb (.map (es.push ⟨hv h,.bool true,clock⟩) (clock+1))).cell? ⟨W.heap.size,0,none⟩=some (.int .i64 h.1):=by
     rw [KP.cell (by simp) (by omega)];simp
    have AW:=LP.g;obtain ⟨hU1,hU2⟩:=hU h hhU;obtain ⟨bk,ok,hka,hbk,hQ⟩:=AW.kids h.1.toNat (by omega);have d3:=LP.d3;rw [hka] at d3;have c4:=LP.c4;have V3:W.heap.size < (put (W.alloc (.cells #[.int .i64 h.1,.int .i64 h.2] 32)) mb (.map (es.push ⟨hv h,.bool true,clock⟩) (clock+1))).heap.size:=by rw [abr]; simp
    have K2:=KA.trans KP;generalize put (W.alloc (.cells #[.int .i64 h.1,.int .i64 h.2] 32)) mb (.map (es.push ⟨hv h,.bool true,clock⟩) (clock+1))=W2 at *;have eg:∀ args w,(callFunc 175 args).run Tryz.prog w = .ok (.enter 175 args) w:=enters_of Tryz.func175 (by kernel_rfl) rfl;have RI:=WC 175 #[.pointer (some ⟨b1,0,none⟩),.pointer (some ⟨b2,0,none⟩),.pointer (some ⟨b3,0,none⟩),.pointer (some ⟨b4,0,none⟩)] eg (q.ia h.1.toNat) (q.im h.1.toNat) (q.ic h.1.toNat) (q.pP h.1.toNat)
     (fun kk W'=>∃ S1,Bx q B b1 b2 b3 b4 mb to W' S1/\Kp mb W2 W'/\(∀ x∈S,x∈S1)/\h∈S1/\(∀ j,j < kk->q.pP h.1.toNat j∈S1)/\∀ x∈S1,x∈S\/x=h\/∀ k,k < q.im x.1.toNat->q.pP x.1.toNat k∈S1)
     (fun W'=>∃ S1,Bx q B b1 b2 b3 b4 mb to W' S1/\Kp mb W2 W'/\Reach q to h)
     (LP.g.small _ (by omega))
     (fun W' kk hk ⟨S1,L1,_⟩=>by
      obtain ⟨b,off,r1,_,r2,r3⟩:=L1.g.row h.1.toNat (by omega) kk hk;exact ⟨b,off,r1,r2,r3⟩)
     (fun kk W' hk ⟨S1,L1,k1,s1,s2,s3,s4⟩=>by
      refine (ih S1 W' (q.pP h.1.toNat kk) (hU2 kk hk) (nK (filter_lt s1 hS s2 U hhU) (Nat.le_of_lt_succ hf)) L1).mono ?_;rintro e W3 ⟨S2,L2,k2,⟨rfl,hr⟩ | ⟨rfl,Ht⟩⟩
      ·exact .inl ⟨rfl,S2,L2,k1.trans k2,.pP h kk hk hr⟩
      ·refine .inr ⟨rfl,S2,L2,k1.trans k2,fun x hx=>Ht.sub x (s1 x hx),Ht.sub h s2,fun j hj=>?_,fun x hx=>?_⟩
       ·by_cases ej:j=kk
        ·subst ej; exact Ht.is
        ·exact Ht.sub _ (s3 j (by omega))
       ·rcases Ht.new x hx with h1 | h1
        ·rcases s4 x h1 with h2 | h2 | h2
         ·exact .inl h2
         ·exact .inr (.inl h2)
         ·exact .inr (.inr fun k hk=>Ht.sub _ (h2 k hk))
        ·exact .inr (.inr h1))
     W2.drew ⟨S++[h],LP.ik (Kp.drew mb W2) (by obtain ⟨pQ,cl2,q1,q2⟩:=LP.map; exact ⟨pQ,cl2,q1,q2⟩) LP.to,Kp.drew mb W2,fun x hx=>List.mem_append_left _ hx,List.mem_append_right _ (List.mem_singleton.2 rfl),fun j hj=>absurd hj (o8 _),fun x hx=>(nI.1 hx).imp id fun q=>.inl (List.mem_singleton.1 q)⟩
    have D3:0<=h.1:=hU1.1;have bG:h.1 < (q.kn:Int):=hU1.2;have fin:∀ W' r,(r=true/\(∃ S1,Bx q B b1 b2 b3 b4 mb to W' S1/\Kp mb W2 W'/\Reach q to h)\/r=false/\∃ S1,Bx q B b1 b2 b3 b4 mb to W' S1/\Kp mb W2 W'/\(∀ x∈S,x∈S1)/\h∈S1/\(∀ j,j < q.im h.1.toNat->q.pP h.1.toNat j∈S1)/\∀ x∈S1,x∈S\/x=h\/∀ k,k < q.im x.1.toNat->q.pP x.1.toNat k∈S1)->
      ∃ S',Bx q B b1 b2 b3 b4 mb to W' S'/\Kp mb W W'/\((Ending.returned (.bool r) = .returned (.bool true))/\Reach q to h\/(Ending.returned (.bool r) = .returned (.bool false))/\Grow q S h S'):=by
     rintro W' r (⟨rfl,S1,L1,k1,hr⟩ | ⟨rfl,S1,L1,k1,s1,s2,s3,s4⟩)
     ·exact ⟨S1,L1,K2.trans k1,.inl ⟨rfl,hr⟩⟩
     ·refine ⟨S1,L1,K2.trans k1,.inr ⟨rfl,s1,s2,fun x hx=>?_⟩⟩
      rcases s4 x hx with h1 | h1 | h1
      ·exact .inl h1
      ·subst h1; exact .inr s3
      ·exact .inr h1
    clear ih hU2 LP L AW hf;rcases avk with ⟨rfl,e2⟩ | e1
    ·go_enter Tryz.func175,Tryz.ntmps175
     go_wp2
     go_region_with (go_at_call 122; refine RI.mono ?_; rintro e w' ⟨r,rfl,hr⟩)
     all_goals (go_wp2; go_ret; exact fin _ _ (by assumption))
    ·go_enter Tryz.func175,Tryz.ntmps175
     go_wp2
     go_region_with (go_at_call 122; refine RI.mono ?_; rintro e w' ⟨r,rfl,hr⟩)
     all_goals (go_wp2; go_ret; exact fin _ _ (by assumption))
abbrev gv (q:G):Value:=.agg #[.slice q.sa q.sn q.sc,.slice q.ka q.kn q.kc]
def MapAt (mb:Nat) (W:World) (S:List (Int×Int)):Prop:=∃ es clock,W.heap[mb]? = some (.map es clock)/\Zh es S
theorem Kw (V:World) (o:Obj) (n:Nat) (h:n=V.heap.size):(V.alloc o).heap[n]? = some o:=by
 subst h;exact heap_alloc_new V o
theorem Cb {W:World} {b:Nat} {c:Array Value} {t:TypeId} (h:W.heap[b]? = some (.cells c t)) (i:Nat):W.cell? ⟨b,i,none⟩=c[i]?:=by
 unfold World.cell?;simp [h]
theorem awO (W:World) (A0 A1 A2 A3 A4:Obj):∃ V,V=((((W.alloc A0).alloc A1).alloc A2).alloc A3).alloc A4/\V.heap[W.heap.size]? = some A0/\V.heap[W.heap.size+1]? = some A1/\V.heap[W.heap.size+1+1]? = some A2/\V.heap[W.heap.size+1+1+1]? = some A3/\V.heap[W.heap.size+1+1+1+1]? = some A4/\V.heap.size=W.heap.size+5/\∀ mb,Kp mb W V:=by
 have s1:(W.alloc A0).heap.size=W.heap.size+1:=by simp
 have s2:((W.alloc A0).alloc A1).heap.size=W.heap.size+2:=by simp
 have s3:(((W.alloc A0).alloc A1).alloc A2).heap.size=W.heap.size+3:=by simp
 have s4:((((W.alloc A0).alloc A1).alloc A2).alloc A3).heap.size=W.heap.size+4:=by simp
 refine ⟨_,rfl,?_,?_,?_,?_,?_,by simp,fun mb=>((((Kp.alloc W A0).trans (Kp.alloc _ A1)).trans (Kp.alloc _ A2)).trans (Kp.alloc _ A3)).trans (Kp.alloc _ A4)⟩
 ·rw [Below.heap_alloc _ _ _ (by omega),Below.heap_alloc _ _ _ (by omega),Below.heap_alloc _ _ _ (by omega),Below.heap_alloc _ _ _ (by omega)]
  exact Kw _ _ _ rfl
 ·rw [Below.heap_alloc _ _ _ (by omega),Below.heap_alloc _ _ _ (by omega),Below.heap_alloc _ _ _ (by omega)]
  exact Kw _ _ _ (by omega)
 ·rw [Below.heap_alloc _ _ _ (by omega),Below.heap_alloc _ _ _ (by omega)]
  exact Kw _ _ _ (by omega)
 ·rw [Below.heap_alloc _ _ _ (by omega)]
  exact Kw _ _ _ (by omega)
 ·exact Kw _ _ _ (by omega)
set_option maxHeartbeats 4000000 in
theorem below (q:G) (B mb:Nat) (vv to:Int×Int) (U:List (Int×Int)) (hU:∀ u∈U,(0<=u.1/\u.1 < (q.kn:Int))/\∀ k,k < q.im u.1.toNat->q.pP u.1.toNat k∈U) (S:List (Int×Int)) (W:World)
  (hf:vv∈U) (hg:GAt q B W) (hB:B<=W.heap.size) (hm:B<=mb) (hM:MapAt mb W S) (ht:to ∉ S) :
  Calls Tryz.prog 124 #[gv q,.map (some mb),hv vv,hv to] W fun e W'=>∃ S' r,e = .returned (.bool r)/\MapAt mb W' S'/\Kp mb W W'/\(r=true/\Reach q to vv\/r=false/\Grow q S vv S'/\to ∉ S'):=by
 have hml:mb < W.heap.size:=by obtain ⟨es,c,h,_⟩:=hM; exact (vM.1 h).1
 have RI:Calls Tryz.prog 175 #[hv vv,.pointer (some ⟨W.heap.size+1+1+1,0,none⟩),.pointer (some ⟨W.heap.size+1,0,none⟩),.pointer (some ⟨W.heap.size,0,none⟩),.pointer (some ⟨W.heap.size+1+1+1+1,0,none⟩)] (((((W.alloc (.cells #[.slice q.sa q.sn q.sc,.slice q.ka q.kn q.kc] 27)).alloc (.cells #[.map (some mb)] 202)).alloc (.cells #[.int .i64 vv.1,.int .i64 vv.2] 32)).alloc (.cells #[.int .i64 to.1,.int .i64 to.2] 32)).alloc (.cells #[.func (.func 175) #[] #[.pointer (some ⟨W.heap.size+1+1+1,0,none⟩),.pointer (some ⟨W.heap.size+1,0,none⟩),.pointer (some ⟨W.heap.size,0,none⟩),.pointer (some ⟨W.heap.size+1+1+1+1,0,none⟩)]] 200))
   fun e W'=>∃ S' r,e = .returned (.bool r)/\MapAt mb W' S'/\Kp mb W W'/\(r=true/\Reach q to vv\/r=false/\Grow q S vv S'/\to ∉ S'):=by
  obtain ⟨V,hV,v0,v1,v2,v3,v4,vs,vk⟩:=awO W (.cells #[.slice q.sa q.sn q.sc,.slice q.ka q.kn q.kc] 27) (.cells #[.map (some mb)] 202) (.cells #[.int .i64 vv.1,.int .i64 vv.2] 32) (.cells #[.int .i64 to.1,.int .i64 to.2] 32) (.cells #[.func (.func 175) #[] #[.pointer (some ⟨W.heap.size+1+1+1,0,none⟩),.pointer (some ⟨W.heap.size+1,0,none⟩),.pointer (some ⟨W.heap.size,0,none⟩),.pointer (some ⟨W.heap.size+1+1+1+1,0,none⟩)]] 200);rw [<- hV];have L:Bx q B (W.heap.size+1+1+1) (W.heap.size+1) W.heap.size (W.heap.size+1+1+1+1) mb to V S:=
   ⟨hg.ik (vk mb) hB hm,by omega,by omega,by omega,by omega,by omega,hm,by rw [Cb v3]; rfl,by rw [Cb v3]; rfl,by rw [Cb v1]; rfl,by rw [Cb v0]; rfl,by rw [Cb v0]; rfl,by rw [Cb v4]; rfl,by
    obtain ⟨es,c,h1,h2⟩:=hM;have hk:=vk (mb+1);exact ⟨es,c,by rw [hk.block mb hml (by omega)]; exact h1,h2⟩,ht⟩
  refine (look q B _ _ _ _ mb to U hU _ S V vv hf (Nat.lt_succ_self _) L).mono ?_;rintro e W' ⟨S',L',k',⟨rfl,hr⟩ | ⟨rfl,Ht⟩⟩
  ·exact ⟨S',true,rfl,L'.map,(vk mb).trans k',.inl ⟨rfl,hr⟩⟩
  ·exact ⟨S',false,rfl,L'.map,(vk mb).trans k',.inr ⟨rfl,Ht,L'.to⟩⟩
 have mixed:=HG;have t32:=Tryz.underlying32; have a32:=Tryz.isAgg32; have z32:=Tryz.sizeOf32; have v32:=Tryz.zeroValue32; have u32:=run_underlying Tryz.underlying32;have t202:=Tryz.underlying202; have arF:=Tryz.isAgg202; have arG:=Tryz.sizeOf202; have arH:=Tryz.zeroValue202; have RH:=run_underlying Tryz.underlying202;have t200:=Tryz.underlying200; have avf:=Tryz.isAgg200; have avg:=Tryz.sizeOf200; have avh:=Tryz.zeroValue200; have avi:=run_underlying Tryz.underlying200;have t27:=Tryz.underlying27; have a27:=Tryz.isAgg27; have z27:=Tryz.sizeOf27; have v27:=Tryz.zeroValue27; have u27:=run_underlying Tryz.underlying27;have t4:=Tryz.underlying4; have a4:=Tryz.isAgg4; have z4:=Tryz.sizeOf4; have v4:=Tryz.zeroValue4; have u4:=run_underlying Tryz.underlying4;have cW:(((((W.alloc (.cells #[.slice q.sa q.sn q.sc,.slice q.ka q.kn q.kc] 27)).alloc (.cells #[.map (some mb)] 202)).alloc (.cells #[.int .i64 vv.1,.int .i64 vv.2] 32)).alloc (.cells #[.int .i64 to.1,.int .i64 to.2] 32)).alloc (.cells #[.nilFunc] 200)).cell? ⟨W.heap.size+1+1+1+1,0,none⟩=some .nilFunc:=by rw [World.cell?_alloc_at _ _ _ _ (by simp)]; rfl
 have fW:(((((W.alloc (.cells #[.slice q.sa q.sn q.sc,.slice q.ka q.kn q.kc] 27)).alloc (.cells #[.map (some mb)] 202)).alloc (.cells #[.int .i64 vv.1,.int .i64 vv.2] 32)).alloc (.cells #[.int .i64 to.1,.int .i64 to.2] 32)).alloc (.cells #[.nilFunc] 200)).frozen? ⟨W.heap.size+1+1+1+1,0,none⟩=false:=by rw [World.frozen?_alloc_at _ _ _ _ (by simp)]
 go_enter Tryz.func124,Tryz.ntmps124
 go_wp2_with (go_at_call 175; refine RI.mono ?_; rintro e w' ⟨S',r,rfl,hr⟩)
 go_wp2
 go_ret
 exact ⟨S',r,rfl,hr⟩
end Go.Proofs.YtckbdndhmcoihaaGreat.nodes
end
section
namespace Go.K
open Go Go.aB
variable {P:Program} {E:Env}
theorem VC.auJ {ρ:Ren} {cs:List KV} {u:Value} (h:VC P E ρ (.agg cs) u):∃ l,u = .agg ⟨l⟩/\ui P E ρ cs l:=by
 obtain ⟨u',h1,h2⟩:=h;obtain ⟨l,rfl,q⟩:=h1.mi;obtain ⟨l',e,h3⟩:=h2.mi;exact ⟨l'.toList,e,l,q,h3⟩
theorem abt {A:aw} {B:St} {ρ:Ren} {base:Nat} {w:World} (hj:KJ P E A B ρ base w) {T:TypeId} {m:Mk} {n:Nat} {es:List KV} {acc:Nat->KV} {u:Value} (h:VC P E ρ (.ts T m n es acc) u) :
  ∃ a c,u = .slice a n c/\∀ i,i < n->∃ b off,a=some ⟨b,off,none⟩/\b < w.heap.size/\∀ k c',(acc i).cells[k]? = some c'->∃ z,w.cell? ⟨b,off+i * bD P T+k,none⟩=some z/\VC P E ρ c' z:=by
 obtain ⟨u',hk,hr⟩:=h;obtain ⟨ht,bK,VV,a,cap,rfl,aqH,N7,_⟩:=hk.mD;cases a with
 | none=>
  have:=hr.jr;subst this;refine ⟨none,cap,rfl,fun i hi=>?_⟩;rcases N7 with ⟨_,h0⟩ | ⟨b,off,r,e,_⟩
  ·omega
  ·simp at e
 | some a=>
  obtain ⟨Gn,Hj,lc,a',c',hl,uR,K6,pM,rfl⟩:=hr.na;refine ⟨some a',c',rfl,fun i hi=>?_⟩;rcases N7 with ⟨e,_⟩ | ⟨b,off,r,e,hz,fZ,awP⟩
  ·simp at e
  ·simp only [di] at e
   subst e;have hQ:=hj.k.z b r hz;obtain ⟨l,uz,ok⟩:=hj.s.rel.row _ _ _ _ _ hQ;rw [hl] at uz;have:=Option.some.inj uz;subst this;have hi' : i < es.length:=by have:=ht.len; omega
   refine ⟨lc.cb,lc.eB+off,by rw [K6 (by omega)],ok.pG,fun k c1 hc1=>?_⟩;have hg:es[i]? = some (acc i):=by
    rw [ht.acc i (by omega),iL,dr hi'];rfl
   obtain ⟨y,hy,hvy⟩:=VV.get hg;have hkn:=(jz (kv ht.typed hg)).2;obtain ⟨hys,hyc⟩:=awP i y hy;obtain ⟨z,hz1,Il⟩:=(hvy.cells hkn).get hc1;have:=hyc k z (by simpa using hz1);obtain ⟨z',q1,q2,_⟩:=ok.cells _ z this;exact ⟨z',by rw [show lc.eB+off+i * bD P T+k=lc.eB+(off+i * bD P T+k) by omega]; exact q1,z,Il,q2⟩
end Go.K
end
section
namespace Go.K
open Go Go.aB
variable {P:Program} {E:Env}
def Trie.aoq {α β:Type} (f:α->β):Trie α->Trie β
 | .leaf=>.leaf
 | .node v l r=>.node (v.map f) (Trie.aoq f l) (Trie.aoq f r)
theorem Trie.abu {α β:Type} (f:α->β):∀ (t:Trie α) (n:Nat),(Trie.aoq f t).get n=(t.get n).map f
 | .leaf,n=>rfl
 | .node v l r,n=>by
  rw [Trie.get_eq,Trie.get_eq];cases n with
  | zero=>rfl
  | succ m=>
   have hl:=Trie.abu f l (Nat.div m 2);have hr:=Trie.abu f r (Nat.div m 2);rw [Trie.get_eq,Trie.get_eq] at hl hr;simp only [Trie.aoq,Trie.CJ];cases Nat.beq (Nat.mod m 2) 0 with
   | true=>exact hl
   | false=>exact hr
def cO.still:cO->cO
 | .row cs cg _ _=>.row cs cg false none
 | _=>.dead
def St.still (B:St):St:=⟨Trie.aoq cO.still B.heap,B.next,0,.leaf⟩
theorem St.ahD (B:St) (b:Nat):(St.still B).get b=(B.get b).map cO.still:=Trie.abu _ _ _
theorem St.apX (B:St) (g:Nat):(St.still B).members g = []:=rfl
def Env.still (E:Env):Env:={ κ:=fun _=>Option.none,z:=fun b=>(E.z b).map fun r=>{ r with own:=false,cp:=Option.none },φ:=fun _=>Option.none,α:=fun _=>Option.none }
theorem Env.ast (E:Env):ZLe E E.still:=fun b r e=>⟨{ r with own:=false,cp:=Option.none },by simp [Env.still,e],rfl,rfl⟩
theorem St.WD {B:St} {b:Nat} {o:cO} (h:(St.still B).get b=some o) (hd:o≠.dead):∃ cs cg own cp,B.get b=some (.row cs cg own cp)/\o = .row cs cg false none:=by
 rw [St.ahD] at h;cases hb:B.get b with
 | none=>rw [hb] at h; simp at h
 | some x=>
  rw [hb] at h;have h:some (cO.still x)=some o:=h;have h:=Option.some.inj h;cases x <;> first
   | exact ⟨_,_,_,_,rfl,h.symm⟩
   | exact absurd h.symm hd
theorem St.adb {B:St} {b:Nat} {o:cO} (h:(St.still B).get b=some o):o.gf=false:=by
 by_cases hd:o = .dead
 ·subst hd; rfl
 ·obtain ⟨_,_,_,_,_,rfl⟩:=St.WD h hd
  rfl
theorem St.apY {B:St} {b:Nat} {o:cO} (h:(St.still B).get b=some o):o.nD=none:=by
 by_cases hd:o = .dead
 ·subst hd; rfl
 ·obtain ⟨_,_,_,_,_,rfl⟩:=St.WD h hd
  rfl
theorem vD.still {ρ:Ren} {B:St} {base:Nat} {w:World} (h:vD ρ B base w):vD ρ (St.still B) w.heap.size w:=by
 refine ⟨.Hi (fun b o hg hd=>?_) (fun b1 b2 o1 o2 l1 l2 _ h1 _ hm=>?_) (fun b o bA f hg hk=>?_),h.lW,aU _,h.JQ⟩
 ·obtain ⟨cs,cg,own,cp,e,rfl⟩:=St.WD hg hd
  obtain ⟨l,e2,ok⟩:=h.rel.row _ _ _ _ _ e;refine ⟨l,e2,?_⟩;exact ⟨ok.cells,fun _=>ok.pG,fun e=>by simp at e,fun e=>by simp at e,ok.fits,fun e=>by simp at e,ok.cg,ok.pG,fun e=>by simp at e⟩
 ·rw [St.adb h1] at hm; simp at hm
 ·rw [St.apY hg] at hk; simp at hk
theorem fX.still {A:aw} {B:St} (h:fX P E A B):fX P E.still .empty (St.still B) where
 row b cs cg hb:=by simp [aw.empty,aw.get] at hb
 bA b top sz hb:=by simp [aw.empty,aw.get] at hb
 z b r e:=by
  simp only [Env.still,cS] at e;obtain ⟨r0,e,rfl⟩:=e;rw [St.ahD,h.z b r0 e];rfl
 apart b x e:=by simp [Env.still] at e
 inj b c x e:=by simp [Env.still] at e
 kR b c g _ _ _ _ _ _ e:=by simp [Env.still] at e
 lW b x e:=by simp [Env.still] at e
 nS b g e:=by simp [Env.still] at e
 live b o hb:=by simp [aw.empty,aw.get] at hb
 iW b x e:=by simp [Env.still] at e
 nT b r e:=by
  simp only [Env.still,cS] at e;obtain ⟨r0,e,rfl⟩:=e;exact h.nT b r0 e
 lu b g e:=by simp [Env.still] at e
 fresh g _:=rfl
 mem g x hx:=by rw [St.apX] at hx; simp at hx
 ar:=by
  have hn:∀ b v,¬ aw.empty.get b=some (.arr v):=fun b v hb=>by simp [aw.empty,aw.get] at hb
  exact ⟨fun b v hb=>(hn b v hb).elim,fun b v hb=>by simp [aw.empty,aw.get] at hb,fun x ⟨b,v,_,_,hb,_⟩=>(hn b v hb).elim,fun b c v u x L N L' N' hb=>(hn b v hb).elim,fun b c v u x y L N L' N' cs e own g k cu e' rJ k' hb=>(hn b v hb).elim,fun b x e=>by simp [Env.still] at e,fun b p e=>by simp [Env.still] at e,fun b x L N e=>by simp [Env.still] at e,fun b v x L N cs e own g k hb=>(hn b v hb).elim,fun b v hb=>(hn b v hb).elim⟩
theorem ade {A:aw} {B:St} {ρ:Ren} {base:Nat} {w W:World} (hj:KJ P E A B ρ base w) (hw:RowKit.Below w.heap.size w W) {g:FuncId} {F:List KV->KR KV} (hpu:bH P g F) {args:List KV} {v:KV} {ib:List Value}
  (hF:bf (F (normArgs P (aG P g) (normArgs P (aG P g) args))) v) (hlen:args.length=(aG P g).length) (hv:ui P E ρ args ib) :
  Calls P g ib.toArray W fun e W'=>∃ v' E' bd,e = .returned v'/\VC P E' bd v v'/\RowKit.Below W.heap.size W W':=by
 have hs:=vD.still (l8.below hj.s hw).kC;obtain ⟨m,h1,h2⟩:=hv;have Ij:ui P E.still ρ (normArgs P (aG P g) args) ib:=⟨m,bC.Q1 (Env.ast E) h1 hlen,h2⟩
 obtain ⟨_,mX⟩:=hpu _ v hF (Mz hlen);refine (mX E.still .empty (St.still B) ρ W.heap.size W ib Ij ⟨hj.k.still,hs⟩).mono ?_;rintro e W' ⟨v',E',B',bd,rfl,q1,q2⟩;refine ⟨v',E',bd,rfl,q1,?_⟩;have k:=q2.gP.kept;refine ⟨k.os,k.tape,k.output,k.size,fun j hj=>k.block j hj ?_⟩;rintro ⟨b,o,l,ho,hm,_⟩;rw [St.adb ho] at hm;simp at hm
theorem Zj {g:FuncId} {R:Type} [Inhabited R] {k:R->KV} {r:List KV->Option R} {aw9:List KV} {x:R} (ha:ma P (aG P g) aw9=true) (hr:r aw9=some x):bf (bI P g (bL k r) aw9) (k x):=by
 unfold bI bL;rw [ha,hr];exact ⟨rfl,rfl⟩
theorem VC.cU {ρ:Ren} {k:IntKind} {n:Int} {v:Value} (h:VC P E ρ (.int k n) v):v = .int k n:=by
 obtain ⟨u,h1,h2⟩:=h;have h1:u = .int k n:=by simpa [VK] using h1
 subst h1;exact h2.cU
theorem ui.Zk {ρ:Ren} {c:KV} {cs:List KV} {l:List Value} (h:ui P E ρ (c::cs) l):∃ x xs,l=x::xs/\VC P E ρ c x/\ui P E ρ cs xs:=by
 obtain ⟨m,h1,h2⟩:=h;obtain ⟨y,ys,rfl,h3,h4⟩:=h1.cons_inv;obtain ⟨z,zs,rfl,h5,h6⟩:=h2.cons_inv;exact ⟨z,zs,rfl,⟨y,h3,h5⟩,⟨ys,h4,h6⟩⟩
theorem ui.amk {ρ:Ren} {l:List Value} (h:ui P E ρ [] l):l = []:=by
 obtain ⟨m,h1,h2⟩:=h;rw [h1.cw] at h2;exact h2.cw
theorem ui.M7 {ρ:Ren} {c:KV} {cs:List KV} {x:Value} {xs:List Value} (h:VC P E ρ c x) (h' : ui P E ρ cs xs):ui P E ρ (c::cs) (x::xs):=by
 obtain ⟨y,h1,h2⟩:=h;obtain ⟨ys,h3,h4⟩:=h';exact ⟨y::ys,.cons h1 h3,.cons h2 h4⟩
theorem ui.afb {ρ:Ren} : ui P E ρ [] []:=⟨[],.nil,.nil⟩
theorem VC.arI {ρ:Ren} {cs:List KV} {xs:List Value} (h:ui P E ρ cs xs):VC P E ρ (.agg cs) (.agg ⟨xs⟩):=by
 obtain ⟨ys,h3,h4⟩:=h;exact ⟨.agg ⟨ys⟩,by simp only [VK]; exact ⟨ys,rfl,h3⟩,by simp only [VR]; exact ⟨⟨xs⟩,by simpa [uy] using h4,rfl⟩⟩
end Go.K
end
section
set_option maxRecDepth 20000
namespace Go.Proofs.YtckbdndhmcoihaaGreat.nodes
open Go Go.RowKit Go.Lib Go.Shelf Go.K
abbrev hp (h:b.Handle):Int×Int:=(h.slot,h.gen)
structure ahE (q:G) (B:Nat) (W:World):Prop where
 kids:∀ i,i < q.kn->∃ b off,q.ka=some ⟨b,off,none⟩/\b < B/\W.cell? ⟨b,off+i,none⟩=some (.slice (q.ia i) (q.im i) (q.ic i))
 row:∀ i,i < q.kn->∀ k,k < q.im i->∃ b off,q.ia i=some ⟨b,off,none⟩/\b < B/\W.cell? ⟨b,off+k * 2,none⟩=some (.int .i64 (q.pP i k).1)/\W.cell? ⟨b,off+k * 2+1,none⟩=some (.int .i64 (q.pP i k).2)
theorem ahE.with {q:G} {B:Nat} {W:World} (h:ahE q B W) (hs:∀ i,i < q.kn->q.im i<=1000000):GAt q B W:=⟨h.kids,hs,h.row⟩
theorem ahE.ik {q:G} {B mb:Nat} {W W' : World} (h:ahE q B W) (k:Kp mb W W') (hB:B<=W.heap.size) (hm:B<=mb):ahE q B W':=by
 refine ⟨fun i hi=>?_,fun i hi j hj=>?_⟩
 ·obtain ⟨b,off,h1,h2,h3⟩:=h.kids i hi
  exact ⟨b,off,h1,h2,by rw [k.cell (by omega) (by omega)]; exact h3⟩
 ·obtain ⟨b,off,h1,h2,h3,h4⟩:=h.row i hi j hj
  exact ⟨b,off,h1,h2,by rw [k.cell (by omega) (by omega)]; exact h3,by rw [k.cell (by omega) (by omega)]; exact h4⟩
structure Of (q:G) (g:b.dG) (B:Nat) (W:World):Prop where
 sn:q.sn=g.ca.bJ.n
 kn:q.kn=g.kids.n
 im:∀ i,q.im i=(g.kids.get i).n
 pP:∀ i k,q.pP i k=hp ((g.kids.get i).get k)
 slot:∀ i,i < q.sn->∃ b off,q.sa=some ⟨b,off,none⟩/\b < B/\W.cell? ⟨b,off+i * 2,none⟩=some (.int .i64 (g.ca.bJ.get i).gen)/\W.cell? ⟨b,off+i * 2+1,none⟩=some (.bool (g.ca.bJ.get i).live)
theorem Of.ik {q:G} {g:b.dG} {B mb:Nat} {W W' : World} (h:Of q g B W) (k:Kp mb W W') (hB:B<=W.heap.size) (hm:B<=mb):Of q g B W':=by
 refine ⟨h.sn,h.kn,h.im,h.pP,fun i hi=>?_⟩;obtain ⟨b,off,h1,h2,h3,h4⟩:=h.slot i hi;exact ⟨b,off,h1,h2,by rw [k.cell (by omega) (by omega)]; exact h3,by rw [k.cell (by omega) (by omega)]; exact h4⟩
theorem awQ:bD Tryz.prog 35=1:=by kernel_rfl
theorem awR:bD Tryz.prog 32=2:=by kernel_rfl
theorem avQ:bD Tryz.prog 111=2:=by kernel_rfl
theorem asu {E:Env} {A:aw} {B:aB.St} {ρ:aB.Ren} {base:Nat} {w:World} {g:b.dG} {u:Value} (hj:KJ Tryz.prog E A B ρ base w) (h:VC Tryz.prog E ρ (b.pf g) u) :
  ∃ q:G,u=gv q/\ahE q w.heap.size w/\Of q g w.heap.size w/\VC Tryz.prog E ρ (b.jg g.ca) (.agg #[.slice q.sa q.sn q.sc]):=by
 obtain ⟨l,rfl,hl⟩:=h.auJ;obtain ⟨x,xs,rfl,h1,nj⟩:=hl.Zk;obtain ⟨y,ys,rfl,h2,hl3⟩:=nj.Zk;obtain rfl:=hl3.amk;obtain ⟨sa,sc,rfl,H1⟩:=abt hj h1;obtain ⟨ka,kc,rfl,H2⟩:=abt hj h2;have H3:∀ i,∃ p:Option Addr×Nat,i < g.kids.n->(∃ b off,ka=some ⟨b,off,none⟩/\b < w.heap.size/\w.cell? ⟨b,off+i,none⟩=some (.slice p.1 (g.kids.get i).n p.2))/\
   ∀ k,k < (g.kids.get i).n->∃ b off,p.1=some ⟨b,off,none⟩/\b < w.heap.size/\w.cell? ⟨b,off+k * 2,none⟩=some (.int .i64 ((g.kids.get i).get k).slot)/\w.cell? ⟨b,off+k * 2+1,none⟩=some (.int .i64 ((g.kids.get i).get k).gen):=by
  intro i;by_cases hi:i < g.kids.n
  ·obtain ⟨bb,off,e1,e2,e3⟩:=H2 i hi
   obtain ⟨z,z1,z2⟩:=e3 0 (eA 32 b.dL (g.kids.get i)) rfl;obtain ⟨a,c,rfl,H⟩:=abt hj z2;rw [awQ] at z1;refine ⟨(a,c),fun _=>⟨⟨bb,off,e1,e2,by rw [show off+i=off+i * 1+0 by omega]; exact z1⟩,fun k hk=>?_⟩⟩;obtain ⟨bc,awS,r1,r2,r3⟩:=H k hk;obtain ⟨z,s1,s2⟩:=r3 0 (.int .i64 ((g.kids.get i).get k).slot) rfl;obtain ⟨z',t1,t2⟩:=r3 1 (.int .i64 ((g.kids.get i).get k).gen) rfl;rw [awR] at s1 t1;rw [s2.cU] at s1;rw [t2.cU] at t1;exact ⟨bc,awS,r1,r2,s1,t1⟩
  ·exact ⟨(none,0),fun h=>absurd h hi⟩
 obtain ⟨f,hf⟩:=Classical.axiomOfChoice H3;refine ⟨⟨sa,g.ca.bJ.n,sc,ka,g.kids.n,kc,fun i=>(f i).1,fun i=>(g.kids.get i).n,fun i=>(f i).2,fun i k=>hp ((g.kids.get i).get k)⟩,rfl,⟨fun i hi=>(hf i hi).1,fun i hi k hk=>(hf i hi).2 k hk⟩,⟨rfl,rfl,fun _=>rfl,fun _ _=>rfl,fun i hi=>?_⟩,.arI (.M7 h1 .afb)⟩;obtain ⟨bb,off,e1,e2,e3⟩:=H1 i hi;obtain ⟨z,s1,s2⟩:=e3 0 (.int .i64 (g.ca.bJ.get i).gen) rfl;obtain ⟨z',t1,t2⟩:=e3 1 (.bool (g.ca.bJ.get i).live) rfl;rw [avQ] at s1 t1;rw [s2.cU] at s1;rw [t2.gi] at t1;exact ⟨bb,off,e1,e2,s1,t1⟩
theorem aor {E:Env} {A:aw} {B:aB.St} {ρ:aB.Ren} {base:Nat} {w W:World} (hj:KJ Tryz.prog E A B ρ base w) (hw:Below w.heap.size w W) {a:b.jI} {x:Value} (hx:VC Tryz.prog E ρ (b.jg a) x) {n:Int} (hn:b.fB a=some n) :
  Calls Tryz.prog 120 #[x] W fun e W'=>e = .returned (.int .i64 n)/\Below W.heap.size W W':=by
 have ep:aG Tryz.prog 120 = [24]:=by kernel_rfl
 have en:normArgs Tryz.prog (aG Tryz.prog 120) (normArgs Tryz.prog (aG Tryz.prog 120) [b.jg a]) = [b.jg a]:=by rw [ep]; kernel_rfl
 refine (ade hj hw b.J7 (args:=[b.jg a]) (v:=kI .i64 n) (by rw [en]; exact Zj (by rw [ep]; kernel_rfl) hn) (by rw [ep]; rfl) (.M7 hx .afb)).mono ?_;rintro e W' ⟨v',E',bd,rfl,q1,q2⟩;exact ⟨by rw [q1.cU],q2⟩
theorem aos {E:Env} {A:aw} {B:aB.St} {ρ:aB.Ren} {base:Nat} {w W:World} (hj:KJ Tryz.prog E A B ρ base w) (hw:Below w.heap.size w W) {a:b.jI} {x:Value} (hx:VC Tryz.prog E ρ (b.jg a) x) {h:Int×Int} {r:Bool} (hn:b.eG a ⟨h.1,h.2⟩=some r) :
  Calls Tryz.prog 77 #[x,hv h] W fun e W'=>e = .returned (.bool r)/\Below W.heap.size W W':=by
 have ep:aG Tryz.prog 77 = [24,32]:=by kernel_rfl
 have en:normArgs Tryz.prog (aG Tryz.prog 77) (normArgs Tryz.prog (aG Tryz.prog 77) [b.jg a,b.dL ⟨h.1,h.2⟩]) = [b.jg a,b.dL ⟨h.1,h.2⟩]:=by rw [ep]; kernel_rfl
 have hh:VC Tryz.prog E ρ (b.dL ⟨h.1,h.2⟩) (hv h):=.arI (.M7 ⟨_,.mkInt,by simp [aB.VR]⟩ (.M7 ⟨_,.mkInt,by simp [aB.VR]⟩ .afb));refine (ade hj hw b.tN (args:=[b.jg a,b.dL ⟨h.1,h.2⟩]) (v:=kB r) (by rw [en]; exact Zj (by rw [ep]; kernel_rfl) hn) (by rw [ep]; rfl) (.M7 hx (.M7 hh .afb))).mono ?_;rintro e W' ⟨v',E',bd,rfl,q1,q2⟩;exact ⟨by rw [q1.gi],q2⟩
set_option maxHeartbeats 4000000 in
theorem rV {E:Env} {A:aw} {B:aB.St} {ρ:aB.Ren} {base:Nat} {w W:World} (hj:KJ Tryz.prog E A B ρ base w) (hw:Below w.heap.size w W) {a:b.jI} {q:G} (hx:VC Tryz.prog E ρ (b.jg a) (.agg #[.slice q.sa q.sn q.sc])) (h:Int×Int) {r:Bool} (hn:b.eG a ⟨h.1,h.2⟩=some r)
  {bg:Nat} (hbg:bg < W.heap.size) (c0:W.cell? ⟨bg,0,none⟩=some (.slice q.sa q.sn q.sc)) :
  Calls Tryz.prog 121 #[hv h,.pointer (some ⟨bg,0,none⟩)] W fun e W'=>e = .returned (.bool (!r))/\Below W.heap.size W W':=by
 have mixed:=HG;have t32:=Tryz.underlying32; have a32:=Tryz.isAgg32; have z32:=Tryz.sizeOf32; have v32:=Tryz.zeroValue32; have u32:=run_underlying Tryz.underlying32;have t27:=Tryz.underlying27; have a27:=Tryz.isAgg27; have z27:=Tryz.sizeOf27; have v27:=Tryz.zeroValue27; have u27:=run_underlying Tryz.underlying27;have t24:=Tryz.underlying24; have a24:=Tryz.isAgg24; have z24:=Tryz.sizeOf24; have v24:=Tryz.zeroValue24; have u24:=run_underlying Tryz.underlying24;have t22:=Tryz.underlying22; have a22:=Tryz.isAgg22; have z22:=Tryz.sizeOf22; have v22:=Tryz.zeroValue22; have u22:=run_underlying Tryz.underlying22;have t4:=Tryz.underlying4; have a4:=Tryz.isAgg4; have z4:=Tryz.sizeOf4; have v4:=Tryz.zeroValue4; have u4:=run_underlying Tryz.underlying4;have hc:=aos hj (W:=W.alloc (.cells #[.int .i64 h.1,.int .i64 h.2] 32)) (hw.alloc hw.size _) hx hn;have c1:(W.alloc (.cells #[.int .i64 h.1,.int .i64 h.2] 32)).cell? ⟨bg,0,none⟩=some (.slice q.sa q.sn q.sc):=((Kp.alloc (mb:=W.heap.size) W _).cell hbg (by omega)).trans c0
 go_enter Tryz.func121,Tryz.ntmps121
 go_wp2_with (go_at_call 77; refine hc.mono ?_; rintro e w' ⟨rfl,hk⟩)
 go_wp2
 go_ret
 exact ⟨rfl,(Below.refl _ _ |>.alloc (aU _) _).trans (hk.mono (by simp))⟩
set_option maxHeartbeats 4000000 in
theorem under (q:G) (B mb:Nat) (vv to:Int×Int) (U:List (Int×Int)) (hU:∀ u∈U,(0<=u.1/\u.1 < (q.kn:Int))/\∀ k,k < q.im u.1.toNat->q.pP u.1.toNat k∈U) (S:List (Int×Int)) (W:World)
  (hf:vv∈U) (hg:GAt q B W) (hB:B<=W.heap.size) (hm:B<=mb) (hM:MapAt mb W S) (ht:to ∉ S) {bg bs bt:Nat} (lg:bg < W.heap.size/\bg≠mb) (ls:bs < W.heap.size/\bs≠mb) (lt:bt < W.heap.size/\bt≠mb)
  (c0:W.cell? ⟨bg,0,none⟩=some (.slice q.sa q.sn q.sc)) (c1:W.cell? ⟨bg,1,none⟩=some (.slice q.ka q.kn q.kc)) (c2:W.cell? ⟨bs,0,none⟩=some (.map (some mb))) (c3:W.cell? ⟨bt,0,none⟩=some (.int .i64 to.1)) (c4:W.cell? ⟨bt,1,none⟩=some (.int .i64 to.2)) :
  Calls Tryz.prog 123 #[hv vv,.pointer (some ⟨bg,0,none⟩),.pointer (some ⟨bs,0,none⟩),.pointer (some ⟨bt,0,none⟩)] W fun e W'=>∃ S' r,e = .returned (.bool r)/\MapAt mb W' S'/\Kp mb W W'/\(r=true/\Reach q to vv\/r=false/\Grow q S vv S'/\to ∉ S'):=by
 have mixed:=HG;have t32:=Tryz.underlying32; have a32:=Tryz.isAgg32; have z32:=Tryz.sizeOf32; have v32:=Tryz.zeroValue32; have u32:=run_underlying Tryz.underlying32;have t27:=Tryz.underlying27; have a27:=Tryz.isAgg27; have z27:=Tryz.sizeOf27; have v27:=Tryz.zeroValue27; have u27:=run_underlying Tryz.underlying27;have t202:=Tryz.underlying202; have arF:=Tryz.isAgg202; have arG:=Tryz.sizeOf202; have arH:=Tryz.zeroValue202; have RH:=run_underlying Tryz.underlying202;have t4:=Tryz.underlying4; have a4:=Tryz.isAgg4; have z4:=Tryz.sizeOf4; have v4:=Tryz.zeroValue4; have u4:=run_underlying Tryz.underlying4;have hml:mb < W.heap.size:=by obtain ⟨es,c,h,_⟩:=hM; exact (vM.1 h).1
 have KA:=Kp.alloc (mb:=mb) W (.cells #[.int .i64 vv.1,.int .i64 vv.2] 32);have hM1:MapAt mb (W.alloc (.cells #[.int .i64 vv.1,.int .i64 vv.2] 32)) S:=by
  obtain ⟨es,c,h1,h2⟩:=hM;exact ⟨es,c,by rw [Below.heap_alloc _ _ _ hml]; exact h1,h2⟩
 have hc:=below q B mb vv to U hU S (W.alloc (.cells #[.int .i64 vv.1,.int .i64 vv.2] 32)) hf (hg.ik KA hB hm) (o9 hB KA.size) hm hM1 ht;have d0:=(KA.cell lg.1 lg.2).trans c0;have d1:=(KA.cell lg.1 lg.2).trans c1;have d2:=(KA.cell ls.1 ls.2).trans c2;have d3:=(KA.cell lt.1 lt.2).trans c3;have d4:=(KA.cell lt.1 lt.2).trans c4;obtain ⟨f1,f2⟩:=vv;obtain ⟨t1,t2⟩:=to
 go_enter Tryz.func123,Tryz.ntmps123
 go_wp2_with (go_at_call 124; refine hc.mono ?_; rintro e w' ⟨S',r,rfl,hr⟩)
 go_wp2
 go_ret
 exact ⟨S',r,rfl,hr.1,KA.trans hr.2.1,hr.2.2⟩
theorem RJ {q:G} {to:Int×Int} {S:List (Int×Int)} (hS:∀ x∈S,∀ k,k < q.im x.1.toNat->q.pP x.1.toNat k∈S) (ht:to ∉ S):∀ {x:Int×Int},Reach q to x->x ∉ S
 | _,.here=>ht
 | _,.pP h k hk r=>fun hm=>RJ hS ht r (hS h hm k hk)
theorem Grow.closed {q:G} {S S' : List (Int×Int)} {h:Int×Int} (g:Grow q S h S') (hS:∀ x∈S,∀ k,k < q.im x.1.toNat->q.pP x.1.toNat k∈S):∀ x∈S',∀ k,k < q.im x.1.toNat->q.pP x.1.toNat k∈S':=fun x hx k hk=>
 (g.new x hx).elim (fun h1=>g.sub _ (hS x h1 k hk)) fun h1=>h1 k hk
theorem apZ {W:World} {mb:Nat} {es:Array MapEntry} {clock:Nat} (hm:W.heap[mb]? = some (.map es clock)) :
  (Builtin.clear_ #[202] 0 #[.map (some mb)]).run Tryz.prog W = .ok (.tuple #[]) (put W mb (.map #[] clock)):=by
 have RH:=run_underlying Tryz.underlying202;simp [Builtin.clear_,RH,MapKept.run_getObj_map hm,MapKept.run_setObj_map _ hm,Result.andThen];rfl
theorem run_make (W:World):(Instr.makeMap 202 none).run Tryz.prog W = .ok (.map (some W.heap.size)) (W.alloc (.map #[] 0)):=by
 have RH:=run_underlying Tryz.underlying202;simp [Instr.makeMap,Result.andThen,newObj,Sem.run]
 try rfl
set_option maxHeartbeats 4000000 in
theorem reaches (q:G) (B:Nat) (vv to:Int×Int) (U:List (Int×Int)) (hU:∀ u∈U,(0<=u.1/\u.1 < (q.kn:Int))/\∀ k,k < q.im u.1.toNat->q.pP u.1.toNat k∈U) (W:World)
  (hf:vv∈U) (hg:GAt q B W) (hB:B<=W.heap.size) :
  Calls Tryz.prog 214 #[gv q,hv vv,hv to] W fun e W'=>∃ r,e = .returned (.bool r)/\Below W.heap.size W W'/\(r=true↔Reach q to vv):=by
 have mixed:=HG;have t32:=Tryz.underlying32; have a32:=Tryz.isAgg32; have z32:=Tryz.sizeOf32; have v32:=Tryz.zeroValue32; have u32:=run_underlying Tryz.underlying32;have t27:=Tryz.underlying27; have a27:=Tryz.isAgg27; have z27:=Tryz.sizeOf27; have v27:=Tryz.zeroValue27; have u27:=run_underlying Tryz.underlying27;have t202:=Tryz.underlying202; have arF:=Tryz.isAgg202; have arG:=Tryz.sizeOf202; have arH:=Tryz.zeroValue202; have RH:=run_underlying Tryz.underlying202;have t4:=Tryz.underlying4; have a4:=Tryz.isAgg4; have z4:=Tryz.sizeOf4; have v4:=Tryz.zeroValue4; have u4:=run_underlying Tryz.underlying4;have XV:=run_make;have RI:Calls Tryz.prog 124 #[gv q,.map (some (W.heap.size+1+1+1)),hv vv,hv to] ((((W.alloc (.cells #[.slice q.sa q.sn q.sc,.slice q.ka q.kn q.kc] 27)).alloc (.cells #[.int .i64 vv.1,.int .i64 vv.2] 32)).alloc (.cells #[.int .i64 to.1,.int .i64 to.2] 32)).alloc (.map #[] 0))
   fun e W'=>∃ r,e = .returned (.bool r)/\Below W.heap.size W W'/\(r=true↔Reach q to vv):=by
  have K1:=((((Kp.alloc (mb:=W.heap.size+1+1+1) W (.cells #[.slice q.sa q.sn q.sc,.slice q.ka q.kn q.kc] 27)).trans (Kp.alloc _ (.cells #[.int .i64 vv.1,.int .i64 vv.2] 32))).trans (Kp.alloc _ (.cells #[.int .i64 to.1,.int .i64 to.2] 32))).trans (Kp.alloc _ (.map #[] 0)))
  refine (below q B (W.heap.size+1+1+1) vv to U hU [] _ hf (hg.ik K1 hB (by omega)) (o9 hB K1.size) (by omega) ⟨#[],0,Kw _ _ _ (by simp),abq⟩ (by simp)).mono ?_;rintro e W' ⟨S',r,rfl,_,k2,hr⟩;refine ⟨r,rfl,(K1.trans k2).below (aU _) (by omega),?_⟩;rcases hr with ⟨rfl,hr⟩ | ⟨rfl,hg,hn⟩
  ·exact ⟨fun _=>hr,fun _=>rfl⟩
  ·exact ⟨fun h=>by simp at h,fun h=>(RJ (hg.closed (by simp)) hn h hg.is).elim⟩
 obtain ⟨f1,f2⟩:=vv;obtain ⟨t1,t2⟩:=to
 go_enter Tryz.func214,Tryz.ntmps214
 go_wp2_with (go_at_call 124; refine RI.mono ?_; rintro e w' ⟨r,rfl,hr⟩)
 go_wp2
 go_ret
 exact ⟨r,rfl,hr⟩
end Go.Proofs.YtckbdndhmcoihaaGreat.nodes
end
