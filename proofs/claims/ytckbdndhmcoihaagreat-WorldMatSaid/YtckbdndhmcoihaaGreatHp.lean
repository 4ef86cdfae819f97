/- Part of the proof of WorldMat: the machine, shown to be the model's, and plain models. No conditions. -/
import Derived.Test.YtckbdndhmcoihaaGreatGp
import Derived.Test.YtckbdndhmcoihaaGreatProg
import Derived.WalkKit
import Derived.Lib.Walk
import Derived.Lib.SliceRun
import Derived.Shelf.SlicesQ.Load
import Derived.Shelf.GgClosure.Gives
import Derived.MapKept
import Derived.Deep.RegionWith
import Derived.Laws.EntriesVeiled
set_option linter.unusedSimpArgs false
set_option linter.unusedVariables false
section
namespace Go.Proofs.YtckbdndhmcoihaaGreat.b
open Go.K
noncomputable section
def F1:List (Nat×(List KV->KR KV)):=[]
def F2:List Lp:=[]
theorem Oz:ah Tryz.prog F1:=ah.nil
theorem OA:au Tryz.prog F2:=au.nil
def oa (l:iq):Option (Int):=(cond (decide (l.cN < (-(1:Int)))) (some ((8:Int))) (cond (decide (l.cN >= (16:Int))) (some ((8:Int))) (cond (decide (l.ly > (2:Int))) (some ((8:Int))) (cond (decide (l.jV < (-(1024:Int)))) (some ((8:Int))) (cond (decide (l.jV > (1024:Int))) (some ((8:Int))) (cond (decide (l.bin < (0:Int))) (some ((8:Int))) (cond (decide (l.bin > (15:Int))) (some ((8:Int))) (some ((0:Int))))))))))
theorem P2 (l:iq):cD Tryz.prog (bp Tryz.prog F1 F2 (fun _=>false)) 9 9 137 [wc l] = (oa l).map (kI .i64):=by
 unfold oa
 try simp only [bq]
 kernel_rfl
def AA:List KV->KR KV:=bI Tryz.prog 137 (bL (kI .i64) fun vs=>oa (o4 (vs.getD 0 .ao)))
theorem OB (w:Nat->KV):ck Tryz.prog [60] w 0 = [wc (o4 (ax Tryz.prog (ai Tryz.prog aj) 60 (w 0)))]:=by kernel_rfl
theorem Dn:bH Tryz.prog 137 AA:=aL funcs mixed Oz OA (L:=9) (n:=9) fun w=>by
 have e:aG Tryz.prog 137 = [60]:=by kernel_rfl
 rw [e,OB]
 exact (P2 (o4 (ax Tryz.prog (ai Tryz.prog aj) 60 (w 0)))).trans (by kernel_rfl)
structure aQ where
 t2:Int
 t7:Int
 s:gM
 said:iq
instance:Inhabited aQ:=⟨⟨default,default,default,default⟩⟩
def uG (x:aQ):List KV:=[.int .i64 x.t2,.agg [.fn (.func 183) [] [],.fn (.func 184) [] [],.fn (.func 185) [] [],.fn (.func 186) [] [],.fn (.func 187) [] []],.int .i64 x.t7]
def uH (x:aQ):List (List KV):=[al1 x.s,atW x.said]
def G2 (vs:List KV) (rs:List (List KV)):aQ:=⟨ay (vs.getD 0 .ao),ay (vs.getD 2 .ao),al2 (fun k=>(rs.getD 0 []).getD k .ao),atX (fun k=>(rs.getD 1 []).getD k .ao)⟩
def I5:aV:=⟨[(2,⟨false,[.k (.int .i64)]⟩),(6,⟨true,[.lit (.fn (.func 183) [] []),.lit (.fn (.func 184) [] []),.lit (.fn (.func 185) [] []),.lit (.fn (.func 186) [] []),.lit (.fn (.func 187) [] [])]⟩),(7,⟨false,[.k (.int .i64)]⟩)],[(1,[.k (.int .u8),.k (.int .u8),.k (.int .u8),.k (.int .u8),.k (.int .u8),.k (.int .u8),.k (.int .u8),.k (.int .u8),.k (.int .u8),.k (.int .i64),.k (.int .u8),.k (.int .i64),.k .bool,.k (.int .i64)],1),(3,[.k (.int .u8),.k (.int .u8),.k (.int .u8),.k (.int .u8),.k (.int .i64),.k (.int .u8),.k (.int .i64),.k .bool,.k (.int .i64)],1)],[(1,0,0),(3,1,0)]⟩
def Tp:=dB Tryz.prog (bp Tryz.prog [(137,AA)] [] (fun _=>false)) 9 9 80 58 (dF Tryz.prog 80 58) I5
def bQ (x:aQ):aW aQ:=(cond (x.t7==(0:Int)) (cond (x.s.bN.e0==(0:Int)) (.next (⟨x.t2,(aR ((0:Int)+(1:Int))),x.s,x.said⟩:aQ)) (cond (x.s.bN.e0==(1:Int)) (.next (⟨x.t2,(aR ((0:Int)+(1:Int))),x.s,(⟨x.s.look.color,x.said.cN,x.said.ly,x.said.jV,x.said.ff,x.said.bin⟩:iq)⟩:aQ)) (cond (x.s.bN.e0==(3:Int)) (.next (⟨x.t2,(aR ((0:Int)+(1:Int))),x.s,(⟨x.s.look.color,x.said.cN,x.said.ly,x.said.jV,x.said.ff,x.said.bin⟩:iq)⟩:aQ)) (cond (x.s.bN.e0==(5:Int)) (.next (⟨x.t2,(aR ((0:Int)+(1:Int))),x.s,(⟨x.s.look.color,x.said.cN,x.said.ly,x.said.jV,x.said.ff,x.said.bin⟩:iq)⟩:aQ)) (cond (x.s.bN.e0==(7:Int)) (.next (⟨x.t2,(aR ((0:Int)+(1:Int))),x.s,(⟨x.s.look.color,x.said.cN,x.said.ly,x.said.jV,x.said.ff,x.said.bin⟩:iq)⟩:aQ)) (.out aB.ae.ret (⟨(8:Int),(0:Int),x.s,x.said⟩:aQ))))))) (cond (x.t7==(1:Int)) (cond (x.s.bN.e1==(0:Int)) (.next (⟨x.t2,(aR ((1:Int)+(1:Int))),x.s,x.said⟩:aQ)) (cond (x.s.bN.e1==(1:Int)) (.next (⟨x.t2,(aR ((1:Int)+(1:Int))),x.s,(⟨x.said.color,x.s.look.cN,x.said.ly,x.said.jV,x.said.ff,x.said.bin⟩:iq)⟩:aQ)) (cond (x.s.bN.e1==(3:Int)) (.next (⟨x.t2,(aR ((1:Int)+(1:Int))),x.s,(⟨x.said.color,x.s.look.cN,x.said.ly,x.said.jV,x.said.ff,x.said.bin⟩:iq)⟩:aQ)) (cond (x.s.bN.e1==(5:Int)) (.next (⟨x.t2,(aR ((1:Int)+(1:Int))),x.s,(⟨x.said.color,x.s.look.cN,x.said.ly,x.said.jV,x.said.ff,x.said.bin⟩:iq)⟩:aQ)) (cond (x.s.bN.e1==(7:Int)) (.next (⟨x.t2,(aR ((1:Int)+(1:Int))),x.s,(⟨x.said.color,x.s.look.cN,x.said.ly,x.said.jV,x.said.ff,x.said.bin⟩:iq)⟩:aQ)) (.out aB.ae.ret (⟨(8:Int),(1:Int),x.s,x.said⟩:aQ))))))) (cond (x.t7==(2:Int)) (cond (x.s.bN.e2==(0:Int)) (.next (⟨x.t2,(aR ((2:Int)+(1:Int))),x.s,x.said⟩:aQ)) (cond (x.s.bN.e2==(1:Int)) (.next (⟨x.t2,(aR ((2:Int)+(1:Int))),x.s,(⟨x.said.color,x.said.cN,x.s.look.ly,x.said.jV,x.said.ff,x.said.bin⟩:iq)⟩:aQ)) (cond (x.s.bN.e2==(3:Int)) (.next (⟨x.t2,(aR ((2:Int)+(1:Int))),x.s,(⟨x.said.color,x.said.cN,x.s.look.ly,x.said.jV,x.said.ff,x.said.bin⟩:iq)⟩:aQ)) (cond (x.s.bN.e2==(5:Int)) (.next (⟨x.t2,(aR ((2:Int)+(1:Int))),x.s,(⟨x.said.color,x.said.cN,x.s.look.ly,x.said.jV,x.said.ff,x.said.bin⟩:iq)⟩:aQ)) (cond (x.s.bN.e2==(7:Int)) (.next (⟨x.t2,(aR ((2:Int)+(1:Int))),x.s,(⟨x.said.color,x.said.cN,x.s.look.ly,x.said.jV,x.said.ff,x.said.bin⟩:iq)⟩:aQ)) (.out aB.ae.ret (⟨(8:Int),(2:Int),x.s,x.said⟩:aQ))))))) (cond (x.t7==(3:Int)) (cond (x.s.bN.e3==(0:Int)) (.next (⟨x.t2,(aR ((3:Int)+(1:Int))),x.s,x.said⟩:aQ)) (cond (x.s.bN.e3==(1:Int)) (.next (⟨x.t2,(aR ((3:Int)+(1:Int))),x.s,(⟨x.said.color,x.said.cN,x.said.ly,x.s.look.jV,x.said.ff,x.said.bin⟩:iq)⟩:aQ)) (cond (x.s.bN.e3==(3:Int)) (.next (⟨x.t2,(aR ((3:Int)+(1:Int))),x.s,(⟨x.said.color,x.said.cN,x.said.ly,x.s.look.jV,x.said.ff,x.said.bin⟩:iq)⟩:aQ)) (cond (x.s.bN.e3==(5:Int)) (.next (⟨x.t2,(aR ((3:Int)+(1:Int))),x.s,(⟨x.said.color,x.said.cN,x.said.ly,x.s.look.jV,x.said.ff,x.said.bin⟩:iq)⟩:aQ)) (cond (x.s.bN.e3==(7:Int)) (.next (⟨x.t2,(aR ((3:Int)+(1:Int))),x.s,(⟨x.said.color,x.said.cN,x.said.ly,x.s.look.jV,x.said.ff,x.said.bin⟩:iq)⟩:aQ)) (.out aB.ae.ret (⟨(8:Int),(3:Int),x.s,x.said⟩:aQ))))))) (cond (x.t7==(4:Int)) (cond (x.s.bN.e4==(0:Int)) (.next (⟨x.t2,(aR ((4:Int)+(1:Int))),x.s,x.said⟩:aQ)) (cond (x.s.bN.e4==(1:Int)) (.next (⟨x.t2,(aR ((4:Int)+(1:Int))),x.s,(⟨x.said.color,x.said.cN,x.said.ly,x.said.jV,x.s.look.ff,x.s.look.bin⟩:iq)⟩:aQ)) (cond (x.s.bN.e4==(3:Int)) (.next (⟨x.t2,(aR ((4:Int)+(1:Int))),x.s,(⟨x.said.color,x.said.cN,x.said.ly,x.said.jV,x.s.look.ff,x.s.look.bin⟩:iq)⟩:aQ)) (cond (x.s.bN.e4==(5:Int)) (.next (⟨x.t2,(aR ((4:Int)+(1:Int))),x.s,(⟨x.said.color,x.said.cN,x.said.ly,x.said.jV,x.s.look.ff,x.s.look.bin⟩:iq)⟩:aQ)) (cond (x.s.bN.e4==(7:Int)) (.next (⟨x.t2,(aR ((4:Int)+(1:Int))),x.s,(⟨x.said.color,x.said.cN,x.said.ly,x.said.jV,x.s.look.ff,x.s.look.bin⟩:iq)⟩:aQ)) (.out aB.ae.ret (⟨(8:Int),(4:Int),x.s,x.said⟩:aQ))))))) (cond (x.t7==(5:Int)) (.out (aB.ae.exit 0) (⟨x.t2,(5:Int),x.s,x.said⟩:aQ)) .fail))))))
theorem P3 (x:aQ):bQ x = .fail\/Tp (uG x) (uH x)=aW.enc uG uH (bQ x):=by
 obtain ⟨t2,t7,s,said⟩:=x
 exact (aW.lit (fun h=>by subst h; (try simp only [aW.cf,db,dM,dY,dZ,eO,eP,eQ,eR,eN,dn,dW,dX,fj,fo,fp,fq,fv,fw,fk,dw,eY,eZ,gu,gx,gz,gA,gC,gD,gw,dK,fG,fH,gV,gX,gY,gZ,hD,hH,gW,eJ,oM,oO,qE,qG,qH,qI,qJ,qK,qF,mR,lH,lI,mK,mM,mN,mO,mP,mQ,mL,kM,qC,qD,tf,th,ti,tj,tl,tq,tg,oL,qA,qB,sZ,s6,s7,s9,ta,te,s5,oK,mI,mJ,oC,oE,oG,oH,oI,oJ,oD,lG,qy,qz,sR,sT,sU,sV,sX,sY,sS,oB,oz,oA,qp,qt,qu,qv,qw,qx,qq,mH,qn,qo,sJ,sL,sM,sN,sP,sQ,sK,oy,ow,ox,qg,qi,qj,qk,ql,qm,qh,mG,ou,ov,p9,qb,qc,qd,qe,qf,qa,mF,sH,sI,wS,wU,wV,wW,wX,wY,wT,p8,sF,sG,wL,wN,wO,wP,wQ,wR,wM,p0,jP,jQ,kD,kF,kG,kH,kJ,kK,kE,jl,jM,lk,oh,oj,om,oo,oq,ot,oi,lF,fL,fY,iJ,jd,jt,ju,jv,jw,eW,eX,gq,iI,gp,eV,dJ]); kernel_rfl) (aW.lit (fun h=>by subst h; (try simp only [aW.cf,db,dM,dY,dZ,eO,eP,eQ,eR,eN,dn,dW,dX,fj,fo,fp,fq,fv,fw,fk,dw,eY,eZ,gu,gx,gz,gA,gC,gD,gw,dK,fG,fH,gV,gX,gY,gZ,hD,hH,gW,eJ,oM,oO,qE,qG,qH,qI,qJ,qK,qF,mR,lH,lI,mK,mM,mN,mO,mP,mQ,mL,kM,qC,qD,tf,th,ti,tj,tl,tq,tg,oL,qA,qB,sZ,s6,s7,s9,ta,te,s5,oK,mI,mJ,oC,oE,oG,oH,oI,oJ,oD,lG,qy,qz,sR,sT,sU,sV,sX,sY,sS,oB,oz,oA,qp,qt,qu,qv,qw,qx,qq,mH,qn,qo,sJ,sL,sM,sN,sP,sQ,sK,oy,ow,ox,qg,qi,qj,qk,ql,qm,qh,mG,ou,ov,p9,qb,qc,qd,qe,qf,qa,mF,sH,sI,wS,wU,wV,wW,wX,wY,wT,p8,sF,sG,wL,wN,wO,wP,wQ,wR,wM,p0,jP,jQ,kD,kF,kG,kH,kJ,kK,kE,jl,jM,lk,oh,oj,om,oo,oq,ot,oi,lF,fL,fY,iJ,jd,jt,ju,jv,jw,eW,eX,gq,iI,gp,eV,dJ]); kernel_rfl) (aW.lit (fun h=>by subst h; (try simp only [aW.cf,db,dM,dY,dZ,eO,eP,eQ,eR,eN,dn,dW,dX,fj,fo,fp,fq,fv,fw,fk,dw,eY,eZ,gu,gx,gz,gA,gC,gD,gw,dK,fG,fH,gV,gX,gY,gZ,hD,hH,gW,eJ,oM,oO,qE,qG,qH,qI,qJ,qK,qF,mR,lH,lI,mK,mM,mN,mO,mP,mQ,mL,kM,qC,qD,tf,th,ti,tj,tl,tq,tg,oL,qA,qB,sZ,s6,s7,s9,ta,te,s5,oK,mI,mJ,oC,oE,oG,oH,oI,oJ,oD,lG,qy,qz,sR,sT,sU,sV,sX,sY,sS,oB,oz,oA,qp,qt,qu,qv,qw,qx,qq,mH,qn,qo,sJ,sL,sM,sN,sP,sQ,sK,oy,ow,ox,qg,qi,qj,qk,ql,qm,qh,mG,ou,ov,p9,qb,qc,qd,qe,qf,qa,mF,sH,sI,wS,wU,wV,wW,wX,wY,wT,p8,sF,sG,wL,wN,wO,wP,wQ,wR,wM,p0,jP,jQ,kD,kF,kG,kH,kJ,kK,kE,jl,jM,lk,oh,oj,om,oo,oq,ot,oi,lF,fL,fY,iJ,jd,jt,ju,jv,jw,eW,eX,gq,iI,gp,eV,dJ]); kernel_rfl) (aW.lit (fun h=>by subst h; (try simp only [aW.cf,db,dM,dY,dZ,eO,eP,eQ,eR,eN,dn,dW,dX,fj,fo,fp,fq,fv,fw,fk,dw,eY,eZ,gu,gx,gz,gA,gC,gD,gw,dK,fG,fH,gV,gX,gY,gZ,hD,hH,gW,eJ,oM,oO,qE,qG,qH,qI,qJ,qK,qF,mR,lH,lI,mK,mM,mN,mO,mP,mQ,mL,kM,qC,qD,tf,th,ti,tj,tl,tq,tg,oL,qA,qB,sZ,s6,s7,s9,ta,te,s5,oK,mI,mJ,oC,oE,oG,oH,oI,oJ,oD,lG,qy,qz,sR,sT,sU,sV,sX,sY,sS,oB,oz,oA,qp,qt,qu,qv,qw,qx,qq,mH,qn,qo,sJ,sL,sM,sN,sP,sQ,sK,oy,ow,ox,qg,qi,qj,qk,ql,qm,qh,mG,ou,ov,p9,qb,qc,qd,qe,qf,qa,mF,sH,sI,wS,wU,wV,wW,wX,wY,wT,p8,sF,sG,wL,wN,wO,wP,wQ,wR,wM,p0,jP,jQ,kD,kF,kG,kH,kJ,kK,kE,jl,jM,lk,oh,oj,om,oo,oq,ot,oi,lF,fL,fY,iJ,jd,jt,ju,jv,jw,eW,eX,gq,iI,gp,eV,dJ]); kernel_rfl) (aW.lit (fun h=>by subst h; (try simp only [aW.cf,db,dM,dY,dZ,eO,eP,eQ,eR,eN,dn,dW,dX,fj,fo,fp,fq,fv,fw,fk,dw,eY,eZ,gu,gx,gz,gA,gC,gD,gw,dK,fG,fH,gV,gX,gY,gZ,hD,hH,gW,eJ,oM,oO,qE,qG,qH,qI,qJ,qK,qF,mR,lH,lI,mK,mM,mN,mO,mP,mQ,mL,kM,qC,qD,tf,th,ti,tj,tl,tq,tg,oL,qA,qB,sZ,s6,s7,s9,ta,te,s5,oK,mI,mJ,oC,oE,oG,oH,oI,oJ,oD,lG,qy,qz,sR,sT,sU,sV,sX,sY,sS,oB,oz,oA,qp,qt,qu,qv,qw,qx,qq,mH,qn,qo,sJ,sL,sM,sN,sP,sQ,sK,oy,ow,ox,qg,qi,qj,qk,ql,qm,qh,mG,ou,ov,p9,qb,qc,qd,qe,qf,qa,mF,sH,sI,wS,wU,wV,wW,wX,wY,wT,p8,sF,sG,wL,wN,wO,wP,wQ,wR,wM,p0,jP,jQ,kD,kF,kG,kH,kJ,kK,kE,jl,jM,lk,oh,oj,om,oo,oq,ot,oi,lF,fL,fY,iJ,jd,jt,ju,jv,jw,eW,eX,gq,iI,gp,eV,dJ]); kernel_rfl) (aW.lit (fun h=>by subst h; (try simp only [aW.cf,db,dM,dY,dZ,eO,eP,eQ,eR,eN,dn,dW,dX,fj,fo,fp,fq,fv,fw,fk,dw,eY,eZ,gu,gx,gz,gA,gC,gD,gw,dK,fG,fH,gV,gX,gY,gZ,hD,hH,gW,eJ,oM,oO,qE,qG,qH,qI,qJ,qK,qF,mR,lH,lI,mK,mM,mN,mO,mP,mQ,mL,kM,qC,qD,tf,th,ti,tj,tl,tq,tg,oL,qA,qB,sZ,s6,s7,s9,ta,te,s5,oK,mI,mJ,oC,oE,oG,oH,oI,oJ,oD,lG,qy,qz,sR,sT,sU,sV,sX,sY,sS,oB,oz,oA,qp,qt,qu,qv,qw,qx,qq,mH,qn,qo,sJ,sL,sM,sN,sP,sQ,sK,oy,ow,ox,qg,qi,qj,qk,ql,qm,qh,mG,ou,ov,p9,qb,qc,qd,qe,qf,qa,mF,sH,sI,wS,wU,wV,wW,wX,wY,wT,p8,sF,sG,wL,wN,wO,wP,wQ,wR,wM,p0,jP,jQ,kD,kF,kG,kH,kJ,kK,kE,jl,jM,lk,oh,oj,om,oo,oq,ot,oi,lF,fL,fY,iJ,jd,jt,ju,jv,jw,eW,eX,gq,iI,gp,eV,dJ]); kernel_rfl) (.inl rfl)))))))
def wj:Lp:=⟨80,58,I5,fun vs rs=>dC uG uH (goN bQ (G2 vs rs)) [aB.ae.exit 0,aB.ae.ret],false⟩
theorem Tq:wj.Ok Tryz.prog:=Ym funcs mixed (ah.cons Dn ah.nil) au.nil (L:=9) (n:=9) (step:=bQ) (ev:=uG) (er:=uH) (pa:=G2) rfl (fun wv wr=>⟨by kernel_rfl,by kernel_rfl⟩) P3
theorem OC:bZ Tryz.prog wj.f wj.p=true:=by kernel_rfl
def MQ:List (Nat×(List KV->KR KV)):=[(137,AA)]
def MR:List Lp:=[wj]
theorem Wm:ah Tryz.prog MQ:=(ah.cons Dn ah.nil)
theorem Wn:au Tryz.prog MR:=(au.cons Tq OC au.nil)
def cF (s:gM):(aW aQ):=(goN bQ (⟨(0:Int),(0:Int),s,(⟨(⟨(0:Int),(0:Int),(0:Int),(0:Int)⟩:Color),(0:Int),(0:Int),(0:Int),false,(0:Int)⟩:iq)⟩:aQ))
def Dp (s:gM):(Option Int):=(oa (cF s).st.s.look)
def tr (s:gM):Option (Int):=(cond ((cF s).by (aB.ae.exit 0)) (cond (!(((cF s).st.said.color.e0==(cF s).st.s.look.color.e0)&&(((cF s).st.said.color.e1==(cF s).st.s.look.color.e1)&&(((cF s).st.said.color.e2==(cF s).st.s.look.color.e2)&&(((cF s).st.said.color.e3==(cF s).st.s.look.color.e3)&&(((cF s).st.said.cN==(cF s).st.s.look.cN)&&(((cF s).st.said.ly==(cF s).st.s.look.ly)&&(((cF s).st.said.jV==(cF s).st.s.look.jV)&&(((cF s).st.said.ff==(cF s).st.s.look.ff)&&(((cF s).st.said.bin==(cF s).st.s.look.bin)&&true)))))))))) (some ((8:Int))) (cond (Dp s).isSome (some (((Dp s).getD default))) none)) (cond ((cF s).by aB.ae.ret) (some ((cF s).st.t2)) none))
theorem YH (s:gM):cD Tryz.prog (bp Tryz.prog MQ MR (fun _=>false)) 9 9 80 [rm s] = (tr s).map (kI .i64):=by
 unfold tr
 try simp only [bq]
 kernel_rfl
def Pv:List KV->KR KV:=bI Tryz.prog 80 (bL (kI .i64) fun vs=>tr (lA (vs.getD 0 .ao)))
theorem Wo (w:Nat->KV):ck Tryz.prog [75] w 0 = [rm (lA (ax Tryz.prog (ai Tryz.prog aj) 75 (w 0)))]:=by kernel_rfl
theorem Wp:bH Tryz.prog 80 Pv:=aL funcs mixed Wm Wn (L:=9) (n:=9) fun w=>by
 have e:aG Tryz.prog 80 = [75]:=by kernel_rfl
 rw [e,Wo]
 exact (YH (lA (ax Tryz.prog (ai Tryz.prog aj) 75 (w 0)))).trans (by kernel_rfl)
structure tP where
 e0:Bool
 e1:Bool
 e2:Bool
 e3:Bool
 e4:Bool
instance:Inhabited tP:=⟨⟨default,default,default,default,default⟩⟩
def asm (x:tP):List KV:=[.bool x.e0,.bool x.e1,.bool x.e2,.bool x.e3,.bool x.e4]
def py (x:tP):KV:=.agg (asm x)
def asn (c:Nat->KV):tP:=⟨dj (c 0),dj (c 1),dj (c 2),dj (c 3),dj (c 4)⟩
def kh (v:KV):tP:=asn fun k=>v.cells.getD k .ao
theorem rK (x:tP):kh (py x)=x:=rfl
theorem acR:kh .ao=default:=rfl
theorem xo (s:Sl tP) (v:tP):s.push v=aF kh (s.n+1) (aH s.n (fun i=>py (s.get i)) (ef [py v])):=(ke rK acR s v).symm
theorem xp (s t:Sl tP):s.join t=aF kh (s.n+t.n) (aH s.n (fun i=>py (s.get i)) (fun i=>py (t.get i))):=(kf rK s t).symm
theorem zx (l:List tP):Sl.lit l=aF kh l.length (ef (l.map py)):=(lR rK acR l).symm
theorem zy (s:Sl tP) (i:Nat) (v:tP):s.set i v=aF kh s.n (cB (fun j=>py (s.get j)) i (py v)):=(lT rK s i v).symm
theorem vg (s t:Sl tP) (o m:Nat):s.rl o m t=aF kh s.n (aJ o m (fun j=>py (s.get j)) (fun j=>py (t.get j))):=(jg rK s t o m).symm
theorem zz (m n n' : Nat) (acc aE:Nat->KV):aF kh m (aH n (fun i=>py ((aF kh n' acc).get i)) aE)=aF kh m (aH n acc aE):=ml rK ..
theorem zA (m n n' : Nat) (acc aE:Nat->KV):aF kh m (aH n acc (fun i=>py ((aF kh n' aE).get i)))=aF kh m (aH n acc aE):=mm rK ..
theorem zB (m n' i:Nat) (acc:Nat->KV) (v:KV):aF kh m (cB (fun j=>py ((aF kh n' acc).get j)) i v)=aF kh m (cB acc i v):=mn rK ..
theorem zC (n n' o m:Nat) (acc aE:Nat->KV):aF kh n (aJ o m (fun j=>py ((aF kh n' acc).get j)) aE)=aF kh n (aJ o m acc aE):=mo rK ..
theorem zD (n n' o m:Nat) (acc aE:Nat->KV):aF kh n (aJ o m acc (fun j=>py ((aF kh n' aE).get j)))=aF kh n (aJ o m acc aE):=mq rK ..
structure vh where
 look:iq
 kept:tP
instance:Inhabited vh:=⟨⟨default,default⟩⟩
def aso (x:vh):List KV:=[.int .u8 x.look.color.e0,.int .u8 x.look.color.e1,.int .u8 x.look.color.e2,.int .u8 x.look.color.e3,.int .i64 x.look.cN,.int .u8 x.look.ly,.int .i64 x.look.jV,.bool x.look.ff,.int .i64 x.look.bin,.bool x.kept.e0,.bool x.kept.e1,.bool x.kept.e2,.bool x.kept.e3,.bool x.kept.e4]
def pz (x:vh):KV:=.agg (aso x)
def asp (c:Nat->KV):vh:=⟨⟨⟨ay (c 0),ay (c 1),ay (c 2),ay (c 3)⟩,ay (c 4),ay (c 5),ay (c 6),dj (c 7),ay (c 8)⟩,⟨dj (c 9),dj (c 10),dj (c 11),dj (c 12),dj (c 13)⟩⟩
def ki (v:KV):vh:=asp fun k=>v.cells.getD k .ao
theorem rL (x:vh):ki (pz x)=x:=rfl
theorem acS:ki .ao=default:=rfl
theorem xq (s:Sl vh) (v:vh):s.push v=aF ki (s.n+1) (aH s.n (fun i=>pz (s.get i)) (ef [pz v])):=(ke rL acS s v).symm
theorem xr (s t:Sl vh):s.join t=aF ki (s.n+t.n) (aH s.n (fun i=>pz (s.get i)) (fun i=>pz (t.get i))):=(kf rL s t).symm
theorem zF (l:List vh):Sl.lit l=aF ki l.length (ef (l.map pz)):=(lR rL acS l).symm
theorem zG (s:Sl vh) (i:Nat) (v:vh):s.set i v=aF ki s.n (cB (fun j=>pz (s.get j)) i (pz v)):=(lT rL s i v).symm
theorem vi (s t:Sl vh) (o m:Nat):s.rl o m t=aF ki s.n (aJ o m (fun j=>pz (s.get j)) (fun j=>pz (t.get j))):=(jg rL s t o m).symm
theorem zH (m n n' : Nat) (acc aE:Nat->KV):aF ki m (aH n (fun i=>pz ((aF ki n' acc).get i)) aE)=aF ki m (aH n acc aE):=ml rL ..
theorem zI (m n n' : Nat) (acc aE:Nat->KV):aF ki m (aH n acc (fun i=>pz ((aF ki n' aE).get i)))=aF ki m (aH n acc aE):=mm rL ..
theorem zJ (m n' i:Nat) (acc:Nat->KV) (v:KV):aF ki m (cB (fun j=>pz ((aF ki n' acc).get j)) i v)=aF ki m (cB acc i v):=mn rL ..
theorem zL (n n' o m:Nat) (acc aE:Nat->KV):aF ki n (aJ o m (fun j=>pz ((aF ki n' acc).get j)) aE)=aF ki n (aJ o m acc aE):=mo rL ..
theorem zM (n n' o m:Nat) (acc aE:Nat->KV):aF ki n (aJ o m acc (fun j=>pz ((aF ki n' aE).get j)))=aF ki n (aJ o m acc aE):=mq rL ..
def Pw:List (Nat×(List KV->KR KV)):=[]
def Px:List Lp:=[]
theorem YI:ah Tryz.prog Pw:=ah.nil
theorem YJ:au Tryz.prog Px:=au.nil
def vj (l:iq):Option (Bool):=(cond (decide (l.cN >= (-(1:Int)))) (cond (decide (l.cN < (16:Int))) (cond (decide (l.ly<=(2:Int))) (cond (decide (l.jV >= (-(1024:Int)))) (cond (decide (l.jV<=(1024:Int))) (cond (decide (l.bin >= (0:Int))) (some ((decide (l.bin<=(15:Int))))) (some (false))) (some (false))) (some (false))) (some (false))) (some (false))) (some (false)))
theorem abd (l:iq):cD Tryz.prog (bp Tryz.prog Pw Px (fun _=>false)) 9 9 168 [wc l] = (vj l).map kB:=by
 unfold vj
 try simp only [bq]
 kernel_rfl
def I6:List KV->KR KV:=bI Tryz.prog 168 (bL kB fun vs=>vj (o4 (vs.getD 0 .ao)))
theorem YK (w:Nat->KV):ck Tryz.prog [60] w 0 = [wc (o4 (ax Tryz.prog (ai Tryz.prog aj) 60 (w 0)))]:=by kernel_rfl
theorem Ke:bH Tryz.prog 168 I6:=aL funcs mixed YI YJ (L:=9) (n:=9) fun w=>by
 have e:aG Tryz.prog 168 = [60]:=by kernel_rfl
 rw [e,YK]
 exact (abd (o4 (ax Tryz.prog (ai Tryz.prog aj) 60 (w 0)))).trans (by kernel_rfl)
structure cE where
 t2:Bool
 i:Int
 s:gM
instance:Inhabited cE:=⟨⟨default,default,default⟩⟩
def Dq (x:cE):List KV:=[.bool x.t2,.int .i64 x.i]
def Dr (x:cE):List (List KV):=[al1 x.s]
def Rp (vs:List KV) (rs:List (List KV)):cE:=⟨dj (vs.getD 0 .ao),ay (vs.getD 1 .ao),al2 (fun k=>(rs.getD 0 []).getD k .ao)⟩
def UB:aV:=⟨[(2,⟨false,[.k .bool]⟩),(3,⟨false,[.k (.int .i64)]⟩)],[(1,[.k (.int .u8),.k (.int .u8),.k (.int .u8),.k (.int .u8),.k (.int .u8),.k (.int .u8),.k (.int .u8),.k (.int .u8),.k (.int .u8),.k (.int .i64),.k (.int .u8),.k (.int .i64),.k .bool,.k (.int .i64)],1)],[(1,0,0)]⟩
def ag7:=dB Tryz.prog (bp Tryz.prog [(168,I6)] [] (fun _=>false)) 9 9 103 26 (dF Tryz.prog 103 26) UB
def cL (x:cE):aW cE:=(cond (x.i==(0:Int)) (cond (decide (x.s.bN.e0 > (7:Int))) (.out aB.ae.ret (⟨false,(0:Int),x.s⟩:cE)) (cond ((Int.tmod x.s.bN.e0 (2:Int))==(0:Int)) (cond (decide (x.s.bN.e0 > (0:Int))) (.out aB.ae.ret (⟨false,(0:Int),x.s⟩:cE)) (.next (⟨x.t2,(aR ((0:Int)+(1:Int))),x.s⟩:cE))) (.next (⟨x.t2,(aR ((0:Int)+(1:Int))),x.s⟩:cE)))) (cond (x.i==(1:Int)) (cond (decide (x.s.bN.e1 > (7:Int))) (.out aB.ae.ret (⟨false,(1:Int),x.s⟩:cE)) (cond ((Int.tmod x.s.bN.e1 (2:Int))==(0:Int)) (cond (decide (x.s.bN.e1 > (0:Int))) (.out aB.ae.ret (⟨false,(1:Int),x.s⟩:cE)) (.next (⟨x.t2,(aR ((1:Int)+(1:Int))),x.s⟩:cE))) (.next (⟨x.t2,(aR ((1:Int)+(1:Int))),x.s⟩:cE)))) (cond (x.i==(2:Int)) (cond (decide (x.s.bN.e2 > (7:Int))) (.out aB.ae.ret (⟨false,(2:Int),x.s⟩:cE)) (cond ((Int.tmod x.s.bN.e2 (2:Int))==(0:Int)) (cond (decide (x.s.bN.e2 > (0:Int))) (.out aB.ae.ret (⟨false,(2:Int),x.s⟩:cE)) (.next (⟨x.t2,(aR ((2:Int)+(1:Int))),x.s⟩:cE))) (.next (⟨x.t2,(aR ((2:Int)+(1:Int))),x.s⟩:cE)))) (cond (x.i==(3:Int)) (cond (decide (x.s.bN.e3 > (7:Int))) (.out aB.ae.ret (⟨false,(3:Int),x.s⟩:cE)) (cond ((Int.tmod x.s.bN.e3 (2:Int))==(0:Int)) (cond (decide (x.s.bN.e3 > (0:Int))) (.out aB.ae.ret (⟨false,(3:Int),x.s⟩:cE)) (.next (⟨x.t2,(aR ((3:Int)+(1:Int))),x.s⟩:cE))) (.next (⟨x.t2,(aR ((3:Int)+(1:Int))),x.s⟩:cE)))) (cond (x.i==(4:Int)) (cond (decide (x.s.bN.e4 > (7:Int))) (.out aB.ae.ret (⟨false,(4:Int),x.s⟩:cE)) (cond ((Int.tmod x.s.bN.e4 (2:Int))==(0:Int)) (cond (decide (x.s.bN.e4 > (0:Int))) (.out aB.ae.ret (⟨false,(4:Int),x.s⟩:cE)) (.next (⟨x.t2,(aR ((4:Int)+(1:Int))),x.s⟩:cE))) (.next (⟨x.t2,(aR ((4:Int)+(1:Int))),x.s⟩:cE)))) (cond (x.i==(5:Int)) (.out (aB.ae.exit 0) (⟨x.t2,(5:Int),x.s⟩:cE)) .fail))))))
theorem abe (x:cE):cL x = .fail\/ag7 (Dq x) (Dr x)=aW.enc Dq Dr (cL x):=by
 obtain ⟨t2,i,s⟩:=x
 exact (aW.lit (fun h=>by subst h; (try simp only [aW.cf,xq,xr,zF,zH,zI,zJ,zL,zM,zG,vi,xo,xp,zx,zz,zA,zB,zC,zD,zy,vg,db,dM,dY,dZ,eO,eP,eQ,eR,eN,dn,dW,dX,fj,fo,fp,fq,fv,fw,fk,dw,eY,eZ,gu,gx,gz,gA,gC,gD,gw,dK,fG,fH,gV,gX,gY,gZ,hD,hH,gW,eJ,oM,oO,qE,qG,qH,qI,qJ,qK,qF,mR,lH,lI,mK,mM,mN,mO,mP,mQ,mL,kM,qC,qD,tf,th,ti,tj,tl,tq,tg,oL,qA,qB,sZ,s6,s7,s9,ta,te,s5,oK,mI,mJ,oC,oE,oG,oH,oI,oJ,oD,lG,qy,qz,sR,sT,sU,sV,sX,sY,sS,oB,oz,oA,qp,qt,qu,qv,qw,qx,qq,mH,qn,qo,sJ,sL,sM,sN,sP,sQ,sK,oy,ow,ox,qg,qi,qj,qk,ql,qm,qh,mG,ou,ov,p9,qb,qc,qd,qe,qf,qa,mF,sH,sI,wS,wU,wV,wW,wX,wY,wT,p8,sF,sG,wL,wN,wO,wP,wQ,wR,wM,p0,jP,jQ,kD,kF,kG,kH,kJ,kK,kE,jl,jM,lk,oh,oj,om,oo,oq,ot,oi,lF,fL,fY,iJ,jd,jt,ju,jv,jw,eW,eX,gq,iI,gp,eV,dJ]); kernel_rfl) (aW.lit (fun h=>by subst h; (try simp only [aW.cf,xq,xr,zF,zH,zI,zJ,zL,zM,zG,vi,xo,xp,zx,zz,zA,zB,zC,zD,zy,vg,db,dM,dY,dZ,eO,eP,eQ,eR,eN,dn,dW,dX,fj,fo,fp,fq,fv,fw,fk,dw,eY,eZ,gu,gx,gz,gA,gC,gD,gw,dK,fG,fH,gV,gX,gY,gZ,hD,hH,gW,eJ,oM,oO,qE,qG,qH,qI,qJ,qK,qF,mR,lH,lI,mK,mM,mN,mO,mP,mQ,mL,kM,qC,qD,tf,th,ti,tj,tl,tq,tg,oL,qA,qB,sZ,s6,s7,s9,ta,te,s5,oK,mI,mJ,oC,oE,oG,oH,oI,oJ,oD,lG,qy,qz,sR,sT,sU,sV,sX,sY,sS,oB,oz,oA,qp,qt,qu,qv,qw,qx,qq,mH,qn,qo,sJ,sL,sM,sN,sP,sQ,sK,oy,ow,ox,qg,qi,qj,qk,ql,qm,qh,mG,ou,ov,p9,qb,qc,qd,qe,qf,qa,mF,sH,sI,wS,wU,wV,wW,wX,wY,wT,p8,sF,sG,wL,wN,wO,wP,wQ,wR,wM,p0,jP,jQ,kD,kF,kG,kH,kJ,kK,kE,jl,jM,lk,oh,oj,om,oo,oq,ot,oi,lF,fL,fY,iJ,jd,jt,ju,jv,jw,eW,eX,gq,iI,gp,eV,dJ]); kernel_rfl) (aW.lit (fun h=>by subst h; (try simp only [aW.cf,xq,xr,zF,zH,zI,zJ,zL,zM,zG,vi,xo,xp,zx,zz,zA,zB,zC,zD,zy,vg,db,dM,dY,dZ,eO,eP,eQ,eR,eN,dn,dW,dX,fj,fo,fp,fq,fv,fw,fk,dw,eY,eZ,gu,gx,gz,gA,gC,gD,gw,dK,fG,fH,gV,gX,gY,gZ,hD,hH,gW,eJ,oM,oO,qE,qG,qH,qI,qJ,qK,qF,mR,lH,lI,mK,mM,mN,mO,mP,mQ,mL,kM,qC,qD,tf,th,ti,tj,tl,tq,tg,oL,qA,qB,sZ,s6,s7,s9,ta,te,s5,oK,mI,mJ,oC,oE,oG,oH,oI,oJ,oD,lG,qy,qz,sR,sT,sU,sV,sX,sY,sS,oB,oz,oA,qp,qt,qu,qv,qw,qx,qq,mH,qn,qo,sJ,sL,sM,sN,sP,sQ,sK,oy,ow,ox,qg,qi,qj,qk,ql,qm,qh,mG,ou,ov,p9,qb,qc,qd,qe,qf,qa,mF,sH,sI,wS,wU,wV,wW,wX,wY,wT,p8,sF,sG,wL,wN,wO,wP,wQ,wR,wM,p0,jP,jQ,kD,kF,kG,kH,kJ,kK,kE,jl,jM,lk,oh,oj,om,oo,oq,ot,oi,lF,fL,fY,iJ,jd,jt,ju,jv,jw,eW,eX,gq,iI,gp,eV,dJ]); kernel_rfl) (aW.lit (fun h=>by subst h; (try simp only [aW.cf,xq,xr,zF,zH,zI,zJ,zL,zM,zG,vi,xo,xp,zx,zz,zA,zB,zC,zD,zy,vg,db,dM,dY,dZ,eO,eP,eQ,eR,eN,dn,dW,dX,fj,fo,fp,fq,fv,fw,fk,dw,eY,eZ,gu,gx,gz,gA,gC,gD,gw,dK,fG,fH,gV,gX,gY,gZ,hD,hH,gW,eJ,oM,oO,qE,qG,qH,qI,qJ,qK,qF,mR,lH,lI,mK,mM,mN,mO,mP,mQ,mL,kM,qC,qD,tf,th,ti,tj,tl,tq,tg,oL,qA,qB,sZ,s6,s7,s9,ta,te,s5,oK,mI,mJ,oC,oE,oG,oH,oI,oJ,oD,lG,qy,qz,sR,sT,sU,sV,sX,sY,sS,oB,oz,oA,qp,qt,qu,qv,qw,qx,qq,mH,qn,qo,sJ,sL,sM,sN,sP,sQ,sK,oy,ow,ox,qg,qi,qj,qk,ql,qm,qh,mG,ou,ov,p9,qb,qc,qd,qe,qf,qa,mF,sH,sI,wS,wU,wV,wW,wX,wY,wT,p8,sF,sG,wL,wN,wO,wP,wQ,wR,wM,p0,jP,jQ,kD,kF,kG,kH,kJ,kK,kE,jl,jM,lk,oh,oj,om,oo,oq,ot,oi,lF,fL,fY,iJ,jd,jt,ju,jv,jw,eW,eX,gq,iI,gp,eV,dJ]); kernel_rfl) (aW.lit (fun h=>by subst h; (try simp only [aW.cf,xq,xr,zF,zH,zI,zJ,zL,zM,zG,vi,xo,xp,zx,zz,zA,zB,zC,zD,zy,vg,db,dM,dY,dZ,eO,eP,eQ,eR,eN,dn,dW,dX,fj,fo,fp,fq,fv,fw,fk,dw,eY,eZ,gu,gx,gz,gA,gC,gD,gw,dK,fG,fH,gV,gX,gY,gZ,hD,hH,gW,eJ,oM,oO,qE,qG,qH,qI,qJ,qK,qF,mR,lH,lI,mK,mM,mN,mO,mP,mQ,mL,kM,qC,qD,tf,th,ti,tj,tl,tq,tg,oL,qA,qB,sZ,s6,s7,s9,ta,te,s5,oK,mI,mJ,oC,oE,oG,oH,oI,oJ,oD,lG,qy,qz,sR,sT,sU,sV,sX,sY,sS,oB,oz,oA,qp,qt,qu,qv,qw,qx,qq,mH,qn,qo,sJ,sL,sM,sN,sP,sQ,sK,oy,ow,ox,qg,qi,qj,qk,ql,qm,qh,mG,ou,ov,p9,qb,qc,qd,qe,qf,qa,mF,sH,sI,wS,wU,wV,wW,wX,wY,wT,p8,sF,sG,wL,wN,wO,wP,wQ,wR,wM,p0,jP,jQ,kD,kF,kG,kH,kJ,kK,kE,jl,jM,lk,oh,oj,om,oo,oq,ot,oi,lF,fL,fY,iJ,jd,jt,ju,jv,jw,eW,eX,gq,iI,gp,eV,dJ]); kernel_rfl) (aW.lit (fun h=>by subst h; (try simp only [aW.cf,xq,xr,zF,zH,zI,zJ,zL,zM,zG,vi,xo,xp,zx,zz,zA,zB,zC,zD,zy,vg,db,dM,dY,dZ,eO,eP,eQ,eR,eN,dn,dW,dX,fj,fo,fp,fq,fv,fw,fk,dw,eY,eZ,gu,gx,gz,gA,gC,gD,gw,dK,fG,fH,gV,gX,gY,gZ,hD,hH,gW,eJ,oM,oO,qE,qG,qH,qI,qJ,qK,qF,mR,lH,lI,mK,mM,mN,mO,mP,mQ,mL,kM,qC,qD,tf,th,ti,tj,tl,tq,tg,oL,qA,qB,sZ,s6,s7,s9,ta,te,s5,oK,mI,mJ,oC,oE,oG,oH,oI,oJ,oD,lG,qy,qz,sR,sT,sU,sV,sX,sY,sS,oB,oz,oA,qp,qt,qu,qv,qw,qx,qq,mH,qn,qo,sJ,sL,sM,sN,sP,sQ,sK,oy,ow,ox,qg,qi,qj,qk,ql,qm,qh,mG,ou,ov,p9,qb,qc,qd,qe,qf,qa,mF,sH,sI,wS,wU,wV,wW,wX,wY,wT,p8,sF,sG,wL,wN,wO,wP,wQ,wR,wM,p0,jP,jQ,kD,kF,kG,kH,kJ,kK,kE,jl,jM,lk,oh,oj,om,oo,oq,ot,oi,lF,fL,fY,iJ,jd,jt,ju,jv,jw,eW,eX,gq,iI,gp,eV,dJ]); kernel_rfl) (.inl rfl)))))))
def Fv:Lp:=⟨103,26,UB,fun vs rs=>dC Dq Dr (goN cL (Rp vs rs)) [aB.ae.exit 0,aB.ae.ret],false⟩
theorem ag8:Fv.Ok Tryz.prog:=Ym funcs mixed (ah.cons Ke ah.nil) au.nil (L:=9) (n:=9) (step:=cL) (ev:=Dq) (er:=Dr) (pa:=Rp) rfl (fun wv wr=>⟨by kernel_rfl,by kernel_rfl⟩) abe
theorem YL:bZ Tryz.prog Fv.f Fv.p=true:=by kernel_rfl
def acT:List (Nat×(List KV->KR KV)):=[(168,I6)]
def acU:List Lp:=[Fv]
theorem ajc:ah Tryz.prog acT:=(ah.cons Ke ah.nil)
theorem ajd:au Tryz.prog acU:=(au.cons ag8 YL au.nil)
def aI (s:gM):(aW cE):=(goN cL (⟨false,(0:Int),s⟩:cE))
def aX (s:gM):(Option Bool):=(vj (aI s).st.s.look)
def ED (s:gM):Option (Bool):=(cond ((aI s).by (aB.ae.exit 0)) (cond ((aI s).st.s.bN.e0==(0:Int)) (cond (!(((aI s).st.s.look.color.e0==(0:Int))&&(((aI s).st.s.look.color.e1==(0:Int))&&(((aI s).st.s.look.color.e2==(0:Int))&&(((aI s).st.s.look.color.e3==(0:Int))&&true))))) (some (false)) (cond ((aI s).st.s.bN.e1==(0:Int)) (cond ((aI s).st.s.look.cN != (0:Int)) (some (false)) (cond ((aI s).st.s.bN.e2==(0:Int)) (cond ((aI s).st.s.look.ly != (0:Int)) (some (false)) (cond ((aI s).st.s.bN.e3==(0:Int)) (cond ((aI s).st.s.look.jV != (0:Int)) (some (false)) (cond ((aI s).st.s.bN.e4==(0:Int)) (cond (aI s).st.s.look.ff (some (false)) (cond ((aI s).st.s.look.bin != (0:Int)) (some (false)) (cond (aX s).isSome (some (((aX s).getD default))) none))) (cond (aX s).isSome (some (((aX s).getD default))) none))) (cond ((aI s).st.s.bN.e4==(0:Int)) (cond (aI s).st.s.look.ff (some (false)) (cond ((aI s).st.s.look.bin != (0:Int)) (some (false)) (cond (aX s).isSome (some (((aX s).getD default))) none))) (cond (aX s).isSome (some (((aX s).getD default))) none)))) (cond ((aI s).st.s.bN.e3==(0:Int)) (cond ((aI s).st.s.look.jV != (0:Int)) (some (false)) (cond ((aI s).st.s.bN.e4==(0:Int)) (cond (aI s).st.s.look.ff (some (false)) (cond ((aI s).st.s.look.bin != (0:Int)) (some (false)) (cond (aX s).isSome (some (((aX s).getD default))) none))) (cond (aX s).isSome (some (((aX s).getD default))) none))) (cond ((aI s).st.s.bN.e4==(0:Int)) (cond (aI s).st.s.look.ff (some (false)) (cond ((aI s).st.s.look.bin != (0:Int)) (some (false)) (cond (aX s).isSome (some (((aX s).getD default))) none))) (cond (aX s).isSome (some (((aX s).getD default))) none))))) (cond ((aI s).st.s.bN.e2==(0:Int)) (cond ((aI s).st.s.look.ly != (0:Int)) (some (false)) (cond ((aI s).st.s.bN.e3==(0:Int)) (cond ((aI s).st.s.look.jV != (0:Int)) (some (false)) (cond ((aI s).st.s.bN.e4==(0:Int)) (cond (aI s).st.s.look.ff (some (false)) (cond ((aI s).st.s.look.bin != (0:Int)) (some (false)) (cond (aX s).isSome (some (((aX s).getD default))) none))) (cond (aX s).isSome (some (((aX s).getD default))) none))) (cond ((aI s).st.s.bN.e4==(0:Int)) (cond (aI s).st.s.look.ff (some (false)) (cond ((aI s).st.s.look.bin != (0:Int)) (some (false)) (cond (aX s).isSome (some (((aX s).getD default))) none))) (cond (aX s).isSome (some (((aX s).getD default))) none)))) (cond ((aI s).st.s.bN.e3==(0:Int)) (cond ((aI s).st.s.look.jV != (0:Int)) (some (false)) (cond ((aI s).st.s.bN.e4==(0:Int)) (cond (aI s).st.s.look.ff (some (false)) (cond ((aI s).st.s.look.bin != (0:Int)) (some (false)) (cond (aX s).isSome (some (((aX s).getD default))) none))) (cond (aX s).isSome (some (((aX s).getD default))) none))) (cond ((aI s).st.s.bN.e4==(0:Int)) (cond (aI s).st.s.look.ff (some (false)) (cond ((aI s).st.s.look.bin != (0:Int)) (some (false)) (cond (aX s).isSome (some (((aX s).getD default))) none))) (cond (aX s).isSome (some (((aX s).getD default))) none)))))) (cond ((aI s).st.s.bN.e1==(0:Int)) (cond ((aI s).st.s.look.cN != (0:Int)) (some (false)) (cond ((aI s).st.s.bN.e2==(0:Int)) (cond ((aI s).st.s.look.ly != (0:Int)) (some (false)) (cond ((aI s).st.s.bN.e3==(0:Int)) (cond ((aI s).st.s.look.jV != (0:Int)) (some (false)) (cond ((aI s).st.s.bN.e4==(0:Int)) (cond (aI s).st.s.look.ff (some (false)) (cond ((aI s).st.s.look.bin != (0:Int)) (some (false)) (cond (aX s).isSome (some (((aX s).getD default))) none))) (cond (aX s).isSome (some (((aX s).getD default))) none))) (cond ((aI s).st.s.bN.e4==(0:Int)) (cond (aI s).st.s.look.ff (some (false)) (cond ((aI s).st.s.look.bin != (0:Int)) (some (false)) (cond (aX s).isSome (some (((aX s).getD default))) none))) (cond (aX s).isSome (some (((aX s).getD default))) none)))) (cond ((aI s).st.s.bN.e3==(0:Int)) (cond ((aI s).st.s.look.jV != (0:Int)) (some (false)) (cond ((aI s).st.s.bN.e4==(0:Int)) (cond (aI s).st.s.look.ff (some (false)) (cond ((aI s).st.s.look.bin != (0:Int)) (some (false)) (cond (aX s).isSome (some (((aX s).getD default))) none))) (cond (aX s).isSome (some (((aX s).getD default))) none))) (cond ((aI s).st.s.bN.e4==(0:Int)) (cond (aI s).st.s.look.ff (some (false)) (cond ((aI s).st.s.look.bin != (0:Int)) (some (false)) (cond (aX s).isSome (some (((aX s).getD default))) none))) (cond (aX s).isSome (some (((aX s).getD default))) none))))) (cond ((aI s).st.s.bN.e2==(0:Int)) (cond ((aI s).st.s.look.ly != (0:Int)) (some (false)) (cond ((aI s).st.s.bN.e3==(0:Int)) (cond ((aI s).st.s.look.jV != (0:Int)) (some (false)) (cond ((aI s).st.s.bN.e4==(0:Int)) (cond (aI s).st.s.look.ff (some (false)) (cond ((aI s).st.s.look.bin != (0:Int)) (some (false)) (cond (aX s).isSome (some (((aX s).getD default))) none))) (cond (aX s).isSome (some (((aX s).getD default))) none))) (cond ((aI s).st.s.bN.e4==(0:Int)) (cond (aI s).st.s.look.ff (some (false)) (cond ((aI s).st.s.look.bin != (0:Int)) (some (false)) (cond (aX s).isSome (some (((aX s).getD default))) none))) (cond (aX s).isSome (some (((aX s).getD default))) none)))) (cond ((aI s).st.s.bN.e3==(0:Int)) (cond ((aI s).st.s.look.jV != (0:Int)) (some (false)) (cond ((aI s).st.s.bN.e4==(0:Int)) (cond (aI s).st.s.look.ff (some (false)) (cond ((aI s).st.s.look.bin != (0:Int)) (some (false)) (cond (aX s).isSome (some (((aX s).getD default))) none))) (cond (aX s).isSome (some (((aX s).getD default))) none))) (cond ((aI s).st.s.bN.e4==(0:Int)) (cond (aI s).st.s.look.ff (some (false)) (cond ((aI s).st.s.look.bin != (0:Int)) (some (false)) (cond (aX s).isSome (some (((aX s).getD default))) none))) (cond (aX s).isSome (some (((aX s).getD default))) none)))))) (cond ((aI s).by aB.ae.ret) (some ((aI s).st.t2)) none))
theorem al3 (s:gM):cD Tryz.prog (bp Tryz.prog acT acU (fun _=>false)) 9 9 103 [rm s] = (ED s).map kB:=by
 unfold ED
 try simp only [bq]
 kernel_rfl
def ag9:List KV->KR KV:=bI Tryz.prog 103 (bL kB fun vs=>ED (lA (vs.getD 0 .ao)))
theorem aje (w:Nat->KV):ck Tryz.prog [75] w 0 = [rm (lA (ax Tryz.prog (ai Tryz.prog aj) 75 (w 0)))]:=by kernel_rfl
theorem ajf:bH Tryz.prog 103 ag9:=aL funcs mixed ajc ajd (L:=9) (n:=9) fun w=>by
 have e:aG Tryz.prog 103 = [75]:=by kernel_rfl
 rw [e,aje]
 exact (al3 (lA (ax Tryz.prog (ai Tryz.prog aj) 75 (w 0)))).trans (by kernel_rfl)
def aha:List (Nat×(List KV->KR KV)):=[]
def ahb:List Lp:=[]
theorem al4:ah Tryz.prog aha:=ah.nil
theorem al5:au Tryz.prog ahb:=au.nil
def vl (n:Int) (low:Int) (high:Int):Option (Bool):=(cond (decide (n >= low)) (some ((decide (n<=high)))) (some (false)))
theorem aok (n:Int) (low:Int) (high:Int):cD Tryz.prog (bp Tryz.prog aha ahb (fun _=>false)) 9 9 221 [(kI .i64) n,(kI .i64) low,(kI .i64) high] = (vl n low high).map kB:=by
 unfold vl
 try simp only [bq]
 kernel_rfl
def H4:List KV->KR KV:=bI Tryz.prog 221 (bL kB fun vs=>vl (ay (vs.getD 0 .ao)) (ay (vs.getD 1 .ao)) (ay (vs.getD 2 .ao)))
theorem al6 (w:Nat->KV):ck Tryz.prog [3,3,3] w 0 = [(kI .i64) (ay (ax Tryz.prog (ai Tryz.prog aj) 3 (w 0))),(kI .i64) (ay (ax Tryz.prog (ai Tryz.prog aj) 3 (w 1))),(kI .i64) (ay (ax Tryz.prog (ai Tryz.prog aj) 3 (w 2)))]:=by kernel_rfl
theorem Ds:bH Tryz.prog 221 H4:=aL funcs mixed al4 al5 (L:=9) (n:=9) fun w=>by
 have e:aG Tryz.prog 221 = [3,3,3]:=by kernel_rfl
 rw [e,al6]
 exact (aok (ay (ax Tryz.prog (ai Tryz.prog aj) 3 (w 0))) (ay (ax Tryz.prog (ai Tryz.prog aj) 3 (w 1))) (ay (ax Tryz.prog (ai Tryz.prog aj) 3 (w 2)))).trans (by kernel_rfl)
structure fM where
 t2:(Sl az)
 t3:Int
 n:Int
 out:(Sl az)
 i:Int
 p:Prim
instance:Inhabited fM:=⟨by constructor<;>exact default⟩
def xX (x:fM):List KV:=[eA 40 df x.t2,.int .i64 x.t3,.int .i64 x.n,eA 40 df x.out,.int .i64 x.i]
def xY (x:fM):List (List KV):=[agY x.p]
def Kf (vs:List KV) (rs:List (List KV)):fM:=⟨dP dv (vs.getD 0 .ao),ay (vs.getD 1 .ao),ay (vs.getD 2 .ao),dP dv (vs.getD 3 .ao),ay (vs.getD 4 .ao),agZ (fun k=>(rs.getD 0 []).getD k .ao)⟩
def MS:aV:=⟨[(2,⟨false,[.k (.slice 40)]⟩),(3,⟨false,[.k (.int .i64)]⟩),(4,⟨false,[.k (.int .i64)]⟩),(5,⟨false,[.bA 40]⟩),(7,⟨false,[.k (.int .i64)]⟩)],[(1,[.k (.int .u8),.k (.slice 3)],1)],[(1,0,0)]⟩
def YM:=dB Tryz.prog (bp Tryz.prog [] [] (fun _=>false)) 9 9 226 2042 (dF Tryz.prog 226 2042) MS
def jN (x:fM):aW fM:=(cond (decide (x.i<=(aR (x.n - (3:Int))))) (cond (x.p.kind==(1:Int)) (cond ((decide ((0:Int)<=x.i))&&(decide (x.i < ((x.p.index.n:Nat):Int)))) (cond ((decide ((0:Int)<=(aR (x.i+(1:Int)))))&&(decide ((aR (x.i+(1:Int))) < ((x.p.index.n:Nat):Int)))) (cond ((Int.tmod x.i (2:Int))==(1:Int)) (cond ((decide ((0:Int)<=(aR (x.i+(1:Int)))))&&(decide ((aR (x.i+(1:Int))) < ((x.p.index.n:Nat):Int)))) (cond ((decide ((0:Int)<=x.i))&&(decide (x.i < ((x.p.index.n:Nat):Int)))) (cond ((decide ((0:Int)<=(aR (x.i+(2:Int)))))&&(decide ((aR (x.i+(2:Int))) < ((x.p.index.n:Nat):Int)))) (cond ((bz x.out.n x.out.n)&&(kC 24 x.out.n 1)) (cond (bz (x.out.n+1) (x.out.n+1)) (.next (⟨x.t2,x.t3,x.n,(x.out.push (⟨(x.p.index.get (Int.toNat (aR (x.i+(1:Int))))),(x.p.index.get (Int.toNat x.i)),(x.p.index.get (Int.toNat (aR (x.i+(2:Int)))))⟩:az)),(aR (x.i+(1:Int))),x.p⟩:fM)) .fail) .fail) .fail) .fail) .fail) (cond ((decide ((0:Int)<=(aR (x.i+(2:Int)))))&&(decide ((aR (x.i+(2:Int))) < ((x.p.index.n:Nat):Int)))) (cond ((bz x.out.n x.out.n)&&(kC 24 x.out.n 1)) (cond (bz (x.out.n+1) (x.out.n+1)) (.next (⟨x.t2,x.t3,x.n,(x.out.push (⟨(x.p.index.get (Int.toNat x.i)),(x.p.index.get (Int.toNat (aR (x.i+(1:Int))))),(x.p.index.get (Int.toNat (aR (x.i+(2:Int)))))⟩:az)),(aR (x.i+(1:Int))),x.p⟩:fM)) .fail) .fail) .fail)) .fail) .fail) (cond (bz x.out.n x.out.n) (.out (aB.ae.exit 2) x) .fail)) (cond (bz x.out.n x.out.n) (.out (aB.ae.exit 2) x) .fail))
theorem Tr (x:fM):YM (xX x) (xY x)=aW.enc xX xY (jN x):=by
 unfold jN
 try simp only [aW.cf,jM]
 kernel_rfl
def rQ:Lp:=⟨226,2042,MS,fun vs rs=>dC xX xY (goN jN (Kf vs rs)) [aB.ae.exit 2],false⟩
theorem Dt:rQ.Ok Tryz.prog:=b8 funcs mixed ah.nil au.nil (L:=9) (n:=9) (step:=jN) (ev:=xX) (er:=xY) (pa:=Kf) rfl (fun wv wr=>⟨by kernel_rfl,by kernel_rfl⟩) Tr
theorem yO:bZ Tryz.prog rQ.f rQ.p=true:=by kernel_rfl
structure jn where
 t2:(Sl az)
 t3:Int
 n:Int
 out:(Sl az)
 i:Int
 p:Prim
instance:Inhabited jn:=⟨by constructor<;>exact default⟩
def xZ (x:jn):List KV:=[eA 40 df x.t2,.int .i64 x.t3,.int .i64 x.n,eA 40 df x.out,.int .i64 x.i]
def x4 (x:jn):List (List KV):=[agY x.p]
def Kg (vs:List KV) (rs:List (List KV)):jn:=⟨dP dv (vs.getD 0 .ao),ay (vs.getD 1 .ao),ay (vs.getD 2 .ao),dP dv (vs.getD 3 .ao),ay (vs.getD 4 .ao),agZ (fun k=>(rs.getD 0 []).getD k .ao)⟩
def MT:aV:=⟨[(2,⟨false,[.k (.slice 40)]⟩),(3,⟨false,[.k (.int .i64)]⟩),(4,⟨false,[.k (.int .i64)]⟩),(5,⟨false,[.bA 40]⟩),(6,⟨false,[.k (.int .i64)]⟩)],[(1,[.k (.int .u8),.k (.slice 3)],1)],[(1,0,0)]⟩
def YN:=dB Tryz.prog (bp Tryz.prog [] [rQ] (fun _=>false)) 9 9 226 4074 (dF Tryz.prog 226 4074) MT
def kW (x:jn):aW jn:=(cond (decide (x.i < x.n)) (cond ((decide ((0:Int)<=x.i))&&(decide (x.i < ((x.p.index.n:Nat):Int)))) (cond ((decide ((0:Int)<=(aR (x.i+(1:Int)))))&&(decide ((aR (x.i+(1:Int))) < ((x.p.index.n:Nat):Int)))) (cond ((decide ((0:Int)<=(aR (x.i+(2:Int)))))&&(decide ((aR (x.i+(2:Int))) < ((x.p.index.n:Nat):Int)))) (cond ((bz x.out.n x.out.n)&&(kC 24 x.out.n 1)) (cond (bz (x.out.n+1) (x.out.n+1)) (.next (⟨x.t2,x.t3,x.n,(x.out.push (⟨(x.p.index.get (Int.toNat x.i)),(x.p.index.get (Int.toNat (aR (x.i+(1:Int))))),(x.p.index.get (Int.toNat (aR (x.i+(2:Int)))))⟩:az)),(aR (x.i+(3:Int))),x.p⟩:jn)) .fail) .fail) .fail) .fail) .fail) (cond (bz x.out.n x.out.n) (.out (aB.ae.exit 0) x) .fail))
theorem Ts (x:jn):YN (xZ x) (x4 x)=aW.enc xZ x4 (kW x):=by
 unfold kW
 try simp only [aW.cf,jM]
 kernel_rfl
def vm:Lp:=⟨226,4074,MT,fun vs rs=>dC xZ x4 (goN kW (Kg vs rs)) [aB.ae.exit 0],false⟩
theorem Kh:vm.Ok Tryz.prog:=b8 funcs mixed ah.nil (au.cons Dt yO au.nil) (L:=9) (n:=9) (step:=kW) (ev:=xZ) (er:=x4) (pa:=Kg) rfl (fun wv wr=>⟨by kernel_rfl,by kernel_rfl⟩) Ts
theorem F3:bZ Tryz.prog vm.f vm.p=true:=by kernel_rfl
structure gE where
 t2:(Sl az)
 t3:Int
 n:Int
 out:(Sl az)
 i:Int
 p:Prim
instance:Inhabited gE:=⟨by constructor<;>exact default⟩
def x5 (x:gE):List KV:=[eA 40 df x.t2,.int .i64 x.t3,.int .i64 x.n,eA 40 df x.out,.int .i64 x.i]
def x6 (x:gE):List (List KV):=[agY x.p]
def Ki (vs:List KV) (rs:List (List KV)):gE:=⟨dP dv (vs.getD 0 .ao),ay (vs.getD 1 .ao),ay (vs.getD 2 .ao),dP dv (vs.getD 3 .ao),ay (vs.getD 4 .ao),agZ (fun k=>(rs.getD 0 []).getD k .ao)⟩
def MU:aV:=⟨[(2,⟨false,[.k (.slice 40)]⟩),(3,⟨false,[.k (.int .i64)]⟩),(4,⟨false,[.k (.int .i64)]⟩),(5,⟨false,[.bA 40]⟩),(10,⟨false,[.k (.int .i64)]⟩)],[(1,[.k (.int .u8),.k (.slice 3)],1)],[(1,0,0)]⟩
def YO:=dB Tryz.prog (bp Tryz.prog [] [rQ,vm] (fun _=>false)) 9 9 226 4090 (dF Tryz.prog 226 4090) MU
def jO (x:gE):aW gE:=(cond (decide (x.i<=(aR (x.n - (2:Int))))) (cond (x.p.kind==(2:Int)) (cond (decide ((0:Int) < ((x.p.index.n:Nat):Int))) (cond ((decide ((0:Int)<=x.i))&&(decide (x.i < ((x.p.index.n:Nat):Int)))) (cond ((decide ((0:Int)<=(aR (x.i+(1:Int)))))&&(decide ((aR (x.i+(1:Int))) < ((x.p.index.n:Nat):Int)))) (cond ((bz x.out.n x.out.n)&&(kC 24 x.out.n 1)) (cond (bz (x.out.n+1) (x.out.n+1)) (.next (⟨x.t2,x.t3,x.n,(x.out.push (⟨(x.p.index.get 0),(x.p.index.get (Int.toNat x.i)),(x.p.index.get (Int.toNat (aR (x.i+(1:Int)))))⟩:az)),(aR (x.i+(1:Int))),x.p⟩:gE)) .fail) .fail) .fail) .fail) .fail) (cond (bz x.out.n x.out.n) (.out (aB.ae.exit 4) x) .fail)) (cond (bz x.out.n x.out.n) (.out (aB.ae.exit 4) x) .fail))
theorem Tt (x:gE):YO (x5 x) (x6 x)=aW.enc x5 x6 (jO x):=by
 unfold jO
 try simp only [aW.cf,jM]
 kernel_rfl
def zN:Lp:=⟨226,4090,MU,fun vs rs=>dC x5 x6 (goN jO (Ki vs rs)) [aB.ae.exit 4],false⟩
theorem YP:zN.Ok Tryz.prog:=b8 funcs mixed ah.nil (au.cons Dt yO (au.cons Kh F3 au.nil)) (L:=9) (n:=9) (step:=jO) (ev:=x5) (er:=x6) (pa:=Ki) rfl (fun wv wr=>⟨by kernel_rfl,by kernel_rfl⟩) Tt
theorem Rq:bZ Tryz.prog zN.f zN.p=true:=by kernel_rfl
def YQ:List (Nat×(List KV->KR KV)):=[]
def YR:List Lp:=[rQ,vm,zN]
theorem ahc:ah Tryz.prog YQ:=ah.nil
theorem ahd:au Tryz.prog YR:=(au.cons Dt yO (au.cons Kh F3 (au.cons YP Rq au.nil)))
def gJ (p:Prim):(aW jn):=(goN kW (⟨(⟨0,(fun i=>(⟨(0:Int),(0:Int),(0:Int)⟩:az))⟩:Sl _),(0:Int),((p.index.n:Nat):Int),(⟨0,(fun i=>(⟨(0:Int),(0:Int),(0:Int)⟩:az))⟩:Sl _),(0:Int),p⟩:jn))
def gK (p:Prim):(aW fM):=(goN jN (⟨(gJ p).st.t2,(gJ p).st.t3,(gJ p).st.n,(gJ p).st.out,(0:Int),(gJ p).st.p⟩:fM))
def pH (p:Prim):(aW gE):=(goN jO (⟨(gK p).st.t2,(gK p).st.t3,(gK p).st.n,(gK p).st.out,(1:Int),(gK p).st.p⟩:gE))
def gL (p:Prim):(aW fM):=(goN jN (⟨(⟨0,(fun i=>(⟨(0:Int),(0:Int),(0:Int)⟩:az))⟩:Sl _),(0:Int),((p.index.n:Nat):Int),(⟨0,(fun i=>(⟨(0:Int),(0:Int),(0:Int)⟩:az))⟩:Sl _),(0:Int),p⟩:fM))
def pI (p:Prim):(aW gE):=(goN jO (⟨(gL p).st.t2,(gL p).st.t3,(gL p).st.n,(gL p).st.out,(1:Int),(gL p).st.p⟩:gE))
def Cs (p:Prim):Option ((Sl az)×Int):=(cond (decide (p.kind > (2:Int))) (some ((⟨0,(fun i=>(⟨(0:Int),(0:Int),(0:Int)⟩:az))⟩:Sl _),(2:Int))) (cond (decide (((p.index.n:Nat):Int) > (200:Int))) (some ((⟨0,(fun i=>(⟨(0:Int),(0:Int),(0:Int)⟩:az))⟩:Sl _),(4:Int))) (cond (p.kind==(0:Int)) (cond ((Int.tmod ((p.index.n:Nat):Int) (3:Int)) != (0:Int)) (some ((⟨0,(fun i=>(⟨(0:Int),(0:Int),(0:Int)⟩:az))⟩:Sl _),(40:Int))) (cond (decide (p.kind > (0:Int))) (cond (((p.index.n:Nat):Int)==(1:Int)) (some ((⟨0,(fun i=>(⟨(0:Int),(0:Int),(0:Int)⟩:az))⟩:Sl _),(40:Int))) (cond (((p.index.n:Nat):Int)==(2:Int)) (some ((⟨0,(fun i=>(⟨(0:Int),(0:Int),(0:Int)⟩:az))⟩:Sl _),(40:Int))) (cond (p.kind==(0:Int)) (cond ((gJ p).by (aB.ae.exit 0)) (cond (bz (gJ p).st.out.n (gJ p).st.out.n) (cond ((gK p).by (aB.ae.exit 2)) (cond (bz (gK p).st.out.n (gK p).st.out.n) (cond ((pH p).by (aB.ae.exit 4)) (some ((pH p).st.out,(0:Int))) none) none) none) none) none) (cond ((gL p).by (aB.ae.exit 2)) (cond (bz (gL p).st.out.n (gL p).st.out.n) (cond ((pI p).by (aB.ae.exit 4)) (some ((pI p).st.out,(0:Int))) none) none) none)))) (cond (p.kind==(0:Int)) (cond ((gJ p).by (aB.ae.exit 0)) (cond (bz (gJ p).st.out.n (gJ p).st.out.n) (cond ((gK p).by (aB.ae.exit 2)) (cond (bz (gK p).st.out.n (gK p).st.out.n) (cond ((pH p).by (aB.ae.exit 4)) (some ((pH p).st.out,(0:Int))) none) none) none) none) none) (cond ((gL p).by (aB.ae.exit 2)) (cond (bz (gL p).st.out.n (gL p).st.out.n) (cond ((pI p).by (aB.ae.exit 4)) (some ((pI p).st.out,(0:Int))) none) none) none)))) (cond (decide (p.kind > (0:Int))) (cond (((p.index.n:Nat):Int)==(1:Int)) (some ((⟨0,(fun i=>(⟨(0:Int),(0:Int),(0:Int)⟩:az))⟩:Sl _),(40:Int))) (cond (((p.index.n:Nat):Int)==(2:Int)) (some ((⟨0,(fun i=>(⟨(0:Int),(0:Int),(0:Int)⟩:az))⟩:Sl _),(40:Int))) (cond (p.kind==(0:Int)) (cond ((gJ p).by (aB.ae.exit 0)) (cond (bz (gJ p).st.out.n (gJ p).st.out.n) (cond ((gK p).by (aB.ae.exit 2)) (cond (bz (gK p).st.out.n (gK p).st.out.n) (cond ((pH p).by (aB.ae.exit 4)) (some ((pH p).st.out,(0:Int))) none) none) none) none) none) (cond ((gL p).by (aB.ae.exit 2)) (cond (bz (gL p).st.out.n (gL p).st.out.n) (cond ((pI p).by (aB.ae.exit 4)) (some ((pI p).st.out,(0:Int))) none) none) none)))) (cond (p.kind==(0:Int)) (cond ((gJ p).by (aB.ae.exit 0)) (cond (bz (gJ p).st.out.n (gJ p).st.out.n) (cond ((gK p).by (aB.ae.exit 2)) (cond (bz (gK p).st.out.n (gK p).st.out.n) (cond ((pH p).by (aB.ae.exit 4)) (some ((pH p).st.out,(0:Int))) none) none) none) none) none) (cond ((gL p).by (aB.ae.exit 2)) (cond (bz (gL p).st.out.n (gL p).st.out.n) (cond ((pI p).by (aB.ae.exit 4)) (some ((pI p).st.out,(0:Int))) none) none) none))))))
theorem ajg (p:Prim):cD Tryz.prog (bp Tryz.prog YQ YR (fun _=>false)) 9 9 226 [rq p] = (Cs p).map (fun (r:(Sl az)×Int)=>KV.na [(eA 40 df) r.1,(kI .i64) r.2]):=by
 unfold Cs
 try simp only [bq]
 kernel_rfl
def Kj:List KV->KR KV:=bI Tryz.prog 226 (bL (fun (r:(Sl az)×Int)=>KV.na [(eA 40 df) r.1,(kI .i64) r.2]) fun vs=>Cs (lL (vs.getD 0 .ao)))
theorem ahe (w:Nat->KV):ck Tryz.prog [172] w 0 = [rq (lL (ax Tryz.prog (ai Tryz.prog aj) 172 (w 0)))]:=by kernel_rfl
theorem I7:bH Tryz.prog 226 Kj:=aL funcs mixed ahc ahd (L:=9) (n:=9) fun w=>by
 have e:aG Tryz.prog 226 = [172]:=by kernel_rfl
 rw [e,ahe]
 exact (ajg (lL (ax Tryz.prog (ai Tryz.prog aj) 172 (w 0)))).trans (by kernel_rfl)
structure iZ where
 t2:(Sl az)
 t3:Bool
 out:(Sl az)
 i:Int
 m:iR
instance:Inhabited iZ:=⟨⟨default,default,default,default,default⟩⟩
def Du (x:iZ):List KV:=[eA 40 df x.t2,.bool x.t3,eA 40 df x.out,.int .i64 x.i]
def Dv (x:iZ):List (List KV):=[Wg x.m]
def Rr (vs:List KV) (rs:List (List KV)):iZ:=⟨dP dv (vs.getD 0 .ao),dj (vs.getD 1 .ao),dP dv (vs.getD 2 .ao),ay (vs.getD 3 .ao),Wh (fun k=>(rs.getD 0 []).getD k .ao)⟩
def UC:aV:=⟨[(2,⟨false,[.k (.slice 40)]⟩),(3,⟨false,[.k .bool]⟩),(4,⟨false,[.bA 40]⟩),(5,⟨false,[.k (.int .i64)]⟩)],[(1,[.k (.slice 43),.k (.slice 185),.k (.slice 172)],1)],[(1,0,0)]⟩
structure gF where
 t2:(Sl az)
 t3:Bool
 out:(Sl az)
 i:Int
 l:(Sl az)
 k:Int
 m:iR
instance:Inhabited gF:=⟨by constructor<;>exact default⟩
def x7 (x:gF):List KV:=[eA 40 df x.t2,.bool x.t3,eA 40 df x.out,.int .i64 x.i,eA 40 df x.l,.int .i64 x.k]
def x8 (x:gF):List (List KV):=[Wg x.m]
def Kk (vs:List KV) (rs:List (List KV)):gF:=⟨dP dv (vs.getD 0 .ao),dj (vs.getD 1 .ao),dP dv (vs.getD 2 .ao),ay (vs.getD 3 .ao),dP dv (vs.getD 4 .ao),ay (vs.getD 5 .ao),Wh (fun k=>(rs.getD 0 []).getD k .ao)⟩
def MV:aV:=⟨[(2,⟨false,[.k (.slice 40)]⟩),(3,⟨false,[.k .bool]⟩),(4,⟨false,[.bA 40]⟩),(5,⟨false,[.k (.int .i64)]⟩),(6,⟨false,[.k (.slice 40)]⟩),(8,⟨false,[.k (.int .i64)]⟩)],[(1,[.k (.slice 43),.k (.slice 185),.k (.slice 172)],1)],[(1,0,0)]⟩
def YS:=dB Tryz.prog (bp Tryz.prog [(221,H4),(226,Kj)] [] (fun _=>false)) 9 9 222 29850 (dF Tryz.prog 222 29850) MV
def B5 (x:gF):(Option Bool):=(vl ((x.m.cG.get (Int.toNat x.i)).index.get (Int.toNat x.k)) (0:Int) (aR (((x.m.gh.n:Nat):Int) - (1:Int))))
def ja (x:gF):aW gF:=(cond ((decide ((0:Int)<=x.i))&&(decide (x.i < ((x.m.cG.n:Nat):Int)))) (cond (decide (x.k < (((x.m.cG.get (Int.toNat x.i)).index.n:Nat):Int))) (cond ((decide ((0:Int)<=x.i))&&(decide (x.i < ((x.m.cG.n:Nat):Int)))) (cond ((decide ((0:Int)<=x.k))&&(decide (x.k < (((x.m.cG.get (Int.toNat x.i)).index.n:Nat):Int)))) (cond (B5 x).isSome (cond (!((B5 x).getD default)) (cond (bz x.out.n x.out.n) (.out aB.ae.ret (⟨(⟨0,(fun i=>(⟨(0:Int),(0:Int),(0:Int)⟩:az))⟩:Sl _),false,x.out,x.i,x.l,x.k,x.m⟩:gF)) .fail) (cond (bz x.out.n x.out.n) (.next (⟨x.t2,x.t3,x.out,x.i,x.l,(aR (x.k+(1:Int))),x.m⟩:gF)) .fail)) .fail) .fail) .fail) (cond (bz x.out.n x.out.n) (.out (aB.ae.exit 2) x) .fail)) .fail)
theorem Tu (x:gF):YS (x7 x) (x8 x)=aW.enc x7 x8 (ja x):=by
 unfold ja
 try simp only [aW.cf]
 kernel_rfl
def vo:Lp:=⟨222,29850,MV,fun vs rs=>dC x7 x8 (goN ja (Kk vs rs)) [aB.ae.exit 2,aB.ae.ret],false⟩
theorem Kl:vo.Ok Tryz.prog:=b8 funcs mixed (ah.cons Ds (ah.cons I7 ah.nil)) au.nil (L:=9) (n:=9) (step:=ja) (ev:=x7) (er:=x8) (pa:=Kk) rfl (fun wv wr=>⟨by kernel_rfl,by kernel_rfl⟩) Tu
theorem F4:bZ Tryz.prog vo.f vo.p=true:=by kernel_rfl
def ahf:=dB Tryz.prog (bp Tryz.prog [(221,H4),(226,Kj)] [vo] (fun _=>false)) 9 9 222 58 (dF Tryz.prog 222 58) UC
def Bu (x:iZ):(Option (Prod (Sl az) Int)):=(Cs (x.m.cG.get (Int.toNat x.i)))
def cQ (x:iZ):(aW gF):=(goN ja (⟨x.t2,x.t3,x.out,x.i,((Bu x).getD default).fst,(0:Int),x.m⟩:gF))
def pA (x:iZ):aW iZ:=(cond (decide (x.i < ((x.m.cG.n:Nat):Int))) (cond ((decide ((0:Int)<=x.i))&&(decide (x.i < ((x.m.cG.n:Nat):Int)))) (cond (Bu x).isSome (cond (((Bu x).getD default).snd != (0:Int)) (cond (bz x.out.n x.out.n) (.out aB.ae.ret (⟨(⟨0,(fun i=>(⟨(0:Int),(0:Int),(0:Int)⟩:az))⟩:Sl _),false,x.out,x.i,x.m⟩:iZ)) .fail) (cond (bz x.out.n x.out.n) (cond ((cQ x).by (aB.ae.exit 2)) (cond ((bz (cQ x).st.out.n (cQ x).st.out.n)&&(kC 24 (cQ x).st.out.n (cQ x).st.l.n)) (cond (bz ((cQ x).st.out.n+(cQ x).st.l.n) ((cQ x).st.out.n+(cQ x).st.l.n)) (.next (⟨(cQ x).st.t2,(cQ x).st.t3,((cQ x).st.out.join (cQ x).st.l),(aR ((cQ x).st.i+(1:Int))),(cQ x).st.m⟩:iZ)) .fail) .fail) (cond ((cQ x).by aB.ae.ret) (cond (bz (cQ x).st.out.n (cQ x).st.out.n) (.out aB.ae.ret (⟨(cQ x).st.t2,(cQ x).st.t3,(cQ x).st.out,(cQ x).st.i,(cQ x).st.m⟩:iZ)) .fail) .fail)) .fail)) .fail) .fail) (cond (bz x.out.n x.out.n) (.out (aB.ae.exit 0) x) .fail))
theorem abf (x:iZ):ahf (Du x) (Dv x)=aW.enc Du Dv (pA x):=by
 unfold pA
 try simp only [aW.cf,lk]
 kernel_rfl
def Fw:Lp:=⟨222,58,UC,fun vs rs=>dC Du Dv (goN pA (Rr vs rs)) [aB.ae.exit 0,aB.ae.ret],false⟩
theorem ahg:Fw.Ok Tryz.prog:=b8 funcs mixed (ah.cons Ds (ah.cons I7 ah.nil)) (au.cons Kl F4 au.nil) (L:=9) (n:=9) (step:=pA) (ev:=Du) (er:=Dv) (pa:=Rr) rfl (fun wv wr=>⟨by kernel_rfl,by kernel_rfl⟩) abf
theorem YT:bZ Tryz.prog Fw.f Fw.p=true:=by kernel_rfl
def acV:List (Nat×(List KV->KR KV)):=[(221,H4),(226,Kj)]
def acW:List Lp:=[vo,Fw]
theorem ajh:ah Tryz.prog acV:=(ah.cons Ds (ah.cons I7 ah.nil))
theorem aji:au Tryz.prog acW:=(au.cons Kl F4 (au.cons ahg YT au.nil))
def zO (m:iR):(aW iZ):=(goN pA (⟨(⟨0,(fun i=>(⟨(0:Int),(0:Int),(0:Int)⟩:az))⟩:Sl _),false,(⟨0,(fun i=>(⟨(0:Int),(0:Int),(0:Int)⟩:az))⟩:Sl _),(0:Int),m⟩:iZ))
def EE (m:iR):Option ((Sl az)×Bool):=(cond ((zO m).by (aB.ae.exit 0)) (some ((zO m).st.out,true)) (cond ((zO m).by aB.ae.ret) (some ((zO m).st.t2,(zO m).st.t3)) none))
theorem al7 (m:iR):cD Tryz.prog (bp Tryz.prog acV acW (fun _=>false)) 9 9 222 [nY m] = (EE m).map (fun (r:(Sl az)×Bool)=>KV.na [(eA 40 df) r.1,kB r.2]):=by
 unfold EE
 try simp only [bq]
 kernel_rfl
def Wq:List KV->KR KV:=bI Tryz.prog 222 (bL (fun (r:(Sl az)×Bool)=>KV.na [(eA 40 df) r.1,kB r.2]) fun vs=>EE (jI (vs.getD 0 .ao)))
theorem ajj (w:Nat->KV):ck Tryz.prog [88] w 0 = [nY (jI (ax Tryz.prog (ai Tryz.prog aj) 88 (w 0)))]:=by kernel_rfl
theorem UD:bH Tryz.prog 222 Wq:=aL funcs mixed ajh aji (L:=9) (n:=9) fun w=>by
 have e:aG Tryz.prog 222 = [88]:=by kernel_rfl
 rw [e,ajj]
 exact (al7 (jI (ax Tryz.prog (ai Tryz.prog aj) 88 (w 0)))).trans (by kernel_rfl)
structure eD where
 t2:Bool
 i:Int
 m:iR
instance:Inhabited eD:=⟨⟨default,default,default⟩⟩
def Dw (x:eD):List KV:=[.bool x.t2,.int .i64 x.i]
def Dx (x:eD):List (List KV):=[Wg x.m]
def Rs (vs:List KV) (rs:List (List KV)):eD:=⟨dj (vs.getD 0 .ao),ay (vs.getD 1 .ao),Wh (fun k=>(rs.getD 0 []).getD k .ao)⟩
def UE:aV:=⟨[(2,⟨false,[.k .bool]⟩),(3,⟨false,[.k (.int .i64)]⟩)],[(1,[.k (.slice 43),.k (.slice 185),.k (.slice 172)],1)],[(1,0,0)]⟩
def ahh:=dB Tryz.prog (bp Tryz.prog [(222,Wq),(221,H4)] [] (fun _=>false)) 9 9 211 58 (dF Tryz.prog 211 58) UE
def GC (x:eD):(Option Bool):=(vl (x.m.gh.get (Int.toNat x.i)).x (-(1024:Int)) (1024:Int))
def GD (x:eD):(Option Bool):=(vl (x.m.gh.get (Int.toNat x.i)).y (-(1024:Int)) (1024:Int))
def GF (x:eD):(Option Bool):=(vl (x.m.gh.get (Int.toNat x.i)).z (-(1024:Int)) (1024:Int))
def GG (x:eD):(Option Bool):=(vl (x.m.uV.get (Int.toNat x.i)).e0 (0:Int) (255:Int))
def GH (x:eD):(Option Bool):=(vl (x.m.uV.get (Int.toNat x.i)).e1 (0:Int) (255:Int))
def kS (x:eD):aW eD:=(cond (decide (x.i < ((x.m.gh.n:Nat):Int))) (cond ((decide ((0:Int)<=x.i))&&(decide (x.i < ((x.m.gh.n:Nat):Int)))) (cond (GC x).isSome (cond (!((GC x).getD default)) (.out aB.ae.ret (⟨false,x.i,x.m⟩:eD)) (cond (GD x).isSome (cond (!((GD x).getD default)) (.out aB.ae.ret (⟨false,x.i,x.m⟩:eD)) (cond (GF x).isSome (cond (!((GF x).getD default)) (.out aB.ae.ret (⟨false,x.i,x.m⟩:eD)) (cond ((decide ((0:Int)<=x.i))&&(decide (x.i < ((x.m.uV.n:Nat):Int)))) (cond (GG x).isSome (cond (!((GG x).getD default)) (.out aB.ae.ret (⟨false,x.i,x.m⟩:eD)) (cond ((decide ((0:Int)<=x.i))&&(decide (x.i < ((x.m.uV.n:Nat):Int)))) (cond (GH x).isSome (cond (!((GH x).getD default)) (.out aB.ae.ret (⟨false,x.i,x.m⟩:eD)) (.next (⟨x.t2,(aR (x.i+(1:Int))),x.m⟩:eD))) .fail) .fail)) .fail) .fail)) .fail)) .fail)) .fail) .fail) (.out (aB.ae.exit 0) x))
theorem abg (x:eD):ahh (Dw x) (Dx x)=aW.enc Dw Dx (kS x):=by
 unfold kS
 try simp only [aW.cf]
 kernel_rfl
def Fx:Lp:=⟨211,58,UE,fun vs rs=>dC Dw Dx (goN kS (Rs vs rs)) [aB.ae.exit 0,aB.ae.ret],false⟩
theorem ahi:Fx.Ok Tryz.prog:=b8 funcs mixed (ah.cons UD (ah.cons Ds ah.nil)) au.nil (L:=9) (n:=9) (step:=kS) (ev:=Dw) (er:=Dx) (pa:=Rs) rfl (fun wv wr=>⟨by kernel_rfl,by kernel_rfl⟩) abg
theorem YU:bZ Tryz.prog Fx.f Fx.p=true:=by kernel_rfl
def acX:List (Nat×(List KV->KR KV)):=[(222,Wq),(221,H4)]
def acY:List Lp:=[Fx]
theorem ajk:ah Tryz.prog acX:=(ah.cons UD (ah.cons Ds ah.nil))
theorem ajl:au Tryz.prog acY:=(au.cons ahi YU au.nil)
def Dy (m:iR):(aW eD):=(goN kS (⟨false,(0:Int),m⟩:eD))
def HB (m:iR):(Option (Prod (Sl az) Bool)):=(EE (Dy m).st.m)
def EJ (m:iR):Option (Bool):=(cond (((m.uV.n:Nat):Int) != ((m.gh.n:Nat):Int)) (some (false)) (cond ((Dy m).by (aB.ae.exit 0)) (cond (HB m).isSome (cond ((HB m).getD default).snd (some ((decide (((((HB m).getD default).fst.n:Nat):Int)<=(64:Int))))) (some (false))) none) (cond ((Dy m).by aB.ae.ret) (some ((Dy m).st.t2)) none)))
theorem al8 (m:iR):cD Tryz.prog (bp Tryz.prog acX acY (fun _=>false)) 9 9 211 [nY m] = (EJ m).map kB:=by
 unfold EJ
 try simp only [bq]
 kernel_rfl
def ahj:List KV->KR KV:=bI Tryz.prog 211 (bL kB fun vs=>EJ (jI (vs.getD 0 .ao)))
theorem ajm (w:Nat->KV):ck Tryz.prog [88] w 0 = [nY (jI (ax Tryz.prog (ai Tryz.prog aj) 88 (w 0)))]:=by kernel_rfl
theorem ajn:bH Tryz.prog 211 ahj:=aL funcs mixed ajk ajl (L:=9) (n:=9) fun w=>by
 have e:aG Tryz.prog 211 = [88]:=by kernel_rfl
 rw [e,ajm]
 exact (al8 (jI (ax Tryz.prog (ai Tryz.prog aj) 88 (w 0)))).trans (by kernel_rfl)
def UF:List (Nat×(List KV->KR KV)):=[(211,ahj)]
def UG:List Lp:=[]
theorem adT:ah Tryz.prog UF:=(ah.cons ajn ah.nil)
theorem adU:au Tryz.prog UG:=au.nil
def I8 (m:iR):(Option Bool):=(EJ m)
def zP (m:iR):Option (Int):=(cond (decide (((m.gh.n:Nat):Int) > (64:Int))) (some ((4:Int))) (cond (decide (((m.uV.n:Nat):Int) > (64:Int))) (some ((4:Int))) (cond (decide (((m.cG.n:Nat):Int) > (16:Int))) (some ((4:Int))) (cond (I8 m).isSome (cond (!((I8 m).getD default)) (some ((40:Int))) (some ((0:Int)))) none))))
theorem ahk (m:iR):cD Tryz.prog (bp Tryz.prog UF UG (fun _=>false)) 9 9 179 [nY m] = (zP m).map (kI .i64):=by
 unfold zP
 try simp only [bq]
 kernel_rfl
def HC:List KV->KR KV:=bI Tryz.prog 179 (bL (kI .i64) fun vs=>zP (jI (vs.getD 0 .ao)))
theorem adV (w:Nat->KV):ck Tryz.prog [88] w 0 = [nY (jI (ax Tryz.prog (ai Tryz.prog aj) 88 (w 0)))]:=by kernel_rfl
theorem GI:bH Tryz.prog 179 HC:=aL funcs mixed adT adU (L:=9) (n:=9) fun w=>by
 have e:aG Tryz.prog 179 = [88]:=by kernel_rfl
 rw [e,adV]
 exact (ahk (jI (ax Tryz.prog (ai Tryz.prog aj) 88 (w 0)))).trans (by kernel_rfl)
def acZ:List (Nat×(List KV->KR KV)):=[]
def ac0:List Lp:=[]
theorem ajo:ah Tryz.prog acZ:=ah.nil
theorem ajp:au Tryz.prog ac0:=au.nil
def EL (t:je):Option (Bool):=(cond (decide (t.w >= (1:Int))) (cond (decide (t.w<=(16:Int))) (cond (decide (t.h >= (1:Int))) (cond (decide (t.h<=(16:Int))) (some ((((t.SY.n:Nat):Int)==(aR (t.w * t.h))))) (some (false))) (some (false))) (some (false))) (some (false)))
theorem al9 (t:je):cD Tryz.prog (bp Tryz.prog acZ ac0 (fun _=>false)) 9 9 180 [jE t] = (EL t).map kB:=by
 unfold EL
 try simp only [bq]
 kernel_rfl
def OD:List KV->KR KV:=bI Tryz.prog 180 (bL kB fun vs=>EL (eM (vs.getD 0 .ao)))
theorem ajq (w:Nat->KV):ck Tryz.prog [91] w 0 = [jE (eM (ax Tryz.prog (ai Tryz.prog aj) 91 (w 0)))]:=by kernel_rfl
theorem Ls:bH Tryz.prog 180 OD:=aL funcs mixed ajo ajp (L:=9) (n:=9) fun w=>by
 have e:aG Tryz.prog 180 = [91]:=by kernel_rfl
 rw [e,ajq]
 exact (al9 (eM (ax Tryz.prog (ai Tryz.prog aj) 91 (w 0)))).trans (by kernel_rfl)
structure gG where
 t2:Bool
 i:Int
 s:aP
instance:Inhabited gG:=⟨⟨default,default,default⟩⟩
def x9 (x:gG):List KV:=[.bool x.t2,.int .i64 x.i]
def ya (x:gG):List (List KV):=[uE x.s]
def Km (vs:List KV) (rs:List (List KV)):gG:=⟨dj (vs.getD 0 .ao),ay (vs.getD 1 .ao),uF (fun k=>(rs.getD 0 []).getD k .ao)⟩
def MW:aV:=⟨[(2,⟨false,[.k .bool]⟩),(3,⟨false,[.k (.int .i64)]⟩)],[(1,[.k (.slice 111),.k (.slice 35),.k (.slice 77),.k (.slice 88),.k (.slice 91),.k (.int .i64),.k (.int .i64)],1)],[(1,0,0)]⟩
def YV:=dB Tryz.prog (bp Tryz.prog [(180,OD),(179,HC)] [] (fun _=>false)) 9 9 130 26 (dF Tryz.prog 130 26) MW
def B6 (x:gG):(Option Int):=(zP (x.s.bX.get (Int.toNat x.i)))
def jb (x:gG):aW gG:=(cond (decide (x.i < ((x.s.bX.n:Nat):Int))) (cond ((decide ((0:Int)<=x.i))&&(decide (x.i < ((x.s.bX.n:Nat):Int)))) (cond (B6 x).isSome (cond (((B6 x).getD default) != (0:Int)) (.out aB.ae.ret (⟨false,x.i,x.s⟩:gG)) (.next (⟨x.t2,(aR (x.i+(1:Int))),x.s⟩:gG))) .fail) .fail) (.out (aB.ae.exit 0) x))
theorem Tv (x:gG):YV (x9 x) (ya x)=aW.enc x9 ya (jb x):=by
 unfold jb
 try simp only [aW.cf]
 kernel_rfl
def vp:Lp:=⟨130,26,MW,fun vs rs=>dC x9 ya (goN jb (Km vs rs)) [aB.ae.exit 0,aB.ae.ret],false⟩
theorem Kn:vp.Ok Tryz.prog:=b8 funcs mixed (ah.cons Ls (ah.cons GI ah.nil)) au.nil (L:=9) (n:=9) (step:=jb) (ev:=x9) (er:=ya) (pa:=Km) rfl (fun wv wr=>⟨by kernel_rfl,by kernel_rfl⟩) Tv
theorem F5:bZ Tryz.prog vp.f vp.p=true:=by kernel_rfl
structure gH where
 t2:Bool
 i:Int
 s:aP
instance:Inhabited gH:=⟨⟨default,default,default⟩⟩
def yb (x:gH):List KV:=[.bool x.t2,.int .i64 x.i]
def yc (x:gH):List (List KV):=[uE x.s]
def Ko (vs:List KV) (rs:List (List KV)):gH:=⟨dj (vs.getD 0 .ao),ay (vs.getD 1 .ao),uF (fun k=>(rs.getD 0 []).getD k .ao)⟩
def MX:aV:=⟨[(2,⟨false,[.k .bool]⟩),(4,⟨false,[.k (.int .i64)]⟩)],[(1,[.k (.slice 111),.k (.slice 35),.k (.slice 77),.k (.slice 88),.k (.slice 91),.k (.int .i64),.k (.int .i64)],1)],[(1,0,0)]⟩
def YW:=dB Tryz.prog (bp Tryz.prog [(180,OD),(179,HC)] [vp] (fun _=>false)) 9 9 130 58 (dF Tryz.prog 130 58) MX
def B7 (x:gH):(Option Bool):=(EL (x.s.dD.get (Int.toNat x.i)))
def jc (x:gH):aW gH:=(cond (decide (x.i < ((x.s.dD.n:Nat):Int))) (cond ((decide ((0:Int)<=x.i))&&(decide (x.i < ((x.s.dD.n:Nat):Int)))) (cond (B7 x).isSome (cond (!((B7 x).getD default)) (.out aB.ae.ret (⟨false,x.i,x.s⟩:gH)) (.next (⟨x.t2,(aR (x.i+(1:Int))),x.s⟩:gH))) .fail) .fail) (.out (aB.ae.exit 2) x))
theorem Tw (x:gH):YW (yb x) (yc x)=aW.enc yb yc (jc x):=by
 unfold jc
 try simp only [aW.cf]
 kernel_rfl
def zQ:Lp:=⟨130,58,MX,fun vs rs=>dC yb yc (goN jc (Ko vs rs)) [aB.ae.exit 2,aB.ae.ret],false⟩
theorem YX:zQ.Ok Tryz.prog:=b8 funcs mixed (ah.cons Ls (ah.cons GI ah.nil)) (au.cons Kn F5 au.nil) (L:=9) (n:=9) (step:=jc) (ev:=yb) (er:=yc) (pa:=Ko) rfl (fun wv wr=>⟨by kernel_rfl,by kernel_rfl⟩) Tw
theorem Rt:bZ Tryz.prog zQ.f zQ.p=true:=by kernel_rfl
def Ru:List (Nat×(List KV->KR KV)):=[(180,OD),(179,HC)]
def Rv:List Lp:=[vp,zQ]
theorem abh:ah Tryz.prog Ru:=(ah.cons Ls (ah.cons GI ah.nil))
theorem abi:au Tryz.prog Rv:=(au.cons Kn F5 (au.cons YX Rt au.nil))
def qL (s:aP):(aW gG):=(goN jb (⟨false,(0:Int),s⟩:gG))
def mS (s:aP):(aW gH):=(goN jc (⟨(qL s).st.t2,(0:Int),(qL s).st.s⟩:gH))
def xt (s:aP):Option (Bool):=(cond ((qL s).by (aB.ae.exit 0)) (cond ((mS s).by (aB.ae.exit 2)) (cond (decide ((((mS s).st.s.bX.n:Nat):Int)<=(32:Int))) (some ((decide ((((mS s).st.s.dD.n:Nat):Int)<=(16:Int))))) (some (false))) (cond ((mS s).by aB.ae.ret) (some ((mS s).st.t2)) none)) (cond ((qL s).by aB.ae.ret) (some ((qL s).st.t2)) none))
theorem adW (s:aP):cD Tryz.prog (bp Tryz.prog Ru Rv (fun _=>false)) 9 9 130 [dx s] = (xt s).map kB:=by
 unfold xt
 try simp only [bq]
 kernel_rfl
def Lt:List KV->KR KV:=bI Tryz.prog 130 (bL kB fun vs=>xt (b6 (vs.getD 0 .ao)))
theorem abj (w:Nat->KV):ck Tryz.prog [34] w 0 = [dx (b6 (ax Tryz.prog (ai Tryz.prog aj) 34 (w 0)))]:=by kernel_rfl
theorem MZ:bH Tryz.prog 130 Lt:=aL funcs mixed abh abi (L:=9) (n:=9) fun w=>by
 have e:aG Tryz.prog 130 = [34]:=by kernel_rfl
 rw [e,abj]
 exact (adW (b6 (ax Tryz.prog (ai Tryz.prog aj) 34 (w 0)))).trans (by kernel_rfl)
def ahl:List (Nat×(List KV->KR KV)):=[]
def ahm:List Lp:=[]
theorem ama:ah Tryz.prog ahl:=ah.nil
theorem amb:au Tryz.prog ahm:=au.nil
def nv (n:Int) (cA:Int):Option (Bool):=(cond (decide (n >= (aR ((0:Int) - cA)))) (some ((decide (n<=cA)))) (some (false)))
theorem aol (n:Int) (cA:Int):cD Tryz.prog (bp Tryz.prog ahl ahm (fun _=>false)) 9 9 189 [(kI .i64) n,(kI .i64) cA] = (nv n cA).map kB:=by
 unfold nv
 try simp only [bq]
 kernel_rfl
def abk:List KV->KR KV:=bI Tryz.prog 189 (bL kB fun vs=>nv (ay (vs.getD 0 .ao)) (ay (vs.getD 1 .ao)))
theorem amc (w:Nat->KV):ck Tryz.prog [3,3] w 0 = [(kI .i64) (ay (ax Tryz.prog (ai Tryz.prog aj) 3 (w 0))),(kI .i64) (ay (ax Tryz.prog (ai Tryz.prog aj) 3 (w 1)))]:=by kernel_rfl
theorem YY:bH Tryz.prog 189 abk:=aL funcs mixed ama amb (L:=9) (n:=9) fun w=>by
 have e:aG Tryz.prog 189 = [3,3]:=by kernel_rfl
 rw [e,amc]
 exact (aol (ay (ax Tryz.prog (ai Tryz.prog aj) 3 (w 0))) (ay (ax Tryz.prog (ai Tryz.prog aj) 3 (w 1)))).trans (by kernel_rfl)
def YZ:List (Nat×(List KV->KR KV)):=[(189,abk)]
def Y0:List Lp:=[]
theorem ahn:ah Tryz.prog YZ:=(ah.cons YY ah.nil)
theorem aho:au Tryz.prog Y0:=au.nil
def Lu (m:bw) (cA:Int):(Option Bool):=(nv m.e0.e0 cA)
def Lv (m:bw) (cA:Int):(Option Bool):=(nv m.e0.e1 cA)
def Lw (m:bw) (cA:Int):(Option Bool):=(nv m.e0.e2 cA)
def Lx (m:bw) (cA:Int):(Option Bool):=(nv m.e1.e0 cA)
def Ly (m:bw) (cA:Int):(Option Bool):=(nv m.e1.e1 cA)
def Lz (m:bw) (cA:Int):(Option Bool):=(nv m.e1.e2 cA)
def LA (m:bw) (cA:Int):(Option Bool):=(nv m.e2.e0 cA)
def LB (m:bw) (cA:Int):(Option Bool):=(nv m.e2.e1 cA)
def LC (m:bw) (cA:Int):(Option Bool):=(nv m.e2.e2 cA)
def Ct (m:bw) (cA:Int):Option (Bool):=(cond (Lu m cA).isSome (cond (!((Lu m cA).getD default)) (some (false)) (cond (Lv m cA).isSome (cond (!((Lv m cA).getD default)) (some (false)) (cond (Lw m cA).isSome (cond (!((Lw m cA).getD default)) (some (false)) (cond (Lx m cA).isSome (cond (!((Lx m cA).getD default)) (some (false)) (cond (Ly m cA).isSome (cond (!((Ly m cA).getD default)) (some (false)) (cond (Lz m cA).isSome (cond (!((Lz m cA).getD default)) (some (false)) (cond (LA m cA).isSome (cond (!((LA m cA).getD default)) (some (false)) (cond (LB m cA).isSome (cond (!((LB m cA).getD default)) (some (false)) (cond (LC m cA).isSome (cond (!((LC m cA).getD default)) (some (false)) (some (true))) none)) none)) none)) none)) none)) none)) none)) none)) none)
theorem ajr (m:bw) (cA:Int):cD Tryz.prog (bp Tryz.prog YZ Y0 (fun _=>false)) 9 9 188 [gb m,(kI .i64) cA] = (Ct m cA).map kB:=by
 unfold Ct
 try simp only [bq]
 kernel_rfl
def ac1:List KV->KR KV:=bI Tryz.prog 188 (bL kB fun vs=>Ct (cV (vs.getD 0 .ao)) (ay (vs.getD 1 .ao)))
theorem ahp (w:Nat->KV):ck Tryz.prog [41,3] w 0 = [gb (cV (ax Tryz.prog (ai Tryz.prog aj) 41 (w 0))),(kI .i64) (ay (ax Tryz.prog (ai Tryz.prog aj) 3 (w 1)))]:=by kernel_rfl
theorem ahq:bH Tryz.prog 188 ac1:=aL funcs mixed ahn aho (L:=9) (n:=9) fun w=>by
 have e:aG Tryz.prog 188 = [41,3]:=by kernel_rfl
 rw [e,ahp]
 exact (ajr (cV (ax Tryz.prog (ai Tryz.prog aj) 41 (w 0))) (ay (ax Tryz.prog (ai Tryz.prog aj) 3 (w 1)))).trans (by kernel_rfl)
def ac2:List (Nat×(List KV->KR KV)):=[(189,abk)]
def ac3:List Lp:=[]
theorem ajs:ah Tryz.prog ac2:=(ah.cons YY ah.nil)
theorem ajt:au Tryz.prog ac3:=au.nil
def OE (v:fO) (cA:Int):(Option Bool):=(nv v.x cA)
def OG (v:fO) (cA:Int):(Option Bool):=(nv v.y cA)
def OH (v:fO) (cA:Int):(Option Bool):=(nv v.z cA)
def B8 (v:fO) (cA:Int):Option (Bool):=(cond (OE v cA).isSome (cond ((OE v cA).getD default) (cond (OG v cA).isSome (cond ((OG v cA).getD default) (cond (OH v cA).isSome (some (((OH v cA).getD default))) none) (some (false))) none) (some (false))) none)
theorem amd (v:fO) (cA:Int):cD Tryz.prog (bp Tryz.prog ac2 ac3 (fun _=>false)) 9 9 139 [mr v,(kI .i64) cA] = (B8 v cA).map kB:=by
 unfold B8
 try simp only [bq]
 kernel_rfl
def Wr:List KV->KR KV:=bI Tryz.prog 139 (bL kB fun vs=>B8 (kL (vs.getD 0 .ao)) (ay (vs.getD 1 .ao)))
theorem aju (w:Nat->KV):ck Tryz.prog [43,3] w 0 = [mr (kL (ax Tryz.prog (ai Tryz.prog aj) 43 (w 0))),(kI .i64) (ay (ax Tryz.prog (ai Tryz.prog aj) 3 (w 1)))]:=by kernel_rfl
theorem UH:bH Tryz.prog 139 Wr:=aL funcs mixed ajs ajt (L:=9) (n:=9) fun w=>by
 have e:aG Tryz.prog 139 = [43,3]:=by kernel_rfl
 rw [e,aju]
 exact (amd (kL (ax Tryz.prog (ai Tryz.prog aj) 43 (w 0))) (ay (ax Tryz.prog (ai Tryz.prog aj) 3 (w 1)))).trans (by kernel_rfl)
def ac4:List (Nat×(List KV->KR KV)):=[(139,Wr),(188,ac1)]
def ac5:List Lp:=[]
theorem ajv:ah Tryz.prog ac4:=(ah.cons UH (ah.cons ahq ah.nil))
theorem ajw:au Tryz.prog ac5:=au.nil
def OI (m:dm):(Option Bool):=(Ct m.m (1024:Int))
def OJ (m:dm):(Option Bool):=(B8 m.t (4096:Int))
def wk (m:dm):Option (Bool):=(cond (OI m).isSome (cond ((OI m).getD default) (cond (OJ m).isSome (some (((OJ m).getD default))) none) (some (false))) none)
theorem ame (m:dm):cD Tryz.prog (bp Tryz.prog ac4 ac5 (fun _=>false)) 9 9 138 [mu m] = (wk m).map kB:=by
 unfold wk
 try simp only [bq]
 kernel_rfl
def Ws:List KV->KR KV:=bI Tryz.prog 138 (bL kB fun vs=>wk (mv (vs.getD 0 .ao)))
theorem ajx (w:Nat->KV):ck Tryz.prog [45] w 0 = [mu (mv (ax Tryz.prog (ai Tryz.prog aj) 45 (w 0)))]:=by kernel_rfl
theorem UI:bH Tryz.prog 138 Ws:=aL funcs mixed ajv ajw (L:=9) (n:=9) fun w=>by
 have e:aG Tryz.prog 138 = [45]:=by kernel_rfl
 rw [e,ajx]
 exact (ame (mv (ax Tryz.prog (ai Tryz.prog aj) 45 (w 0)))).trans (by kernel_rfl)
structure dH where
 l:(Sl Int)
 t2:Bool
 i:Int
instance:Inhabited dH:=⟨⟨default,default,default⟩⟩
def tQ (x:dH):List KV:=[eA 3 (kI .i64) x.l,.bool x.t2,.int .i64 x.i]
def tR (x:dH):List (List KV):=[]
def F6 (vs:List KV) (rs:List (List KV)):dH:=⟨dP ay (vs.getD 0 .ao),dj (vs.getD 1 .ao),ay (vs.getD 2 .ao)⟩
def G3:aV:=⟨[(0,⟨false,[.k (.slice 3)]⟩),(2,⟨false,[.k .bool]⟩),(3,⟨false,[.k (.int .i64)]⟩)],[],[]⟩
def Rw:=dB Tryz.prog (bp Tryz.prog [] [] (fun _=>false)) 9 9 140 26 (dF Tryz.prog 140 26) G3
def fU (x:dH):aW dH:=(cond (decide (x.i < ((x.l.n:Nat):Int))) (cond ((decide ((0:Int)<=x.i))&&(decide (x.i < ((x.l.n:Nat):Int)))) (cond (decide ((x.l.get (Int.toNat x.i)) < (0:Int))) (.out aB.ae.ret (⟨x.l,false,x.i⟩:dH)) (cond ((decide ((0:Int)<=x.i))&&(decide (x.i < ((x.l.n:Nat):Int)))) (cond (decide ((x.l.get (Int.toNat x.i)) > (8192:Int))) (.out aB.ae.ret (⟨x.l,false,x.i⟩:dH)) (cond (decide (x.i > (0:Int))) (cond ((decide ((0:Int)<=x.i))&&(decide (x.i < ((x.l.n:Nat):Int)))) (cond ((decide ((0:Int)<=(aR (x.i - (1:Int)))))&&(decide ((aR (x.i - (1:Int))) < ((x.l.n:Nat):Int)))) (cond (decide ((x.l.get (Int.toNat x.i)) < (x.l.get (Int.toNat (aR (x.i - (1:Int))))))) (.out aB.ae.ret (⟨x.l,false,x.i⟩:dH)) (.next (⟨x.l,x.t2,(aR (x.i+(1:Int)))⟩:dH))) .fail) .fail) (.next (⟨x.l,x.t2,(aR (x.i+(1:Int)))⟩:dH)))) .fail)) .fail) (.out (aB.ae.exit 0) x))
theorem OK (x:dH):Rw (tQ x) (tR x)=aW.enc tQ tR (fU x):=by
 unfold fU
 try simp only [aW.cf]
 kernel_rfl
def uI:Lp:=⟨140,26,G3,fun vs rs=>dC tQ tR (goN fU (F6 vs rs)) [aB.ae.exit 0,aB.ae.ret],false⟩
theorem Rx:uI.Ok Tryz.prog:=b8 funcs mixed ah.nil au.nil (L:=9) (n:=9) (step:=fU) (ev:=tQ) (er:=tR) (pa:=F6) rfl (fun wv wr=>⟨by kernel_rfl,by kernel_rfl⟩) OK
theorem M0:bZ Tryz.prog uI.f uI.p=true:=by kernel_rfl
def Kq:List (Nat×(List KV->KR KV)):=[]
def Kr:List Lp:=[uI]
theorem Tx:ah Tryz.prog Kq:=ah.nil
theorem Ty:au Tryz.prog Kr:=(au.cons Rx M0 au.nil)
def rZ (l:(Sl Int)):(aW dH):=(goN fU (⟨l,false,(0:Int)⟩:dH))
def rR (l:(Sl Int)):Option (Bool):=(cond ((rZ l).by (aB.ae.exit 0)) (some ((decide ((((rZ l).st.l.n:Nat):Int)<=(16:Int))))) (cond ((rZ l).by aB.ae.ret) (some ((rZ l).st.t2)) none))
theorem Wt (l:(Sl Int)):cD Tryz.prog (bp Tryz.prog Kq Kr (fun _=>false)) 9 9 140 [(eA 3 (kI .i64)) l] = (rR l).map kB:=by
 unfold rR
 try simp only [bq]
 kernel_rfl
def M1:List KV->KR KV:=bI Tryz.prog 140 (bL kB fun vs=>rR ((dP ay) (vs.getD 0 .ao)))
theorem Tz (w:Nat->KV):ck Tryz.prog [36] w 0 = [(eA 3 (kI .i64)) ((dP ay) (ax Tryz.prog (ai Tryz.prog aj) 36 (w 0)))]:=by kernel_rfl
theorem TA:bH Tryz.prog 140 M1:=aL funcs mixed Tx Ty (L:=9) (n:=9) fun w=>by
 have e:aG Tryz.prog 140 = [36]:=by kernel_rfl
 rw [e,Tz]
 exact (Wt ((dP ay) (ax Tryz.prog (ai Tryz.prog aj) 36 (w 0)))).trans (by kernel_rfl)
def Py:List (Nat×(List KV->KR KV)):=[(140,M1),(139,Wr),(138,Ws),(103,ag9)]
def Pz:List Lp:=[]
theorem Y1:ah Tryz.prog Py:=(ah.cons TA (ah.cons UH (ah.cons UI (ah.cons ajf ah.nil))))
theorem Y2:au Tryz.prog Pz:=au.nil
def EM (s:aP) (n:Node):(Option Bool):=(ED n.b7)
def lM (s:aP) (n:Node):(Option Bool):=(wk n.gd)
def aC (s:aP) (n:Node):(Option Bool):=(B8 n.cl (4096:Int))
def aD (s:aP) (n:Node):(Option Bool):=(rR n.nb)
def vq (s:aP) (n:Node):Option (Bool):=(cond (decide (n.kind < (1:Int))) (some (false)) (cond (decide (n.kind > (5:Int))) (some (false)) (cond (EM s n).isSome (cond (!((EM s n).getD default)) (some (false)) (cond (decide (n.b7.bN.e1 > (0:Int))) (cond (decide (n.b7.look.cN >= ((s.dD.n:Nat):Int))) (some (false)) (cond (n.kind != (2:Int)) (cond (!((n.gd.m.e0.e0==(0:Int))&&((n.gd.m.e0.e1==(0:Int))&&((n.gd.m.e0.e2==(0:Int))&&((n.gd.m.e1.e0==(0:Int))&&((n.gd.m.e1.e1==(0:Int))&&((n.gd.m.e1.e2==(0:Int))&&((n.gd.m.e2.e0==(0:Int))&&((n.gd.m.e2.e1==(0:Int))&&((n.gd.m.e2.e2==(0:Int))&&((n.gd.t.x==(0:Int))&&((n.gd.t.y==(0:Int))&&((n.gd.t.z==(0:Int))&&true))))))))))))) (some (false)) (cond (n.kind==(2:Int)) (cond (lM s n).isSome (cond (!((lM s n).getD default)) (some (false)) (cond (n.kind != (3:Int)) (cond (n.uz != (0:Int)) (some (false)) (cond (n.kind != (4:Int)) (cond (!((n.cl.x==(0:Int))&&((n.cl.y==(0:Int))&&((n.cl.z==(0:Int))&&true)))) (some (false)) (cond (decide (((n.nb.n:Nat):Int) > (0:Int))) (some (false)) (cond (n.kind==(5:Int)) (cond (decide (n.cJ >= (0:Int))) (some ((decide (n.cJ < ((s.bX.n:Nat):Int))))) (some (false))) (cond (n.cJ==(0:Int)) (cond (aC s n).isSome (cond ((aC s n).getD default) (cond (aD s n).isSome (some (((aD s n).getD default))) none) (some (false))) none) (some (false)))))) (cond (n.kind==(5:Int)) (cond (decide (n.cJ >= (0:Int))) (some ((decide (n.cJ < ((s.bX.n:Nat):Int))))) (some (false))) (cond (n.cJ==(0:Int)) (cond (aC s n).isSome (cond ((aC s n).getD default) (cond (aD s n).isSome (some (((aD s n).getD default))) none) (some (false))) none) (some (false)))))) (cond (n.kind != (4:Int)) (cond (!((n.cl.x==(0:Int))&&((n.cl.y==(0:Int))&&((n.cl.z==(0:Int))&&true)))) (some (false)) (cond (decide (((n.nb.n:Nat):Int) > (0:Int))) (some (false)) (cond (n.kind==(5:Int)) (cond (decide (n.cJ >= (0:Int))) (some ((decide (n.cJ < ((s.bX.n:Nat):Int))))) (some (false))) (cond (n.cJ==(0:Int)) (cond (aC s n).isSome (cond ((aC s n).getD default) (cond (aD s n).isSome (some (((aD s n).getD default))) none) (some (false))) none) (some (false)))))) (cond (n.kind==(5:Int)) (cond (decide (n.cJ >= (0:Int))) (some ((decide (n.cJ < ((s.bX.n:Nat):Int))))) (some (false))) (cond (n.cJ==(0:Int)) (cond (aC s n).isSome (cond ((aC s n).getD default) (cond (aD s n).isSome (some (((aD s n).getD default))) none) (some (false))) none) (some (false))))))) none) (cond (n.kind != (3:Int)) (cond (n.uz != (0:Int)) (some (false)) (cond (n.kind != (4:Int)) (cond (!((n.cl.x==(0:Int))&&((n.cl.y==(0:Int))&&((n.cl.z==(0:Int))&&true)))) (some (false)) (cond (decide (((n.nb.n:Nat):Int) > (0:Int))) (some (false)) (cond (n.kind==(5:Int)) (cond (decide (n.cJ >= (0:Int))) (some ((decide (n.cJ < ((s.bX.n:Nat):Int))))) (some (false))) (cond (n.cJ==(0:Int)) (cond (aC s n).isSome (cond ((aC s n).getD default) (cond (aD s n).isSome (some (((aD s n).getD default))) none) (some (false))) none) (some (false)))))) (cond (n.kind==(5:Int)) (cond (decide (n.cJ >= (0:Int))) (some ((decide (n.cJ < ((s.bX.n:Nat):Int))))) (some (false))) (cond (n.cJ==(0:Int)) (cond (aC s n).isSome (cond ((aC s n).getD default) (cond (aD s n).isSome (some (((aD s n).getD default))) none) (some (false))) none) (some (false)))))) (cond (n.kind != (4:Int)) (cond (!((n.cl.x==(0:Int))&&((n.cl.y==(0:Int))&&((n.cl.z==(0:Int))&&true)))) (some (false)) (cond (decide (((n.nb.n:Nat):Int) > (0:Int))) (some (false)) (cond (n.kind==(5:Int)) (cond (decide (n.cJ >= (0:Int))) (some ((decide (n.cJ < ((s.bX.n:Nat):Int))))) (some (false))) (cond (n.cJ==(0:Int)) (cond (aC s n).isSome (cond ((aC s n).getD default) (cond (aD s n).isSome (some (((aD s n).getD default))) none) (some (false))) none) (some (false)))))) (cond (n.kind==(5:Int)) (cond (decide (n.cJ >= (0:Int))) (some ((decide (n.cJ < ((s.bX.n:Nat):Int))))) (some (false))) (cond (n.cJ==(0:Int)) (cond (aC s n).isSome (cond ((aC s n).getD default) (cond (aD s n).isSome (some (((aD s n).getD default))) none) (some (false))) none) (some (false)))))))) (cond (n.kind==(2:Int)) (cond (lM s n).isSome (cond (!((lM s n).getD default)) (some (false)) (cond (n.kind != (3:Int)) (cond (n.uz != (0:Int)) (some (false)) (cond (n.kind != (4:Int)) (cond (!((n.cl.x==(0:Int))&&((n.cl.y==(0:Int))&&((n.cl.z==(0:Int))&&true)))) (some (false)) (cond (decide (((n.nb.n:Nat):Int) > (0:Int))) (some (false)) (cond (n.kind==(5:Int)) (cond (decide (n.cJ >= (0:Int))) (some ((decide (n.cJ < ((s.bX.n:Nat):Int))))) (some (false))) (cond (n.cJ==(0:Int)) (cond (aC s n).isSome (cond ((aC s n).getD default) (cond (aD s n).isSome (some (((aD s n).getD default))) none) (some (false))) none) (some (false)))))) (cond (n.kind==(5:Int)) (cond (decide (n.cJ >= (0:Int))) (some ((decide (n.cJ < ((s.bX.n:Nat):Int))))) (some (false))) (cond (n.cJ==(0:Int)) (cond (aC s n).isSome (cond ((aC s n).getD default) (cond (aD s n).isSome (some (((aD s n).getD default))) none) (some (false))) none) (some (false)))))) (cond (n.kind != (4:Int)) (cond (!((n.cl.x==(0:Int))&&((n.cl.y==(0:Int))&&((n.cl.z==(0:Int))&&true)))) (some (false)) (cond (decide (((n.nb.n:Nat):Int) > (0:Int))) (some (false)) (cond (n.kind==(5:Int)) (cond (decide (n.cJ >= (0:Int))) (some ((decide (n.cJ < ((s.bX.n:Nat):Int))))) (some (false))) (cond (n.cJ==(0:Int)) (cond (aC s n).isSome (cond ((aC s n).getD default) (cond (aD s n).isSome (some (((aD s n).getD default))) none) (some (false))) none) (some (false)))))) (cond (n.kind==(5:Int)) (cond (decide (n.cJ >= (0:Int))) (some ((decide (n.cJ < ((s.bX.n:Nat):Int))))) (some (false))) (cond (n.cJ==(0:Int)) (cond (aC s n).isSome (cond ((aC s n).getD default) (cond (aD s n).isSome (some (((aD s n).getD default))) none) (some (false))) none) (some (false))))))) none) (cond (n.kind != (3:Int)) (cond (n.uz != (0:Int)) (some (false)) (cond (n.kind != (4:Int)) (cond (!((n.cl.x==(0:Int))&&((n.cl.y==(0:Int))&&((n.cl.z==(0:Int))&&true)))) (some (false)) (cond (decide (((n.nb.n:Nat):Int) > (0:Int))) (some (false)) (cond (n.kind==(5:Int)) (cond (decide (n.cJ >= (0:Int))) (some ((decide (n.cJ < ((s.bX.n:Nat):Int))))) (some (false))) (cond (n.cJ==(0:Int)) (cond (aC s n).isSome (cond ((aC s n).getD default) (cond (aD s n).isSome (some (((aD s n).getD default))) none) (some (false))) none) (some (false)))))) (cond (n.kind==(5:Int)) (cond (decide (n.cJ >= (0:Int))) (some ((decide (n.cJ < ((s.bX.n:Nat):Int))))) (some (false))) (cond (n.cJ==(0:Int)) (cond (aC s n).isSome (cond ((aC s n).getD default) (cond (aD s n).isSome (some (((aD s n).getD default))) none) (some (false))) none) (some (false)))))) (cond (n.kind != (4:Int)) (cond (!((n.cl.x==(0:Int))&&((n.cl.y==(0:Int))&&((n.cl.z==(0:Int))&&true)))) (some (false)) (cond (decide (((n.nb.n:Nat):Int) > (0:Int))) (some (false)) (cond (n.kind==(5:Int)) (cond (decide (n.cJ >= (0:Int))) (some ((decide (n.cJ < ((s.bX.n:Nat):Int))))) (some (false))) (cond (n.cJ==(0:Int)) (cond (aC s n).isSome (cond ((aC s n).getD default) (cond (aD s n).isSome (some (((aD s n).getD default))) none) (some (false))) none) (some (false)))))) (cond (n.kind==(5:Int)) (cond (decide (n.cJ >= (0:Int))) (some ((decide (n.cJ < ((s.bX.n:Nat):Int))))) (some (false))) (cond (n.cJ==(0:Int)) (cond (aC s n).isSome (cond ((aC s n).getD default) (cond (aD s n).isSome (some (((aD s n).getD default))) none) (some (false))) none) (some (false))))))))) (cond (n.kind != (2:Int)) (cond (!((n.gd.m.e0.e0==(0:Int))&&((n.gd.m.e0.e1==(0:Int))&&((n.gd.m.e0.e2==(0:Int))&&((n.gd.m.e1.e0==(0:Int))&&((n.gd.m.e1.e1==(0:Int))&&((n.gd.m.e1.e2==(0:Int))&&((n.gd.m.e2.e0==(0:Int))&&((n.gd.m.e2.e1==(0:Int))&&((n.gd.m.e2.e2==(0:Int))&&((n.gd.t.x==(0:Int))&&((n.gd.t.y==(0:Int))&&((n.gd.t.z==(0:Int))&&true))))))))))))) (some (false)) (cond (n.kind==(2:Int)) (cond (lM s n).isSome (cond (!((lM s n).getD default)) (some (false)) (cond (n.kind != (3:Int)) (cond (n.uz != (0:Int)) (some (false)) (cond (n.kind != (4:Int)) (cond (!((n.cl.x==(0:Int))&&((n.cl.y==(0:Int))&&((n.cl.z==(0:Int))&&true)))) (some (false)) (cond (decide (((n.nb.n:Nat):Int) > (0:Int))) (some (false)) (cond (n.kind==(5:Int)) (cond (decide (n.cJ >= (0:Int))) (some ((decide (n.cJ < ((s.bX.n:Nat):Int))))) (some (false))) (cond (n.cJ==(0:Int)) (cond (aC s n).isSome (cond ((aC s n).getD default) (cond (aD s n).isSome (some (((aD s n).getD default))) none) (some (false))) none) (some (false)))))) (cond (n.kind==(5:Int)) (cond (decide (n.cJ >= (0:Int))) (some ((decide (n.cJ < ((s.bX.n:Nat):Int))))) (some (false))) (cond (n.cJ==(0:Int)) (cond (aC s n).isSome (cond ((aC s n).getD default) (cond (aD s n).isSome (some (((aD s n).getD default))) none) (some (false))) none) (some (false)))))) (cond (n.kind != (4:Int)) (cond (!((n.cl.x==(0:Int))&&((n.cl.y==(0:Int))&&((n.cl.z==(0:Int))&&true)))) (some (false)) (cond (decide (((n.nb.n:Nat):Int) > (0:Int))) (some (false)) (cond (n.kind==(5:Int)) (cond (decide (n.cJ >= (0:Int))) (some ((decide (n.cJ < ((s.bX.n:Nat):Int))))) (some (false))) (cond (n.cJ==(0:Int)) (cond (aC s n).isSome (cond ((aC s n).getD default) (cond (aD s n).isSome (some (((aD s n).getD default))) none) (some (false))) none) (some (false)))))) (cond (n.kind==(5:Int)) (cond (decide (n.cJ >= (0:Int))) (some ((decide (n.cJ < ((s.bX.n:Nat):Int))))) (some (false))) (cond (n.cJ==(0:Int)) (cond (aC s n).isSome (cond ((aC s n).getD default) (cond (aD s n).isSome (some (((aD s n).getD default))) none) (some (false))) none) (some (false))))))) none) (cond (n.kind != (3:Int)) (cond (n.uz != (0:Int)) (some (false)) (cond (n.kind != (4:Int)) (cond (!((n.cl.x==(0:Int))&&((n.cl.y==(0:Int))&&((n.cl.z==(0:Int))&&true)))) (some (false)) (cond (decide (((n.nb.n:Nat):Int) > (0:Int))) (some (false)) (cond (n.kind==(5:Int)) (cond (decide (n.cJ >= (0:Int))) (some ((decide (n.cJ < ((s.bX.n:Nat):Int))))) (some (false))) (cond (n.cJ==(0:Int)) (cond (aC s n).isSome (cond ((aC s n).getD default) (cond (aD s n).isSome (some (((aD s n).getD default))) none) (some (false))) none) (some (false)))))) (cond (n.kind==(5:Int)) (cond (decide (n.cJ >= (0:Int))) (some ((decide (n.cJ < ((s.bX.n:Nat):Int))))) (some (false))) (cond (n.cJ==(0:Int)) (cond (aC s n).isSome (cond ((aC s n).getD default) (cond (aD s n).isSome (some (((aD s n).getD default))) none) (some (false))) none) (some (false)))))) (cond (n.kind != (4:Int)) (cond (!((n.cl.x==(0:Int))&&((n.cl.y==(0:Int))&&((n.cl.z==(0:Int))&&true)))) (some (false)) (cond (decide (((n.nb.n:Nat):Int) > (0:Int))) (some (false)) (cond (n.kind==(5:Int)) (cond (decide (n.cJ >= (0:Int))) (some ((decide (n.cJ < ((s.bX.n:Nat):Int))))) (some (false))) (cond (n.cJ==(0:Int)) (cond (aC s n).isSome (cond ((aC s n).getD default) (cond (aD s n).isSome (some (((aD s n).getD default))) none) (some (false))) none) (some (false)))))) (cond (n.kind==(5:Int)) (cond (decide (n.cJ >= (0:Int))) (some ((decide (n.cJ < ((s.bX.n:Nat):Int))))) (some (false))) (cond (n.cJ==(0:Int)) (cond (aC s n).isSome (cond ((aC s n).getD default) (cond (aD s n).isSome (some (((aD s n).getD default))) none) (some (false))) none) (some (false)))))))) (cond (n.kind==(2:Int)) (cond (lM s n).isSome (cond (!((lM s n).getD default)) (some (false)) (cond (n.kind != (3:Int)) (cond (n.uz != (0:Int)) (some (false)) (cond (n.kind != (4:Int)) (cond (!((n.cl.x==(0:Int))&&((n.cl.y==(0:Int))&&((n.cl.z==(0:Int))&&true)))) (some (false)) (cond (decide (((n.nb.n:Nat):Int) > (0:Int))) (some (false)) (cond (n.kind==(5:Int)) (cond (decide (n.cJ >= (0:Int))) (some ((decide (n.cJ < ((s.bX.n:Nat):Int))))) (some (false))) (cond (n.cJ==(0:Int)) (cond (aC s n).isSome (cond ((aC s n).getD default) (cond (aD s n).isSome (some (((aD s n).getD default))) none) (some (false))) none) (some (false)))))) (cond (n.kind==(5:Int)) (cond (decide (n.cJ >= (0:Int))) (some ((decide (n.cJ < ((s.bX.n:Nat):Int))))) (some (false))) (cond (n.cJ==(0:Int)) (cond (aC s n).isSome (cond ((aC s n).getD default) (cond (aD s n).isSome (some (((aD s n).getD default))) none) (some (false))) none) (some (false)))))) (cond (n.kind != (4:Int)) (cond (!((n.cl.x==(0:Int))&&((n.cl.y==(0:Int))&&((n.cl.z==(0:Int))&&true)))) (some (false)) (cond (decide (((n.nb.n:Nat):Int) > (0:Int))) (some (false)) (cond (n.kind==(5:Int)) (cond (decide (n.cJ >= (0:Int))) (some ((decide (n.cJ < ((s.bX.n:Nat):Int))))) (some (false))) (cond (n.cJ==(0:Int)) (cond (aC s n).isSome (cond ((aC s n).getD default) (cond (aD s n).isSome (some (((aD s n).getD default))) none) (some (false))) none) (some (false)))))) (cond (n.kind==(5:Int)) (cond (decide (n.cJ >= (0:Int))) (some ((decide (n.cJ < ((s.bX.n:Nat):Int))))) (some (false))) (cond (n.cJ==(0:Int)) (cond (aC s n).isSome (cond ((aC s n).getD default) (cond (aD s n).isSome (some (((aD s n).getD default))) none) (some (false))) none) (some (false))))))) none) (cond (n.kind != (3:Int)) (cond (n.uz != (0:Int)) (some (false)) (cond (n.kind != (4:Int)) (cond (!((n.cl.x==(0:Int))&&((n.cl.y==(0:Int))&&((n.cl.z==(0:Int))&&true)))) (some (false)) (cond (decide (((n.nb.n:Nat):Int) > (0:Int))) (some (false)) (cond (n.kind==(5:Int)) (cond (decide (n.cJ >= (0:Int))) (some ((decide (n.cJ < ((s.bX.n:Nat):Int))))) (some (false))) (cond (n.cJ==(0:Int)) (cond (aC s n).isSome (cond ((aC s n).getD default) (cond (aD s n).isSome (some (((aD s n).getD default))) none) (some (false))) none) (some (false)))))) (cond (n.kind==(5:Int)) (cond (decide (n.cJ >= (0:Int))) (some ((decide (n.cJ < ((s.bX.n:Nat):Int))))) (some (false))) (cond (n.cJ==(0:Int)) (cond (aC s n).isSome (cond ((aC s n).getD default) (cond (aD s n).isSome (some (((aD s n).getD default))) none) (some (false))) none) (some (false)))))) (cond (n.kind != (4:Int)) (cond (!((n.cl.x==(0:Int))&&((n.cl.y==(0:Int))&&((n.cl.z==(0:Int))&&true)))) (some (false)) (cond (decide (((n.nb.n:Nat):Int) > (0:Int))) (some (false)) (cond (n.kind==(5:Int)) (cond (decide (n.cJ >= (0:Int))) (some ((decide (n.cJ < ((s.bX.n:Nat):Int))))) (some (false))) (cond (n.cJ==(0:Int)) (cond (aC s n).isSome (cond ((aC s n).getD default) (cond (aD s n).isSome (some (((aD s n).getD default))) none) (some (false))) none) (some (false)))))) (cond (n.kind==(5:Int)) (cond (decide (n.cJ >= (0:Int))) (some ((decide (n.cJ < ((s.bX.n:Nat):Int))))) (some (false))) (cond (n.cJ==(0:Int)) (cond (aC s n).isSome (cond ((aC s n).getD default) (cond (aD s n).isSome (some (((aD s n).getD default))) none) (some (false))) none) (some (false)))))))))) none)))
theorem abl (s:aP) (n:Node):cD Tryz.prog (bp Tryz.prog Py Pz (fun _=>false)) 9 9 81 [dx s,lD n] = (vq s n).map kB:=by
 unfold vq
 try simp only [bq]
 kernel_rfl
def I9:List KV->KR KV:=bI Tryz.prog 81 (bL kB fun vs=>vq (b6 (vs.getD 0 .ao)) (ib (vs.getD 1 .ao)))
theorem Y3 (w:Nat->KV):ck Tryz.prog [34,77] w 0 = [dx (b6 (ax Tryz.prog (ai Tryz.prog aj) 34 (w 0))),lD (ib (ax Tryz.prog (ai Tryz.prog aj) 77 (w 1)))]:=by kernel_rfl
theorem Ks:bH Tryz.prog 81 I9:=aL funcs mixed Y1 Y2 (L:=9) (n:=9) fun w=>by
 have e:aG Tryz.prog 81 = [34,77]:=by kernel_rfl
 rw [e,Y3]
 exact (abl (b6 (ax Tryz.prog (ai Tryz.prog aj) 34 (w 0))) (ib (ax Tryz.prog (ai Tryz.prog aj) 77 (w 1)))).trans (by kernel_rfl)
structure ir where
 a:(Sl Int)
 b:(Sl Int)
 t4:Bool
 i:Int
instance:Inhabited ir:=⟨⟨default,default,default,default⟩⟩
def wm (x:ir):List KV:=[eA 3 (kI .i64) x.a,eA 3 (kI .i64) x.b,.bool x.t4,.int .i64 x.i]
def wo (x:ir):List (List KV):=[]
def Ja (vs:List KV) (rs:List (List KV)):ir:=⟨dP ay (vs.getD 0 .ao),dP ay (vs.getD 1 .ao),dj (vs.getD 2 .ao),ay (vs.getD 3 .ao)⟩
def Kt:aV:=⟨[(0,⟨false,[.k (.slice 3)]⟩),(1,⟨false,[.k (.slice 3)]⟩),(4,⟨false,[.k .bool]⟩),(5,⟨false,[.k (.int .i64)]⟩)],[],[]⟩
def Wu:=dB Tryz.prog (bp Tryz.prog [] [] (fun _=>false)) 9 9 61 58 (dF Tryz.prog 61 58) Kt
def hQ (x:ir):aW ir:=(cond (decide (x.i < ((x.a.n:Nat):Int))) (cond ((decide ((0:Int)<=x.i))&&(decide (x.i < ((x.a.n:Nat):Int)))) (cond ((decide ((0:Int)<=x.i))&&(decide (x.i < ((x.b.n:Nat):Int)))) (cond ((x.a.get (Int.toNat x.i)) != (x.b.get (Int.toNat x.i))) (.out aB.ae.ret (⟨x.a,x.b,false,x.i⟩:ir)) (.next (⟨x.a,x.b,x.t4,(aR (x.i+(1:Int)))⟩:ir))) .fail) .fail) (.out (aB.ae.exit 0) x))
theorem Ry (x:ir):Wu (wm x) (wo x)=aW.enc wm wo (hQ x):=by
 unfold hQ
 try simp only [aW.cf]
 kernel_rfl
def yd:Lp:=⟨61,58,Kt,fun vs rs=>dC wm wo (goN hQ (Ja vs rs)) [aB.ae.exit 0,aB.ae.ret],false⟩
theorem Wv:yd.Ok Tryz.prog:=b8 funcs mixed ah.nil au.nil (L:=9) (n:=9) (step:=hQ) (ev:=wm) (er:=wo) (pa:=Ja) rfl (fun wv wr=>⟨by kernel_rfl,by kernel_rfl⟩) Ry
theorem P4:bZ Tryz.prog yd.f yd.p=true:=by kernel_rfl
def PA:List (Nat×(List KV->KR KV)):=[]
def PB:List Lp:=[yd]
theorem Y4:ah Tryz.prog PA:=ah.nil
theorem Y5:au Tryz.prog PB:=(au.cons Wv P4 au.nil)
def zR (a:(Sl Int)) (b:(Sl Int)):(aW ir):=(goN hQ (⟨a,b,false,(0:Int)⟩:ir))
def vr (a:(Sl Int)) (b:(Sl Int)):Option (Bool):=(cond (((a.n:Nat):Int) != ((b.n:Nat):Int)) (some (false)) (cond ((zR a b).by (aB.ae.exit 0)) (some (true)) (cond ((zR a b).by aB.ae.ret) (some ((zR a b).st.t4)) none)))
theorem abm (a:(Sl Int)) (b:(Sl Int)):cD Tryz.prog (bp Tryz.prog PA PB (fun _=>false)) 9 9 61 [(eA 3 (kI .i64)) a,(eA 3 (kI .i64)) b] = (vr a b).map kB:=by
 unfold vr
 try simp only [bq]
 kernel_rfl
def Rz:List KV->KR KV:=bI Tryz.prog 61 (bL kB fun vs=>vr ((dP ay) (vs.getD 0 .ao)) ((dP ay) (vs.getD 1 .ao)))
theorem Y6 (w:Nat->KV):ck Tryz.prog [36,36] w 0 = [(eA 3 (kI .i64)) ((dP ay) (ax Tryz.prog (ai Tryz.prog aj) 36 (w 0))),(eA 3 (kI .i64)) ((dP ay) (ax Tryz.prog (ai Tryz.prog aj) 36 (w 1)))]:=by kernel_rfl
theorem Y7:bH Tryz.prog 61 Rz:=aL funcs mixed Y4 Y5 (L:=9) (n:=9) fun w=>by
 have e:aG Tryz.prog 61 = [36,36]:=by kernel_rfl
 rw [e,Y6]
 exact (abm ((dP ay) (ax Tryz.prog (ai Tryz.prog aj) 36 (w 0))) ((dP ay) (ax Tryz.prog (ai Tryz.prog aj) 36 (w 1)))).trans (by kernel_rfl)
def M3:List (Nat×(List KV->KR KV)):=[(61,Rz)]
def M4:List Lp:=[]
theorem Ww:ah Tryz.prog M3:=(ah.cons Y7 ah.nil)
theorem Wx:au Tryz.prog M4:=au.nil
def Dz (a:Node) (b:Node):(Option Bool):=(vr a.nb b.nb)
def qM (a:Node) (b:Node):Option (Bool):=(cond (a.kind==b.kind) (cond ((a.gd.m.e0.e0==b.gd.m.e0.e0)&&((a.gd.m.e0.e1==b.gd.m.e0.e1)&&((a.gd.m.e0.e2==b.gd.m.e0.e2)&&((a.gd.m.e1.e0==b.gd.m.e1.e0)&&((a.gd.m.e1.e1==b.gd.m.e1.e1)&&((a.gd.m.e1.e2==b.gd.m.e1.e2)&&((a.gd.m.e2.e0==b.gd.m.e2.e0)&&((a.gd.m.e2.e1==b.gd.m.e2.e1)&&((a.gd.m.e2.e2==b.gd.m.e2.e2)&&((a.gd.t.x==b.gd.t.x)&&((a.gd.t.y==b.gd.t.y)&&((a.gd.t.z==b.gd.t.z)&&true)))))))))))) (cond (a.uz==b.uz) (cond ((a.cl.x==b.cl.x)&&((a.cl.y==b.cl.y)&&((a.cl.z==b.cl.z)&&true))) (cond (Dz a b).isSome (cond ((Dz a b).getD default) (cond (a.cJ==b.cJ) (some (((a.b7.bN.e0==b.b7.bN.e0)&&((a.b7.bN.e1==b.b7.bN.e1)&&((a.b7.bN.e2==b.b7.bN.e2)&&((a.b7.bN.e3==b.b7.bN.e3)&&((a.b7.bN.e4==b.b7.bN.e4)&&((a.b7.look.color.e0==b.b7.look.color.e0)&&((a.b7.look.color.e1==b.b7.look.color.e1)&&((a.b7.look.color.e2==b.b7.look.color.e2)&&((a.b7.look.color.e3==b.b7.look.color.e3)&&((a.b7.look.cN==b.b7.look.cN)&&((a.b7.look.ly==b.b7.look.ly)&&((a.b7.look.jV==b.b7.look.jV)&&((a.b7.look.ff==b.b7.look.ff)&&((a.b7.look.bin==b.b7.look.bin)&&true)))))))))))))))) (some (false))) (some (false))) none) (some (false))) (some (false))) (some (false))) (some (false)))
theorem Y8 (a:Node) (b:Node):cD Tryz.prog (bp Tryz.prog M3 M4 (fun _=>false)) 9 9 38 [lD a,lD b] = (qM a b).map kB:=by
 unfold qM
 try simp only [bq]
 kernel_rfl
def PC:List KV->KR KV:=bI Tryz.prog 38 (bL kB fun vs=>qM (ib (vs.getD 0 .ao)) (ib (vs.getD 1 .ao)))
theorem Wy (w:Nat->KV):ck Tryz.prog [77,77] w 0 = [lD (ib (ax Tryz.prog (ai Tryz.prog aj) 77 (w 0))),lD (ib (ax Tryz.prog (ai Tryz.prog aj) 77 (w 1)))]:=by kernel_rfl
theorem Wz:bH Tryz.prog 38 PC:=aL funcs mixed Ww Wx (L:=9) (n:=9) fun w=>by
 have e:aG Tryz.prog 38 = [77,77]:=by kernel_rfl
 rw [e,Wy]
 exact (Y8 (ib (ax Tryz.prog (ai Tryz.prog aj) 77 (w 0))) (ib (ax Tryz.prog (ai Tryz.prog aj) 77 (w 1)))).trans (by kernel_rfl)
def Y9:List (Nat×(List KV->KR KV)):=[(38,PC)]
def Za:List Lp:=[]
theorem ahr:ah Tryz.prog Y9:=(ah.cons Wz ah.nil)
theorem ahs:au Tryz.prog Za:=au.nil
def LD (n:Node):(Option Bool):=(qM n (⟨(0:Int),(⟨(⟨(⟨(0:Int),(0:Int),(0:Int)⟩:az),(⟨(0:Int),(0:Int),(0:Int)⟩:az),(⟨(0:Int),(0:Int),(0:Int)⟩:az)⟩:bw),(⟨(0:Int),(0:Int),(0:Int)⟩:fO)⟩:dm),(0:Int),(⟨(0:Int),(0:Int),(0:Int)⟩:fO),(⟨0,(fun i=>(0:Int))⟩:Sl _),(0:Int),(⟨(⟨(0:Int),(0:Int),(0:Int),(0:Int),(0:Int)⟩:Az),(⟨(⟨(0:Int),(0:Int),(0:Int),(0:Int)⟩:Color),(0:Int),(0:Int),(0:Int),false,(0:Int)⟩:iq)⟩:gM)⟩:Node))
def Cu (n:Node):Option (Bool):=(cond (LD n).isSome (some (((LD n).getD default))) none)
theorem ajy (n:Node):cD Tryz.prog (bp Tryz.prog Y9 Za (fun _=>false)) 9 9 131 [lD n] = (Cu n).map kB:=by
 unfold Cu
 try simp only [bq]
 kernel_rfl
def RA:List KV->KR KV:=bI Tryz.prog 131 (bL kB fun vs=>Cu (ib (vs.getD 0 .ao)))
theorem aht (w:Nat->KV):ck Tryz.prog [77] w 0 = [lD (ib (ax Tryz.prog (ai Tryz.prog aj) 77 (w 0)))]:=by kernel_rfl
theorem RB:bH Tryz.prog 131 RA:=aL funcs mixed ahr ahs (L:=9) (n:=9) fun w=>by
 have e:aG Tryz.prog 131 = [77]:=by kernel_rfl
 rw [e,aht]
 exact (ajy (ib (ax Tryz.prog (ai Tryz.prog aj) 77 (w 0)))).trans (by kernel_rfl)
def Zb:List (Nat×(List KV->KR KV)):=[(177,FW)]
def Zc:List Lp:=[]
theorem ahu:ah Tryz.prog Zb:=(ah.cons Df ah.nil)
theorem ahv:au Tryz.prog Zc:=au.nil
def LF (s:aP) (h:Handle):(Option Bool):=(yN s.graph.ca h)
def F7 (s:aP) (h:Handle):Option (Bool):=(cond (LF s h).isSome (some (((LF s h).getD default))) none)
theorem ajz (s:aP) (h:Handle):cD Tryz.prog (bp Tryz.prog Zb Zc (fun _=>false)) 9 9 132 [dx s,dL h] = (F7 s h).map kB:=by
 unfold F7
 try simp only [bq]
 kernel_rfl
def RC:List KV->KR KV:=bI Tryz.prog 132 (bL kB fun vs=>F7 (b6 (vs.getD 0 .ao)) (cM (vs.getD 1 .ao)))
theorem ahw (w:Nat->KV):ck Tryz.prog [34,32] w 0 = [dx (b6 (ax Tryz.prog (ai Tryz.prog aj) 34 (w 0))),dL (cM (ax Tryz.prog (ai Tryz.prog aj) 32 (w 1)))]:=by kernel_rfl
theorem RD:bH Tryz.prog 132 RC:=aL funcs mixed ahu ahv (L:=9) (n:=9) fun w=>by
 have e:aG Tryz.prog 132 = [34,32]:=by kernel_rfl
 rw [e,ahw]
 exact (ajz (b6 (ax Tryz.prog (ai Tryz.prog aj) 34 (w 0))) (cM (ax Tryz.prog (ai Tryz.prog aj) 32 (w 1)))).trans (by kernel_rfl)
structure cT where
 t2:Bool
 i:Int
 s:aP
instance:Inhabited cT:=⟨⟨default,default,default⟩⟩
def DA (x:cT):List KV:=[.bool x.t2,.int .i64 x.i]
def DB (x:cT):List (List KV):=[uE x.s]
def RE (vs:List KV) (rs:List (List KV)):cT:=⟨dj (vs.getD 0 .ao),ay (vs.getD 1 .ao),uF (fun k=>(rs.getD 0 []).getD k .ao)⟩
def UJ:aV:=⟨[(2,⟨false,[.k .bool]⟩),(3,⟨false,[.k (.int .i64)]⟩)],[(1,[.k (.slice 111),.k (.slice 35),.k (.slice 77),.k (.slice 88),.k (.slice 91),.k (.int .i64),.k (.int .i64)],1)],[(1,0,0)]⟩
def ahx:=dB Tryz.prog (bp Tryz.prog [(132,RC),(131,RA),(81,I9),(130,Lt),(129,Wf)] [] (fun _=>false)) 9 9 78 58 (dF Tryz.prog 78 58) UJ
def GJ (x:cT):(Option Bool):=(vq x.s (x.s.nodes.get (Int.toNat x.i)))
def wZ (x:cT):(Option Bool):=(Cu (x.s.nodes.get (Int.toNat x.i)))
def kT (x:cT):aW cT:=(cond (decide (x.i < ((x.s.nodes.n:Nat):Int))) (cond ((decide ((0:Int)<=x.i))&&(decide (x.i < ((x.s.graph.ca.bJ.n:Nat):Int)))) (cond (x.s.graph.ca.bJ.get (Int.toNat x.i)).live (cond ((decide ((0:Int)<=x.i))&&(decide (x.i < ((x.s.nodes.n:Nat):Int)))) (cond (GJ x).isSome (cond (!((GJ x).getD default)) (.out aB.ae.ret (⟨false,x.i,x.s⟩:cT)) (cond (!(x.s.graph.ca.bJ.get (Int.toNat x.i)).live) (cond ((decide ((0:Int)<=x.i))&&(decide (x.i < ((x.s.nodes.n:Nat):Int)))) (cond (wZ x).isSome (cond (!((wZ x).getD default)) (.out aB.ae.ret (⟨false,x.i,x.s⟩:cT)) (cond ((decide ((0:Int)<=x.i))&&(decide (x.i < ((x.s.nodes.n:Nat):Int)))) (cond ((x.s.nodes.get (Int.toNat x.i)).kind==(5:Int)) (cond ((decide ((0:Int)<=x.i))&&(decide (x.i < ((x.s.graph.kids.n:Nat):Int)))) (cond (decide ((((x.s.graph.kids.get (Int.toNat x.i)).n:Nat):Int) > (0:Int))) (.out aB.ae.ret (⟨false,x.i,x.s⟩:cT)) (.next (⟨x.t2,(aR (x.i+(1:Int))),x.s⟩:cT))) .fail) (.next (⟨x.t2,(aR (x.i+(1:Int))),x.s⟩:cT))) .fail)) .fail) .fail) (cond ((decide ((0:Int)<=x.i))&&(decide (x.i < ((x.s.nodes.n:Nat):Int)))) (cond ((x.s.nodes.get (Int.toNat x.i)).kind==(5:Int)) (cond ((decide ((0:Int)<=x.i))&&(decide (x.i < ((x.s.graph.kids.n:Nat):Int)))) (cond (decide ((((x.s.graph.kids.get (Int.toNat x.i)).n:Nat):Int) > (0:Int))) (.out aB.ae.ret (⟨false,x.i,x.s⟩:cT)) (.next (⟨x.t2,(aR (x.i+(1:Int))),x.s⟩:cT))) .fail) (.next (⟨x.t2,(aR (x.i+(1:Int))),x.s⟩:cT))) .fail))) .fail) .fail) (cond (!(x.s.graph.ca.bJ.get (Int.toNat x.i)).live) (cond ((decide ((0:Int)<=x.i))&&(decide (x.i < ((x.s.nodes.n:Nat):Int)))) (cond (wZ x).isSome (cond (!((wZ x).getD default)) (.out aB.ae.ret (⟨false,x.i,x.s⟩:cT)) (cond ((decide ((0:Int)<=x.i))&&(decide (x.i < ((x.s.nodes.n:Nat):Int)))) (cond ((x.s.nodes.get (Int.toNat x.i)).kind==(5:Int)) (cond ((decide ((0:Int)<=x.i))&&(decide (x.i < ((x.s.graph.kids.n:Nat):Int)))) (cond (decide ((((x.s.graph.kids.get (Int.toNat x.i)).n:Nat):Int) > (0:Int))) (.out aB.ae.ret (⟨false,x.i,x.s⟩:cT)) (.next (⟨x.t2,(aR (x.i+(1:Int))),x.s⟩:cT))) .fail) (.next (⟨x.t2,(aR (x.i+(1:Int))),x.s⟩:cT))) .fail)) .fail) .fail) (cond ((decide ((0:Int)<=x.i))&&(decide (x.i < ((x.s.nodes.n:Nat):Int)))) (cond ((x.s.nodes.get (Int.toNat x.i)).kind==(5:Int)) (cond ((decide ((0:Int)<=x.i))&&(decide (x.i < ((x.s.graph.kids.n:Nat):Int)))) (cond (decide ((((x.s.graph.kids.get (Int.toNat x.i)).n:Nat):Int) > (0:Int))) (.out aB.ae.ret (⟨false,x.i,x.s⟩:cT)) (.next (⟨x.t2,(aR (x.i+(1:Int))),x.s⟩:cT))) .fail) (.next (⟨x.t2,(aR (x.i+(1:Int))),x.s⟩:cT))) .fail))) .fail) (.out (aB.ae.exit 0) x))
theorem abn (x:cT):ahx (DA x) (DB x)=aW.enc DA DB (kT x):=by
 unfold kT
 try simp only [aW.cf]
 kernel_rfl
def Fy:Lp:=⟨78,58,UJ,fun vs rs=>dC DA DB (goN kT (RE vs rs)) [aB.ae.exit 0,aB.ae.ret],false⟩
theorem ahy:Fy.Ok Tryz.prog:=b8 funcs mixed (ah.cons RD (ah.cons RB (ah.cons Ks (ah.cons MZ (ah.cons Ut ah.nil))))) au.nil (L:=9) (n:=9) (step:=kT) (ev:=DA) (er:=DB) (pa:=RE) rfl (fun wv wr=>⟨by kernel_rfl,by kernel_rfl⟩) abn
theorem Zd:bZ Tryz.prog Fy.f Fy.p=true:=by kernel_rfl
def ac6:List (Nat×(List KV->KR KV)):=[(132,RC),(131,RA),(81,I9),(130,Lt),(129,Wf)]
def ac7:List Lp:=[Fy]
theorem ajA:ah Tryz.prog ac6:=(ah.cons RD (ah.cons RB (ah.cons Ks (ah.cons MZ (ah.cons Ut ah.nil)))))
theorem ajB:au Tryz.prog ac7:=(au.cons ahy Zd au.nil)
def OL (s:aP):(Option Bool):=(EB s.graph)
def OM (s:aP):(Option Bool):=(xt s)
def tS (s:aP):(aW cT):=(goN kT (⟨false,(0:Int),s⟩:cT))
def OO (s:aP):(Option Bool):=(F7 (tS s).st.s (tS s).st.s.root)
def EO (s:aP):Option (Bool):=(cond (OL s).isSome (cond (!((OL s).getD default)) (some (false)) (cond (((s.nodes.n:Nat):Int) != ((s.graph.kids.n:Nat):Int)) (some (false)) (cond (OM s).isSome (cond (!((OM s).getD default)) (some (false)) (cond ((tS s).by (aB.ae.exit 0)) (cond (((tS s).st.s.root.slot==(0:Int))&&(((tS s).st.s.root.gen==(0:Int))&&true)) (some (true)) (cond (OO s).isSome (some (((OO s).getD default))) none)) (cond ((tS s).by aB.ae.ret) (some ((tS s).st.t2)) none))) none))) none)
theorem amf (s:aP):cD Tryz.prog (bp Tryz.prog ac6 ac7 (fun _=>false)) 9 9 78 [dx s] = (EO s).map kB:=by
 unfold EO
 try simp only [bq]
 kernel_rfl
def ahz:List KV->KR KV:=bI Tryz.prog 78 (bL kB fun vs=>EO (b6 (vs.getD 0 .ao)))
theorem ajC (w:Nat->KV):ck Tryz.prog [34] w 0 = [dx (b6 (ax Tryz.prog (ai Tryz.prog aj) 34 (w 0)))]:=by kernel_rfl
theorem ajD:bH Tryz.prog 78 ahz:=aL funcs mixed ajA ajB (L:=9) (n:=9) fun w=>by
 have e:aG Tryz.prog 78 = [34]:=by kernel_rfl
 rw [e,ajC]
 exact (amf (b6 (ax Tryz.prog (ai Tryz.prog aj) 34 (w 0)))).trans (by kernel_rfl)
def UK:List (Nat×(List KV->KR KV)):=[(78,ahz)]
def UL:List Lp:=[]
theorem adX:ah Tryz.prog UK:=(ah.cons ajD ah.nil)
theorem adY:au Tryz.prog UL:=au.nil
def Jb (s:aP):(Option Bool):=(EO s)
def zS (s:aP):Option (Int):=(cond (Jb s).isSome (cond (!((Jb s).getD default)) (some ((8:Int))) (some ((0:Int)))) none)
theorem ahA (s:aP):cD Tryz.prog (bp Tryz.prog UK UL (fun _=>false)) 9 9 26 [dx s] = (zS s).map (kI .i64):=by
 unfold zS
 try simp only [bq]
 kernel_rfl
def Ze:List KV->KR KV:=bI Tryz.prog 26 (bL (kI .i64) fun vs=>zS (b6 (vs.getD 0 .ao)))
theorem adZ (w:Nat->KV):ck Tryz.prog [34] w 0 = [dx (b6 (ax Tryz.prog (ai Tryz.prog aj) 34 (w 0)))]:=by kernel_rfl
theorem ad0:bH Tryz.prog 26 Ze:=aL funcs mixed adX adY (L:=9) (n:=9) fun w=>by
 have e:aG Tryz.prog 26 = [34]:=by kernel_rfl
 rw [e,adZ]
 exact (ahA (b6 (ax Tryz.prog (ai Tryz.prog aj) 34 (w 0)))).trans (by kernel_rfl)
end
end Go.Proofs.YtckbdndhmcoihaaGreat.b
end
section
set_option maxRecDepth 20000
namespace Go.Proofs.YtckbdndhmcoihaaGreat.nodes
open Go Go.RowKit Go.Lib
abbrev hv (x:Int×Int):Value:=.agg #[.int .i64 x.1,.int .i64 x.2]
theorem HD:Tryz.prog.follows .mixedOrders=true:=by kernel_rfl
theorem avM (x y:Int×Int) (w:World):(Op.equal 32 (hv x) (hv y)).run Tryz.prog w = .ok (decide (x=y)) w:=by
 obtain ⟨s,g⟩:=x;obtain ⟨s',g'⟩:=y;have e:decide ((s,g)=(s',g'))=(s==s'&&g==g'):=by
  rw [Bool.eq_iff_iff];simp
 rw [e];have h:=K.QD (P:=Tryz.prog) (E:=⟨fun _=>none,fun _=>none,fun _=>none,fun _=>none⟩) 12 10000 32 ⟨true,[.int .i64,.int .i64]⟩ [.int .i64 s,.int .i64 g] [.int .i64 s',.int .i64 g'] [.int .i64 s,.int .i64 g] [.int .i64 s',.int .i64 g'] ((s==s')&&((g==g')&&true))
  (by kernel_rfl) (by kernel_rfl) (by omega) (.cons .mkInt (.cons .mkInt .nil)) (.cons .mkInt (.cons .mkInt .nil)) rfl rfl rfl
 rw [pR] at h;exact aB.iL h w
def Zf (es:Array MapEntry) (S:List (Int×Int)):Prop:=es.toList.map (·.key)=S.map hv/\∀ e∈es.toList,e.val = .bool true
theorem aom (k:Int×Int) (w:World):∀ (l:List MapEntry) (S:List (Int×Int)) (i:Nat),l.map (·.key)=S.map hv->(∀ e∈l,e.val = .bool true)->
  ∃ r,(Instr.findAsking 32 (hv k) l i).run Tryz.prog w = .ok r w/\(k∈S->∃ j,r=some (i+j,.bool true)/\j < l.length/\l[j]?.map (·.key)=some (hv k))/\(k ∉ S->r=none)
 | [],[],i,_,_=>⟨none,rfl,fun h=>by simp at h,fun _=>rfl⟩
 | [],_::_,_,h,_=>by simp at h
 | _::_,[],_,h,_=>by simp at h
 | e::l,x::S,i,h,hb=>by
  simp only [List.map_cons,List.cons.injEq] at h;obtain ⟨r,h1,h2,h3⟩:=aom k w l S (i+1) h.2 (fun e' he=>hb e' (yW _ he));have he:=avM k x w;rw [<- h.1] at he;by_cases hx:k=x
  ·rw [aq hx] at he
   refine ⟨some (i,.bool true),?_,fun _=>⟨0,rfl,by simp,by simp [h.1,hx]⟩,fun hn=>absurd (by rw [hx]; exact List.mem_cons_self ..) hn⟩;have S6:=hb e (List.mem_cons_self ..);simp [Instr.findAsking,he,S6]
  ·rw [bj hx] at he
   refine ⟨r,?_,fun hm=>?_,fun hn=>h3 fun q=>hn (yW _ q)⟩
   ·simp only [Instr.findAsking,Sem.run_bind,he,kl]
    exact h1
   ·obtain ⟨j,q1,q2,q3⟩:=h2 ((fA.1 hm).resolve_left hx)
    exact ⟨j+1,by rw [q1]; congr 2; omega,by simp; omega,by simpa using q3⟩
theorem akY (b:Bool) (k:Int×Int) (w:World):(Instr.checkKey b 10000 32 (hv k)).run Tryz.prog w = .ok () w:=by
 have h:aB.dy Tryz.prog (Instr.checkKey b 10000 32 (hv k))=some ():=by cases b <;> kernel_rfl
 exact aB.iL h w
theorem ac8 (k:Int×Int) (w:World) {es:Array MapEntry} {S:List (Int×Int)} (h:Zf es S) :
  ∃ r,(Instr.findKey 32 (hv k) es.toList).run Tryz.prog w = .ok r w/\(k∈S->∃ j,r=some (j,.bool true))/\(k ∉ S->r=none):=by
 obtain ⟨r,h1,h2,h3⟩:=aom k w es.toList S 0 h.1 h.2;have u32:=run_underlying Tryz.underlying32;unfold Instr.findKey;cases hl:es.toList with
 | nil=>
  rw [hl] at h1;refine ⟨none,?_,fun hk=>?_,fun _=>rfl⟩
  ·simp only [Sem.run_bind,u32,kl,Instr.findNow]
   rfl
  ·have:=h.1
   rw [hl] at this;have:S = []:=by simpa using this.symm
   rw [this] at hk;simp at hk
 | cons e l=>
  rw [hl] at h1;refine ⟨r,?_,fun hk=>?_,h3⟩
  ·have hn:∀ fs i,Instr.findNow (.struct fs) (hv k) (e::l) i=none:=fun fs i=>by
    unfold Instr.findNow;have:∀ v,Instr.sameNow (.struct fs) (hv k) v=none:=fun v=>by cases v <;> rfl
    rw [this]
   simp only [Sem.run_bind,u32,kl,hn];exact h1
  ·obtain ⟨j,q,_⟩:=h2 hk
   exact ⟨0+j,q⟩
theorem asq {W:World} {mb:Nat} {es:Array MapEntry} {clock:Nat} {S:List (Int×Int)} (hm:W.heap[mb]? = some (.map es clock)) (h:Zf es S) (k:Int×Int) :
  (Instr.lookup 202 (.map (some mb)) (hv k) false).run Tryz.prog W = .ok (.bool (decide (k∈S))) W:=by
 obtain ⟨r,h1,h2,h3⟩:=ac8 k W h;have RF:=run_underlying Tryz.underlying202;have v4:=Tryz.zeroValue4;unfold Instr.lookup;simp only [Sem.run_bind,RF,kl,MapKept.run_getObj_map hm,Sem.run_pure,akY,h1];by_cases hk:k∈S
 ·obtain ⟨j,rfl⟩:=h2 hk
  rw [aq hk];rfl
 ·rw [h3 hk,bj hk]
  simp only [Sem.run_bind,v4,kl,Sem.run_pure];rfl
def put (W:World) (mb:Nat) (o:Obj):World:={ W with heap:=W.heap.setIfInBounds mb o }
theorem at0 {W:World} {mb:Nat} {es:Array MapEntry} {clock:Nat} {S:List (Int×Int)} (hm:W.heap[mb]? = some (.map es clock)) (h:Zf es S) (k:Int×Int) (hk:k ∉ S) :
  (Instr.mapUpdate 202 (.map (some mb)) (hv k) (.bool true)).run Tryz.prog W = .ok () (put W mb (.map (es.push ⟨hv k,.bool true,clock⟩) (clock+1))):=by
 obtain ⟨r,h1,h2,h3⟩:=ac8 k W h;have RF:=run_underlying Tryz.underlying202;unfold Instr.mapUpdate;simp only [Sem.run_bind,RF,kl,MapKept.run_getObj_map hm,Sem.run_pure,akY,h1,h3 hk];exact MapKept.run_setObj_map _ hm
theorem apU {es:Array MapEntry} {S:List (Int×Int)} (h:Zf es S) (k:Int×Int) (c:Nat):Zf (es.push ⟨hv k,.bool true,c⟩) (S++[k]):=by
 refine ⟨?_,fun e he=>?_⟩
 ·rw [Array.toList_push,List.map_append,List.map_append,h.1]; rfl
 ·rw [Array.toList_push] at he
  rcases nG.1 he with he | he
  ·exact h.2 e he
  ·rw [List.mem_singleton.1 he]
theorem abo:Zf #[] []:=⟨rfl,fun e he=>by simp at he⟩
theorem ae0 {W:World} {mb:Nat} {o o' : Obj} (h:W.heap[mb]? = some o'):(put W mb o).heap[mb]? = some o:=by
 have bG:mb < W.heap.size:=(vK.1 h).1;unfold put;simp [Array.getElem?_setIfInBounds,bG]
theorem ae1 {W:World} {mb k:Nat} {o:Obj} (h:k≠mb):(put W mb o).heap[k]? = W.heap[k]?:=by
 unfold put;simp [Array.getElem?_setIfInBounds,Ne.symm h]
theorem abp {W:World} {mb:Nat} {o:Obj} : (put W mb o).heap.size=W.heap.size:=by
 unfold put;simp
end Go.Proofs.YtckbdndhmcoihaaGreat.nodes
end
section
set_option maxRecDepth 20000
namespace Go.Proofs.YtckbdndhmcoihaaGreat.nodes
open Go Go.RowKit Go.Lib Go.Shelf
set_option maxHeartbeats 4000000 in
theorem auG (g:Nat) (lb:Array Value) (eg:∀ args w,(callFunc g args).run Tryz.prog w = .ok (.enter g args) w) (a:Option Addr) (n c:Nat) (x:Nat->Int×Int) (I:Nat->World->Prop) (T:World->Prop) (Zg:n<=1000000)
  (hO:∀ W kk,kk < n->I kk W->∃ b off,a=some ⟨b,off,none⟩/\W.cell? ⟨b,off+kk * 2,none⟩=some (.int .i64 (x kk).1)/\W.cell? ⟨b,off+kk * 2+1,none⟩=some (.int .i64 (x kk).2))
  (amg:∀ kk W,kk < n->I kk W->Calls Tryz.prog g (#[hv (x kk)]++lb) W fun e W'=>e = .returned (.bool true)/\T W'\/e = .returned (.bool false)/\I (kk+1) W')
  (w:World) (h0:I 0 w):Calls Tryz.prog 174 #[.slice a n c,.func (.func g) #[] lb] w fun e W'=>(∃ kk:Nat,kk < n/\e = .returned (.int .i64 kk)/\T W')\/e = .returned (.int .i64 (-1))/\I n W':=by
 have mixed:=HD;have t32:=Tryz.underlying32; have a32:=Tryz.isAgg32; have z32:=Tryz.sizeOf32; have v32:=Tryz.zeroValue32; have u32:=run_underlying Tryz.underlying32;have t35:=Tryz.underlying35; have a35:=Tryz.isAgg35; have z35:=Tryz.sizeOf35; have v35:=Tryz.zeroValue35; have u35:=run_underlying Tryz.underlying35;have t3:=Tryz.underlying3; have a3:=Tryz.isAgg3; have z3:=Tryz.sizeOf3; have v3:=Tryz.zeroValue3; have u3:=run_underlying Tryz.underlying3
 go_enter Tryz.func174,Tryz.ntmps174
 go_wp2
 go_loopg [5,8] n (fun gg _ s8 wr=>∃ kk:Nat,kk<=n/\n - kk<=gg/\s8 = .int .i64 kk/\Aside (I kk wr))
 case atStart=>exact ⟨0,E7 _,by omega,rfl,h0⟩
 case round=>
  obtain ⟨kk,hkk,hg,rfl,BW⟩:=xK;by_cases bG:kk < n
  ·have at1:(kk:Int) < (n:Int):=by omega
   obtain ⟨b,off,ea,l1,l2⟩:=hO wr kk bG BW.out;subst ea;have hc:=amg kk wr bG BW.out;clear hO amg;generalize hy:x kk=y at l1 l2 hc;clear hy
   go_wp2_with (go_at_fn g; refine hc.mono ?_; rintro e w' (⟨rfl,hb'⟩ | ⟨rfl,hb'⟩))
   ·go_wp2
    go_ret
    exact .inl ⟨kk,bG,rfl,hb'⟩
   ·go_wp2
    go_roundg (n - (kk+1))
    case measure=>omega
    case rel=>exact ⟨kk+1,by omega,by omega,by go_num,hb'⟩
  ·have at1 : ¬ (kk:Int) < (n:Int):=by omega
   have:kk=n:=by omega
   subst this
   go_wp2
   go_ret
   exact .inr ⟨rfl,BW.out⟩
set_option maxHeartbeats 4000000 in
theorem WA (g:Nat) (lb:Array Value) (eg:∀ args w,(callFunc g args).run Tryz.prog w = .ok (.enter g args) w) (a:Option Addr) (n c:Nat) (x:Nat->Int×Int) (I:Nat->World->Prop) (T:World->Prop) (Zg:n<=1000000)
  (hO:∀ W kk,kk < n->I kk W->∃ b off,a=some ⟨b,off,none⟩/\W.cell? ⟨b,off+kk * 2,none⟩=some (.int .i64 (x kk).1)/\W.cell? ⟨b,off+kk * 2+1,none⟩=some (.int .i64 (x kk).2))
  (amg:∀ kk W,kk < n->I kk W->Calls Tryz.prog g (#[hv (x kk)]++lb) W fun e W'=>e = .returned (.bool true)/\T W'\/e = .returned (.bool false)/\I (kk+1) W')
  (w:World) (h0:I 0 w):Calls Tryz.prog 122 #[.slice a n c,.func (.func g) #[] lb] w fun e W'=>∃ r,e = .returned (.bool r)/\(r=true/\T W'\/r=false/\I n W'):=by
 have mixed:=HD;have t35:=Tryz.underlying35; have a35:=Tryz.isAgg35; have z35:=Tryz.sizeOf35; have v35:=Tryz.zeroValue35; have u35:=run_underlying Tryz.underlying35;have t3:=Tryz.underlying3; have a3:=Tryz.isAgg3; have z3:=Tryz.sizeOf3; have v3:=Tryz.zeroValue3; have u3:=run_underlying Tryz.underlying3;have hI:=auG g lb eg a n c x I T Zg hO amg w h0
 go_enter Tryz.func122,Tryz.ntmps122
 go_wp2_with (go_at_call 174; refine hI.mono ?_; rintro e w' (⟨kk,hk,rfl,hb'⟩ | ⟨rfl,hb'⟩))
 ·go_wp2
  go_ret
  exact ⟨true,by congr 2,.inl ⟨rfl,hb'⟩⟩
 ·go_wp2
  go_ret
  exact ⟨false,by congr 2,.inr ⟨rfl,hb'⟩⟩
structure G where
 sa:Option Addr
 sn:Nat
 sc:Nat
 ka:Option Addr
 kn:Nat
 kc:Nat
 ia:Nat->Option Addr
 im:Nat->Nat
 ic:Nat->Nat
 pN:Nat->Nat->Int×Int
structure GAt (q:G) (B:Nat) (W:World):Prop where
 kids:∀ i,i < q.kn->∃ b off,q.ka=some ⟨b,off,none⟩/\b < B/\W.cell? ⟨b,off+i,none⟩=some (.slice (q.ia i) (q.im i) (q.ic i))
 small:∀ i,i < q.kn->q.im i<=1000000
 row:∀ i,i < q.kn->∀ k,k < q.im i->∃ b off,q.ia i=some ⟨b,off,none⟩/\b < B/\W.cell? ⟨b,off+k * 2,none⟩=some (.int .i64 (q.pN i k).1)/\W.cell? ⟨b,off+k * 2+1,none⟩=some (.int .i64 (q.pN i k).2)
structure Kp (mb:Nat) (W W' : World):Prop where
 os:W'.os=W.os
 tape:W'.tape=W.tape
 output:W'.output=W.output
 size:W.heap.size<=W'.heap.size
 block:∀ k,k < W.heap.size->k≠mb->W'.heap[k]? = W.heap[k]?
theorem Kp.refl (mb:Nat) (W:World):Kp mb W W:=⟨rfl,rfl,rfl,aU _,fun _ _ _=>rfl⟩
theorem Kp.trans {mb:Nat} {W W' W2:World} (h:Kp mb W W') (k:Kp mb W' W2):Kp mb W W2:=
 ⟨k.os.trans h.os,k.tape.trans h.tape,k.output.trans h.output,o7 h.size k.size,fun j hj hn=>(k.block j (nI hj h.size) hn).trans (h.block j hj hn)⟩
theorem Kp.below {mb B:Nat} {W W' : World} (h:Kp mb W W') (hB:B<=W.heap.size) (hm:B<=mb):Below B W W':=
 ⟨h.os,h.tape,h.output,h.size,fun k hk=>h.block k (by omega) (by omega)⟩
theorem Kp.cell {mb:Nat} {W W' : World} (h:Kp mb W W') {b j:Nat} (hb:b < W.heap.size) (hm:b≠mb):W'.cell? ⟨b,j,none⟩=W.cell? ⟨b,j,none⟩:=by
 have:=h.block b hb hm;unfold World.cell?;simp only [this]
theorem Kp.alloc {mb:Nat} (W:World) (o:Obj):Kp mb W (W.alloc o):=⟨rfl,rfl,rfl,by simp,fun k hk _=>Below.heap_alloc W o k hk⟩
theorem Kp.drew (mb:Nat) (W:World):Kp mb W W.drew:=⟨rfl,rfl,rfl,aU _,fun _ _ _=>rfl⟩
theorem Kp.put {mb:Nat} (W:World) (o:Obj):Kp mb W (put W mb o):=⟨rfl,rfl,rfl,by rw [abp]; exact aU _,fun k _ hn=>ae1 hn⟩
theorem GAt.ij {q:G} {B mb:Nat} {W W' : World} (h:GAt q B W) (k:Kp mb W W') (hB:B<=W.heap.size) (hm:B<=mb):GAt q B W':=by
 refine ⟨fun i hi=>?_,h.small,fun i hi j hj=>?_⟩
 ·obtain ⟨b,off,h1,h2,h3⟩:=h.kids i hi
  exact ⟨b,off,h1,h2,by rw [k.cell (by omega) (by omega)]; exact h3⟩
 ·obtain ⟨b,off,h1,h2,h3,h4⟩:=h.row i hi j hj
  exact ⟨b,off,h1,h2,by rw [k.cell (by omega) (by omega)]; exact h3,by rw [k.cell (by omega) (by omega)]; exact h4⟩
structure Bv (q:G) (B b1 b2 b3 b4 mb:Nat) (to:Int×Int) (W:World) (S:List (Int×Int)):Prop where
 g:GAt q B W
 iV:B<=W.heap.size
 l1:b1 < W.heap.size/\b1≠mb
 l2:b2 < W.heap.size/\b2≠mb
 l3:b3 < W.heap.size/\b3≠mb
 l4:b4 < W.heap.size/\b4≠mb
 m:B<=mb
 c1:W.cell? ⟨b1,0,none⟩=some (.int .i64 to.1)
 d1:W.cell? ⟨b1,1,none⟩=some (.int .i64 to.2)
 c2:W.cell? ⟨b2,0,none⟩=some (.map (some mb))
 c3:W.cell? ⟨b3,0,none⟩=some (.slice q.sa q.sn q.sc)
 d3:W.cell? ⟨b3,1,none⟩=some (.slice q.ka q.kn q.kc)
 c4:W.cell? ⟨b4,0,none⟩=some (.func (.func 175) #[] #[.pointer (some ⟨b1,0,none⟩),.pointer (some ⟨b2,0,none⟩),.pointer (some ⟨b3,0,none⟩),.pointer (some ⟨b4,0,none⟩)])
 map:∃ es clock,W.heap[mb]? = some (.map es clock)/\Zf es S
 to:to ∉ S
theorem Bv.ij {q:G} {B b1 b2 b3 b4 mb:Nat} {to:Int×Int} {W W' : World} {S S' : List (Int×Int)} (h:Bv q B b1 b2 b3 b4 mb to W S) (k:Kp mb W W') (hm:∃ es clock,W'.heap[mb]? = some (.map es clock)/\Zf es S') (ht:to ∉ S') :
  Bv q B b1 b2 b3 b4 mb to W' S' where
 g:=h.g.ij k h.iV h.m
 iV:=o7 h.iV k.size
 l1:=⟨nI h.l1.1 k.size,h.l1.2⟩
 l2:=⟨nI h.l2.1 k.size,h.l2.2⟩
 l3:=⟨nI h.l3.1 k.size,h.l3.2⟩
 l4:=⟨nI h.l4.1 k.size,h.l4.2⟩
 m:=h.m
 c1:=(k.cell h.l1.1 h.l1.2).trans h.c1
 d1:=(k.cell h.l1.1 h.l1.2).trans h.d1
 c2:=(k.cell h.l2.1 h.l2.2).trans h.c2
 c3:=(k.cell h.l3.1 h.l3.2).trans h.c3
 d3:=(k.cell h.l3.1 h.l3.2).trans h.d3
 c4:=(k.cell h.l4.1 h.l4.2).trans h.c4
 map:=hm
 to:=ht
inductive Reach (q:G) (to:Int×Int):Int×Int->Prop where
 | here:Reach q to to
 | pN (h:Int×Int) (k:Nat) (hk:k < q.im h.1.toNat) (r:Reach q to (q.pN h.1.toNat k)):Reach q to h
structure Grow (q:G) (S:List (Int×Int)) (h:Int×Int) (S' : List (Int×Int)):Prop where
 sub:∀ x∈S,x∈S'
 is:h∈S'
 new:∀ x∈S',x∈S\/∀ k,k < q.im x.1.toNat->q.pN x.1.toNat k∈S'
theorem filter_le {S S1:List (Int×Int)} (h:∀ x∈S,x∈S1):∀ U:List (Int×Int),(U.filter fun u=>!decide (u∈S1)).length<=(U.filter fun u=>!decide (u∈S)).length
 | []=>aU _
 | u::U=>by
  have ih:=filter_le h U;by_cases h1:u∈S
  ·rw [List.filter_cons_of_neg (by simp [h u h1]),List.filter_cons_of_neg (by simp [h1])]; exact ih
  ·rw [List.filter_cons_of_pos (p:=fun u=>!decide (u∈S)) (by simp [h1])]
   by_cases h2:u∈S1
   ·rw [List.filter_cons_of_neg (by simp [h2])]; exact Nat.le_succ_of_le ih
   ·rw [List.filter_cons_of_pos (by simp [h2])]; exact Nat.succ_le_succ ih
theorem filter_lt {S S1:List (Int×Int)} (h:∀ x∈S,x∈S1) {k:Int×Int} (hk:k ∉ S) (CC:k∈S1):∀ U:List (Int×Int),k∈U->(U.filter fun u=>!decide (u∈S1)).length < (U.filter fun u=>!decide (u∈S)).length
 | [],hm=>by simp at hm
 | u::U,hm=>by
  by_cases e:k=u
  ·subst e
   rw [List.filter_cons_of_neg (by simp [CC]),List.filter_cons_of_pos (p:=fun u=>!decide (u∈S)) (by simp [hk])];exact Nat.lt_succ_of_le (filter_le h U)
  ·have ih:=filter_lt h hk CC U ((fA.1 hm).resolve_left e)
   by_cases h1:u∈S
   ·rw [List.filter_cons_of_neg (by simp [h u h1]),List.filter_cons_of_neg (by simp [h1])]; exact ih
   ·rw [List.filter_cons_of_pos (p:=fun u=>!decide (u∈S)) (by simp [h1])]
    by_cases h2:u∈S1
    ·rw [List.filter_cons_of_neg (by simp [h2])]; exact Nat.lt_succ_of_lt ih
    ·rw [List.filter_cons_of_pos (by simp [h2])]; exact Nat.succ_lt_succ ih
set_option maxHeartbeats 4000000 in
theorem look (q:G) (B b1 b2 b3 b4 mb:Nat) (to:Int×Int) (U:List (Int×Int)) (hU:∀ u∈U,(0<=u.1/\u.1 < (q.kn:Int))/\∀ k,k < q.im u.1.toNat->q.pN u.1.toNat k∈U) :
  ∀ (fuel:Nat) (S:List (Int×Int)) (W:World) (h:Int×Int),h∈U->(U.filter fun u=>!decide (u∈S)).length < fuel->Bv q B b1 b2 b3 b4 mb to W S->
   Calls Tryz.prog 175 #[hv h,.pointer (some ⟨b1,0,none⟩),.pointer (some ⟨b2,0,none⟩),.pointer (some ⟨b3,0,none⟩),.pointer (some ⟨b4,0,none⟩)] W fun e W'=>
    ∃ S',Bv q B b1 b2 b3 b4 mb to W' S'/\Kp mb W W'/\(e = .returned (.bool true)/\Reach q to h\/e = .returned (.bool false)/\Grow q S h S'):=by
 intro fuel
 induction fuel with
 | zero=>exact fun S W h _ hf=>absurd hf (o6 _)
 | succ fuel ih=>
  intro S W h hhU hf L;have mixed:=HD;have t32:=Tryz.underlying32; have a32:=Tryz.isAgg32; have z32:=Tryz.sizeOf32; have v32:=Tryz.zeroValue32; have u32:=run_underlying Tryz.underlying32;have t202:=Tryz.underlying202; have arD:=Tryz.isAgg202; have arE:=Tryz.sizeOf202; have arF:=Tryz.zeroValue202; have RF:=run_underlying Tryz.underlying202;have t200:=Tryz.underlying200; have avd:=Tryz.isAgg200; have ave:=Tryz.sizeOf200; have avf:=Tryz.zeroValue200; have avg:=run_underlying Tryz.underlying200;have t25:=Tryz.underlying25; have a25:=Tryz.isAgg25; have z25:=Tryz.sizeOf25; have v25:=Tryz.zeroValue25; have u25:=run_underlying Tryz.underlying25;have t27:=Tryz.underlying27; have a27:=Tryz.isAgg27; have z27:=Tryz.sizeOf27; have v27:=Tryz.zeroValue27; have u27:=run_underlying Tryz.underlying27;have t35:=Tryz.underlying35; have a35:=Tryz.isAgg35; have z35:=Tryz.sizeOf35; have v35:=Tryz.zeroValue35; have u35:=run_underlying Tryz.underlying35;have t3:=Tryz.underlying3; have a3:=Tryz.isAgg3; have z3:=Tryz.sizeOf3; have v3:=Tryz.zeroValue3; have u3:=run_underlying Tryz.underlying3;have t4:=Tryz.underlying4; have a4:=Tryz.isAgg4; have z4:=Tryz.sizeOf4; have v4:=Tryz.zeroValue4; have u4:=run_underlying Tryz.underlying4;obtain ⟨es,clock,at2,aon⟩:=L.map;have avh:mb < W.heap.size:=(vK.1 at2).1;by_cases PX:h=to
  ·subst PX
   have KA:=Kp.alloc (mb:=mb) W (.cells #[.int .i64 h.1,.int .i64 h.2] 32);have c1:(W.alloc (.cells #[.int .i64 h.1,.int .i64 h.2] 32)).cell? ⟨b1,0,none⟩=some (.int .i64 h.1):=(KA.cell L.l1.1 L.l1.2).trans L.c1;have d1:(W.alloc (.cells #[.int .i64 h.1,.int .i64 h.2] 32)).cell? ⟨b1,1,none⟩=some (.int .i64 h.2):=(KA.cell L.l1.1 L.l1.2).trans L.d1
   go_enter Tryz.func175,Tryz.ntmps175
   go_wp2
   go_ret
   exact ⟨S,L.ij KA ⟨es,clock,by rw [Below.heap_alloc W _ mb avh]; exact at2,aon⟩ L.to,KA,.inl ⟨rfl,.here⟩⟩
  ·have KA:=Kp.alloc (mb:=mb) W (.cells #[.int .i64 h.1,.int .i64 h.2] 32)
   obtain ⟨t1,c1,d1,avi⟩:∃ t1,(W.alloc (.cells #[.int .i64 h.1,.int .i64 h.2] 32)).cell? ⟨b1,0,none⟩=some (.int .i64 t1)/\(W.alloc (.cells #[.int .i64 h.1,.int .i64 h.2] 32)).cell? ⟨b1,1,none⟩=some (.int .i64 to.2)/\(t1=h.1/\¬ h.2=to.2\/¬ h.1=t1):=by
    refine ⟨to.1,(KA.cell L.l1.1 L.l1.2).trans L.c1,(KA.cell L.l1.1 L.l1.2).trans L.d1,?_⟩;by_cases e1:h.1=to.1
    ·exact .inl ⟨e1.symm,fun e2=>PX (Prod.ext e1 e2)⟩
    ·exact .inr e1
   have c2:(W.alloc (.cells #[.int .i64 h.1,.int .i64 h.2] 32)).cell? ⟨b2,0,none⟩=some (.map (some mb)):=(KA.cell L.l2.1 L.l2.2).trans L.c2;have amh:(W.alloc (.cells #[.int .i64 h.1,.int .i64 h.2] 32)).heap[mb]? = some (.map es clock):=by rw [Below.heap_alloc W _ mb avh]; exact at2
   have hlk:=asq amh aon h;by_cases hS:h∈S
   ·rw [aq hS] at hlk
    have fin:∃ S',Bv q B b1 b2 b3 b4 mb to (W.alloc (.cells #[.int .i64 h.1,.int .i64 h.2] 32)) S'/\Kp mb W (W.alloc (.cells #[.int .i64 h.1,.int .i64 h.2] 32))/\Grow q S h S':=
     ⟨S,L.ij KA ⟨es,clock,amh,aon⟩ L.to,KA,⟨fun x hx=>hx,hS,fun x hx=>.inl hx⟩⟩
    obtain ⟨S',f1,f2,f3⟩:=fin;rcases avi with ⟨rfl,e2⟩ | e1
    ·go_enter Tryz.func175,Tryz.ntmps175
     go_wp2
     go_ret
     exact ⟨S',f1,f2,.inr ⟨rfl,f3⟩⟩
    ·go_enter Tryz.func175,Tryz.ntmps175
     go_wp2
     go_ret
     exact ⟨S',f1,f2,.inr ⟨rfl,f3⟩⟩
   ·rw [bj hS] at hlk
    have XY:=at0 amh aon h hS;have avN:=ae0 (o:=.map (es.push ⟨hv h,.bool true,clock⟩) (clock+1)) amh;have KP:=Kp.put (mb:=mb) (W.alloc (.cells #[.int .i64 h.1,.int .i64 h.2] 32)) (.map (es.push ⟨hv h,.bool true,clock⟩) (clock+1));have LP:=L.ij (KA.trans KP) ⟨_,_,avN,apU aon h clock⟩ (by
     rw [nG];rintro (hm | hm)
     ·exact L.to hm
     ·exact PX (List.mem_singleton.1 hm).symm)
    have cb:(put (W.alloc (.cells #[.int .i64 h.1,.int .i64 h.2] 32)) mb (.map (es.push ⟨hv h,.bool true,clock⟩) (clock+1))).cell? ⟨W.heap.size,0,none⟩=some (.int .i64 h.1):=by
     rw [KP.cell (by simp) (by omega)];simp
    have AU:=LP.g;obtain ⟨hU1,hU2⟩:=hU h hhU;obtain ⟨bk,ok,hka,hbk,hO⟩:=AU.kids h.1.toNat (by omega);have d3:=LP.d3;rw [hka] at d3;have c4:=LP.c4;have V1:W.heap.size < (put (W.alloc (.cells #[.int .i64 h.1,.int .i64 h.2] 32)) mb (.map (es.push ⟨hv h,.bool true,clock⟩) (clock+1))).heap.size:=by rw [abp]; simp
    have K2:=KA.trans KP;generalize put (W.alloc (.cells #[.int .i64 h.1,.int .i64 h.2] 32)) mb (.map (es.push ⟨hv h,.bool true,clock⟩) (clock+1))=W2 at *;have eg:∀ args w,(callFunc 175 args).run Tryz.prog w = .ok (.enter 175 args) w:=enters_of Tryz.func175 (by kernel_rfl) rfl;have RG:=WA 175 #[.pointer (some ⟨b1,0,none⟩),.pointer (some ⟨b2,0,none⟩),.pointer (some ⟨b3,0,none⟩),.pointer (some ⟨b4,0,none⟩)] eg (q.ia h.1.toNat) (q.im h.1.toNat) (q.ic h.1.toNat) (q.pN h.1.toNat)
     (fun kk W'=>∃ S1,Bv q B b1 b2 b3 b4 mb to W' S1/\Kp mb W2 W'/\(∀ x∈S,x∈S1)/\h∈S1/\(∀ j,j < kk->q.pN h.1.toNat j∈S1)/\∀ x∈S1,x∈S\/x=h\/∀ k,k < q.im x.1.toNat->q.pN x.1.toNat k∈S1)
     (fun W'=>∃ S1,Bv q B b1 b2 b3 b4 mb to W' S1/\Kp mb W2 W'/\Reach q to h)
     (LP.g.small _ (by omega))
     (fun W' kk hk ⟨S1,L1,_⟩=>by
      obtain ⟨b,off,r1,_,r2,r3⟩:=L1.g.row h.1.toNat (by omega) kk hk;exact ⟨b,off,r1,r2,r3⟩)
     (fun kk W' hk ⟨S1,L1,k1,s1,s2,s3,s4⟩=>by
      refine (ih S1 W' (q.pN h.1.toNat kk) (hU2 kk hk) (nI (filter_lt s1 hS s2 U hhU) (Nat.le_of_lt_succ hf)) L1).mono ?_;rintro e W3 ⟨S2,L2,k2,⟨rfl,hr⟩ | ⟨rfl,Hr⟩⟩
      ·exact .inl ⟨rfl,S2,L2,k1.trans k2,.pN h kk hk hr⟩
      ·refine .inr ⟨rfl,S2,L2,k1.trans k2,fun x hx=>Hr.sub x (s1 x hx),Hr.sub h s2,fun j hj=>?_,fun x hx=>?_⟩
       ·by_cases ej:j=kk
        ·subst ej; exact Hr.is
        ·exact Hr.sub _ (s3 j (by omega))
       ·rcases Hr.new x hx with h1 | h1
        ·rcases s4 x h1 with h2 | h2 | h2
         ·exact .inl h2
         ·exact .inr (.inl h2)
         ·exact .inr (.inr fun k hk=>Hr.sub _ (h2 k hk))
        ·exact .inr (.inr h1))
     W2.drew ⟨S++[h],LP.ij (Kp.drew mb W2) (by obtain ⟨pO,cl2,q1,q2⟩:=LP.map; exact ⟨pO,cl2,q1,q2⟩) LP.to,Kp.drew mb W2,fun x hx=>List.mem_append_left _ hx,List.mem_append_right _ (List.mem_singleton.2 rfl),fun j hj=>absurd hj (o6 _),fun x hx=>(nG.1 hx).imp id fun q=>.inl (List.mem_singleton.1 q)⟩
    have D1:0<=h.1:=hU1.1;have bG:h.1 < (q.kn:Int):=hU1.2;have fin:∀ W' r,(r=true/\(∃ S1,Bv q B b1 b2 b3 b4 mb to W' S1/\Kp mb W2 W'/\Reach q to h)\/r=false/\∃ S1,Bv q B b1 b2 b3 b4 mb to W' S1/\Kp mb W2 W'/\(∀ x∈S,x∈S1)/\h∈S1/\(∀ j,j < q.im h.1.toNat->q.pN h.1.toNat j∈S1)/\∀ x∈S1,x∈S\/x=h\/∀ k,k < q.im x.1.toNat->q.pN x.1.toNat k∈S1)->
      ∃ S',Bv q B b1 b2 b3 b4 mb to W' S'/\Kp mb W W'/\((Ending.returned (.bool r) = .returned (.bool true))/\Reach q to h\/(Ending.returned (.bool r) = .returned (.bool false))/\Grow q S h S'):=by
     rintro W' r (⟨rfl,S1,L1,k1,hr⟩ | ⟨rfl,S1,L1,k1,s1,s2,s3,s4⟩)
     ·exact ⟨S1,L1,K2.trans k1,.inl ⟨rfl,hr⟩⟩
     ·refine ⟨S1,L1,K2.trans k1,.inr ⟨rfl,s1,s2,fun x hx=>?_⟩⟩
      rcases s4 x hx with h1 | h1 | h1
      ·exact .inl h1
      ·subst h1; exact .inr s3
      ·exact .inr h1
    clear ih hU2 LP L AU hf;rcases avi with ⟨rfl,e2⟩ | e1
    ·go_enter Tryz.func175,Tryz.ntmps175
     go_wp2
     go_region_with (go_at_call 122; refine RG.mono ?_; rintro e w' ⟨r,rfl,hr⟩)
     all_goals (go_wp2; go_ret; exact fin _ _ (by assumption))
    ·go_enter Tryz.func175,Tryz.ntmps175
     go_wp2
     go_region_with (go_at_call 122; refine RG.mono ?_; rintro e w' ⟨r,rfl,hr⟩)
     all_goals (go_wp2; go_ret; exact fin _ _ (by assumption))
abbrev gv (q:G):Value:=.agg #[.slice q.sa q.sn q.sc,.slice q.ka q.kn q.kc]
def MapAt (mb:Nat) (W:World) (S:List (Int×Int)):Prop:=∃ es clock,W.heap[mb]? = some (.map es clock)/\Zf es S
theorem Ku (V:World) (o:Obj) (n:Nat) (h:n=V.heap.size):(V.alloc o).heap[n]? = some o:=by
 subst h;exact heap_alloc_new V o
theorem B9 {W:World} {b:Nat} {c:Array Value} {t:TypeId} (h:W.heap[b]? = some (.cells c t)) (i:Nat):W.cell? ⟨b,i,none⟩=c[i]?:=by
 unfold World.cell?;simp [h]
theorem awM (W:World) (A0 A1 A2 A3 A4:Obj):∃ V,V=((((W.alloc A0).alloc A1).alloc A2).alloc A3).alloc A4/\V.heap[W.heap.size]? = some A0/\V.heap[W.heap.size+1]? = some A1/\V.heap[W.heap.size+1+1]? = some A2/\V.heap[W.heap.size+1+1+1]? = some A3/\V.heap[W.heap.size+1+1+1+1]? = some A4/\V.heap.size=W.heap.size+5/\∀ mb,Kp mb W V:=by
 have s1:(W.alloc A0).heap.size=W.heap.size+1:=by simp
 have s2:((W.alloc A0).alloc A1).heap.size=W.heap.size+2:=by simp
 have s3:(((W.alloc A0).alloc A1).alloc A2).heap.size=W.heap.size+3:=by simp
 have s4:((((W.alloc A0).alloc A1).alloc A2).alloc A3).heap.size=W.heap.size+4:=by simp
 refine ⟨_,rfl,?_,?_,?_,?_,?_,by simp,fun mb=>((((Kp.alloc W A0).trans (Kp.alloc _ A1)).trans (Kp.alloc _ A2)).trans (Kp.alloc _ A3)).trans (Kp.alloc _ A4)⟩
 ·rw [Below.heap_alloc _ _ _ (by omega),Below.heap_alloc _ _ _ (by omega),Below.heap_alloc _ _ _ (by omega),Below.heap_alloc _ _ _ (by omega)]
  exact Ku _ _ _ rfl
 ·rw [Below.heap_alloc _ _ _ (by omega),Below.heap_alloc _ _ _ (by omega),Below.heap_alloc _ _ _ (by omega)]
  exact Ku _ _ _ (by omega)
 ·rw [Below.heap_alloc _ _ _ (by omega),Below.heap_alloc _ _ _ (by omega)]
  exact Ku _ _ _ (by omega)
 ·rw [Below.heap_alloc _ _ _ (by omega)]
  exact Ku _ _ _ (by omega)
 ·exact Ku _ _ _ (by omega)
set_option maxHeartbeats 4000000 in
theorem below (q:G) (B mb:Nat) (vt to:Int×Int) (U:List (Int×Int)) (hU:∀ u∈U,(0<=u.1/\u.1 < (q.kn:Int))/\∀ k,k < q.im u.1.toNat->q.pN u.1.toNat k∈U) (S:List (Int×Int)) (W:World)
  (hf:vt∈U) (hg:GAt q B W) (hB:B<=W.heap.size) (hm:B<=mb) (hM:MapAt mb W S) (ht:to ∉ S) :
  Calls Tryz.prog 124 #[gv q,.map (some mb),hv vt,hv to] W fun e W'=>∃ S' r,e = .returned (.bool r)/\MapAt mb W' S'/\Kp mb W W'/\(r=true/\Reach q to vt\/r=false/\Grow q S vt S'/\to ∉ S'):=by
 have hml:mb < W.heap.size:=by obtain ⟨es,c,h,_⟩:=hM; exact (vK.1 h).1
 have RG:Calls Tryz.prog 175 #[hv vt,.pointer (some ⟨W.heap.size+1+1+1,0,none⟩),.pointer (some ⟨W.heap.size+1,0,none⟩),.pointer (some ⟨W.heap.size,0,none⟩),.pointer (some ⟨W.heap.size+1+1+1+1,0,none⟩)] (((((W.alloc (.cells #[.slice q.sa q.sn q.sc,.slice q.ka q.kn q.kc] 27)).alloc (.cells #[.map (some mb)] 202)).alloc (.cells #[.int .i64 vt.1,.int .i64 vt.2] 32)).alloc (.cells #[.int .i64 to.1,.int .i64 to.2] 32)).alloc (.cells #[.func (.func 175) #[] #[.pointer (some ⟨W.heap.size+1+1+1,0,none⟩),.pointer (some ⟨W.heap.size+1,0,none⟩),.pointer (some ⟨W.heap.size,0,none⟩),.pointer (some ⟨W.heap.size+1+1+1+1,0,none⟩)]] 200))
   fun e W'=>∃ S' r,e = .returned (.bool r)/\MapAt mb W' S'/\Kp mb W W'/\(r=true/\Reach q to vt\/r=false/\Grow q S vt S'/\to ∉ S'):=by
  obtain ⟨V,hV,v0,v1,v2,v3,v4,vs,vk⟩:=awM W (.cells #[.slice q.sa q.sn q.sc,.slice q.ka q.kn q.kc] 27) (.cells #[.map (some mb)] 202) (.cells #[.int .i64 vt.1,.int .i64 vt.2] 32) (.cells #[.int .i64 to.1,.int .i64 to.2] 32) (.cells #[.func (.func 175) #[] #[.pointer (some ⟨W.heap.size+1+1+1,0,none⟩),.pointer (some ⟨W.heap.size+1,0,none⟩),.pointer (some ⟨W.heap.size,0,none⟩),.pointer (some ⟨W.heap.size+1+1+1+1,0,none⟩)]] 200);rw [<- hV];have L:Bv q B (W.heap.size+1+1+1) (W.heap.size+1) W.heap.size (W.heap.size+1+1+1+1) mb to V S:=
   ⟨hg.ij (vk mb) hB hm,by omega,by omega,by omega,by omega,by omega,hm,by rw [B9 v3]; rfl,by rw [B9 v3]; rfl,by rw [B9 v1]; rfl,by rw [B9 v0]; rfl,by rw [B9 v0]; rfl,by rw [B9 v4]; rfl,by
    obtain ⟨es,c,h1,h2⟩:=hM;have hk:=vk (mb+1);exact ⟨es,c,by rw [hk.block mb hml (by omega)]; exact h1,h2⟩,ht⟩
  refine (look q B _ _ _ _ mb to U hU _ S V vt hf (Nat.lt_succ_self _) L).mono ?_;rintro e W' ⟨S',L',k',⟨rfl,hr⟩ | ⟨rfl,Hr⟩⟩
  ·exact ⟨S',true,rfl,L'.map,(vk mb).trans k',.inl ⟨rfl,hr⟩⟩
  ·exact ⟨S',false,rfl,L'.map,(vk mb).trans k',.inr ⟨rfl,Hr,L'.to⟩⟩
 have mixed:=HD;have t32:=Tryz.underlying32; have a32:=Tryz.isAgg32; have z32:=Tryz.sizeOf32; have v32:=Tryz.zeroValue32; have u32:=run_underlying Tryz.underlying32;have t202:=Tryz.underlying202; have arD:=Tryz.isAgg202; have arE:=Tryz.sizeOf202; have arF:=Tryz.zeroValue202; have RF:=run_underlying Tryz.underlying202;have t200:=Tryz.underlying200; have avd:=Tryz.isAgg200; have ave:=Tryz.sizeOf200; have avf:=Tryz.zeroValue200; have avg:=run_underlying Tryz.underlying200;have t27:=Tryz.underlying27; have a27:=Tryz.isAgg27; have z27:=Tryz.sizeOf27; have v27:=Tryz.zeroValue27; have u27:=run_underlying Tryz.underlying27;have t4:=Tryz.underlying4; have a4:=Tryz.isAgg4; have z4:=Tryz.sizeOf4; have v4:=Tryz.zeroValue4; have u4:=run_underlying Tryz.underlying4;have cW:(((((W.alloc (.cells #[.slice q.sa q.sn q.sc,.slice q.ka q.kn q.kc] 27)).alloc (.cells #[.map (some mb)] 202)).alloc (.cells #[.int .i64 vt.1,.int .i64 vt.2] 32)).alloc (.cells #[.int .i64 to.1,.int .i64 to.2] 32)).alloc (.cells #[.nilFunc] 200)).cell? ⟨W.heap.size+1+1+1+1,0,none⟩=some .nilFunc:=by rw [World.cell?_alloc_at _ _ _ _ (by simp)]; rfl
 have fW:(((((W.alloc (.cells #[.slice q.sa q.sn q.sc,.slice q.ka q.kn q.kc] 27)).alloc (.cells #[.map (some mb)] 202)).alloc (.cells #[.int .i64 vt.1,.int .i64 vt.2] 32)).alloc (.cells #[.int .i64 to.1,.int .i64 to.2] 32)).alloc (.cells #[.nilFunc] 200)).frozen? ⟨W.heap.size+1+1+1+1,0,none⟩=false:=by rw [World.frozen?_alloc_at _ _ _ _ (by simp)]
 go_enter Tryz.func124,Tryz.ntmps124
 go_wp2_with (go_at_call 175; refine RG.mono ?_; rintro e w' ⟨S',r,rfl,hr⟩)
 go_wp2
 go_ret
 exact ⟨S',r,rfl,hr⟩
end Go.Proofs.YtckbdndhmcoihaaGreat.nodes
end
section
namespace Go.K
open Go Go.aB
variable {P:Program} {E:Env}
theorem VC.auH {ρ:Ren} {cs:List KV} {u:Value} (h:VC P E ρ (.agg cs) u):∃ l,u = .agg ⟨l⟩/\ug P E ρ cs l:=by
 obtain ⟨u',h1,h2⟩:=h;obtain ⟨l,rfl,q⟩:=h1.mh;obtain ⟨l',e,h3⟩:=h2.mh;exact ⟨l'.toList,e,l,q,h3⟩
theorem abq {A:aw} {B:St} {ρ:Ren} {base:Nat} {w:World} (hj:KJ P E A B ρ base w) {T:TypeId} {m:Mk} {n:Nat} {es:List KV} {acc:Nat->KV} {u:Value} (h:VC P E ρ (.ts T m n es acc) u) :
  ∃ a c,u = .slice a n c/\∀ i,i < n->∃ b off,a=some ⟨b,off,none⟩/\b < w.heap.size/\∀ k c',(acc i).cells[k]? = some c'->∃ z,w.cell? ⟨b,off+i * bD P T+k,none⟩=some z/\VC P E ρ c' z:=by
 obtain ⟨u',hk,hr⟩:=h;obtain ⟨ht,bK,VT,a,cap,rfl,aqF,N5,_⟩:=hk.mC;cases a with
 | none=>
  have:=hr.jq;subst this;refine ⟨none,cap,rfl,fun i hi=>?_⟩;rcases N5 with ⟨_,h0⟩ | ⟨b,off,r,e,_⟩
  ·omega
  ·simp at e
 | some a=>
  obtain ⟨Gl,Hh,lc,a',c',hl,uO,K3,pK,rfl⟩:=hr.mZ;refine ⟨some a',c',rfl,fun i hi=>?_⟩;rcases N5 with ⟨e,_⟩ | ⟨b,off,r,e,hz,fZ,awN⟩
  ·simp at e
  ·simp only [di] at e
   subst e;have hO:=hj.k.z b r hz;obtain ⟨l,ux,ok⟩:=hj.s.rel.row _ _ _ _ _ hO;rw [hl] at ux;have:=Option.some.inj ux;subst this;have hi' : i < es.length:=by have:=ht.len; omega
   refine ⟨lc.cb,lc.eB+off,by rw [K3 (by omega)],ok.pE,fun k c1 hc1=>?_⟩;have hg:es[i]? = some (acc i):=by
    rw [ht.acc i (by omega),iK,dr hi'];rfl
   obtain ⟨y,hy,hvy⟩:=VT.get hg;have hkn:=(jy (ku ht.typed hg)).2;obtain ⟨hys,hyc⟩:=awN i y hy;obtain ⟨z,hz1,Ij⟩:=(hvy.cells hkn).get hc1;have:=hyc k z (by simpa using hz1);obtain ⟨z',q1,q2,_⟩:=ok.cells _ z this;exact ⟨z',by rw [show lc.eB+off+i * bD P T+k=lc.eB+(off+i * bD P T+k) by omega]; exact q1,z,Ij,q2⟩
end Go.K
end
section
namespace Go.K
open Go Go.aB
variable {P:Program} {E:Env}
def Trie.aoo {α β:Type} (f:α->β):Trie α->Trie β
 | .leaf=>.leaf
 | .node v l r=>.node (v.map f) (Trie.aoo f l) (Trie.aoo f r)
theorem Trie.abr {α β:Type} (f:α->β):∀ (t:Trie α) (n:Nat),(Trie.aoo f t).get n=(t.get n).map f
 | .leaf,n=>rfl
 | .node v l r,n=>by
  rw [Trie.get_eq,Trie.get_eq];cases n with
  | zero=>rfl
  | succ m=>
   have hl:=Trie.abr f l (Nat.div m 2);have hr:=Trie.abr f r (Nat.div m 2);rw [Trie.get_eq,Trie.get_eq] at hl hr;simp only [Trie.aoo,Trie.CH];cases Nat.beq (Nat.mod m 2) 0 with
   | true=>exact hl
   | false=>exact hr
def cO.still:cO->cO
 | .row cs cg _ _=>.row cs cg false none
 | _=>.dead
def St.still (B:St):St:=⟨Trie.aoo cO.still B.heap,B.next,0,.leaf⟩
theorem St.ahB (B:St) (b:Nat):(St.still B).get b=(B.get b).map cO.still:=Trie.abr _ _ _
theorem St.apV (B:St) (g:Nat):(St.still B).members g = []:=rfl
def Env.still (E:Env):Env:={ κ:=fun _=>Option.none,z:=fun b=>(E.z b).map fun r=>{ r with own:=false,cp:=Option.none },φ:=fun _=>Option.none,α:=fun _=>Option.none }
theorem Env.asr (E:Env):ZLe E E.still:=fun b r e=>⟨{ r with own:=false,cp:=Option.none },by simp [Env.still,e],rfl,rfl⟩
theorem St.WB {B:St} {b:Nat} {o:cO} (h:(St.still B).get b=some o) (hd:o≠.dead):∃ cs cg own cp,B.get b=some (.row cs cg own cp)/\o = .row cs cg false none:=by
 rw [St.ahB] at h;cases hb:B.get b with
 | none=>rw [hb] at h; simp at h
 | some x=>
  rw [hb] at h;have h:some (cO.still x)=some o:=h;have h:=Option.some.inj h;cases x <;> first
   | exact ⟨_,_,_,_,rfl,h.symm⟩
   | exact absurd h.symm hd
theorem St.ac9 {B:St} {b:Nat} {o:cO} (h:(St.still B).get b=some o):o.gf=false:=by
 by_cases hd:o = .dead
 ·subst hd; rfl
 ·obtain ⟨_,_,_,_,_,rfl⟩:=St.WB h hd
  rfl
theorem St.apW {B:St} {b:Nat} {o:cO} (h:(St.still B).get b=some o):o.nB=none:=by
 by_cases hd:o = .dead
 ·subst hd; rfl
 ·obtain ⟨_,_,_,_,_,rfl⟩:=St.WB h hd
  rfl
theorem vB.still {ρ:Ren} {B:St} {base:Nat} {w:World} (h:vB ρ B base w):vB ρ (St.still B) w.heap.size w:=by
 refine ⟨.Hg (fun b o hg hd=>?_) (fun b1 b2 o1 o2 l1 l2 _ h1 _ hm=>?_) (fun b o bA f hg hk=>?_),h.lV,aU _,h.JO⟩
 ·obtain ⟨cs,cg,own,cp,e,rfl⟩:=St.WB hg hd
  obtain ⟨l,e2,ok⟩:=h.rel.row _ _ _ _ _ e;refine ⟨l,e2,?_⟩;exact ⟨ok.cells,fun _=>ok.pE,fun e=>by simp at e,fun e=>by simp at e,ok.fits,fun e=>by simp at e,ok.cg,ok.pE,fun e=>by simp at e⟩
 ·rw [St.ac9 h1] at hm; simp at hm
 ·rw [St.apW hg] at hk; simp at hk
theorem fX.still {A:aw} {B:St} (h:fX P E A B):fX P E.still .empty (St.still B) where
 row b cs cg hb:=by simp [aw.empty,aw.get] at hb
 bA b top sz hb:=by simp [aw.empty,aw.get] at hb
 z b r e:=by
  simp only [Env.still,cS] at e;obtain ⟨r0,e,rfl⟩:=e;rw [St.ahB,h.z b r0 e];rfl
 apart b x e:=by simp [Env.still] at e
 inj b c x e:=by simp [Env.still] at e
 kQ b c g _ _ _ _ _ _ e:=by simp [Env.still] at e
 lV b x e:=by simp [Env.still] at e
 nQ b g e:=by simp [Env.still] at e
 live b o hb:=by simp [aw.empty,aw.get] at hb
 iV b x e:=by simp [Env.still] at e
 nR b r e:=by
  simp only [Env.still,cS] at e;obtain ⟨r0,e,rfl⟩:=e;exact h.nR b r0 e
 lr b g e:=by simp [Env.still] at e
 fresh g _:=rfl
 mem g x hx:=by rw [St.apV] at hx; simp at hx
 ar:=by
  have hn:∀ b v,¬ aw.empty.get b=some (.arr v):=fun b v hb=>by simp [aw.empty,aw.get] at hb
  exact ⟨fun b v hb=>(hn b v hb).elim,fun b v hb=>by simp [aw.empty,aw.get] at hb,fun x ⟨b,v,_,_,hb,_⟩=>(hn b v hb).elim,fun b c v u x L N L' N' hb=>(hn b v hb).elim,fun b c v u x y L N L' N' cs e own g k cu e' rH k' hb=>(hn b v hb).elim,fun b x e=>by simp [Env.still] at e,fun b p e=>by simp [Env.still] at e,fun b x L N e=>by simp [Env.still] at e,fun b v x L N cs e own g k hb=>(hn b v hb).elim,fun b v hb=>(hn b v hb).elim⟩
theorem ada {A:aw} {B:St} {ρ:Ren} {base:Nat} {w W:World} (hj:KJ P E A B ρ base w) (hw:RowKit.Below w.heap.size w W) {g:FuncId} {F:List KV->KR KV} (hpu:bH P g F) {args:List KV} {v:KV} {hZ:List Value}
  (hF:bf (F (normArgs P (aG P g) (normArgs P (aG P g) args))) v) (hlen:args.length=(aG P g).length) (hv:ug P E ρ args hZ) :
  Calls P g hZ.toArray W fun e W'=>∃ v' E' bd,e = .returned v'/\VC P E' bd v v'/\RowKit.Below W.heap.size W W':=by
 have hs:=vB.still (l7.below hj.s hw).kA;obtain ⟨m,h1,h2⟩:=hv;have Ih:ug P E.still ρ (normArgs P (aG P g) args) hZ:=⟨m,bC.QZ (Env.asr E) h1 hlen,h2⟩
 obtain ⟨_,mW⟩:=hpu _ v hF (Mw hlen);refine (mW E.still .empty (St.still B) ρ W.heap.size W hZ Ih ⟨hj.k.still,hs⟩).mono ?_;rintro e W' ⟨v',E',B',bd,rfl,q1,q2⟩;refine ⟨v',E',bd,rfl,q1,?_⟩;have k:=q2.gN.kept;refine ⟨k.os,k.tape,k.output,k.size,fun j hj=>k.block j hj ?_⟩;rintro ⟨b,o,l,ho,hm,_⟩;rw [St.ac9 ho] at hm;simp at hm
theorem Zh {g:FuncId} {R:Type} [Inhabited R] {k:R->KV} {r:List KV->Option R} {aw7:List KV} {x:R} (ha:l9 P (aG P g) aw7=true) (hr:r aw7=some x):bf (bI P g (bL k r) aw7) (k x):=by
 unfold bI bL;rw [ha,hr];exact ⟨rfl,rfl⟩
theorem VC.cU {ρ:Ren} {k:IntKind} {n:Int} {v:Value} (h:VC P E ρ (.int k n) v):v = .int k n:=by
 obtain ⟨u,h1,h2⟩:=h;have h1:u = .int k n:=by simpa [VK] using h1
 subst h1;exact h2.cU
theorem ug.Zi {ρ:Ren} {c:KV} {cs:List KV} {l:List Value} (h:ug P E ρ (c::cs) l):∃ x xs,l=x::xs/\VC P E ρ c x/\ug P E ρ cs xs:=by
 obtain ⟨m,h1,h2⟩:=h;obtain ⟨y,ys,rfl,h3,h4⟩:=h1.cons_inv;obtain ⟨z,zs,rfl,h5,h6⟩:=h2.cons_inv;exact ⟨z,zs,rfl,⟨y,h3,h5⟩,⟨ys,h4,h6⟩⟩
theorem ug.ami {ρ:Ren} {l:List Value} (h:ug P E ρ [] l):l = []:=by
 obtain ⟨m,h1,h2⟩:=h;rw [h1.cw] at h2;exact h2.cw
theorem ug.M5 {ρ:Ren} {c:KV} {cs:List KV} {x:Value} {xs:List Value} (h:VC P E ρ c x) (h' : ug P E ρ cs xs):ug P E ρ (c::cs) (x::xs):=by
 obtain ⟨y,h1,h2⟩:=h;obtain ⟨ys,h3,h4⟩:=h';exact ⟨y::ys,.cons h1 h3,.cons h2 h4⟩
theorem ug.ae9 {ρ:Ren} : ug P E ρ [] []:=⟨[],.nil,.nil⟩
theorem VC.arG {ρ:Ren} {cs:List KV} {xs:List Value} (h:ug P E ρ cs xs):VC P E ρ (.agg cs) (.agg ⟨xs⟩):=by
 obtain ⟨ys,h3,h4⟩:=h;exact ⟨.agg ⟨ys⟩,by simp only [VK]; exact ⟨ys,rfl,h3⟩,by simp only [VR]; exact ⟨⟨xs⟩,by simpa [uw] using h4,rfl⟩⟩
end Go.K
end
section
set_option maxRecDepth 20000
namespace Go.Proofs.YtckbdndhmcoihaaGreat.nodes
open Go Go.RowKit Go.Lib Go.Shelf Go.K
abbrev hp (h:b.Handle):Int×Int:=(h.slot,h.gen)
structure ahC (q:G) (B:Nat) (W:World):Prop where
 kids:∀ i,i < q.kn->∃ b off,q.ka=some ⟨b,off,none⟩/\b < B/\W.cell? ⟨b,off+i,none⟩=some (.slice (q.ia i) (q.im i) (q.ic i))
 row:∀ i,i < q.kn->∀ k,k < q.im i->∃ b off,q.ia i=some ⟨b,off,none⟩/\b < B/\W.cell? ⟨b,off+k * 2,none⟩=some (.int .i64 (q.pN i k).1)/\W.cell? ⟨b,off+k * 2+1,none⟩=some (.int .i64 (q.pN i k).2)
theorem ahC.with {q:G} {B:Nat} {W:World} (h:ahC q B W) (hs:∀ i,i < q.kn->q.im i<=1000000):GAt q B W:=⟨h.kids,hs,h.row⟩
theorem ahC.ij {q:G} {B mb:Nat} {W W' : World} (h:ahC q B W) (k:Kp mb W W') (hB:B<=W.heap.size) (hm:B<=mb):ahC q B W':=by
 refine ⟨fun i hi=>?_,fun i hi j hj=>?_⟩
 ·obtain ⟨b,off,h1,h2,h3⟩:=h.kids i hi
  exact ⟨b,off,h1,h2,by rw [k.cell (by omega) (by omega)]; exact h3⟩
 ·obtain ⟨b,off,h1,h2,h3,h4⟩:=h.row i hi j hj
  exact ⟨b,off,h1,h2,by rw [k.cell (by omega) (by omega)]; exact h3,by rw [k.cell (by omega) (by omega)]; exact h4⟩
structure Of (q:G) (g:b.dG) (B:Nat) (W:World):Prop where
 sn:q.sn=g.ca.bJ.n
 kn:q.kn=g.kids.n
 im:∀ i,q.im i=(g.kids.get i).n
 pN:∀ i k,q.pN i k=hp ((g.kids.get i).get k)
 slot:∀ i,i < q.sn->∃ b off,q.sa=some ⟨b,off,none⟩/\b < B/\W.cell? ⟨b,off+i * 2,none⟩=some (.int .i64 (g.ca.bJ.get i).gen)/\W.cell? ⟨b,off+i * 2+1,none⟩=some (.bool (g.ca.bJ.get i).live)
theorem Of.ij {q:G} {g:b.dG} {B mb:Nat} {W W' : World} (h:Of q g B W) (k:Kp mb W W') (hB:B<=W.heap.size) (hm:B<=mb):Of q g B W':=by
 refine ⟨h.sn,h.kn,h.im,h.pN,fun i hi=>?_⟩;obtain ⟨b,off,h1,h2,h3,h4⟩:=h.slot i hi;exact ⟨b,off,h1,h2,by rw [k.cell (by omega) (by omega)]; exact h3,by rw [k.cell (by omega) (by omega)]; exact h4⟩
theorem awO:bD Tryz.prog 35=1:=by kernel_rfl
theorem awP:bD Tryz.prog 32=2:=by kernel_rfl
theorem avO:bD Tryz.prog 111=2:=by kernel_rfl
theorem ass {E:Env} {A:aw} {B:aB.St} {ρ:aB.Ren} {base:Nat} {w:World} {g:b.dG} {u:Value} (hj:KJ Tryz.prog E A B ρ base w) (h:VC Tryz.prog E ρ (b.pd g) u) :
  ∃ q:G,u=gv q/\ahC q w.heap.size w/\Of q g w.heap.size w/\VC Tryz.prog E ρ (b.jf g.ca) (.agg #[.slice q.sa q.sn q.sc]):=by
 obtain ⟨l,rfl,hl⟩:=h.auH;obtain ⟨x,xs,rfl,h1,ni⟩:=hl.Zi;obtain ⟨y,ys,rfl,h2,hl3⟩:=ni.Zi;obtain rfl:=hl3.ami;obtain ⟨sa,sc,rfl,H1⟩:=abq hj h1;obtain ⟨ka,kc,rfl,H2⟩:=abq hj h2;have H3:∀ i,∃ p:Option Addr×Nat,i < g.kids.n->(∃ b off,ka=some ⟨b,off,none⟩/\b < w.heap.size/\w.cell? ⟨b,off+i,none⟩=some (.slice p.1 (g.kids.get i).n p.2))/\
   ∀ k,k < (g.kids.get i).n->∃ b off,p.1=some ⟨b,off,none⟩/\b < w.heap.size/\w.cell? ⟨b,off+k * 2,none⟩=some (.int .i64 ((g.kids.get i).get k).slot)/\w.cell? ⟨b,off+k * 2+1,none⟩=some (.int .i64 ((g.kids.get i).get k).gen):=by
  intro i;by_cases hi:i < g.kids.n
  ·obtain ⟨bb,off,e1,e2,e3⟩:=H2 i hi
   obtain ⟨z,z1,z2⟩:=e3 0 (eA 32 b.dL (g.kids.get i)) rfl;obtain ⟨a,c,rfl,H⟩:=abq hj z2;rw [awO] at z1;refine ⟨(a,c),fun _=>⟨⟨bb,off,e1,e2,by rw [show off+i=off+i * 1+0 by omega]; exact z1⟩,fun k hk=>?_⟩⟩;obtain ⟨bc,awQ,r1,r2,r3⟩:=H k hk;obtain ⟨z,s1,s2⟩:=r3 0 (.int .i64 ((g.kids.get i).get k).slot) rfl;obtain ⟨z',t1,t2⟩:=r3 1 (.int .i64 ((g.kids.get i).get k).gen) rfl;rw [awP] at s1 t1;rw [s2.cU] at s1;rw [t2.cU] at t1;exact ⟨bc,awQ,r1,r2,s1,t1⟩
  ·exact ⟨(none,0),fun h=>absurd h hi⟩
 obtain ⟨f,hf⟩:=Classical.axiomOfChoice H3;refine ⟨⟨sa,g.ca.bJ.n,sc,ka,g.kids.n,kc,fun i=>(f i).1,fun i=>(g.kids.get i).n,fun i=>(f i).2,fun i k=>hp ((g.kids.get i).get k)⟩,rfl,⟨fun i hi=>(hf i hi).1,fun i hi k hk=>(hf i hi).2 k hk⟩,⟨rfl,rfl,fun _=>rfl,fun _ _=>rfl,fun i hi=>?_⟩,.arG (.M5 h1 .ae9)⟩;obtain ⟨bb,off,e1,e2,e3⟩:=H1 i hi;obtain ⟨z,s1,s2⟩:=e3 0 (.int .i64 (g.ca.bJ.get i).gen) rfl;obtain ⟨z',t1,t2⟩:=e3 1 (.bool (g.ca.bJ.get i).live) rfl;rw [avO] at s1 t1;rw [s2.cU] at s1;rw [t2.gi] at t1;exact ⟨bb,off,e1,e2,s1,t1⟩
theorem aop {E:Env} {A:aw} {B:aB.St} {ρ:aB.Ren} {base:Nat} {w W:World} (hj:KJ Tryz.prog E A B ρ base w) (hw:Below w.heap.size w W) {a:b.jH} {x:Value} (hx:VC Tryz.prog E ρ (b.jf a) x) {n:Int} (hn:b.fB a=some n) :
  Calls Tryz.prog 120 #[x] W fun e W'=>e = .returned (.int .i64 n)/\Below W.heap.size W W':=by
 have ep:aG Tryz.prog 120 = [24]:=by kernel_rfl
 have en:normArgs Tryz.prog (aG Tryz.prog 120) (normArgs Tryz.prog (aG Tryz.prog 120) [b.jf a]) = [b.jf a]:=by rw [ep]; kernel_rfl
 refine (ada hj hw b.J5 (args:=[b.jf a]) (v:=kI .i64 n) (by rw [en]; exact Zh (by rw [ep]; kernel_rfl) hn) (by rw [ep]; rfl) (.M5 hx .ae9)).mono ?_;rintro e W' ⟨v',E',bd,rfl,q1,q2⟩;exact ⟨by rw [q1.cU],q2⟩
theorem aoq {E:Env} {A:aw} {B:aB.St} {ρ:aB.Ren} {base:Nat} {w W:World} (hj:KJ Tryz.prog E A B ρ base w) (hw:Below w.heap.size w W) {a:b.jH} {x:Value} (hx:VC Tryz.prog E ρ (b.jf a) x) {h:Int×Int} {r:Bool} (hn:b.eG a ⟨h.1,h.2⟩=some r) :
  Calls Tryz.prog 77 #[x,hv h] W fun e W'=>e = .returned (.bool r)/\Below W.heap.size W W':=by
 have ep:aG Tryz.prog 77 = [24,32]:=by kernel_rfl
 have en:normArgs Tryz.prog (aG Tryz.prog 77) (normArgs Tryz.prog (aG Tryz.prog 77) [b.jf a,b.dL ⟨h.1,h.2⟩]) = [b.jf a,b.dL ⟨h.1,h.2⟩]:=by rw [ep]; kernel_rfl
 have hh:VC Tryz.prog E ρ (b.dL ⟨h.1,h.2⟩) (hv h):=.arG (.M5 ⟨_,.mkInt,by simp [aB.VR]⟩ (.M5 ⟨_,.mkInt,by simp [aB.VR]⟩ .ae9));refine (ada hj hw b.tL (args:=[b.jf a,b.dL ⟨h.1,h.2⟩]) (v:=kB r) (by rw [en]; exact Zh (by rw [ep]; kernel_rfl) hn) (by rw [ep]; rfl) (.M5 hx (.M5 hh .ae9))).mono ?_;rintro e W' ⟨v',E',bd,rfl,q1,q2⟩;exact ⟨by rw [q1.gi],q2⟩
set_option maxHeartbeats 4000000 in
theorem rT {E:Env} {A:aw} {B:aB.St} {ρ:aB.Ren} {base:Nat} {w W:World} (hj:KJ Tryz.prog E A B ρ base w) (hw:Below w.heap.size w W) {a:b.jH} {q:G} (hx:VC Tryz.prog E ρ (b.jf a) (.agg #[.slice q.sa q.sn q.sc])) (h:Int×Int) {r:Bool} (hn:b.eG a ⟨h.1,h.2⟩=some r)
  {bg:Nat} (hbg:bg < W.heap.size) (c0:W.cell? ⟨bg,0,none⟩=some (.slice q.sa q.sn q.sc)) :
  Calls Tryz.prog 121 #[hv h,.pointer (some ⟨bg,0,none⟩)] W fun e W'=>e = .returned (.bool (!r))/\Below W.heap.size W W':=by
 have mixed:=HD;have t32:=Tryz.underlying32; have a32:=Tryz.isAgg32; have z32:=Tryz.sizeOf32; have v32:=Tryz.zeroValue32; have u32:=run_underlying Tryz.underlying32;have t27:=Tryz.underlying27; have a27:=Tryz.isAgg27; have z27:=Tryz.sizeOf27; have v27:=Tryz.zeroValue27; have u27:=run_underlying Tryz.underlying27;have t24:=Tryz.underlying24; have a24:=Tryz.isAgg24; have z24:=Tryz.sizeOf24; have v24:=Tryz.zeroValue24; have u24:=run_underlying Tryz.underlying24;have t22:=Tryz.underlying22; have a22:=Tryz.isAgg22; have z22:=Tryz.sizeOf22; have v22:=Tryz.zeroValue22; have u22:=run_underlying Tryz.underlying22;have t4:=Tryz.underlying4; have a4:=Tryz.isAgg4; have z4:=Tryz.sizeOf4; have v4:=Tryz.zeroValue4; have u4:=run_underlying Tryz.underlying4;have hc:=aoq hj (W:=W.alloc (.cells #[.int .i64 h.1,.int .i64 h.2] 32)) (hw.alloc hw.size _) hx hn;have c1:(W.alloc (.cells #[.int .i64 h.1,.int .i64 h.2] 32)).cell? ⟨bg,0,none⟩=some (.slice q.sa q.sn q.sc):=((Kp.alloc (mb:=W.heap.size) W _).cell hbg (by omega)).trans c0
 go_enter Tryz.func121,Tryz.ntmps121
 go_wp2_with (go_at_call 77; refine hc.mono ?_; rintro e w' ⟨rfl,hk⟩)
 go_wp2
 go_ret
 exact ⟨rfl,(Below.refl _ _ |>.alloc (aU _) _).trans (hk.mono (by simp))⟩
set_option maxHeartbeats 4000000 in
theorem under (q:G) (B mb:Nat) (vt to:Int×Int) (U:List (Int×Int)) (hU:∀ u∈U,(0<=u.1/\u.1 < (q.kn:Int))/\∀ k,k < q.im u.1.toNat->q.pN u.1.toNat k∈U) (S:List (Int×Int)) (W:World)
  (hf:vt∈U) (hg:GAt q B W) (hB:B<=W.heap.size) (hm:B<=mb) (hM:MapAt mb W S) (ht:to ∉ S) {bg bs bt:Nat} (lg:bg < W.heap.size/\bg≠mb) (ls:bs < W.heap.size/\bs≠mb) (lt:bt < W.heap.size/\bt≠mb)
  (c0:W.cell? ⟨bg,0,none⟩=some (.slice q.sa q.sn q.sc)) (c1:W.cell? ⟨bg,1,none⟩=some (.slice q.ka q.kn q.kc)) (c2:W.cell? ⟨bs,0,none⟩=some (.map (some mb))) (c3:W.cell? ⟨bt,0,none⟩=some (.int .i64 to.1)) (c4:W.cell? ⟨bt,1,none⟩=some (.int .i64 to.2)) :
  Calls Tryz.prog 123 #[hv vt,.pointer (some ⟨bg,0,none⟩),.pointer (some ⟨bs,0,none⟩),.pointer (some ⟨bt,0,none⟩)] W fun e W'=>∃ S' r,e = .returned (.bool r)/\MapAt mb W' S'/\Kp mb W W'/\(r=true/\Reach q to vt\/r=false/\Grow q S vt S'/\to ∉ S'):=by
 have mixed:=HD;have t32:=Tryz.underlying32; have a32:=Tryz.isAgg32; have z32:=Tryz.sizeOf32; have v32:=Tryz.zeroValue32; have u32:=run_underlying Tryz.underlying32;have t27:=Tryz.underlying27; have a27:=Tryz.isAgg27; have z27:=Tryz.sizeOf27; have v27:=Tryz.zeroValue27; have u27:=run_underlying Tryz.underlying27;have t202:=Tryz.underlying202; have arD:=Tryz.isAgg202; have arE:=Tryz.sizeOf202; have arF:=Tryz.zeroValue202; have RF:=run_underlying Tryz.underlying202;have t4:=Tryz.underlying4; have a4:=Tryz.isAgg4; have z4:=Tryz.sizeOf4; have v4:=Tryz.zeroValue4; have u4:=run_underlying Tryz.underlying4;have hml:mb < W.heap.size:=by obtain ⟨es,c,h,_⟩:=hM; exact (vK.1 h).1
 have KA:=Kp.alloc (mb:=mb) W (.cells #[.int .i64 vt.1,.int .i64 vt.2] 32);have hM1:MapAt mb (W.alloc (.cells #[.int .i64 vt.1,.int .i64 vt.2] 32)) S:=by
  obtain ⟨es,c,h1,h2⟩:=hM;exact ⟨es,c,by rw [Below.heap_alloc _ _ _ hml]; exact h1,h2⟩
 have hc:=below q B mb vt to U hU S (W.alloc (.cells #[.int .i64 vt.1,.int .i64 vt.2] 32)) hf (hg.ij KA hB hm) (o7 hB KA.size) hm hM1 ht;have d0:=(KA.cell lg.1 lg.2).trans c0;have d1:=(KA.cell lg.1 lg.2).trans c1;have d2:=(KA.cell ls.1 ls.2).trans c2;have d3:=(KA.cell lt.1 lt.2).trans c3;have d4:=(KA.cell lt.1 lt.2).trans c4;obtain ⟨f1,f2⟩:=vt;obtain ⟨t1,t2⟩:=to
 go_enter Tryz.func123,Tryz.ntmps123
 go_wp2_with (go_at_call 124; refine hc.mono ?_; rintro e w' ⟨S',r,rfl,hr⟩)
 go_wp2
 go_ret
 exact ⟨S',r,rfl,hr.1,KA.trans hr.2.1,hr.2.2⟩
theorem RH {q:G} {to:Int×Int} {S:List (Int×Int)} (hS:∀ x∈S,∀ k,k < q.im x.1.toNat->q.pN x.1.toNat k∈S) (ht:to ∉ S):∀ {x:Int×Int},Reach q to x->x ∉ S
 | _,.here=>ht
 | _,.pN h k hk r=>fun hm=>RH hS ht r (hS h hm k hk)
theorem Grow.closed {q:G} {S S' : List (Int×Int)} {h:Int×Int} (g:Grow q S h S') (hS:∀ x∈S,∀ k,k < q.im x.1.toNat->q.pN x.1.toNat k∈S):∀ x∈S',∀ k,k < q.im x.1.toNat->q.pN x.1.toNat k∈S':=fun x hx k hk=>
 (g.new x hx).elim (fun h1=>g.sub _ (hS x h1 k hk)) fun h1=>h1 k hk
theorem apX {W:World} {mb:Nat} {es:Array MapEntry} {clock:Nat} (hm:W.heap[mb]? = some (.map es clock)) :
  (Builtin.clear_ #[202] 0 #[.map (some mb)]).run Tryz.prog W = .ok (.tuple #[]) (put W mb (.map #[] clock)):=by
 have RF:=run_underlying Tryz.underlying202;simp [Builtin.clear_,RF,MapKept.run_getObj_map hm,MapKept.run_setObj_map _ hm,Result.andThen];rfl
theorem run_make (W:World):(Instr.makeMap 202 none).run Tryz.prog W = .ok (.map (some W.heap.size)) (W.alloc (.map #[] 0)):=by
 have RF:=run_underlying Tryz.underlying202;simp [Instr.makeMap,Result.andThen,newObj,Sem.run]
 try rfl
set_option maxHeartbeats 4000000 in
theorem reaches (q:G) (B:Nat) (vt to:Int×Int) (U:List (Int×Int)) (hU:∀ u∈U,(0<=u.1/\u.1 < (q.kn:Int))/\∀ k,k < q.im u.1.toNat->q.pN u.1.toNat k∈U) (W:World)
  (hf:vt∈U) (hg:GAt q B W) (hB:B<=W.heap.size) :
  Calls Tryz.prog 214 #[gv q,hv vt,hv to] W fun e W'=>∃ r,e = .returned (.bool r)/\Below W.heap.size W W'/\(r=true↔Reach q to vt):=by
 have mixed:=HD;have t32:=Tryz.underlying32; have a32:=Tryz.isAgg32; have z32:=Tryz.sizeOf32; have v32:=Tryz.zeroValue32; have u32:=run_underlying Tryz.underlying32;have t27:=Tryz.underlying27; have a27:=Tryz.isAgg27; have z27:=Tryz.sizeOf27; have v27:=Tryz.zeroValue27; have u27:=run_underlying Tryz.underlying27;have t202:=Tryz.underlying202; have arD:=Tryz.isAgg202; have arE:=Tryz.sizeOf202; have arF:=Tryz.zeroValue202; have RF:=run_underlying Tryz.underlying202;have t4:=Tryz.underlying4; have a4:=Tryz.isAgg4; have z4:=Tryz.sizeOf4; have v4:=Tryz.zeroValue4; have u4:=run_underlying Tryz.underlying4;have XT:=run_make;have RG:Calls Tryz.prog 124 #[gv q,.map (some (W.heap.size+1+1+1)),hv vt,hv to] ((((W.alloc (.cells #[.slice q.sa q.sn q.sc,.slice q.ka q.kn q.kc] 27)).alloc (.cells #[.int .i64 vt.1,.int .i64 vt.2] 32)).alloc (.cells #[.int .i64 to.1,.int .i64 to.2] 32)).alloc (.map #[] 0))
   fun e W'=>∃ r,e = .returned (.bool r)/\Below W.heap.size W W'/\(r=true↔Reach q to vt):=by
  have K1:=((((Kp.alloc (mb:=W.heap.size+1+1+1) W (.cells #[.slice q.sa q.sn q.sc,.slice q.ka q.kn q.kc] 27)).trans (Kp.alloc _ (.cells #[.int .i64 vt.1,.int .i64 vt.2] 32))).trans (Kp.alloc _ (.cells #[.int .i64 to.1,.int .i64 to.2] 32))).trans (Kp.alloc _ (.map #[] 0)))
  refine (below q B (W.heap.size+1+1+1) vt to U hU [] _ hf (hg.ij K1 hB (by omega)) (o7 hB K1.size) (by omega) ⟨#[],0,Ku _ _ _ (by simp),abo⟩ (by simp)).mono ?_;rintro e W' ⟨S',r,rfl,_,k2,hr⟩;refine ⟨r,rfl,(K1.trans k2).below (aU _) (by omega),?_⟩;rcases hr with ⟨rfl,hr⟩ | ⟨rfl,hg,hn⟩
  ·exact ⟨fun _=>hr,fun _=>rfl⟩
  ·exact ⟨fun h=>by simp at h,fun h=>(RH (hg.closed (by simp)) hn h hg.is).elim⟩
 obtain ⟨f1,f2⟩:=vt;obtain ⟨t1,t2⟩:=to
 go_enter Tryz.func214,Tryz.ntmps214
 go_wp2_with (go_at_call 124; refine RG.mono ?_; rintro e w' ⟨r,rfl,hr⟩)
 go_wp2
 go_ret
 exact ⟨r,rfl,hr⟩
end Go.Proofs.YtckbdndhmcoihaaGreat.nodes
end
