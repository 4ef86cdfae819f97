/- Part of the proof of WorldIn: the machine, shown to be the model's, and plain models. No conditions. -/
import Derived.Test.YtckbdndhmcoihaaHq
import Derived.Test.YtckbdndhmcoihaaGq
set_option linter.unusedSimpArgs false
set_option linter.unusedVariables false
section
namespace Go.Proofs.Ytckbdndhmcoihaa.b
open Go.K
noncomputable section
structure bD where
 s:(Sl gE)
 t4:Int
 t7:Int
 t8:Int
instance:Inhabited bD:=⟨⟨default,default,default,default⟩⟩
def ji (x:bD):List KV:=[dq 79 uR x.s,.fn (.func 40) [] [],.int .i64 x.t4,.int .i64 x.t7,.int .i64 x.t8]
def jk (x:bD):List (List KV):=[]
def oh (vs:List KV) (rs:List (List KV)):bD:=⟨dM kX (v9 vs 0),aq (v9 vs 2),aq (v9 vs 3),aq (v9 vs 4)⟩
def oK:aJ:=⟨[(0,w9 (n9 79)),(1,⟨false,[.lit (.fn (.func 40) [] [])]⟩),(4,w9 i9),(7,w9 i9),(8,w9 i9)],[],[]⟩
def yD:=AP [(49,zg),(48,uy),(47,Aq),(44,zh),(43,v8),(41,yk)] [] 75 26 oK
def iW (x:bD):=uT (x.s.get (Int.toNat x.t8))
def bL (x:bD):aW bD:=(cond (decide (x.t8 < x.t7)) (cond ((decide (0<=x.t8))&&(decide (x.t8 < (x.s.n:Int)))) (cond (iW x).isSome (cond (((iW x).getD default) != 0) (.out aG.ah.ret ⟨x.s,x.t8,x.t7,x.t8⟩) (.next ⟨x.s,x.t4,x.t7,(aK (x.t8+1))⟩)) .fail) .fail) (.out (aG.ah.exit 0) x))
theorem xi (x:bD):yD (ji x) (jk x)=aW.enc ji jk (bL x):=by
 unfold bL
 try simp only [aW.cw]
 kernel_rfl
def fO:Lp:=⟨75,26,oK,fun vs rs=>dK ji jk (goN bL (oh vs rs)) [aG.ah.exit 0,aG.ah.ret],false⟩
theorem jl:fO.Ok PG:=Bs (ai.cons uq (ai.cons uz (ai.cons xY (ai.cons yP (ai.cons vo (ai.cons v7 ai.nil)))))) bj.nil (pa:=oh) xi
structure bF where
 s:(Sl gX)
 t4:Int
 t7:Int
 t8:Int
instance:Inhabited bF:=⟨⟨default,default,default,default⟩⟩
def jm (x:bF):List KV:=[dq 118 jJ x.s,.fn (.func 42) [] [],.int .i64 x.t4,.int .i64 x.t7,.int .i64 x.t8]
def jn (x:bF):List (List KV):=[]
def oi (vs:List KV) (rs:List (List KV)):bF:=⟨dM eS (v9 vs 0),aq (v9 vs 2),aq (v9 vs 3),aq (v9 vs 4)⟩
def oL:aJ:=⟨[(0,w9 (n9 118)),(1,⟨false,[.lit (.fn (.func 42) [] [])]⟩),(4,w9 i9),(7,w9 i9),(8,w9 i9)],[],[]⟩
def yE:=AP [(49,zg),(48,uy),(47,Aq),(44,zh),(43,v8),(41,yk)] [fO] 76 26 oL
def iX (x:bF):=rO (x.s.get (Int.toNat x.t8))
def bM (x:bF):aW bF:=(cond (decide (x.t8 < x.t7)) (cond ((decide (0<=x.t8))&&(decide (x.t8 < (x.s.n:Int)))) (cond (iX x).isSome (cond (((iX x).getD default) != 0) (.out aG.ah.ret ⟨x.s,x.t8,x.t7,x.t8⟩) (.next ⟨x.s,x.t4,x.t7,(aK (x.t8+1))⟩)) .fail) .fail) (.out (aG.ah.exit 0) x))
theorem xj (x:bF):yE (jm x) (jn x)=aW.enc jm jn (bM x):=by
 unfold bM
 try simp only [aW.cw]
 kernel_rfl
def jH:Lp:=⟨76,26,oL,fun vs rs=>dK jm jn (goN bM (oi vs rs)) [aG.ah.exit 0,aG.ah.ret],false⟩
theorem oj:jH.Ok PG:=Bs (ai.cons uq (ai.cons uz (ai.cons xY (ai.cons yP (ai.cons vo (ai.cons v7 ai.nil)))))) (rM jl bj.nil) (pa:=oi) xj
structure eT where
 t2:Int
 t46:(Sl Node)
 t47:Int
 t48:Int
 s:aA
instance:Inhabited eT:=⟨⟨default,default,default,default,default⟩⟩
def Cw (x:eT):List KV:=[.int .i64 x.t2,dq 64 rW x.t46,.int .i64 x.t47,.int .i64 x.t48]
def Cx (x:eT):List (List KV):=[w4 x.s]
def JO (vs:List KV) (rs:List (List KV)):eT:=⟨aq (v9 vs 0),dM kW (v9 vs 1),aq (v9 vs 2),aq (v9 vs 3),w5 (r9 rs 0)⟩
def K5:aJ:=⟨[(2,w9 i9),(46,w9 (n9 64)),(47,w9 i9),(48,w9 i9)],[(1,[n9 139,n9 47,n9 64,n9 79,n9 118,i9,i9],1)],[(1,0,0)]⟩
def Um:=AP [(49,zg),(48,uy),(47,Aq),(44,zh),(43,v8),(41,yk)] [fO,jH] 22 250 K5
def AZ (x:eT):=xh (x.t46.get (Int.toNat x.t48)) ⟨0,⟨⟨⟨0,0,0⟩,⟨0,0,0⟩,⟨0,0,0⟩⟩,⟨0,0,0⟩⟩,0,⟨0,0,0⟩,⟨0,(fun i=>0)⟩,0,⟨⟨0,0,0,0,0⟩,⟨⟨0,0,0,0⟩,0,0,0,false,0⟩⟩⟩
def A5 (x:eT):=pr x.s (x.t46.get (Int.toNat x.t48))
def lZ (x:eT):aW eT:=(cond ((decide (0<=x.t48))&&(decide (x.t48 < (x.s.graph.cA.cL.n:Int)))) (cond (x.s.graph.cA.cL.get (Int.toNat x.t48)).live (cond (A5 x).isSome (cond (((A5 x).getD default) != 0) (.out aG.ah.ret ⟨8,x.t46,x.t47,x.t48,x.s⟩) (cond ((x.t46.get (Int.toNat x.t48)).kind==5) (cond ((decide (0<=x.t48))&&(decide (x.t48 < (x.s.graph.kids.n:Int)))) (cond (decide (((x.s.graph.kids.get (Int.toNat x.t48)).n:Int) > 0)) (.out aG.ah.ret ⟨8,x.t46,x.t47,x.t48,x.s⟩) (.next ⟨x.t2,x.t46,x.t47,(aK (x.t48+1)),x.s⟩)) .fail) (.next ⟨x.t2,x.t46,x.t47,(aK (x.t48+1)),x.s⟩))) .fail) (.next ⟨x.t2,x.t46,x.t47,(aK (x.t48+1)),x.s⟩)) .fail)
def gh (x:eT):aW eT:=(cond (decide (x.t48 < x.t47)) (cond ((decide (0<=x.t48))&&(decide (x.t48 < (x.t46.n:Int)))) (cond ((decide (0<=x.t48))&&(decide (x.t48 < (x.s.graph.cA.cL.n:Int)))) (cond (!(x.s.graph.cA.cL.get (Int.toNat x.t48)).live) (cond (AZ x).isSome (cond (!((AZ x).getD default)) (.out aG.ah.ret ⟨8,x.t46,x.t47,x.t48,x.s⟩)
    (lZ x)) .fail)
   (lZ x)) .fail) .fail) (.out (aG.ah.exit 0) x))
theorem Qv (x:eT):Um (Cw x) (Cx x)=aW.enc Cw Cx (gh x):=by
 unfold gh lZ
 try simp only [aW.cw]
 kernel_rfl
def K6:Lp:=⟨22,250,K5,fun vs rs=>dK Cw Cx (goN gh (JO vs rs)) [aG.ah.exit 0,aG.ah.ret],false⟩
theorem Un:K6.Ok PG:=Bs (ai.cons uq (ai.cons uz (ai.cons xY (ai.cons yP (ai.cons vo (ai.cons v7 ai.nil)))))) (rM jl (rM oj bj.nil)) (pa:=JO) Qv
def G1 (s:aA):=JB s.graph
def Ca (s:aA):=goN bL ⟨s.eo,0,(s.eo.n:Int),0⟩
def Cb (s:aA):=goN bM ⟨s.j8,0,(s.j8.n:Int),0⟩
def nS (s:aA):=goN gh ⟨0,s.nodes,(s.nodes.n:Int),0,s⟩
def G2 (s:aA):=dz (nS s).st.s.graph.cA (nS s).st.s.root
def Ar (s:aA):Option (Int):=(cond ((nS s).by (aG.ah.exit 0)) (cond (!(((nS s).st.s.root.slot==0)&&(((nS s).st.s.root.gen==0)&&true))) (cond (G2 s).isSome (cond (!((G2 s).getD default)) (some (8)) (some (0))) none) (some (0))) (cond ((nS s).by aG.ah.ret) (some ((nS s).st.t2)) none))
def Au (s:aA):Option (Int):=(cond (decide ((s.j8.n:Int) > 16)) (some (8)) (cond ((Cb s).by (aG.ah.exit 0))
  (Ar s) (cond ((Cb s).by aG.ah.ret) (cond (decide ((Cb s).st.t4 >= 0)) (some (8))
   (Ar s)) none)))
def oT (s:aA):Option (Int):=(cond (G1 s).isSome (cond (((G1 s).getD default) != 0) (some (8)) (cond ((s.nodes.n:Int) != (s.graph.kids.n:Int)) (some (8)) (cond (decide ((s.eo.n:Int) > 32)) (some (8)) (cond ((Ca s).by (aG.ah.exit 0))
    (Au s) (cond ((Ca s).by aG.ah.ret) (cond (decide ((Ca s).st.t4 >= 0)) (some (8))
     (Au s)) none))))) none)
theorem ZN (s:aA):ou [(49,zg),(48,uy),(47,Aq),(44,zh),(43,v8),(41,yk)] [K6,fO,jH] 22 [iY s] = (oT s).map (kI .i64):=by
 unfold oT Au Ar
 try simp only [bG]
 kernel_rfl
def BG:List KV->KR KV:=bC PG 22 (bO (kI .i64) fun vs=>oT (dC (v9 vs 0)))
theorem Av:bB PG 22 BG:=dE (ai.cons uq (ai.cons uz (ai.cons xY (ai.cons yP (ai.cons vo (ai.cons v7 ai.nil)))))) (rM Un (rM jl (rM oj bj.nil))) fun w=>ZN (dC (g0 34 (w 0)))
def K7:List (Nat×(List KV->KR KV)):=[]
def K8:List Lp:=[]
theorem R6:ai Try.prog K7:=ai.nil
theorem R7:bj Try.prog K8:=bj.nil
def Fl (s:(Sl Int)):Option ((Sl Int)):=(cond (Nat.blt 0 s.n) (cond ((Nat.blt 0 s.n)&&(dP 8 0 s.n)) (some (((Sl.lit []).join s))) none) none)
theorem Uo (s:(Sl Int)):EN Try.prog (ra Try.prog K7 K8 (fun _=>false)) 9 9 94 [(dq 3 (kI .i64)) s] = (Fl s).map (dq 3 (kI .i64)):=by
 unfold Fl
 try simp only [bG,rL,uo,vO]
 kernel_rfl
def X6:List KV->KR KV:=bC Try.prog 94 (bO (dq 3 (kI .i64)) fun vs=>Fl ((dM aq) (vs.getD 0 .bh)))
theorem Hr (w:Nat->KV):uM Try.prog [48] w 0 = [(dq 3 (kI .i64)) ((dM aq) (gV Try.prog (b8 Try.prog du) 48 (w 0)))]:=by kernel_rfl
theorem R8:bB Try.prog 94 X6:=Qm funcs mixed R6 R7 (L:=9) (n:=9) fun w=>by
 have e:bT Try.prog 94 = [48]:=by kernel_rfl
 rw [e,Hr]
 exact (Uo ((dM aq) (gV Try.prog (b8 Try.prog du) 48 (w 0)))).trans (by kernel_rfl)
def JP:List (Nat×(List KV->KR KV)):=[]
def JQ:List Lp:=[]
theorem Qw:ai Try.prog JP:=ai.nil
theorem Qx:bj Try.prog JQ:=bj.nil
def D6 (s:(Sl kJ)):Option ((Sl kJ)):=(cond (Nat.blt 0 s.n) (cond ((Nat.blt 0 s.n)&&(dP 16 0 s.n)) (some (((Sl.lit []).join s))) none) none)
theorem R9 (s:(Sl kJ)):EN Try.prog (ra Try.prog JP JQ (fun _=>false)) 9 9 36 [(dq 125 jx) s] = (D6 s).map (dq 125 jx):=by
 unfold D6
 try simp only [bG,j7,lV,lW]
 kernel_rfl
def Wj:List KV->KR KV:=bC Try.prog 36 (bO (dq 125 jx) fun vs=>D6 ((dM fG) (vs.getD 0 .bh)))
theorem Gf (w:Nat->KV):uM Try.prog [67] w 0 = [(dq 125 jx) ((dM fG) (gV Try.prog (b8 Try.prog du) 67 (w 0)))]:=by kernel_rfl
theorem Qy:bB Try.prog 36 Wj:=Qm funcs mixed Qw Qx (L:=9) (n:=9) fun w=>by
 have e:bT Try.prog 36 = [67]:=by kernel_rfl
 rw [e,Gf]
 exact (R9 ((dM fG) (gV Try.prog (b8 Try.prog du) 67 (w 0)))).trans (by kernel_rfl)
end
end Go.Proofs.Ytckbdndhmcoihaa.b
end
section
namespace Go.K
open Go Go.aG
variable {P:Program} {E:Env}
theorem aej {t e:TypeId} {i:TypeInfo} (h:P.underlying t=some (.slice e)) (hi:P.info? e=some i) (b:Addr) (a:Option Addr) (c:Nat) (w:World):(Builtin.append_ #[t,t] t #[.slice (some b) 0 0,.slice a 0 c]).run P w = .ok (.slice (some b) 0 0) w:=by
 cases a <;> simp [Builtin.append_,aG.bq h,sizeOf,typeInfo,hi,Builtin.lenOf,Builtin.firstCells,loadCells,loadCellsFrom,storeCells]
structure X7 (P:Program) (g:FuncId) (e:TypeId):Prop where
 nil:∀ c w,Calls P g #[.slice none 0 c] w fun r w'=>r = .returned (.slice none 0 0)/\w' = w
 some:∀ a c w,Calls P g #[.slice (some a) 0 c] w fun r w'=>r = .returned (.slice (some ⟨w.heap.size,0,none⟩) 0 0)/\w' = w.alloc (.cells #[] e)
def BH {α:Type} (b:Nat) (s:Sl α):Option (Sl α):=cond (dP b 0 s.n) (some s) none
theorem Sl.alF {α:Type} [Inhabited α] (s:Sl α):(Sl.lit []).join s=s:=by
 cases s with
 | mk n f=>
  unfold Sl.join Sl.lit;simp only [List.length_nil,bd];congr 1
theorem VK.anC {T:TypeId} {a:Option Addr} {acc:Nat->KV} (h:U7 E (aU P T) a 0 []):VK P E (.ts T .any 0 [] acc) (.slice a 0 0):=by
 simp only [VK];exact ⟨⟨rfl,fun i hi=>absurd hi (ph _),rfl⟩,[],.nil,a,0,rfl,aC _,h,trivial⟩
theorem Zq {g:FuncId} {T t:TypeId} {b:Nat} {α:Type} {k:α->KV} {p:KV->α} {f1:Sl α->Option (Sl α)} [Inhabited α] (hn:X7 P g T) (ht:bT P g = [t]) (hf:∀ s,f1 s=cond (Nat.blt 0 s.n) (cond (Nat.blt 0 s.n&&dP b 0 s.n) (some ((Sl.lit []).join s)) none) none)
  (apU:∀ w,uM P [t] w 0 = [dq T k (dM p (gV P (b8 P du) t (w 0)))]) (h1:bB P g (bC P g (bO (dq T k) fun vs=>f1 (dM p (vs.getD 0 .bh))))) (hc:x9 P g) :
  bB P g (bC P g (bO (dq T k) fun vs=>BH b (dM p (vs.getD 0 .bh)))):=by
 intro args v hF hlen;refine ⟨hc,?_⟩;have hF0:=hF;unfold bC at hF;obtain ⟨hb,hF⟩:=aI.cond hF;obtain ⟨ww,hw⟩:=Ju 0 hb;rw [ht] at hw;rw [apU] at hw;rw [ht,hw] at hF;unfold bO at hF;obtain ⟨h2,h3⟩:=aI.jQ hF;have es:(([dq T k (dM p (gV P (b8 P du) t (ww 0)))] : List KV).getD 0 .bh)=dq T k (dM p (gV P (b8 P du) t (ww 0))):=rfl;have h2:(BH b (dM p (([dq T k (dM p (gV P (b8 P du) t (ww 0)))] : List KV).getD 0 .bh))).isSome=true:=h2;have h3:dq T k ((BH b (dM p (([dq T k (dM p (gV P (b8 P du) t (ww 0)))] : List KV).getD 0 .bh))).getD default)=v:=h3;rw [es] at h2 h3;generalize hs:dM p (dq T k (dM p (gV P (b8 P du) t (ww 0))))=s at h2 h3;cases hq:Nat.blt 0 s.n with
 | true=>
  have:aI (bC P g (bO (dq T k) fun vs=>f1 (dM p (vs.getD 0 .bh))) (normArgs P (bT P g) args)) v:=by
   unfold bC;rw [hb,aj,ht,hw];show aI (KR.jQ (f1 (dM p (([dq T k (dM p (gV P (b8 P du) t (ww 0)))] : List KV).getD 0 .bh))).isSome (dq T k ((f1 (dM p (([dq T k (dM p (gV P (b8 P du) t (ww 0)))] : List KV).getD 0 .bh))).getD default))) v;rw [es,hs,hf,hq];unfold BH at h2 h3;cases ha:dP b 0 s.n with
   | false=>rw [ha] at h2; simp at h2
   | true=>
    rw [ha] at h3;simp only [cz,aj,Sl.alF];exact ⟨rfl,h3⟩
  exact (h1 args v this hlen).2
 | false=>
  have hz:s.n=0:=by
   apply Classical.byContradiction;intro hk;have:Nat.blt 0 s.n=true:=by rw [bI]; omega
   rw [hq] at this;simp at this
  have hv0:v = .ts T .any 0 [] fun i=>k (s.get i):=by
   have ha:dP b 0 s.n=true:=by
    unfold BH at h2;cases ha:dP b 0 s.n with
    | true=>rfl
    | false=>rw [ha] at h2; simp at h2
   rw [<- h3];unfold BH;rw [ha];show dq T k s=_;unfold dq;rw [hz];rfl
  intro E A B ρ base w dY hv hj;have Dh:rU P E ρ (normArgs P (bT P g) args) dY:=by
   obtain ⟨m,h1,h2⟩:=hv;exact ⟨m,aV.NW (.of rfl) h1 hlen,h2⟩
  rw [ht,hw] at Dh;obtain ⟨u,us,rfl,hu,Ml⟩:=Dh.xX;obtain rfl:=Ml.V7;have hn0:(dM p (gV P (b8 P du) t (ww 0))).n=0:=(congrArg Sl.n hs).trans hz;unfold dq at hu;rw [hn0] at hu;obtain ⟨u',hk,hr⟩:=hu;obtain ⟨_,bo,_,a,cap,rfl,_,_,_⟩:=hk.lh;subst hv0;cases a with
  | none=>
   rw [hr.ga];refine (hn.nil cap w).mono ?_;rintro r w' ⟨rfl,rfl⟩;exact ⟨_,E,B,ρ,rfl,⟨.slice none 0 0,VK.anC (.inl ⟨rfl,rfl⟩),by simp [VR]⟩,.refl hj.k hj.s⟩
  | some a=>
   obtain ⟨_,_,_,a',c',_,_,_,_,rfl⟩:=hr.lK;refine (hn.some a' c' w).mono ?_;rintro r w' ⟨rfl,rfl⟩;have g:=Sh (cs:=[]) (c:=#[]) (bp:=aU P T) T hj.s (by unfold dB; rfl) (fun v hv=>by simp at hv);refine ⟨_,E.eM B.next ⟨[],aU P T,true,none⟩,B.new (.row [] (aU P T) true none),ρ.set B.next ⟨w.heap.size,0,0,aU P T⟩,rfl,⟨.slice (some ⟨B.next,0,none⟩) 0 0,VK.anC (.inr ⟨B.next,0,⟨[],aU P T,true,none⟩,rfl,by simp [Env.eM],rfl,fun i x hi=>by simp at hi⟩),?_⟩,(cN.abd hj.k).ev g⟩;simp only [VR];exact ⟨trivial,aC _,⟨w.heap.size,0,0,aU P T⟩,⟨w.heap.size,0,none⟩,0,by simp [Ren.set],aC _,fun h=>absurd rfl h,by simp,rfl⟩
end Go.K
end
section
set_option maxRecDepth 20000
namespace Go.Proofs.Ytckbdndhmcoihaa.b
open Go Go.RowKit Go.Lib Go.Shelf Go.K
noncomputable section
set_option maxHeartbeats 4000000 in
theorem adm:X7 Try.prog 94 3:=by
 have mixed:=nodes.zT;have t36:=Try.underlying48; have a36:=Try.isAgg48; have z36:=Try.sizeOf48; have v36:=Try.zeroValue48; have u36:=run_underlying Try.underlying48;have t3:=Try.underlying3; have a3:=Try.isAgg3; have z3:=Try.sizeOf3; have v3:=Try.zeroValue3; have u3:=run_underlying Try.underlying3;have h1:=fun (a:Option Addr) (n c:Nat) (w:World)=>Lib.run_eql_slice_nil (P:=Try.prog) w 48 3 a n c 0 0 Try.underlying48;have h2:=fun b=>aej Try.underlying48 (show Try.prog.info? 3=some _ from rfl) b;refine ⟨fun c w=>?_,fun a c w=>?_⟩
 ·go_enter Try.func94,Try.ntmps94
  go_wp2
  go_ret
  exact ⟨rfl,rfl⟩
 ·go_enter Try.func94,Try.ntmps94
  go_wp2
  go_ret
  exact ⟨rfl,rfl⟩
def xk (s:(Sl Int)):Option (Sl Int):=BH 8 s
def Cy:List KV->KR KV:=bC Try.prog 94 (bO (dq 3 (kI .i64)) fun vs=>xk ((dM aq) (vs.getD 0 .bh)))
theorem EA:bB Try.prog 94 Cy:=Zq (b:=8) adm (by kernel_rfl) (fun _=>rfl) Hr R8 ⟨by kernel_rfl,_,Try.func94,rfl,by kernel_rfl⟩
set_option maxHeartbeats 4000000 in
theorem acn:X7 Try.prog 36 125:=by
 have mixed:=nodes.zT;have t85:=Try.underlying67; have a85:=Try.isAgg67; have z85:=Try.sizeOf67; have v85:=Try.zeroValue67; have u85:=run_underlying Try.underlying67;have t185:=Try.underlying125; have a185:=Try.isAgg125; have z185:=Try.sizeOf125; have v185:=Try.zeroValue125; have u185:=run_underlying Try.underlying125;have h1:=fun (a:Option Addr) (n c:Nat) (w:World)=>Lib.run_eql_slice_nil (P:=Try.prog) w 67 125 a n c 0 0 Try.underlying67;have h2:=fun b=>aej Try.underlying67 (show Try.prog.info? 125=some _ from rfl) b;refine ⟨fun c w=>?_,fun a c w=>?_⟩
 ·go_enter Try.func36,Try.ntmps36
  go_wp2
  go_ret
  exact ⟨rfl,rfl⟩
 ·go_enter Try.func36,Try.ntmps36
  go_wp2
  go_ret
  exact ⟨rfl,rfl⟩
def xl (s:(Sl kJ)):Option (Sl kJ):=BH 16 s
def xm:List KV->KR KV:=bC Try.prog 36 (bO (dq 125 jx) fun vs=>xl ((dM fG) (vs.getD 0 .bh)))
theorem yF:bB Try.prog 36 xm:=Zq (b:=16) acn (by kernel_rfl) (fun _=>rfl) Gf Qy ⟨by kernel_rfl,_,Try.func36,rfl,by kernel_rfl⟩
end
end Go.Proofs.Ytckbdndhmcoihaa.b
end
section
namespace Go.Proofs.Ytckbdndhmcoihaa.b
open Go.K
noncomputable section
structure Path where
 nodes:(Sl Handle)
 kids:(Sl Int)
instance:Inhabited Path:=⟨⟨default,default⟩⟩
def Uq (x:Path):List KV:=[dq 32 fy x.nodes,dq 3 (kI .i64) x.kids]
def Cz (x:Path):KV:=.agg (Uq x)
def Ur (c:Nat->KV):Path:=⟨dM dV (c 0),dM aq (c 1)⟩
def CA (v:KV):Path:=Ur fun k=>v.cells.getD k .bh
structure gP where
 t5:Bool
 t19:(Sl Int)
 t20:Int
 t21:Int
 s:aA
 t4:Path
 p:Path
 h:Handle
instance:Inhabited gP:=⟨by constructor<;>exact default⟩
def zk (x:gP):List KV:=[.bool x.t5,dq 3 (kI .i64) x.t19,.int .i64 x.t20,.int .i64 x.t21]
def zl (x:gP):List (List KV):=[w4 x.s,Uq x.t4,Uq x.p,ahl x.h]
def Gg (vs:List KV) (rs:List (List KV)):gP:=⟨eL (v9 vs 0),dM aq (v9 vs 1),aq (v9 vs 2),aq (v9 vs 3),w5 (r9 rs 0),Ur (r9 rs 1),Ur (r9 rs 2),ahm (r9 rs 3)⟩
def Hs:aJ:=⟨[(5,w9 b9),(19,w9 (n9 3)),(20,w9 i9),(21,w9 i9)],[(2,[n9 139,n9 47,n9 64,n9 79,n9 118,i9,i9],1),(4,[.aP 32,n9 3],1),(6,[.aP 32,n9 3],1),(7,[i9,i9],1)],[(2,0,0),(4,1,0),(6,2,0),(7,3,0)]⟩
def Qz:=AP [(94,Cy)] [] 80 122 Hs
def n4 (x:gP):aW gP:=(cond (cond (ak x.p.nodes.n x.p.nodes.n) true false) (.out aG.ah.ret ⟨false,x.t19,x.t20,x.t21,x.s,⟨⟨0,(fun i=>⟨0,0⟩)⟩,⟨0,(fun i=>0)⟩⟩,x.p,x.h⟩) .fail)
def kb (x:gP):aW gP:=(cond (decide (x.t21 < x.t20)) (cond ((decide (0<=x.t21))&&(decide (x.t21 < (x.t19.n:Int)))) (cond ((decide (0<=x.h.slot))&&(decide (x.h.slot < (x.s.graph.kids.n:Int)))) (cond (decide ((x.t19.get (Int.toNat x.t21)) < 0))
   (n4 x) (cond (decide ((x.t19.get (Int.toNat x.t21)) >= ((x.s.graph.kids.get (Int.toNat x.h.slot)).n:Int)))
    (n4 x) (cond ((decide (0<=(x.t19.get (Int.toNat x.t21))))&&(decide ((x.t19.get (Int.toNat x.t21)) < ((x.s.graph.kids.get (Int.toNat x.h.slot)).n:Int)))) (cond ((ak x.p.nodes.n x.p.nodes.n)&&(dP 16 x.p.nodes.n 1)) (cond (cond (ak (x.p.nodes.n+1) (x.p.nodes.n+1)) (ak x.t4.nodes.n x.t4.nodes.n) false) (.next ⟨x.t5,x.t19,x.t20,(aK (x.t21+1)),x.s,x.t4,⟨(x.p.nodes.push ((x.s.graph.kids.get (Int.toNat x.h.slot)).get (Int.toNat (x.t19.get (Int.toNat x.t21))))),x.p.kids⟩,((x.s.graph.kids.get (Int.toNat x.h.slot)).get (Int.toNat (x.t19.get (Int.toNat x.t21))))⟩) .fail) .fail) .fail))) .fail) .fail) (cond (cond (ak x.p.nodes.n x.p.nodes.n) (ak x.t4.nodes.n x.t4.nodes.n) false) (.out (aG.ah.exit 0) x) .fail))
theorem Oc (x:gP):Qz (zk x) (zl x)=aW.enc zk zl (kb x):=by
 unfold kb n4
 try simp only [aW.cw,iA]
 kernel_rfl
def Ht:Lp:=⟨80,122,Hs,fun vs rs=>dK zk zl (goN kb (Gg vs rs)) [aG.ah.exit 0,aG.ah.ret],false⟩
theorem QA:Ht.Ok PG:=Bs (ai.cons EA ai.nil) bj.nil (pa:=Gg) Oc
def yQ (s:aA) (kids:(Sl Int)):=xk kids
def mF (s:aA) (kids:(Sl Int)):=goN kb ⟨false,kids,(kids.n:Int),1,s,⟨⟨0,(fun i=>⟨0,0⟩)⟩,⟨0,(fun i=>0)⟩⟩,⟨((Sl.lit [s.root]).push ((s.graph.kids.get (Int.toNat s.root.slot)).get (Int.toNat (kids.get 0)))),((yQ s kids).getD default)⟩,((s.graph.kids.get (Int.toNat s.root.slot)).get (Int.toNat (kids.get 0)))⟩
def xn (s:aA) (kids:(Sl Int)):Option (Path×Bool):=(some (⟨⟨0,(fun i=>⟨0,0⟩)⟩,⟨0,(fun i=>0)⟩⟩,false))
def tN (s:aA) (kids:(Sl Int)):Option (Path×Bool):=(cond (yQ s kids).isSome (cond (decide (0 < (kids.n:Int))) (cond (decide (0 < (kids.n:Int))) (cond ((decide (0<=s.root.slot))&&(decide (s.root.slot < (s.graph.kids.n:Int)))) (cond (decide ((kids.get 0) < 0))
    (xn s kids) (cond (decide ((kids.get 0) >= ((s.graph.kids.get (Int.toNat s.root.slot)).n:Int)))
    (xn s kids) (cond ((decide (0<=(kids.get 0)))&&(decide ((kids.get 0) < ((s.graph.kids.get (Int.toNat s.root.slot)).n:Int)))) (cond ((mF s kids).by (aG.ah.exit 0)) (some ((mF s kids).st.p,true)) (cond ((mF s kids).by aG.ah.ret) (some ((mF s kids).st.t4,(mF s kids).st.t5)) none)) none))) none) none) (some (⟨(Sl.lit [s.root]),((yQ s kids).getD default)⟩,true))) none)
theorem Wk (s:aA) (kids:(Sl Int)):ou [(94,Cy)] [Ht] 80 [iY s,(dq 3 (kI .i64)) kids] = (tN s kids).map (fun (r:Path×Bool)=>KV.kL [Cz r.1,kB r.2]):=by
 unfold tN xn
 try simp only [bG,mF,iA,lR,lT]
 kernel_rfl
def O0:List KV->KR KV:=bC PG 80 (bO (fun (r:Path×Bool)=>KV.kL [Cz r.1,kB r.2]) fun vs=>tN (dC (v9 vs 0)) ((dM aq) (v9 vs 1)))
theorem Ut:bB PG 80 O0:=dE (ai.cons EA ai.nil) (rM QA bj.nil) fun w=>Wk (dC (g0 34 (w 0))) ((dM aq) (g0 48 (w 1)))
structure gG where
 s1:(Sl Handle)
 s2:(Sl Handle)
 t4:Bool
 t12:Int
 t13:Int
instance:Inhabited gG:=⟨⟨default,default,default,default,default⟩⟩
def xo (x:gG):List KV:=[dq 32 fy x.s1,dq 32 fy x.s2,.bool x.t4,.int .i64 x.t12,.int .i64 x.t13]
def xp (x:gG):List (List KV):=[]
def D7 (vs:List KV) (rs:List (List KV)):gG:=⟨dM dV (v9 vs 0),dM dV (v9 vs 1),eL (v9 vs 2),aq (v9 vs 3),aq (v9 vs 4)⟩
def EB:aJ:=⟨[(0,w9 (n9 32)),(1,w9 (n9 32)),(4,w9 b9),(12,w9 i9),(13,w9 i9)],[],[]⟩
def Od:=AP [] [] 81 58 EB
def eF (x:gG):aW gG:=(cond (decide (x.t13 < x.t12)) (cond ((decide (0<=x.t13))&&(decide (x.t13 < (x.s1.n:Int)))) (cond ((decide (0<=x.t13))&&(decide (x.t13 < (x.s2.n:Int)))) (cond (!(((x.s1.get (Int.toNat x.t13)).slot==(x.s2.get (Int.toNat x.t13)).slot)&&(((x.s1.get (Int.toNat x.t13)).gen==(x.s2.get (Int.toNat x.t13)).gen)&&true))) (.out aG.ah.ret ⟨x.s1,x.s2,false,x.t12,x.t13⟩) (.next ⟨x.s1,x.s2,x.t4,x.t12,(aK (x.t13+1))⟩)) .fail) .fail) (.out (aG.ah.exit 0) x))
theorem LW (x:gG):Od (xo x) (xp x)=aW.enc xo xp (eF x):=by
 unfold eF
 try simp only [aW.cw]
 kernel_rfl
def EC:Lp:=⟨81,58,EB,fun vs rs=>dK xo xp (goN eF (D7 vs rs)) [aG.ah.exit 0,aG.ah.ret],false⟩
theorem Oe:EC.Ok PG:=Bs ai.nil bj.nil (pa:=D7) LW
def uA (s1:(Sl Handle)) (s2:(Sl Handle)):=goN eF ⟨s1,s2,false,(s1.n:Int),0⟩
def oB (s1:(Sl Handle)) (s2:(Sl Handle)):Option (Bool):=(cond ((s1.n:Int) != (s2.n:Int)) (some (false)) (cond ((uA s1 s2).by (aG.ah.exit 0)) (some (true)) (cond ((uA s1 s2).by aG.ah.ret) (some ((uA s1 s2).st.t4)) none)))
theorem QB (s1:(Sl Handle)) (s2:(Sl Handle)):ou [] [EC] 81 [(dq 32 fy) s1,(dq 32 fy) s2] = (oB s1 s2).map kB:=by
 unfold oB
 try simp only [bG]
 kernel_rfl
def JR:List KV->KR KV:=bC PG 81 (bO kB fun vs=>oB ((dM dV) (v9 vs 0)) ((dM dV) (v9 vs 1)))
theorem Pn:bB PG 81 JR:=dE ai.nil (rM Oe bj.nil) fun w=>QB ((dM dV) (g0 47 (w 0))) ((dM dV) (g0 47 (w 1)))
def Aw (s:aA) (p:Path):=oT s
def Ax (s:aA) (p:Path):=tN s p.kids
def Fm (s:aA) (p:Path):=oB ((Ax s p).getD default).fst.nodes p.nodes
def wa (s:aA) (p:Path):Option (Int):=(cond (Aw s p).isSome (cond (((Aw s p).getD default) != 0) (some (((Aw s p).getD default))) (cond ((s.root.slot==0)&&((s.root.gen==0)&&true)) (some (8)) (cond (Ax s p).isSome (cond (!((Ax s p).getD default).snd) (some (8)) (cond (Fm s p).isSome (cond (!((Fm s p).getD default)) (some (8)) (some (0))) none)) none))) none)
theorem X8 (s:aA) (p:Path):ou [(81,JR),(80,O0),(22,BG)] [] 51 [iY s,Cz p] = (wa s p).map (kI .i64):=by
 unfold wa
 try simp only [bG]
 kernel_rfl
def JS:List KV->KR KV:=bC PG 51 (bO (kI .i64) fun vs=>wa (dC (v9 vs 0)) (CA (v9 vs 1)))
theorem K9:bB PG 51 JS:=dE (ai.cons Pn (ai.cons Ut (ai.cons Av ai.nil))) bj.nil fun w=>X8 (dC (g0 34 (w 0))) (CA (g0 50 (w 1)))
structure pd where
 t4:Bool
 t5:Int
 t17:(Sl Int)
 t18:Int
 t19:Int
 s:aA
 p:Path
instance:Inhabited pd:=⟨by constructor<;>exact default⟩
def G3 (x:pd):List KV:=[.bool x.t4,.int .i64 x.t5,dq 3 (kI .i64) x.t17,.int .i64 x.t18,.int .i64 x.t19]
def G4 (x:pd):List (List KV):=[w4 x.s,Uq x.p]
def O1 (vs:List KV) (rs:List (List KV)):pd:=⟨eL (v9 vs 0),aq (v9 vs 1),dM aq (v9 vs 2),aq (v9 vs 3),aq (v9 vs 4),w5 (r9 rs 0),Ur (r9 rs 1)⟩
def QC:aJ:=⟨[(4,w9 b9),(5,w9 i9),(17,w9 (n9 3)),(18,w9 i9),(19,w9 i9)],[(2,[n9 139,n9 47,n9 64,n9 79,n9 118,i9,i9],1),(3,[n9 32,n9 3],1)],[(2,0,0),(3,1,0)]⟩
def ZO:=AP [(51,JS)] [] 25 58 QC
def jz (x:pd):aW pd:=(cond (decide (x.t19 < x.t18)) (cond ((decide (0<=x.t19))&&(decide (x.t19 < (x.t17.n:Int)))) (cond ((decide (0<=x.t19))&&(decide (x.t19 < (x.p.nodes.n:Int)))) (cond ((decide (0<=(x.p.nodes.get (Int.toNat x.t19)).slot))&&(decide ((x.p.nodes.get (Int.toNat x.t19)).slot < (x.s.nodes.n:Int)))) (cond ((x.s.nodes.get (Int.toNat (x.p.nodes.get (Int.toNat x.t19)).slot)).kind==3) (cond (!(decide ((x.t17.get (Int.toNat x.t19)) < 0))) (cond ((w16 (((Dm IntKind.u16 (Int.fdiv (x.s.nodes.get (Int.toNat (x.p.nodes.get (Int.toNat x.t19)).slot)).rf (2 ^ (min (Int.toNat (x.t17.get (Int.toNat x.t19))) 16))) 1):Nat):Int))==0) (.out aG.ah.ret ⟨false,0,x.t17,x.t18,x.t19,x.s,x.p⟩) (.next ⟨x.t4,x.t5,x.t17,x.t18,(aK (x.t19+1)),x.s,x.p⟩)) .fail) (.next ⟨x.t4,x.t5,x.t17,x.t18,(aK (x.t19+1)),x.s,x.p⟩)) .fail) .fail) .fail) (.out (aG.ah.exit 0) x))
theorem Wl (x:pd):ZO (G3 x) (G4 x)=aW.enc G3 G4 (jz x):=by
 unfold jz
 try simp only [aW.cw]
 kernel_rfl
def QD:Lp:=⟨25,58,QC,fun vs rs=>dK G3 G4 (goN jz (O1 vs rs)) [aG.ah.exit 0,aG.ah.ret],false⟩
theorem ZP:QD.Ok PG:=Bs (ai.cons K9 ai.nil) bj.nil (pa:=O1) Wl
def FT (s:aA) (p:Path):=wa s p
def BI (s:aA) (p:Path):=goN jz ⟨false,0,p.kids,(p.kids.n:Int),0,s,p⟩
def CW (s:aA) (p:Path):Option (Bool×Int):=(cond (FT s p).isSome (cond (((FT s p).getD default) != 0) (some (false,((FT s p).getD default))) (cond ((BI s p).by (aG.ah.exit 0)) (some (true,0)) (cond ((BI s p).by aG.ah.ret) (some ((BI s p).st.t4,(BI s p).st.t5)) none))) none)
theorem adn (s:aA) (p:Path):ou [(51,JS)] [QD] 25 [iY s,Cz p] = (CW s p).map (fun (r:Bool×Int)=>KV.kL [kB r.1,(kI .i64) r.2]):=by
 unfold CW
 try simp only [bG]
 kernel_rfl
def QE:List KV->KR KV:=bC PG 25 (bO (fun (r:Bool×Int)=>KV.kL [kB r.1,(kI .i64) r.2]) fun vs=>CW (dC (v9 vs 0)) (CA (v9 vs 1)))
theorem QF:bB PG 25 QE:=dE (ai.cons K9 ai.nil) (rM ZP bj.nil) fun w=>adn (dC (g0 34 (w 0))) (CA (g0 50 (w 1)))
def CX  : Option (fT):=(some ((⟨(⟨(⟨(256:Int),(0:Int),(0:Int)⟩:dj),(⟨(0:Int),(256:Int),(0:Int)⟩:dj),(⟨(0:Int),(0:Int),(256:Int)⟩:dj)⟩:eX),(⟨(0:Int),(0:Int),(0:Int)⟩:fe)⟩:fT)))
theorem ado  : ou [] [] 26 [] = (CX ).map wI:=by
 unfold CX
 kernel_rfl
def CY:List KV->KR KV:=bC PG 26 (bO wI fun vs=>CX )
theorem zn:bB PG 26 CY:=dE ai.nil bj.nil fun w=>ado
def Gh (v:fe):Option (dj):=(some (⟨v.x,v.y,v.z⟩))
theorem adp (v:fe):ou [] [] 56 [oG v] = (Gh v).map eQ:=by
 unfold Gh
 kernel_rfl
def Zr:List KV->KR KV:=bC PG 56 (bO eQ fun vs=>Gh (ko (v9 vs 0)))
theorem aco:bB PG 56 Zr:=dE ai.nil bj.nil fun w=>adp (ko (g0 36 (w 0)))
def mG (a:Int) (b:Int):Option (Int×Int):=(cond (decide (b < 1)) (some (0,2)) (cond (!(decide (b=0))) (cond (!(decide (b=0))) (cond (decide ((Int.tmod a b) < 0)) (some ((aK ((aK (Int.tdiv a b)) - 1)),0)) (some ((aK (Int.tdiv a b)),0))) none) none))
theorem X9 (a:Int) (b:Int):ou [] [] 82 [(kI .i64) a,(kI .i64) b] = (mG a b).map (fun (r:Int×Int)=>KV.kL [(kI .i64) r.1,(kI .i64) r.2]):=by
 unfold mG
 try simp only [bG]
 kernel_rfl
def QG:List KV->KR KV:=bC PG 82 (bO (fun (r:Int×Int)=>KV.kL [(kI .i64) r.1,(kI .i64) r.2]) fun vs=>mG (aq (v9 vs 0)) (aq (v9 vs 1)))
theorem Wm:bB PG 82 QG:=dE ai.nil bj.nil fun w=>X9 (aq (g0 3 (w 0))) (aq (g0 3 (w 1)))
def LX (m:eX) (v:dj):=mG (aK ((aK ((aK (0+(aK (m.e0.e0 * v.e0))))+(aK (m.e0.e1 * v.e1))))+(aK (m.e0.e2 * v.e2)))) 256
def LY (m:eX) (v:dj):=mG (aK ((aK ((aK (0+(aK (m.e1.e0 * v.e0))))+(aK (m.e1.e1 * v.e1))))+(aK (m.e1.e2 * v.e2)))) 256
def L3 (m:eX) (v:dj):=mG (aK ((aK ((aK (0+(aK (m.e2.e0 * v.e0))))+(aK (m.e2.e1 * v.e1))))+(aK (m.e2.e2 * v.e2)))) 256
def uB (m:eX) (v:dj):Option (dj):=(cond (LX m v).isSome (cond (LY m v).isSome (cond (L3 m v).isSome (some (⟨((LX m v).getD default).fst,((LY m v).getD default).fst,((L3 m v).getD default).fst⟩)) none) none) none)
theorem adq (m:eX) (v:dj):ou [(82,QG)] [] 55 [ij m,eQ v] = (uB m v).map eQ:=by
 unfold uB
 try simp only [bG]
 kernel_rfl
def QH:List KV->KR KV:=bC PG 55 (bO eQ fun vs=>uB (dH (v9 vs 0)) (fc (v9 vs 1)))
theorem QI:bB PG 55 QH:=dE (ai.cons Wm ai.nil) bj.nil fun w=>adq (dH (g0 52 (w 0))) (fc (g0 51 (w 1)))
def D8 (l:dj):Option (fe):=(some (⟨l.e0,l.e1,l.e2⟩))
theorem acp (l:dj):ou [] [] 54 [eQ l] = (D8 l).map oG:=by
 unfold D8
 kernel_rfl
def Wn:List KV->KR KV:=bC PG 54 (bO oG fun vs=>D8 (fc (v9 vs 0)))
theorem ZQ:bB PG 54 Wn:=dE ai.nil bj.nil fun w=>acp (fc (g0 51 (w 0)))
def JT (m:fT) (v:fe):=Gh v
def JU (m:fT) (v:fe):=uB m.m ((JT m v).getD default)
def zo (m:fT) (v:fe):=D8 ((JU m v).getD default)
def xq (m:fT) (v:fe):Option (fe):=(cond (JT m v).isSome (cond (JU m v).isSome (cond (zo m v).isSome (some (⟨(aK (((zo m v).getD default).x+m.t.x)),(aK (((zo m v).getD default).y+m.t.y)),(aK (((zo m v).getD default).z+m.t.z))⟩)) none) none) none)
theorem acq (m:fT) (v:fe):ou [(54,Wn),(55,QH),(56,Zr)] [] 29 [wI m,oG v] = (xq m v).map oG:=by
 unfold xq
 try simp only [bG]
 kernel_rfl
def Og:List KV->KR KV:=bC PG 29 (bO oG fun vs=>xq (rE (v9 vs 0)) (ko (v9 vs 1)))
theorem O2:bB PG 29 Og:=dE (ai.cons ZQ (ai.cons QI (ai.cons aco ai.nil))) bj.nil fun w=>acq (rE (g0 54 (w 0))) (ko (g0 36 (w 1)))
def Oh (a:fT) (b:fT):=j2 a
def Oi (a:fT) (b:fT):=j2 b
def D9 (a:fT) (b:fT):=xq a b.t
def rm (a:fT) (b:fT):=uB a.m ⟨b.m.e0.e0,b.m.e1.e0,b.m.e2.e0⟩
def rp (a:fT) (b:fT):=uB a.m ⟨b.m.e0.e1,b.m.e1.e1,b.m.e2.e1⟩
def rq (a:fT) (b:fT):=uB a.m ⟨b.m.e0.e2,b.m.e1.e2,b.m.e2.e2⟩
def Ij (a:fT) (b:fT):=j2 ⟨⟨⟨((rm a b).getD default).e0,((rp a b).getD default).e0,((rq a b).getD default).e0⟩,⟨((rm a b).getD default).e1,((rp a b).getD default).e1,((rq a b).getD default).e1⟩,⟨((rm a b).getD default).e2,((rp a b).getD default).e2,((rq a b).getD default).e2⟩⟩,((D9 a b).getD default)⟩
def FU (a:fT) (b:fT):Option (fT×Int):=(some (⟨⟨⟨0,0,0⟩,⟨0,0,0⟩,⟨0,0,0⟩⟩,⟨0,0,0⟩⟩,20))
def CB (a:fT) (b:fT):Option (fT×Int):=(cond (Oh a b).isSome (cond (((Oh a b).getD default) != 0)
  (FU a b) (cond (Oi a b).isSome (cond (((Oi a b).getD default) != 0)
   (FU a b) (cond (D9 a b).isSome (cond (rm a b).isSome (cond (rp a b).isSome (cond (rq a b).isSome (cond (Ij a b).isSome (cond (((Ij a b).getD default) != 0) (some (⟨⟨⟨0,0,0⟩,⟨0,0,0⟩,⟨0,0,0⟩⟩,⟨0,0,0⟩⟩,((Ij a b).getD default))) (some (⟨⟨⟨((rm a b).getD default).e0,((rp a b).getD default).e0,((rq a b).getD default).e0⟩,⟨((rm a b).getD default).e1,((rp a b).getD default).e1,((rq a b).getD default).e1⟩,⟨((rm a b).getD default).e2,((rp a b).getD default).e2,((rq a b).getD default).e2⟩⟩,((D9 a b).getD default)⟩,0))) none) none) none) none) none)) none)) none)
theorem afz (a:fT) (b:fT):ou [(55,QH),(29,Og),(28,B9)] [] 52 [wI a,wI b] = (CB a b).map (fun (r:fT×Int)=>KV.kL [wI r.1,(kI .i64) r.2]):=by
 unfold CB FU
 try simp only [bG]
 kernel_rfl
def Fo:List KV->KR KV:=bC PG 52 (bO (fun (r:fT×Int)=>KV.kL [wI r.1,(kI .i64) r.2]) fun vs=>CB (rE (v9 vs 0)) (rE (v9 vs 1)))
theorem BL:bB PG 52 Fo:=dE (ai.cons QI (ai.cons O2 (ai.cons Cv ai.nil))) bj.nil fun w=>afz (rE (g0 54 (w 0))) (rE (g0 54 (w 1)))
structure ym where
 m:fT
 e:Int
instance:Inhabited ym:=⟨⟨default,default⟩⟩
def JV (x:ym):List KV:=[.int .i64 x.m.m.e0.e0,.int .i64 x.m.m.e0.e1,.int .i64 x.m.m.e0.e2,.int .i64 x.m.m.e1.e0,.int .i64 x.m.m.e1.e1,.int .i64 x.m.m.e1.e2,.int .i64 x.m.m.e2.e0,.int .i64 x.m.m.e2.e1,.int .i64 x.m.m.e2.e2,.int .i64 x.m.t.x,.int .i64 x.m.t.y,.int .i64 x.m.t.z,.int .i64 x.e]
def JW (c:Nat->KV):ym:=⟨⟨⟨⟨aq (c 0),aq (c 1),aq (c 2)⟩,⟨aq (c 3),aq (c 4),aq (c 5)⟩,⟨aq (c 6),aq (c 7),aq (c 8)⟩⟩,⟨aq (c 9),aq (c 10),aq (c 11)⟩⟩,aq (c 12)⟩
structure kd where
 t5:Int
 t25:(Sl Handle)
 t26:Int
 t27:Int
 s:aA
 t4:fT
 w:ym
instance:Inhabited kd:=⟨by constructor<;>exact default⟩
def Ea (x:kd):List KV:=[.int .i64 x.t5,dq 32 fy x.t25,.int .i64 x.t26,.int .i64 x.t27]
def Eb (x:kd):List (List KV):=[w4 x.s,ann x.t4,JV x.w]
def Lb (vs:List KV) (rs:List (List KV)):kd:=⟨aq (v9 vs 0),dM dV (v9 vs 1),aq (v9 vs 2),aq (v9 vs 3),w5 (r9 rs 0),ano (r9 rs 1),JW (r9 rs 2)⟩
def MZ:aJ:=⟨[(5,w9 i9),(25,w9 (n9 32)),(26,w9 i9),(27,w9 i9)],[(2,[n9 139,n9 47,n9 64,n9 79,n9 118,i9,i9],1),(4,[i9,i9,i9,i9,i9,i9,i9,i9,i9,i9,i9,i9],1),(8,[i9,i9,i9,i9,i9,i9,i9,i9,i9,i9,i9,i9,i9],1)],[(2,0,0),(4,1,0),(8,2,0)]⟩
def Wo:=AP [(52,Fo),(26,CY),(25,QE)] [] 12 122 MZ
def xr (x:kd):=CB x.w.m (x.s.nodes.get (Int.toNat (x.t25.get (Int.toNat x.t27)).slot)).mP
def kE (x:kd):aW kd:=(cond (decide (x.t27 < x.t26)) (cond ((decide (0<=x.t27))&&(decide (x.t27 < (x.t25.n:Int)))) (cond ((decide (0<=(x.t25.get (Int.toNat x.t27)).slot))&&(decide ((x.t25.get (Int.toNat x.t27)).slot < (x.s.nodes.n:Int)))) (cond ((x.s.nodes.get (Int.toNat (x.t25.get (Int.toNat x.t27)).slot)).kind==2) (cond (x.w.e==0) (cond (xr x).isSome (.next ⟨x.t5,x.t25,x.t26,(aK (x.t27+1)),x.s,x.t4,⟨((xr x).getD default).fst,((xr x).getD default).snd⟩⟩) .fail) (.next ⟨x.t5,x.t25,x.t26,(aK (x.t27+1)),x.s,x.t4,x.w⟩)) (.next ⟨x.t5,x.t25,x.t26,(aK (x.t27+1)),x.s,x.t4,x.w⟩)) .fail) .fail) (.out (aG.ah.exit 0) x))
theorem Sa (x:kd):Wo (Ea x) (Eb x)=aW.enc Ea Eb (kE x):=by
 unfold kE
 try simp only [aW.cw]
 kernel_rfl
def M0:Lp:=⟨12,122,MZ,fun vs rs=>dK Ea Eb (goN kE (Lb vs rs)) [aG.ah.exit 0],false⟩
theorem Wp:M0.Ok PG:=Bs (ai.cons BL (ai.cons zn (ai.cons QF ai.nil))) bj.nil (pa:=Lb) Sa
def Ec (s:aA) (p:Path):=CW s p
def JX (s:aA) (p:Path):=CX
def zp (s:aA) (p:Path):=goN kE ⟨0,p.nodes,(p.nodes.n:Int),0,s,⟨⟨⟨0,0,0⟩,⟨0,0,0⟩,⟨0,0,0⟩⟩,⟨0,0,0⟩⟩,⟨((JX s p).getD default),0⟩⟩
def Ay (s:aA) (p:Path):Option (fT×Int):=(cond (Ec s p).isSome (cond (((Ec s p).getD default).snd != 0) (some (⟨⟨⟨0,0,0⟩,⟨0,0,0⟩,⟨0,0,0⟩⟩,⟨0,0,0⟩⟩,((Ec s p).getD default).snd)) (cond (JX s p).isSome (cond ((zp s p).by (aG.ah.exit 0)) (cond ((zp s p).st.w.e != 0) (some (⟨⟨⟨0,0,0⟩,⟨0,0,0⟩,⟨0,0,0⟩⟩,⟨0,0,0⟩⟩,(zp s p).st.w.e)) (some ((zp s p).st.w.m,0))) none) none)) none)
theorem acr (s:aA) (p:Path):ou [(52,Fo),(26,CY),(25,QE)] [M0] 12 [iY s,Cz p] = (Ay s p).map (fun (r:fT×Int)=>KV.kL [wI r.1,(kI .i64) r.2]):=by
 unfold Ay
 try simp only [bG]
 kernel_rfl
def Ik:List KV->KR KV:=bC PG 12 (bO (fun (r:fT×Int)=>KV.kL [wI r.1,(kI .i64) r.2]) fun vs=>Ay (dC (v9 vs 0)) (CA (v9 vs 1)))
theorem G5:bB PG 12 Ik:=dE (ai.cons BL (ai.cons zn (ai.cons QF ai.nil))) (rM Wp bj.nil) fun w=>acr (dC (g0 34 (w 0))) (CA (g0 50 (w 1)))
end
end Go.Proofs.Ytckbdndhmcoihaa.b
end
section
namespace Go.K
open Go Go.aG
theorem aW.go_rule {X:Type} {step:X->aW X} {I:Nat->X->Prop} {Q:ah->X->Prop} {n:Nat}
  (h:∀ j x,j<=n->I j x->(∃ x',step x = .next x'/\j < n/\I (j+1) x')\/∃ e x',step x = .out e x'/\mK e=false/\Q e x') :
  ∀ (r j:Nat) (x:X),j+r=n->I j x->∀ N,r < N->∃ e x',aW.go step N x = .out e x'/\Q e x'
 | r,j,x,hj,hI,0,hN=>by omega
 | r,j,x,hj,hI,N+1,hN=>by
  rcases h j x (by omega) hI with ⟨x',h1,h2,h3⟩ | ⟨e,x',h1,h2,h3⟩
  ·obtain ⟨r',rfl⟩:∃ r',r=r' + 1:=⟨r - 1,by omega⟩
   obtain ⟨e,y,h4,h5⟩:=aW.go_rule h r' (j+1) x' (by omega) h3 N (by omega);exact ⟨e,y,by simp only [aW.go,h1,h4],h5⟩
  ·exact ⟨e,x',by simp only [aW.go,h1,h2,aH],h3⟩
theorem ja {X:Type} {step:X->aW X} (I:Nat->X->Prop) (Q:ah->X->Prop) (n:Nat) (hn:n < gx)
  (h:∀ j x,j<=n->I j x->(∃ x',step x = .next x'/\j < n/\I (j+1) x')\/∃ e x',step x = .out e x'/\mK e=false/\Q e x') {x:X} (h0:I 0 x) :
  ∃ e x',goN step x = .out e x'/\Q e x':=aW.go_rule h n 0 x (by omega) h0 gx hn
theorem mN {X:Type} {step:X->aW X} (n:Nat) (hn:n < gx) (st:Nat->X) (C:Nat->Prop) {e0 er:ah} (h0:mK e0=false) (hr:mK er=false) (R:X->Prop) {xe:X}
  (JY:∀ j,j < n->(C j->step (st j) = .next (st (j+1)))/\(¬ C j->∃ x',step (st j) = .out er x'/\R x')) (aj8:step (st n) = .out e0 xe) :
  (goN step (st 0) = .out e0 xe/\∀ j,j < n->C j)\/∃ x',goN step (st 0) = .out er x'/\R x'/\∃ j,j < n/\¬ C j:=by
 obtain ⟨e,x',h1,h2⟩:=ja (step:=step) (fun j x=>x=st j/\∀ i,i < j->C i) (fun e x'=>(e=e0/\x' = xe/\∀ j,j < n->C j)\/(e=er/\R x'/\∃ j,j < n/\¬ C j)) n hn (fun j x hj ⟨hx,cI⟩=>by
  subst hx;by_cases bm:j < n
  ·obtain ⟨q1,q2⟩:=JY j bm
   by_cases hc:C j
   ·exact .inl ⟨_,q1 hc,bm,rfl,fun i hi=>by
     by_cases e:i=j
     ·subst e; exact hc
     ·exact cI i (by omega)⟩
   ·obtain ⟨x',h3,h4⟩:=q2 hc
    exact .inr ⟨_,_,h3,hr,.inr ⟨rfl,h4,j,bm,hc⟩⟩
  ·have:j=n:=by omega
   subst this;exact .inr ⟨_,_,aj8,h0,.inl ⟨rfl,rfl,cI⟩⟩) (x:=st 0) ⟨rfl,fun i hi=>absurd hi (ph _)⟩
 rcases h2 with ⟨rfl,rfl,h2⟩ | ⟨rfl,h2,h3⟩
 ·exact .inl ⟨h1,h2⟩
 ·exact .inr ⟨x',h1,h2,h3⟩
theorem aW.sh {X:Type} (e:ah) (x:X) (e' : ah):(aW.out e x).by e' = zS e e':=rfl
theorem aW.lF {X:Type} [Inhabited X] (e:ah) (x:X):(aW.out e x).st=x:=rfl
theorem cM {n:Int} (h : -9223372036854775808<=n) (h' : n < 9223372036854775808):aK n=n:=by
 show IntKind.wrap .i64 n=n;unfold IntKind.wrap;by_cases hn:0<=n
 ·have h1:n % (2 ^ IntKind.i64.bits:Int)=n:=Int.emod_eq_of_lt hn (by show n < 18446744073709551616; omega)
  simp only [h1];rw [aa];intro hc;simp only [ao,l9] at hc;have:n >= 9223372036854775808:=hc.2;omega
 ·have h1:n % (2 ^ IntKind.i64.bits:Int)=n+18446744073709551616:=by
   show n % 18446744073709551616=n+18446744073709551616;omega
  simp only [h1];rw [aD]
  ·show n+18446744073709551616 - 18446744073709551616=n
   omega
  ·simp only [ao,l9]
   refine ⟨rfl,?_⟩;show n+18446744073709551616 >= 9223372036854775808;omega
theorem alG {b n m:Nat} (h:(n+m) * b<=140737488355328) (h2:n+m<=17592186044416):dP b n m=true:=by
 unfold dP;rw [ao];exact ⟨Nat.ble_eq_true_of_le h,Nat.ble_eq_true_of_le h2⟩
theorem qH {b n m:Nat} (hb:b<=1000000:=by omega) (hn:n<=1000000:=by omega) (hm:m<=1000000:=by omega):dP b n m=true:=
 alG (hD (Nat.mul_le_mul (by omega:n+m<=2000000) hb) (by decide)) (by omega)
@[simp] theorem cq (n:Nat):ak n n=true:=tT n
theorem Sl.aam {α:Type} [Inhabited α] (s:Sl α) (v:α):(s.push v).n=s.n+1:=rfl
theorem Sl.Fp {α:Type} [Inhabited α] {s:Sl α} {v:α} {i:Nat} (h:i < s.n):(s.push v).get i=s.get i:=by
 have:Nat.blt i s.n=true:=by rw [bI]; exact h
 simp only [Sl.push,this,aj]
theorem Sl.CZ {α:Type} [Inhabited α] {s:Sl α} {v:α} : (s.push v).get s.n=v:=by
 have:Nat.blt s.n s.n=false:=by
  cases h:Nat.blt s.n s.n with
  | false=>rfl
  | true=>rw [bI] at h; omega
 simp only [Sl.push,this,aH,tT,aj]
theorem Sl.acs {α:Type} {s t:Sl α} {i:Nat} (h:i < s.n):(s.join t).get i=s.get i:=by
 have:Nat.blt i s.n=true:=by rw [bI]; exact h
 simp only [Sl.join,this,aj]
theorem Sl.ahB {α:Type} {s t:Sl α} {i:Nat} (h:s.n<=i):(s.join t).get i=t.get (i - s.n):=by
 have:Nat.blt i s.n=false:=by
  cases h' : Nat.blt i s.n with
  | false=>rfl
  | true=>rw [bI] at h'; omega
 simp only [Sl.join,this,aH]
end Go.K
end
section
namespace Go.Proofs.Ytckbdndhmcoihaa.sc
open Go Go.K
def ru (n lY:Int):Prop:=-lY<=n/\n<=lY
instance (n lY:Int):Decidable (ru n lY):=by unfold ru; exact inferInstance
def rY (v:b.fe) (k:Int):Prop:=ru v.x k/\ru v.y k/\ru v.z k
instance (v:b.fe) (k:Int):Decidable (rY v k):=by unfold rY; exact inferInstance
def QJ (r:b.dj):Prop:=ru r.e0 1024/\ru r.e1 1024/\ru r.e2 1024
def RowsIn (m:b.eX):Prop:=QJ m.e0/\QJ m.e1/\QJ m.e2
def Fq (m:b.fT):Prop:=RowsIn m.m/\rY m.t 4096
theorem chain {p:Prop} [Decidable p] {x:Option Bool} {Q:Prop} (h1:p->¬ Q) (h2 : ¬ p->∃ r,x=some r/\(r=true↔Q)):∃ r,cond (decide p) (some false) x=some r/\(r=true↔Q):=by
 by_cases h:p
 ·rw [au h]
  exact ⟨false,rfl,⟨fun k=>by simp at k,fun k=>absurd k (h1 h)⟩⟩
 ·rw [aZ h]
  exact h2 h
theorem alH (lY:Int) (l:Sl Int) (h:0<=lY) (h' : lY<=1000000) (hn:l.n < 1000000):∃ r,b.ID lY l=some r/\(r=true↔∀ i,i < l.n->ru (l.get i) lY):=by
 unfold b.ID b.K3;obtain ⟨e,x',h1,h2⟩:∃ e x',goN b.tL (⟨lY,false,l,((l.n:Nat):Int),(0:Int)⟩:b.rl) = .out e x'/\((e = .exit 0/\∀ i,i < l.n->ru (l.get i) lY)\/(e = .ret/\x'.t4=false/\∃ i,i < l.n/\¬ ru (l.get i) lY)):=by
  refine ja (X:=b.rl) (fun j x=>x=⟨lY,false,l,((l.n:Nat):Int),(j:Int)⟩/\∀ i,i < j->ru (l.get i) lY) (fun e x'=>(e = .exit 0/\∀ i,i < l.n->ru (l.get i) lY)\/(e = .ret/\x'.t4=false/\∃ i,i < l.n/\¬ ru (l.get i) lY)) l.n (by unfold gx; omega) ?_ ⟨rfl,fun i hi=>absurd hi (ph _)⟩;rintro j _ hj ⟨rfl,cI⟩;unfold b.tL
  dsimp only
  by_cases bm:(j:Int) < (l.n:Int)
  ·have h0:(0:Int)<=(j:Int):=by omega
   rw [au bm,au h0,cM (n:=0 - lY) (by omega) (by omega)];simp only [Fv,aj];have ej:Int.toNat (j:Int)=j:=rfl;rw [ej];by_cases q1:l.get j < 0 - lY
   ·rw [au q1]
    exact .inr ⟨_,_,rfl,rfl,.inr ⟨rfl,rfl,j,by omega,fun k=>by have:=k.1; omega⟩⟩
   ·rw [aZ q1,aH]
    by_cases q2:l.get j > lY
    ·rw [au q2]
     exact .inr ⟨_,_,rfl,rfl,.inr ⟨rfl,rfl,j,by omega,fun k=>by have:=k.2; omega⟩⟩
    ·rw [aZ q2,aH,cM (by omega) (by omega)]
     refine .inl ⟨_,rfl,by omega,by congr 1,fun i hi=>?_⟩;by_cases e:i=j
     ·subst e; exact ⟨by omega,by omega⟩
     ·exact cI i (by omega)
  ·rw [aZ bm,aH]
   exact .inr ⟨_,_,rfl,rfl,.inl ⟨rfl,fun i hi=>cI i (by omega)⟩⟩
 rw [h1];rcases h2 with ⟨rfl,h2⟩ | ⟨rfl,h2,i,h3,h4⟩
 ·exact ⟨true,rfl,⟨fun _=>h2,fun _=>rfl⟩⟩
 ·exact ⟨x'.t4,rfl,⟨fun k=>by rw [h2] at k; simp at k,fun k=>absurd (k i h3) h4⟩⟩
theorem aqY {P:Int->Prop} {x y z:Int} : (∀ i,i < (Sl.lit [x,y,z]).n->P ((Sl.lit [x,y,z]).get i))↔P x/\P y/\P z:=by
 constructor
 ·exact fun h=>⟨h 0 (show 0 < 3 by omega),h 1 (show 1 < 3 by omega),h 2 (show 2 < 3 by omega)⟩
 ·rintro ⟨h1,h2,h3⟩ i hi
  have hi:i < 3:=hi;rcases (by omega:i=0\/i=1\/i=2) with rfl | rfl | rfl
  ·exact h1
  ·exact h2
  ·exact h3
theorem Gi (v:b.fe):b.oS v=some (if rY v 4096 then 0 else 20):=by
 unfold b.oS b.D2;obtain ⟨r,h1,h2⟩:=alH 4096 (Sl.lit [v.x,v.y,v.z]) (by omega) (by omega) (by show 3 < 1000000; omega);have h2:r=true↔rY v 4096:=h2.trans (aqY (P:=fun n=>ru n 4096));rw [h1];cases r with
 | true=>rw [aD (h2.1 rfl)]; rfl
 | false=>rw [aa fun k=>by have:=h2.2 k; simp at this]; rfl
theorem ai7 (m:b.eX):∃ r,b.CU m=some r/\(r=true↔RowsIn m):=by
 unfold b.CU RowsIn QJ ru
 iterate 18 refine chain (fun h k=>by omega) fun _=>?_
 exact ⟨true,rfl,⟨fun _=>by omega,fun _=>rfl⟩⟩
theorem zq (m:b.fT):(∃ e,b.j2 m=some e/\(e=0/\Fq m\/e=20/\¬ Fq m)):=by
 unfold b.j2 b.D3 b.D4 Fq;obtain ⟨r,h1,h2⟩:=ai7 m.m;rw [h1,Gi];cases r with
 | false=>exact ⟨20,rfl,.inr ⟨rfl,fun k=>by have:=h2.2 k.1; simp at this⟩⟩
 | true=>
  by_cases h3:rY m.t 4096
  ·rw [aD h3]; exact ⟨0,rfl,.inl ⟨rfl,h2.1 rfl,h3⟩⟩
  ·rw [aa h3]; exact ⟨20,rfl,.inr ⟨rfl,fun k=>h3 k.2⟩⟩
theorem ahC (a:Int) (ha : -4611686018427387904<=a/\a<=4611686018427387904):b.mG a 256=some (a / 256,0):=by
 have h1:decide ((256:Int) < 1)=false:=rfl;have h2:decide ((256:Int)=0)=false:=rfl;have h3:=Int.mul_tdiv_add_tmod a 256;have h4:=Int.natAbs_tdiv_le_natAbs a 256;have h5:(Int.tmod a 256).natAbs < (256:Int).natAbs:=by rw [Int.natAbs_tmod]; exact Nat.mod_lt _ (by omega)
 unfold b.mG;simp only [h1,h2,aH,HO,aj];by_cases hr:Int.tmod a 256 < 0
 ·have e:a / 256=Int.tdiv a 256 - 1:=((Int.ediv_emod_unique (by omega:(0:Int) < 256)).2 ⟨(show (Int.tmod a 256+256)+256 * (Int.tdiv a 256 - 1)=a by omega),by omega,by omega⟩).1
  rw [au hr,aj,cM (n:=Int.tdiv a 256) (by omega) (by omega),cM (by omega) (by omega),e]
 ·have e:a / 256=Int.tdiv a 256:=((Int.ediv_emod_unique (by omega:(0:Int) < 256)).2 ⟨(show Int.tmod a 256+256 * Int.tdiv a 256=a by omega),by omega,by omega⟩).1
  rw [aZ hr,aH,cM (by omega) (by omega),e]
def dot (r:b.dj) (x y z:Int):Int:=r.e0 * x+r.e1 * y+r.e2 * z
theorem afA {a b A B:Int} (h:ru a A) (k:ru b B) (hA:0<=A) (hB:0<=B):ru (a * b) (A * B):=by
 have h1:a.natAbs<=A.natAbs:=by have:=h.1; have:=h.2; omega
 have h2:b.natAbs<=B.natAbs:=by have:=k.1; have:=k.2; omega
 have h3:(a * b).natAbs<=A.natAbs * B.natAbs:=by rw [Int.natAbs_mul]; exact Nat.mul_le_mul h1 h2
 have h4:((A.natAbs * B.natAbs:Nat):Int)=A * B:=by rw [Int.natCast_mul,Int.natAbs_of_nonneg hA,Int.natAbs_of_nonneg hB]
 unfold ru;omega
theorem acu {r:b.dj} {x y z:Int} (h:QJ r) (hx:ru x 4096) (hy:ru y 4096) (hz:ru z 4096):ru (r.e0 * x) 4194304/\ru (r.e1 * y) 4194304/\ru (r.e2 * z) 4194304:=
 ⟨afA h.1 hx (by omega) (by omega),afA h.2.1 hy (by omega) (by omega),afA h.2.2 hz (by omega) (by omega)⟩
theorem aan {r:b.dj} {x y z:Int} (h:QJ r) (hx:ru x 4096) (hy:ru y 4096) (hz:ru z 4096):ru (dot r x y z) 12582912:=by
 obtain ⟨h1,h2,h3⟩:=acu h hx hy hz;unfold dot;unfold ru at *;omega
theorem Oj (m:b.eX) (v:b.dj) (h:RowsIn m) (hx:ru v.e0 4096) (hy:ru v.e1 4096) (hz:ru v.e2 4096) :
  b.uB m v=some ⟨dot m.e0 v.e0 v.e1 v.e2 / 256,dot m.e1 v.e0 v.e1 v.e2 / 256,dot m.e2 v.e0 v.e1 v.e2 / 256⟩:=by
 have one:∀ r,QJ r->b.mG (aK ((aK ((aK ((0:Int)+(aK (r.e0 * v.e0))))+(aK (r.e1 * v.e1))))+(aK (r.e2 * v.e2)))) 256=some (dot r v.e0 v.e1 v.e2 / 256,0):=by
  intro r hr;obtain ⟨h1,h2,h3⟩:=acu hr hx hy hz;have h4:=aan hr hx hy hz;unfold dot ru at *;rw [cM (n:=r.e0 * v.e0) (by omega) (by omega),cM (n:=r.e1 * v.e1) (by omega) (by omega),cM (n:=r.e2 * v.e2) (by omega) (by omega),cM (n:=0+r.e0 * v.e0) (by omega) (by omega),Int.zero_add,cM (n:=r.e0 * v.e0+r.e1 * v.e1) (by omega) (by omega),cM (by omega) (by omega)];exact ahC _ (by omega)
 unfold b.uB b.LX b.LY b.L3;rw [one _ h.1,one _ h.2.1,one _ h.2.2];rfl
def Uu (t:b.gX):Prop:=0 < t.w/\t.w<=16/\0 < t.h/\t.h<=16/\((t.VZ.n:Nat):Int)=aK (t.w * t.h)
theorem acv (n:Int):∃ r,b.qG n=some r/\(r=true↔0 < n/\n<=16):=by
 unfold b.qG;by_cases h1:n > 0
 ·rw [au h1]
  exact ⟨_,rfl,by rw [decide_eq_true_iff]; omega⟩
 ·rw [aZ h1]
  exact ⟨false,rfl,⟨fun k=>by simp at k,fun k=>absurd k.1 h1⟩⟩
theorem alI (t:b.gX):∃ e,b.rO t=some e/\(e=0/\Uu t\/e=8/\¬ Uu t):=by
 unfold b.rO b.Ct b.Cu Uu;obtain ⟨r,h1,h2⟩:=acv t.w;obtain ⟨q,h3,h4⟩:=acv t.h;rw [h1,h3];simp only [fj,dI,aj];cases r with
 | false=>exact ⟨8,rfl,.inr ⟨rfl,fun k=>by have:=h2.2 ⟨k.1,k.2.1⟩; simp at this⟩⟩
 | true=>
  have h2:=h2.1 rfl;cases q with
  | false=>exact ⟨8,rfl,.inr ⟨rfl,fun k=>by have:=h4.2 ⟨k.2.2.1,k.2.2.2.1⟩; simp at this⟩⟩
  | true=>
   have h4:=h4.1 rfl;by_cases h5:((t.VZ.n:Nat):Int)=aK (t.w * t.h)
   ·rw [bne_eq_false_iff_eq.2 h5]
    exact ⟨0,rfl,.inl ⟨rfl,h2.1,h2.2,h4.1,h4.2,h5⟩⟩
   ·rw [bne_iff_ne.2 h5]
    exact ⟨8,rfl,.inr ⟨rfl,fun k=>h5 k.2.2.2.2⟩⟩
def afB (p:b.Prim):Prop:=p.kind<=2/\p.index.n<=200/\(p.kind=0->p.index.n % 3=0)/\(p.kind > 0->p.index.n=0\/3<=p.index.n)
def Ol (k:Int) (j:Nat):Nat:=if k=0 then (j+2) / 3 else j
def LC (p:b.Prim):Nat:=Ol p.kind (p.index.n - 2)
theorem ai8 (p:b.Prim) (h0:0<=p.kind) (h2:p.kind<=2) (hn:p.index.n<=200) (z:Sl b.dj) (t:Int) :
  ∃ x',goN b.kD (⟨z,t,⟨0,fun _=>⟨0,0,0⟩⟩,p.index,(0:Int),p⟩:b.dZ) = .out (.exit 1) x'/\x'.out.n=LC p:=by
 have IW:=fun JY=>ja (X:=b.dZ) (step:=b.kD) (fun j x=>∃ o:Sl b.dj,x=⟨z,t,o,p.index,(j:Int),p⟩/\o.n=Ol p.kind j) (fun e x'=>e = .exit 1/\x'.out.n=LC p) (p.index.n - 2) (by unfold gx; omega) JY (x:=⟨z,t,⟨0,fun _=>⟨0,0,0⟩⟩,p.index,(0:Int),p⟩) ⟨_,rfl,by unfold Ol; split <;> rfl⟩;refine Exists.elim (IW ?_) fun e ⟨x,h1,he,h3⟩=>?_
 rotate_left
 ·subst he; exact ⟨x,h1,h3⟩
 rintro j _ hj ⟨o,rfl,ho⟩;have ho200:o.n<=200:=by rw [ho]; unfold Ol; split <;> omega
 unfold b.kD b.rj b.ri b.rh
 dsimp only
 have e1:aK ((j:Int)+1)=((j+1:Nat):Int):=by rw [cM (by omega) (by omega)]; omega
 have e2:aK ((j:Int)+2)=((j+2:Nat):Int):=by rw [cM (by omega) (by omega)]; omega
 rw [e1,e2];by_cases bm:((j+2:Nat):Int) < (p.index.n:Int)
 ·have d1:decide ((0:Int)<=(j:Int))=true:=au (by omega)
  have d2:decide ((j:Int) < (p.index.n:Int))=true:=au (by omega);have d3:decide ((0:Int)<=((j+1:Nat):Int))=true:=au (by omega);have d4:decide (((j+1:Nat):Int) < (p.index.n:Int))=true:=au (by omega);have d5:decide ((0:Int)<=((j+2:Nat):Int))=true:=au (by omega);have d6:decide (((j+2:Nat):Int) < (p.index.n:Int))=true:=au bm;have d7:decide ((0:Int) < (p.index.n:Int))=true:=au (by omega);have da:dP 24 o.n 1=true:=qH;rw [d1,d2,d3,d4,d5,d6,d7,da];simp only [cq,Fv,cz,aj];have hjn:j < p.index.n - 2:=by omega
  rcases (by omega:p.kind=0\/p.kind=1\/p.kind=2) with hk | hk | hk
  ·rw [hk]
   by_cases h3:Int.tmod (j:Int) 3=0
   ·rw [vf.2 h3]
    refine .inl ⟨_,rfl,hjn,_,rfl,?_⟩;rw [Sl.aam,ho,hk];have:Int.tmod (j:Int) 3=((j % 3:Nat):Int):=rfl;unfold Ol;rw [aD rfl,aD rfl];omega
   ·rw [beq_eq_false_iff_ne.2 h3]
    refine .inl ⟨_,rfl,hjn,_,rfl,?_⟩;rw [ho,hk];have:Int.tmod (j:Int) 3=((j % 3:Nat):Int):=rfl;unfold Ol;rw [aD rfl,aD rfl];omega
  ·rw [hk]
   have hc:∀ j,Ol 1 j=j:=fun j=>rfl;by_cases h3:Int.tmod (j:Int) 2=0
   ·rw [vf.2 h3]
    exact .inl ⟨_,rfl,hjn,_,rfl,by rw [Sl.aam,ho,hk,hc,hc]⟩
   ·rw [beq_eq_false_iff_ne.2 h3]
    exact .inl ⟨_,rfl,hjn,_,rfl,by rw [Sl.aam,ho,hk,hc,hc]⟩
  ·rw [hk]
   have hc:∀ j,Ol 2 j=j:=fun j=>rfl;exact .inl ⟨_,rfl,hjn,_,rfl,by rw [Sl.aam,ho,hk,hc,hc]⟩
 ·rw [aZ bm,aH]
  simp only [cq,aj];refine .inr ⟨_,_,rfl,rfl,rfl,?_⟩;show o.n=_;rw [ho];have:j=p.index.n - 2:=by omega
  subst this;rfl
theorem ai9 (p:b.Prim) (h0:0<=p.kind) (h2:p.kind<=2):∃ r,b.Ak p=some r/\(r=true↔(p.kind=0->p.index.n % 3=0)/\(p.kind > 0->p.index.n=0\/3<=p.index.n)):=by
 unfold b.Ak b.B5;have key:∀ {k:Int},(p.kind=k->k > 0)->∃ r,cond (((p.index.n:Nat):Int)==(0:Int)) (some true) (some (decide (((p.index.n:Nat):Int) >= (3:Int))))=some r/\(r=true↔(p.index.n=0\/3<=p.index.n)):=by
  intro k _;by_cases h:((p.index.n:Nat):Int)=0
  ·rw [vf.2 h]
   exact ⟨true,rfl,⟨fun _=>.inl (by omega),fun _=>rfl⟩⟩
  ·rw [beq_eq_false_iff_ne.2 h]
   exact ⟨_,rfl,by rw [decide_eq_true_iff]; omega⟩
 rcases (by omega:p.kind=0\/p.kind=1\/p.kind=2) with hk | hk | hk
 ·rw [hk]
  refine ⟨_,rfl,?_⟩;rw [vf];have:Int.tmod ((p.index.n:Nat):Int) 3=((p.index.n % 3:Nat):Int):=rfl;rw [this];exact ⟨fun h=>⟨fun _=>by omega,fun h=>absurd h (by omega)⟩,fun h=>by have:=h.1 rfl; omega⟩
 ·rw [hk]
  obtain ⟨r,h1,h3⟩:=key (k:=1) (fun _=>by omega);exact ⟨r,h1,h3.trans ⟨fun h=>⟨fun k=>absurd k (by omega),fun _=>h⟩,fun h=>h.2 (by omega)⟩⟩
 ·rw [hk]
  obtain ⟨r,h1,h3⟩:=key (k:=2) (fun _=>by omega);exact ⟨r,h1,h3.trans ⟨fun h=>⟨fun k=>absurd k (by omega),fun _=>h⟩,fun h=>h.2 (by omega)⟩⟩
theorem aja (p:b.Prim) (h0:0<=p.kind):∃ l e,b.Al p=some (l,e)/\(e=0/\afB p/\l.n=LC p\/e≠0/\¬ afB p/\l.n=0):=by
 unfold b.Al;by_cases h1:p.kind > 2
 ·rw [au h1]
  exact ⟨_,_,rfl,.inr ⟨by decide,fun k=>by have:=k.1; omega,rfl⟩⟩
 ·rw [aZ h1,aH]
  by_cases h2:((p.index.n:Nat):Int) > 200
  ·rw [au h2]
   exact ⟨_,_,rfl,.inr ⟨by decide,fun k=>by have:=k.2.1; omega,rfl⟩⟩
  ·rw [aZ h2,aH]
   unfold b.JK b.JL;obtain ⟨r,h3,h4⟩:=ai9 p h0 (by omega);rw [h3];cases r with
   | false=>
    exact ⟨_,_,rfl,.inr ⟨by decide,fun k=>by have:=h4.2 k.2.2; simp at this,rfl⟩⟩
   | true=>
    obtain ⟨x',h5,h6⟩:=ai8 p h0 (by omega) (by omega) ⟨0,fun _=>⟨0,0,0⟩⟩ 0;rw [h5];exact ⟨_,_,rfl,.inl ⟨rfl,⟨by omega,by omega,h4.1 rfl⟩,h6⟩⟩
def tot (m:b.gE):Nat->Nat
 | 0=>0
 | k+1=>tot m k+LC (m.gd.get k)
theorem alJ (m:b.gE) {i j:Nat} (h:i<=j):tot m i<=tot m j:=by
 induction j with
 | zero=>have:i=0:=by omega
         subst this; exact aC _
 | succ j ih=>
  by_cases e:i=j+1
  ·subst e; exact aC _
  ·have:=ih (by omega)
   show tot m i<=tot m j+_;omega
def akK (m:b.gE) (k:Nat):Prop:=afB (m.gd.get k)/\∀ i,i < (m.gd.get k).index.n->0<=(m.gd.get k).index.get i/\(m.gd.get k).index.get i < (m.az.n:Int)
def RG (m:b.gE):Prop:=(∀ k,k < m.gd.n->akK m k)/\tot m m.gd.n<=64
def JZ (m:b.gE):Prop:=∀ k,k < m.gd.n->0<=(m.gd.get k).kind
theorem ahD (z o:Sl b.dj) (t:Bool) (q:Sl b.Prim) (a c:Int) (l:Sl Int) (hl:l.n<=1000) (m:b.gE) :
  (∃ k,goN b.fo (⟨z,t,o,q,a,c,l,((l.n:Nat):Int),(0:Int),m⟩:b.fg) = .out (.exit 2) ⟨z,t,o,q,a,c,l,((l.n:Nat):Int),k,m⟩/\∀ i,i < l.n->0<=l.get i/\l.get i < (m.az.n:Int))\/
  ∃ x',goN b.fo (⟨z,t,o,q,a,c,l,((l.n:Nat):Int),(0:Int),m⟩:b.fg) = .out .ret x'/\x'.t3=false/\∃ i,i < l.n/\¬ (0<=l.get i/\l.get i < (m.az.n:Int)):=by
 have key:=mN (step:=b.fo) l.n (by unfold gx; omega) (fun j=>⟨z,t,o,q,a,c,l,((l.n:Nat):Int),(j:Int),m⟩) (fun i=>0<=l.get i/\l.get i < (m.az.n:Int)) (e0:=.exit 2) (er:=.ret) rfl rfl (fun x'=>x'.t3=false) (xe:=⟨z,t,o,q,a,c,l,((l.n:Nat):Int),((l.n:Nat):Int),m⟩) (fun j hj=>by
  have e1:aK ((j:Int)+1)=((j+1:Nat):Int):=by rw [cM (by omega) (by omega)]; omega
  have d1:decide ((j:Int) < ((l.n:Nat):Int))=true:=au (by omega);have d2:decide ((0:Int)<=(j:Int))=true:=au (by omega);have ej:Int.toNat (j:Int)=j:=rfl;unfold b.fo b.kr
  dsimp only
  rw [d1,d2,ej,e1];simp only [cq,cz,aj];constructor
  ·rintro ⟨h1,h2⟩
   rw [aZ (show ¬ l.get j < 0 by omega),aZ (show ¬ l.get j >= (m.az.n:Int) by omega)];rfl
  ·intro h
   by_cases h1:l.get j < 0
   ·rw [au h1]
    exact ⟨_,rfl,rfl⟩
   ·rw [aZ h1,au (show l.get j >= (m.az.n:Int) by omega)]
    exact ⟨_,rfl,rfl⟩) (by
  unfold b.fo b.kr
  dsimp only
  rw [aZ (Int.lt_irrefl _)];simp only [cq,aj,aH])
 rcases key with ⟨h1,h2⟩ | ⟨x',h1,h2,h3⟩
 ·exact .inl ⟨_,h1,h2⟩
 ·exact .inr ⟨x',h1,h2,h3⟩
theorem acw (m:b.gE) (hk:JZ m) (hp:m.gd.n < 1000000):∃ l r,b.w7 m=some (l,r)/\(r=true↔RG m):=by
 unfold b.w7 b.vZ;obtain ⟨e,x',h1,h2⟩:∃ e x',goN b.oz (⟨⟨0,fun _=>⟨0,0,0⟩⟩,false,⟨0,fun _=>⟨0,0,0⟩⟩,m.gd,((m.gd.n:Nat):Int),(0:Int),m⟩:b.fU) = .out e x'/\((e = .exit 0/\RG m)\/(e = .ret/\x'.t3=false/\¬ RG m)):=by
  refine ja (X:=b.fU) (fun j x=>∃ o:Sl b.dj,x=⟨⟨0,fun _=>⟨0,0,0⟩⟩,false,o,m.gd,((m.gd.n:Nat):Int),(j:Int),m⟩/\o.n=tot m j/\tot m j<=64/\∀ k,k < j->akK m k) (fun e x'=>(e = .exit 0/\RG m)\/(e = .ret/\x'.t3=false/\¬ RG m)) m.gd.n (by unfold gx; omega) ?_ ⟨_,rfl,rfl,by show 0<=64; omega,fun k hk=>absurd hk (ph _)⟩;rintro j _ hj ⟨o,rfl,ho,ht,qM⟩;unfold b.oz b.sf b.ck b.gf
  dsimp only
  by_cases bm:(j:Int) < ((m.gd.n:Nat):Int)
  ·have d1:decide ((j:Int) < ((m.gd.n:Nat):Int))=true:=au bm
   have d2:decide ((0:Int)<=(j:Int))=true:=au (by omega);have ej:Int.toNat (j:Int)=j:=rfl;obtain ⟨l,e,h1,h2⟩:=aja (m.gd.get j) (hk j (by omega));have hln:l.n<=200:=by
    rcases h2 with ⟨_,q,h⟩ | ⟨_,_,h⟩
    ·rw [h]; have:=q.2.1; unfold LC Ol; split <;> omega
    ·omega
   have da:dP 24 o.n l.n=true:=qH;rw [d1,d2,ej,h1];simp only [fj,dI,aj,cz,cq,da];rcases h2 with ⟨rfl,hpo,hn⟩ | ⟨he,hpo,hn⟩
   ·have cD:((0:Int) != 0)=false:=rfl
    rw [cD,aH];have hs:tot m (j+1)=o.n+l.n:=by show tot m j+LC _=_; rw [ho,hn]
    by_cases h64:(((o.n+l.n:Nat)):Int) > 64
    ·rw [au h64]
     exact .inr ⟨_,_,rfl,rfl,.inr ⟨rfl,rfl,fun k=>by have:=alJ m (show j+1<=m.gd.n by omega); have:=k.2; omega⟩⟩
    ·rw [aZ h64,aH]
     have e1:aK ((j:Int)+1)=((j+1:Nat):Int):=by rw [cM (by omega) (by omega)]; omega
     rcases ahD ⟨0,fun _=>⟨0,0,0⟩⟩ (o.join l) false m.gd ((m.gd.n:Nat):Int) (j:Int) (m.gd.get j).index (by have:=hpo.2.1; omega) m with ⟨k,q1,q2⟩ | ⟨x',q1,q2,i,q3,q4⟩
     ·rw [q1]
      simp only [aW.sh,aW.lF,cq,aj];rw [e1];refine .inl ⟨_,rfl,by omega,o.join l,rfl,by rw [hs]; rfl,by omega,fun k' mO=>?_⟩;by_cases e:k' = j
      ·subst e; exact ⟨hpo,q2⟩
      ·exact qM k' (by omega)
     ·rw [q1]
      simp only [aW.sh,aW.lF,cq,aj];exact .inr ⟨_,_,rfl,rfl,.inr ⟨rfl,q2,fun k=>q4 ((k.1 j (by omega)).2 i q3)⟩⟩
   ·have cD:(e != (0:Int))=true:=by rw [bne_iff_ne]; exact he
    rw [cD];exact .inr ⟨_,_,rfl,rfl,.inr ⟨rfl,rfl,fun k=>hpo (k.1 j (by omega)).1⟩⟩
  ·rw [aZ bm,aH]
   simp only [cq,aj];have:j=m.gd.n:=by omega
   subst this;exact .inr ⟨_,_,rfl,rfl,.inl ⟨rfl,qM,ht⟩⟩
 rw [h1];rcases h2 with ⟨rfl,h2⟩ | ⟨rfl,h2,h3⟩
 ·exact ⟨_,true,rfl,⟨fun _=>h2,fun _=>rfl⟩⟩
 ·exact ⟨_,x'.t3,rfl,⟨fun k=>by rw [h2] at k; simp at k,fun k=>absurd k h3⟩⟩
def ahE (q:b.kJ):Prop:=0<=q.e0/\q.e0<=255/\0<=q.e1/\q.e1<=255
def afC (m:b.gE):Prop:=m.az.n<=64/\m.uV.n<=64/\m.gd.n<=16
def Il (m:b.gE):Prop:=afC m/\m.uV.n=m.az.n/\(∀ i,i < m.az.n->rY (m.az.get i) 1024)/\(∀ i,i < m.uV.n->ahE (m.uV.get i))/\RG m
theorem ahF (s:Sl b.fe) (hs:s.n<=64):(∃ x',goN b.bJ (⟨s,(0:Int),((s.n:Nat):Int),(0:Int)⟩:b.bZ) = .out (.exit 0) x'/\∀ i,i < s.n->rY (s.get i) 1024)\/
  ∃ x',goN b.bJ (⟨s,(0:Int),((s.n:Nat):Int),(0:Int)⟩:b.bZ) = .out .ret x'/\x'.t4 >= 0/\∃ i,i < s.n/\¬ rY (s.get i) 1024:=by
 have key:=mN (step:=b.bJ) s.n (by unfold gx; omega) (fun j=>⟨s,(0:Int),((s.n:Nat):Int),(j:Int)⟩) (fun k=>rY (s.get k) 1024) (e0:=.exit 0) (er:=.ret) rfl rfl (fun x'=>x'.t4 >= 0) (xe:=⟨s,(0:Int),((s.n:Nat):Int),((s.n:Nat):Int)⟩) (fun j hj=>by
  have e1:aK ((j:Int)+1)=((j+1:Nat):Int):=by rw [cM (by omega) (by omega)]; omega
  have d1:decide ((j:Int) < ((s.n:Nat):Int))=true:=au (by omega);have d2:decide ((0:Int)<=(j:Int))=true:=au (by omega);have ej:Int.toNat (j:Int)=j:=rfl;unfold b.bJ rY ru
  dsimp only
  rw [d1,d2,ej,e1];simp only [cz,aj];generalize s.get j=v;have Km:(j:Int) >= 0:=by omega
  by_cases h1:v.x >= -1024
  ·by_cases h2:v.x<=1024
   ·by_cases h3:v.y >= -1024
    ·by_cases h4:v.y<=1024
     ·by_cases h5:v.z >= -1024
      ·by_cases h6:v.z<=1024
       ·rw [au h1,au h2,au h3,au h4,au h5,au h6]
        exact ⟨fun _=>rfl,fun h=>absurd ⟨⟨h1,h2⟩,⟨h3,h4⟩,h5,h6⟩ h⟩
       ·rw [au h1,au h2,au h3,au h4,au h5,aZ h6]
        exact ⟨fun h=>absurd h.2.2.2 h6,fun h=>⟨_,rfl,Km⟩⟩
      ·rw [au h1,au h2,au h3,au h4,aZ h5]
       exact ⟨fun h=>absurd h.2.2.1 h5,fun h=>⟨_,rfl,Km⟩⟩
     ·rw [au h1,au h2,au h3,aZ h4]
      exact ⟨fun h=>absurd h.2.1.2 h4,fun h=>⟨_,rfl,Km⟩⟩
    ·rw [au h1,au h2,aZ h3]
     exact ⟨fun h=>absurd h.2.1.1 h3,fun h=>⟨_,rfl,Km⟩⟩
   ·rw [au h1,aZ h2]
    exact ⟨fun h=>absurd h.1.2 h2,fun h=>⟨_,rfl,Km⟩⟩
  ·rw [aZ h1]
   exact ⟨fun h=>absurd h.1.1 h1,fun h=>⟨_,rfl,Km⟩⟩) (by
  unfold b.bJ
  dsimp only
  rw [aZ (Int.lt_irrefl _)];rfl)
 rcases key with ⟨h1,h2⟩ | ⟨x',h1,h2,h3⟩
 ·exact .inl ⟨_,h1,h2⟩
 ·exact .inr ⟨x',h1,h2,h3⟩
theorem alK (s:Sl b.kJ) (hs:s.n<=64):(∃ x',goN b.bK (⟨s,(0:Int),((s.n:Nat):Int),(0:Int)⟩:b.b5) = .out (.exit 0) x'/\∀ i,i < s.n->ahE (s.get i))\/
  ∃ x',goN b.bK (⟨s,(0:Int),((s.n:Nat):Int),(0:Int)⟩:b.b5) = .out .ret x'/\x'.t4 >= 0/\∃ i,i < s.n/\¬ ahE (s.get i):=by
 have key:=mN (step:=b.bK) s.n (by unfold gx; omega) (fun j=>⟨s,(0:Int),((s.n:Nat):Int),(j:Int)⟩) (fun k=>ahE (s.get k)) (e0:=.exit 0) (er:=.ret) rfl rfl (fun x'=>x'.t4 >= 0) (xe:=⟨s,(0:Int),((s.n:Nat):Int),((s.n:Nat):Int)⟩) (fun j hj=>by
  have e1:aK ((j:Int)+1)=((j+1:Nat):Int):=by rw [cM (by omega) (by omega)]; omega
  have d1:decide ((j:Int) < ((s.n:Nat):Int))=true:=au (by omega);have d2:decide ((0:Int)<=(j:Int))=true:=au (by omega);have ej:Int.toNat (j:Int)=j:=rfl;unfold b.bK ahE
  dsimp only
  rw [d1,d2,ej,e1];simp only [cz,aj];generalize s.get j=v;have Km:(j:Int) >= 0:=by omega
  by_cases h1:v.e0 < 0
  ·rw [au h1]
   exact ⟨fun h=>absurd h.1 (by omega),fun h=>⟨_,rfl,Km⟩⟩
  ·by_cases h2:v.e0 > 255
   ·rw [aZ h1,au h2]
    exact ⟨fun h=>absurd h.2.1 (by omega),fun h=>⟨_,rfl,Km⟩⟩
   ·by_cases h3:v.e1 < 0
    ·rw [aZ h1,aZ h2,au h3]
     exact ⟨fun h=>absurd h.2.2.1 (by omega),fun h=>⟨_,rfl,Km⟩⟩
    ·by_cases h4:v.e1 > 255
     ·rw [aZ h1,aZ h2,aZ h3,au h4]
      exact ⟨fun h=>absurd h.2.2.2 (by omega),fun h=>⟨_,rfl,Km⟩⟩
     ·rw [aZ h1,aZ h2,aZ h3,aZ h4]
      exact ⟨fun _=>rfl,fun h=>absurd ⟨by omega,by omega,by omega,by omega⟩ h⟩) (by
  unfold b.bK
  dsimp only
  rw [aZ (Int.lt_irrefl _)];rfl)
 rcases key with ⟨h1,h2⟩ | ⟨x',h1,h2,h3⟩
 ·exact .inl ⟨_,h1,h2⟩
 ·exact .inr ⟨x',h1,h2,h3⟩
open Classical in
noncomputable def QK (m:b.gE):Int:=if afC m then (if Il m then 0 else 40) else 4
theorem acx (m:b.gE) (hk:JZ m):b.uT m=some (QK m):=by
 unfold b.uT b.Ap b.Ao QK;by_cases h1:((m.az.n:Nat):Int) > 64
 ·rw [au h1,aa fun k=>by have:=k.1; omega]; rfl
 rw [aZ h1];by_cases h2:((m.uV.n:Nat):Int) > 64
 ·rw [au h2,aa fun k=>by have:=k.2.1; omega]; rfl
 rw [aZ h2];by_cases h3:((m.gd.n:Nat):Int) > 16
 ·rw [au h3,aa fun k=>by have:=k.2.2; omega]; rfl
 rw [aZ h3];have hf:afC m:=⟨by omega,by omega,by omega⟩
 rw [aD hf];simp only [aH];by_cases h4:((m.uV.n:Nat):Int)=((m.az.n:Nat):Int)
 ·rw [bne_eq_false_iff_eq.2 h4,aH]
  unfold b.B7 b.B8 b.GV;rcases ahF m.az hf.1 with ⟨x',q1,q2⟩ | ⟨x',q1,q2,i,q3,q4⟩
  ·rw [q1]
   rcases alK m.uV hf.2.1 with ⟨y',r1,r2⟩ | ⟨y',r1,r2,i,r3,r4⟩
   ·rw [r1]
    obtain ⟨l,r,s1,s2⟩:=acw m hk (by have:=hf.2.2; omega);rw [s1];cases r with
    | true=>rw [aD ⟨hf,by omega,q2,r2,s2.1 rfl⟩]; rfl
    | false=>rw [aa fun k=>by have:=s2.2 k.2.2.2.2; simp at this]; rfl
   ·rw [r1,aa fun k=>r4 (k.2.2.2.1 i r3)]
    simp only [aW.sh,aW.lF,r2,decide_true];rfl
  ·rw [q1,aa fun k=>q4 (k.2.2.1 i q3)]
   simp only [aW.sh,aW.lF,q2,decide_true];rfl
 ·rw [bne_iff_ne.2 h4,aa fun k=>h4 (by rw [k.2.1])]; rfl
def aao (l:b.kq):Prop:=-1<=l.dL/\l.dL < 16/\l.o9<=2/\-1024<=l.ob/\l.ob<=1024/\0<=l.bin/\l.bin<=15
theorem aou {p:Prop} [Decidable p] {x:Option Int} {Q:Prop} (h1:p->¬ Q) (h2 : ¬ p->∃ e,x=some e/\(e=0/\Q\/e=8/\¬ Q)):∃ e,cond (decide p) (some 8) x=some e/\(e=0/\Q\/e=8/\¬ Q):=by
 by_cases h:p
 ·rw [au h]
  exact ⟨8,rfl,.inr ⟨rfl,h1 h⟩⟩
 ·rw [aZ h]
  exact h2 h
theorem ajb (l:b.kq):∃ e,b.mM l=some e/\(e=0/\aao l\/e=8/\¬ aao l):=by
 unfold b.mM aao
 iterate 7 refine aou (fun h k=>by omega) fun _=>?_
 exact ⟨0,rfl,.inl ⟨rfl,by omega⟩⟩
def mi (n:Int):Prop:=n=0\/n=1\/n=3\/n=5\/n=7
def Uv (s:b.dv) (l:b.kq):b.kq:=if s.cl.e0=0 then l else ⟨s.look.color,l.dL,l.o9,l.ob,l.kC,l.bin⟩
theorem aq0 (t:Int) (s:b.dv) (l:b.kq):(mi s.cl.e0->b.bu ⟨t,0,s,l⟩ = .next ⟨t,1,s,Uv s l⟩)/\(¬ mi s.cl.e0->∃ x',b.bu ⟨t,0,s,l⟩ = .out .ret x'/\x'.t2=8):=by
 unfold b.bu b.eD b.eC b.eB b.eA b.ew mi Uv
 dsimp only
 have e1:aK ((0:Int)+1)=1:=by decide
 rw [e1];constructor
 ·rintro (h | h | h | h | h) <;> rw [h] <;> rfl
 ·intro h
  rw [beq_eq_false_iff_ne.2 (fun k=>h (by omega):s.cl.e0≠0),beq_eq_false_iff_ne.2 (fun k=>h (by omega):s.cl.e0≠1),beq_eq_false_iff_ne.2 (fun k=>h (by omega):s.cl.e0≠3),beq_eq_false_iff_ne.2 (fun k=>h (by omega):s.cl.e0≠5),beq_eq_false_iff_ne.2 (fun k=>h (by omega):s.cl.e0≠7)];exact ⟨_,rfl,rfl⟩
def Ya (s:b.dv) (l:b.kq):b.kq:=if s.cl.e1=0 then l else ⟨l.color,s.look.dL,l.o9,l.ob,l.kC,l.bin⟩
theorem aq1 (t:Int) (s:b.dv) (l:b.kq):(mi s.cl.e1->b.bu ⟨t,1,s,l⟩ = .next ⟨t,2,s,Ya s l⟩)/\(¬ mi s.cl.e1->∃ x',b.bu ⟨t,1,s,l⟩ = .out .ret x'/\x'.t2=8):=by
 unfold b.bu b.eD b.eC b.eB b.eA b.ew mi Ya
 dsimp only
 have e1:aK ((1:Int)+1)=2:=by decide
 rw [e1];constructor
 ·rintro (h | h | h | h | h) <;> rw [h] <;> rfl
 ·intro h
  rw [beq_eq_false_iff_ne.2 (fun k=>h (by omega):s.cl.e1≠0),beq_eq_false_iff_ne.2 (fun k=>h (by omega):s.cl.e1≠1),beq_eq_false_iff_ne.2 (fun k=>h (by omega):s.cl.e1≠3),beq_eq_false_iff_ne.2 (fun k=>h (by omega):s.cl.e1≠5),beq_eq_false_iff_ne.2 (fun k=>h (by omega):s.cl.e1≠7)];exact ⟨_,rfl,rfl⟩
def acy (s:b.dv) (l:b.kq):b.kq:=if s.cl.e2=0 then l else ⟨l.color,l.dL,s.look.o9,l.ob,l.kC,l.bin⟩
theorem aq2 (t:Int) (s:b.dv) (l:b.kq):(mi s.cl.e2->b.bu ⟨t,2,s,l⟩ = .next ⟨t,3,s,acy s l⟩)/\(¬ mi s.cl.e2->∃ x',b.bu ⟨t,2,s,l⟩ = .out .ret x'/\x'.t2=8):=by
 unfold b.bu b.eD b.eC b.eB b.eA b.ew mi acy
 dsimp only
 have e1:aK ((2:Int)+1)=3:=by decide
 rw [e1];constructor
 ·rintro (h | h | h | h | h) <;> rw [h] <;> rfl
 ·intro h
  rw [beq_eq_false_iff_ne.2 (fun k=>h (by omega):s.cl.e2≠0),beq_eq_false_iff_ne.2 (fun k=>h (by omega):s.cl.e2≠1),beq_eq_false_iff_ne.2 (fun k=>h (by omega):s.cl.e2≠3),beq_eq_false_iff_ne.2 (fun k=>h (by omega):s.cl.e2≠5),beq_eq_false_iff_ne.2 (fun k=>h (by omega):s.cl.e2≠7)];exact ⟨_,rfl,rfl⟩
def afD (s:b.dv) (l:b.kq):b.kq:=if s.cl.e3=0 then l else ⟨l.color,l.dL,l.o9,s.look.ob,l.kC,l.bin⟩
theorem aq3 (t:Int) (s:b.dv) (l:b.kq):(mi s.cl.e3->b.bu ⟨t,3,s,l⟩ = .next ⟨t,4,s,afD s l⟩)/\(¬ mi s.cl.e3->∃ x',b.bu ⟨t,3,s,l⟩ = .out .ret x'/\x'.t2=8):=by
 unfold b.bu b.eD b.eC b.eB b.eA b.ew mi afD
 dsimp only
 have e1:aK ((3:Int)+1)=4:=by decide
 rw [e1];constructor
 ·rintro (h | h | h | h | h) <;> rw [h] <;> rfl
 ·intro h
  rw [beq_eq_false_iff_ne.2 (fun k=>h (by omega):s.cl.e3≠0),beq_eq_false_iff_ne.2 (fun k=>h (by omega):s.cl.e3≠1),beq_eq_false_iff_ne.2 (fun k=>h (by omega):s.cl.e3≠3),beq_eq_false_iff_ne.2 (fun k=>h (by omega):s.cl.e3≠5),beq_eq_false_iff_ne.2 (fun k=>h (by omega):s.cl.e3≠7)];exact ⟨_,rfl,rfl⟩
def ajc (s:b.dv) (l:b.kq):b.kq:=if s.cl.e4=0 then l else ⟨l.color,l.dL,l.o9,l.ob,s.look.kC,s.look.bin⟩
theorem aq4 (t:Int) (s:b.dv) (l:b.kq):(mi s.cl.e4->b.bu ⟨t,4,s,l⟩ = .next ⟨t,5,s,ajc s l⟩)/\(¬ mi s.cl.e4->∃ x',b.bu ⟨t,4,s,l⟩ = .out .ret x'/\x'.t2=8):=by
 unfold b.bu b.eD b.eC b.eB b.eA b.ew mi ajc
 dsimp only
 have e1:aK ((4:Int)+1)=5:=by decide
 rw [e1];constructor
 ·rintro (h | h | h | h | h) <;> rw [h] <;> rfl
 ·intro h
  rw [beq_eq_false_iff_ne.2 (fun k=>h (by omega):s.cl.e4≠0),beq_eq_false_iff_ne.2 (fun k=>h (by omega):s.cl.e4≠1),beq_eq_false_iff_ne.2 (fun k=>h (by omega):s.cl.e4≠3),beq_eq_false_iff_ne.2 (fun k=>h (by omega):s.cl.e4≠5),beq_eq_false_iff_ne.2 (fun k=>h (by omega):s.cl.e4≠7)];exact ⟨_,rfl,rfl⟩
def CC:b.kq:=⟨⟨0,0,0,0⟩,0,0,0,false,0⟩
def said (s:b.dv):b.kq:=ajc s (afD s (acy s (Ya s (Uv s CC))))
def aap (s:b.dv):Prop:=mi s.cl.e0/\mi s.cl.e1/\mi s.cl.e2/\mi s.cl.e3/\mi s.cl.e4
def M1 (s:b.dv):Prop:=aap s/\said s=s.look/\aao s.look
theorem ajd (s:b.dv):(goN b.bu (⟨0,0,s,CC⟩:b.cu) = .out (.exit 0) ⟨0,5,s,said s⟩/\aap s)\/∃ x',goN b.bu (⟨0,0,s,CC⟩:b.cu) = .out .ret x'/\x'.t2=8/\¬ aap s:=by
 have key:=mN (step:=b.bu) 5 (by unfold gx; omega) (fun j=>match j with
  | 0=>⟨0,0,s,CC⟩
  | 1=>⟨0,1,s,Uv s CC⟩
  | 2=>⟨0,2,s,Ya s (Uv s CC)⟩
  | 3=>⟨0,3,s,acy s (Ya s (Uv s CC))⟩
  | 4=>⟨0,4,s,afD s (acy s (Ya s (Uv s CC)))⟩
  | _=>⟨0,5,s,said s⟩) (fun j=>match j with
  | 0=>mi s.cl.e0
  | 1=>mi s.cl.e1
  | 2=>mi s.cl.e2
  | 3=>mi s.cl.e3
  | _=>mi s.cl.e4) (e0:=.exit 0) (er:=.ret) rfl rfl (fun x'=>x'.t2=8) (xe:=⟨0,5,s,said s⟩) (fun j hj=>by
   rcases (by omega:j=0\/j=1\/j=2\/j=3\/j=4) with rfl | rfl | rfl | rfl | rfl
   ·exact aq0 0 s _
   ·exact aq1 0 s _
   ·exact aq2 0 s _
   ·exact aq3 0 s _
   ·exact aq4 0 s _) rfl
 rcases key with ⟨h1,h2⟩ | ⟨x',h1,h2,j,h3,h4⟩
 ·exact .inl ⟨h1,h2 0 (by omega),h2 1 (by omega),h2 2 (by omega),h2 3 (by omega),h2 4 (by omega)⟩
 ·refine .inr ⟨x',h1,h2,fun k=>h4 ?_⟩
  obtain ⟨k0,k1,k2,k3,k4⟩:=k;rcases (by omega:j=0\/j=1\/j=2\/j=3\/j=4) with rfl | rfl | rfl | rfl | rfl <;> assumption
theorem look_eq (a c:b.kq):((a.color.e0==c.color.e0)&&((a.color.e1==c.color.e1)&&((a.color.e2==c.color.e2)&&((a.color.e3==c.color.e3)&&((a.dL==c.dL)&&((a.o9==c.o9)&&((a.ob==c.ob)&&((a.kC==c.kC)&&((a.bin==c.bin)&&true)))))))))=true↔a=c:=by
 obtain ⟨⟨a0,a1,a2,a3⟩,a4,a5,a6,a7,a8⟩:=a;obtain ⟨⟨c0,c1,c2,c3⟩,c4,c5,c6,c7,c8⟩:=c;simp [ao,and_assoc]
theorem Zs (s:b.dv):∃ e,b.qF s=some e/\(e=0/\M1 s\/e=8/\¬ M1 s):=by
 unfold b.qF b.DX b.ca;have e0:(⟨0,0,s,⟨⟨0,0,0,0⟩,0,0,0,false,0⟩⟩:b.cu)=⟨0,0,s,CC⟩:=rfl;rw [e0];rcases ajd s with ⟨h1,h2⟩ | ⟨x',h1,h2,h3⟩
 ·rw [h1]
  simp only [aW.sh,aW.lF];by_cases hl:said s=s.look
  ·rw [(look_eq _ _).2 hl]
   obtain ⟨e,q1,q2⟩:=ajb s.look;rw [q1];refine ⟨e,rfl,?_⟩;rcases q2 with ⟨rfl,q2⟩ | ⟨rfl,q2⟩
   ·exact .inl ⟨rfl,h2,hl,q2⟩
   ·exact .inr ⟨rfl,fun k=>q2 k.2.2⟩
  ·rw [Bool.eq_false_iff.2 fun k=>hl ((look_eq _ _).1 k)]
   exact ⟨8,rfl,.inr ⟨rfl,fun k=>hl k.2.1⟩⟩
 ·rw [h1]
  exact ⟨x'.t2,rfl,.inr ⟨h2,fun k=>h3 k.1⟩⟩
theorem cc {α:Type} (a c:Bool) (F X:α):cond a (cond c F X) X=cond (a&&c) F X:=by cases a <;> cases c <;> rfl
theorem cc2 {α:Type} (a c d:Bool) (F X:α):cond a (cond c F (cond d F X)) X=cond (a&&(c||d)) F X:=by cases a <;> cases c <;> cases d <;> rfl
def RH (s:b.dv):Prop:=(0<=s.cl.e0/\s.cl.e0<=255)/\(0<=s.cl.e1/\s.cl.e1<=255)/\(0<=s.cl.e2/\s.cl.e2<=255)/\(0<=s.cl.e3/\s.cl.e3<=255)/\(0<=s.cl.e4/\s.cl.e4<=255)
def RI (l:Sl Int):Nat->Int
 | 0=>0
 | k+1=>l.get k
def aje (l:Sl Int):Prop:=(∀ j,j < l.n->RI l j<=l.get j/\l.get j<=8192)/\l.n<=16
theorem alL (l:Sl Int) (hn:l.n < 1000000):∃ r,b.CV l=some r/\(r=true↔aje l):=by
 unfold b.CV b.BF;have key:=mN (step:=b.jy) l.n (by unfold gx; omega) (fun j=>⟨l,false,RI l j,l,((l.n:Nat):Int),(j:Int)⟩) (fun j=>RI l j<=l.get j/\l.get j<=8192) (e0:=.exit 0) (er:=.ret) rfl rfl (fun x'=>x'.t2=false) (xe:=⟨l,false,RI l l.n,l,((l.n:Nat):Int),((l.n:Nat):Int)⟩) (fun j hj=>by
  have e1:aK ((j:Int)+1)=((j+1:Nat):Int):=by rw [cM (by omega) (by omega)]; omega
  have d1:decide ((j:Int) < ((l.n:Nat):Int))=true:=au (by omega);have d2:decide ((0:Int)<=(j:Int))=true:=au (by omega);have ej:Int.toNat (j:Int)=j:=rfl;unfold b.jy
  dsimp only
  rw [d1,d2,ej,e1];simp only [cz,aj];by_cases h1:l.get j < RI l j
  ·rw [au h1]
   exact ⟨fun h=>absurd h.1 (by omega),fun _=>⟨_,rfl,rfl⟩⟩
  ·by_cases h2:l.get j > 8192
   ·rw [aZ h1,au h2]
    exact ⟨fun h=>absurd h.2 (by omega),fun _=>⟨_,rfl,rfl⟩⟩
   ·rw [aZ h1,aZ h2]
    exact ⟨fun _=>rfl,fun h=>absurd ⟨by omega,by omega⟩ h⟩) (by
  unfold b.jy
  dsimp only
  rw [aZ (Int.lt_irrefl _)];rfl)
 have e0:goN b.jy (⟨l,false,(0:Int),l,((l.n:Nat):Int),(0:Int)⟩:b.pb)=goN b.jy ⟨l,false,RI l 0,l,((l.n:Nat):Int),((0:Nat):Int)⟩:=rfl;rw [e0];rcases key with ⟨h1,h2⟩ | ⟨x',h1,h2,j,h3,h4⟩
 ·rw [h1]
  refine ⟨decide (((l.n:Nat):Int)<=16),rfl,?_⟩;rw [decide_eq_true_iff];exact ⟨fun h=>⟨h2,by omega⟩,fun h=>by have:=h.2; omega⟩
 ·rw [h1]
  exact ⟨x'.t2,rfl,⟨fun h=>by rw [h2] at h; simp at h,fun h=>absurd (h.1 j h3) h4⟩⟩
def acz {α:Type} (a c:Sl α):Prop:=a.n=c.n/\∀ i,i < a.n->a.get i=c.get i
theorem acz.refl {α:Type} (a:Sl α):acz a a:=⟨rfl,fun _ _=>rfl⟩
theorem PR (a c:Sl Int) (hn:a.n < 1000000):∃ r,b.oA a c=some r/\(r=true↔acz a c):=by
 unfold b.oA b.uw;by_cases hq:a.n=c.n
 ·have cD:(((a.n:Nat):Int) != ((c.n:Nat):Int))=false:=by simp [hq]
  rw [cD,aH];have key:=mN (step:=b.eE) a.n (by unfold gx; omega) (fun j=>⟨a,c,false,((a.n:Nat):Int),(j:Int)⟩) (fun j=>a.get j=c.get j) (e0:=.exit 0) (er:=.ret) rfl rfl (fun x'=>x'.t4=false) (xe:=⟨a,c,false,((a.n:Nat):Int),((a.n:Nat):Int)⟩) (fun j hj=>by
   have e1:aK ((j:Int)+1)=((j+1:Nat):Int):=by rw [cM (by omega) (by omega)]; omega
   have d1:decide ((j:Int) < ((a.n:Nat):Int))=true:=au (by omega);have d2:decide ((0:Int)<=(j:Int))=true:=au (by omega);have d3:decide ((j:Int) < ((c.n:Nat):Int))=true:=au (by omega);have ej:Int.toNat (j:Int)=j:=rfl;unfold b.eE
   dsimp only
   rw [d1,d2,d3,ej,e1];simp only [cz,aj];by_cases h1:a.get j=c.get j
   ·have:(a.get j != c.get j)=false:=by simp [h1]
    rw [this];exact ⟨fun _=>rfl,fun h=>absurd h1 h⟩
   ·have:(a.get j != c.get j)=true:=by simp [h1]
    rw [this];exact ⟨fun h=>absurd h h1,fun _=>⟨_,rfl,rfl⟩⟩) (by
   unfold b.eE
   dsimp only
   rw [aZ (Int.lt_irrefl _)];rfl)
  have e0:goN b.eE (⟨a,c,false,((a.n:Nat):Int),(0:Int)⟩:b.gF)=goN b.eE ⟨a,c,false,((a.n:Nat):Int),((0:Nat):Int)⟩:=rfl;rw [e0];rcases key with ⟨h1,h2⟩ | ⟨x',h1,h2,j,h3,h4⟩
  ·rw [h1]
   exact ⟨true,rfl,⟨fun _=>⟨hq,h2⟩,fun _=>rfl⟩⟩
  ·rw [h1]
   exact ⟨x'.t4,rfl,⟨fun h=>by rw [h2] at h; simp at h,fun h=>absurd (h.2 j h3) h4⟩⟩
 ·have cD:(((a.n:Nat):Int) != ((c.n:Nat):Int))=true:=by simp; omega
  rw [cD,aj];exact ⟨false,rfl,⟨fun h=>by simp at h,fun h=>absurd h.1 hq⟩⟩
def Yb (a c:b.Node):Prop:=a.kind=c.kind/\a.mP=c.mP/\a.rf=c.rf/\a.eR=c.eR/\acz a.fw c.fw/\a.fA=c.fA/\a.bH=c.bH
theorem aov (a c:b.fT):((a.m.e0.e0==c.m.e0.e0)&&((a.m.e0.e1==c.m.e0.e1)&&((a.m.e0.e2==c.m.e0.e2)&&((a.m.e1.e0==c.m.e1.e0)&&((a.m.e1.e1==c.m.e1.e1)&&((a.m.e1.e2==c.m.e1.e2)&&((a.m.e2.e0==c.m.e2.e0)&&((a.m.e2.e1==c.m.e2.e1)&&((a.m.e2.e2==c.m.e2.e2)&&((a.t.x==c.t.x)&&((a.t.y==c.t.y)&&((a.t.z==c.t.z)&&true))))))))))))=true↔a=c:=by
 obtain ⟨⟨⟨a0,a1,a2⟩,⟨a3,a4,a5⟩,⟨a6,a7,a8⟩⟩,⟨a9,a10,a11⟩⟩:=a;obtain ⟨⟨⟨c0,c1,c2⟩,⟨c3,c4,c5⟩,⟨c6,c7,c8⟩⟩,⟨c9,c10,c11⟩⟩:=c;simp [and_assoc]
theorem akL (a c:b.fe):((a.x==c.x)&&((a.y==c.y)&&((a.z==c.z)&&true)))=true↔a=c:=by
 obtain ⟨a0,a1,a2⟩:=a;obtain ⟨c0,c1,c2⟩:=c;simp
theorem alM (a c:b.dv):((a.cl.e0==c.cl.e0)&&((a.cl.e1==c.cl.e1)&&((a.cl.e2==c.cl.e2)&&((a.cl.e3==c.cl.e3)&&((a.cl.e4==c.cl.e4)&&((a.look.color.e0==c.look.color.e0)&&((a.look.color.e1==c.look.color.e1)&&((a.look.color.e2==c.look.color.e2)&&((a.look.color.e3==c.look.color.e3)&&((a.look.dL==c.look.dL)&&((a.look.o9==c.look.o9)&&((a.look.ob==c.look.ob)&&((a.look.kC==c.look.kC)&&((a.look.bin==c.look.bin)&&true))))))))))))))=true↔a=c:=by
 obtain ⟨⟨a0,a1,a2,a3,a4⟩,⟨⟨a5,a6,a7,a8⟩,a9,a10,a11,a12,a13⟩⟩:=a;obtain ⟨⟨c0,c1,c2,c3,c4⟩,⟨⟨c5,c6,c7,c8⟩,c9,c10,c11,c12,c13⟩⟩:=c;simp [and_assoc]
theorem Yc {p:Prop} {c:Bool} {x:Option Bool} {Q:Prop} (hc:c=true↔p) (h1 : ¬ p->¬ Q) (h2:p->∃ r,x=some r/\(r=true↔Q)):∃ r,cond c x (some false)=some r/\(r=true↔Q):=by
 cases c with
 | false=>exact ⟨false,rfl,⟨fun k=>by simp at k,fun k=>absurd k (h1 fun q=>by have:=hc.2 q; simp at this)⟩⟩
 | true=>exact h2 (hc.1 rfl)
theorem acA (a c:b.Node) (hn:a.fw.n < 1000000):∃ r,b.xh a c=some r/\(r=true↔Yb a c):=by
 unfold b.xh b.JN;obtain ⟨r,q1,q2⟩:=PR a.fw c.fw hn;rw [q1,fj,dI,aj];refine Yc vf (fun h k=>h k.1) fun g1=>?_;refine Yc (aov _ _) (fun h k=>h k.2.1) fun g2=>?_;refine Yc vf (fun h k=>h k.2.2.1) fun g3=>?_;refine Yc (akL _ _) (fun h k=>h k.2.2.2.1) fun g4=>?_;refine Yc q2 (fun h k=>h k.2.2.2.2.1) fun g5=>?_;refine Yc vf (fun h k=>h k.2.2.2.2.2.1) fun g6=>?_;exact ⟨_,rfl,(alM _ _).trans ⟨fun h=>⟨g1,g2,g3,g4,g5,g6,h⟩,fun h=>h.2.2.2.2.2.2⟩⟩
theorem Om {n:Int} (h:ru n 1024):ru n 4096:=by unfold ru at *; omega
theorem Zt (m:b.fT) (v:b.fe) (h:Fq m) (hv:rY v 4096) :
  b.xq m v=some ⟨dot m.m.e0 v.x v.y v.z / 256+m.t.x,dot m.m.e1 v.x v.y v.z / 256+m.t.y,dot m.m.e2 v.x v.y v.z / 256+m.t.z⟩:=by
 obtain ⟨⟨h0,h1,h2⟩,t1,t2,t3⟩:=h;have k0:=aan h0 hv.1 hv.2.1 hv.2.2;have k1:=aan h1 hv.1 hv.2.1 hv.2.2;have k2:=aan h2 hv.1 hv.2.1 hv.2.2;unfold b.xq b.zo b.JU b.JT b.Gh b.D8;simp only [fj,dI,aj];rw [Oj m.m ⟨v.x,v.y,v.z⟩ ⟨h0,h1,h2⟩ hv.1 hv.2.1 hv.2.2];simp only [fj,dI,aj];unfold ru at *;rw [cM (by omega) (by omega),cM (by omega) (by omega),cM (by omega) (by omega)]
def mul (a c:b.fT):b.fT:=
 ⟨⟨⟨dot a.m.e0 c.m.e0.e0 c.m.e1.e0 c.m.e2.e0 / 256,dot a.m.e0 c.m.e0.e1 c.m.e1.e1 c.m.e2.e1 / 256,dot a.m.e0 c.m.e0.e2 c.m.e1.e2 c.m.e2.e2 / 256⟩,
  ⟨dot a.m.e1 c.m.e0.e0 c.m.e1.e0 c.m.e2.e0 / 256,dot a.m.e1 c.m.e0.e1 c.m.e1.e1 c.m.e2.e1 / 256,dot a.m.e1 c.m.e0.e2 c.m.e1.e2 c.m.e2.e2 / 256⟩,
  ⟨dot a.m.e2 c.m.e0.e0 c.m.e1.e0 c.m.e2.e0 / 256,dot a.m.e2 c.m.e0.e1 c.m.e1.e1 c.m.e2.e1 / 256,dot a.m.e2 c.m.e0.e2 c.m.e1.e2 c.m.e2.e2 / 256⟩⟩,
  ⟨dot a.m.e0 c.t.x c.t.y c.t.z / 256+a.t.x,dot a.m.e1 c.t.x c.t.y c.t.z / 256+a.t.y,dot a.m.e2 c.t.x c.t.y c.t.z / 256+a.t.z⟩⟩
def Hu:b.fT:=⟨⟨⟨0,0,0⟩,⟨0,0,0⟩,⟨0,0,0⟩⟩,⟨0,0,0⟩⟩
open Classical in
noncomputable def uC (a c:b.fT):b.fT×Int:=if Fq a/\Fq c/\Fq (mul a c) then (mul a c,0) else (Hu,20)
theorem apV {c:b.fT} (h:Fq c):(∀ r,QJ r->True)/\(ru c.m.e0.e0 4096/\ru c.m.e1.e0 4096/\ru c.m.e2.e0 4096)/\(ru c.m.e0.e1 4096/\ru c.m.e1.e1 4096/\ru c.m.e2.e1 4096)/\(ru c.m.e0.e2 4096/\ru c.m.e1.e2 4096/\ru c.m.e2.e2 4096):=by
 obtain ⟨⟨⟨a1,a2,a3⟩,⟨a4,a5,a6⟩,⟨a7,a8,a9⟩⟩,_⟩:=h;exact ⟨fun _ _=>trivial,⟨Om a1,Om a4,Om a7⟩,⟨Om a2,Om a5,Om a8⟩,⟨Om a3,Om a6,Om a9⟩⟩
theorem acB (a c:b.fT):b.CB a c=some (uC a c):=by
 unfold b.CB b.FU b.Oh b.Oi;obtain ⟨e,h1,h2⟩:=zq a;rw [h1];rcases h2 with ⟨rfl,ha⟩ | ⟨rfl,ha⟩
 ·obtain ⟨e,h3,h4⟩:=zq c
  rw [h3];rcases h4 with ⟨rfl,hc⟩ | ⟨rfl,hc⟩
  ·obtain ⟨_,c1,c2,c3⟩:=apV hc
   unfold b.D9 b.rm b.rp b.rq b.Ij b.D9 b.rm b.rp b.rq;rw [Zt a c.t ha hc.2,Oj a.m ⟨c.m.e0.e0,c.m.e1.e0,c.m.e2.e0⟩ ha.1 c1.1 c1.2.1 c1.2.2,Oj a.m ⟨c.m.e0.e1,c.m.e1.e1,c.m.e2.e1⟩ ha.1 c2.1 c2.2.1 c2.2.2,Oj a.m ⟨c.m.e0.e2,c.m.e1.e2,c.m.e2.e2⟩ ha.1 c3.1 c3.2.1 c3.2.2];simp only [fj,dI,aj];obtain ⟨e,h5,h6⟩:=zq (mul a c);have h5':=h5;unfold mul at h5';rw [h5'];rcases h6 with ⟨rfl,hm⟩ | ⟨rfl,hm⟩
   ·unfold uC
    rw [aD ⟨ha,hc,hm⟩];rfl
   ·unfold uC
    rw [aa fun k=>hm k.2.2];rfl
  ·unfold uC
   rw [aa fun k=>hc k.2.1];rfl
 ·unfold uC
  rw [aa fun k=>ha k.1];rfl
def J0:b.fe:=⟨0,0,0⟩
def akM:Sl Int:=⟨0,fun _=>0⟩
def aaq (s:b.aA) (n:b.Node):Prop:=(1<=n.kind/\n.kind<=5)/\M1 n.bH/\(n.bH.cl.e1=0\/n.bH.look.dL < (s.j8.n:Int))/\(n.kind=2->Fq n.mP)/\(n.kind≠2->n.mP=Hu)/\(n.kind≠3->n.rf=0)/\(n.kind=4->rY n.eR 4096/\aje n.fw)/\(n.kind≠4->n.eR=J0/\n.fw.n=0)/\(n.kind=5->0<=n.fA/\n.fA < (s.eo.n:Int))/\(n.kind≠5->n.fA=0)
theorem aek {c:Bool} {p:Prop} (h:c=true↔p):(!c)=true↔¬ p:=by
 cases c <;> simp at h ⊢ <;> exact h
theorem apj {c d:Bool} {p q:Prop} (h:c=true↔p) (k:d=true↔q):(c&&d)=true↔p/\q:=by
 rw [ao,h,k]
theorem orI {c d:Bool} {p q:Prop} (h:c=true↔p) (k:d=true↔q):(c||d)=true↔p\/q:=by
 rw [ve,h,k]
theorem Wq {p:Prop} [Decidable p] : decide p=true↔p:=decide_eq_true_iff
theorem Er {x y:Int} : (x==y)=true↔x=y:=vf
theorem neI {x y:Int} : (x != y)=true↔x≠y:=bne_iff_ne
def acC (n:b.Node):Prop:=(1<=n.kind/\n.kind<=5)/\(n.kind=2->Fq n.mP)/\(n.kind=4->rY n.eR 4096/\aje n.fw)
open Classical in
theorem ahG (n:b.Node) (hn:n.fw.n < 1000000):∃ ok,b.yl n=some (⟨n.kind,if n.kind=2 then n.mP else Hu,if n.kind=3 then n.rf else 0,if n.kind=4 then n.eR else J0,if n.kind=4 then n.fw else akM,if n.kind=5 then n.fA else 0,n.bH⟩,ok)/\(ok=true↔acC n):=by
 unfold b.yl b.GY b.GZ b.G0;obtain ⟨e1,q1,i1⟩:=zq n.mP;have q2:=Gi n.eR;obtain ⟨r3,q3,i3⟩:=alL n.fw hn;simp only [q1,q2,q3,fj,dI,aj];obtain ⟨k,m,o,c,f,x,st⟩:=n
 dsimp only at *
 unfold acC
 dsimp only
 by_cases h1:k=1
 ·subst h1
  exact ⟨true,rfl,by simp⟩
 have g1:(k==(1:Int))=false:=by rw [<- Bool.not_eq_true,Er]; exact h1
 rw [g1,aH];by_cases h2:k=2
 ·subst h2
  refine ⟨_,rfl,?_⟩;rw [Er];rcases i1 with ⟨a,c⟩ | ⟨a,c⟩ <;> simp [a,c]
 have g2:(k==(2:Int))=false:=by rw [<- Bool.not_eq_true,Er]; exact h2
 rw [g2,aH];by_cases h3:k=3
 ·subst h3
  exact ⟨true,rfl,by simp⟩
 have g3:(k==(3:Int))=false:=by rw [<- Bool.not_eq_true,Er]; exact h3
 rw [g3,aH];by_cases h4:k=4
 ·subst h4
  by_cases hv:rY c 4096
  ·rw [aD hv]
   exact ⟨r3,rfl,i3.trans (by simp [hv])⟩
  ·rw [aa hv]
   exact ⟨false,rfl,by simp [hv]⟩
 have g4:(k==(4:Int))=false:=by rw [<- Bool.not_eq_true,Er]; exact h4
 rw [g4,aH];by_cases h5:k=5
 ·subst h5
  exact ⟨true,rfl,by simp⟩
 have g5:(k==(5:Int))=false:=by rw [<- Bool.not_eq_true,Er]; exact h5
 rw [g5,aH,aa h2,aa h3,aa h4,aa h4,aa h5];exact ⟨false,rfl,by simp; omega⟩
theorem G6 {p:Prop} {c:Bool} {x:Option Int} {Q:Prop} (hc:c=true↔p) (h1:p->¬ Q) (h2 : ¬ p->∃ e,x=some e/\(e=0/\Q\/e=8/\¬ Q)):∃ e,cond c (some 8) x=some e/\(e=0/\Q\/e=8/\¬ Q):=by
 cases c with
 | true=>exact ⟨8,rfl,.inr ⟨rfl,h1 (hc.1 rfl)⟩⟩
 | false=>exact h2 fun q=>by have:=hc.2 q; simp at this
theorem ajf (s:b.aA) (n:b.Node) (hs:RH n.bH) (hn:n.fw.n < 1000000):∃ e,b.pr s n=some e/\(e=0/\aaq s n\/e=8/\¬ aaq s n):=by
 unfold b.pr b.ux b.AX b.vp b.AY;obtain ⟨ok,q1,i1⟩:=ahG n hn;simp only [q1,fj,dI,aj];obtain ⟨r2,q2,i2⟩:=acA ⟨n.kind,if n.kind=2 then n.mP else Hu,if n.kind=3 then n.rf else 0,if n.kind=4 then n.eR else J0,if n.kind=4 then n.fw else akM,if n.kind=5 then n.fA else 0,n.bH⟩ n (by
  by_cases h:n.kind=4
  ·simp only [aD h]; exact hn
  ·simp only [aa h]; exact (by decide:(0:Nat) < 1000000))
 obtain ⟨e3,q3,i3⟩:=Zs n.bH;simp only [q2,q3,fj,dI,aj,cc2,cc];have apk:0<=n.bH.cl.e1:=hs.2.1.1;have i2' : r2=true↔(n.kind≠2->n.mP=Hu)/\(n.kind≠3->n.rf=0)/\(n.kind≠4->n.eR=J0/\n.fw.n=0)/\(n.kind≠5->n.fA=0):=by
  rw [i2];unfold Yb
  dsimp only
  constructor
  ·rintro ⟨_,a2,a3,a4,a5,a6,_⟩
   refine ⟨fun h=>?_,fun h=>?_,fun h=>⟨?_,?_⟩,fun h=>?_⟩
   ·rw [aa h] at a2; exact a2.symm
   ·rw [aa h] at a3; exact a3.symm
   ·rw [aa h] at a4; exact a4.symm
   ·rw [aa h] at a5; exact a5.1.symm
   ·rw [aa h] at a6; exact a6.symm
  ·rintro ⟨a1,a2,a3,a4⟩
   refine ⟨rfl,?_,?_,?_,?_,?_,rfl⟩
   ·by_cases h:n.kind=2
    ·rw [aD h]
    ·rw [aa h]; exact (a1 h).symm
   ·by_cases h:n.kind=3
    ·rw [aD h]
    ·rw [aa h]; exact (a2 h).symm
   ·by_cases h:n.kind=4
    ·rw [aD h]
    ·rw [aa h]; exact (a3 h).1.symm
   ·by_cases h:n.kind=4
    ·rw [aD h]; exact acz.refl _
    ·rw [aa h]; exact ⟨(a3 h).2.symm,fun i hi=>absurd hi (ph i)⟩
   ·by_cases h:n.kind=5
    ·rw [aD h]
    ·rw [aa h]; exact (a4 h).symm
 refine G6 (aek i1) (fun h k=>h ⟨k.1,k.2.2.2.1,k.2.2.2.2.2.2.1⟩) fun k1=>?_;refine G6 (aek i2') (fun h k=>h ⟨k.2.2.2.2.1,k.2.2.2.2.2.1,k.2.2.2.2.2.2.2.1,k.2.2.2.2.2.2.2.2.2⟩) fun k2=>?_;refine G6 neI (fun h k=>by
  rcases i3 with g | g
  ·exact h g.1
  ·exact g.2 k.2.1) fun k3=>?_
 have c1:acC n:=Classical.byContradiction k1;have c2:=Classical.byContradiction k2;have c3:M1 n.bH:=by
  rcases i3 with g | g
  ·exact g.2
  ·exact absurd (fun h=>by rw [g.1] at h; simp at h) k3
 refine G6 (apj Er (orI Wq Wq)) (fun h k=>by have:=k.2.2.2.2.2.2.2.2.1 h.1; omega) fun k4=>?_;refine G6 (apj neI Wq) (fun h k=>by rcases k.2.2.1 with g | g <;> omega) fun k5=>?_;exact ⟨0,rfl,.inl ⟨rfl,c1.1,c3,by omega,c1.2.1,c2.1,c2.2.1,c1.2.2,c2.2.2.1,fun h=>by omega,c2.2.2.2⟩⟩
end Go.Proofs.Ytckbdndhmcoihaa.sc
end
section
namespace Go.Proofs.Ytckbdndhmcoihaa.nodes
open Go Go.K
def afE (s:b.Slot):Prop:=1<=s.gen/\s.gen<=1073741824
structure Gj (a:b.j4):Prop where
 Yd:a.cL.n<=128
 apl:∀ i,i < a.cL.n->afE (a.cL.get i)
theorem QL (a:b.j4):∃ n,b.dU a=some n/\(n=0/\Gj a\/n=8/\¬ Gj a):=by
 unfold b.dU;by_cases h:((a.cL.n:Nat):Int) > 128
 ·rw [au h,aj]
  exact ⟨8,rfl,.inr ⟨rfl,fun k=>by have:=k.Yd; omega⟩⟩
 ·rw [aZ h,aH]
  obtain ⟨e,x',h1,h2⟩:∃ e x',b.vR a = .out e x'/\((e = .exit 0/\∀ i,i < a.cL.n->afE (a.cL.get i))\/(e = .ret/\0<=x'.t4/\¬ Gj a)):=by
   unfold b.vR;refine ja (X:=b.cf) (fun j x=>x.s=a.cL/\x.t7=(a.cL.n:Int)/\x.t8=(j:Int)/\∀ i,i < j->afE (a.cL.get i)) (fun e x'=>(e = .exit 0/\∀ i,i < a.cL.n->afE (a.cL.get i))\/(e = .ret/\0<=x'.t4/\¬ Gj a)) a.cL.n (by unfold gx; omega) ?_ ⟨rfl,rfl,rfl,fun i hi=>absurd hi (ph _)⟩;rintro j ⟨s,t4,t7,t8⟩ hj ⟨rfl,rfl,rfl,cI⟩;unfold b.dy
   dsimp only
   by_cases bm:(j:Int) < (a.cL.n:Int)
   ·have h0:(0:Int)<=(j:Int):=by omega
    rw [au bm,au h0,aj,Fv,aj];have ej:Int.toNat (j:Int)=j:=rfl;rw [ej];by_cases g1:(a.cL.get j).gen < 1
    ·rw [au g1,aj]
     exact .inr ⟨_,_,rfl,rfl,.inr ⟨rfl,h0,fun k=>by have:=(k.apl j (by omega)).1; omega⟩⟩
    ·rw [aZ g1,aH]
     by_cases g2:(a.cL.get j).gen > 1073741824
     ·rw [au g2,aj]
      exact .inr ⟨_,_,rfl,rfl,.inr ⟨rfl,h0,fun k=>by have:=(k.apl j (by omega)).2; omega⟩⟩
     ·rw [aZ g2,aH]
      refine .inl ⟨_,rfl,by omega,rfl,rfl,?_,fun i hi=>?_⟩
      ·show aK ((j:Int)+1)=_
       rw [cM (by omega) (by omega)];omega
      ·by_cases e:i=j
       ·subst e; exact ⟨by omega,by omega⟩
       ·exact cI i (by omega)
   ·rw [aZ bm,aH]
    exact .inr ⟨_,_,rfl,rfl,.inl ⟨rfl,fun i hi=>cI i (by omega)⟩⟩
  rw [h1];rcases h2 with ⟨rfl,h2⟩ | ⟨rfl,h2,h3⟩
  ·exact ⟨0,rfl,.inl ⟨rfl,by omega,h2⟩⟩
  ·refine ⟨8,?_,.inr ⟨rfl,h3⟩⟩
   show cond false _ (cond true (cond (decide (x'.t4 >= 0)) _ _) _)=_;rw [au (show x'.t4 >= 0 from h2)];rfl
def mf (a:b.j4) (h:b.Handle):Prop:=0<=h.slot/\h.slot < (a.cL.n:Int)/\(a.cL.get h.slot.toNat).gen=h.gen/\(a.cL.get h.slot.toNat).live=true
theorem ajg (a:b.j4) (h:b.Handle):∃ r,b.ml a h=some r/\(r=true↔mf a h):=by
 unfold b.ml mf;by_cases h1:h.slot >= 0
 ·by_cases h2:h.slot < (a.cL.n:Int)
  ·rw [au h1,au h2,aj,aj]
   refine ⟨_,rfl,?_⟩;simp only [ao,vf,Fv];exact ⟨fun k=>⟨h1,h2,k.1,k.2⟩,fun k=>⟨k.2.2.1,k.2.2.2⟩⟩
  ·rw [au h1,aZ h2,aj,aH]
   exact ⟨false,rfl,⟨fun k=>by simp at k,fun k=>absurd k.2.1 h2⟩⟩
 ·rw [aZ h1,aH]
  exact ⟨false,rfl,⟨fun k=>by simp at k,fun k=>absurd k.1 h1⟩⟩
theorem Lc (a:b.j4) (h:b.Handle):∃ r,b.dz a h=some r/\(r=true↔Gj a/\mf a h):=by
 obtain ⟨n,hn,hs⟩:=QL a;obtain ⟨r,hr,hh⟩:=ajg a h;unfold b.dz b.vS b.vT;rw [hn,hr];rcases hs with ⟨rfl,ha⟩ | ⟨rfl,ha⟩
 ·exact ⟨r,rfl,hh.trans ⟨fun k=>⟨ha,k⟩,fun k=>k.2⟩⟩
 ·exact ⟨false,rfl,⟨fun k=>by simp at k,fun k=>absurd k.1 ha⟩⟩
def ahH (g:b.fF) (i:Nat):Prop:=(g.kids.get i).n<=16/\(0 < (g.kids.get i).n->(g.cA.cL.get i).live=true)/\∀ k,k < (g.kids.get i).n->mf g.cA ((g.kids.get i).get k)
theorem akN {g:b.fF} (ha:Gj g.cA) (i:Nat):sv g i↔ahH g i:=by
 have key:∀ h,b.dz g.cA h=some true↔mf g.cA h:=fun h=>by
  obtain ⟨r,hr,hh⟩:=Lc g.cA h;rw [hr,bQ,hh];exact ⟨fun k=>k.2,fun k=>⟨ha,k⟩⟩
 exact ⟨fun h=>⟨h.1,h.2.1,fun k hk=>(key _).1 (h.2.2 k hk)⟩,fun h=>⟨h.1,h.2.1,fun k hk=>(key _).2 (h.2.2 k hk)⟩⟩
theorem IE (g:b.fF):qQ g↔Gj g.cA/\g.kids.n=g.cA.cL.n/\(∀ i,i < g.kids.n->ahH g i)/\∀ i,i < g.kids.n->Hn g i:=by
 obtain ⟨n,hn,hs⟩:=QL g.cA;constructor
 ·intro h
  rcases hs with ⟨rfl,ha⟩ | ⟨rfl,ha⟩
  ·exact ⟨ha,h.len,fun i hi=>(akN ha i).1 (h.row i hi),h.free⟩
  ·have:=h.cL
   rw [hn] at this;simp at this
 ·rintro ⟨ha,hl,hr,hf⟩
  rcases hs with ⟨rfl,_⟩ | ⟨rfl,hb⟩
  ·exact ⟨hn,hl,fun i hi=>(akN ha i).2 (hr i hi),hf⟩
  ·exact absurd ha hb
end Go.Proofs.Ytckbdndhmcoihaa.nodes
end
section
namespace Go.A6
theorem akO:∀ (n:Nat) (g:Nat->Nat),(∀ j,j<=n->g j < n)->∃ i j,i < j/\j<=n/\g i=g j
 | 0,g,h=>absurd (h 0 (aC 0)) (ph _)
 | n+1,g,h=>by
  by_cases he:∃ i,i<=n/\g i=g (n+1)
  ·obtain ⟨i,hi,e⟩:=he
   exact ⟨i,n+1,by omega,aC _,e⟩
  ·have cD:∀ i,i<=n->g i≠g (n+1):=fun i hi e=>he ⟨i,hi,e⟩
   have hl:=h (n+1) (aC _);obtain ⟨i,j,h1,h2,h3⟩:=akO n (fun j=>if g j=n then g (n+1) else g j) fun j hj=>by
    have h1:=h j (by omega);have h2:=cD j hj;show (if g j=n then g (n+1) else g j) < n;split <;> omega
   refine ⟨i,j,h1,by omega,?_⟩;have hi:=cD i (by omega);have hj:=cD j h2;have h3:(if g i=n then g (n+1) else g i)=if g j=n then g (n+1) else g j:=h3;split at h3 <;> split at h3 <;> omega
section
variable (n:Nat) (mQ:Nat->Nat) (c:Nat->Nat->Nat)
inductive Below (to:Nat):Nat->Prop where
 | here:Below to to
 | dW (i k:Nat) (hk:k < mQ i) (r:Below to (c i k)):Below to i
def Hn:Prop:=∀ i,i < n->∀ k,k < mQ i->¬ Below mQ c i (c i k)
variable {n mQ c}
end
end Go.A6
end
section
namespace Go.Proofs.Ytckbdndhmcoihaa.nodes
open Go Go.K Go.A6
def dg (g:b.fF) (i:Nat):Nat:=(g.kids.get i).n
def ch (g:b.fF) (i k:Nat):Nat:=((g.kids.get i).get k).slot.toNat
structure Fit (g:b.fF):Prop where
 small:g.kids.n < 1000000
 Yd:∀ i,i < g.kids.n->dg g i < 1000000
 inr:∀ i,i < g.kids.n->∀ k,k < dg g i->0<=((g.kids.get i).get k).slot/\((g.kids.get i).get k).slot < (g.kids.n:Int)
theorem alN {g:b.fF} {i:Nat} {x:Int×Int} (h:Reach (qOf g) ((i:Int),(g.cA.cL.get i).gen) x):A6.Below (dg g) (ch g) i x.1.toNat:=by
 induction h with
 | here=>exact .here
 | dW h k hk _ ih=>exact .dW h.1.toNat k hk ih
theorem alO {g:b.fF} (hr:∀ i,i < g.kids.n->ahH g i) (hlen:g.kids.n=g.cA.cL.n) {i j:Nat} (h:A6.Below (dg g) (ch g) i j):∀ x:b.Handle,x.slot.toNat=j->mf g.cA x->Reach (qOf g) ((i:Int),(g.cA.cL.get i).gen) (hp x):=by
 induction h with
 | here=>
  rintro ⟨s,gn⟩ e ⟨h1,h2,h3,_⟩;have h1:0<=s:=h1;have e:s.toNat=i:=e;have h3:(g.cA.cL.get s.toNat).gen=gn:=h3;have:hp ⟨s,gn⟩=((i:Int),(g.cA.cL.get i).gen):=by
   show (s,gn)=_;rw [<- h3,e];congr 1;omega
  rw [this];exact .here
 | dW j k hk _ ih=>
  rintro x e ⟨h1,h2,_,_⟩;subst e;have hj:x.slot.toNat < g.kids.n:=by omega
  exact .dW (q:=qOf g) (hp x) k hk (ih ((g.kids.get x.slot.toNat).get k) rfl ((hr _ hj).2.2 k hk))
theorem alP {g:b.fF} (hr:∀ i,i < g.kids.n->ahH g i) (hlen:g.kids.n=g.cA.cL.n):(∀ i,i < g.kids.n->nodes.Hn g i)↔A6.Hn g.kids.n (dg g) (ch g):=
 ⟨fun h i hi k hk hb=>h i hi k hk (alO hr hlen hb _ rfl ((hr i hi).2.2 k hk)),fun h i hi k hk hb=>h i hi k hk (alN hb)⟩
theorem aow {g:b.fF} (ha:Gj g.cA) (hlen:g.kids.n=g.cA.cL.n) (hr:∀ i,i < g.kids.n->ahH g i):Fit g:=by
 have:=ha.Yd;exact ⟨by omega,fun i hi=>by have:=(hr i hi).1; unfold dg; omega,fun i hi k hk=>by have:=(hr i hi).2.2 k hk; exact ⟨this.1,by rw [hlen]; exact this.2.1⟩⟩
open Classical in
theorem ahI (g:b.fF):Gc g=some (if qQ g then 0 else 8):=by
 obtain ⟨n,hn,_⟩:=QL g.cA;unfold Gc;rw [hn];rfl
end Go.Proofs.Ytckbdndhmcoihaa.nodes
end
section
namespace Go.Proofs.Ytckbdndhmcoihaa.sc
open Go Go.K Go.Proofs.Ytckbdndhmcoihaa.nodes
theorem SR (m:b.gE):QK m=0↔Il m:=by
 unfold QK;by_cases h:afC m
 ·rw [aD h]
  by_cases k:Il m
  ·rw [aD k]; exact ⟨fun _=>k,fun _=>rfl⟩
  ·rw [aa k]; exact ⟨fun q=>by simp at q,fun q=>absurd q k⟩
 ·rw [aa h]; exact ⟨fun q=>by simp at q,fun q=>absurd q.1 h⟩
def afF:b.Node:=⟨0,Hu,0,J0,akM,0,⟨⟨0,0,0,0,0⟩,⟨⟨0,0,0,0⟩,0,0,0,false,0⟩⟩⟩
def CE:b.Handle:=⟨0,0⟩
def Wr (s:b.aA) (i:Nat):Prop:=((s.graph.cA.cL.get i).live=true->aaq s (s.nodes.get i))/\((s.graph.cA.cL.get i).live=false->Yb (s.nodes.get i) afF)/\((s.nodes.get i).kind=5->(s.graph.kids.get i).n=0)
def alQ (s:b.aA):Prop:=s.eo.n<=32/\s.j8.n<=16/\(∀ i,i < s.eo.n->Il (s.eo.get i))/\∀ i,i < s.j8.n->Uu (s.j8.get i)
def om (s:b.aA):Prop:=qQ s.graph/\s.nodes.n=s.graph.kids.n/\alQ s/\(∀ i,i < s.nodes.n->Wr s i)/\(s.root=CE\/mf s.graph.cA s.root)
def zr (s:b.aA):Prop:=(∀ i,i < s.nodes.n->RH (s.nodes.get i).bH/\(s.nodes.get i).fw.n < 1000000)/\(∀ i,i < s.eo.n->JZ (s.eo.get i))/\s.graph.cA.cL.n < 1000000/\s.nodes.n < 1000000/\s.eo.n < 1000000/\s.j8.n < 1000000
theorem afG (s:Sl b.gE) (hs:s.n<=1000) (hk:∀ i,i < s.n->JZ (s.get i)):(∃ x',goN b.bL (⟨s,(0:Int),((s.n:Nat):Int),(0:Int)⟩:b.bD) = .out (.exit 0) x'/\∀ i,i < s.n->Il (s.get i))\/
  ∃ x',goN b.bL (⟨s,(0:Int),((s.n:Nat):Int),(0:Int)⟩:b.bD) = .out .ret x'/\x'.t4 >= 0/\∃ i,i < s.n/\¬ Il (s.get i):=by
 have key:=mN (step:=b.bL) s.n (by unfold gx; omega) (fun j=>⟨s,(0:Int),((s.n:Nat):Int),(j:Int)⟩) (fun k=>Il (s.get k)) (e0:=.exit 0) (er:=.ret) rfl rfl (fun x'=>x'.t4 >= 0) (xe:=⟨s,(0:Int),((s.n:Nat):Int),((s.n:Nat):Int)⟩) (fun j hj=>by
  have e1:aK ((j:Int)+1)=((j+1:Nat):Int):=by rw [cM (by omega) (by omega)]; omega
  have d1:decide ((j:Int) < ((s.n:Nat):Int))=true:=au (by omega);have d2:decide ((0:Int)<=(j:Int))=true:=au (by omega);have ej:Int.toNat (j:Int)=j:=rfl;unfold b.bL b.iW
  dsimp only
  have Km:(j:Int) >= 0:=by omega
  rw [d1,d2,ej,e1,acx _ (hk j hj)];simp only [cz,aj,fj,dI];rw [<- SR];by_cases h:QK (s.get j)=0
  ·rw [bne_eq_false_iff_eq.2 h]
   exact ⟨fun _=>rfl,fun k=>absurd h k⟩
  ·rw [bne_iff_ne.2 h]
   exact ⟨fun k=>absurd k h,fun _=>⟨_,rfl,Km⟩⟩) (by
  unfold b.bL
  dsimp only
  rw [aZ (Int.lt_irrefl _)];rfl)
 rcases key with ⟨h1,h2⟩ | ⟨x',h1,h2,h3⟩
 ·exact .inl ⟨_,h1,h2⟩
 ·exact .inr ⟨x',h1,h2,h3⟩
theorem ajh (s:Sl b.gX) (hs:s.n<=1000):(∃ x',goN b.bM (⟨s,(0:Int),((s.n:Nat):Int),(0:Int)⟩:b.bF) = .out (.exit 0) x'/\∀ i,i < s.n->Uu (s.get i))\/
  ∃ x',goN b.bM (⟨s,(0:Int),((s.n:Nat):Int),(0:Int)⟩:b.bF) = .out .ret x'/\x'.t4 >= 0/\∃ i,i < s.n/\¬ Uu (s.get i):=by
 have key:=mN (step:=b.bM) s.n (by unfold gx; omega) (fun j=>⟨s,(0:Int),((s.n:Nat):Int),(j:Int)⟩) (fun k=>Uu (s.get k)) (e0:=.exit 0) (er:=.ret) rfl rfl (fun x'=>x'.t4 >= 0) (xe:=⟨s,(0:Int),((s.n:Nat):Int),((s.n:Nat):Int)⟩) (fun j hj=>by
  have e1:aK ((j:Int)+1)=((j+1:Nat):Int):=by rw [cM (by omega) (by omega)]; omega
  have d1:decide ((j:Int) < ((s.n:Nat):Int))=true:=au (by omega);have d2:decide ((0:Int)<=(j:Int))=true:=au (by omega);have ej:Int.toNat (j:Int)=j:=rfl;unfold b.bM b.iX
  dsimp only
  have Km:(j:Int) >= 0:=by omega
  obtain ⟨e,q1,q2⟩:=alI (s.get j);rw [d1,d2,ej,e1,q1];simp only [cz,aj,fj,dI];rcases q2 with ⟨h,k⟩ | ⟨h,k⟩
  ·rw [h]
   exact ⟨fun _=>rfl,fun g=>absurd k g⟩
  ·rw [h]
   exact ⟨fun g=>absurd g k,fun _=>⟨_,rfl,Km⟩⟩) (by
  unfold b.bM
  dsimp only
  rw [aZ (Int.lt_irrefl _)];rfl)
 rcases key with ⟨h1,h2⟩ | ⟨x',h1,h2,h3⟩
 ·exact .inl ⟨_,h1,h2⟩
 ·exact .inr ⟨x',h1,h2,h3⟩
theorem ahJ (s:b.aA) (rS:zr s) (hlen:s.nodes.n=s.graph.kids.n) (hg:s.graph.kids.n=s.graph.cA.cL.n):(goN b.gh (⟨0,s.nodes,((s.nodes.n:Nat):Int),(0:Int),s⟩:b.eT) = .out (.exit 0) ⟨0,s.nodes,((s.nodes.n:Nat):Int),((s.nodes.n:Nat):Int),s⟩/\∀ i,i < s.nodes.n->Wr s i)\/
  ∃ x',goN b.gh (⟨0,s.nodes,((s.nodes.n:Nat):Int),(0:Int),s⟩:b.eT) = .out .ret x'/\x'.t2=8/\∃ i,i < s.nodes.n/\¬ Wr s i:=by
 have hn:=rS.2.2.2.1;exact mN (step:=b.gh) s.nodes.n (by unfold gx; omega) (fun j=>⟨0,s.nodes,((s.nodes.n:Nat):Int),(j:Int),s⟩) (fun k=>Wr s k) (e0:=.exit 0) (er:=.ret) rfl rfl (fun x'=>x'.t2=8) (xe:=⟨0,s.nodes,((s.nodes.n:Nat):Int),((s.nodes.n:Nat):Int),s⟩) (fun j hj=>by
  have e1:aK ((j:Int)+1)=((j+1:Nat):Int):=by rw [cM (by omega) (by omega)]; omega
  have d1:decide ((j:Int) < ((s.nodes.n:Nat):Int))=true:=au (by omega);have d2:decide ((0:Int)<=(j:Int))=true:=au (by omega);have d3:decide ((j:Int) < ((s.graph.cA.cL.n:Nat):Int))=true:=au (by omega);have d4:decide ((j:Int) < ((s.graph.kids.n:Nat):Int))=true:=au (by omega);have ej:Int.toNat (j:Int)=j:=rfl;obtain ⟨apk,Sg⟩:=rS.1 j hj;unfold b.gh b.lZ b.AZ b.A5
  dsimp only
  rw [ej];obtain ⟨r,q1,q2⟩:=acA (s.nodes.get j) afF Sg;obtain ⟨e,g1,g2⟩:=ajf s (s.nodes.get j) apk Sg;unfold afF Hu J0 akM at q1;rw [d1,d2,d3,d4,e1,q1,g1];unfold Wr;cases hl:(s.graph.cA.cL.get j).live with
  | false=>
   simp only [cz,aj,aH,fj,dI,HO,Bool.not_true];cases r with
   | true=>
    have hz:=q2.1 rfl;have h0:(s.nodes.get j).kind=0:=hz.1;exact ⟨fun _=>rfl,fun k=>absurd ⟨fun h=>by simp at h,fun _=>hz,fun h=>by omega⟩ k⟩
   | false=>exact ⟨fun k=>by have:=q2.2 (k.2.1 trivial); simp at this,fun _=>⟨_,rfl,rfl⟩⟩
  | true=>
   simp only [cz,aj,aH,fj,dI,HO,Bool.not_true];rcases g2 with ⟨g3,g4⟩ | ⟨g3,g4⟩
   ·rw [g3]
    have:((0:Int) != 0)=false:=rfl;rw [this,aH];by_cases h5:(s.nodes.get j).kind=5
    ·rw [vf.2 h5,aj]
     by_cases hk:(((s.graph.kids.get j).n:Nat):Int) > 0
     ·rw [au hk]
      exact ⟨fun k=>absurd (k.2.2 h5) (by omega),fun _=>⟨_,rfl,rfl⟩⟩
     ·rw [aZ hk]
      exact ⟨fun _=>rfl,fun k=>absurd ⟨fun _=>g4,fun h=>by simp at h,fun _=>by omega⟩ k⟩
    ·have:((s.nodes.get j).kind==(5:Int))=false:=by rw [<- Bool.not_eq_true,Er]; exact h5
     rw [this,aH];exact ⟨fun _=>rfl,fun k=>absurd ⟨fun _=>g4,fun h=>by simp at h,fun h=>absurd h h5⟩ k⟩
   ·rw [g3]
    exact ⟨fun k=>absurd (k.1 trivial) g4,fun _=>⟨_,rfl,rfl⟩⟩) (by
  unfold b.gh b.lZ
  dsimp only
  rw [aZ (Int.lt_irrefl _)];rfl)
theorem aji (h:b.Handle):((h.slot==(0:Int))&&((h.gen==(0:Int))&&true))=true↔h=CE:=by
 obtain ⟨x,y⟩:=h;unfold CE;simp
theorem ajj {s:b.aA} (hg:qQ s.graph) (h:b.Handle):b.dz s.graph.cA h=some (decide (b.dz s.graph.cA h=some true))/\(b.dz s.graph.cA h=some true↔mf s.graph.cA h):=by
 obtain ⟨r,q1,q2⟩:=Lc s.graph.cA h;have ha:=((IE s.graph).1 hg).1;rw [q1];cases r with
 | true=>exact ⟨rfl,fun _=>(q2.1 rfl).2,fun _=>rfl⟩
 | false=>exact ⟨rfl,fun k=>by simp at k,fun k=>by have:=q2.2 ⟨ha,k⟩; simp at this⟩
open Classical in
theorem Uw (s:b.aA) (rS:zr s):∃ e,b.oT s=some e/\(e=0/\om s\/e=8/\¬ om s):=by
 unfold b.oT b.Au b.Ar b.G1 b.G2;have hq:b.JB s.graph=some (if qQ s.graph then 0 else 8):=ahI s.graph;rw [hq];simp only [fj,dI,aj];by_cases hg:qQ s.graph
 ·rw [aD hg]
  have hlen:=((IE s.graph).1 hg).2.1;refine G6 neI (fun h=>absurd rfl h) fun _=>?_;refine G6 neI (fun h k=>h (by rw [k.2.1])) fun k1=>?_;refine G6 Wq (fun h k=>by have:=k.2.2.1.1; omega) fun k2=>?_;unfold b.Ca;rcases afG s.eo (by omega) rS.2.1 with ⟨x',q1,q2⟩ | ⟨x',q1,q2,i,q3,q4⟩
  ·rw [q1]
   simp only [aW.sh,aW.lF];have ex:zS (.exit 0) (.exit 0)=true:=rfl;rw [ex,aj];refine G6 Wq (fun h k=>by have:=k.2.2.1.2.1; omega) fun k3=>?_;unfold b.Cb;rcases ajh s.j8 (by omega) with ⟨y',r1,r2⟩ | ⟨y',r1,r2,i,r3,r4⟩
   ·rw [r1]
    simp only [aW.sh,aW.lF];rw [ex,aj];unfold b.nS;rcases ahJ s rS (by omega) hlen with ⟨s1,s2⟩ | ⟨z',s1,s2,i,s3,s4⟩
    ·rw [s1]
     simp only [aW.sh,aW.lF];rw [ex,aj];obtain ⟨t1,t2⟩:=ajj hg s.root;by_cases hr:s.root=CE
     ·rw [(aek (aji s.root) |> fun h=>by rw [<- Bool.not_eq_true,h]; exact fun k=>k hr:(!((s.root.slot==(0:Int))&&((s.root.gen==(0:Int))&&true)))=false)]
      exact ⟨0,rfl,.inl ⟨rfl,hg,by omega,⟨by omega,by omega,q2,r2⟩,s2,.inl hr⟩⟩
     ·rw [(aek (aji s.root)).2 hr]
      rw [t1];simp only [fj,dI,aj];refine G6 (aek Wq) (fun h k=>by
       rcases k.2.2.2.2 with g | g
       ·exact hr g
       ·exact h (t2.2 g)) fun k5=>?_
      exact ⟨0,rfl,.inl ⟨rfl,hg,by omega,⟨by omega,by omega,q2,r2⟩,s2,.inr (t2.1 (Classical.byContradiction k5))⟩⟩
    ·rw [s1]
     exact ⟨z'.t2,rfl,.inr ⟨s2,fun k=>s4 (k.2.2.2.1 i s3)⟩⟩
   ·rw [r1]
    simp only [aW.sh,aW.lF,r2,decide_true];exact ⟨8,rfl,.inr ⟨rfl,fun k=>r4 (k.2.2.1.2.2.2 i r3)⟩⟩
  ·rw [q1]
   simp only [aW.sh,aW.lF,q2,decide_true];exact ⟨8,rfl,.inr ⟨rfl,fun k=>q4 (k.2.2.1.2.2.1 i q3)⟩⟩
 ·rw [aa hg]
  exact ⟨8,rfl,.inr ⟨rfl,fun k=>hg k.1⟩⟩
theorem fL {α:Type} (s:Sl α) (i:Nat) (v:α):(s.set i v).get i=v:=by
 unfold Sl.set;show cond (Nat.beq i i) v (s.get i)=v;rw [tT];rfl
theorem eI {α:Type} (s:Sl α) {i j:Nat} (v:α) (h:j≠i):(s.set i v).get j=s.get j:=by
 unfold Sl.set;show cond (Nat.beq j i) v (s.get j)=s.get j;have:Nat.beq j i=false:=by
  cases q:Nat.beq j i with
  | false=>rfl
  | true=>exact absurd (aL q) h
 rw [this];rfl
def ED (g:b.fF) (M:Nat->Int) (i:Nat):Nat->Int
 | 0=>1
 | k+1=>if 0<=((g.kids.get i).get k).slot/\((g.kids.get i).get k).slot < (g.kids.n:Int) then min (ED g M i k+M ((g.kids.get i).get k).slot.toNat) 100000 else ED g M i k
theorem Ux (g:b.fF) (M:Nat->Int) (i k:Nat):ED g M i (k+1)=if 0<=((g.kids.get i).get k).slot/\((g.kids.get i).get k).slot < (g.kids.n:Int) then min (ED g M i k+M ((g.kids.get i).get k).slot.toNat) 100000 else ED g M i k:=rfl
def Ws (g:b.fF):Nat->Nat->Int
 | 0,_=>0
 | t+1,i=>ED g (Ws g t) i (min (g.kids.get i).n 1000)
theorem acD {g:b.fF} {M:Nat->Int} (hM:∀ j,0<=M j) (i:Nat):∀ k,1<=ED g M i k/\ED g M i k<=100000
 | 0=>⟨Int.le_refl _,by show (1:Int)<=100000; omega⟩
 | k+1=>by
  have:=acD hM (g:=g) i k;have hm:=hM ((g.kids.get i).get k).slot.toNat;unfold ED;split
  ·exact ⟨by omega,by omega⟩
  ·exact this
theorem ahK (g:b.fF):∀ t i,0<=Ws g t i/\Ws g t i<=100000
 | 0,i=>⟨Int.le_refl _,by show (0:Int)<=100000; omega⟩
 | t+1,i=>by
  have:=acD (g:=g) (fun j=>(ahK g t j).1) i (min (g.kids.get i).n 1000);show 0<=ED _ _ _ _/\ED _ _ _ _<=100000;omega
theorem ajk (s:b.aA) (M:Nat->Int) (hM:∀ j,0<=M j/\M j<=100000) (t2:Bool) (many nx:Sl Int) (step:Int) (i:Nat) (hi:i < s.graph.kids.n) (hm:many.n=s.graph.kids.n) (hx:nx.n=s.graph.kids.n) (h1:nx.get i=1) (Ye:∀ j,j < s.graph.kids.n->many.get j=M j) :
  ∃ Ed kk,goN b.gY (⟨t2,((s.graph.kids.n:Nat):Int),many,step,nx,(i:Int),(0:Int),s⟩:b.fB) = .out (.exit 4) ⟨t2,((s.graph.kids.n:Nat):Int),many,step,Ed,(i:Int),kk,s⟩/\Ed.n=s.graph.kids.n/\Ed.get i=ED s.graph M i (min (s.graph.kids.get i).n 1000)/\∀ j,j≠i->Ed.get j=nx.get j:=by
 obtain ⟨e,x',h2,he,Ed,kk,h3,h4⟩:=ja (step:=b.gY)
  (fun k x=>∃ q:Sl Int,x=⟨t2,((s.graph.kids.n:Nat):Int),many,step,q,(i:Int),(k:Int),s⟩/\q.n=s.graph.kids.n/\q.get i=ED s.graph M i k/\∀ j,j≠i->q.get j=nx.get j)
  (fun e x'=>e = .exit 4/\∃ Ed kk,x' = ⟨t2,((s.graph.kids.n:Nat):Int),many,step,Ed,(i:Int),kk,s⟩/\Ed.n=s.graph.kids.n/\Ed.get i=ED s.graph M i (min (s.graph.kids.get i).n 1000)/\∀ j,j≠i->Ed.get j=nx.get j)
  (min (s.graph.kids.get i).n 1000) (by unfold gx; omega) (by
   rintro k _ hk ⟨q,rfl,hq,hqi,hqo⟩;have ei:Int.toNat (i:Int)=i:=rfl;have ek:Int.toNat (k:Int)=k:=rfl;have d1:decide ((0:Int)<=(i:Int))=true:=au (by omega);have d2:decide ((i:Int) < ((s.graph.kids.n:Nat):Int))=true:=au (by omega);have d3:decide ((i:Int) < ((q.n:Nat):Int))=true:=au (by omega);have d4:decide ((0:Int)<=(k:Int))=true:=au (by omega);unfold b.gY b.mD
   dsimp only
   rw [ei,ek,d1,d2,d3,d4];simp only [cz,Fv,BN,aj,cq,bd];by_cases tY:(k:Int) < (((s.graph.kids.get i).n:Nat):Int)
   ·rw [au tY]
    by_cases WZ:(k:Int) < 1000
    ·rw [au WZ]
     simp only [aj];have e1:aK ((k:Int)+1)=((k+1:Nat):Int):=by rw [cM (by omega) (by omega)]; omega
     rw [e1];refine .inl ?_;by_cases g1:0<=((s.graph.kids.get i).get k).slot
     ·by_cases g2:((s.graph.kids.get i).get k).slot < ((s.graph.kids.n:Nat):Int)
      ·have g3:((s.graph.kids.get i).get k).slot < ((many.n:Nat):Int):=by rw [hm]; exact g2
       have ed:decide (((s.graph.kids.get i).get k).slot >= 0)=true:=au g1;rw [ed,au g2,au g3];simp only [cz,aj];refine ⟨_,rfl,by omega,_,rfl,hq,?_,fun j hj=>?_⟩
       ·rw [fL,hqi,Ye _ (by omega)]
        have b1:=acD (g:=s.graph) (fun j=>(hM j).1) i k;have b2:=hM ((s.graph.kids.get i).get k).slot.toNat;rw [cM (by omega) (by omega),Ux,aD ⟨g1,g2⟩]
       ·rw [eI _ _ hj]; exact hqo j hj
      ·have ed:decide (((s.graph.kids.get i).get k).slot >= 0)=true:=au g1
       rw [ed,aZ g2];simp only [aj,aH];refine ⟨_,rfl,by omega,_,rfl,hq,?_,hqo⟩;rw [hqi,Ux,aa fun h=>g2 h.2]
     ·have ed:decide (((s.graph.kids.get i).get k).slot >= 0)=false:=aZ g1
      rw [ed];simp only [aH];refine ⟨_,rfl,by omega,_,rfl,hq,?_,hqo⟩;rw [hqi,Ux,aa fun h=>g1 h.1]
    ·rw [aZ WZ]
     have:k=min (s.graph.kids.get i).n 1000:=by omega
     exact .inr ⟨_,_,rfl,rfl,rfl,q,_,rfl,hq,by rw [<- this]; exact hqi,hqo⟩
   ·rw [aZ tY]
    have:k=min (s.graph.kids.get i).n 1000:=by omega
    exact .inr ⟨_,_,rfl,rfl,rfl,q,_,rfl,hq,by rw [<- this]; exact hqi,hqo⟩
   ) (x:=⟨t2,((s.graph.kids.n:Nat):Int),many,step,nx,(i:Int),(0:Int),s⟩) ⟨nx,rfl,hx,h1,fun _ _=>rfl⟩
 ·subst he h3; exact ⟨Ed,kk,h2,h4⟩
theorem anE (s:b.aA) (M:Nat->Int) (hM:∀ j,0<=M j/\M j<=100000) (hn:s.graph.kids.n<=300) (t2:Bool) (many nx:Sl Int) (step:Int) (hm:many.n=s.graph.kids.n) (hx:nx.n=s.graph.kids.n) (Ye:∀ j,j < s.graph.kids.n->many.get j=M j) :
  (∃ Ed,goN b.ik (⟨t2,((s.graph.kids.n:Nat):Int),many,step,nx,(0:Int),s⟩:b.ib) = .out (.exit 2) ⟨t2,((s.graph.kids.n:Nat):Int),many,step,Ed,((s.graph.kids.n:Nat):Int),s⟩/\Ed.n=s.graph.kids.n/\∀ j,j < s.graph.kids.n->Ed.get j=ED s.graph M j (min (s.graph.kids.get j).n 1000)/\Ed.get j<=10000)\/
  ∃ x',goN b.ik (⟨t2,((s.graph.kids.n:Nat):Int),many,step,nx,(0:Int),s⟩:b.ib) = .out .ret x'/\x'.t2=true/\x'.many=many:=by
 obtain ⟨e,x',h2,h3⟩:=ja (step:=b.ik)
  (fun k x=>∃ q:Sl Int,x=⟨t2,((s.graph.kids.n:Nat):Int),many,step,q,(k:Int),s⟩/\q.n=s.graph.kids.n/\∀ j,j < k->q.get j=ED s.graph M j (min (s.graph.kids.get j).n 1000)/\q.get j<=10000)
  (fun e x'=>(e = .exit 2/\∃ Ed,x' = ⟨t2,((s.graph.kids.n:Nat):Int),many,step,Ed,((s.graph.kids.n:Nat):Int),s⟩/\Ed.n=s.graph.kids.n/\∀ j,j < s.graph.kids.n->Ed.get j=ED s.graph M j (min (s.graph.kids.get j).n 1000)/\Ed.get j<=10000)\/(e = .ret/\x'.t2=true/\x'.many=many))
  s.graph.kids.n (by unfold gx; omega) (by
   rintro k _ hk ⟨q,rfl,hq,hqo⟩;have ek:Int.toNat (k:Int)=k:=rfl;have d1:decide ((0:Int)<=(k:Int))=true:=au (by omega);unfold b.ik b.aY
   dsimp only
   rw [ek,d1];simp only [cz,Fv,BN,aj,cq,bd];by_cases bm:(k:Int) < ((s.graph.kids.n:Nat):Int)
   ·have d2:decide ((k:Int) < ((q.n:Nat):Int))=true:=au (by omega)
    rw [au bm,d2];simp only [aj];obtain ⟨Ed,kk,r1,r2,r3,r4⟩:=ajk s M hM t2 many (q.set k 1) step k (by omega) hm hq (fL q k 1) Ye;rw [r1];rw [aW.lF];simp only [aW.sh,cq,aj];have ex:zS (.exit 4) (.exit 4)=true:=rfl;have d3:decide ((k:Int) < ((Ed.n:Nat):Int))=true:=au (by omega);rw [ex,d1,d3,ek];simp only [cz,aj];by_cases hb:Ed.get k > 10000
    ·rw [au hb]
     exact .inr ⟨_,_,rfl,rfl,.inr ⟨rfl,rfl,rfl⟩⟩
    ·rw [aZ hb]
     have e1:aK ((k:Int)+1)=((k+1:Nat):Int):=by rw [cM (by omega) (by omega)]; omega
     rw [e1];refine .inl ⟨_,rfl,by omega,Ed,rfl,r2,fun j hj=>?_⟩;by_cases RQ:j=k
     ·subst RQ; exact ⟨r3,by omega⟩
     ·rw [r4 j RQ,eI _ _ RQ]; exact hqo j (by omega)
   ·have:k=s.graph.kids.n:=by omega
    subst this;rw [aZ bm];exact .inr ⟨_,_,rfl,rfl,.inl ⟨rfl,q,rfl,hq,hqo⟩⟩
   ) (x:=⟨t2,((s.graph.kids.n:Nat):Int),many,step,nx,(0:Int),s⟩) ⟨nx,rfl,hx,fun j hj=>absurd hj (ph j)⟩
 ·rcases h3 with ⟨rfl,Ed,rfl,h4⟩ | ⟨rfl,h4⟩
  ·exact .inl ⟨Ed,h2,h4⟩
  ·exact .inr ⟨x',h2,h4⟩
def ahL (g:b.fF):Prop:=g.kids.n<=300/\∀ t,t<=18->∀ i,i < g.kids.n->Ws g t i<=10000
theorem ajl (s:b.aA):∃ r,b.CT s=some r/\(r=false->ahL s.graph):=by
 unfold b.CT b.FQ;by_cases hn:((s.graph.kids.n:Nat):Int) > 300
 ·rw [au hn]; exact ⟨true,rfl,fun h=>by simp at h⟩
 rw [aZ hn];have en:Int.toNat ((s.graph.kids.n:Nat):Int)=s.graph.kids.n:=rfl;have d1:decide (((s.graph.kids.n:Nat):Int)<=((s.graph.kids.n:Nat):Int))=true:=au (Int.le_refl _);have d2:Nat.ble (8 * s.graph.kids.n) 281474976710656=true:=by rw [Nat.ble_eq]; omega
 rw [en,d1,d2];simp only [cz,aj,aH,cq];obtain ⟨e,x',h2,h3⟩:=ja (step:=b.ov)
  (fun t x=>∃ q:Sl Int,x=⟨false,((s.graph.kids.n:Nat):Int),q,(t:Int),s⟩/\q.n=s.graph.kids.n/\(∀ j,j < s.graph.kids.n->q.get j=Ws s.graph t j)/\∀ t',t'<=t->∀ j,j < s.graph.kids.n->Ws s.graph t' j<=10000)
  (fun e x'=>(e = .exit 0/\∀ t',t'<=18->∀ j,j < s.graph.kids.n->Ws s.graph t' j<=10000)\/(e = .ret/\x'.t2=true))
  18 (by unfold gx; omega) (by
   rintro t _ ht ⟨q,rfl,hq,hqo,hqb⟩;unfold b.ov b.dm
   dsimp only
   have d0:decide ((0:Int)<=((s.graph.kids.n:Nat):Int))=true:=au (by omega);rw [en,d0,d1,d2];simp only [cz,aj,cq];by_cases bm:(t:Int) < 18
   ·rw [au bm,aj]
    rcases anE s (Ws s.graph t) (ahK s.graph t) (by omega) false q ⟨s.graph.kids.n,fun _=>0⟩ (t:Int) hq rfl hqo with ⟨Ed,r1,r2,r3⟩ | ⟨x',r1,r2,r3⟩
    ·rw [r1]
     simp only [aW.sh,aW.lF,cq];have e1:aK ((t:Int)+1)=((t+1:Nat):Int):=by rw [cM (by omega) (by omega)]; omega
     rw [e1];refine .inl ⟨_,rfl,by omega,Ed,rfl,r2,fun j hj=>(r3 j hj).1,fun t' ht' j hj=>?_⟩;by_cases htt:t' = t+1
     ·subst htt
      have:=r3 j hj;show ED s.graph (Ws s.graph t) j _<=10000;omega
     ·exact hqb t' (by omega) j hj
    ·rw [r1]
     simp only [aW.sh,aW.lF,cq];exact .inr ⟨_,_,rfl,rfl,.inr ⟨rfl,r2⟩⟩
   ·have:t=18:=by omega
    subst this;rw [aZ bm];exact .inr ⟨_,_,rfl,rfl,.inl ⟨rfl,hqb⟩⟩
   ) (x:=⟨false,((s.graph.kids.n:Nat):Int),⟨s.graph.kids.n,fun _=>0⟩,(0:Int),s⟩) ⟨_,rfl,rfl,fun _ _=>rfl,fun t' ht j hj=>by
   have:t' = 0:=by omega
   subst this;show (0:Int)<=10000;omega⟩
 ·rw [h2]
  rcases h3 with ⟨rfl,h3⟩ | ⟨rfl,h3⟩
  ·exact ⟨false,rfl,fun _=>⟨by omega,h3⟩⟩
  ·exact ⟨x'.t2,rfl,fun h=>by rw [h3] at h; simp at h⟩
theorem adr (g:b.fF):∃ r,b.uu g=some r/\(r=false->g.cA.cL.n<=200/\g.kids.n<=200):=by
 unfold b.uu b.DN;by_cases h1:((g.cA.cL.n:Nat):Int) > 200
 ·rw [au h1]; exact ⟨true,rfl,fun h=>by simp at h⟩
 rw [aZ h1];by_cases h2:((g.kids.n:Nat):Int) > 200
 ·rw [au h2]; exact ⟨true,rfl,fun h=>by simp at h⟩
 rw [aZ h2];simp only [aH];obtain ⟨e,x',q1,q2⟩:=ja (step:=b.mL)
  (fun t x=>∃ m:Int,x=⟨false,m,(t:Int),g⟩)
  (fun e x'=>e = .exit 0\/e = .ret)
  g.kids.n (by unfold gx; omega) (by
   rintro t _ ht ⟨m,rfl⟩;have et:Int.toNat (t:Int)=t:=rfl;have d1:decide ((0:Int)<=(t:Int))=true:=au (by omega);unfold b.mL
   dsimp only
   rw [et,d1];by_cases bm:(t:Int) < ((g.kids.n:Nat):Int)
   ·rw [au bm]
    simp only [cz,aj];have e1:aK ((t:Int)+1)=((t+1:Nat):Int):=by rw [cM (by omega) (by omega)]; omega
    rw [e1];by_cases hb:aK (m+(((g.kids.get t).n:Nat):Int)) > 400
    ·rw [au hb]
     exact .inr ⟨_,_,rfl,rfl,.inr rfl⟩
    ·rw [aZ hb]
     exact .inl ⟨_,rfl,by omega,_,rfl⟩
   ·rw [aZ bm]
    exact .inr ⟨_,_,rfl,rfl,.inl rfl⟩) (x:=⟨false,(0:Int),(0:Int),g⟩) ⟨0,rfl⟩
 rw [q1];rcases q2 with rfl | rfl
 ·exact ⟨false,rfl,fun _=>⟨by omega,by omega⟩⟩
 ·exact ⟨x'.t2,rfl,fun _=>⟨by omega,by omega⟩⟩
theorem ads (l:Sl b.gX):∃ r,b.uv l=some r:=by
 unfold b.uv b.DP;obtain ⟨e,x',q1,q2⟩:=ja (step:=b.ox)
  (fun t x=>∃ m:Int,x=⟨l,false,m,(t:Int)⟩)
  (fun e x'=>e = .exit 0)
  100 (by unfold gx; omega) (by
   rintro t _ ht ⟨m,rfl⟩;have et:Int.toNat (t:Int)=t:=rfl;have d1:decide ((0:Int)<=(t:Int))=true:=au (by omega);unfold b.ox
   dsimp only
   rw [et,d1];by_cases bm:(t:Int) < ((l.n:Nat):Int)
   ·rw [au bm]
    simp only [cz,aj];by_cases hb:(t:Int) < 100
    ·rw [au hb]
     have e1:aK ((t:Int)+1)=((t+1:Nat):Int):=by rw [cM (by omega) (by omega)]; omega
     rw [e1];exact .inl ⟨_,rfl,by omega,_,rfl⟩
    ·rw [aZ hb]
     exact .inr ⟨_,_,rfl,rfl,rfl⟩
   ·rw [aZ bm]
    exact .inr ⟨_,_,rfl,rfl,rfl⟩) (x:=⟨l,false,(0:Int),(0:Int)⟩) ⟨0,rfl⟩
 rw [q1];subst q2;rw [aW.lF];simp only [aW.sh];by_cases h:(((x'.l.n:Nat):Int) > 40)
 ·rw [au h]; exact ⟨true,rfl⟩
 ·rw [aZ h]; exact ⟨_,rfl⟩
def ahM (m:b.gE):Prop:=m.az.n<=1000/\m.uV.n<=1000/\m.gd.n<=100/\∀ i,i < m.gd.n->(m.gd.get i).index.n<=1000
theorem SS (m:b.gE):∃ r,b.w6 m=some r/\(r=false->ahM m):=by
 unfold b.w6 b.DQ;by_cases h1:((m.az.n:Nat):Int) > 1000
 ·rw [au h1]; exact ⟨true,rfl,fun h=>by simp at h⟩
 rw [aZ h1];by_cases h2:((m.uV.n:Nat):Int) > 1000
 ·rw [au h2]; exact ⟨true,rfl,fun h=>by simp at h⟩
 rw [aZ h2];by_cases h3:((m.gd.n:Nat):Int) > 100
 ·rw [au h3]; exact ⟨true,rfl,fun h=>by simp at h⟩
 rw [aZ h3];simp only [aH];have key:=mN (step:=b.iC) m.gd.n (by unfold gx; omega) (fun j=>⟨false,(j:Int),m⟩) (fun k=>(m.gd.get k).index.n<=1000) (e0:=.exit 0) (er:=.ret) rfl rfl (fun x'=>x'.t2=true) (xe:=⟨false,((m.gd.n:Nat):Int),m⟩) (fun j hj=>by
  have e1:aK ((j:Int)+1)=((j+1:Nat):Int):=by rw [cM (by omega) (by omega)]; omega
  have d1:decide ((j:Int) < ((m.gd.n:Nat):Int))=true:=au (by omega);have d2:decide ((0:Int)<=(j:Int))=true:=au (by omega);have ej:Int.toNat (j:Int)=j:=rfl;unfold b.iC
  dsimp only
  rw [d1,d2,ej,e1];simp only [cz,aj];by_cases h:(((m.gd.get j).index.n:Nat):Int) > 1000
  ·rw [au h]
   exact ⟨fun k=>by omega,fun _=>⟨_,rfl,rfl⟩⟩
  ·rw [aZ h]
   exact ⟨fun _=>rfl,fun k=>by omega⟩) (by
  unfold b.iC
  dsimp only
  rw [aZ (Int.lt_irrefl _)];rfl)
 have e0:goN b.iC (⟨false,(0:Int),m⟩:b.nR)=goN b.iC ⟨false,((0:Nat):Int),m⟩:=rfl;rw [e0];rcases key with ⟨k1,k2⟩ | ⟨x',k1,k2,_⟩
 ·rw [k1]; exact ⟨false,rfl,fun _=>⟨by omega,by omega,by omega,k2⟩⟩
 ·rw [k1]; exact ⟨x'.t2,rfl,fun h=>by rw [k2] at h; simp at h⟩
structure Few (s:b.aA):Prop where
 g6:b.uu s.graph=some false
 g9:b.uv s.j8=some false
 ways:ahL s.graph
 cL:s.graph.cA.cL.n<=200
 kids:s.graph.kids.n<=200
 nodes:s.nodes.n<=200
 eo:s.eo.n<=60
 j8:s.j8.n<=60
 fw:∀ i,i < s.nodes.n->(s.nodes.get i).fw.n<=200
 fA:∀ i,i < s.eo.n->ahM (s.eo.get i)
theorem stepT {p:Prop} {c:Bool} {x:Option Bool} {Q:Prop} (hc:c=true↔p) (h2 : ¬ p->∃ r,x=some r/\(r=false->Q)):∃ r,cond c (some true) x=some r/\(r=false->Q):=by
 cases c with
 | true=>exact ⟨true,rfl,fun k=>by simp at k⟩
 | false=>exact h2 fun k=>by have:=hc.2 k; simp at this
theorem ahN (s:b.aA):∃ r,b.zV s=some r/\(r=false->Few s):=by
 unfold b.zV b.Jy b.Jz b.JA b.DV b.vV;obtain ⟨r1,q1,p1⟩:=ajl s;obtain ⟨r2,q2,p2⟩:=adr s.graph;obtain ⟨r3,q3⟩:=ads s.j8;rw [q1,q2,q3];simp only [fj,dI,aj];refine stepT Iff.rfl fun k1=>?_;refine stepT Iff.rfl fun k2=>?_;refine stepT Wq fun k3=>?_;refine stepT Wq fun k4=>?_;refine stepT Wq fun k5=>?_;refine stepT Iff.rfl fun k6=>?_;have f6:b.uu s.graph=some false:=by rw [q2]; exact congrArg some (by simpa using k2)
 have f9:b.uv s.j8=some false:=by rw [q3]; exact congrArg some (by simpa using k6)
 have p1:=p1 (by simpa using k1);have p2:=p2 (by simpa using k2);have key:=mN (step:=b.gM) s.nodes.n (by unfold gx; omega) (fun j=>⟨false,(j:Int),s⟩) (fun k=>(s.nodes.get k).fw.n<=200) (e0:=.exit 0) (er:=.ret) rfl rfl (fun x'=>x'.t2=true) (xe:=⟨false,((s.nodes.n:Nat):Int),s⟩) (fun j hj=>by
  have e1:aK ((j:Int)+1)=((j+1:Nat):Int):=by rw [cM (by omega) (by omega)]; omega
  have d1:decide ((j:Int) < ((s.nodes.n:Nat):Int))=true:=au (by omega);have d2:decide ((0:Int)<=(j:Int))=true:=au (by omega);have ej:Int.toNat (j:Int)=j:=rfl;unfold b.gM
  dsimp only
  rw [d1,d2,ej,e1];simp only [cz,aj];by_cases h:(((s.nodes.get j).fw.n:Nat):Int) > 200
  ·rw [au h]
   exact ⟨fun k=>by omega,fun _=>⟨_,rfl,rfl⟩⟩
  ·rw [aZ h]
   exact ⟨fun _=>rfl,fun k=>by omega⟩) (by
  unfold b.gM
  dsimp only
  rw [aZ (Int.lt_irrefl _)];rfl)
 have e0:goN b.gM (⟨false,(0:Int),s⟩:b.lX)=goN b.gM ⟨false,((0:Nat):Int),s⟩:=rfl;rw [e0];rcases key with ⟨g1,g2⟩ | ⟨x',g1,g2,_⟩
 ·rw [g1]
  simp only [aW.lF];have key:=mN (step:=b.gN) s.eo.n (by unfold gx; omega) (fun j=>⟨false,(j:Int),s⟩) (fun k=>b.w6 (s.eo.get k)=some false) (e0:=.exit 2) (er:=.ret) rfl rfl (fun x'=>x'.t2=true) (xe:=⟨false,((s.eo.n:Nat):Int),s⟩) (fun j hj=>by
   have e1:aK ((j:Int)+1)=((j+1:Nat):Int):=by rw [cM (by omega) (by omega)]; omega
   have d1:decide ((j:Int) < ((s.eo.n:Nat):Int))=true:=au (by omega);have d2:decide ((0:Int)<=(j:Int))=true:=au (by omega);have ej:Int.toNat (j:Int)=j:=rfl;obtain ⟨r,m1,_⟩:=SS (s.eo.get j);unfold b.gN b.Cr
   dsimp only
   rw [d1,d2,ej,e1,m1];cases r with
   | true=>exact ⟨fun k=>by simp at k,fun _=>⟨_,rfl,rfl⟩⟩
   | false=>exact ⟨fun _=>rfl,fun k=>absurd rfl k⟩) (by
   unfold b.gN
   dsimp only
   rw [aZ (Int.lt_irrefl _)];rfl)
  have e0:goN b.gN (⟨false,(0:Int),s⟩:b.j9)=goN b.gN ⟨false,((0:Nat):Int),s⟩:=rfl;rw [e0];rcases key with ⟨f1,f2⟩ | ⟨x',f1,f2,_⟩
  ·rw [f1]
   refine ⟨false,rfl,fun _=>⟨f6,f9,p1,p2.1,p2.2,by omega,by omega,by omega,g2,fun i hi=>?_⟩⟩;obtain ⟨r,m1,m2⟩:=SS (s.eo.get i);rw [f2 i hi] at m1;exact m2 (HI m1).symm
  ·rw [f1]; exact ⟨x'.t2,rfl,fun h=>by rw [f2] at h; simp at h⟩
 ·rw [g1]; exact ⟨x'.t2,rfl,fun h=>by rw [g2] at h; simp at h⟩
theorem Wt (a c:b.Handle):((a.slot==c.slot)&&((a.gen==c.gen)&&true))=true↔a=c:=by
 obtain ⟨a0,a1⟩:=a;obtain ⟨c0,c1⟩:=c;simp
theorem alR (a c:Sl b.Handle) (hn:a.n < 1000000):∃ r,b.oB a c=some r/\(r=true↔acz a c):=by
 unfold b.oB b.uA;by_cases hq:a.n=c.n
 ·have cD:(((a.n:Nat):Int) != ((c.n:Nat):Int))=false:=by simp [hq]
  rw [cD,aH];have key:=mN (step:=b.eF) a.n (by unfold gx; omega) (fun j=>⟨a,c,false,((a.n:Nat):Int),(j:Int)⟩) (fun j=>a.get j=c.get j) (e0:=.exit 0) (er:=.ret) rfl rfl (fun x'=>x'.t4=false) (xe:=⟨a,c,false,((a.n:Nat):Int),((a.n:Nat):Int)⟩) (fun j hj=>by
   have e1:aK ((j:Int)+1)=((j+1:Nat):Int):=by rw [cM (by omega) (by omega)]; omega
   have d1:decide ((j:Int) < ((a.n:Nat):Int))=true:=au (by omega);have d2:decide ((0:Int)<=(j:Int))=true:=au (by omega);have d3:decide ((j:Int) < ((c.n:Nat):Int))=true:=au (by omega);have ej:Int.toNat (j:Int)=j:=rfl;unfold b.eF
   dsimp only
   rw [d1,d2,d3,ej,e1];simp only [cz,aj];by_cases h1:a.get j=c.get j
   ·rw [(Wt (a.get j) (c.get j)).2 h1]
    exact ⟨fun _=>rfl,fun h=>absurd h1 h⟩
   ·have:(((a.get j).slot==(c.get j).slot)&&(((a.get j).gen==(c.get j).gen)&&true))=false:=by rw [<- Bool.not_eq_true,Wt]; exact h1
    rw [this];exact ⟨fun h=>absurd h h1,fun _=>⟨_,rfl,rfl⟩⟩) (by
   unfold b.eF
   dsimp only
   rw [aZ (Int.lt_irrefl _)];rfl)
  have e0:goN b.eF (⟨a,c,false,((a.n:Nat):Int),(0:Int)⟩:b.gG)=goN b.eF ⟨a,c,false,((a.n:Nat):Int),((0:Nat):Int)⟩:=rfl;rw [e0];rcases key with ⟨h1,h2⟩ | ⟨x',h1,h2,j,h3,h4⟩
  ·rw [h1]
   exact ⟨true,rfl,⟨fun _=>⟨hq,h2⟩,fun _=>rfl⟩⟩
  ·rw [h1]
   exact ⟨x'.t4,rfl,⟨fun h=>by rw [h2] at h; simp at h,fun h=>absurd (h.2 j h3) h4⟩⟩
 ·have cD:(((a.n:Nat):Int) != ((c.n:Nat):Int))=true:=by simp; omega
  rw [cD,aj];exact ⟨false,rfl,⟨fun h=>by simp at h,fun h=>absurd h.1 hq⟩⟩
def Wu (s:b.aA) (kids:Sl Int):Nat->b.Handle
 | 0=>s.root
 | j+1=>(s.graph.kids.get (Wu s kids j).slot.toNat).get (kids.get j).toNat
def Wv (s:b.aA) (kids:Sl Int) (j:Nat):Prop:=0<=kids.get j/\kids.get j < ((s.graph.kids.get (Wu s kids j).slot.toNat).n:Int)
def Yf (s:b.aA) (kids:Sl Int):Prop:=∀ j,j < kids.n->Wv s kids j
def RJ (s:b.aA) (kids:Sl Int) (l:Sl b.Handle):Prop:=l.n=kids.n+1/\∀ i,i<=kids.n->l.get i=Wu s kids i
theorem Yg {s:b.aA} (hs:om s) {h:b.Handle} (hh:mf s.graph.cA h) {k:Nat} (hk:k < (s.graph.kids.get h.slot.toNat).n):mf s.graph.cA ((s.graph.kids.get h.slot.toNat).get k):=by
 have hg:=(IE s.graph).1 hs.1;refine (hg.2.2.1 h.slot.toNat ?_).2.2 k hk;have:=hh.1;have:=hh.2.1;have:=hg.2.1;omega
theorem QM {s:b.aA} (hs:om s) (hr:s.root≠CE) (kids:Sl Int):∀ j,(∀ i,i < j->Wv s kids i)->mf s.graph.cA (Wu s kids j)
 | 0,_=>by
  rcases hs.2.2.2.2 with h | h
  ·exact absurd h hr
  ·exact h
 | j+1,h=>by
  have h1:=QM hs hr kids j fun i hi=>h i (by omega);have h2:=h j (by omega);exact Yg hs h1 (by have:=h2.1; have:=h2.2; omega)
theorem Gk {s:b.aA} (hs:om s) {h:b.Handle} (hh:mf s.graph.cA h):0<=h.slot/\h.slot < (s.graph.kids.n:Int)/\h.slot < (s.nodes.n:Int):=by
 have hg:=(IE s.graph).1 hs.1;have:=hh.1;have:=hh.2.1;have:=hg.2.1;have:=hs.2.1;omega
theorem afH {s:b.aA} (hs:om s) (hr:s.root≠CE) (kids:Sl Int) (hn:kids.n<=400) :
  ∃ p ok,b.tN s kids=some (p,ok)/\(ok=true/\Yf s kids/\RJ s kids p.nodes/\p.kids=kids\/ok=false/\¬ Yf s kids):=by
 unfold b.tN b.xn b.mF b.yQ;have hc:b.xk kids=some kids:=by
  unfold b.xk BH;rw [qH (by omega) (by omega) (by omega)];rfl
 rw [hc];simp only [fj,dI,aj];by_cases h0:(0:Int) < ((kids.n:Nat):Int)
 ·rw [au h0]
  simp only [aj];have hh:=QM hs hr kids 0 fun i hi=>absurd hi (ph i);have apW:mf s.graph.cA s.root:=hh;obtain ⟨r1,r2,_⟩:=Gk hs apW;rw [au r1,au r2];simp only [cz,aj];by_cases k1:kids.get 0 < 0
  ·rw [au k1]
   exact ⟨_,_,rfl,.inr ⟨rfl,fun h=>by have:=(h 0 (by omega)).1; omega⟩⟩
  rw [aZ k1];simp only [aH];by_cases k2:kids.get 0 >= (((s.graph.kids.get (Int.toNat s.root.slot)).n:Nat):Int)
  ·rw [au k2]
   exact ⟨_,_,rfl,.inr ⟨rfl,fun h=>absurd (h 0 (by omega)).2 (by show ¬ (kids.get 0 < (((s.graph.kids.get s.root.slot.toNat).n:Nat):Int)); omega)⟩⟩
  have k3:(0:Int)<=kids.get 0:=by omega
  have k4:kids.get 0 < (((s.graph.kids.get (Int.toNat s.root.slot)).n:Nat):Int):=by omega
  rw [aZ k2,au k3,au k4];simp only [cz,aj,aH];obtain ⟨e,x',q1,q2⟩:=ja (step:=b.kb)
   (fun r x=>∃ l:Sl b.Handle,x=⟨false,kids,((kids.n:Nat):Int),((r+1:Nat):Int),s,⟨⟨0,fun _=>⟨0,0⟩⟩,⟨0,fun _=>0⟩⟩,⟨l,kids⟩,Wu s kids (r+1)⟩/\r+1<=kids.n/\(∀ i,i < r+1->Wv s kids i)/\l.n=r+2/\∀ i,i < r+2->l.get i=Wu s kids i)
   (fun e x'=>(e = .exit 0/\Yf s kids/\RJ s kids x'.p.nodes/\x'.p.kids=kids)\/(e = .ret/\x'.t5=false/\¬ Yf s kids))
   (kids.n - 1) (by unfold gx; omega) (by
    rintro r _ hj ⟨l,rfl,hrn,gz,hl,hlg⟩;have ej:Int.toNat ((r+1:Nat):Int)=r+1:=rfl;have d1:decide ((0:Int)<=((r+1:Nat):Int))=true:=au (by omega);obtain ⟨s1,s2,_⟩:=Gk hs (QM hs hr kids (r+1) gz);unfold b.kb b.n4
    dsimp only
    rw [ej,d1,au s1,au s2];simp only [cq,aj,cz,BN];by_cases bm:(((r+1:Nat):Int)) < ((kids.n:Nat):Int)
    ·rw [au bm]
     simp only [aj];by_cases m1:kids.get (r+1) < 0
     ·rw [au m1]
      exact .inr ⟨_,_,rfl,rfl,.inr ⟨rfl,rfl,fun h=>by have:=(h (r+1) (by omega)).1; omega⟩⟩
     rw [aZ m1];by_cases m2:kids.get (r+1) >= (((s.graph.kids.get (Int.toNat (Wu s kids (r+1)).slot)).n:Nat):Int)
     ·rw [au m2]
      exact .inr ⟨_,_,rfl,rfl,.inr ⟨rfl,rfl,fun h=>by have:=(h (r+1) (by omega)).2; omega⟩⟩
     have m3:(0:Int)<=kids.get (r+1):=by omega
     have m4:kids.get (r+1) < (((s.graph.kids.get (Int.toNat (Wu s kids (r+1)).slot)).n:Nat):Int):=by omega
     rw [aZ m2,au m3,au m4,qH (by omega) (by omega) (by omega)];have e1:aK (((r+1:Nat):Int)+1)=((r+1+1:Nat):Int):=by rw [cM (by omega) (by omega)]; omega
     rw [e1];refine .inl ⟨_,rfl,by omega,_,rfl,by omega,fun i hi=>?_,by show l.n+1=r+1+2; omega,fun i hi=>?_⟩
     ·by_cases hir:i=r+1
      ·subst hir; exact ⟨m3,m4⟩
      ·exact gz i (by omega)
     ·by_cases hir:i=r+2
      ·subst hir
       rw [<- hl,Sl.CZ];rw [hl];rfl
      ·rw [Sl.Fp (by omega)]
       exact hlg i (by omega)
    ·rw [aZ bm]
     have:r+1=kids.n:=by omega
     refine .inr ⟨_,_,rfl,rfl,.inl ⟨rfl,fun j hj=>gz j (by omega),⟨by show l.n=kids.n+1; omega,fun i hi=>hlg i (by omega)⟩,rfl⟩⟩
    ) (x:=⟨false,kids,((kids.n:Nat):Int),(1:Int),s,⟨⟨0,fun _=>⟨0,0⟩⟩,⟨0,fun _=>0⟩⟩,⟨(Sl.lit [s.root]).push ((s.graph.kids.get (Int.toNat s.root.slot)).get (Int.toNat (kids.get 0))),kids⟩,(s.graph.kids.get (Int.toNat s.root.slot)).get (Int.toNat (kids.get 0))⟩) ⟨_,rfl,by omega,fun i hi=>by
    have:i=0:=by omega
    subst this;exact ⟨k3,k4⟩,rfl,fun i hi=>by
    rcases (by omega:i=0\/i=1) with rfl | rfl
    ·rfl
    ·rfl⟩
  ·rw [q1]
   rcases q2 with ⟨rfl,g1,g2,g3⟩ | ⟨rfl,g1,g2⟩
   ·exact ⟨x'.p,true,rfl,.inl ⟨rfl,g1,g2,g3⟩⟩
   ·exact ⟨x'.t4,x'.t5,rfl,.inr ⟨g1,g2⟩⟩
 ·rw [aZ h0]
  refine ⟨_,true,rfl,.inl ⟨rfl,fun j hj=>absurd hj (by omega),⟨by show 1=kids.n+1; omega,fun i hi=>?_⟩,rfl⟩⟩;have:i=0:=by omega
  subst this;rfl
theorem ajm {s:b.aA} {kids:Sl Int} {l m:Sl b.Handle} (h:RJ s kids l):acz l m↔RJ s kids m:=by
 constructor
 ·exact fun k=>⟨by rw [<- k.1,h.1],fun i hi=>by rw [<- k.2 i (by rw [h.1]; omega),h.2 i hi]⟩
 ·exact fun k=>⟨by rw [h.1,k.1],fun i hi=>by rw [h.2 i (by have:=h.1; omega),k.2 i (by have:=h.1; omega)]⟩
def G7 (s:b.aA) (p:b.Path):Prop:=om s/\s.root≠CE/\Yf s p.kids/\RJ s p.kids p.nodes
theorem ahO (s:b.aA) (p:b.Path) (rS:zr s) (hk:p.kids.n<=400):∃ e,b.wa s p=some e/\(e=0/\G7 s p\/e=8/\¬ G7 s p):=by
 unfold b.wa b.Aw b.Fm b.Ax;obtain ⟨e,q1,q2⟩:=Uw s rS;rw [q1];simp only [fj,dI,aj];rcases q2 with ⟨rfl,hs⟩ | ⟨rfl,hs⟩
 ·have:((0:Int) != 0)=false:=rfl
  rw [this,aH];refine G6 (aji s.root) (fun h k=>k.2.1 h) fun hr=>?_;obtain ⟨x,ok,p1,p2⟩:=afH hs hr p.kids hk;rw [p1];simp only [fj,dI,aj];rcases p2 with ⟨rfl,g1,g2,g3⟩ | ⟨rfl,g1⟩
  ·have hx:x.nodes.n < 1000000:=by rw [g2.1]; omega
   obtain ⟨r,m1,m2⟩:=alR x.nodes p.nodes hx;rw [m1];simp only [fj,dI,aj,Bool.not_true,aH];refine G6 (aek (m2.trans (ajm g2))) (fun h k=>h k.2.2.2) fun h=>?_;exact ⟨0,rfl,.inl ⟨rfl,hs,hr,g1,Classical.byContradiction h⟩⟩
  ·exact ⟨8,rfl,.inr ⟨rfl,fun k=>g1 k.2.2.1⟩⟩
 ·exact ⟨8,rfl,.inr ⟨rfl,fun k=>hs k.1⟩⟩
def U16 (n:Int):Prop:=0<=n/\n<=65535
theorem aox {n:Int} (h:U16 n):w16 n=n:=by
 obtain ⟨h1,h2⟩:=h;show IntKind.wrap .u16 n=n;unfold IntKind.wrap;have hb:(2 ^ IntKind.u16.bits:Int)=65536:=rfl;have hs:IntKind.u16.signed=false:=rfl;simp only [hb,hs,Bool.false_and];rw [aa (by simp)];omega
theorem aq9 {n:Int} (h:U16 n):((Dm IntKind.u16 n (1:Int):Nat):Int)=n % 2:=by
 obtain ⟨h1,h2⟩:=h;obtain ⟨m,rfl⟩:=Int.eq_ofNat_of_zero_le h1;unfold Dm;show (((BitVec.ofInt 16 (m:Int) &&& BitVec.ofInt 16 1).toNat:Nat):Int)=(m:Int) % 2;rw [BitVec.toNat_and,BitVec.toNat_ofInt];have e1:(BitVec.ofInt 16 1).toNat=1:=rfl;rw [e1,Nat.and_one_is_mod];omega
def QN (on k:Int):Prop:=on / 2 ^ k.toNat % 2=1
theorem anF {on:Int} (h:U16 on) (k:Nat):U16 (on / 2 ^ k):=by
 obtain ⟨h1,h2⟩:=h;have hp:(0:Int) < 2 ^ k:=Int.pow_pos (by omega);refine ⟨Int.ediv_nonneg h1 (Int.le_of_lt hp),?_⟩;exact Int.le_trans (Int.ediv_le_self _ h1) h2
theorem ahP {on:Int} (h:U16 on) {k:Nat} (hk:16<=k):on / 2 ^ k=0:=by
 obtain ⟨h1,h2⟩:=h;apply Int.ediv_eq_zero_of_lt h1;have:(2:Int) ^ 16<=2 ^ k:=by
  have:=Nat.pow_le_pow_right (show 0 < 2 by omega) hk
  exact_mod_cast this
 have e:(2:Int) ^ 16=65536:=by decide
 omega
theorem Zu {on k:Int} (h:U16 on):(w16 ((Dm IntKind.u16 (Int.fdiv on ((2:Int) ^ (min (Int.toNat k) 16))) (1:Int):Nat):Int)==(0:Int))=true↔¬ QN on k:=by
 have e:Int.fdiv on ((2:Int) ^ (min (Int.toNat k) 16))=on / 2 ^ (min (Int.toNat k) 16):=Int.fdiv_eq_ediv_of_nonneg _ (Int.le_of_lt (Int.pow_pos (by omega)));have hu:=anF h (min (Int.toNat k) 16);rw [e,aq9 hu,aox ⟨by omega,by omega⟩,vf];unfold QN;by_cases hk:k.toNat<=16
 ·rw [Nat.min_eq_left hk]; omega
 ·rw [Nat.min_eq_right (by omega),ahP h (by omega),ahP h (by omega)]; omega
def nodeAt (s:b.aA) (p:b.Path) (j:Nat):b.Node:=s.nodes.get (p.nodes.get j).slot.toNat
def ajn (s:b.aA) (p:b.Path) (j:Nat):Prop:=(nodeAt s p j).kind=3->QN (nodeAt s p j).rf (p.kids.get j)
def anG (s:b.aA) (p:b.Path):Prop:=∀ j,j < p.kids.n->ajn s p j
def ael (s:b.aA):Prop:=∀ i,i < s.nodes.n->U16 (s.nodes.get i).rf
theorem Zv {s:b.aA} {p:b.Path} (h:G7 s p) {j:Nat} (hj:j<=p.kids.n):mf s.graph.cA (p.nodes.get j):=by
 rw [h.2.2.2.2 j hj];exact QM h.1 h.2.1 p.kids j fun i hi=>h.2.2.1 i (by omega)
theorem Gl {s:b.aA} {p:b.Path} (h:G7 s p) {j:Nat} (hj:j<=p.kids.n):0<=(p.nodes.get j).slot/\(p.nodes.get j).slot < (s.nodes.n:Int):=by
 have:=Gk h.1 (Zv h hj);exact ⟨this.1,this.2.2⟩
theorem Uy {s:b.aA} {p:b.Path} (h:G7 s p) {j:Nat} (hj:j < p.kids.n):0<=p.kids.get j/\p.kids.get j < 16:=by
 have hg:=(IE s.graph).1 h.1.1;have hh:=QM h.1 h.2.1 p.kids j fun i hi=>h.2.2.1 i (by omega);have hs:=Gk h.1 hh;have hr:=(hg.2.2.1 (Wu s p.kids j).slot.toNat (by omega)).1;have:=h.2.2.1 j hj;exact ⟨this.1,by have:=this.2; omega⟩
theorem anH (s:b.aA) (p:b.Path) (rS:zr s) (Xz:ael s) (hk:p.kids.n<=400):∃ t e,b.CW s p=some (t,e)/\(e=0/\G7 s p/\(t=true↔anG s p)\/e=8/\¬ G7 s p/\t=false):=by
 unfold b.CW b.FT;obtain ⟨e,q1,q2⟩:=ahO s p rS hk;rw [q1];simp only [fj,dI,aj];rcases q2 with ⟨rfl,ha⟩ | ⟨rfl,ha⟩
 ·have:((0:Int) != 0)=false:=rfl
  rw [this,aH];unfold b.BI;have key:=mN (step:=b.jz) p.kids.n (by unfold gx; omega) (fun j=>⟨false,(0:Int),p.kids,((p.kids.n:Nat):Int),(j:Int),s,p⟩) (fun j=>ajn s p j) (e0:=.exit 0) (er:=.ret) rfl rfl (fun x'=>x'.t4=false/\x'.t5=0) (xe:=⟨false,(0:Int),p.kids,((p.kids.n:Nat):Int),((p.kids.n:Nat):Int),s,p⟩) (fun j hj=>by
   have e1:aK ((j:Int)+1)=((j+1:Nat):Int):=by rw [cM (by omega) (by omega)]; omega
   have d1:decide ((j:Int) < ((p.kids.n:Nat):Int))=true:=au (by omega);have d2:decide ((0:Int)<=(j:Int))=true:=au (by omega);have d3:decide ((j:Int) < ((p.nodes.n:Nat):Int))=true:=au (by have:=ha.2.2.2.1; omega);have ej:Int.toNat (j:Int)=j:=rfl;obtain ⟨s1,s2⟩:=Gl ha (show j<=p.kids.n by omega);obtain ⟨k1,k2⟩:=Uy ha hj;unfold b.jz
   dsimp only
   rw [d1,d2,ej,d3,e1,au s1,au s2,aZ (show ¬ p.kids.get j < 0 by omega)];simp only [cz,aj,HO];unfold ajn nodeAt;by_cases h3:(s.nodes.get (p.nodes.get j).slot.toNat).kind=3
   ·rw [vf.2 h3,aj]
    have hsh:=Zu (k:=p.kids.get j) (Xz (p.nodes.get j).slot.toNat (by omega));by_cases hb:QN (s.nodes.get (p.nodes.get j).slot.toNat).rf (p.kids.get j)
    ·have:(w16 ((Dm IntKind.u16 (Int.fdiv (s.nodes.get (p.nodes.get j).slot.toNat).rf ((2:Int) ^ (min (Int.toNat (p.kids.get j)) 16))) (1:Int):Nat):Int)==(0:Int))=false:=by
      rw [<- Bool.not_eq_true,hsh]; exact fun h=>h hb
     rw [this];exact ⟨fun _=>rfl,fun h=>absurd (fun _=>hb) h⟩
    ·rw [hsh.2 hb]
     exact ⟨fun h=>absurd (h h3) hb,fun _=>⟨_,rfl,rfl,rfl⟩⟩
   ·have:((s.nodes.get (p.nodes.get j).slot.toNat).kind==(3:Int))=false:=by rw [<- Bool.not_eq_true,Er]; exact h3
    rw [this,aH];exact ⟨fun _=>rfl,fun h=>absurd (fun k=>absurd k h3) h⟩) (by
   unfold b.jz
   dsimp only
   rw [aZ (Int.lt_irrefl _)];rfl)
  have e0:goN b.jz (⟨false,(0:Int),p.kids,((p.kids.n:Nat):Int),(0:Int),s,p⟩:b.pd)=goN b.jz ⟨false,(0:Int),p.kids,((p.kids.n:Nat):Int),((0:Nat):Int),s,p⟩:=rfl;rw [e0];rcases key with ⟨h1,h2⟩ | ⟨x',h1,h2,j,h3,h4⟩
  ·rw [h1]
   exact ⟨true,0,rfl,.inl ⟨rfl,ha,fun _=>h2,fun _=>rfl⟩⟩
  ·rw [h1]
   refine ⟨x'.t4,x'.t5,rfl,.inl ⟨h2.2,ha,fun h=>by rw [h2.1] at h; simp at h,fun h=>absurd (h j h3) h4⟩⟩
 ·exact ⟨false,8,rfl,.inr ⟨rfl,ha,rfl⟩⟩
def unit:b.fT:=⟨⟨⟨256,0,0⟩,⟨0,256,0⟩,⟨0,0,256⟩⟩,⟨0,0,0⟩⟩
noncomputable def qI (s:b.aA) (p:b.Path):Nat->b.fT×Int
 | 0=>(unit,0)
 | j+1=>if (nodeAt s p j).kind=2/\(qI s p j).2=0 then uC (qI s p j).1 (nodeAt s p j).mP else qI s p j
noncomputable def ajo (s:b.aA) (p:b.Path) (n:Nat):b.fT×Int:=if (qI s p n).2=0 then ((qI s p n).1,0) else (Hu,(qI s p n).2)
theorem ajp (s:b.aA) (p:b.Path) (ha:G7 s p) (hn:p.nodes.n < 1000000) :
  goN b.kE (⟨(0:Int),p.nodes,((p.nodes.n:Nat):Int),(0:Int),s,Hu,⟨unit,0⟩⟩:b.kd) = .out (.exit 0) ⟨(0:Int),p.nodes,((p.nodes.n:Nat):Int),((p.nodes.n:Nat):Int),s,Hu,⟨(qI s p p.nodes.n).1,(qI s p p.nodes.n).2⟩⟩:=by
 obtain ⟨e,x',q1,rfl,q2⟩:=ja (step:=b.kE)
  (fun j x=>x=⟨(0:Int),p.nodes,((p.nodes.n:Nat):Int),(j:Int),s,Hu,⟨(qI s p j).1,(qI s p j).2⟩⟩)
  (fun e x'=>e = .exit 0/\x' = ⟨(0:Int),p.nodes,((p.nodes.n:Nat):Int),((p.nodes.n:Nat):Int),s,Hu,⟨(qI s p p.nodes.n).1,(qI s p p.nodes.n).2⟩⟩)
  p.nodes.n (by unfold gx; omega) (by
   rintro j _ hj rfl;unfold b.kE b.xr
   dsimp only
   have ej:Int.toNat (j:Int)=j:=rfl;by_cases bm:(j:Int) < ((p.nodes.n:Nat):Int)
   ·have d2:decide ((0:Int)<=(j:Int))=true:=au (by omega)
    obtain ⟨s1,s2⟩:=Gl ha (show j<=p.kids.n by have:=ha.2.2.2.1; omega);have e1:aK ((j:Int)+1)=((j+1:Nat):Int):=by rw [cM (by omega) (by omega)]; omega
    rw [au bm,d2,ej,au s1,au s2,e1];simp only [cz,aj,acB,fj,dI];refine .inl ?_;have JY:qI s p (j+1)=if (nodeAt s p j).kind=2/\(qI s p j).2=0 then uC (qI s p j).1 (nodeAt s p j).mP else qI s p j:=rfl;unfold nodeAt at JY;by_cases h2:(s.nodes.get (p.nodes.get j).slot.toNat).kind=2
    ·by_cases h0:(qI s p j).2=0
     ·rw [vf.2 h2,vf.2 h0]
      rw [aD ⟨h2,h0⟩] at JY;rw [JY];exact ⟨_,rfl,by omega,rfl⟩
     ·rw [vf.2 h2,show ((qI s p j).2==(0:Int))=false by rw [<- Bool.not_eq_true,Er]; exact h0]
      rw [aa fun q=>h0 q.2] at JY;rw [JY];exact ⟨_,rfl,by omega,rfl⟩
    ·rw [show ((s.nodes.get (p.nodes.get j).slot.toNat).kind==(2:Int))=false by rw [<- Bool.not_eq_true,Er]; exact h2]
     rw [aa fun q=>h2 q.1] at JY;rw [JY];exact ⟨_,rfl,by omega,rfl⟩
   ·have:j=p.nodes.n:=by omega
    subst this;rw [aZ bm];exact .inr ⟨_,_,rfl,rfl,rfl,rfl⟩) (x:=⟨(0:Int),p.nodes,((p.nodes.n:Nat):Int),(0:Int),s,Hu,⟨unit,0⟩⟩) rfl
 rw [q1,q2]
theorem alS (s:b.aA) (p:b.Path) (rS:zr s) (Xz:ael s) (hk:p.kids.n<=400):∃ m e,b.Ay s p=some (m,e)/\(G7 s p/\(m,e)=ajo s p p.nodes.n\/¬ G7 s p/\m=Hu/\e=8):=by
 unfold b.Ay b.Ec;obtain ⟨t,e,q1,q2⟩:=anH s p rS Xz hk;rw [q1];simp only [fj,dI,aj];rcases q2 with ⟨rfl,ha,_⟩ | ⟨rfl,ha,_⟩
 ·have:((0:Int) != 0)=false:=rfl
  rw [this,aH];unfold b.zp b.JX;have hu:b.CX=some unit:=rfl;have hw:=ajp s p ha (by have:=ha.2.2.2.1; omega);unfold Hu at hw;rw [hu];simp only [fj,dI,aj];rw [hw];simp only [aW.sh,aW.lF];unfold ajo;by_cases h0:(qI s p p.nodes.n).2=0
  ·rw [show ((qI s p p.nodes.n).2 != (0:Int))=false by rw [bne_eq_false_iff_eq]; exact h0,aD h0]
   exact ⟨_,_,rfl,.inl ⟨ha,rfl⟩⟩
  ·rw [neI.2 h0,aa h0]
   exact ⟨_,_,rfl,.inl ⟨ha,rfl⟩⟩
 ·exact ⟨Hu,8,rfl,.inr ⟨ha,rfl,rfl⟩⟩
end Go.Proofs.Ytckbdndhmcoihaa.sc
end
section
namespace Go.Proofs.Ytckbdndhmcoihaa.b
open Go.K
noncomputable section
theorem Zw (s:Sl Path) (v:Path):s.push v=aw (fun e=>CA (gV Try.prog (b8 Try.prog 5) 50 e)) (s.n+1) (ax s.n (fun i=>Cz (s.get i)) (cY [Cz v])):=(fR (p:=fun e=>CA (gV Try.prog (b8 Try.prog 5) 50 e)) (fun x=>by kernel_rfl) (by kernel_rfl) s v).symm
end
end Go.Proofs.Ytckbdndhmcoihaa.b
end
