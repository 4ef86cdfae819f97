/- Part of the proof of WorldPlain: the machine, shown to be the model's, and plain models. No conditions. -/
import Derived.Test.YtckbdndhmcoihaaHp
import Derived.Test.YtckbdndhmcoihaaGp
set_option linter.unusedSimpArgs false
set_option linter.unusedVariables false
section
namespace Go.Proofs.Ytckbdndhmcoihaa.b
open Go.K
noncomputable section
structure bC where
 s:(Sl gu)
 t4:Int
 t7:Int
 t8:Int
instance:Inhabited bC:=⟨⟨default,default,default,default⟩⟩
def jf (x:bC):List KV:=[dG 79 uE x.s,.fn (.func 40) [] [],.int .i64 x.t4,.int .i64 x.t7,.int .i64 x.t8]
def jg (x:bC):List (List KV):=[]
def nX (vs:List KV) (rs:List (List KV)):bC:=⟨eF kS (v9 vs 0),ax (v9 vs 2),ax (v9 vs 3),ax (v9 vs 4)⟩
def ot:aJ:=⟨[(0,w9 (n9 79)),(1,⟨false,[.lit (.fn (.func 40) [] [])]⟩),(4,w9 i9),(7,w9 i9),(8,w9 i9)],[],[]⟩
def x9:=Cv [(49,yM),(48,ui),(47,zT),(44,yN),(43,vO),(41,xN)] [] 75 26 ot
def iU (x:bC):=uF (x.s.get (Int.toNat x.t8))
def bJ (x:bC):aX bC:=(cond (decide (x.t8 < x.t7)) (cond ((decide (0<=x.t8))&&(decide (x.t8 < (x.s.n:Int)))) (cond (iU x).isSome (cond (((iU x).getD default) != 0) (.out aI.ah.ret ⟨x.s,x.t8,x.t7,x.t8⟩) (.next ⟨x.s,x.t4,x.t7,(aP (x.t8+1))⟩)) .fail) .fail) (.out (aI.ah.exit 0) x))
theorem wO (x:bC):x9 (jf x) (jg x)=aX.enc jf jg (bJ x):=by
 unfold bJ
 try simp only [aX.cJ]
 kernel_rfl
def fL:Lp:=⟨75,26,ot,fun vs rs=>dU jf jg (goN bJ (nX vs rs)) [aI.ah.exit 0,aI.ah.ret],false⟩
theorem jh:fL.Ok PG:=C8 (ak.cons uc (ak.cons uj (ak.cons xy (ak.cons ym (ak.cons u6 (ak.cons vN ak.nil)))))) bu.nil (pa:=nX) wO
structure bD where
 s:(Sl gP)
 t4:Int
 t7:Int
 t8:Int
instance:Inhabited bD:=⟨⟨default,default,default,default⟩⟩
def ji (x:bD):List KV:=[dG 118 jF x.s,.fn (.func 42) [] [],.int .i64 x.t4,.int .i64 x.t7,.int .i64 x.t8]
def jk (x:bD):List (List KV):=[]
def nY (vs:List KV) (rs:List (List KV)):bD:=⟨eF eN (v9 vs 0),ax (v9 vs 2),ax (v9 vs 3),ax (v9 vs 4)⟩
def ou:aJ:=⟨[(0,w9 (n9 118)),(1,⟨false,[.lit (.fn (.func 42) [] [])]⟩),(4,w9 i9),(7,w9 i9),(8,w9 i9)],[],[]⟩
def ya:=Cv [(49,yM),(48,ui),(47,zT),(44,yN),(43,vO),(41,xN)] [fL] 76 26 ou
def iV (x:bD):=rA (x.s.get (Int.toNat x.t8))
def bK (x:bD):aX bD:=(cond (decide (x.t8 < x.t7)) (cond ((decide (0<=x.t8))&&(decide (x.t8 < (x.s.n:Int)))) (cond (iV x).isSome (cond (((iV x).getD default) != 0) (.out aI.ah.ret ⟨x.s,x.t8,x.t7,x.t8⟩) (.next ⟨x.s,x.t4,x.t7,(aP (x.t8+1))⟩)) .fail) .fail) (.out (aI.ah.exit 0) x))
theorem wP (x:bD):ya (ji x) (jk x)=aX.enc ji jk (bK x):=by
 unfold bK
 try simp only [aX.cJ]
 kernel_rfl
def jD:Lp:=⟨76,26,ou,fun vs rs=>dU ji jk (goN bK (nY vs rs)) [aI.ah.exit 0,aI.ah.ret],false⟩
theorem nZ:jD.Ok PG:=C8 (ak.cons uc (ak.cons uj (ak.cons xy (ak.cons ym (ak.cons u6 (ak.cons vN ak.nil)))))) (rH jh bu.nil) (pa:=nY) wP
structure eQ where
 t2:Int
 t46:(Sl Node)
 t47:Int
 t48:Int
 s:aC
instance:Inhabited eQ:=⟨⟨default,default,default,default,default⟩⟩
def B4 (x:eQ):List KV:=[.int .i64 x.t2,dG 64 rI x.t46,.int .i64 x.t47,.int .i64 x.t48]
def B5 (x:eQ):List (List KV):=[zt x.s]
def IW (vs:List KV) (rs:List (List KV)):eQ:=⟨ax (v9 vs 0),eF kR (v9 vs 1),ax (v9 vs 2),ax (v9 vs 3),zu (r9 rs 0)⟩
def JZ:aJ:=⟨[(2,w9 i9),(46,w9 (n9 64)),(47,w9 i9),(48,w9 i9)],[(1,[n9 139,n9 47,n9 64,n9 79,n9 118,i9,i9],1)],[(1,0,0)]⟩
def SX:=Cv [(49,yM),(48,ui),(47,zT),(44,yN),(43,vO),(41,xN)] [fL,jD] 22 250 JZ
def Aq (x:eQ):=wN (x.t46.get (Int.toNat x.t48)) ⟨0,⟨⟨⟨0,0,0⟩,⟨0,0,0⟩,⟨0,0,0⟩⟩,⟨0,0,0⟩⟩,0,⟨0,0,0⟩,⟨0,(fun i=>0)⟩,0,⟨⟨0,0,0,0,0⟩,⟨⟨0,0,0,0⟩,0,0,0,false,0⟩⟩⟩
def Ar (x:eQ):=o6 x.s (x.t46.get (Int.toNat x.t48))
def lQ (x:eQ):aX eQ:=(cond ((decide (0<=x.t48))&&(decide (x.t48 < (x.s.graph.cD.cN.n:Int)))) (cond (x.s.graph.cD.cN.get (Int.toNat x.t48)).live (cond (Ar x).isSome (cond (((Ar x).getD default) != 0) (.out aI.ah.ret ⟨8,x.t46,x.t47,x.t48,x.s⟩) (cond ((x.t46.get (Int.toNat x.t48)).kind==5) (cond ((decide (0<=x.t48))&&(decide (x.t48 < (x.s.graph.kids.n:Int)))) (cond (decide (((x.s.graph.kids.get (Int.toNat x.t48)).n:Int) > 0)) (.out aI.ah.ret ⟨8,x.t46,x.t47,x.t48,x.s⟩) (.next ⟨x.t2,x.t46,x.t47,(aP (x.t48+1)),x.s⟩)) .fail) (.next ⟨x.t2,x.t46,x.t47,(aP (x.t48+1)),x.s⟩))) .fail) (.next ⟨x.t2,x.t46,x.t47,(aP (x.t48+1)),x.s⟩)) .fail)
def ga (x:eQ):aX eQ:=(cond (decide (x.t48 < x.t47)) (cond ((decide (0<=x.t48))&&(decide (x.t48 < (x.t46.n:Int)))) (cond ((decide (0<=x.t48))&&(decide (x.t48 < (x.s.graph.cD.cN.n:Int)))) (cond (!(x.s.graph.cD.cN.get (Int.toNat x.t48)).live) (cond (Aq x).isSome (cond (!((Aq x).getD default)) (.out aI.ah.ret ⟨8,x.t46,x.t47,x.t48,x.s⟩)
    (lQ x)) .fail)
   (lQ x)) .fail) .fail) (.out (aI.ah.exit 0) x))
theorem Pr (x:eQ):SX (B4 x) (B5 x)=aX.enc B4 B5 (ga x):=by
 unfold ga lQ
 try simp only [aX.cJ]
 kernel_rfl
def J0:Lp:=⟨22,250,JZ,fun vs rs=>dU B4 B5 (goN ga (IW vs rs)) [aI.ah.exit 0,aI.ah.ret],false⟩
theorem SY:J0.Ok PG:=C8 (ak.cons uc (ak.cons uj (ak.cons xy (ak.cons ym (ak.cons u6 (ak.cons vN ak.nil)))))) (rH jh (rH nZ bu.nil)) (pa:=IW) Pr
def Gg (s:aC):=IC s.graph
def Bz (s:aC):=goN bJ ⟨s.eO,0,(s.eO.n:Int),0⟩
def BA (s:aC):=goN bK ⟨s.j6,0,(s.j6.n:Int),0⟩
def nJ (s:aC):=goN ga ⟨0,s.nodes,(s.nodes.n:Int),0,s⟩
def Gh (s:aC):=dy (nJ s).st.s.graph.cD (nJ s).st.s.root
def zU (s:aC):Option (Int):=(cond ((nJ s).by (aI.ah.exit 0)) (cond (!(((nJ s).st.s.root.slot==0)&&(((nJ s).st.s.root.gen==0)&&true))) (cond (Gh s).isSome (cond (!((Gh s).getD default)) (some (8)) (some (0))) none) (some (0))) (cond ((nJ s).by aI.ah.ret) (some ((nJ s).st.t2)) none))
def zV (s:aC):Option (Int):=(cond (decide ((s.j6.n:Int) > 16)) (some (8)) (cond ((BA s).by (aI.ah.exit 0))
  (zU s) (cond ((BA s).by aI.ah.ret) (cond (decide ((BA s).st.t4 >= 0)) (some (8))
   (zU s)) none)))
def rm (s:aC):Option (Int):=(cond (Gg s).isSome (cond (((Gg s).getD default) != 0) (some (8)) (cond ((s.nodes.n:Int) != (s.graph.kids.n:Int)) (some (8)) (cond (decide ((s.eO.n:Int) > 32)) (some (8)) (cond ((Bz s).by (aI.ah.exit 0))
    (zV s) (cond ((Bz s).by aI.ah.ret) (cond (decide ((Bz s).st.t4 >= 0)) (some (8))
     (zV s)) none))))) none)
theorem Ye (s:aC):rv [(49,yM),(48,ui),(47,zT),(44,yN),(43,vO),(41,xN)] [J0,fL,jD] 22 [kC s] = (rm s).map (kI .i64):=by
 unfold rm zV zU
 try simp only [cf]
 kernel_rfl
def E5:List KV->KR KV:=b5 PG 22 (cg (kI .i64) fun vs=>rm (eP (v9 vs 0)))
theorem EB:bZ PG 22 E5:=ee (ak.cons uc (ak.cons uj (ak.cons xy (ak.cons ym (ak.cons u6 (ak.cons vN ak.nil)))))) (rH SY (rH jh (rH nZ bu.nil))) fun w=>Ye (eP (g0 34 (w 0)))
def IX:List (Nat×(List KV->KR KV)):=[]
def IY:List Lp:=[]
theorem Ps:ak Try.prog IX:=ak.nil
theorem Pt:bu Try.prog IY:=bu.nil
def Dz (s:(Sl kA)):Option ((Sl kA)):=(cond (Nat.blt 0 s.n) (cond ((Nat.blt 0 s.n)&&(dQ 16 0 s.n)) (some (((Sl.lit []).join s))) none) none)
theorem QU (s:(Sl kA)):FT Try.prog (rG Try.prog IX IY (fun _=>false)) 9 9 36 [(dG 125 ju) s] = (Dz s).map (dG 125 ju):=by
 unfold Dz
 try simp only [cf,j5,lM,lN]
 kernel_rfl
def UQ:List KV->KR KV:=b5 Try.prog 36 (cg (dG 125 ju) fun vs=>Dz ((eF fC) (vs.getD 0 .bf)))
theorem Fv (w:Nat->KV):vA Try.prog [67] w 0 = [(dG 125 ju) ((eF fC) (ik Try.prog (ca Try.prog dB) 67 (w 0)))]:=by kernel_rfl
theorem Pu:bZ Try.prog 36 UQ:=XG funcs mixed Ps Pt (L:=9) (n:=9) fun w=>by
 have e:bS Try.prog 36 = [67]:=by kernel_rfl
 rw [e,Fv]
 exact (QU ((eF fC) (ik Try.prog (ca Try.prog dB) 67 (w 0)))).trans (by kernel_rfl)
end
end Go.Proofs.Ytckbdndhmcoihaa.b
end
section
namespace Go.K
open Go Go.aI
variable {P:Program} {E:Env}
theorem akj {t e:TypeId} {i:TypeInfo} (h:P.underlying t=some (.slice e)) (hi:P.info? e=some i) (b:Addr) (a:Option Addr) (c:Nat) (w:World):(Builtin.append_ #[t,t] t #[.slice (some b) 0 0,.slice a 0 c]).run P w = .ok (.slice (some b) 0 0) w:=by
 cases a <;> simp [Builtin.append_,aI.bo h,sizeOf,typeInfo,hi,Builtin.lenOf,Builtin.firstCells,loadCells,loadCellsFrom,storeCells]
structure acU (P:Program) (g:FuncId) (e:TypeId):Prop where
 nil:∀ c w,Calls P g #[.slice none 0 c] w fun r w'=>r = .returned (.slice none 0 0)/\w' = w
 some:∀ a c w,Calls P g #[.slice (some a) 0 c] w fun r w'=>r = .returned (.slice (some ⟨w.heap.size,0,none⟩) 0 0)/\w' = w.alloc (.cells #[] e)
def Fw {α:Type} (b:Nat) (s:Sl α):Option (Sl α):=cond (dQ b 0 s.n) (some s) none
theorem Sl.akk {α:Type} [Inhabited α] (s:Sl α):(Sl.lit []).join s=s:=by
 cases s with
 | mk n f=>
  unfold Sl.join Sl.lit;simp only [List.length_nil,ba];congr 1
theorem VK.amd {T:TypeId} {a:Option Addr} {acc:Nat->KV} (h:TD E (aU P T) a 0 []):VK P E (.ts T .any 0 [] acc) (.slice a 0 0):=by
 simp only [VK];exact ⟨⟨rfl,fun i hi=>absurd hi (oX _),rfl⟩,[],.nil,a,0,rfl,aB _,h,trivial⟩
theorem age {g:FuncId} {T t:TypeId} {b:Nat} {α:Type} {k:α->KV} {p:KV->α} {f1:Sl α->Option (Sl α)} [Inhabited α] (hn:acU P g T) (ht:bS P g = [t]) (hf:∀ s,f1 s=cond (Nat.blt 0 s.n) (cond (Nat.blt 0 s.n&&dQ b 0 s.n) (some ((Sl.lit []).join s)) none) none)
  (aox:∀ w,vA P [t] w 0 = [dG T k (eF p (ik P (ca P dB) t (w 0)))]) (h1:bZ P g (b5 P g (cg (dG T k) fun vs=>f1 (eF p (vs.getD 0 .bf))))) (hc:xC P g) :
  bZ P g (b5 P g (cg (dG T k) fun vs=>Fw b (eF p (vs.getD 0 .bf)))):=by
 intro args v hF hlen;refine ⟨hc,?_⟩;have hF0:=hF;unfold b5 at hF;obtain ⟨hb,hF⟩:=aH.cond hF;obtain ⟨ww,hw⟩:=Iv 0 hb;rw [ht] at hw;rw [aox] at hw;rw [ht,hw] at hF;unfold cg at hF;obtain ⟨h2,h3⟩:=aH.jN hF;have es:(([dG T k (eF p (ik P (ca P dB) t (ww 0)))] : List KV).getD 0 .bf)=dG T k (eF p (ik P (ca P dB) t (ww 0))):=rfl;have h2:(Fw b (eF p (([dG T k (eF p (ik P (ca P dB) t (ww 0)))] : List KV).getD 0 .bf))).isSome=true:=h2;have h3:dG T k ((Fw b (eF p (([dG T k (eF p (ik P (ca P dB) t (ww 0)))] : List KV).getD 0 .bf))).getD default)=v:=h3;rw [es] at h2 h3;generalize hs:eF p (dG T k (eF p (ik P (ca P dB) t (ww 0))))=s at h2 h3;cases hq:Nat.blt 0 s.n with
 | true=>
  have:aH (b5 P g (cg (dG T k) fun vs=>f1 (eF p (vs.getD 0 .bf))) (normArgs P (bS P g) args)) v:=by
   unfold b5;rw [hb,aj,ht,hw];show aH (KR.jN (f1 (eF p (([dG T k (eF p (ik P (ca P dB) t (ww 0)))] : List KV).getD 0 .bf))).isSome (dG T k ((f1 (eF p (([dG T k (eF p (ik P (ca P dB) t (ww 0)))] : List KV).getD 0 .bf))).getD default))) v;rw [es,hs,hf,hq];unfold Fw at h2 h3;cases ha:dQ b 0 s.n with
   | false=>rw [ha] at h2; simp at h2
   | true=>
    rw [ha] at h3;simp only [cC,aj,Sl.akk];exact ⟨rfl,h3⟩
  exact (h1 args v this hlen).2
 | false=>
  have hz:s.n=0:=by
   apply Classical.byContradiction;intro hk;have:Nat.blt 0 s.n=true:=by rw [bG]; omega
   rw [hq] at this;simp at this
  have hv0:v = .ts T .any 0 [] fun i=>k (s.get i):=by
   have ha:dQ b 0 s.n=true:=by
    unfold Fw at h2;cases ha:dQ b 0 s.n with
    | true=>rfl
    | false=>rw [ha] at h2; simp at h2
   rw [<- h3];unfold Fw;rw [ha];show dG T k s=_;unfold dG;rw [hz];rfl
  intro E A B ρ base w dV hv hj;have CJ:rE P E ρ (normArgs P (bS P g) args) dV:=by
   obtain ⟨m,h1,h2⟩:=hv;exact ⟨m,aV.MV (.of rfl) h1 hlen,h2⟩
  rw [ht,hw] at CJ;obtain ⟨u,us,rfl,hu,Lf⟩:=CJ.xx;obtain rfl:=Lf.UE;have hn0:(eF p (ik P (ca P dB) t (ww 0))).n=0:=(congrArg Sl.n hs).trans hz;unfold dG at hu;rw [hn0] at hu;obtain ⟨u',hk,hr⟩:=hu;obtain ⟨_,bh,_,a,cap,rfl,_,_,_⟩:=hk.kY;subst hv0;cases a with
  | none=>
   rw [hr.fV];refine (hn.nil cap w).mono ?_;rintro r w' ⟨rfl,rfl⟩;exact ⟨_,E,B,ρ,rfl,⟨.slice none 0 0,VK.amd (.inl ⟨rfl,rfl⟩),by simp [VR]⟩,.refl hj.k hj.s⟩
  | some a=>
   obtain ⟨_,_,_,a',c',_,_,_,_,rfl⟩:=hr.lE;refine (hn.some a' c' w).mono ?_;rintro r w' ⟨rfl,rfl⟩;have g:=Q2 (cs:=[]) (c:=#[]) (bm:=aU P T) T hj.s (by unfold dA; rfl) (fun v hv=>by simp at hv);refine ⟨_,E.eI B.next ⟨[],aU P T,true,none⟩,B.new (.row [] (aU P T) true none),ρ.set B.next ⟨w.heap.size,0,0,aU P T⟩,rfl,⟨.slice (some ⟨B.next,0,none⟩) 0 0,VK.amd (.inr ⟨B.next,0,⟨[],aU P T,true,none⟩,rfl,by simp [Env.eI],rfl,fun i x hi=>by simp at hi⟩),?_⟩,(cO.ZO hj.k).ev g⟩;simp only [VR];exact ⟨trivial,aB _,⟨w.heap.size,0,0,aU P T⟩,⟨w.heap.size,0,none⟩,0,by simp [Ren.set],aB _,fun h=>absurd rfl h,by simp,rfl⟩
end Go.K
end
section
set_option maxRecDepth 20000
namespace Go.Proofs.Ytckbdndhmcoihaa.b
open Go Go.RowKit Go.Lib Go.Shelf Go.K
noncomputable section
set_option maxHeartbeats 4000000 in
theorem aaX:acU Try.prog 36 125:=by
 have mixed:=nodes.Bp;have t85:=Try.underlying67; have a85:=Try.isAgg67; have z85:=Try.sizeOf67; have v85:=Try.zeroValue67; have u85:=run_underlying Try.underlying67;have t185:=Try.underlying125; have a185:=Try.isAgg125; have z185:=Try.sizeOf125; have v185:=Try.zeroValue125; have u185:=run_underlying Try.underlying125;have h1:=fun (a:Option Addr) (n c:Nat) (w:World)=>Lib.run_eql_slice_nil (P:=Try.prog) w 67 125 a n c 0 0 Try.underlying67;have h2:=fun b=>akj Try.underlying67 (show Try.prog.info? 125=some _ from rfl) b;refine ⟨fun c w=>?_,fun a c w=>?_⟩
 ·go_enter Try.func36,Try.ntmps36
  go_wp2
  go_ret
  exact ⟨rfl,rfl⟩
 ·go_enter Try.func36,Try.ntmps36
  go_wp2
  go_ret
  exact ⟨rfl,rfl⟩
def wQ (s:(Sl kA)):Option (Sl kA):=Fw 16 s
def wR:List KV->KR KV:=b5 Try.prog 36 (cg (dG 125 ju) fun vs=>wQ ((eF fC) (vs.getD 0 .bf)))
theorem yb:bZ Try.prog 36 wR:=age (b:=16) aaX (by kernel_rfl) (fun _=>rfl) Fv Pu ⟨by kernel_rfl,_,Try.func36,rfl,by kernel_rfl⟩
end
end Go.Proofs.Ytckbdndhmcoihaa.b
end
section
namespace Go.Proofs.Ytckbdndhmcoihaa.b
open Go.K
noncomputable section
structure Path where
 nodes:(Sl Handle)
 kids:(Sl Int)
instance:Inhabited Path:=⟨⟨default,default⟩⟩
def aec (x:Path):List KV:=[dG 32 gN x.nodes,dG 3 (kI .i64) x.kids]
def IZ (x:Path):KV:=.agg (aec x)
def aed (c:Nat->KV):Path:=⟨eF fK (c 0),eF ax (c 1)⟩
def KN (v:KV):Path:=aed fun k=>v.cells.getD k .bf
def J1  : Option (hD):=(some ((⟨(⟨(⟨(256:Int),(0:Int),(0:Int)⟩:dm),(⟨(0:Int),(256:Int),(0:Int)⟩:dm),(⟨(0:Int),(0:Int),(256:Int)⟩:dm)⟩:eU),(⟨(0:Int),(0:Int),(0:Int)⟩:fp)⟩:hD)))
theorem abV  : rv [] [] 26 [] = (J1 ).map yl:=by
 unfold J1
 kernel_rfl
def J2:List KV->KR KV:=b5 PG 26 (cg yl fun vs=>J1 )
theorem I0:bZ PG 26 J2:=ee ak.nil bu.nil fun w=>abV
def Fx (v:fp):Option (dm):=(some (⟨v.x,v.y,v.z⟩))
theorem abW (v:fp):rv [] [] 56 [oP v] = (Fx v).map eM:=by
 unfold Fx
 kernel_rfl
def XR:List KV->KR KV:=b5 PG 56 (cg eM fun vs=>Fx (kQ (v9 vs 0)))
theorem aaY:bZ PG 56 XR:=ee ak.nil bu.nil fun w=>abW (kQ (g0 36 (w 0)))
def mu (a:Int) (b:Int):Option (Int×Int):=(cond (decide (b < 1)) (some (0,2)) (cond (!(decide (b=0))) (cond (!(decide (b=0))) (cond (decide ((Int.tmod a b) < 0)) (some ((aP ((aP (Int.tdiv a b)) - 1)),0)) (some ((aP (Int.tdiv a b)),0))) none) none))
theorem Wt (a:Int) (b:Int):rv [] [] 82 [(kI .i64) a,(kI .i64) b] = (mu a b).map (fun (r:Int×Int)=>KV.l8 [(kI .i64) r.1,(kI .i64) r.2]):=by
 unfold mu
 try simp only [cf]
 kernel_rfl
def Pv:List KV->KR KV:=b5 PG 82 (cg (fun (r:Int×Int)=>KV.l8 [(kI .i64) r.1,(kI .i64) r.2]) fun vs=>mu (ax (v9 vs 0)) (ax (v9 vs 1)))
theorem UR:bZ PG 82 Pv:=ee ak.nil bu.nil fun w=>Wt (ax (g0 3 (w 0))) (ax (g0 3 (w 1)))
def KO (m:eU) (v:dm):=mu (aP ((aP ((aP (0+(aP (m.e0.e0 * v.e0))))+(aP (m.e0.e1 * v.e1))))+(aP (m.e0.e2 * v.e2)))) 256
def KQ (m:eU) (v:dm):=mu (aP ((aP ((aP (0+(aP (m.e1.e0 * v.e0))))+(aP (m.e1.e1 * v.e1))))+(aP (m.e1.e2 * v.e2)))) 256
def KS (m:eU) (v:dm):=mu (aP ((aP ((aP (0+(aP (m.e2.e0 * v.e0))))+(aP (m.e2.e1 * v.e1))))+(aP (m.e2.e2 * v.e2)))) 256
def uk (m:eU) (v:dm):Option (dm):=(cond (KO m v).isSome (cond (KQ m v).isSome (cond (KS m v).isSome (some (⟨((KO m v).getD default).fst,((KQ m v).getD default).fst,((KS m v).getD default).fst⟩)) none) none) none)
theorem abX (m:eU) (v:dm):rv [(82,Pv)] [] 55 [hX m,eM v] = (uk m v).map eM:=by
 unfold uk
 try simp only [cf]
 kernel_rfl
def Pw:List KV->KR KV:=b5 PG 55 (cg eM fun vs=>uk (dF (v9 vs 0)) (e8 (v9 vs 1)))
theorem Px:bZ PG 55 Pw:=ee (ak.cons UR ak.nil) bu.nil fun w=>abX (dF (g0 52 (w 0))) (e8 (g0 51 (w 1)))
def DA (l:dm):Option (fp):=(some (⟨l.e0,l.e1,l.e2⟩))
theorem aaZ (l:dm):rv [] [] 54 [eM l] = (DA l).map oP:=by
 unfold DA
 kernel_rfl
def UT:List KV->KR KV:=b5 PG 54 (cg oP fun vs=>DA (e8 (v9 vs 0)))
theorem Yf:bZ PG 54 UT:=ee ak.nil bu.nil fun w=>aaZ (e8 (g0 51 (w 0)))
def I1 (m:hD) (v:fp):=Fx v
def I2 (m:hD) (v:fp):=uk m.m ((I1 m v).getD default)
def yQ (m:hD) (v:fp):=DA ((I2 m v).getD default)
def wS (m:hD) (v:fp):Option (fp):=(cond (I1 m v).isSome (cond (I2 m v).isSome (cond (yQ m v).isSome (some (⟨(aP (((yQ m v).getD default).x+m.t.x)),(aP (((yQ m v).getD default).y+m.t.y)),(aP (((yQ m v).getD default).z+m.t.z))⟩)) none) none) none)
theorem aa0 (m:hD) (v:fp):rv [(54,UT),(55,Pw),(56,XR)] [] 29 [yl m,oP v] = (wS m v).map oP:=by
 unfold wS
 try simp only [cf]
 kernel_rfl
def Nb:List KV->KR KV:=b5 PG 29 (cg oP fun vs=>wS (rh (v9 vs 0)) (kQ (v9 vs 1)))
theorem NT:bZ PG 29 Nb:=ee (ak.cons Yf (ak.cons Px (ak.cons aaY ak.nil))) bu.nil fun w=>aa0 (rh (g0 54 (w 0))) (kQ (g0 36 (w 1)))
def Nc (a:hD) (b:hD):=jX a
def Nd (a:hD) (b:hD):=jX b
def DB (a:hD) (b:hD):=wS a b.t
def qU (a:hD) (b:hD):=uk a.m ⟨b.m.e0.e0,b.m.e1.e0,b.m.e2.e0⟩
def qV (a:hD) (b:hD):=uk a.m ⟨b.m.e0.e1,b.m.e1.e1,b.m.e2.e1⟩
def qW (a:hD) (b:hD):=uk a.m ⟨b.m.e0.e2,b.m.e1.e2,b.m.e2.e2⟩
def Hj (a:hD) (b:hD):=jX ⟨⟨⟨((qU a b).getD default).e0,((qV a b).getD default).e0,((qW a b).getD default).e0⟩,⟨((qU a b).getD default).e1,((qV a b).getD default).e1,((qW a b).getD default).e1⟩,⟨((qU a b).getD default).e2,((qV a b).getD default).e2,((qW a b).getD default).e2⟩⟩,((DB a b).getD default)⟩
def E6 (a:hD) (b:hD):Option (hD×Int):=(some (⟨⟨⟨0,0,0⟩,⟨0,0,0⟩,⟨0,0,0⟩⟩,⟨0,0,0⟩⟩,20))
def EC (a:hD) (b:hD):Option (hD×Int):=(cond (Nc a b).isSome (cond (((Nc a b).getD default) != 0)
  (E6 a b) (cond (Nd a b).isSome (cond (((Nd a b).getD default) != 0)
   (E6 a b) (cond (DB a b).isSome (cond (qU a b).isSome (cond (qV a b).isSome (cond (qW a b).isSome (cond (Hj a b).isSome (cond (((Hj a b).getD default) != 0) (some (⟨⟨⟨0,0,0⟩,⟨0,0,0⟩,⟨0,0,0⟩⟩,⟨0,0,0⟩⟩,((Hj a b).getD default))) (some (⟨⟨⟨((qU a b).getD default).e0,((qV a b).getD default).e0,((qW a b).getD default).e0⟩,⟨((qU a b).getD default).e1,((qV a b).getD default).e1,((qW a b).getD default).e1⟩,⟨((qU a b).getD default).e2,((qV a b).getD default).e2,((qW a b).getD default).e2⟩⟩,((DB a b).getD default)⟩,0))) none) none) none) none) none)) none)) none)
theorem aee (a:hD) (b:hD):rv [(55,Pw),(29,Nb),(28,Bx)] [] 52 [yl a,yl b] = (EC a b).map (fun (r:hD×Int)=>KV.l8 [yl r.1,(kI .i64) r.2]):=by
 unfold EC E6
 try simp only [cf]
 kernel_rfl
def Nf:List KV->KR KV:=b5 PG 52 (cg (fun (r:hD×Int)=>KV.l8 [yl r.1,(kI .i64) r.2]) fun vs=>EC (rh (v9 vs 0)) (rh (v9 vs 1)))
theorem KT:bZ PG 52 Nf:=ee (ak.cons Px (ak.cons NT (ak.cons BZ ak.nil))) bu.nil fun w=>aee (rh (g0 54 (w 0))) (rh (g0 54 (w 1)))
structure Bc where
 m:hD
 e:Int
instance:Inhabited Bc:=⟨⟨default,default⟩⟩
def Py (x:Bc):List KV:=[.int .i64 x.m.m.e0.e0,.int .i64 x.m.m.e0.e1,.int .i64 x.m.m.e0.e2,.int .i64 x.m.m.e1.e0,.int .i64 x.m.m.e1.e1,.int .i64 x.m.m.e1.e2,.int .i64 x.m.m.e2.e0,.int .i64 x.m.m.e2.e1,.int .i64 x.m.m.e2.e2,.int .i64 x.m.t.x,.int .i64 x.m.t.y,.int .i64 x.m.t.z,.int .i64 x.e]
def Pz (c:Nat->KV):Bc:=⟨⟨⟨⟨ax (c 0),ax (c 1),ax (c 2)⟩,⟨ax (c 3),ax (c 4),ax (c 5)⟩,⟨ax (c 6),ax (c 7),ax (c 8)⟩⟩,⟨ax (c 9),ax (c 10),ax (c 11)⟩⟩,ax (c 12)⟩
end
end Go.Proofs.Ytckbdndhmcoihaa.b
end
section
namespace Go.K
open Go Go.aI
theorem aX.go_rule {X:Type} {step:X->aX X} {I:Nat->X->Prop} {Q:ah->X->Prop} {n:Nat}
  (h:∀ j x,j<=n->I j x->(∃ x',step x = .next x'/\j < n/\I (j+1) x')\/∃ e x',step x = .out e x'/\mA e=false/\Q e x') :
  ∀ (r j:Nat) (x:X),j+r=n->I j x->∀ N,r < N->∃ e x',aX.go step N x = .out e x'/\Q e x'
 | r,j,x,hj,hI,0,hN=>by omega
 | r,j,x,hj,hI,N+1,hN=>by
  rcases h j x (by omega) hI with ⟨x',h1,h2,h3⟩ | ⟨e,x',h1,h2,h3⟩
  ·obtain ⟨r',rfl⟩:∃ r',r=r' + 1:=⟨r - 1,by omega⟩
   obtain ⟨e,y,h4,h5⟩:=aX.go_rule h r' (j+1) x' (by omega) h3 N (by omega);exact ⟨e,y,by simp only [aX.go,h1,h4],h5⟩
  ·exact ⟨e,x',by simp only [aX.go,h1,h2,aG],h3⟩
theorem jH {X:Type} {step:X->aX X} (I:Nat->X->Prop) (Q:ah->X->Prop) (n:Nat) (hn:n < gV)
  (h:∀ j x,j<=n->I j x->(∃ x',step x = .next x'/\j < n/\I (j+1) x')\/∃ e x',step x = .out e x'/\mA e=false/\Q e x') {x:X} (h0:I 0 x) :
  ∃ e x',goN step x = .out e x'/\Q e x':=aX.go_rule h n 0 x (by omega) h0 gV hn
theorem o7 {X:Type} {step:X->aX X} (n:Nat) (hn:n < gV) (st:Nat->X) (C:Nat->Prop) {e0 er:ah} (h0:mA e0=false) (hr:mA er=false) (R:X->Prop) {xe:X}
  (ahO:∀ j,j < n->(C j->step (st j) = .next (st (j+1)))/\(¬ C j->∃ x',step (st j) = .out er x'/\R x')) (aiM:step (st n) = .out e0 xe) :
  (goN step (st 0) = .out e0 xe/\∀ j,j < n->C j)\/∃ x',goN step (st 0) = .out er x'/\R x'/\∃ j,j < n/\¬ C j:=by
 obtain ⟨e,x',h1,h2⟩:=jH (step:=step) (fun j x=>x=st j/\∀ i,i < j->C i) (fun e x'=>(e=e0/\x' = xe/\∀ j,j < n->C j)\/(e=er/\R x'/\∃ j,j < n/\¬ C j)) n hn (fun j x hj ⟨hx,cM⟩=>by
  subst hx;by_cases bj:j < n
  ·obtain ⟨q1,q2⟩:=ahO j bj
   by_cases hc:C j
   ·exact .inl ⟨_,q1 hc,bj,rfl,fun i hi=>by
     by_cases e:i=j
     ·subst e; exact hc
     ·exact cM i (by omega)⟩
   ·obtain ⟨x',h3,h4⟩:=q2 hc
    exact .inr ⟨_,_,h3,hr,.inr ⟨rfl,h4,j,bj,hc⟩⟩
  ·have:j=n:=by omega
   subst this;exact .inr ⟨_,_,aiM,h0,.inl ⟨rfl,rfl,cM⟩⟩) (x:=st 0) ⟨rfl,fun i hi=>absurd hi (oX _)⟩
 rcases h2 with ⟨rfl,rfl,h2⟩ | ⟨rfl,h2,h3⟩
 ·exact .inl ⟨h1,h2⟩
 ·exact .inr ⟨x',h1,h2,h3⟩
theorem aX.um {X:Type} (e:ah) (x:X) (e' : ah):(aX.out e x).by e' = zq e e':=rfl
theorem aX.kD {X:Type} [Inhabited X] (e:ah) (x:X):(aX.out e x).st=x:=rfl
theorem di {n:Int} (h : -9223372036854775808<=n) (h' : n < 9223372036854775808):aP n=n:=by
 show IntKind.wrap .i64 n=n;unfold IntKind.wrap;by_cases hn:0<=n
 ·have h1:n % (2 ^ IntKind.i64.bits:Int)=n:=Int.emod_eq_of_lt hn (by show n < 18446744073709551616; omega)
  simp only [h1];rw [aa];intro hc;simp only [ao,lT] at hc;have:n >= 9223372036854775808:=hc.2;omega
 ·have h1:n % (2 ^ IntKind.i64.bits:Int)=n+18446744073709551616:=by
   show n % 18446744073709551616=n+18446744073709551616;omega
  simp only [h1];rw [aE]
  ·show n+18446744073709551616 - 18446744073709551616=n
   omega
  ·simp only [ao,lT]
   refine ⟨rfl,?_⟩;show n+18446744073709551616 >= 9223372036854775808;omega
theorem akl {b n m:Nat} (h:(n+m) * b<=140737488355328) (h2:n+m<=17592186044416):dQ b n m=true:=by
 unfold dQ;rw [ao];exact ⟨Nat.ble_eq_true_of_le h,Nat.ble_eq_true_of_le h2⟩
theorem uG {b n m:Nat} (hb:b<=1000000:=by omega) (hn:n<=1000000:=by omega) (hm:m<=1000000:=by omega):dQ b n m=true:=
 akl (gS (Nat.mul_le_mul (by omega:n+m<=2000000) hb) (by decide)) (by omega)
@[simp] theorem cv (n:Nat):ai n n=true:=tI n
theorem Sl.YL {α:Type} [Inhabited α] (s:Sl α) (v:α):(s.push v).n=s.n+1:=rfl
theorem Sl.Hz {α:Type} [Inhabited α] {s:Sl α} {v:α} {i:Nat} (h:i < s.n):(s.push v).get i=s.get i:=by
 have:Nat.blt i s.n=true:=by rw [bG]; exact h
 simp only [Sl.push,this,aj]
theorem Sl.ED {α:Type} [Inhabited α] {s:Sl α} {v:α} : (s.push v).get s.n=v:=by
 have:Nat.blt s.n s.n=false:=by
  cases h:Nat.blt s.n s.n with
  | false=>rfl
  | true=>rw [bG] at h; omega
 simp only [Sl.push,this,aG,tI,aj]
theorem Sl.aa1 {α:Type} {s t:Sl α} {i:Nat} (h:i < s.n):(s.join t).get i=s.get i:=by
 have:Nat.blt i s.n=true:=by rw [bG]; exact h
 simp only [Sl.join,this,aj]
theorem Sl.agf {α:Type} {s t:Sl α} {i:Nat} (h:s.n<=i):(s.join t).get i=t.get (i - s.n):=by
 have:Nat.blt i s.n=false:=by
  cases h' : Nat.blt i s.n with
  | false=>rfl
  | true=>rw [bG] at h'; omega
 simp only [Sl.join,this,aG]
end Go.K
end
section
namespace Go.Proofs.Ytckbdndhmcoihaa.sc
open Go Go.K
def qu (n lP:Int):Prop:=-lP<=n/\n<=lP
instance (n lP:Int):Decidable (qu n lP):=by unfold qu; exact inferInstance
def rK (v:b.fp) (k:Int):Prop:=qu v.x k/\qu v.y k/\qu v.z k
instance (v:b.fp) (k:Int):Decidable (rK v k):=by unfold rK; exact inferInstance
def Ng (r:b.dm):Prop:=qu r.e0 1024/\qu r.e1 1024/\qu r.e2 1024
def RowsIn (m:b.eU):Prop:=Ng m.e0/\Ng m.e1/\Ng m.e2
def EE (m:b.hD):Prop:=RowsIn m.m/\rK m.t 4096
theorem chain {p:Prop} [Decidable p] {x:Option Bool} {Q:Prop} (h1:p->¬ Q) (h2 : ¬ p->∃ r,x=some r/\(r=true↔Q)):∃ r,cond (decide p) (some false) x=some r/\(r=true↔Q):=by
 by_cases h:p
 ·rw [az h]
  exact ⟨false,rfl,⟨fun k=>by simp at k,fun k=>absurd k (h1 h)⟩⟩
 ·rw [bq h]
  exact h2 h
theorem akm (lP:Int) (l:Sl Int) (h:0<=lP) (h' : lP<=1000000) (hn:l.n < 1000000):∃ r,b.Hy lP l=some r/\(r=true↔∀ i,i < l.n->qu (l.get i) lP):=by
 unfold b.Hy b.JY;obtain ⟨e,x',h1,h2⟩:∃ e x',goN b.tE (⟨lP,false,l,((l.n:Nat):Int),(0:Int)⟩:b.qS) = .out e x'/\((e = .exit 0/\∀ i,i < l.n->qu (l.get i) lP)\/(e = .ret/\x'.t4=false/\∃ i,i < l.n/\¬ qu (l.get i) lP)):=by
  refine jH (X:=b.qS) (fun j x=>x=⟨lP,false,l,((l.n:Nat):Int),(j:Int)⟩/\∀ i,i < j->qu (l.get i) lP) (fun e x'=>(e = .exit 0/\∀ i,i < l.n->qu (l.get i) lP)\/(e = .ret/\x'.t4=false/\∃ i,i < l.n/\¬ qu (l.get i) lP)) l.n (by unfold gV; omega) ?_ ⟨rfl,fun i hi=>absurd hi (oX _)⟩;rintro j _ hj ⟨rfl,cM⟩;unfold b.tE
  dsimp only
  by_cases bj:(j:Int) < (l.n:Int)
  ·have h0:(0:Int)<=(j:Int):=by omega
   rw [az bj,az h0,di (n:=0 - lP) (by omega) (by omega)];simp only [EH,aj];have ej:Int.toNat (j:Int)=j:=rfl;rw [ej];by_cases q1:l.get j < 0 - lP
   ·rw [az q1]
    exact .inr ⟨_,_,rfl,rfl,.inr ⟨rfl,rfl,j,by omega,fun k=>by have:=k.1; omega⟩⟩
   ·rw [bq q1,aG]
    by_cases q2:l.get j > lP
    ·rw [az q2]
     exact .inr ⟨_,_,rfl,rfl,.inr ⟨rfl,rfl,j,by omega,fun k=>by have:=k.2; omega⟩⟩
    ·rw [bq q2,aG,di (by omega) (by omega)]
     refine .inl ⟨_,rfl,by omega,by congr 1,fun i hi=>?_⟩;by_cases e:i=j
     ·subst e; exact ⟨by omega,by omega⟩
     ·exact cM i (by omega)
  ·rw [bq bj,aG]
   exact .inr ⟨_,_,rfl,rfl,.inl ⟨rfl,fun i hi=>cM i (by omega)⟩⟩
 rw [h1];rcases h2 with ⟨rfl,h2⟩ | ⟨rfl,h2,i,h3,h4⟩
 ·exact ⟨true,rfl,⟨fun _=>h2,fun _=>rfl⟩⟩
 ·exact ⟨x'.t4,rfl,⟨fun k=>by rw [h2] at k; simp at k,fun k=>absurd (k i h3) h4⟩⟩
theorem apD {P:Int->Prop} {x y z:Int} : (∀ i,i < (Sl.lit [x,y,z]).n->P ((Sl.lit [x,y,z]).get i))↔P x/\P y/\P z:=by
 constructor
 ·exact fun h=>⟨h 0 (show 0 < 3 by omega),h 1 (show 1 < 3 by omega),h 2 (show 2 < 3 by omega)⟩
 ·rintro ⟨h1,h2,h3⟩ i hi
  have hi:i < 3:=hi;rcases (by omega:i=0\/i=1\/i=2) with rfl | rfl | rfl
  ·exact h1
  ·exact h2
  ·exact h3
theorem J3 (v:b.fp):b.qT v=some (if rK v 4096 then 0 else 20):=by
 unfold b.qT b.Dv;obtain ⟨r,h1,h2⟩:=akm 4096 (Sl.lit [v.x,v.y,v.z]) (by omega) (by omega) (by show 3 < 1000000; omega);have h2:r=true↔rK v 4096:=h2.trans (apD (P:=fun n=>qu n 4096));rw [h1];cases r with
 | true=>rw [aE (h2.1 rfl)]; rfl
 | false=>rw [aa fun k=>by have:=h2.2 k; simp at this]; rfl
theorem ahP (m:b.eU):∃ r,b.Cn m=some r/\(r=true↔RowsIn m):=by
 unfold b.Cn RowsIn Ng qu
 iterate 18 refine chain (fun h k=>by omega) fun _=>?_
 exact ⟨true,rfl,⟨fun _=>by omega,fun _=>rfl⟩⟩
theorem yR (m:b.hD):(∃ e,b.jX m=some e/\(e=0/\EE m\/e=20/\¬ EE m)):=by
 unfold b.jX b.Dw b.Dx EE;obtain ⟨r,h1,h2⟩:=ahP m.m;rw [h1,J3];cases r with
 | false=>exact ⟨20,rfl,.inr ⟨rfl,fun k=>by have:=h2.2 k.1; simp at this⟩⟩
 | true=>
  by_cases h3:rK m.t 4096
  ·rw [aE h3]; exact ⟨0,rfl,.inl ⟨rfl,h2.1 rfl,h3⟩⟩
  ·rw [aa h3]; exact ⟨20,rfl,.inr ⟨rfl,fun k=>h3 k.2⟩⟩
theorem agh (a:Int) (ha : -4611686018427387904<=a/\a<=4611686018427387904):b.mu a 256=some (a / 256,0):=by
 have h1:decide ((256:Int) < 1)=false:=rfl;have h2:decide ((256:Int)=0)=false:=rfl;have h3:=Int.mul_tdiv_add_tmod a 256;have h4:=Int.natAbs_tdiv_le_natAbs a 256;have h5:(Int.tmod a 256).natAbs < (256:Int).natAbs:=by rw [Int.natAbs_tmod]; exact Nat.mod_lt _ (by omega)
 unfold b.mu;simp only [h1,h2,aG,GQ,aj];by_cases hr:Int.tmod a 256 < 0
 ·have e:a / 256=Int.tdiv a 256 - 1:=((Int.ediv_emod_unique (by omega:(0:Int) < 256)).2 ⟨(show (Int.tmod a 256+256)+256 * (Int.tdiv a 256 - 1)=a by omega),by omega,by omega⟩).1
  rw [az hr,aj,di (n:=Int.tdiv a 256) (by omega) (by omega),di (by omega) (by omega),e]
 ·have e:a / 256=Int.tdiv a 256:=((Int.ediv_emod_unique (by omega:(0:Int) < 256)).2 ⟨(show Int.tmod a 256+256 * Int.tdiv a 256=a by omega),by omega,by omega⟩).1
  rw [bq hr,aG,di (by omega) (by omega),e]
def dot (r:b.dm) (x y z:Int):Int:=r.e0 * x+r.e1 * y+r.e2 * z
theorem aef {a b A B:Int} (h:qu a A) (k:qu b B) (hA:0<=A) (hB:0<=B):qu (a * b) (A * B):=by
 have h1:a.natAbs<=A.natAbs:=by have:=h.1; have:=h.2; omega
 have h2:b.natAbs<=B.natAbs:=by have:=k.1; have:=k.2; omega
 have h3:(a * b).natAbs<=A.natAbs * B.natAbs:=by rw [Int.natAbs_mul]; exact Nat.mul_le_mul h1 h2
 have h4:((A.natAbs * B.natAbs:Nat):Int)=A * B:=by rw [Int.natCast_mul,Int.natAbs_of_nonneg hA,Int.natAbs_of_nonneg hB]
 unfold qu;omega
theorem aa2 {r:b.dm} {x y z:Int} (h:Ng r) (hx:qu x 4096) (hy:qu y 4096) (hz:qu z 4096):qu (r.e0 * x) 4194304/\qu (r.e1 * y) 4194304/\qu (r.e2 * z) 4194304:=
 ⟨aef h.1 hx (by omega) (by omega),aef h.2.1 hy (by omega) (by omega),aef h.2.2 hz (by omega) (by omega)⟩
theorem YM {r:b.dm} {x y z:Int} (h:Ng r) (hx:qu x 4096) (hy:qu y 4096) (hz:qu z 4096):qu (dot r x y z) 12582912:=by
 obtain ⟨h1,h2,h3⟩:=aa2 h hx hy hz;unfold dot;unfold qu at *;omega
theorem Nh (m:b.eU) (v:b.dm) (h:RowsIn m) (hx:qu v.e0 4096) (hy:qu v.e1 4096) (hz:qu v.e2 4096) :
  b.uk m v=some ⟨dot m.e0 v.e0 v.e1 v.e2 / 256,dot m.e1 v.e0 v.e1 v.e2 / 256,dot m.e2 v.e0 v.e1 v.e2 / 256⟩:=by
 have one:∀ r,Ng r->b.mu (aP ((aP ((aP ((0:Int)+(aP (r.e0 * v.e0))))+(aP (r.e1 * v.e1))))+(aP (r.e2 * v.e2)))) 256=some (dot r v.e0 v.e1 v.e2 / 256,0):=by
  intro r hr;obtain ⟨h1,h2,h3⟩:=aa2 hr hx hy hz;have h4:=YM hr hx hy hz;unfold dot qu at *;rw [di (n:=r.e0 * v.e0) (by omega) (by omega),di (n:=r.e1 * v.e1) (by omega) (by omega),di (n:=r.e2 * v.e2) (by omega) (by omega),di (n:=0+r.e0 * v.e0) (by omega) (by omega),Int.zero_add,di (n:=r.e0 * v.e0+r.e1 * v.e1) (by omega) (by omega),di (by omega) (by omega)];exact agh _ (by omega)
 unfold b.uk b.KO b.KQ b.KS;rw [one _ h.1,one _ h.2.1,one _ h.2.2];rfl
def SZ (t:b.gP):Prop:=0 < t.w/\t.w<=16/\0 < t.h/\t.h<=16/\((t.Ux.n:Nat):Int)=aP (t.w * t.h)
theorem aa3 (n:Int):∃ r,b.qt n=some r/\(r=true↔0 < n/\n<=16):=by
 unfold b.qt;by_cases h1:n > 0
 ·rw [az h1]
  exact ⟨_,rfl,by rw [decide_eq_true_iff]; omega⟩
 ·rw [bq h1]
  exact ⟨false,rfl,⟨fun k=>by simp at k,fun k=>absurd k.1 h1⟩⟩
theorem akn (t:b.gP):∃ e,b.rA t=some e/\(e=0/\SZ t\/e=8/\¬ SZ t):=by
 unfold b.rA b.BV b.BX SZ;obtain ⟨r,h1,h2⟩:=aa3 t.w;obtain ⟨q,h3,h4⟩:=aa3 t.h;rw [h1,h3];simp only [iG,fv,aj];cases r with
 | false=>exact ⟨8,rfl,.inr ⟨rfl,fun k=>by have:=h2.2 ⟨k.1,k.2.1⟩; simp at this⟩⟩
 | true=>
  have h2:=h2.1 rfl;cases q with
  | false=>exact ⟨8,rfl,.inr ⟨rfl,fun k=>by have:=h4.2 ⟨k.2.2.1,k.2.2.2.1⟩; simp at this⟩⟩
  | true=>
   have h4:=h4.1 rfl;by_cases h5:((t.Ux.n:Nat):Int)=aP (t.w * t.h)
   ·rw [bne_eq_false_iff_eq.2 h5]
    exact ⟨0,rfl,.inl ⟨rfl,h2.1,h2.2,h4.1,h4.2,h5⟩⟩
   ·rw [bne_iff_ne.2 h5]
    exact ⟨8,rfl,.inr ⟨rfl,fun k=>h5 k.2.2.2.2⟩⟩
def aeg (p:b.Prim):Prop:=p.kind<=2/\p.index.n<=200/\(p.kind=0->p.index.n % 3=0)/\(p.kind > 0->p.index.n=0\/3<=p.index.n)
def Ni (k:Int) (j:Nat):Nat:=if k=0 then (j+2) / 3 else j
def Kt (p:b.Prim):Nat:=Ni p.kind (p.index.n - 2)
theorem ahQ (p:b.Prim) (h0:0<=p.kind) (h2:p.kind<=2) (hn:p.index.n<=200) (z:Sl b.dm) (t:Int) :
  ∃ x',goN b.kv (⟨z,t,⟨0,fun _=>⟨0,0,0⟩⟩,p.index,(0:Int),p⟩:b.dW) = .out (.exit 1) x'/\x'.out.n=Kt p:=by
 have HM:=fun ahO=>jH (X:=b.dW) (step:=b.kv) (fun j x=>∃ o:Sl b.dm,x=⟨z,t,o,p.index,(j:Int),p⟩/\o.n=Ni p.kind j) (fun e x'=>e = .exit 1/\x'.out.n=Kt p) (p.index.n - 2) (by unfold gV; omega) ahO (x:=⟨z,t,⟨0,fun _=>⟨0,0,0⟩⟩,p.index,(0:Int),p⟩) ⟨_,rfl,by unfold Ni; split <;> rfl⟩;refine Exists.elim (HM ?_) fun e ⟨x,h1,he,h3⟩=>?_
 rotate_left
 ·subst he; exact ⟨x,h1,h3⟩
 rintro j _ hj ⟨o,rfl,ho⟩;have ho200:o.n<=200:=by rw [ho]; unfold Ni; split <;> omega
 unfold b.kv b.qR b.qQ b.qP
 dsimp only
 have e1:aP ((j:Int)+1)=((j+1:Nat):Int):=by rw [di (by omega) (by omega)]; omega
 have e2:aP ((j:Int)+2)=((j+2:Nat):Int):=by rw [di (by omega) (by omega)]; omega
 rw [e1,e2];by_cases bj:((j+2:Nat):Int) < (p.index.n:Int)
 ·have d1:decide ((0:Int)<=(j:Int))=true:=az (by omega)
  have d2:decide ((j:Int) < (p.index.n:Int))=true:=az (by omega);have d3:decide ((0:Int)<=((j+1:Nat):Int))=true:=az (by omega);have d4:decide (((j+1:Nat):Int) < (p.index.n:Int))=true:=az (by omega);have d5:decide ((0:Int)<=((j+2:Nat):Int))=true:=az (by omega);have d6:decide (((j+2:Nat):Int) < (p.index.n:Int))=true:=az bj;have d7:decide ((0:Int) < (p.index.n:Int))=true:=az (by omega);have da:dQ 24 o.n 1=true:=uG;rw [d1,d2,d3,d4,d5,d6,d7,da];simp only [cv,EH,cC,aj];have Z9:j < p.index.n - 2:=by omega
  rcases (by omega:p.kind=0\/p.kind=1\/p.kind=2) with hk | hk | hk
  ·rw [hk]
   by_cases h3:Int.tmod (j:Int) 3=0
   ·rw [Bf.2 h3]
    refine .inl ⟨_,rfl,Z9,_,rfl,?_⟩;rw [Sl.YL,ho,hk];have:Int.tmod (j:Int) 3=((j % 3:Nat):Int):=rfl;unfold Ni;rw [aE rfl,aE rfl];omega
   ·rw [beq_eq_false_iff_ne.2 h3]
    refine .inl ⟨_,rfl,Z9,_,rfl,?_⟩;rw [ho,hk];have:Int.tmod (j:Int) 3=((j % 3:Nat):Int):=rfl;unfold Ni;rw [aE rfl,aE rfl];omega
  ·rw [hk]
   have hc:∀ j,Ni 1 j=j:=fun j=>rfl;by_cases h3:Int.tmod (j:Int) 2=0
   ·rw [Bf.2 h3]
    exact .inl ⟨_,rfl,Z9,_,rfl,by rw [Sl.YL,ho,hk,hc,hc]⟩
   ·rw [beq_eq_false_iff_ne.2 h3]
    exact .inl ⟨_,rfl,Z9,_,rfl,by rw [Sl.YL,ho,hk,hc,hc]⟩
  ·rw [hk]
   have hc:∀ j,Ni 2 j=j:=fun j=>rfl;exact .inl ⟨_,rfl,Z9,_,rfl,by rw [Sl.YL,ho,hk,hc,hc]⟩
 ·rw [bq bj,aG]
  simp only [cv,aj];refine .inr ⟨_,_,rfl,rfl,rfl,?_⟩;show o.n=_;rw [ho];have:j=p.index.n - 2:=by omega
  subst this;rfl
theorem ahR (p:b.Prim) (h0:0<=p.kind) (h2:p.kind<=2):∃ r,b.zP p=some r/\(r=true↔(p.kind=0->p.index.n % 3=0)/\(p.kind > 0->p.index.n=0\/3<=p.index.n)):=by
 unfold b.zP b.Bt;have key:∀ {k:Int},(p.kind=k->k > 0)->∃ r,cond (((p.index.n:Nat):Int)==(0:Int)) (some true) (some (decide (((p.index.n:Nat):Int) >= (3:Int))))=some r/\(r=true↔(p.index.n=0\/3<=p.index.n)):=by
  intro k _;by_cases h:((p.index.n:Nat):Int)=0
  ·rw [Bf.2 h]
   exact ⟨true,rfl,⟨fun _=>.inl (by omega),fun _=>rfl⟩⟩
  ·rw [beq_eq_false_iff_ne.2 h]
   exact ⟨_,rfl,by rw [decide_eq_true_iff]; omega⟩
 rcases (by omega:p.kind=0\/p.kind=1\/p.kind=2) with hk | hk | hk
 ·rw [hk]
  refine ⟨_,rfl,?_⟩;rw [Bf];have:Int.tmod ((p.index.n:Nat):Int) 3=((p.index.n % 3:Nat):Int):=rfl;rw [this];exact ⟨fun h=>⟨fun _=>by omega,fun h=>absurd h (by omega)⟩,fun h=>by have:=h.1 rfl; omega⟩
 ·rw [hk]
  obtain ⟨r,h1,h3⟩:=key (k:=1) (fun _=>by omega);exact ⟨r,h1,h3.trans ⟨fun h=>⟨fun k=>absurd k (by omega),fun _=>h⟩,fun h=>h.2 (by omega)⟩⟩
 ·rw [hk]
  obtain ⟨r,h1,h3⟩:=key (k:=2) (fun _=>by omega);exact ⟨r,h1,h3.trans ⟨fun h=>⟨fun k=>absurd k (by omega),fun _=>h⟩,fun h=>h.2 (by omega)⟩⟩
theorem ahS (p:b.Prim) (h0:0<=p.kind):∃ l e,b.zQ p=some (l,e)/\(e=0/\aeg p/\l.n=Kt p\/e≠0/\¬ aeg p/\l.n=0):=by
 unfold b.zQ;by_cases h1:p.kind > 2
 ·rw [az h1]
  exact ⟨_,_,rfl,.inr ⟨by decide,fun k=>by have:=k.1; omega,rfl⟩⟩
 ·rw [bq h1,aG]
  by_cases h2:((p.index.n:Nat):Int) > 200
  ·rw [az h2]
   exact ⟨_,_,rfl,.inr ⟨by decide,fun k=>by have:=k.2.1; omega,rfl⟩⟩
  ·rw [bq h2,aG]
   unfold b.IP b.IQ;obtain ⟨r,h3,h4⟩:=ahR p h0 (by omega);rw [h3];cases r with
   | false=>
    exact ⟨_,_,rfl,.inr ⟨by decide,fun k=>by have:=h4.2 k.2.2; simp at this,rfl⟩⟩
   | true=>
    obtain ⟨x',h5,h6⟩:=ahQ p h0 (by omega) (by omega) ⟨0,fun _=>⟨0,0,0⟩⟩ 0;rw [h5];exact ⟨_,_,rfl,.inl ⟨rfl,⟨by omega,by omega,h4.1 rfl⟩,h6⟩⟩
def tot (m:b.gu):Nat->Nat
 | 0=>0
 | k+1=>tot m k+Kt (m.fY.get k)
theorem ako (m:b.gu) {i j:Nat} (h:i<=j):tot m i<=tot m j:=by
 induction j with
 | zero=>have:i=0:=by omega
         subst this; exact aB _
 | succ j ih=>
  by_cases e:i=j+1
  ·subst e; exact aB _
  ·have:=ih (by omega)
   show tot m i<=tot m j+_;omega
def ajo (m:b.gu) (k:Nat):Prop:=aeg (m.fY.get k)/\∀ i,i < (m.fY.get k).index.n->0<=(m.fY.get k).index.get i/\(m.fY.get k).index.get i < (m.ay.n:Int)
def Qw (m:b.gu):Prop:=(∀ k,k < m.fY.n->ajo m k)/\tot m m.fY.n<=64
def I3 (m:b.gu):Prop:=∀ k,k < m.fY.n->0<=(m.fY.get k).kind
theorem agi (z o:Sl b.dm) (t:Bool) (q:Sl b.Prim) (a c:Int) (l:Sl Int) (hl:l.n<=1000) (m:b.gu) :
  (∃ k,goN b.ff (⟨z,t,o,q,a,c,l,((l.n:Nat):Int),(0:Int),m⟩:b.fc) = .out (.exit 2) ⟨z,t,o,q,a,c,l,((l.n:Nat):Int),k,m⟩/\∀ i,i < l.n->0<=l.get i/\l.get i < (m.ay.n:Int))\/
  ∃ x',goN b.ff (⟨z,t,o,q,a,c,l,((l.n:Nat):Int),(0:Int),m⟩:b.fc) = .out .ret x'/\x'.t3=false/\∃ i,i < l.n/\¬ (0<=l.get i/\l.get i < (m.ay.n:Int)):=by
 have key:=o7 (step:=b.ff) l.n (by unfold gV; omega) (fun j=>⟨z,t,o,q,a,c,l,((l.n:Nat):Int),(j:Int),m⟩) (fun i=>0<=l.get i/\l.get i < (m.ay.n:Int)) (e0:=.exit 2) (er:=.ret) rfl rfl (fun x'=>x'.t3=false) (xe:=⟨z,t,o,q,a,c,l,((l.n:Nat):Int),((l.n:Nat):Int),m⟩) (fun j hj=>by
  have e1:aP ((j:Int)+1)=((j+1:Nat):Int):=by rw [di (by omega) (by omega)]; omega
  have d1:decide ((j:Int) < ((l.n:Nat):Int))=true:=az (by omega);have d2:decide ((0:Int)<=(j:Int))=true:=az (by omega);have ej:Int.toNat (j:Int)=j:=rfl;unfold b.ff b.kh
  dsimp only
  rw [d1,d2,ej,e1];simp only [cv,cC,aj];constructor
  ·rintro ⟨h1,h2⟩
   rw [bq (show ¬ l.get j < 0 by omega),bq (show ¬ l.get j >= (m.ay.n:Int) by omega)];rfl
  ·intro h
   by_cases h1:l.get j < 0
   ·rw [az h1]
    exact ⟨_,rfl,rfl⟩
   ·rw [bq h1,az (show l.get j >= (m.ay.n:Int) by omega)]
    exact ⟨_,rfl,rfl⟩) (by
  unfold b.ff b.kh
  dsimp only
  rw [bq (Int.lt_irrefl _)];simp only [cv,aj,aG])
 rcases key with ⟨h1,h2⟩ | ⟨x',h1,h2,h3⟩
 ·exact .inl ⟨_,h1,h2⟩
 ·exact .inr ⟨x',h1,h2,h3⟩
theorem aa4 (m:b.gu) (hk:I3 m) (hp:m.fY.n < 1000000):∃ l r,b.wI m=some (l,r)/\(r=true↔Qw m):=by
 unfold b.wI b.vM;obtain ⟨e,x',h1,h2⟩:∃ e x',goN b.og (⟨⟨0,fun _=>⟨0,0,0⟩⟩,false,⟨0,fun _=>⟨0,0,0⟩⟩,m.fY,((m.fY.n:Nat):Int),(0:Int),m⟩:b.fR) = .out e x'/\((e = .exit 0/\Qw m)\/(e = .ret/\x'.t3=false/\¬ Qw m)):=by
  refine jH (X:=b.fR) (fun j x=>∃ o:Sl b.dm,x=⟨⟨0,fun _=>⟨0,0,0⟩⟩,false,o,m.fY,((m.fY.n:Nat):Int),(j:Int),m⟩/\o.n=tot m j/\tot m j<=64/\∀ k,k < j->ajo m k) (fun e x'=>(e = .exit 0/\Qw m)\/(e = .ret/\x'.t3=false/\¬ Qw m)) m.fY.n (by unfold gV; omega) ?_ ⟨_,rfl,rfl,by show 0<=64; omega,fun k hk=>absurd hk (oX _)⟩;rintro j _ hj ⟨o,rfl,ho,ht,qy⟩;unfold b.og b.rU b.cl b.fZ
  dsimp only
  by_cases bj:(j:Int) < ((m.fY.n:Nat):Int)
  ·have d1:decide ((j:Int) < ((m.fY.n:Nat):Int))=true:=az bj
   have d2:decide ((0:Int)<=(j:Int))=true:=az (by omega);have ej:Int.toNat (j:Int)=j:=rfl;obtain ⟨l,e,h1,h2⟩:=ahS (m.fY.get j) (hk j (by omega));have hln:l.n<=200:=by
    rcases h2 with ⟨_,q,h⟩ | ⟨_,_,h⟩
    ·rw [h]; have:=q.2.1; unfold Kt Ni; split <;> omega
    ·omega
   have da:dQ 24 o.n l.n=true:=uG;rw [d1,d2,ej,h1];simp only [iG,fv,aj,cC,cv,da];rcases h2 with ⟨rfl,hpo,hn⟩ | ⟨he,hpo,hn⟩
   ·have cI:((0:Int) != 0)=false:=rfl
    rw [cI,aG];have hs:tot m (j+1)=o.n+l.n:=by show tot m j+Kt _=_; rw [ho,hn]
    by_cases h64:(((o.n+l.n:Nat)):Int) > 64
    ·rw [az h64]
     exact .inr ⟨_,_,rfl,rfl,.inr ⟨rfl,rfl,fun k=>by have:=ako m (show j+1<=m.fY.n by omega); have:=k.2; omega⟩⟩
    ·rw [bq h64,aG]
     have e1:aP ((j:Int)+1)=((j+1:Nat):Int):=by rw [di (by omega) (by omega)]; omega
     rcases agi ⟨0,fun _=>⟨0,0,0⟩⟩ (o.join l) false m.fY ((m.fY.n:Nat):Int) (j:Int) (m.fY.get j).index (by have:=hpo.2.1; omega) m with ⟨k,q1,q2⟩ | ⟨x',q1,q2,i,q3,q4⟩
     ·rw [q1]
      simp only [aX.um,aX.kD,cv,aj];rw [e1];refine .inl ⟨_,rfl,by omega,o.join l,rfl,by rw [hs]; rfl,by omega,fun k' mD=>?_⟩;by_cases e:k' = j
      ·subst e; exact ⟨hpo,q2⟩
      ·exact qy k' (by omega)
     ·rw [q1]
      simp only [aX.um,aX.kD,cv,aj];exact .inr ⟨_,_,rfl,rfl,.inr ⟨rfl,q2,fun k=>q4 ((k.1 j (by omega)).2 i q3)⟩⟩
   ·have cI:(e != (0:Int))=true:=by rw [bne_iff_ne]; exact he
    rw [cI];exact .inr ⟨_,_,rfl,rfl,.inr ⟨rfl,rfl,fun k=>hpo (k.1 j (by omega)).1⟩⟩
  ·rw [bq bj,aG]
   simp only [cv,aj];have:j=m.fY.n:=by omega
   subst this;exact .inr ⟨_,_,rfl,rfl,.inl ⟨rfl,qy,ht⟩⟩
 rw [h1];rcases h2 with ⟨rfl,h2⟩ | ⟨rfl,h2,h3⟩
 ·exact ⟨_,true,rfl,⟨fun _=>h2,fun _=>rfl⟩⟩
 ·exact ⟨_,x'.t3,rfl,⟨fun k=>by rw [h2] at k; simp at k,fun k=>absurd k h3⟩⟩
def agj (q:b.kA):Prop:=0<=q.e0/\q.e0<=255/\0<=q.e1/\q.e1<=255
def aeh (m:b.gu):Prop:=m.ay.n<=64/\m.uV.n<=64/\m.fY.n<=16
def Hk (m:b.gu):Prop:=aeh m/\m.uV.n=m.ay.n/\(∀ i,i < m.ay.n->rK (m.ay.get i) 1024)/\(∀ i,i < m.uV.n->agj (m.uV.get i))/\Qw m
theorem agk (s:Sl b.fp) (hs:s.n<=64):(∃ x',goN b.bH (⟨s,(0:Int),((s.n:Nat):Int),(0:Int)⟩:b.bT) = .out (.exit 0) x'/\∀ i,i < s.n->rK (s.get i) 1024)\/
  ∃ x',goN b.bH (⟨s,(0:Int),((s.n:Nat):Int),(0:Int)⟩:b.bT) = .out .ret x'/\x'.t4 >= 0/\∃ i,i < s.n/\¬ rK (s.get i) 1024:=by
 have key:=o7 (step:=b.bH) s.n (by unfold gV; omega) (fun j=>⟨s,(0:Int),((s.n:Nat):Int),(j:Int)⟩) (fun k=>rK (s.get k) 1024) (e0:=.exit 0) (er:=.ret) rfl rfl (fun x'=>x'.t4 >= 0) (xe:=⟨s,(0:Int),((s.n:Nat):Int),((s.n:Nat):Int)⟩) (fun j hj=>by
  have e1:aP ((j:Int)+1)=((j+1:Nat):Int):=by rw [di (by omega) (by omega)]; omega
  have d1:decide ((j:Int) < ((s.n:Nat):Int))=true:=az (by omega);have d2:decide ((0:Int)<=(j:Int))=true:=az (by omega);have ej:Int.toNat (j:Int)=j:=rfl;unfold b.bH rK qu
  dsimp only
  rw [d1,d2,ej,e1];simp only [cC,aj];generalize s.get j=v;have Jq:(j:Int) >= 0:=by omega
  by_cases h1:v.x >= -1024
  ·by_cases h2:v.x<=1024
   ·by_cases h3:v.y >= -1024
    ·by_cases h4:v.y<=1024
     ·by_cases h5:v.z >= -1024
      ·by_cases h6:v.z<=1024
       ·rw [az h1,az h2,az h3,az h4,az h5,az h6]
        exact ⟨fun _=>rfl,fun h=>absurd ⟨⟨h1,h2⟩,⟨h3,h4⟩,h5,h6⟩ h⟩
       ·rw [az h1,az h2,az h3,az h4,az h5,bq h6]
        exact ⟨fun h=>absurd h.2.2.2 h6,fun h=>⟨_,rfl,Jq⟩⟩
      ·rw [az h1,az h2,az h3,az h4,bq h5]
       exact ⟨fun h=>absurd h.2.2.1 h5,fun h=>⟨_,rfl,Jq⟩⟩
     ·rw [az h1,az h2,az h3,bq h4]
      exact ⟨fun h=>absurd h.2.1.2 h4,fun h=>⟨_,rfl,Jq⟩⟩
    ·rw [az h1,az h2,bq h3]
     exact ⟨fun h=>absurd h.2.1.1 h3,fun h=>⟨_,rfl,Jq⟩⟩
   ·rw [az h1,bq h2]
    exact ⟨fun h=>absurd h.1.2 h2,fun h=>⟨_,rfl,Jq⟩⟩
  ·rw [bq h1]
   exact ⟨fun h=>absurd h.1.1 h1,fun h=>⟨_,rfl,Jq⟩⟩) (by
  unfold b.bH
  dsimp only
  rw [bq (Int.lt_irrefl _)];rfl)
 rcases key with ⟨h1,h2⟩ | ⟨x',h1,h2,h3⟩
 ·exact .inl ⟨_,h1,h2⟩
 ·exact .inr ⟨x',h1,h2,h3⟩
theorem akp (s:Sl b.kA) (hs:s.n<=64):(∃ x',goN b.bI (⟨s,(0:Int),((s.n:Nat):Int),(0:Int)⟩:b.bU) = .out (.exit 0) x'/\∀ i,i < s.n->agj (s.get i))\/
  ∃ x',goN b.bI (⟨s,(0:Int),((s.n:Nat):Int),(0:Int)⟩:b.bU) = .out .ret x'/\x'.t4 >= 0/\∃ i,i < s.n/\¬ agj (s.get i):=by
 have key:=o7 (step:=b.bI) s.n (by unfold gV; omega) (fun j=>⟨s,(0:Int),((s.n:Nat):Int),(j:Int)⟩) (fun k=>agj (s.get k)) (e0:=.exit 0) (er:=.ret) rfl rfl (fun x'=>x'.t4 >= 0) (xe:=⟨s,(0:Int),((s.n:Nat):Int),((s.n:Nat):Int)⟩) (fun j hj=>by
  have e1:aP ((j:Int)+1)=((j+1:Nat):Int):=by rw [di (by omega) (by omega)]; omega
  have d1:decide ((j:Int) < ((s.n:Nat):Int))=true:=az (by omega);have d2:decide ((0:Int)<=(j:Int))=true:=az (by omega);have ej:Int.toNat (j:Int)=j:=rfl;unfold b.bI agj
  dsimp only
  rw [d1,d2,ej,e1];simp only [cC,aj];generalize s.get j=v;have Jq:(j:Int) >= 0:=by omega
  by_cases h1:v.e0 < 0
  ·rw [az h1]
   exact ⟨fun h=>absurd h.1 (by omega),fun h=>⟨_,rfl,Jq⟩⟩
  ·by_cases h2:v.e0 > 255
   ·rw [bq h1,az h2]
    exact ⟨fun h=>absurd h.2.1 (by omega),fun h=>⟨_,rfl,Jq⟩⟩
   ·by_cases h3:v.e1 < 0
    ·rw [bq h1,bq h2,az h3]
     exact ⟨fun h=>absurd h.2.2.1 (by omega),fun h=>⟨_,rfl,Jq⟩⟩
    ·by_cases h4:v.e1 > 255
     ·rw [bq h1,bq h2,bq h3,az h4]
      exact ⟨fun h=>absurd h.2.2.2 (by omega),fun h=>⟨_,rfl,Jq⟩⟩
     ·rw [bq h1,bq h2,bq h3,bq h4]
      exact ⟨fun _=>rfl,fun h=>absurd ⟨by omega,by omega,by omega,by omega⟩ h⟩) (by
  unfold b.bI
  dsimp only
  rw [bq (Int.lt_irrefl _)];rfl)
 rcases key with ⟨h1,h2⟩ | ⟨x',h1,h2,h3⟩
 ·exact .inl ⟨_,h1,h2⟩
 ·exact .inr ⟨x',h1,h2,h3⟩
open Classical in
noncomputable def PA (m:b.gu):Int:=if aeh m then (if Hk m then 0 else 40) else 4
theorem aa5 (m:b.gu) (hk:I3 m):b.uF m=some (PA m):=by
 unfold b.uF b.zS b.zR PA;by_cases h1:((m.ay.n:Nat):Int) > 64
 ·rw [az h1,aa fun k=>by have:=k.1; omega]; rfl
 rw [bq h1];by_cases h2:((m.uV.n:Nat):Int) > 64
 ·rw [az h2,aa fun k=>by have:=k.2.1; omega]; rfl
 rw [bq h2];by_cases h3:((m.fY.n:Nat):Int) > 16
 ·rw [az h3,aa fun k=>by have:=k.2.2; omega]; rfl
 rw [bq h3];have hf:aeh m:=⟨by omega,by omega,by omega⟩
 rw [aE hf];simp only [aG];by_cases h4:((m.uV.n:Nat):Int)=((m.ay.n:Nat):Int)
 ·rw [bne_eq_false_iff_eq.2 h4,aG]
  unfold b.Bv b.Bw b.F9;rcases agk m.ay hf.1 with ⟨x',q1,q2⟩ | ⟨x',q1,q2,i,q3,q4⟩
  ·rw [q1]
   rcases akp m.uV hf.2.1 with ⟨y',r1,r2⟩ | ⟨y',r1,r2,i,r3,r4⟩
   ·rw [r1]
    obtain ⟨l,r,s1,s2⟩:=aa4 m hk (by have:=hf.2.2; omega);rw [s1];cases r with
    | true=>rw [aE ⟨hf,by omega,q2,r2,s2.1 rfl⟩]; rfl
    | false=>rw [aa fun k=>by have:=s2.2 k.2.2.2.2; simp at this]; rfl
   ·rw [r1,aa fun k=>r4 (k.2.2.2.1 i r3)]
    simp only [aX.um,aX.kD,r2,decide_true];rfl
  ·rw [q1,aa fun k=>q4 (k.2.2.1 i q3)]
   simp only [aX.um,aX.kD,q2,decide_true];rfl
 ·rw [bne_iff_ne.2 h4,aa fun k=>h4 (by rw [k.2.1])]; rfl
def YN (l:b.kf):Prop:=-1<=l.dI/\l.dI < 16/\l.oQ<=2/\-1024<=l.nT/\l.nT<=1024/\0<=l.bin/\l.bin<=15
theorem am5 {p:Prop} [Decidable p] {x:Option Int} {Q:Prop} (h1:p->¬ Q) (h2 : ¬ p->∃ e,x=some e/\(e=0/\Q\/e=8/\¬ Q)):∃ e,cond (decide p) (some 8) x=some e/\(e=0/\Q\/e=8/\¬ Q):=by
 by_cases h:p
 ·rw [az h]
  exact ⟨8,rfl,.inr ⟨rfl,h1 h⟩⟩
 ·rw [bq h]
  exact h2 h
theorem ahT (l:b.kf):∃ e,b.mC l=some e/\(e=0/\YN l\/e=8/\¬ YN l):=by
 unfold b.mC YN
 iterate 7 refine am5 (fun h k=>by omega) fun _=>?_
 exact ⟨0,rfl,.inl ⟨rfl,by omega⟩⟩
def lY (n:Int):Prop:=n=0\/n=1\/n=3\/n=5\/n=7
def S3 (s:b.dt) (l:b.kf):b.kf:=if s.cp.e0=0 then l else ⟨s.look.color,l.dI,l.oQ,l.nT,l.ku,l.bin⟩
theorem apF (t:Int) (s:b.dt) (l:b.kf):(lY s.cp.e0->b.bp ⟨t,0,s,l⟩ = .next ⟨t,1,s,S3 s l⟩)/\(¬ lY s.cp.e0->∃ x',b.bp ⟨t,0,s,l⟩ = .out .ret x'/\x'.t2=8):=by
 unfold b.bp b.eA b.ew b.eo b.eh b.ef lY S3
 dsimp only
 have e1:aP ((0:Int)+1)=1:=by decide
 rw [e1];constructor
 ·rintro (h | h | h | h | h) <;> rw [h] <;> rfl
 ·intro h
  rw [beq_eq_false_iff_ne.2 (fun k=>h (by omega):s.cp.e0≠0),beq_eq_false_iff_ne.2 (fun k=>h (by omega):s.cp.e0≠1),beq_eq_false_iff_ne.2 (fun k=>h (by omega):s.cp.e0≠3),beq_eq_false_iff_ne.2 (fun k=>h (by omega):s.cp.e0≠5),beq_eq_false_iff_ne.2 (fun k=>h (by omega):s.cp.e0≠7)];exact ⟨_,rfl,rfl⟩
def Wu (s:b.dt) (l:b.kf):b.kf:=if s.cp.e1=0 then l else ⟨l.color,s.look.dI,l.oQ,l.nT,l.ku,l.bin⟩
theorem apG (t:Int) (s:b.dt) (l:b.kf):(lY s.cp.e1->b.bp ⟨t,1,s,l⟩ = .next ⟨t,2,s,Wu s l⟩)/\(¬ lY s.cp.e1->∃ x',b.bp ⟨t,1,s,l⟩ = .out .ret x'/\x'.t2=8):=by
 unfold b.bp b.eA b.ew b.eo b.eh b.ef lY Wu
 dsimp only
 have e1:aP ((1:Int)+1)=2:=by decide
 rw [e1];constructor
 ·rintro (h | h | h | h | h) <;> rw [h] <;> rfl
 ·intro h
  rw [beq_eq_false_iff_ne.2 (fun k=>h (by omega):s.cp.e1≠0),beq_eq_false_iff_ne.2 (fun k=>h (by omega):s.cp.e1≠1),beq_eq_false_iff_ne.2 (fun k=>h (by omega):s.cp.e1≠3),beq_eq_false_iff_ne.2 (fun k=>h (by omega):s.cp.e1≠5),beq_eq_false_iff_ne.2 (fun k=>h (by omega):s.cp.e1≠7)];exact ⟨_,rfl,rfl⟩
def aa6 (s:b.dt) (l:b.kf):b.kf:=if s.cp.e2=0 then l else ⟨l.color,l.dI,s.look.oQ,l.nT,l.ku,l.bin⟩
theorem apH (t:Int) (s:b.dt) (l:b.kf):(lY s.cp.e2->b.bp ⟨t,2,s,l⟩ = .next ⟨t,3,s,aa6 s l⟩)/\(¬ lY s.cp.e2->∃ x',b.bp ⟨t,2,s,l⟩ = .out .ret x'/\x'.t2=8):=by
 unfold b.bp b.eA b.ew b.eo b.eh b.ef lY aa6
 dsimp only
 have e1:aP ((2:Int)+1)=3:=by decide
 rw [e1];constructor
 ·rintro (h | h | h | h | h) <;> rw [h] <;> rfl
 ·intro h
  rw [beq_eq_false_iff_ne.2 (fun k=>h (by omega):s.cp.e2≠0),beq_eq_false_iff_ne.2 (fun k=>h (by omega):s.cp.e2≠1),beq_eq_false_iff_ne.2 (fun k=>h (by omega):s.cp.e2≠3),beq_eq_false_iff_ne.2 (fun k=>h (by omega):s.cp.e2≠5),beq_eq_false_iff_ne.2 (fun k=>h (by omega):s.cp.e2≠7)];exact ⟨_,rfl,rfl⟩
def aei (s:b.dt) (l:b.kf):b.kf:=if s.cp.e3=0 then l else ⟨l.color,l.dI,l.oQ,s.look.nT,l.ku,l.bin⟩
theorem apI (t:Int) (s:b.dt) (l:b.kf):(lY s.cp.e3->b.bp ⟨t,3,s,l⟩ = .next ⟨t,4,s,aei s l⟩)/\(¬ lY s.cp.e3->∃ x',b.bp ⟨t,3,s,l⟩ = .out .ret x'/\x'.t2=8):=by
 unfold b.bp b.eA b.ew b.eo b.eh b.ef lY aei
 dsimp only
 have e1:aP ((3:Int)+1)=4:=by decide
 rw [e1];constructor
 ·rintro (h | h | h | h | h) <;> rw [h] <;> rfl
 ·intro h
  rw [beq_eq_false_iff_ne.2 (fun k=>h (by omega):s.cp.e3≠0),beq_eq_false_iff_ne.2 (fun k=>h (by omega):s.cp.e3≠1),beq_eq_false_iff_ne.2 (fun k=>h (by omega):s.cp.e3≠3),beq_eq_false_iff_ne.2 (fun k=>h (by omega):s.cp.e3≠5),beq_eq_false_iff_ne.2 (fun k=>h (by omega):s.cp.e3≠7)];exact ⟨_,rfl,rfl⟩
def ahU (s:b.dt) (l:b.kf):b.kf:=if s.cp.e4=0 then l else ⟨l.color,l.dI,l.oQ,l.nT,s.look.ku,s.look.bin⟩
theorem apJ (t:Int) (s:b.dt) (l:b.kf):(lY s.cp.e4->b.bp ⟨t,4,s,l⟩ = .next ⟨t,5,s,ahU s l⟩)/\(¬ lY s.cp.e4->∃ x',b.bp ⟨t,4,s,l⟩ = .out .ret x'/\x'.t2=8):=by
 unfold b.bp b.eA b.ew b.eo b.eh b.ef lY ahU
 dsimp only
 have e1:aP ((4:Int)+1)=5:=by decide
 rw [e1];constructor
 ·rintro (h | h | h | h | h) <;> rw [h] <;> rfl
 ·intro h
  rw [beq_eq_false_iff_ne.2 (fun k=>h (by omega):s.cp.e4≠0),beq_eq_false_iff_ne.2 (fun k=>h (by omega):s.cp.e4≠1),beq_eq_false_iff_ne.2 (fun k=>h (by omega):s.cp.e4≠3),beq_eq_false_iff_ne.2 (fun k=>h (by omega):s.cp.e4≠5),beq_eq_false_iff_ne.2 (fun k=>h (by omega):s.cp.e4≠7)];exact ⟨_,rfl,rfl⟩
def B6:b.kf:=⟨⟨0,0,0,0⟩,0,0,0,false,0⟩
def said (s:b.dt):b.kf:=ahU s (aei s (aa6 s (Wu s (S3 s B6))))
def YO (s:b.dt):Prop:=lY s.cp.e0/\lY s.cp.e1/\lY s.cp.e2/\lY s.cp.e3/\lY s.cp.e4
def LW (s:b.dt):Prop:=YO s/\said s=s.look/\YN s.look
theorem ahV (s:b.dt):(goN b.bp (⟨0,0,s,B6⟩:b.cu) = .out (.exit 0) ⟨0,5,s,said s⟩/\YO s)\/∃ x',goN b.bp (⟨0,0,s,B6⟩:b.cu) = .out .ret x'/\x'.t2=8/\¬ YO s:=by
 have key:=o7 (step:=b.bp) 5 (by unfold gV; omega) (fun j=>match j with
  | 0=>⟨0,0,s,B6⟩
  | 1=>⟨0,1,s,S3 s B6⟩
  | 2=>⟨0,2,s,Wu s (S3 s B6)⟩
  | 3=>⟨0,3,s,aa6 s (Wu s (S3 s B6))⟩
  | 4=>⟨0,4,s,aei s (aa6 s (Wu s (S3 s B6)))⟩
  | _=>⟨0,5,s,said s⟩) (fun j=>match j with
  | 0=>lY s.cp.e0
  | 1=>lY s.cp.e1
  | 2=>lY s.cp.e2
  | 3=>lY s.cp.e3
  | _=>lY s.cp.e4) (e0:=.exit 0) (er:=.ret) rfl rfl (fun x'=>x'.t2=8) (xe:=⟨0,5,s,said s⟩) (fun j hj=>by
   rcases (by omega:j=0\/j=1\/j=2\/j=3\/j=4) with rfl | rfl | rfl | rfl | rfl
   ·exact apF 0 s _
   ·exact apG 0 s _
   ·exact apH 0 s _
   ·exact apI 0 s _
   ·exact apJ 0 s _) rfl
 rcases key with ⟨h1,h2⟩ | ⟨x',h1,h2,j,h3,h4⟩
 ·exact .inl ⟨h1,h2 0 (by omega),h2 1 (by omega),h2 2 (by omega),h2 3 (by omega),h2 4 (by omega)⟩
 ·refine .inr ⟨x',h1,h2,fun k=>h4 ?_⟩
  obtain ⟨k0,k1,k2,k3,k4⟩:=k;rcases (by omega:j=0\/j=1\/j=2\/j=3\/j=4) with rfl | rfl | rfl | rfl | rfl <;> assumption
theorem look_eq (a c:b.kf):((a.color.e0==c.color.e0)&&((a.color.e1==c.color.e1)&&((a.color.e2==c.color.e2)&&((a.color.e3==c.color.e3)&&((a.dI==c.dI)&&((a.oQ==c.oQ)&&((a.nT==c.nT)&&((a.ku==c.ku)&&((a.bin==c.bin)&&true)))))))))=true↔a=c:=by
 obtain ⟨⟨a0,a1,a2,a3⟩,a4,a5,a6,a7,a8⟩:=a;obtain ⟨⟨c0,c1,c2,c3⟩,c4,c5,c6,c7,c8⟩:=c;simp [ao,and_assoc]
theorem XS (s:b.dt):∃ e,b.qq s=some e/\(e=0/\LW s\/e=8/\¬ LW s):=by
 unfold b.qq b.Dq b.b7;have e0:(⟨0,0,s,⟨⟨0,0,0,0⟩,0,0,0,false,0⟩⟩:b.cu)=⟨0,0,s,B6⟩:=rfl;rw [e0];rcases ahV s with ⟨h1,h2⟩ | ⟨x',h1,h2,h3⟩
 ·rw [h1]
  simp only [aX.um,aX.kD];by_cases hl:said s=s.look
  ·rw [(look_eq _ _).2 hl]
   obtain ⟨e,q1,q2⟩:=ahT s.look;rw [q1];refine ⟨e,rfl,?_⟩;rcases q2 with ⟨rfl,q2⟩ | ⟨rfl,q2⟩
   ·exact .inl ⟨rfl,h2,hl,q2⟩
   ·exact .inr ⟨rfl,fun k=>q2 k.2.2⟩
  ·rw [Bool.eq_false_iff.2 fun k=>hl ((look_eq _ _).1 k)]
   exact ⟨8,rfl,.inr ⟨rfl,fun k=>hl k.2.1⟩⟩
 ·rw [h1]
  exact ⟨x'.t2,rfl,.inr ⟨h2,fun k=>h3 k.1⟩⟩
theorem cc {α:Type} (a c:Bool) (F X:α):cond a (cond c F X) X=cond (a&&c) F X:=by cases a <;> cases c <;> rfl
theorem cc2 {α:Type} (a c d:Bool) (F X:α):cond a (cond c F (cond d F X)) X=cond (a&&(c||d)) F X:=by cases a <;> cases c <;> cases d <;> rfl
def Qx (s:b.dt):Prop:=(0<=s.cp.e0/\s.cp.e0<=255)/\(0<=s.cp.e1/\s.cp.e1<=255)/\(0<=s.cp.e2/\s.cp.e2<=255)/\(0<=s.cp.e3/\s.cp.e3<=255)/\(0<=s.cp.e4/\s.cp.e4<=255)
def Qy (l:Sl Int):Nat->Int
 | 0=>0
 | k+1=>l.get k
def ahW (l:Sl Int):Prop:=(∀ j,j < l.n->Qy l j<=l.get j/\l.get j<=8192)/\l.n<=16
theorem akq (l:Sl Int) (hn:l.n < 1000000):∃ r,b.Cp l=some r/\(r=true↔ahW l):=by
 unfold b.Cp b.Bb;have key:=o7 (step:=b.jv) l.n (by unfold gV; omega) (fun j=>⟨l,false,Qy l j,l,((l.n:Nat):Int),(j:Int)⟩) (fun j=>Qy l j<=l.get j/\l.get j<=8192) (e0:=.exit 0) (er:=.ret) rfl rfl (fun x'=>x'.t2=false) (xe:=⟨l,false,Qy l l.n,l,((l.n:Nat):Int),((l.n:Nat):Int)⟩) (fun j hj=>by
  have e1:aP ((j:Int)+1)=((j+1:Nat):Int):=by rw [di (by omega) (by omega)]; omega
  have d1:decide ((j:Int) < ((l.n:Nat):Int))=true:=az (by omega);have d2:decide ((0:Int)<=(j:Int))=true:=az (by omega);have ej:Int.toNat (j:Int)=j:=rfl;unfold b.jv
  dsimp only
  rw [d1,d2,ej,e1];simp only [cC,aj];by_cases h1:l.get j < Qy l j
  ·rw [az h1]
   exact ⟨fun h=>absurd h.1 (by omega),fun _=>⟨_,rfl,rfl⟩⟩
  ·by_cases h2:l.get j > 8192
   ·rw [bq h1,az h2]
    exact ⟨fun h=>absurd h.2 (by omega),fun _=>⟨_,rfl,rfl⟩⟩
   ·rw [bq h1,bq h2]
    exact ⟨fun _=>rfl,fun h=>absurd ⟨by omega,by omega⟩ h⟩) (by
  unfold b.jv
  dsimp only
  rw [bq (Int.lt_irrefl _)];rfl)
 have e0:goN b.jv (⟨l,false,(0:Int),l,((l.n:Nat):Int),(0:Int)⟩:b.oS)=goN b.jv ⟨l,false,Qy l 0,l,((l.n:Nat):Int),((0:Nat):Int)⟩:=rfl;rw [e0];rcases key with ⟨h1,h2⟩ | ⟨x',h1,h2,j,h3,h4⟩
 ·rw [h1]
  refine ⟨decide (((l.n:Nat):Int)<=16),rfl,?_⟩;rw [decide_eq_true_iff];exact ⟨fun h=>⟨h2,by omega⟩,fun h=>by have:=h.2; omega⟩
 ·rw [h1]
  exact ⟨x'.t2,rfl,⟨fun h=>by rw [h2] at h; simp at h,fun h=>absurd (h.1 j h3) h4⟩⟩
def agl {α:Type} (a c:Sl α):Prop:=a.n=c.n/\∀ i,i < a.n->a.get i=c.get i
theorem agl.refl {α:Type} (a:Sl α):agl a a:=⟨rfl,fun _ _=>rfl⟩
theorem OL (a c:Sl Int) (hn:a.n < 1000000):∃ r,b.oh a c=some r/\(r=true↔agl a c):=by
 unfold b.oh b.ug;by_cases hq:a.n=c.n
 ·have cI:(((a.n:Nat):Int) != ((c.n:Nat):Int))=false:=by simp [hq]
  rw [cI,aG];have key:=o7 (step:=b.eB) a.n (by unfold gV; omega) (fun j=>⟨a,c,false,((a.n:Nat):Int),(j:Int)⟩) (fun j=>a.get j=c.get j) (e0:=.exit 0) (er:=.ret) rfl rfl (fun x'=>x'.t4=false) (xe:=⟨a,c,false,((a.n:Nat):Int),((a.n:Nat):Int)⟩) (fun j hj=>by
   have e1:aP ((j:Int)+1)=((j+1:Nat):Int):=by rw [di (by omega) (by omega)]; omega
   have d1:decide ((j:Int) < ((a.n:Nat):Int))=true:=az (by omega);have d2:decide ((0:Int)<=(j:Int))=true:=az (by omega);have d3:decide ((j:Int) < ((c.n:Nat):Int))=true:=az (by omega);have ej:Int.toNat (j:Int)=j:=rfl;unfold b.eB
   dsimp only
   rw [d1,d2,d3,ej,e1];simp only [cC,aj];by_cases h1:a.get j=c.get j
   ·have:(a.get j != c.get j)=false:=by simp [h1]
    rw [this];exact ⟨fun _=>rfl,fun h=>absurd h1 h⟩
   ·have:(a.get j != c.get j)=true:=by simp [h1]
    rw [this];exact ⟨fun h=>absurd h h1,fun _=>⟨_,rfl,rfl⟩⟩) (by
   unfold b.eB
   dsimp only
   rw [bq (Int.lt_irrefl _)];rfl)
  have e0:goN b.eB (⟨a,c,false,((a.n:Nat):Int),(0:Int)⟩:b.gw)=goN b.eB ⟨a,c,false,((a.n:Nat):Int),((0:Nat):Int)⟩:=rfl;rw [e0];rcases key with ⟨h1,h2⟩ | ⟨x',h1,h2,j,h3,h4⟩
  ·rw [h1]
   exact ⟨true,rfl,⟨fun _=>⟨hq,h2⟩,fun _=>rfl⟩⟩
  ·rw [h1]
   exact ⟨x'.t4,rfl,⟨fun h=>by rw [h2] at h; simp at h,fun h=>absurd (h.2 j h3) h4⟩⟩
 ·have cI:(((a.n:Nat):Int) != ((c.n:Nat):Int))=true:=by simp; omega
  rw [cI,aj];exact ⟨false,rfl,⟨fun h=>by simp at h,fun h=>absurd h.1 hq⟩⟩
def Wv (a c:b.Node):Prop:=a.kind=c.kind/\a.oz=c.oz/\a.sh=c.sh/\a.eZ=c.eZ/\agl a.fo c.fo/\a.fB=c.fB/\a.bF=c.bF
theorem am6 (a c:b.hD):((a.m.e0.e0==c.m.e0.e0)&&((a.m.e0.e1==c.m.e0.e1)&&((a.m.e0.e2==c.m.e0.e2)&&((a.m.e1.e0==c.m.e1.e0)&&((a.m.e1.e1==c.m.e1.e1)&&((a.m.e1.e2==c.m.e1.e2)&&((a.m.e2.e0==c.m.e2.e0)&&((a.m.e2.e1==c.m.e2.e1)&&((a.m.e2.e2==c.m.e2.e2)&&((a.t.x==c.t.x)&&((a.t.y==c.t.y)&&((a.t.z==c.t.z)&&true))))))))))))=true↔a=c:=by
 obtain ⟨⟨⟨a0,a1,a2⟩,⟨a3,a4,a5⟩,⟨a6,a7,a8⟩⟩,⟨a9,a10,a11⟩⟩:=a;obtain ⟨⟨⟨c0,c1,c2⟩,⟨c3,c4,c5⟩,⟨c6,c7,c8⟩⟩,⟨c9,c10,c11⟩⟩:=c;simp [and_assoc]
theorem ajp (a c:b.fp):((a.x==c.x)&&((a.y==c.y)&&((a.z==c.z)&&true)))=true↔a=c:=by
 obtain ⟨a0,a1,a2⟩:=a;obtain ⟨c0,c1,c2⟩:=c;simp
theorem akr (a c:b.dt):((a.cp.e0==c.cp.e0)&&((a.cp.e1==c.cp.e1)&&((a.cp.e2==c.cp.e2)&&((a.cp.e3==c.cp.e3)&&((a.cp.e4==c.cp.e4)&&((a.look.color.e0==c.look.color.e0)&&((a.look.color.e1==c.look.color.e1)&&((a.look.color.e2==c.look.color.e2)&&((a.look.color.e3==c.look.color.e3)&&((a.look.dI==c.look.dI)&&((a.look.oQ==c.look.oQ)&&((a.look.nT==c.look.nT)&&((a.look.ku==c.look.ku)&&((a.look.bin==c.look.bin)&&true))))))))))))))=true↔a=c:=by
 obtain ⟨⟨a0,a1,a2,a3,a4⟩,⟨⟨a5,a6,a7,a8⟩,a9,a10,a11,a12,a13⟩⟩:=a;obtain ⟨⟨c0,c1,c2,c3,c4⟩,⟨⟨c5,c6,c7,c8⟩,c9,c10,c11,c12,c13⟩⟩:=c;simp [and_assoc]
theorem Ww {p:Prop} {c:Bool} {x:Option Bool} {Q:Prop} (hc:c=true↔p) (h1 : ¬ p->¬ Q) (h2:p->∃ r,x=some r/\(r=true↔Q)):∃ r,cond c x (some false)=some r/\(r=true↔Q):=by
 cases c with
 | false=>exact ⟨false,rfl,⟨fun k=>by simp at k,fun k=>absurd k (h1 fun q=>by have:=hc.2 q; simp at this)⟩⟩
 | true=>exact h2 (hc.1 rfl)
theorem aa7 (a c:b.Node) (hn:a.fo.n < 1000000):∃ r,b.wN a c=some r/\(r=true↔Wv a c):=by
 unfold b.wN b.IV;obtain ⟨r,q1,q2⟩:=OL a.fo c.fo hn;rw [q1,iG,fv,aj];refine Ww Bf (fun h k=>h k.1) fun g1=>?_;refine Ww (am6 _ _) (fun h k=>h k.2.1) fun g2=>?_;refine Ww Bf (fun h k=>h k.2.2.1) fun g3=>?_;refine Ww (ajp _ _) (fun h k=>h k.2.2.2.1) fun g4=>?_;refine Ww q2 (fun h k=>h k.2.2.2.2.1) fun g5=>?_;refine Ww Bf (fun h k=>h k.2.2.2.2.2.1) fun g6=>?_;exact ⟨_,rfl,(akr _ _).trans ⟨fun h=>⟨g1,g2,g3,g4,g5,g6,h⟩,fun h=>h.2.2.2.2.2.2⟩⟩
theorem Nj {n:Int} (h:qu n 1024):qu n 4096:=by unfold qu at *; omega
theorem XT (m:b.hD) (v:b.fp) (h:EE m) (hv:rK v 4096) :
  b.wS m v=some ⟨dot m.m.e0 v.x v.y v.z / 256+m.t.x,dot m.m.e1 v.x v.y v.z / 256+m.t.y,dot m.m.e2 v.x v.y v.z / 256+m.t.z⟩:=by
 obtain ⟨⟨h0,h1,h2⟩,t1,t2,t3⟩:=h;have k0:=YM h0 hv.1 hv.2.1 hv.2.2;have k1:=YM h1 hv.1 hv.2.1 hv.2.2;have k2:=YM h2 hv.1 hv.2.1 hv.2.2;unfold b.wS b.yQ b.I2 b.I1 b.Fx b.DA;simp only [iG,fv,aj];rw [Nh m.m ⟨v.x,v.y,v.z⟩ ⟨h0,h1,h2⟩ hv.1 hv.2.1 hv.2.2];simp only [iG,fv,aj];unfold qu at *;rw [di (by omega) (by omega),di (by omega) (by omega),di (by omega) (by omega)]
def mul (a c:b.hD):b.hD:=
 ⟨⟨⟨dot a.m.e0 c.m.e0.e0 c.m.e1.e0 c.m.e2.e0 / 256,dot a.m.e0 c.m.e0.e1 c.m.e1.e1 c.m.e2.e1 / 256,dot a.m.e0 c.m.e0.e2 c.m.e1.e2 c.m.e2.e2 / 256⟩,
  ⟨dot a.m.e1 c.m.e0.e0 c.m.e1.e0 c.m.e2.e0 / 256,dot a.m.e1 c.m.e0.e1 c.m.e1.e1 c.m.e2.e1 / 256,dot a.m.e1 c.m.e0.e2 c.m.e1.e2 c.m.e2.e2 / 256⟩,
  ⟨dot a.m.e2 c.m.e0.e0 c.m.e1.e0 c.m.e2.e0 / 256,dot a.m.e2 c.m.e0.e1 c.m.e1.e1 c.m.e2.e1 / 256,dot a.m.e2 c.m.e0.e2 c.m.e1.e2 c.m.e2.e2 / 256⟩⟩,
  ⟨dot a.m.e0 c.t.x c.t.y c.t.z / 256+a.t.x,dot a.m.e1 c.t.x c.t.y c.t.z / 256+a.t.y,dot a.m.e2 c.t.x c.t.y c.t.z / 256+a.t.z⟩⟩
def aa8:b.hD:=⟨⟨⟨0,0,0⟩,⟨0,0,0⟩,⟨0,0,0⟩⟩,⟨0,0,0⟩⟩
open Classical in
noncomputable def yn (a c:b.hD):b.hD×Int:=if EE a/\EE c/\EE (mul a c) then (mul a c,0) else (aa8,20)
theorem aoy {c:b.hD} (h:EE c):(∀ r,Ng r->True)/\(qu c.m.e0.e0 4096/\qu c.m.e1.e0 4096/\qu c.m.e2.e0 4096)/\(qu c.m.e0.e1 4096/\qu c.m.e1.e1 4096/\qu c.m.e2.e1 4096)/\(qu c.m.e0.e2 4096/\qu c.m.e1.e2 4096/\qu c.m.e2.e2 4096):=by
 obtain ⟨⟨⟨a1,a2,a3⟩,⟨a4,a5,a6⟩,⟨a7,a8,a9⟩⟩,_⟩:=h;exact ⟨fun _ _=>trivial,⟨Nj a1,Nj a4,Nj a7⟩,⟨Nj a2,Nj a5,Nj a8⟩,⟨Nj a3,Nj a6,Nj a9⟩⟩
theorem ahX (a c:b.hD):b.EC a c=some (yn a c):=by
 unfold b.EC b.E6 b.Nc b.Nd;obtain ⟨e,h1,h2⟩:=yR a;rw [h1];rcases h2 with ⟨rfl,ha⟩ | ⟨rfl,ha⟩
 ·obtain ⟨e,h3,h4⟩:=yR c
  rw [h3];rcases h4 with ⟨rfl,hc⟩ | ⟨rfl,hc⟩
  ·obtain ⟨_,c1,c2,c3⟩:=aoy hc
   unfold b.DB b.qU b.qV b.qW b.Hj b.DB b.qU b.qV b.qW;rw [XT a c.t ha hc.2,Nh a.m ⟨c.m.e0.e0,c.m.e1.e0,c.m.e2.e0⟩ ha.1 c1.1 c1.2.1 c1.2.2,Nh a.m ⟨c.m.e0.e1,c.m.e1.e1,c.m.e2.e1⟩ ha.1 c2.1 c2.2.1 c2.2.2,Nh a.m ⟨c.m.e0.e2,c.m.e1.e2,c.m.e2.e2⟩ ha.1 c3.1 c3.2.1 c3.2.2];simp only [iG,fv,aj];obtain ⟨e,h5,h6⟩:=yR (mul a c);have h5':=h5;unfold mul at h5';rw [h5'];rcases h6 with ⟨rfl,hm⟩ | ⟨rfl,hm⟩
   ·unfold yn
    rw [aE ⟨ha,hc,hm⟩];rfl
   ·unfold yn
    rw [aa fun k=>hm k.2.2];rfl
  ·unfold yn
   rw [aa fun k=>hc k.2.1];rfl
 ·unfold yn
  rw [aa fun k=>ha k.1];rfl
def I4:b.fp:=⟨0,0,0⟩
def ajq:Sl Int:=⟨0,fun _=>0⟩
def YP (s:b.aC) (n:b.Node):Prop:=(1<=n.kind/\n.kind<=5)/\LW n.bF/\(n.bF.cp.e1=0\/n.bF.look.dI < (s.j6.n:Int))/\(n.kind=2->EE n.oz)/\(n.kind≠2->n.oz=aa8)/\(n.kind≠3->n.sh=0)/\(n.kind=4->rK n.eZ 4096/\ahW n.fo)/\(n.kind≠4->n.eZ=I4/\n.fo.n=0)/\(n.kind=5->0<=n.fB/\n.fB < (s.eO.n:Int))/\(n.kind≠5->n.fB=0)
theorem agm {c:Bool} {p:Prop} (h:c=true↔p):(!c)=true↔¬ p:=by
 cases c <;> simp at h ⊢ <;> exact h
theorem anX {c d:Bool} {p q:Prop} (h:c=true↔p) (k:d=true↔q):(c&&d)=true↔p/\q:=by
 rw [ao,h,k]
theorem orI {c d:Bool} {p q:Prop} (h:c=true↔p) (k:d=true↔q):(c||d)=true↔p\/q:=by
 rw [uR,h,k]
theorem UU {p:Prop} [Decidable p] : decide p=true↔p:=decide_eq_true_iff
theorem Fa {x y:Int} : (x==y)=true↔x=y:=Bf
theorem neI {x y:Int} : (x != y)=true↔x≠y:=bne_iff_ne
def aa9 (n:b.Node):Prop:=(1<=n.kind/\n.kind<=5)/\(n.kind=2->EE n.oz)/\(n.kind=4->rK n.eZ 4096/\ahW n.fo)
open Classical in
theorem agn (n:b.Node) (hn:n.fo.n < 1000000):∃ ok,b.xO n=some (⟨n.kind,if n.kind=2 then n.oz else aa8,if n.kind=3 then n.sh else 0,if n.kind=4 then n.eZ else I4,if n.kind=4 then n.fo else ajq,if n.kind=5 then n.fB else 0,n.bF⟩,ok)/\(ok=true↔aa9 n):=by
 unfold b.xO b.Gd b.Ge b.Gf;obtain ⟨e1,q1,i1⟩:=yR n.oz;have q2:=J3 n.eZ;obtain ⟨r3,q3,i3⟩:=akq n.fo hn;simp only [q1,q2,q3,iG,fv,aj];obtain ⟨k,m,o,c,f,x,st⟩:=n
 dsimp only at *
 unfold aa9
 dsimp only
 by_cases h1:k=1
 ·subst h1
  exact ⟨true,rfl,by simp⟩
 have g1:(k==(1:Int))=false:=by rw [<- Bool.not_eq_true,Fa]; exact h1
 rw [g1,aG];by_cases h2:k=2
 ·subst h2
  refine ⟨_,rfl,?_⟩;rw [Fa];rcases i1 with ⟨a,c⟩ | ⟨a,c⟩ <;> simp [a,c]
 have g2:(k==(2:Int))=false:=by rw [<- Bool.not_eq_true,Fa]; exact h2
 rw [g2,aG];by_cases h3:k=3
 ·subst h3
  exact ⟨true,rfl,by simp⟩
 have g3:(k==(3:Int))=false:=by rw [<- Bool.not_eq_true,Fa]; exact h3
 rw [g3,aG];by_cases h4:k=4
 ·subst h4
  by_cases hv:rK c 4096
  ·rw [aE hv]
   exact ⟨r3,rfl,i3.trans (by simp [hv])⟩
  ·rw [aa hv]
   exact ⟨false,rfl,by simp [hv]⟩
 have g4:(k==(4:Int))=false:=by rw [<- Bool.not_eq_true,Fa]; exact h4
 rw [g4,aG];by_cases h5:k=5
 ·subst h5
  exact ⟨true,rfl,by simp⟩
 have g5:(k==(5:Int))=false:=by rw [<- Bool.not_eq_true,Fa]; exact h5
 rw [g5,aG,aa h2,aa h3,aa h4,aa h4,aa h5];exact ⟨false,rfl,by simp; omega⟩
theorem KU {p:Prop} {c:Bool} {x:Option Int} {Q:Prop} (hc:c=true↔p) (h1:p->¬ Q) (h2 : ¬ p->∃ e,x=some e/\(e=0/\Q\/e=8/\¬ Q)):∃ e,cond c (some 8) x=some e/\(e=0/\Q\/e=8/\¬ Q):=by
 cases c with
 | true=>exact ⟨8,rfl,.inr ⟨rfl,h1 (hc.1 rfl)⟩⟩
 | false=>exact h2 fun q=>by have:=hc.2 q; simp at this
theorem ahY (s:b.aC) (n:b.Node) (hs:Qx n.bF) (hn:n.fo.n < 1000000):∃ e,b.o6 s n=some e/\(e=0/\YP s n\/e=8/\¬ YP s n):=by
 unfold b.o6 b.uh b.Ao b.u7 b.Ap;obtain ⟨ok,q1,i1⟩:=agn n hn;simp only [q1,iG,fv,aj];obtain ⟨r2,q2,i2⟩:=aa7 ⟨n.kind,if n.kind=2 then n.oz else aa8,if n.kind=3 then n.sh else 0,if n.kind=4 then n.eZ else I4,if n.kind=4 then n.fo else ajq,if n.kind=5 then n.fB else 0,n.bF⟩ n (by
  by_cases h:n.kind=4
  ·simp only [aE h]; exact hn
  ·simp only [aa h]; exact (by decide:(0:Nat) < 1000000))
 obtain ⟨e3,q3,i3⟩:=XS n.bF;simp only [q2,q3,iG,fv,aj,cc2,cc];have anY:0<=n.bF.cp.e1:=hs.2.1.1;have i2' : r2=true↔(n.kind≠2->n.oz=aa8)/\(n.kind≠3->n.sh=0)/\(n.kind≠4->n.eZ=I4/\n.fo.n=0)/\(n.kind≠5->n.fB=0):=by
  rw [i2];unfold Wv
  dsimp only
  constructor
  ·rintro ⟨_,a2,a3,a4,a5,a6,_⟩
   refine ⟨fun h=>?_,fun h=>?_,fun h=>⟨?_,?_⟩,fun h=>?_⟩
   ·rw [aa h] at a2; exact a2.symm
   ·rw [aa h] at a3; exact a3.symm
   ·rw [aa h] at a4; exact a4.symm
   ·rw [aa h] at a5; exact a5.1.symm
   ·rw [aa h] at a6; exact a6.symm
  ·rintro ⟨a1,a2,a3,a4⟩
   refine ⟨rfl,?_,?_,?_,?_,?_,rfl⟩
   ·by_cases h:n.kind=2
    ·rw [aE h]
    ·rw [aa h]; exact (a1 h).symm
   ·by_cases h:n.kind=3
    ·rw [aE h]
    ·rw [aa h]; exact (a2 h).symm
   ·by_cases h:n.kind=4
    ·rw [aE h]
    ·rw [aa h]; exact (a3 h).1.symm
   ·by_cases h:n.kind=4
    ·rw [aE h]; exact agl.refl _
    ·rw [aa h]; exact ⟨(a3 h).2.symm,fun i hi=>absurd hi (oX i)⟩
   ·by_cases h:n.kind=5
    ·rw [aE h]
    ·rw [aa h]; exact (a4 h).symm
 refine KU (agm i1) (fun h k=>h ⟨k.1,k.2.2.2.1,k.2.2.2.2.2.2.1⟩) fun k1=>?_;refine KU (agm i2') (fun h k=>h ⟨k.2.2.2.2.1,k.2.2.2.2.2.1,k.2.2.2.2.2.2.2.1,k.2.2.2.2.2.2.2.2.2⟩) fun k2=>?_;refine KU neI (fun h k=>by
  rcases i3 with g | g
  ·exact h g.1
  ·exact g.2 k.2.1) fun k3=>?_
 have c1:aa9 n:=Classical.byContradiction k1;have c2:=Classical.byContradiction k2;have c3:LW n.bF:=by
  rcases i3 with g | g
  ·exact g.2
  ·exact absurd (fun h=>by rw [g.1] at h; simp at h) k3
 refine KU (anX Fa (orI UU UU)) (fun h k=>by have:=k.2.2.2.2.2.2.2.2.1 h.1; omega) fun k4=>?_;refine KU (anX neI UU) (fun h k=>by rcases k.2.2.1 with g | g <;> omega) fun k5=>?_;exact ⟨0,rfl,.inl ⟨rfl,c1.1,c3,by omega,c1.2.1,c2.1,c2.2.1,c1.2.2,c2.2.2.1,fun h=>by omega,c2.2.2.2⟩⟩
end Go.Proofs.Ytckbdndhmcoihaa.sc
end
section
namespace Go.Proofs.Ytckbdndhmcoihaa.nodes
open Go Go.K
def aej (s:b.Slot):Prop:=1<=s.gen/\s.gen<=1073741824
structure Fy (a:b.jZ):Prop where
 Wx:a.cN.n<=128
 anZ:∀ i,i < a.cN.n->aej (a.cN.get i)
theorem PB (a:b.jZ):∃ n,b.dR a=some n/\(n=0/\Fy a\/n=8/\¬ Fy a):=by
 unfold b.dR;by_cases h:((a.cN.n:Nat):Int) > 128
 ·rw [az h,aj]
  exact ⟨8,rfl,.inr ⟨rfl,fun k=>by have:=k.Wx; omega⟩⟩
 ·rw [bq h,aG]
  obtain ⟨e,x',h1,h2⟩:∃ e x',b.vE a = .out e x'/\((e = .exit 0/\∀ i,i < a.cN.n->aej (a.cN.get i))\/(e = .ret/\0<=x'.t4/\¬ Fy a)):=by
   unfold b.vE;refine jH (X:=b.b8) (fun j x=>x.s=a.cN/\x.t7=(a.cN.n:Int)/\x.t8=(j:Int)/\∀ i,i < j->aej (a.cN.get i)) (fun e x'=>(e = .exit 0/\∀ i,i < a.cN.n->aej (a.cN.get i))\/(e = .ret/\0<=x'.t4/\¬ Fy a)) a.cN.n (by unfold gV; omega) ?_ ⟨rfl,rfl,rfl,fun i hi=>absurd hi (oX _)⟩;rintro j ⟨s,t4,t7,t8⟩ hj ⟨rfl,rfl,rfl,cM⟩;unfold b.dx
   dsimp only
   by_cases bj:(j:Int) < (a.cN.n:Int)
   ·have h0:(0:Int)<=(j:Int):=by omega
    rw [az bj,az h0,aj,EH,aj];have ej:Int.toNat (j:Int)=j:=rfl;rw [ej];by_cases g1:(a.cN.get j).gen < 1
    ·rw [az g1,aj]
     exact .inr ⟨_,_,rfl,rfl,.inr ⟨rfl,h0,fun k=>by have:=(k.anZ j (by omega)).1; omega⟩⟩
    ·rw [bq g1,aG]
     by_cases g2:(a.cN.get j).gen > 1073741824
     ·rw [az g2,aj]
      exact .inr ⟨_,_,rfl,rfl,.inr ⟨rfl,h0,fun k=>by have:=(k.anZ j (by omega)).2; omega⟩⟩
     ·rw [bq g2,aG]
      refine .inl ⟨_,rfl,by omega,rfl,rfl,?_,fun i hi=>?_⟩
      ·show aP ((j:Int)+1)=_
       rw [di (by omega) (by omega)];omega
      ·by_cases e:i=j
       ·subst e; exact ⟨by omega,by omega⟩
       ·exact cM i (by omega)
   ·rw [bq bj,aG]
    exact .inr ⟨_,_,rfl,rfl,.inl ⟨rfl,fun i hi=>cM i (by omega)⟩⟩
  rw [h1];rcases h2 with ⟨rfl,h2⟩ | ⟨rfl,h2,h3⟩
  ·exact ⟨0,rfl,.inl ⟨rfl,by omega,h2⟩⟩
  ·refine ⟨8,?_,.inr ⟨rfl,h3⟩⟩
   show cond false _ (cond true (cond (decide (x'.t4 >= 0)) _ _) _)=_;rw [az (show x'.t4 >= 0 from h2)];rfl
def mv (a:b.jZ) (h:b.Handle):Prop:=0<=h.slot/\h.slot < (a.cN.n:Int)/\(a.cN.get h.slot.toNat).gen=h.gen/\(a.cN.get h.slot.toNat).live=true
theorem ahZ (a:b.jZ) (h:b.Handle):∃ r,b.l9 a h=some r/\(r=true↔mv a h):=by
 unfold b.l9 mv;by_cases h1:h.slot >= 0
 ·by_cases h2:h.slot < (a.cN.n:Int)
  ·rw [az h1,az h2,aj,aj]
   refine ⟨_,rfl,?_⟩;simp only [ao,Bf,EH];exact ⟨fun k=>⟨h1,h2,k.1,k.2⟩,fun k=>⟨k.2.2.1,k.2.2.2⟩⟩
  ·rw [az h1,bq h2,aj,aG]
   exact ⟨false,rfl,⟨fun k=>by simp at k,fun k=>absurd k.2.1 h2⟩⟩
 ·rw [bq h1,aG]
  exact ⟨false,rfl,⟨fun k=>by simp at k,fun k=>absurd k.1 h1⟩⟩
theorem XU (a:b.jZ) (h:b.Handle):∃ r,b.dy a h=some r/\(r=true↔Fy a/\mv a h):=by
 obtain ⟨n,hn,hs⟩:=PB a;obtain ⟨r,hr,hh⟩:=ahZ a h;unfold b.dy b.vF b.vG;rw [hn,hr];rcases hs with ⟨rfl,ha⟩ | ⟨rfl,ha⟩
 ·exact ⟨r,rfl,hh.trans ⟨fun k=>⟨ha,k⟩,fun k=>k.2⟩⟩
 ·exact ⟨false,rfl,⟨fun k=>by simp at k,fun k=>absurd k.1 ha⟩⟩
def ago (g:b.fA) (i:Nat):Prop:=(g.kids.get i).n<=16/\(0 < (g.kids.get i).n->(g.cD.cN.get i).live=true)/\∀ k,k < (g.kids.get i).n->mv g.cD ((g.kids.get i).get k)
theorem ajr {g:b.fA} (ha:Fy g.cD) (i:Nat):r5 g i↔ago g i:=by
 have key:∀ h,b.dy g.cD h=some true↔mv g.cD h:=fun h=>by
  obtain ⟨r,hr,hh⟩:=XU g.cD h;rw [hr,bN,hh];exact ⟨fun k=>k.2,fun k=>⟨ha,k⟩⟩
 exact ⟨fun h=>⟨h.1,h.2.1,fun k hk=>(key _).1 (h.2.2 k hk)⟩,fun h=>⟨h.1,h.2.1,fun k hk=>(key _).2 (h.2.2 k hk)⟩⟩
theorem HA (g:b.fA):qC g↔Fy g.cD/\g.kids.n=g.cD.cN.n/\(∀ i,i < g.kids.n->ago g i)/\∀ i,i < g.kids.n->Gv g i:=by
 obtain ⟨n,hn,hs⟩:=PB g.cD;constructor
 ·intro h
  rcases hs with ⟨rfl,ha⟩ | ⟨rfl,ha⟩
  ·exact ⟨ha,h.len,fun i hi=>(ajr ha i).1 (h.row i hi),h.free⟩
  ·have:=h.cN
   rw [hn] at this;simp at this
 ·rintro ⟨ha,hl,hr,hf⟩
  rcases hs with ⟨rfl,_⟩ | ⟨rfl,hb⟩
  ·exact ⟨hn,hl,fun i hi=>(ajr ha i).2 (hr i hi),hf⟩
  ·exact absurd ha hb
end Go.Proofs.Ytckbdndhmcoihaa.nodes
end
section
namespace Go.Au
theorem ajs:∀ (n:Nat) (g:Nat->Nat),(∀ j,j<=n->g j < n)->∃ i j,i < j/\j<=n/\g i=g j
 | 0,g,h=>absurd (h 0 (aB 0)) (oX _)
 | n+1,g,h=>by
  by_cases he:∃ i,i<=n/\g i=g (n+1)
  ·obtain ⟨i,hi,e⟩:=he
   exact ⟨i,n+1,by omega,aB _,e⟩
  ·have cI:∀ i,i<=n->g i≠g (n+1):=fun i hi e=>he ⟨i,hi,e⟩
   have hl:=h (n+1) (aB _);obtain ⟨i,j,h1,h2,h3⟩:=ajs n (fun j=>if g j=n then g (n+1) else g j) fun j hj=>by
    have h1:=h j (by omega);have h2:=cI j hj;show (if g j=n then g (n+1) else g j) < n;split <;> omega
   refine ⟨i,j,h1,by omega,?_⟩;have hi:=cI i (by omega);have hj:=cI j h2;have h3:(if g i=n then g (n+1) else g i)=if g j=n then g (n+1) else g j:=h3;split at h3 <;> split at h3 <;> omega
section
variable (n:Nat) (mF:Nat->Nat) (c:Nat->Nat->Nat)
inductive Below (to:Nat):Nat->Prop where
 | here:Below to to
 | dS (i k:Nat) (hk:k < mF i) (r:Below to (c i k)):Below to i
def Gv:Prop:=∀ i,i < n->∀ k,k < mF i->¬ Below mF c i (c i k)
variable {n mF c}
end
end Go.Au
end
section
namespace Go.Proofs.Ytckbdndhmcoihaa.nodes
open Go Go.K Go.Au
def dg (g:b.fA) (i:Nat):Nat:=(g.kids.get i).n
def ch (g:b.fA) (i k:Nat):Nat:=((g.kids.get i).get k).slot.toNat
structure Fit (g:b.fA):Prop where
 small:g.kids.n < 1000000
 Wx:∀ i,i < g.kids.n->dg g i < 1000000
 inr:∀ i,i < g.kids.n->∀ k,k < dg g i->0<=((g.kids.get i).get k).slot/\((g.kids.get i).get k).slot < (g.kids.n:Int)
theorem aks {g:b.fA} {i:Nat} {x:Int×Int} (h:Reach (qOf g) ((i:Int),(g.cD.cN.get i).gen) x):Au.Below (dg g) (ch g) i x.1.toNat:=by
 induction h with
 | here=>exact .here
 | dS h k hk _ ih=>exact .dS h.1.toNat k hk ih
theorem akt {g:b.fA} (hr:∀ i,i < g.kids.n->ago g i) (hlen:g.kids.n=g.cD.cN.n) {i j:Nat} (h:Au.Below (dg g) (ch g) i j):∀ x:b.Handle,x.slot.toNat=j->mv g.cD x->Reach (qOf g) ((i:Int),(g.cD.cN.get i).gen) (hp x):=by
 induction h with
 | here=>
  rintro ⟨s,gn⟩ e ⟨h1,h2,h3,_⟩;have h1:0<=s:=h1;have e:s.toNat=i:=e;have h3:(g.cD.cN.get s.toNat).gen=gn:=h3;have:hp ⟨s,gn⟩=((i:Int),(g.cD.cN.get i).gen):=by
   show (s,gn)=_;rw [<- h3,e];congr 1;omega
  rw [this];exact .here
 | dS j k hk _ ih=>
  rintro x e ⟨h1,h2,_,_⟩;subst e;have hj:x.slot.toNat < g.kids.n:=by omega
  exact .dS (q:=qOf g) (hp x) k hk (ih ((g.kids.get x.slot.toNat).get k) rfl ((hr _ hj).2.2 k hk))
theorem aku {g:b.fA} (hr:∀ i,i < g.kids.n->ago g i) (hlen:g.kids.n=g.cD.cN.n):(∀ i,i < g.kids.n->nodes.Gv g i)↔Au.Gv g.kids.n (dg g) (ch g):=
 ⟨fun h i hi k hk hb=>h i hi k hk (akt hr hlen hb _ rfl ((hr i hi).2.2 k hk)),fun h i hi k hk hb=>h i hi k hk (aks hb)⟩
theorem am7 {g:b.fA} (ha:Fy g.cD) (hlen:g.kids.n=g.cD.cN.n) (hr:∀ i,i < g.kids.n->ago g i):Fit g:=by
 have:=ha.Wx;exact ⟨by omega,fun i hi=>by have:=(hr i hi).1; unfold dg; omega,fun i hi k hk=>by have:=(hr i hi).2.2 k hk; exact ⟨this.1,by rw [hlen]; exact this.2.1⟩⟩
open Classical in
theorem agp (g:b.fA):Fs g=some (if qC g then 0 else 8):=by
 obtain ⟨n,hn,_⟩:=PB g.cD;unfold Fs;rw [hn];rfl
end Go.Proofs.Ytckbdndhmcoihaa.nodes
end
section
namespace Go.Proofs.Ytckbdndhmcoihaa.sc
open Go Go.K Go.Proofs.Ytckbdndhmcoihaa.nodes
theorem Ry (m:b.gu):PA m=0↔Hk m:=by
 unfold PA;by_cases h:aeh m
 ·rw [aE h]
  by_cases k:Hk m
  ·rw [aE k]; exact ⟨fun _=>k,fun _=>rfl⟩
  ·rw [aa k]; exact ⟨fun q=>by simp at q,fun q=>absurd q k⟩
 ·rw [aa h]; exact ⟨fun q=>by simp at q,fun q=>absurd q.1 h⟩
def aek:b.Node:=⟨0,aa8,0,I4,ajq,0,⟨⟨0,0,0,0,0⟩,⟨⟨0,0,0,0⟩,0,0,0,false,0⟩⟩⟩
def DC:b.Handle:=⟨0,0⟩
def UW (s:b.aC) (i:Nat):Prop:=((s.graph.cD.cN.get i).live=true->YP s (s.nodes.get i))/\((s.graph.cD.cN.get i).live=false->Wv (s.nodes.get i) aek)/\((s.nodes.get i).kind=5->(s.graph.kids.get i).n=0)
def akv (s:b.aC):Prop:=s.eO.n<=32/\s.j6.n<=16/\(∀ i,i < s.eO.n->Hk (s.eO.get i))/\∀ i,i < s.j6.n->SZ (s.j6.get i)
def oT (s:b.aC):Prop:=qC s.graph/\s.nodes.n=s.graph.kids.n/\akv s/\(∀ i,i < s.nodes.n->UW s i)/\(s.root=DC\/mv s.graph.cD s.root)
def Fz (s:b.aC):Prop:=(∀ i,i < s.nodes.n->Qx (s.nodes.get i).bF/\(s.nodes.get i).fo.n < 1000000)/\(∀ i,i < s.eO.n->I3 (s.eO.get i))/\s.graph.cD.cN.n < 1000000/\s.nodes.n < 1000000/\s.eO.n < 1000000/\s.j6.n < 1000000
theorem ael (s:Sl b.gu) (hs:s.n<=1000) (hk:∀ i,i < s.n->I3 (s.get i)):(∃ x',goN b.bJ (⟨s,(0:Int),((s.n:Nat):Int),(0:Int)⟩:b.bC) = .out (.exit 0) x'/\∀ i,i < s.n->Hk (s.get i))\/
  ∃ x',goN b.bJ (⟨s,(0:Int),((s.n:Nat):Int),(0:Int)⟩:b.bC) = .out .ret x'/\x'.t4 >= 0/\∃ i,i < s.n/\¬ Hk (s.get i):=by
 have key:=o7 (step:=b.bJ) s.n (by unfold gV; omega) (fun j=>⟨s,(0:Int),((s.n:Nat):Int),(j:Int)⟩) (fun k=>Hk (s.get k)) (e0:=.exit 0) (er:=.ret) rfl rfl (fun x'=>x'.t4 >= 0) (xe:=⟨s,(0:Int),((s.n:Nat):Int),((s.n:Nat):Int)⟩) (fun j hj=>by
  have e1:aP ((j:Int)+1)=((j+1:Nat):Int):=by rw [di (by omega) (by omega)]; omega
  have d1:decide ((j:Int) < ((s.n:Nat):Int))=true:=az (by omega);have d2:decide ((0:Int)<=(j:Int))=true:=az (by omega);have ej:Int.toNat (j:Int)=j:=rfl;unfold b.bJ b.iU
  dsimp only
  have Jq:(j:Int) >= 0:=by omega
  rw [d1,d2,ej,e1,aa5 _ (hk j hj)];simp only [cC,aj,iG,fv];rw [<- Ry];by_cases h:PA (s.get j)=0
  ·rw [bne_eq_false_iff_eq.2 h]
   exact ⟨fun _=>rfl,fun k=>absurd h k⟩
  ·rw [bne_iff_ne.2 h]
   exact ⟨fun k=>absurd k h,fun _=>⟨_,rfl,Jq⟩⟩) (by
  unfold b.bJ
  dsimp only
  rw [bq (Int.lt_irrefl _)];rfl)
 rcases key with ⟨h1,h2⟩ | ⟨x',h1,h2,h3⟩
 ·exact .inl ⟨_,h1,h2⟩
 ·exact .inr ⟨x',h1,h2,h3⟩
theorem ah0 (s:Sl b.gP) (hs:s.n<=1000):(∃ x',goN b.bK (⟨s,(0:Int),((s.n:Nat):Int),(0:Int)⟩:b.bD) = .out (.exit 0) x'/\∀ i,i < s.n->SZ (s.get i))\/
  ∃ x',goN b.bK (⟨s,(0:Int),((s.n:Nat):Int),(0:Int)⟩:b.bD) = .out .ret x'/\x'.t4 >= 0/\∃ i,i < s.n/\¬ SZ (s.get i):=by
 have key:=o7 (step:=b.bK) s.n (by unfold gV; omega) (fun j=>⟨s,(0:Int),((s.n:Nat):Int),(j:Int)⟩) (fun k=>SZ (s.get k)) (e0:=.exit 0) (er:=.ret) rfl rfl (fun x'=>x'.t4 >= 0) (xe:=⟨s,(0:Int),((s.n:Nat):Int),((s.n:Nat):Int)⟩) (fun j hj=>by
  have e1:aP ((j:Int)+1)=((j+1:Nat):Int):=by rw [di (by omega) (by omega)]; omega
  have d1:decide ((j:Int) < ((s.n:Nat):Int))=true:=az (by omega);have d2:decide ((0:Int)<=(j:Int))=true:=az (by omega);have ej:Int.toNat (j:Int)=j:=rfl;unfold b.bK b.iV
  dsimp only
  have Jq:(j:Int) >= 0:=by omega
  obtain ⟨e,q1,q2⟩:=akn (s.get j);rw [d1,d2,ej,e1,q1];simp only [cC,aj,iG,fv];rcases q2 with ⟨h,k⟩ | ⟨h,k⟩
  ·rw [h]
   exact ⟨fun _=>rfl,fun g=>absurd k g⟩
  ·rw [h]
   exact ⟨fun g=>absurd g k,fun _=>⟨_,rfl,Jq⟩⟩) (by
  unfold b.bK
  dsimp only
  rw [bq (Int.lt_irrefl _)];rfl)
 rcases key with ⟨h1,h2⟩ | ⟨x',h1,h2,h3⟩
 ·exact .inl ⟨_,h1,h2⟩
 ·exact .inr ⟨x',h1,h2,h3⟩
theorem agq (s:b.aC) (ve:Fz s) (hlen:s.nodes.n=s.graph.kids.n) (hg:s.graph.kids.n=s.graph.cD.cN.n):(goN b.ga (⟨0,s.nodes,((s.nodes.n:Nat):Int),(0:Int),s⟩:b.eQ) = .out (.exit 0) ⟨0,s.nodes,((s.nodes.n:Nat):Int),((s.nodes.n:Nat):Int),s⟩/\∀ i,i < s.nodes.n->UW s i)\/
  ∃ x',goN b.ga (⟨0,s.nodes,((s.nodes.n:Nat):Int),(0:Int),s⟩:b.eQ) = .out .ret x'/\x'.t2=8/\∃ i,i < s.nodes.n/\¬ UW s i:=by
 have hn:=ve.2.2.2.1;exact o7 (step:=b.ga) s.nodes.n (by unfold gV; omega) (fun j=>⟨0,s.nodes,((s.nodes.n:Nat):Int),(j:Int),s⟩) (fun k=>UW s k) (e0:=.exit 0) (er:=.ret) rfl rfl (fun x'=>x'.t2=8) (xe:=⟨0,s.nodes,((s.nodes.n:Nat):Int),((s.nodes.n:Nat):Int),s⟩) (fun j hj=>by
  have e1:aP ((j:Int)+1)=((j+1:Nat):Int):=by rw [di (by omega) (by omega)]; omega
  have d1:decide ((j:Int) < ((s.nodes.n:Nat):Int))=true:=az (by omega);have d2:decide ((0:Int)<=(j:Int))=true:=az (by omega);have d3:decide ((j:Int) < ((s.graph.cD.cN.n:Nat):Int))=true:=az (by omega);have d4:decide ((j:Int) < ((s.graph.kids.n:Nat):Int))=true:=az (by omega);have ej:Int.toNat (j:Int)=j:=rfl;obtain ⟨anY,Q1⟩:=ve.1 j hj;unfold b.ga b.lQ b.Aq b.Ar
  dsimp only
  rw [ej];obtain ⟨r,q1,q2⟩:=aa7 (s.nodes.get j) aek Q1;obtain ⟨e,g1,g2⟩:=ahY s (s.nodes.get j) anY Q1;unfold aek aa8 I4 ajq at q1;rw [d1,d2,d3,d4,e1,q1,g1];unfold UW;cases hl:(s.graph.cD.cN.get j).live with
  | false=>
   simp only [cC,aj,aG,iG,fv,GQ,Bool.not_true];cases r with
   | true=>
    have hz:=q2.1 rfl;have h0:(s.nodes.get j).kind=0:=hz.1;exact ⟨fun _=>rfl,fun k=>absurd ⟨fun h=>by simp at h,fun _=>hz,fun h=>by omega⟩ k⟩
   | false=>exact ⟨fun k=>by have:=q2.2 (k.2.1 trivial); simp at this,fun _=>⟨_,rfl,rfl⟩⟩
  | true=>
   simp only [cC,aj,aG,iG,fv,GQ,Bool.not_true];rcases g2 with ⟨g3,g4⟩ | ⟨g3,g4⟩
   ·rw [g3]
    have:((0:Int) != 0)=false:=rfl;rw [this,aG];by_cases h5:(s.nodes.get j).kind=5
    ·rw [Bf.2 h5,aj]
     by_cases hk:(((s.graph.kids.get j).n:Nat):Int) > 0
     ·rw [az hk]
      exact ⟨fun k=>absurd (k.2.2 h5) (by omega),fun _=>⟨_,rfl,rfl⟩⟩
     ·rw [bq hk]
      exact ⟨fun _=>rfl,fun k=>absurd ⟨fun _=>g4,fun h=>by simp at h,fun _=>by omega⟩ k⟩
    ·have:((s.nodes.get j).kind==(5:Int))=false:=by rw [<- Bool.not_eq_true,Fa]; exact h5
     rw [this,aG];exact ⟨fun _=>rfl,fun k=>absurd ⟨fun _=>g4,fun h=>by simp at h,fun h=>absurd h h5⟩ k⟩
   ·rw [g3]
    exact ⟨fun k=>absurd (k.1 trivial) g4,fun _=>⟨_,rfl,rfl⟩⟩) (by
  unfold b.ga b.lQ
  dsimp only
  rw [bq (Int.lt_irrefl _)];rfl)
theorem ame (h:b.Handle):((h.slot==(0:Int))&&((h.gen==(0:Int))&&true))=true↔h=DC:=by
 obtain ⟨x,y⟩:=h;unfold DC;simp
theorem ah1 {s:b.aC} (hg:qC s.graph) (h:b.Handle):b.dy s.graph.cD h=some (decide (b.dy s.graph.cD h=some true))/\(b.dy s.graph.cD h=some true↔mv s.graph.cD h):=by
 obtain ⟨r,q1,q2⟩:=XU s.graph.cD h;have ha:=((HA s.graph).1 hg).1;rw [q1];cases r with
 | true=>exact ⟨rfl,fun _=>(q2.1 rfl).2,fun _=>rfl⟩
 | false=>exact ⟨rfl,fun k=>by simp at k,fun k=>by have:=q2.2 ⟨ha,k⟩; simp at this⟩
open Classical in
theorem aba (s:b.aC) (ve:Fz s):∃ e,b.rm s=some e/\(e=0/\oT s\/e=8/\¬ oT s):=by
 unfold b.rm b.zV b.zU b.Gg b.Gh;have hq:b.IC s.graph=some (if qC s.graph then 0 else 8):=agp s.graph;rw [hq];simp only [iG,fv,aj];by_cases hg:qC s.graph
 ·rw [aE hg]
  have hlen:=((HA s.graph).1 hg).2.1;refine KU neI (fun h=>absurd rfl h) fun _=>?_;refine KU neI (fun h k=>h (by rw [k.2.1])) fun k1=>?_;refine KU UU (fun h k=>by have:=k.2.2.1.1; omega) fun k2=>?_;unfold b.Bz;rcases ael s.eO (by omega) ve.2.1 with ⟨x',q1,q2⟩ | ⟨x',q1,q2,i,q3,q4⟩
  ·rw [q1]
   simp only [aX.um,aX.kD];have ex:zq (.exit 0) (.exit 0)=true:=rfl;rw [ex,aj];refine KU UU (fun h k=>by have:=k.2.2.1.2.1; omega) fun k3=>?_;unfold b.BA;rcases ah0 s.j6 (by omega) with ⟨y',r1,r2⟩ | ⟨y',r1,r2,i,r3,r4⟩
   ·rw [r1]
    simp only [aX.um,aX.kD];rw [ex,aj];unfold b.nJ;rcases agq s ve (by omega) hlen with ⟨s1,s2⟩ | ⟨z',s1,s2,i,s3,s4⟩
    ·rw [s1]
     simp only [aX.um,aX.kD];rw [ex,aj];obtain ⟨t1,t2⟩:=ah1 hg s.root;by_cases hr:s.root=DC
     ·rw [(agm (ame s.root) |> fun h=>by rw [<- Bool.not_eq_true,h]; exact fun k=>k hr:(!((s.root.slot==(0:Int))&&((s.root.gen==(0:Int))&&true)))=false)]
      exact ⟨0,rfl,.inl ⟨rfl,hg,by omega,⟨by omega,by omega,q2,r2⟩,s2,.inl hr⟩⟩
     ·rw [(agm (ame s.root)).2 hr]
      rw [t1];simp only [iG,fv,aj];refine KU (agm UU) (fun h k=>by
       rcases k.2.2.2.2 with g | g
       ·exact hr g
       ·exact h (t2.2 g)) fun k5=>?_
      exact ⟨0,rfl,.inl ⟨rfl,hg,by omega,⟨by omega,by omega,q2,r2⟩,s2,.inr (t2.1 (Classical.byContradiction k5))⟩⟩
    ·rw [s1]
     exact ⟨z'.t2,rfl,.inr ⟨s2,fun k=>s4 (k.2.2.2.1 i s3)⟩⟩
   ·rw [r1]
    simp only [aX.um,aX.kD,r2,decide_true];exact ⟨8,rfl,.inr ⟨rfl,fun k=>r4 (k.2.2.1.2.2.2 i r3)⟩⟩
  ·rw [q1]
   simp only [aX.um,aX.kD,q2,decide_true];exact ⟨8,rfl,.inr ⟨rfl,fun k=>q4 (k.2.2.1.2.2.1 i q3)⟩⟩
 ·rw [aa hg]
  exact ⟨8,rfl,.inr ⟨rfl,fun k=>hg k.1⟩⟩
theorem fH {α:Type} (s:Sl α) (i:Nat) (v:α):(s.set i v).get i=v:=by
 unfold Sl.set;show cond (Nat.beq i i) v (s.get i)=v;rw [tI];rfl
theorem eD {α:Type} (s:Sl α) {i j:Nat} (v:α) (h:j≠i):(s.set i v).get j=s.get j:=by
 unfold Sl.set;show cond (Nat.beq j i) v (s.get j)=s.get j;have:Nat.beq j i=false:=by
  cases q:Nat.beq j i with
  | false=>rfl
  | true=>exact absurd (aK q) h
 rw [this];rfl
def DZ (g:b.fA) (M:Nat->Int) (i:Nat):Nat->Int
 | 0=>1
 | k+1=>if 0<=((g.kids.get i).get k).slot/\((g.kids.get i).get k).slot < (g.kids.n:Int) then min (DZ g M i k+M ((g.kids.get i).get k).slot.toNat) 100000 else DZ g M i k
theorem S4 (g:b.fA) (M:Nat->Int) (i k:Nat):DZ g M i (k+1)=if 0<=((g.kids.get i).get k).slot/\((g.kids.get i).get k).slot < (g.kids.n:Int) then min (DZ g M i k+M ((g.kids.get i).get k).slot.toNat) 100000 else DZ g M i k:=rfl
def UX (g:b.fA):Nat->Nat->Int
 | 0,_=>0
 | t+1,i=>DZ g (UX g t) i (min (g.kids.get i).n 1000)
theorem abb {g:b.fA} {M:Nat->Int} (hM:∀ j,0<=M j) (i:Nat):∀ k,1<=DZ g M i k/\DZ g M i k<=100000
 | 0=>⟨Int.le_refl _,by show (1:Int)<=100000; omega⟩
 | k+1=>by
  have:=abb hM (g:=g) i k;have hm:=hM ((g.kids.get i).get k).slot.toNat;unfold DZ;split
  ·exact ⟨by omega,by omega⟩
  ·exact this
theorem agr (g:b.fA):∀ t i,0<=UX g t i/\UX g t i<=100000
 | 0,i=>⟨Int.le_refl _,by show (0:Int)<=100000; omega⟩
 | t+1,i=>by
  have:=abb (g:=g) (fun j=>(agr g t j).1) i (min (g.kids.get i).n 1000);show 0<=DZ _ _ _ _/\DZ _ _ _ _<=100000;omega
theorem ah2 (s:b.aC) (M:Nat->Int) (hM:∀ j,0<=M j/\M j<=100000) (t2:Bool) (many nx:Sl Int) (step:Int) (i:Nat) (hi:i < s.graph.kids.n) (hm:many.n=s.graph.kids.n) (hx:nx.n=s.graph.kids.n) (h1:nx.get i=1) (Wy:∀ j,j < s.graph.kids.n->many.get j=M j) :
  ∃ DD kk,goN b.gQ (⟨t2,((s.graph.kids.n:Nat):Int),many,step,nx,(i:Int),(0:Int),s⟩:b.fq) = .out (.exit 4) ⟨t2,((s.graph.kids.n:Nat):Int),many,step,DD,(i:Int),kk,s⟩/\DD.n=s.graph.kids.n/\DD.get i=DZ s.graph M i (min (s.graph.kids.get i).n 1000)/\∀ j,j≠i->DD.get j=nx.get j:=by
 obtain ⟨e,x',h2,he,DD,kk,h3,h4⟩:=jH (step:=b.gQ)
  (fun k x=>∃ q:Sl Int,x=⟨t2,((s.graph.kids.n:Nat):Int),many,step,q,(i:Int),(k:Int),s⟩/\q.n=s.graph.kids.n/\q.get i=DZ s.graph M i k/\∀ j,j≠i->q.get j=nx.get j)
  (fun e x'=>e = .exit 4/\∃ DD kk,x' = ⟨t2,((s.graph.kids.n:Nat):Int),many,step,DD,(i:Int),kk,s⟩/\DD.n=s.graph.kids.n/\DD.get i=DZ s.graph M i (min (s.graph.kids.get i).n 1000)/\∀ j,j≠i->DD.get j=nx.get j)
  (min (s.graph.kids.get i).n 1000) (by unfold gV; omega) (by
   rintro k _ hk ⟨q,rfl,hq,hqi,hqo⟩;have ei:Int.toNat (i:Int)=i:=rfl;have ek:Int.toNat (k:Int)=k:=rfl;have d1:decide ((0:Int)<=(i:Int))=true:=az (by omega);have d2:decide ((i:Int) < ((s.graph.kids.n:Nat):Int))=true:=az (by omega);have d3:decide ((i:Int) < ((q.n:Nat):Int))=true:=az (by omega);have d4:decide ((0:Int)<=(k:Int))=true:=az (by omega);unfold b.gQ b.mr
   dsimp only
   rw [ei,ek,d1,d2,d3,d4];simp only [cC,EH,CA,aj,cv,ba];by_cases tN:(k:Int) < (((s.graph.kids.get i).n:Nat):Int)
   ·rw [az tN]
    by_cases Vm:(k:Int) < 1000
    ·rw [az Vm]
     simp only [aj];have e1:aP ((k:Int)+1)=((k+1:Nat):Int):=by rw [di (by omega) (by omega)]; omega
     rw [e1];refine .inl ?_;by_cases g1:0<=((s.graph.kids.get i).get k).slot
     ·by_cases g2:((s.graph.kids.get i).get k).slot < ((s.graph.kids.n:Nat):Int)
      ·have g3:((s.graph.kids.get i).get k).slot < ((many.n:Nat):Int):=by rw [hm]; exact g2
       have ed:decide (((s.graph.kids.get i).get k).slot >= 0)=true:=az g1;rw [ed,az g2,az g3];simp only [cC,aj];refine ⟨_,rfl,by omega,_,rfl,hq,?_,fun j hj=>?_⟩
       ·rw [fH,hqi,Wy _ (by omega)]
        have b1:=abb (g:=s.graph) (fun j=>(hM j).1) i k;have b2:=hM ((s.graph.kids.get i).get k).slot.toNat;rw [di (by omega) (by omega),S4,aE ⟨g1,g2⟩]
       ·rw [eD _ _ hj]; exact hqo j hj
      ·have ed:decide (((s.graph.kids.get i).get k).slot >= 0)=true:=az g1
       rw [ed,bq g2];simp only [aj,aG];refine ⟨_,rfl,by omega,_,rfl,hq,?_,hqo⟩;rw [hqi,S4,aa fun h=>g2 h.2]
     ·have ed:decide (((s.graph.kids.get i).get k).slot >= 0)=false:=bq g1
      rw [ed];simp only [aG];refine ⟨_,rfl,by omega,_,rfl,hq,?_,hqo⟩;rw [hqi,S4,aa fun h=>g1 h.1]
    ·rw [bq Vm]
     have:k=min (s.graph.kids.get i).n 1000:=by omega
     exact .inr ⟨_,_,rfl,rfl,rfl,q,_,rfl,hq,by rw [<- this]; exact hqi,hqo⟩
   ·rw [bq tN]
    have:k=min (s.graph.kids.get i).n 1000:=by omega
    exact .inr ⟨_,_,rfl,rfl,rfl,q,_,rfl,hq,by rw [<- this]; exact hqi,hqo⟩
   ) (x:=⟨t2,((s.graph.kids.n:Nat):Int),many,step,nx,(i:Int),(0:Int),s⟩) ⟨nx,rfl,hx,h1,fun _ _=>rfl⟩
 ·subst he h3; exact ⟨DD,kk,h2,h4⟩
theorem amf (s:b.aC) (M:Nat->Int) (hM:∀ j,0<=M j/\M j<=100000) (hn:s.graph.kids.n<=300) (t2:Bool) (many nx:Sl Int) (step:Int) (hm:many.n=s.graph.kids.n) (hx:nx.n=s.graph.kids.n) (Wy:∀ j,j < s.graph.kids.n->many.get j=M j) :
  (∃ DD,goN b.hZ (⟨t2,((s.graph.kids.n:Nat):Int),many,step,nx,(0:Int),s⟩:b.gY) = .out (.exit 2) ⟨t2,((s.graph.kids.n:Nat):Int),many,step,DD,((s.graph.kids.n:Nat):Int),s⟩/\DD.n=s.graph.kids.n/\∀ j,j < s.graph.kids.n->DD.get j=DZ s.graph M j (min (s.graph.kids.get j).n 1000)/\DD.get j<=10000)\/
  ∃ x',goN b.hZ (⟨t2,((s.graph.kids.n:Nat):Int),many,step,nx,(0:Int),s⟩:b.gY) = .out .ret x'/\x'.t2=true/\x'.many=many:=by
 obtain ⟨e,x',h2,h3⟩:=jH (step:=b.hZ)
  (fun k x=>∃ q:Sl Int,x=⟨t2,((s.graph.kids.n:Nat):Int),many,step,q,(k:Int),s⟩/\q.n=s.graph.kids.n/\∀ j,j < k->q.get j=DZ s.graph M j (min (s.graph.kids.get j).n 1000)/\q.get j<=10000)
  (fun e x'=>(e = .exit 2/\∃ DD,x' = ⟨t2,((s.graph.kids.n:Nat):Int),many,step,DD,((s.graph.kids.n:Nat):Int),s⟩/\DD.n=s.graph.kids.n/\∀ j,j < s.graph.kids.n->DD.get j=DZ s.graph M j (min (s.graph.kids.get j).n 1000)/\DD.get j<=10000)\/(e = .ret/\x'.t2=true/\x'.many=many))
  s.graph.kids.n (by unfold gV; omega) (by
   rintro k _ hk ⟨q,rfl,hq,hqo⟩;have ek:Int.toNat (k:Int)=k:=rfl;have d1:decide ((0:Int)<=(k:Int))=true:=az (by omega);unfold b.hZ b.aY
   dsimp only
   rw [ek,d1];simp only [cC,EH,CA,aj,cv,ba];by_cases bj:(k:Int) < ((s.graph.kids.n:Nat):Int)
   ·have d2:decide ((k:Int) < ((q.n:Nat):Int))=true:=az (by omega)
    rw [az bj,d2];simp only [aj];obtain ⟨DD,kk,r1,r2,r3,r4⟩:=ah2 s M hM t2 many (q.set k 1) step k (by omega) hm hq (fH q k 1) Wy;rw [r1];rw [aX.kD];simp only [aX.um,cv,aj];have ex:zq (.exit 4) (.exit 4)=true:=rfl;have d3:decide ((k:Int) < ((DD.n:Nat):Int))=true:=az (by omega);rw [ex,d1,d3,ek];simp only [cC,aj];by_cases hb:DD.get k > 10000
    ·rw [az hb]
     exact .inr ⟨_,_,rfl,rfl,.inr ⟨rfl,rfl,rfl⟩⟩
    ·rw [bq hb]
     have e1:aP ((k:Int)+1)=((k+1:Nat):Int):=by rw [di (by omega) (by omega)]; omega
     rw [e1];refine .inl ⟨_,rfl,by omega,DD,rfl,r2,fun j hj=>?_⟩;by_cases QE:j=k
     ·subst QE; exact ⟨r3,by omega⟩
     ·rw [r4 j QE,eD _ _ QE]; exact hqo j (by omega)
   ·have:k=s.graph.kids.n:=by omega
    subst this;rw [bq bj];exact .inr ⟨_,_,rfl,rfl,.inl ⟨rfl,q,rfl,hq,hqo⟩⟩
   ) (x:=⟨t2,((s.graph.kids.n:Nat):Int),many,step,nx,(0:Int),s⟩) ⟨nx,rfl,hx,fun j hj=>absurd hj (oX j)⟩
 ·rcases h3 with ⟨rfl,DD,rfl,h4⟩ | ⟨rfl,h4⟩
  ·exact .inl ⟨DD,h2,h4⟩
  ·exact .inr ⟨x',h2,h4⟩
def ags (g:b.fA):Prop:=g.kids.n<=300/\∀ t,t<=18->∀ i,i < g.kids.n->UX g t i<=10000
theorem ah3 (s:b.aC):∃ r,b.Cm s=some r/\(r=false->ags s.graph):=by
 unfold b.Cm b.E4;by_cases hn:((s.graph.kids.n:Nat):Int) > 300
 ·rw [az hn]; exact ⟨true,rfl,fun h=>by simp at h⟩
 rw [bq hn];have en:Int.toNat ((s.graph.kids.n:Nat):Int)=s.graph.kids.n:=rfl;have d1:decide (((s.graph.kids.n:Nat):Int)<=((s.graph.kids.n:Nat):Int))=true:=az (Int.le_refl _);have d2:Nat.ble (8 * s.graph.kids.n) 281474976710656=true:=by rw [Nat.ble_eq]; omega
 rw [en,d1,d2];simp only [cC,aj,aG,cv];obtain ⟨e,x',h2,h3⟩:=jH (step:=b.oa)
  (fun t x=>∃ q:Sl Int,x=⟨false,((s.graph.kids.n:Nat):Int),q,(t:Int),s⟩/\q.n=s.graph.kids.n/\(∀ j,j < s.graph.kids.n->q.get j=UX s.graph t j)/\∀ t',t'<=t->∀ j,j < s.graph.kids.n->UX s.graph t' j<=10000)
  (fun e x'=>(e = .exit 0/\∀ t',t'<=18->∀ j,j < s.graph.kids.n->UX s.graph t' j<=10000)\/(e = .ret/\x'.t2=true))
  18 (by unfold gV; omega) (by
   rintro t _ ht ⟨q,rfl,hq,hqo,hqb⟩;unfold b.oa b.dn
   dsimp only
   have d0:decide ((0:Int)<=((s.graph.kids.n:Nat):Int))=true:=az (by omega);rw [en,d0,d1,d2];simp only [cC,aj,cv];by_cases bj:(t:Int) < 18
   ·rw [az bj,aj]
    rcases amf s (UX s.graph t) (agr s.graph t) (by omega) false q ⟨s.graph.kids.n,fun _=>0⟩ (t:Int) hq rfl hqo with ⟨DD,r1,r2,r3⟩ | ⟨x',r1,r2,r3⟩
    ·rw [r1]
     simp only [aX.um,aX.kD,cv];have e1:aP ((t:Int)+1)=((t+1:Nat):Int):=by rw [di (by omega) (by omega)]; omega
     rw [e1];refine .inl ⟨_,rfl,by omega,DD,rfl,r2,fun j hj=>(r3 j hj).1,fun t' ht' j hj=>?_⟩;by_cases htt:t' = t+1
     ·subst htt
      have:=r3 j hj;show DZ s.graph (UX s.graph t) j _<=10000;omega
     ·exact hqb t' (by omega) j hj
    ·rw [r1]
     simp only [aX.um,aX.kD,cv];exact .inr ⟨_,_,rfl,rfl,.inr ⟨rfl,r2⟩⟩
   ·have:t=18:=by omega
    subst this;rw [bq bj];exact .inr ⟨_,_,rfl,rfl,.inl ⟨rfl,hqb⟩⟩
   ) (x:=⟨false,((s.graph.kids.n:Nat):Int),⟨s.graph.kids.n,fun _=>0⟩,(0:Int),s⟩) ⟨_,rfl,rfl,fun _ _=>rfl,fun t' ht j hj=>by
   have:t' = 0:=by omega
   subst this;show (0:Int)<=10000;omega⟩
 ·rw [h2]
  rcases h3 with ⟨rfl,h3⟩ | ⟨rfl,h3⟩
  ·exact ⟨false,rfl,fun _=>⟨by omega,h3⟩⟩
  ·exact ⟨x'.t2,rfl,fun h=>by rw [h3] at h; simp at h⟩
theorem abY (g:b.fA):∃ r,b.ue g=some r/\(r=false->g.cD.cN.n<=200/\g.kids.n<=200):=by
 unfold b.ue b.Df;by_cases h1:((g.cD.cN.n:Nat):Int) > 200
 ·rw [az h1]; exact ⟨true,rfl,fun h=>by simp at h⟩
 rw [bq h1];by_cases h2:((g.kids.n:Nat):Int) > 200
 ·rw [az h2]; exact ⟨true,rfl,fun h=>by simp at h⟩
 rw [bq h2];simp only [aG];obtain ⟨e,x',q1,q2⟩:=jH (step:=b.mB)
  (fun t x=>∃ m:Int,x=⟨false,m,(t:Int),g⟩)
  (fun e x'=>e = .exit 0\/e = .ret)
  g.kids.n (by unfold gV; omega) (by
   rintro t _ ht ⟨m,rfl⟩;have et:Int.toNat (t:Int)=t:=rfl;have d1:decide ((0:Int)<=(t:Int))=true:=az (by omega);unfold b.mB
   dsimp only
   rw [et,d1];by_cases bj:(t:Int) < ((g.kids.n:Nat):Int)
   ·rw [az bj]
    simp only [cC,aj];have e1:aP ((t:Int)+1)=((t+1:Nat):Int):=by rw [di (by omega) (by omega)]; omega
    rw [e1];by_cases hb:aP (m+(((g.kids.get t).n:Nat):Int)) > 400
    ·rw [az hb]
     exact .inr ⟨_,_,rfl,rfl,.inr rfl⟩
    ·rw [bq hb]
     exact .inl ⟨_,rfl,by omega,_,rfl⟩
   ·rw [bq bj]
    exact .inr ⟨_,_,rfl,rfl,.inl rfl⟩) (x:=⟨false,(0:Int),(0:Int),g⟩) ⟨0,rfl⟩
 rw [q1];rcases q2 with rfl | rfl
 ·exact ⟨false,rfl,fun _=>⟨by omega,by omega⟩⟩
 ·exact ⟨x'.t2,rfl,fun _=>⟨by omega,by omega⟩⟩
theorem abZ (l:Sl b.gP):∃ r,b.uf l=some r:=by
 unfold b.uf b.Dg;obtain ⟨e,x',q1,q2⟩:=jH (step:=b.od)
  (fun t x=>∃ m:Int,x=⟨l,false,m,(t:Int)⟩)
  (fun e x'=>e = .exit 0)
  100 (by unfold gV; omega) (by
   rintro t _ ht ⟨m,rfl⟩;have et:Int.toNat (t:Int)=t:=rfl;have d1:decide ((0:Int)<=(t:Int))=true:=az (by omega);unfold b.od
   dsimp only
   rw [et,d1];by_cases bj:(t:Int) < ((l.n:Nat):Int)
   ·rw [az bj]
    simp only [cC,aj];by_cases hb:(t:Int) < 100
    ·rw [az hb]
     have e1:aP ((t:Int)+1)=((t+1:Nat):Int):=by rw [di (by omega) (by omega)]; omega
     rw [e1];exact .inl ⟨_,rfl,by omega,_,rfl⟩
    ·rw [bq hb]
     exact .inr ⟨_,_,rfl,rfl,rfl⟩
   ·rw [bq bj]
    exact .inr ⟨_,_,rfl,rfl,rfl⟩) (x:=⟨l,false,(0:Int),(0:Int)⟩) ⟨0,rfl⟩
 rw [q1];subst q2;rw [aX.kD];simp only [aX.um];by_cases h:(((x'.l.n:Nat):Int) > 40)
 ·rw [az h]; exact ⟨true,rfl⟩
 ·rw [bq h]; exact ⟨_,rfl⟩
def agt (m:b.gu):Prop:=m.ay.n<=1000/\m.uV.n<=1000/\m.fY.n<=100/\∀ i,i < m.fY.n->(m.fY.get i).index.n<=1000
theorem Rz (m:b.gu):∃ r,b.wH m=some r/\(r=false->agt m):=by
 unfold b.wH b.Dh;by_cases h1:((m.ay.n:Nat):Int) > 1000
 ·rw [az h1]; exact ⟨true,rfl,fun h=>by simp at h⟩
 rw [bq h1];by_cases h2:((m.uV.n:Nat):Int) > 1000
 ·rw [az h2]; exact ⟨true,rfl,fun h=>by simp at h⟩
 rw [bq h2];by_cases h3:((m.fY.n:Nat):Int) > 100
 ·rw [az h3]; exact ⟨true,rfl,fun h=>by simp at h⟩
 rw [bq h3];simp only [aG];have key:=o7 (step:=b.iw) m.fY.n (by unfold gV; omega) (fun j=>⟨false,(j:Int),m⟩) (fun k=>(m.fY.get k).index.n<=1000) (e0:=.exit 0) (er:=.ret) rfl rfl (fun x'=>x'.t2=true) (xe:=⟨false,((m.fY.n:Nat):Int),m⟩) (fun j hj=>by
  have e1:aP ((j:Int)+1)=((j+1:Nat):Int):=by rw [di (by omega) (by omega)]; omega
  have d1:decide ((j:Int) < ((m.fY.n:Nat):Int))=true:=az (by omega);have d2:decide ((0:Int)<=(j:Int))=true:=az (by omega);have ej:Int.toNat (j:Int)=j:=rfl;unfold b.iw
  dsimp only
  rw [d1,d2,ej,e1];simp only [cC,aj];by_cases h:(((m.fY.get j).index.n:Nat):Int) > 1000
  ·rw [az h]
   exact ⟨fun k=>by omega,fun _=>⟨_,rfl,rfl⟩⟩
  ·rw [bq h]
   exact ⟨fun _=>rfl,fun k=>by omega⟩) (by
  unfold b.iw
  dsimp only
  rw [bq (Int.lt_irrefl _)];rfl)
 have e0:goN b.iw (⟨false,(0:Int),m⟩:b.nI)=goN b.iw ⟨false,((0:Nat):Int),m⟩:=rfl;rw [e0];rcases key with ⟨k1,k2⟩ | ⟨x',k1,k2,_⟩
 ·rw [k1]; exact ⟨false,rfl,fun _=>⟨by omega,by omega,by omega,k2⟩⟩
 ·rw [k1]; exact ⟨x'.t2,rfl,fun h=>by rw [k2] at h; simp at h⟩
structure Few (s:b.aC):Prop where
 g6:b.ue s.graph=some false
 g9:b.uf s.j6=some false
 ways:ags s.graph
 cN:s.graph.cD.cN.n<=200
 kids:s.graph.kids.n<=200
 nodes:s.nodes.n<=200
 eO:s.eO.n<=60
 j6:s.j6.n<=60
 fo:∀ i,i < s.nodes.n->(s.nodes.get i).fo.n<=200
 fB:∀ i,i < s.eO.n->agt (s.eO.get i)
theorem stepT {p:Prop} {c:Bool} {x:Option Bool} {Q:Prop} (hc:c=true↔p) (h2 : ¬ p->∃ r,x=some r/\(r=false->Q)):∃ r,cond c (some true) x=some r/\(r=false->Q):=by
 cases c with
 | true=>exact ⟨true,rfl,fun k=>by simp at k⟩
 | false=>exact h2 fun k=>by have:=hc.2 k; simp at this
theorem agu (s:b.aC):∃ r,b.zv s=some r/\(r=false->Few s):=by
 unfold b.zv b.Iz b.IA b.IB b.Dm b.vI;obtain ⟨r1,q1,p1⟩:=ah3 s;obtain ⟨r2,q2,p2⟩:=abY s.graph;obtain ⟨r3,q3⟩:=abZ s.j6;rw [q1,q2,q3];simp only [iG,fv,aj];refine stepT Iff.rfl fun k1=>?_;refine stepT Iff.rfl fun k2=>?_;refine stepT UU fun k3=>?_;refine stepT UU fun k4=>?_;refine stepT UU fun k5=>?_;refine stepT Iff.rfl fun k6=>?_;have f6:b.ue s.graph=some false:=by rw [q2]; exact congrArg some (by simpa using k2)
 have f9:b.uf s.j6=some false:=by rw [q3]; exact congrArg some (by simpa using k6)
 have p1:=p1 (by simpa using k1);have p2:=p2 (by simpa using k2);have key:=o7 (step:=b.gF) s.nodes.n (by unfold gV; omega) (fun j=>⟨false,(j:Int),s⟩) (fun k=>(s.nodes.get k).fo.n<=200) (e0:=.exit 0) (er:=.ret) rfl rfl (fun x'=>x'.t2=true) (xe:=⟨false,((s.nodes.n:Nat):Int),s⟩) (fun j hj=>by
  have e1:aP ((j:Int)+1)=((j+1:Nat):Int):=by rw [di (by omega) (by omega)]; omega
  have d1:decide ((j:Int) < ((s.nodes.n:Nat):Int))=true:=az (by omega);have d2:decide ((0:Int)<=(j:Int))=true:=az (by omega);have ej:Int.toNat (j:Int)=j:=rfl;unfold b.gF
  dsimp only
  rw [d1,d2,ej,e1];simp only [cC,aj];by_cases h:(((s.nodes.get j).fo.n:Nat):Int) > 200
  ·rw [az h]
   exact ⟨fun k=>by omega,fun _=>⟨_,rfl,rfl⟩⟩
  ·rw [bq h]
   exact ⟨fun _=>rfl,fun k=>by omega⟩) (by
  unfold b.gF
  dsimp only
  rw [bq (Int.lt_irrefl _)];rfl)
 have e0:goN b.gF (⟨false,(0:Int),s⟩:b.lO)=goN b.gF ⟨false,((0:Nat):Int),s⟩:=rfl;rw [e0];rcases key with ⟨g1,g2⟩ | ⟨x',g1,g2,_⟩
 ·rw [g1]
  simp only [aX.kD];have key:=o7 (step:=b.gG) s.eO.n (by unfold gV; omega) (fun j=>⟨false,(j:Int),s⟩) (fun k=>b.wH (s.eO.get k)=some false) (e0:=.exit 2) (er:=.ret) rfl rfl (fun x'=>x'.t2=true) (xe:=⟨false,((s.eO.n:Nat):Int),s⟩) (fun j hj=>by
   have e1:aP ((j:Int)+1)=((j+1:Nat):Int):=by rw [di (by omega) (by omega)]; omega
   have d1:decide ((j:Int) < ((s.eO.n:Nat):Int))=true:=az (by omega);have d2:decide ((0:Int)<=(j:Int))=true:=az (by omega);have ej:Int.toNat (j:Int)=j:=rfl;obtain ⟨r,m1,_⟩:=Rz (s.eO.get j);unfold b.gG b.BT
   dsimp only
   rw [d1,d2,ej,e1,m1];cases r with
   | true=>exact ⟨fun k=>by simp at k,fun _=>⟨_,rfl,rfl⟩⟩
   | false=>exact ⟨fun _=>rfl,fun k=>absurd rfl k⟩) (by
   unfold b.gG
   dsimp only
   rw [bq (Int.lt_irrefl _)];rfl)
  have e0:goN b.gG (⟨false,(0:Int),s⟩:b.j7)=goN b.gG ⟨false,((0:Nat):Int),s⟩:=rfl;rw [e0];rcases key with ⟨f1,f2⟩ | ⟨x',f1,f2,_⟩
  ·rw [f1]
   refine ⟨false,rfl,fun _=>⟨f6,f9,p1,p2.1,p2.2,by omega,by omega,by omega,g2,fun i hi=>?_⟩⟩;obtain ⟨r,m1,m2⟩:=Rz (s.eO.get i);rw [f2 i hi] at m1;exact m2 (GK m1).symm
  ·rw [f1]; exact ⟨x'.t2,rfl,fun h=>by rw [f2] at h; simp at h⟩
 ·rw [g1]; exact ⟨x'.t2,rfl,fun h=>by rw [g2] at h; simp at h⟩
theorem agv (a c:b.Handle):((a.slot==c.slot)&&((a.gen==c.gen)&&true))=true↔a=c:=by
 obtain ⟨a0,a1⟩:=a;obtain ⟨c0,c1⟩:=c;simp
def hAt (s:b.aC) (kids:Sl Int):Nat->b.Handle
 | 0=>s.root
 | j+1=>(s.graph.kids.get (hAt s kids j).slot.toNat).get (kids.get j).toNat
def YQ (s:b.aC) (kids:Sl Int) (j:Nat):Prop:=0<=kids.get j/\kids.get j < ((s.graph.kids.get (hAt s kids j).slot.toNat).n:Int)
def amg (s:b.aC) (kids:Sl Int):Prop:=∀ j,j < kids.n->YQ s kids j
def ajt (s:b.aC) (kids:Sl Int) (l:Sl b.Handle):Prop:=l.n=kids.n+1/\∀ i,i<=kids.n->l.get i=hAt s kids i
theorem Wz {s:b.aC} (hs:oT s) {h:b.Handle} (hh:mv s.graph.cD h) {k:Nat} (hk:k < (s.graph.kids.get h.slot.toNat).n):mv s.graph.cD ((s.graph.kids.get h.slot.toNat).get k):=by
 have hg:=(HA s.graph).1 hs.1;refine (hg.2.2.1 h.slot.toNat ?_).2.2 k hk;have:=hh.1;have:=hh.2.1;have:=hg.2.1;omega
theorem abc {s:b.aC} (hs:oT s) (hr:s.root≠DC) (kids:Sl Int):∀ j,(∀ i,i < j->YQ s kids i)->mv s.graph.cD (hAt s kids j)
 | 0,_=>by
  rcases hs.2.2.2.2 with h | h
  ·exact absurd h hr
  ·exact h
 | j+1,h=>by
  have h1:=abc hs hr kids j fun i hi=>h i (by omega);have h2:=h j (by omega);exact Wz hs h1 (by have:=h2.1; have:=h2.2; omega)
theorem LX {s:b.aC} (hs:oT s) {h:b.Handle} (hh:mv s.graph.cD h):0<=h.slot/\h.slot < (s.graph.kids.n:Int)/\h.slot < (s.nodes.n:Int):=by
 have hg:=(HA s.graph).1 hs.1;have:=hh.1;have:=hh.2.1;have:=hg.2.1;have:=hs.2.1;omega
def abd (s:b.aC) (p:b.Path):Prop:=oT s/\s.root≠DC/\amg s p.kids/\ajt s p.kids p.nodes
def U16 (n:Int):Prop:=0<=n/\n<=65535
theorem am8 {n:Int} (h:U16 n):w16 n=n:=by
 obtain ⟨h1,h2⟩:=h;show IntKind.wrap .u16 n=n;unfold IntKind.wrap;have hb:(2 ^ IntKind.u16.bits:Int)=65536:=rfl;have hs:IntKind.u16.signed=false:=rfl;simp only [hb,hs,Bool.false_and];rw [aa (by simp)];omega
theorem apO {n:Int} (h:U16 n):((Fe IntKind.u16 n (1:Int):Nat):Int)=n % 2:=by
 obtain ⟨h1,h2⟩:=h;obtain ⟨m,rfl⟩:=Int.eq_ofNat_of_zero_le h1;unfold Fe;show (((BitVec.ofInt 16 (m:Int) &&& BitVec.ofInt 16 1).toNat:Nat):Int)=(m:Int) % 2;rw [BitVec.toNat_and,BitVec.toNat_ofInt];have e1:(BitVec.ofInt 16 1).toNat=1:=rfl;rw [e1,Nat.and_one_is_mod];omega
def WB (on k:Int):Prop:=on / 2 ^ k.toNat % 2=1
theorem amh {on:Int} (h:U16 on) (k:Nat):U16 (on / 2 ^ k):=by
 obtain ⟨h1,h2⟩:=h;have hp:(0:Int) < 2 ^ k:=Int.pow_pos (by omega);refine ⟨Int.ediv_nonneg h1 (Int.le_of_lt hp),?_⟩;exact Int.le_trans (Int.ediv_le_self _ h1) h2
theorem agw {on:Int} (h:U16 on) {k:Nat} (hk:16<=k):on / 2 ^ k=0:=by
 obtain ⟨h1,h2⟩:=h;apply Int.ediv_eq_zero_of_lt h1;have:(2:Int) ^ 16<=2 ^ k:=by
  have:=Nat.pow_le_pow_right (show 0 < 2 by omega) hk
  exact_mod_cast this
 have e:(2:Int) ^ 16=65536:=by decide
 omega
theorem agx {on k:Int} (h:U16 on):(w16 ((Fe IntKind.u16 (Int.fdiv on ((2:Int) ^ (min (Int.toNat k) 16))) (1:Int):Nat):Int)==(0:Int))=true↔¬ WB on k:=by
 have e:Int.fdiv on ((2:Int) ^ (min (Int.toNat k) 16))=on / 2 ^ (min (Int.toNat k) 16):=Int.fdiv_eq_ediv_of_nonneg _ (Int.le_of_lt (Int.pow_pos (by omega)));have hu:=amh h (min (Int.toNat k) 16);rw [e,apO hu,am8 ⟨by omega,by omega⟩,Bf];unfold WB;by_cases hk:k.toNat<=16
 ·rw [Nat.min_eq_left hk]; omega
 ·rw [Nat.min_eq_right (by omega),agw h (by omega),agw h (by omega)]; omega
def nodeAt (s:b.aC) (p:b.Path) (j:Nat):b.Node:=s.nodes.get (p.nodes.get j).slot.toNat
def aju (s:b.aC):Prop:=∀ i,i < s.nodes.n->U16 (s.nodes.get i).sh
theorem XV {s:b.aC} {p:b.Path} (h:abd s p) {j:Nat} (hj:j<=p.kids.n):mv s.graph.cD (p.nodes.get j):=by
 rw [h.2.2.2.2 j hj];exact abc h.1 h.2.1 p.kids j fun i hi=>h.2.2.1 i (by omega)
theorem J4 {s:b.aC} {p:b.Path} (h:abd s p) {j:Nat} (hj:j<=p.kids.n):0<=(p.nodes.get j).slot/\(p.nodes.get j).slot < (s.nodes.n:Int):=by
 have:=LX h.1 (XV h hj);exact ⟨this.1,this.2.2⟩
theorem abe {s:b.aC} {p:b.Path} (h:abd s p) {j:Nat} (hj:j < p.kids.n):0<=p.kids.get j/\p.kids.get j < 16:=by
 have hg:=(HA s.graph).1 h.1.1;have hh:=abc h.1 h.2.1 p.kids j fun i hi=>h.2.2.1 i (by omega);have hs:=LX h.1 hh;have hr:=(hg.2.2.1 (hAt s p.kids j).slot.toNat (by omega)).1;have:=h.2.2.1 j hj;exact ⟨this.1,by have:=this.2; omega⟩
def unit:b.hD:=⟨⟨⟨256,0,0⟩,⟨0,256,0⟩,⟨0,0,256⟩⟩,⟨0,0,0⟩⟩
end Go.Proofs.Ytckbdndhmcoihaa.sc
end
section
namespace Go.Proofs.Ytckbdndhmcoihaa.b
open Go.K
noncomputable section
theorem XW (s:Sl Path) (v:Path):s.push v=au (fun e=>KN (ik Try.prog (ca Try.prog 5) 50 e)) (s.n+1) (av s.n (fun i=>IZ (s.get i)) (cZ [IZ v])):=(fP (p:=fun e=>KN (ik Try.prog (ca Try.prog 5) 50 e)) (fun x=>by kernel_rfl) (by kernel_rfl) s v).symm
def I5 (m:hD) (v:fp):=jX m
def I6 (m:hD) (v:fp):=qT v
def DE (m:hD) (v:fp):=wS m v
def DF (m:hD) (v:fp):=qT ((DE m v).getD default)
def uo (m:hD) (v:fp):Option (fp×Int):=(cond (I5 m v).isSome (cond (((I5 m v).getD default) != 0) (some (⟨0,0,0⟩,20)) (cond (I6 m v).isSome (cond (((I6 m v).getD default) != 0) (some (⟨0,0,0⟩,20)) (cond (DE m v).isSome (cond (DF m v).isSome (cond (((DF m v).getD default) != 0) (some (⟨0,0,0⟩,((DF m v).getD default))) (some (((DE m v).getD default),0))) none) none)) none)) none)
theorem abf (m:hD) (v:fp):rv [(29,Nb),(14,Hi),(28,Bx)] [] 13 [yl m,oP v] = (uo m v).map (fun (r:fp×Int)=>KV.l8 [oP r.1,(kI .i64) r.2]):=by
 unfold uo
 try simp only [cf]
 kernel_rfl
def Hl:List KV->KR KV:=b5 PG 13 (cg (fun (r:fp×Int)=>KV.l8 [oP r.1,(kI .i64) r.2]) fun vs=>uo (rh (v9 vs 0)) (kQ (v9 vs 1)))
theorem Gi:bZ PG 13 Hl:=ee (ak.cons NT (ak.cons Ga (ak.cons BZ ak.nil))) bu.nil fun w=>abf (rh (g0 54 (w 0))) (kQ (g0 36 (w 1)))
def DG (m:gu):=uF m
def I7 (m:gu):=wI m
def zW (m:gu):Option ((Sl dm)×Int):=(cond (DG m).isSome (cond (((DG m).getD default) != 0) (some (⟨0,(fun i=>⟨0,0,0⟩)⟩,((DG m).getD default))) (cond (I7 m).isSome (some (((I7 m).getD default).fst,0)) none)) none)
theorem abg (m:gu):rv [(58,Du),(41,xN)] [] 37 [uE m] = (zW m).map (fun (r:(Sl dm)×Int)=>KV.l8 [(dG 51 eM) r.1,(kI .i64) r.2]):=by
 unfold zW
 try simp only [cf]
 kernel_rfl
def Hm:List KV->KR KV:=b5 PG 37 (cg (fun (r:(Sl dm)×Int)=>KV.l8 [(dG 51 eM) r.1,(kI .i64) r.2]) fun vs=>zW (kS (v9 vs 0)))
theorem Gj:bZ PG 37 Hm:=ee (ak.cons Bu (ak.cons vN ak.nil)) bu.nil fun w=>abg (kS (g0 79 (w 0)))
def BB  : Option (cR):=(some ((⟨(⟨(⟨(255:Int),(255:Int),(255:Int),(255:Int)⟩:Color),(-(1:Int)),(0:Int),(0:Int),false,(0:Int)⟩:kf),(⟨false,false,false,false,false⟩:rJ)⟩:cR)))
theorem UY  : rv [] [] 59 [] = (BB ).map jG:=by
 unfold BB
 kernel_rfl
def Gk:List KV->KR KV:=b5 PG 59 (cg jG fun vs=>BB )
theorem I8:bZ PG 59 Gk:=ee ak.nil bu.nil fun w=>UY
structure gH where
 t3:Int
 t13:(Sl dt)
 t14:Int
 t15:Int
 t2:kf
 i:cR
instance:Inhabited gH:=⟨by constructor<;>exact default⟩
def yS (x:gH):List KV:=[.int .i64 x.t3,dG 62 oy x.t13,.int .i64 x.t14,.int .i64 x.t15]
def yT (x:gH):List (List KV):=[ahH x.t2,Qu x.i]
def FB (vs:List KV) (rs:List (List KV)):gH:=⟨ax (v9 vs 0),eF iv (v9 vs 1),ax (v9 vs 2),ax (v9 vs 3),ahI (r9 rs 0),Qv (r9 rs 1)⟩
def Gz:aJ:=⟨[(3,w9 i9),(13,w9 (n9 62)),(14,w9 i9),(15,w9 i9)],[(2,[u9,u9,u9,u9,i9,u9,i9,b9,i9],1),(4,[u9,u9,u9,u9,i9,u9,i9,b9,i9,b9,b9,b9,b9,b9],1)],[(2,0,0),(4,1,0)]⟩
def PC:=Cv [(61,F7),(60,Bs),(59,Gk)] [] 38 122 Gz
def rV (x:gH):=qq (x.t13.get (Int.toNat x.t15))
def yc (x:gH):=tD x.i (x.t13.get (Int.toNat x.t15))
def iy (x:gH):aX gH:=(cond (decide (x.t15 < x.t14)) (cond ((decide (0<=x.t15))&&(decide (x.t15 < (x.t13.n:Int)))) (cond (rV x).isSome (cond (((rV x).getD default) != 0) (.out aI.ah.ret ⟨((rV x).getD default),x.t13,x.t14,x.t15,⟨⟨0,0,0,0⟩,0,0,0,false,0⟩,x.i⟩) (cond (yc x).isSome (.next ⟨x.t3,x.t13,x.t14,(aP (x.t15+1)),x.t2,((yc x).getD default)⟩) .fail)) .fail) .fail) (.out (aI.ah.exit 0) x))
theorem Nk (x:gH):PC (yS x) (yT x)=aX.enc yS yT (iy x):=by
 unfold iy
 try simp only [aX.cJ]
 kernel_rfl
def GA:Lp:=⟨38,122,Gz,fun vs rs=>dU yS yT (goN iy (FB vs rs)) [aI.ah.exit 0,aI.ah.ret],false⟩
theorem PD:GA.Ok PG:=C8 (ak.cons IJ (ak.cons BU (ak.cons I8 ak.nil))) bu.nil (pa:=FB) Nk
def DH (l:(Sl dt)):=BB
def jw (l:(Sl dt)):=goN iy ⟨0,l,(l.n:Int),0,⟨⟨0,0,0,0⟩,0,0,0,false,0⟩,((DH l).getD default)⟩
def tF (l:(Sl dt)):Option (kf×Int):=(cond (decide ((l.n:Int) > 128)) (some (⟨⟨0,0,0,0⟩,0,0,0,false,0⟩,4)) (cond (DH l).isSome (cond ((jw l).by (aI.ah.exit 0)) (some ((jw l).st.i.look,0)) (cond ((jw l).by aI.ah.ret) (some ((jw l).st.t2,(jw l).st.t3)) none)) none))
theorem UZ (l:(Sl dt)):rv [(61,F7),(60,Bs),(59,Gk)] [GA] 38 [(dG 62 oy) l] = (tF l).map (fun (r:kf×Int)=>KV.l8 [xV r.1,(kI .i64) r.2]):=by
 unfold tF
 try simp only [cf]
 kernel_rfl
def BC:List KV->KR KV:=b5 PG 38 (cg (fun (r:kf×Int)=>KV.l8 [xV r.1,(kI .i64) r.2]) fun vs=>tF ((eF iv) (v9 vs 0)))
theorem B7:bZ PG 38 BC:=ee (ak.cons IJ (ak.cons BU (ak.cons I8 ak.nil))) (rH PD bu.nil) fun w=>UZ ((eF iv) (g0 121 (w 0)))
def Cq (n:Int):Option (Bool):=(cond (decide (n >= (-(32768:Int)))) (some ((decide (n<=32768)))) (some (false)))
theorem agy (n:Int):rv [] [] 62 [(kI .i64) n] = (Cq n).map kB:=by
 unfold Cq
 try simp only [cf]
 kernel_rfl
def Qz:List KV->KR KV:=b5 PG 62 (cg kB fun vs=>Cq (ax (v9 vs 0)))
theorem Nl:bZ PG 62 Qz:=ee ak.nil bu.nil fun w=>agy (ax (g0 3 (w 0)))
structure DI where
 low:fp
 high:fp
instance:Inhabited DI:=⟨⟨default,default⟩⟩
def ami (x:DI):List KV:=[.int .i64 x.low.x,.int .i64 x.low.y,.int .i64 x.low.z,.int .i64 x.high.x,.int .i64 x.high.y,.int .i64 x.high.z]
def HT (x:DI):KV:=.agg (ami x)
def amj (c:Nat->KV):DI:=⟨⟨ax (c 0),ax (c 1),ax (c 2)⟩,⟨ax (c 3),ax (c 4),ax (c 5)⟩⟩
def acV (v:KV):DI:=amj fun k=>v.cells.getD k .bf
structure Span where
 low:Int
 high:Int
instance:Inhabited Span:=⟨⟨default,default⟩⟩
structure FC where
 e0:Span
 e1:Span
 e2:Span
instance:Inhabited FC:=⟨⟨default,default,default⟩⟩
def akw (x:FC):List KV:=[.int .i64 x.e0.low,.int .i64 x.e0.high,.int .i64 x.e1.low,.int .i64 x.e1.high,.int .i64 x.e2.low,.int .i64 x.e2.high]
def WC (x:FC):KV:=.agg (akw x)
def akx (c:Nat->KV):FC:=⟨⟨ax (c 0),ax (c 1)⟩,⟨ax (c 2),ax (c 3)⟩,⟨ax (c 4),ax (c 5)⟩⟩
def acW (v:KV):FC:=akx fun k=>v.cells.getD k .bf
def DJ (b:DI):Option (FC):=(some (⟨⟨b.low.x,b.high.x⟩,⟨b.low.y,b.high.y⟩,⟨b.low.z,b.high.z⟩⟩))
theorem abh (b:DI):rv [] [] 57 [HT b] = (DJ b).map WC:=by
 unfold DJ
 kernel_rfl
def U0:List KV->KR KV:=b5 PG 57 (cg WC fun vs=>DJ (acV (v9 vs 0)))
theorem Yg:bZ PG 57 U0:=ee ak.nil bu.nil fun w=>abh (acV (g0 70 (w 0)))
def Hn (s:FC):Option (DI):=(some (⟨⟨s.e0.low,s.e1.low,s.e2.low⟩,⟨s.e0.high,s.e1.high,s.e2.high⟩⟩))
theorem abi (s:FC):rv [] [] 86 [WC s] = (Hn s).map HT:=by
 unfold Hn
 kernel_rfl
def U1:List KV->KR KV:=b5 PG 86 (cg HT fun vs=>Hn (acW (v9 vs 0)))
theorem Yh:bZ PG 86 U1:=ee ak.nil bu.nil fun w=>abi (acW (g0 152 (w 0)))
def uH (a:DI) (b:DI):=DJ a
def uI (a:DI) (b:DI):=DJ b
def RA (a:DI) (b:DI):=Hn ⟨⟨(min ((uH a b).getD default).e0.low ((uI a b).getD default).e0.low),(max ((uH a b).getD default).e0.high ((uI a b).getD default).e0.high)⟩,⟨(min ((uH a b).getD default).e1.low ((uI a b).getD default).e1.low),(max ((uH a b).getD default).e1.high ((uI a b).getD default).e1.high)⟩,⟨(min ((uH a b).getD default).e2.low ((uI a b).getD default).e2.low),(max ((uH a b).getD default).e2.high ((uI a b).getD default).e2.high)⟩⟩
def FD (a:DI) (b:DI):Option (DI):=(cond (uH a b).isSome (cond (uI a b).isSome (cond (RA a b).isSome (some (((RA a b).getD default))) none) none) none)
theorem ab0 (a:DI) (b:DI):rv [(86,U1),(57,U0)] [] 63 [HT a,HT b] = (FD a b).map HT:=by
 unfold FD
 try simp only [cf]
 kernel_rfl
def J5:List KV->KR KV:=b5 PG 63 (cg HT fun vs=>FD (acV (v9 vs 0)) (acV (v9 vs 1)))
theorem I9:bZ PG 63 J5:=ee (ak.cons Yh (ak.cons Yg ak.nil)) bu.nil fun w=>ab0 (acV (g0 70 (w 0))) (acV (g0 70 (w 1)))
structure lA where
 l:(Sl fp)
 e:Int
 t17:(Sl fp)
 t18:Int
 t19:Int
 b:DI
instance:Inhabited lA:=⟨by constructor<;>exact default⟩
def KW (x:lA):List KV:=[dG 36 oP x.l,.int .i64 x.e,dG 36 oP x.t17,.int .i64 x.t18,.int .i64 x.t19]
def KX (x:lA):List (List KV):=[ami x.b]
def RB (vs:List KV) (rs:List (List KV)):lA:=⟨eF kQ (v9 vs 0),ax (v9 vs 1),eF kQ (v9 vs 2),ax (v9 vs 3),ax (v9 vs 4),amj (r9 rs 0)⟩
def U2:aJ:=⟨[(0,w9 (n9 36)),(3,w9 i9),(17,w9 (n9 36)),(18,w9 i9),(19,w9 i9)],[(2,[i9,i9,i9,i9,i9,i9],1)],[(2,0,0)]⟩
def ab1:=Cv [(63,J5),(62,Qz)] [] 39 58 U2
def Ja (x:lA):=Cq (x.t17.get (Int.toNat x.t19)).x
def Jb (x:lA):=Cq (x.t17.get (Int.toNat x.t19)).y
def Jc (x:lA):=Cq (x.t17.get (Int.toNat x.t19)).z
def rL (x:lA):aX lA:=(.out aI.ah.ret ⟨x.l,20,x.t17,x.t18,x.t19,⟨⟨0,0,0⟩,⟨0,0,0⟩⟩⟩)
def lB (x:lA):aX lA:=(cond (decide (x.t19 < x.t18)) (cond ((decide (0<=x.t19))&&(decide (x.t19 < (x.t17.n:Int)))) (cond (Ja x).isSome (cond (!((Ja x).getD default))
   (rL x) (cond (Jb x).isSome (cond (!((Jb x).getD default))
    (rL x) (cond (Jc x).isSome (cond (!((Jc x).getD default))
     (rL x) (.next ⟨x.l,x.e,x.t17,x.t18,(aP (x.t19+1)),x.b⟩)) .fail)) .fail)) .fail) .fail) (.out (aI.ah.exit 0) x))
theorem Yi (x:lA):ab1 (KW x) (KX x)=aX.enc KW KX (lB x):=by
 unfold lB rL
 try simp only [aX.cJ]
 kernel_rfl
def Nn:Lp:=⟨39,58,U2,fun vs rs=>dU KW KX (goN lB (RB vs rs)) [aI.ah.exit 0,aI.ah.ret],false⟩
theorem RC:Nn.Ok PG:=C8 (ak.cons I9 (ak.cons Nl ak.nil)) bu.nil (pa:=RB) Yi
structure rp where
 e:Int
 t49:(Sl fp)
 t50:Int
 t51:Int
 b:DI
instance:Inhabited rp:=⟨⟨default,default,default,default,default⟩⟩
def Jd (x:rp):List KV:=[.int .i64 x.e,dG 36 oP x.t49,.int .i64 x.t50,.int .i64 x.t51]
def Je (x:rp):List (List KV):=[ami x.b]
def PE (vs:List KV) (rs:List (List KV)):rp:=⟨ax (v9 vs 0),eF kQ (v9 vs 1),ax (v9 vs 2),ax (v9 vs 3),amj (r9 rs 0)⟩
def RD:aJ:=⟨[(3,w9 i9),(49,w9 (n9 36)),(50,w9 i9),(51,w9 i9)],[(2,[i9,i9,i9,i9,i9,i9],1)],[(2,0,0)]⟩
def abj:=Cv [(63,J5),(62,Qz)] [Nn] 39 250 RD
def Gl (x:rp):=FD x.b ⟨(x.t49.get (Int.toNat x.t51)),(x.t49.get (Int.toNat x.t51))⟩
def lR (x:rp):aX rp:=(cond (decide (x.t51 < x.t50)) (cond ((decide (0<=x.t51))&&(decide (x.t51 < (x.t49.n:Int)))) (cond (Gl x).isSome (.next ⟨x.e,x.t49,x.t50,(aP (x.t51+1)),((Gl x).getD default)⟩) .fail) .fail) (.out (aI.ah.exit 2) x))
theorem WD (x:rp):abj (Jd x) (Je x)=aX.enc Jd Je (lR x):=by
 unfold lR
 try simp only [aX.cJ]
 kernel_rfl
def RE:Lp:=⟨39,250,RD,fun vs rs=>dU Jd Je (goN lR (PE vs rs)) [aI.ah.exit 2],false⟩
theorem abk:RE.Ok PG:=C8 (ak.cons I9 (ak.cons Nl ak.nil)) (rH RC bu.nil) (pa:=PE) WD
def ib (l:(Sl fp)):=goN lB ⟨l,0,l,(l.n:Int),0,⟨⟨0,0,0⟩,⟨0,0,0⟩⟩⟩
def J6 (l:(Sl fp)):=goN lR ⟨(ib l).st.e,⟨((Int.toNat ((ib l).st.l.n:Int)) - 1),(fun i=>((ib l).st.l.get (1+i)))⟩,((((Int.toNat ((ib l).st.l.n:Int)) - 1):Nat):Int),0,⟨((ib l).st.l.get 0),((ib l).st.l.get 0)⟩⟩
def Ho (l:(Sl fp)):Option (DI×Int):=(some (⟨⟨0,0,0⟩,⟨0,0,0⟩⟩,4))
def HB (l:(Sl fp)):Option (DI×Int):=(cond ((l.n:Int)==0)
  (Ho l) (cond (decide ((l.n:Int) > 4096))
  (Ho l) (cond ((ib l).by (aI.ah.exit 0)) (cond (decide (0 < ((ib l).st.l.n:Int))) (cond (decide (0 < ((ib l).st.l.n:Int))) (cond ((decide (1<=((ib l).st.l.n:Int)))&&(decide (((ib l).st.l.n:Int)<=((ib l).st.l.n:Int)))) (cond ((J6 l).by (aI.ah.exit 2)) (some ((J6 l).st.b,0)) none) none) none) none) (cond ((ib l).by aI.ah.ret) (some ((ib l).st.b,(ib l).st.e)) none))))
theorem agz (l:(Sl fp)):rv [(63,J5),(62,Qz)] [Nn,RE] 39 [(dG 36 oP) l] = (HB l).map (fun (r:DI×Int)=>KV.l8 [HT r.1,(kI .i64) r.2]):=by
 unfold HB Ho
 try simp only [cf]
 kernel_rfl
def QA:List KV->KR KV:=b5 PG 39 (cg (fun (r:DI×Int)=>KV.l8 [HT r.1,(kI .i64) r.2]) fun vs=>HB ((eF kQ) (v9 vs 0)))
theorem Np:bZ PG 39 QA:=ee (ak.cons I9 (ak.cons Nl ak.nil)) (rH RC (rH abk bu.nil)) fun w=>agz ((eF kQ) (g0 66 (w 0)))
structure Item where
 ay:(Sl fp)
 uV:(Sl kA)
 abl:(Sl dm)
 look:kf
 box:DI
instance:Inhabited Item:=⟨⟨default,default,default,default,default⟩⟩
structure Gate where
 eZ:fp
 from_:Int
 to_:Int
instance:Inhabited Gate:=⟨⟨default,default,default⟩⟩
def aoz (x:Gate):List KV:=[.int .i64 x.eZ.x,.int .i64 x.eZ.y,.int .i64 x.eZ.z,.int .i64 x.from_,.int .i64 x.to_]
def abm (x:Gate):KV:=.agg (aoz x)
def aoA (c:Nat->KV):Gate:=⟨⟨ax (c 0),ax (c 1),ax (c 2)⟩,ax (c 3),ax (c 4)⟩
def WG (v:KV):Gate:=aoA fun k=>v.cells.getD k .bf
theorem amk (x:Gate):WG (abm x)=x:=rfl
theorem aml:WG .bf=default:=rfl
theorem ah4 (s:Sl Gate) (v:Gate):s.push v=au WG (s.n+1) (av s.n (fun i=>abm (s.get i)) (cZ [abm v])):=(fP amk aml s v).symm
structure Place where
 item:Item
 sh:Bool
 aq:(Sl Gate)
instance:Inhabited Place:=⟨⟨default,default,default⟩⟩
def U3 (x:Place):List KV:=[dG 36 oP x.item.ay,dG 125 ju x.item.uV,dG 51 eM x.item.abl,.int .u8 x.item.look.color.e0,.int .u8 x.item.look.color.e1,.int .u8 x.item.look.color.e2,.int .u8 x.item.look.color.e3,.int .i64 x.item.look.dI,.int .u8 x.item.look.oQ,.int .i64 x.item.look.nT,.bool x.item.look.ku,.int .i64 x.item.look.bin,.int .i64 x.item.box.low.x,.int .i64 x.item.box.low.y,.int .i64 x.item.box.low.z,.int .i64 x.item.box.high.x,.int .i64 x.item.box.high.y,.int .i64 x.item.box.high.z,.bool x.sh,dG 87 abm x.aq]
def DK (x:Place):KV:=.agg (U3 x)
def U4 (c:Nat->KV):Place:=⟨⟨eF kQ (c 0),eF fC (c 1),eF e8 (c 2),⟨⟨ax (c 3),ax (c 4),ax (c 5),ax (c 6)⟩,ax (c 7),ax (c 8),ax (c 9),eH (c 10),ax (c 11)⟩,⟨⟨ax (c 12),ax (c 13),ax (c 14)⟩,⟨ax (c 15),ax (c 16),ax (c 17)⟩⟩⟩,eH (c 18),eF WG (c 19)⟩
def Nq (v:KV):Place:=U4 fun k=>v.cells.getD k .bf
structure cT where
 t5:Int
 aW:(Sl dt)
 t20:(Sl Handle)
 t21:Int
 t22:Int
 s:aC
 p:Path
 t4:Place
 w:Bc
 out:Place
 n:Node
instance:Inhabited cT:=⟨by constructor<;>exact default⟩
def Av (x:cT):List KV:=[.int .i64 x.t5,dG 62 oy x.aW,dG 32 gN x.t20,.int .i64 x.t21,.int .i64 x.t22]
def Aw (x:cT):List (List KV):=[zt x.s,aec x.p,U3 x.t4,Py x.w,U3 x.out,al1 x.n]
def GB (vs:List KV) (rs:List (List KV)):cT:=⟨ax (v9 vs 0),eF iv (v9 vs 1),eF fK (v9 vs 2),ax (v9 vs 3),ax (v9 vs 4),zu (r9 rs 0),aed (r9 rs 1),U4 (r9 rs 2),Pz (r9 rs 3),U4 (r9 rs 4),al2 (r9 rs 5)⟩
def Jf:aJ:=⟨[(5,w9 i9),(9,⟨false,[.aO 62]⟩),(20,w9 (n9 32)),(21,w9 i9),(22,w9 i9)],[(2,[n9 139,n9 47,n9 64,n9 79,n9 118,i9,i9],1),(3,[n9 32,n9 3],1),(4,[.aO 36,n9 125,n9 51,u9,u9,u9,u9,i9,u9,i9,b9,i9,i9,i9,i9,i9,i9,i9,b9,.aO 87],1),(6,[i9,i9,i9,i9,i9,i9,i9,i9,i9,i9,i9,i9,i9],1),(7,[.aO 36,n9 125,n9 51,u9,u9,u9,u9,i9,u9,i9,b9,i9,i9,i9,i9,i9,i9,i9,b9,.aO 87],1),(8,[u9,i9,i9,i9,i9,i9,i9,i9,i9,i9,i9,i9,i9,.k (.int .u16),i9,i9,i9,n9 3,i9,u9,u9,u9,u9,u9,u9,u9,u9,u9,i9,u9,i9,b9,i9],1)],[(2,0,0),(3,1,0),(4,2,0),(6,3,0),(7,4,0),(8,5,0)]⟩
def QV:=Cv [(39,QA),(38,BC),(37,Hm),(36,wR),(13,Hl),(52,Nf),(26,J2)] [] 21 506 Jf
def aZ (x:cT):=EC x.w.m (x.s.nodes.get (Int.toNat (x.t20.get (Int.toNat x.t22)).slot)).oz
def cU (x:cT):=uo ((aZ x).getD default).fst (x.s.nodes.get (Int.toNat (x.t20.get (Int.toNat x.t22)).slot)).eZ
def cV (x:cT):=uo x.w.m (x.s.nodes.get (Int.toNat (x.t20.get (Int.toNat x.t22)).slot)).eZ
def oA (x:cT):aX cT:=(cond ((x.s.nodes.get (Int.toNat (x.t20.get (Int.toNat x.t22)).slot)).kind==4) (cond ((decide (0<=x.t22))&&(decide (x.t22 < (x.p.kids.n:Int)))) (cond (((aZ x).getD default).snd != 0) (cond (decide ((x.p.kids.get (Int.toNat x.t22)) < ((x.s.nodes.get (Int.toNat (x.t20.get (Int.toNat x.t22)).slot)).fo.n:Int))) (cond ((decide (0<=(x.p.kids.get (Int.toNat x.t22))))&&(decide ((x.p.kids.get (Int.toNat x.t22)) < ((x.s.nodes.get (Int.toNat (x.t20.get (Int.toNat x.t22)).slot)).fo.n:Int)))) (cond (decide ((x.p.kids.get (Int.toNat x.t22)) > 0)) (cond ((decide (0<=(aP ((x.p.kids.get (Int.toNat x.t22)) - 1))))&&(decide ((aP ((x.p.kids.get (Int.toNat x.t22)) - 1)) < ((x.s.nodes.get (Int.toNat (x.t20.get (Int.toNat x.t22)).slot)).fo.n:Int)))) (cond ((ai x.out.aq.n x.out.aq.n)&&(dQ 40 x.out.aq.n 1)) (cond (cond (cond (cond (cond (ai (x.out.aq.n+1) (x.out.aq.n+1)) (ai x.out.item.ay.n x.out.item.ay.n) false) (ai x.t4.aq.n x.t4.aq.n) false) (ai x.t4.item.ay.n x.t4.item.ay.n) false) (ai (x.aW.n+1) (x.aW.n+1)) false) (.next ⟨x.t5,(x.aW.push (x.s.nodes.get (Int.toNat (x.t20.get (Int.toNat x.t22)).slot)).bF),x.t20,x.t21,(aP (x.t22+1)),x.s,x.p,x.t4,⟨((aZ x).getD default).fst,((aZ x).getD default).snd⟩,⟨x.out.item,x.out.sh,(x.out.aq.push ⟨⟨0,0,0⟩,((x.s.nodes.get (Int.toNat (x.t20.get (Int.toNat x.t22)).slot)).fo.get (Int.toNat (aP ((x.p.kids.get (Int.toNat x.t22)) - 1)))),((x.s.nodes.get (Int.toNat (x.t20.get (Int.toNat x.t22)).slot)).fo.get (Int.toNat (x.p.kids.get (Int.toNat x.t22))))⟩)⟩,(x.s.nodes.get (Int.toNat (x.t20.get (Int.toNat x.t22)).slot))⟩) .fail) .fail) .fail) (cond ((ai x.out.aq.n x.out.aq.n)&&(dQ 40 x.out.aq.n 1)) (cond (cond (cond (cond (cond (ai (x.out.aq.n+1) (x.out.aq.n+1)) (ai x.out.item.ay.n x.out.item.ay.n) false) (ai x.t4.aq.n x.t4.aq.n) false) (ai x.t4.item.ay.n x.t4.item.ay.n) false) (ai (x.aW.n+1) (x.aW.n+1)) false) (.next ⟨x.t5,(x.aW.push (x.s.nodes.get (Int.toNat (x.t20.get (Int.toNat x.t22)).slot)).bF),x.t20,x.t21,(aP (x.t22+1)),x.s,x.p,x.t4,⟨((aZ x).getD default).fst,((aZ x).getD default).snd⟩,⟨x.out.item,x.out.sh,(x.out.aq.push ⟨⟨0,0,0⟩,0,((x.s.nodes.get (Int.toNat (x.t20.get (Int.toNat x.t22)).slot)).fo.get (Int.toNat (x.p.kids.get (Int.toNat x.t22))))⟩)⟩,(x.s.nodes.get (Int.toNat (x.t20.get (Int.toNat x.t22)).slot))⟩) .fail) .fail)) .fail) (cond ((ai x.out.aq.n x.out.aq.n)&&(dQ 40 x.out.aq.n 1)) (cond (cond (cond (cond (cond (ai (x.out.aq.n+1) (x.out.aq.n+1)) (ai x.out.item.ay.n x.out.item.ay.n) false) (ai x.t4.aq.n x.t4.aq.n) false) (ai x.t4.item.ay.n x.t4.item.ay.n) false) (ai (x.aW.n+1) (x.aW.n+1)) false) (.next ⟨x.t5,(x.aW.push (x.s.nodes.get (Int.toNat (x.t20.get (Int.toNat x.t22)).slot)).bF),x.t20,x.t21,(aP (x.t22+1)),x.s,x.p,x.t4,⟨((aZ x).getD default).fst,((aZ x).getD default).snd⟩,⟨x.out.item,x.out.sh,(x.out.aq.push ⟨⟨0,0,0⟩,0,0⟩)⟩,(x.s.nodes.get (Int.toNat (x.t20.get (Int.toNat x.t22)).slot))⟩) .fail) .fail)) (cond (cU x).isSome (cond (decide ((x.p.kids.get (Int.toNat x.t22)) < ((x.s.nodes.get (Int.toNat (x.t20.get (Int.toNat x.t22)).slot)).fo.n:Int))) (cond ((decide (0<=(x.p.kids.get (Int.toNat x.t22))))&&(decide ((x.p.kids.get (Int.toNat x.t22)) < ((x.s.nodes.get (Int.toNat (x.t20.get (Int.toNat x.t22)).slot)).fo.n:Int)))) (cond (decide ((x.p.kids.get (Int.toNat x.t22)) > 0)) (cond ((decide (0<=(aP ((x.p.kids.get (Int.toNat x.t22)) - 1))))&&(decide ((aP ((x.p.kids.get (Int.toNat x.t22)) - 1)) < ((x.s.nodes.get (Int.toNat (x.t20.get (Int.toNat x.t22)).slot)).fo.n:Int)))) (cond ((ai x.out.aq.n x.out.aq.n)&&(dQ 40 x.out.aq.n 1)) (cond (cond (cond (cond (cond (ai (x.out.aq.n+1) (x.out.aq.n+1)) (ai x.out.item.ay.n x.out.item.ay.n) false) (ai x.t4.aq.n x.t4.aq.n) false) (ai x.t4.item.ay.n x.t4.item.ay.n) false) (ai (x.aW.n+1) (x.aW.n+1)) false) (.next ⟨x.t5,(x.aW.push (x.s.nodes.get (Int.toNat (x.t20.get (Int.toNat x.t22)).slot)).bF),x.t20,x.t21,(aP (x.t22+1)),x.s,x.p,x.t4,⟨((aZ x).getD default).fst,((cU x).getD default).snd⟩,⟨x.out.item,x.out.sh,(x.out.aq.push ⟨((cU x).getD default).fst,((x.s.nodes.get (Int.toNat (x.t20.get (Int.toNat x.t22)).slot)).fo.get (Int.toNat (aP ((x.p.kids.get (Int.toNat x.t22)) - 1)))),((x.s.nodes.get (Int.toNat (x.t20.get (Int.toNat x.t22)).slot)).fo.get (Int.toNat (x.p.kids.get (Int.toNat x.t22))))⟩)⟩,(x.s.nodes.get (Int.toNat (x.t20.get (Int.toNat x.t22)).slot))⟩) .fail) .fail) .fail) (cond ((ai x.out.aq.n x.out.aq.n)&&(dQ 40 x.out.aq.n 1)) (cond (cond (cond (cond (cond (ai (x.out.aq.n+1) (x.out.aq.n+1)) (ai x.out.item.ay.n x.out.item.ay.n) false) (ai x.t4.aq.n x.t4.aq.n) false) (ai x.t4.item.ay.n x.t4.item.ay.n) false) (ai (x.aW.n+1) (x.aW.n+1)) false) (.next ⟨x.t5,(x.aW.push (x.s.nodes.get (Int.toNat (x.t20.get (Int.toNat x.t22)).slot)).bF),x.t20,x.t21,(aP (x.t22+1)),x.s,x.p,x.t4,⟨((aZ x).getD default).fst,((cU x).getD default).snd⟩,⟨x.out.item,x.out.sh,(x.out.aq.push ⟨((cU x).getD default).fst,0,((x.s.nodes.get (Int.toNat (x.t20.get (Int.toNat x.t22)).slot)).fo.get (Int.toNat (x.p.kids.get (Int.toNat x.t22))))⟩)⟩,(x.s.nodes.get (Int.toNat (x.t20.get (Int.toNat x.t22)).slot))⟩) .fail) .fail)) .fail) (cond ((ai x.out.aq.n x.out.aq.n)&&(dQ 40 x.out.aq.n 1)) (cond (cond (cond (cond (cond (ai (x.out.aq.n+1) (x.out.aq.n+1)) (ai x.out.item.ay.n x.out.item.ay.n) false) (ai x.t4.aq.n x.t4.aq.n) false) (ai x.t4.item.ay.n x.t4.item.ay.n) false) (ai (x.aW.n+1) (x.aW.n+1)) false) (.next ⟨x.t5,(x.aW.push (x.s.nodes.get (Int.toNat (x.t20.get (Int.toNat x.t22)).slot)).bF),x.t20,x.t21,(aP (x.t22+1)),x.s,x.p,x.t4,⟨((aZ x).getD default).fst,((cU x).getD default).snd⟩,⟨x.out.item,x.out.sh,(x.out.aq.push ⟨((cU x).getD default).fst,0,0⟩)⟩,(x.s.nodes.get (Int.toNat (x.t20.get (Int.toNat x.t22)).slot))⟩) .fail) .fail)) .fail)) .fail) (cond (cond (cond (cond (cond (ai x.out.aq.n x.out.aq.n) (ai x.out.item.ay.n x.out.item.ay.n) false) (ai x.t4.aq.n x.t4.aq.n) false) (ai x.t4.item.ay.n x.t4.item.ay.n) false) (ai (x.aW.n+1) (x.aW.n+1)) false) (.next ⟨x.t5,(x.aW.push (x.s.nodes.get (Int.toNat (x.t20.get (Int.toNat x.t22)).slot)).bF),x.t20,x.t21,(aP (x.t22+1)),x.s,x.p,x.t4,⟨((aZ x).getD default).fst,((aZ x).getD default).snd⟩,x.out,(x.s.nodes.get (Int.toNat (x.t20.get (Int.toNat x.t22)).slot))⟩) .fail))
def oB (x:cT):aX cT:=(cond ((x.s.nodes.get (Int.toNat (x.t20.get (Int.toNat x.t22)).slot)).kind==4) (cond ((decide (0<=x.t22))&&(decide (x.t22 < (x.p.kids.n:Int)))) (cond (x.w.e != 0) (cond (decide ((x.p.kids.get (Int.toNat x.t22)) < ((x.s.nodes.get (Int.toNat (x.t20.get (Int.toNat x.t22)).slot)).fo.n:Int))) (cond ((decide (0<=(x.p.kids.get (Int.toNat x.t22))))&&(decide ((x.p.kids.get (Int.toNat x.t22)) < ((x.s.nodes.get (Int.toNat (x.t20.get (Int.toNat x.t22)).slot)).fo.n:Int)))) (cond (decide ((x.p.kids.get (Int.toNat x.t22)) > 0)) (cond ((decide (0<=(aP ((x.p.kids.get (Int.toNat x.t22)) - 1))))&&(decide ((aP ((x.p.kids.get (Int.toNat x.t22)) - 1)) < ((x.s.nodes.get (Int.toNat (x.t20.get (Int.toNat x.t22)).slot)).fo.n:Int)))) (cond ((ai x.out.aq.n x.out.aq.n)&&(dQ 40 x.out.aq.n 1)) (cond (cond (cond (cond (cond (ai (x.out.aq.n+1) (x.out.aq.n+1)) (ai x.out.item.ay.n x.out.item.ay.n) false) (ai x.t4.aq.n x.t4.aq.n) false) (ai x.t4.item.ay.n x.t4.item.ay.n) false) (ai (x.aW.n+1) (x.aW.n+1)) false) (.next ⟨x.t5,(x.aW.push (x.s.nodes.get (Int.toNat (x.t20.get (Int.toNat x.t22)).slot)).bF),x.t20,x.t21,(aP (x.t22+1)),x.s,x.p,x.t4,x.w,⟨x.out.item,x.out.sh,(x.out.aq.push ⟨⟨0,0,0⟩,((x.s.nodes.get (Int.toNat (x.t20.get (Int.toNat x.t22)).slot)).fo.get (Int.toNat (aP ((x.p.kids.get (Int.toNat x.t22)) - 1)))),((x.s.nodes.get (Int.toNat (x.t20.get (Int.toNat x.t22)).slot)).fo.get (Int.toNat (x.p.kids.get (Int.toNat x.t22))))⟩)⟩,(x.s.nodes.get (Int.toNat (x.t20.get (Int.toNat x.t22)).slot))⟩) .fail) .fail) .fail) (cond ((ai x.out.aq.n x.out.aq.n)&&(dQ 40 x.out.aq.n 1)) (cond (cond (cond (cond (cond (ai (x.out.aq.n+1) (x.out.aq.n+1)) (ai x.out.item.ay.n x.out.item.ay.n) false) (ai x.t4.aq.n x.t4.aq.n) false) (ai x.t4.item.ay.n x.t4.item.ay.n) false) (ai (x.aW.n+1) (x.aW.n+1)) false) (.next ⟨x.t5,(x.aW.push (x.s.nodes.get (Int.toNat (x.t20.get (Int.toNat x.t22)).slot)).bF),x.t20,x.t21,(aP (x.t22+1)),x.s,x.p,x.t4,x.w,⟨x.out.item,x.out.sh,(x.out.aq.push ⟨⟨0,0,0⟩,0,((x.s.nodes.get (Int.toNat (x.t20.get (Int.toNat x.t22)).slot)).fo.get (Int.toNat (x.p.kids.get (Int.toNat x.t22))))⟩)⟩,(x.s.nodes.get (Int.toNat (x.t20.get (Int.toNat x.t22)).slot))⟩) .fail) .fail)) .fail) (cond ((ai x.out.aq.n x.out.aq.n)&&(dQ 40 x.out.aq.n 1)) (cond (cond (cond (cond (cond (ai (x.out.aq.n+1) (x.out.aq.n+1)) (ai x.out.item.ay.n x.out.item.ay.n) false) (ai x.t4.aq.n x.t4.aq.n) false) (ai x.t4.item.ay.n x.t4.item.ay.n) false) (ai (x.aW.n+1) (x.aW.n+1)) false) (.next ⟨x.t5,(x.aW.push (x.s.nodes.get (Int.toNat (x.t20.get (Int.toNat x.t22)).slot)).bF),x.t20,x.t21,(aP (x.t22+1)),x.s,x.p,x.t4,x.w,⟨x.out.item,x.out.sh,(x.out.aq.push ⟨⟨0,0,0⟩,0,0⟩)⟩,(x.s.nodes.get (Int.toNat (x.t20.get (Int.toNat x.t22)).slot))⟩) .fail) .fail)) (cond (cV x).isSome (cond (decide ((x.p.kids.get (Int.toNat x.t22)) < ((x.s.nodes.get (Int.toNat (x.t20.get (Int.toNat x.t22)).slot)).fo.n:Int))) (cond ((decide (0<=(x.p.kids.get (Int.toNat x.t22))))&&(decide ((x.p.kids.get (Int.toNat x.t22)) < ((x.s.nodes.get (Int.toNat (x.t20.get (Int.toNat x.t22)).slot)).fo.n:Int)))) (cond (decide ((x.p.kids.get (Int.toNat x.t22)) > 0)) (cond ((decide (0<=(aP ((x.p.kids.get (Int.toNat x.t22)) - 1))))&&(decide ((aP ((x.p.kids.get (Int.toNat x.t22)) - 1)) < ((x.s.nodes.get (Int.toNat (x.t20.get (Int.toNat x.t22)).slot)).fo.n:Int)))) (cond ((ai x.out.aq.n x.out.aq.n)&&(dQ 40 x.out.aq.n 1)) (cond (cond (cond (cond (cond (ai (x.out.aq.n+1) (x.out.aq.n+1)) (ai x.out.item.ay.n x.out.item.ay.n) false) (ai x.t4.aq.n x.t4.aq.n) false) (ai x.t4.item.ay.n x.t4.item.ay.n) false) (ai (x.aW.n+1) (x.aW.n+1)) false) (.next ⟨x.t5,(x.aW.push (x.s.nodes.get (Int.toNat (x.t20.get (Int.toNat x.t22)).slot)).bF),x.t20,x.t21,(aP (x.t22+1)),x.s,x.p,x.t4,⟨x.w.m,((cV x).getD default).snd⟩,⟨x.out.item,x.out.sh,(x.out.aq.push ⟨((cV x).getD default).fst,((x.s.nodes.get (Int.toNat (x.t20.get (Int.toNat x.t22)).slot)).fo.get (Int.toNat (aP ((x.p.kids.get (Int.toNat x.t22)) - 1)))),((x.s.nodes.get (Int.toNat (x.t20.get (Int.toNat x.t22)).slot)).fo.get (Int.toNat (x.p.kids.get (Int.toNat x.t22))))⟩)⟩,(x.s.nodes.get (Int.toNat (x.t20.get (Int.toNat x.t22)).slot))⟩) .fail) .fail) .fail) (cond ((ai x.out.aq.n x.out.aq.n)&&(dQ 40 x.out.aq.n 1)) (cond (cond (cond (cond (cond (ai (x.out.aq.n+1) (x.out.aq.n+1)) (ai x.out.item.ay.n x.out.item.ay.n) false) (ai x.t4.aq.n x.t4.aq.n) false) (ai x.t4.item.ay.n x.t4.item.ay.n) false) (ai (x.aW.n+1) (x.aW.n+1)) false) (.next ⟨x.t5,(x.aW.push (x.s.nodes.get (Int.toNat (x.t20.get (Int.toNat x.t22)).slot)).bF),x.t20,x.t21,(aP (x.t22+1)),x.s,x.p,x.t4,⟨x.w.m,((cV x).getD default).snd⟩,⟨x.out.item,x.out.sh,(x.out.aq.push ⟨((cV x).getD default).fst,0,((x.s.nodes.get (Int.toNat (x.t20.get (Int.toNat x.t22)).slot)).fo.get (Int.toNat (x.p.kids.get (Int.toNat x.t22))))⟩)⟩,(x.s.nodes.get (Int.toNat (x.t20.get (Int.toNat x.t22)).slot))⟩) .fail) .fail)) .fail) (cond ((ai x.out.aq.n x.out.aq.n)&&(dQ 40 x.out.aq.n 1)) (cond (cond (cond (cond (cond (ai (x.out.aq.n+1) (x.out.aq.n+1)) (ai x.out.item.ay.n x.out.item.ay.n) false) (ai x.t4.aq.n x.t4.aq.n) false) (ai x.t4.item.ay.n x.t4.item.ay.n) false) (ai (x.aW.n+1) (x.aW.n+1)) false) (.next ⟨x.t5,(x.aW.push (x.s.nodes.get (Int.toNat (x.t20.get (Int.toNat x.t22)).slot)).bF),x.t20,x.t21,(aP (x.t22+1)),x.s,x.p,x.t4,⟨x.w.m,((cV x).getD default).snd⟩,⟨x.out.item,x.out.sh,(x.out.aq.push ⟨((cV x).getD default).fst,0,0⟩)⟩,(x.s.nodes.get (Int.toNat (x.t20.get (Int.toNat x.t22)).slot))⟩) .fail) .fail)) .fail)) .fail) (cond (cond (cond (cond (cond (ai x.out.aq.n x.out.aq.n) (ai x.out.item.ay.n x.out.item.ay.n) false) (ai x.t4.aq.n x.t4.aq.n) false) (ai x.t4.item.ay.n x.t4.item.ay.n) false) (ai (x.aW.n+1) (x.aW.n+1)) false) (.next ⟨x.t5,(x.aW.push (x.s.nodes.get (Int.toNat (x.t20.get (Int.toNat x.t22)).slot)).bF),x.t20,x.t21,(aP (x.t22+1)),x.s,x.p,x.t4,x.w,x.out,(x.s.nodes.get (Int.toNat (x.t20.get (Int.toNat x.t22)).slot))⟩) .fail))
def oC (x:cT):aX cT:=(cond ((x.s.nodes.get (Int.toNat (x.t20.get (Int.toNat x.t22)).slot)).kind==3) (cond ((decide (0<=x.t22))&&(decide (x.t22 < (x.p.kids.n:Int)))) (cond (!(decide ((x.p.kids.get (Int.toNat x.t22)) < 0))) (cond ((w16 (((Fe IntKind.u16 (Int.fdiv (x.s.nodes.get (Int.toNat (x.t20.get (Int.toNat x.t22)).slot)).sh (2 ^ (min (Int.toNat (x.p.kids.get (Int.toNat x.t22))) 16))) 1):Nat):Int))==0) (cond ((x.s.nodes.get (Int.toNat (x.t20.get (Int.toNat x.t22)).slot)).kind==4) (cond ((decide (0<=x.t22))&&(decide (x.t22 < (x.p.kids.n:Int)))) (cond (x.w.e != 0) (cond (decide ((x.p.kids.get (Int.toNat x.t22)) < ((x.s.nodes.get (Int.toNat (x.t20.get (Int.toNat x.t22)).slot)).fo.n:Int))) (cond ((decide (0<=(x.p.kids.get (Int.toNat x.t22))))&&(decide ((x.p.kids.get (Int.toNat x.t22)) < ((x.s.nodes.get (Int.toNat (x.t20.get (Int.toNat x.t22)).slot)).fo.n:Int)))) (cond (decide ((x.p.kids.get (Int.toNat x.t22)) > 0)) (cond ((decide (0<=(aP ((x.p.kids.get (Int.toNat x.t22)) - 1))))&&(decide ((aP ((x.p.kids.get (Int.toNat x.t22)) - 1)) < ((x.s.nodes.get (Int.toNat (x.t20.get (Int.toNat x.t22)).slot)).fo.n:Int)))) (cond ((ai x.out.aq.n x.out.aq.n)&&(dQ 40 x.out.aq.n 1)) (cond (cond (cond (cond (cond (ai (x.out.aq.n+1) (x.out.aq.n+1)) (ai x.out.item.ay.n x.out.item.ay.n) false) (ai x.t4.aq.n x.t4.aq.n) false) (ai x.t4.item.ay.n x.t4.item.ay.n) false) (ai (x.aW.n+1) (x.aW.n+1)) false) (.next ⟨x.t5,(x.aW.push (x.s.nodes.get (Int.toNat (x.t20.get (Int.toNat x.t22)).slot)).bF),x.t20,x.t21,(aP (x.t22+1)),x.s,x.p,x.t4,x.w,⟨x.out.item,false,(x.out.aq.push ⟨⟨0,0,0⟩,((x.s.nodes.get (Int.toNat (x.t20.get (Int.toNat x.t22)).slot)).fo.get (Int.toNat (aP ((x.p.kids.get (Int.toNat x.t22)) - 1)))),((x.s.nodes.get (Int.toNat (x.t20.get (Int.toNat x.t22)).slot)).fo.get (Int.toNat (x.p.kids.get (Int.toNat x.t22))))⟩)⟩,(x.s.nodes.get (Int.toNat (x.t20.get (Int.toNat x.t22)).slot))⟩) .fail) .fail) .fail) (cond ((ai x.out.aq.n x.out.aq.n)&&(dQ 40 x.out.aq.n 1)) (cond (cond (cond (cond (cond (ai (x.out.aq.n+1) (x.out.aq.n+1)) (ai x.out.item.ay.n x.out.item.ay.n) false) (ai x.t4.aq.n x.t4.aq.n) false) (ai x.t4.item.ay.n x.t4.item.ay.n) false) (ai (x.aW.n+1) (x.aW.n+1)) false) (.next ⟨x.t5,(x.aW.push (x.s.nodes.get (Int.toNat (x.t20.get (Int.toNat x.t22)).slot)).bF),x.t20,x.t21,(aP (x.t22+1)),x.s,x.p,x.t4,x.w,⟨x.out.item,false,(x.out.aq.push ⟨⟨0,0,0⟩,0,((x.s.nodes.get (Int.toNat (x.t20.get (Int.toNat x.t22)).slot)).fo.get (Int.toNat (x.p.kids.get (Int.toNat x.t22))))⟩)⟩,(x.s.nodes.get (Int.toNat (x.t20.get (Int.toNat x.t22)).slot))⟩) .fail) .fail)) .fail) (cond ((ai x.out.aq.n x.out.aq.n)&&(dQ 40 x.out.aq.n 1)) (cond (cond (cond (cond (cond (ai (x.out.aq.n+1) (x.out.aq.n+1)) (ai x.out.item.ay.n x.out.item.ay.n) false) (ai x.t4.aq.n x.t4.aq.n) false) (ai x.t4.item.ay.n x.t4.item.ay.n) false) (ai (x.aW.n+1) (x.aW.n+1)) false) (.next ⟨x.t5,(x.aW.push (x.s.nodes.get (Int.toNat (x.t20.get (Int.toNat x.t22)).slot)).bF),x.t20,x.t21,(aP (x.t22+1)),x.s,x.p,x.t4,x.w,⟨x.out.item,false,(x.out.aq.push ⟨⟨0,0,0⟩,0,0⟩)⟩,(x.s.nodes.get (Int.toNat (x.t20.get (Int.toNat x.t22)).slot))⟩) .fail) .fail)) (cond (cV x).isSome (cond (decide ((x.p.kids.get (Int.toNat x.t22)) < ((x.s.nodes.get (Int.toNat (x.t20.get (Int.toNat x.t22)).slot)).fo.n:Int))) (cond ((decide (0<=(x.p.kids.get (Int.toNat x.t22))))&&(decide ((x.p.kids.get (Int.toNat x.t22)) < ((x.s.nodes.get (Int.toNat (x.t20.get (Int.toNat x.t22)).slot)).fo.n:Int)))) (cond (decide ((x.p.kids.get (Int.toNat x.t22)) > 0)) (cond ((decide (0<=(aP ((x.p.kids.get (Int.toNat x.t22)) - 1))))&&(decide ((aP ((x.p.kids.get (Int.toNat x.t22)) - 1)) < ((x.s.nodes.get (Int.toNat (x.t20.get (Int.toNat x.t22)).slot)).fo.n:Int)))) (cond ((ai x.out.aq.n x.out.aq.n)&&(dQ 40 x.out.aq.n 1)) (cond (cond (cond (cond (cond (ai (x.out.aq.n+1) (x.out.aq.n+1)) (ai x.out.item.ay.n x.out.item.ay.n) false) (ai x.t4.aq.n x.t4.aq.n) false) (ai x.t4.item.ay.n x.t4.item.ay.n) false) (ai (x.aW.n+1) (x.aW.n+1)) false) (.next ⟨x.t5,(x.aW.push (x.s.nodes.get (Int.toNat (x.t20.get (Int.toNat x.t22)).slot)).bF),x.t20,x.t21,(aP (x.t22+1)),x.s,x.p,x.t4,⟨x.w.m,((cV x).getD default).snd⟩,⟨x.out.item,false,(x.out.aq.push ⟨((cV x).getD default).fst,((x.s.nodes.get (Int.toNat (x.t20.get (Int.toNat x.t22)).slot)).fo.get (Int.toNat (aP ((x.p.kids.get (Int.toNat x.t22)) - 1)))),((x.s.nodes.get (Int.toNat (x.t20.get (Int.toNat x.t22)).slot)).fo.get (Int.toNat (x.p.kids.get (Int.toNat x.t22))))⟩)⟩,(x.s.nodes.get (Int.toNat (x.t20.get (Int.toNat x.t22)).slot))⟩) .fail) .fail) .fail) (cond ((ai x.out.aq.n x.out.aq.n)&&(dQ 40 x.out.aq.n 1)) (cond (cond (cond (cond (cond (ai (x.out.aq.n+1) (x.out.aq.n+1)) (ai x.out.item.ay.n x.out.item.ay.n) false) (ai x.t4.aq.n x.t4.aq.n) false) (ai x.t4.item.ay.n x.t4.item.ay.n) false) (ai (x.aW.n+1) (x.aW.n+1)) false) (.next ⟨x.t5,(x.aW.push (x.s.nodes.get (Int.toNat (x.t20.get (Int.toNat x.t22)).slot)).bF),x.t20,x.t21,(aP (x.t22+1)),x.s,x.p,x.t4,⟨x.w.m,((cV x).getD default).snd⟩,⟨x.out.item,false,(x.out.aq.push ⟨((cV x).getD default).fst,0,((x.s.nodes.get (Int.toNat (x.t20.get (Int.toNat x.t22)).slot)).fo.get (Int.toNat (x.p.kids.get (Int.toNat x.t22))))⟩)⟩,(x.s.nodes.get (Int.toNat (x.t20.get (Int.toNat x.t22)).slot))⟩) .fail) .fail)) .fail) (cond ((ai x.out.aq.n x.out.aq.n)&&(dQ 40 x.out.aq.n 1)) (cond (cond (cond (cond (cond (ai (x.out.aq.n+1) (x.out.aq.n+1)) (ai x.out.item.ay.n x.out.item.ay.n) false) (ai x.t4.aq.n x.t4.aq.n) false) (ai x.t4.item.ay.n x.t4.item.ay.n) false) (ai (x.aW.n+1) (x.aW.n+1)) false) (.next ⟨x.t5,(x.aW.push (x.s.nodes.get (Int.toNat (x.t20.get (Int.toNat x.t22)).slot)).bF),x.t20,x.t21,(aP (x.t22+1)),x.s,x.p,x.t4,⟨x.w.m,((cV x).getD default).snd⟩,⟨x.out.item,false,(x.out.aq.push ⟨((cV x).getD default).fst,0,0⟩)⟩,(x.s.nodes.get (Int.toNat (x.t20.get (Int.toNat x.t22)).slot))⟩) .fail) .fail)) .fail)) .fail) (cond (cond (cond (cond (cond (ai x.out.aq.n x.out.aq.n) (ai x.out.item.ay.n x.out.item.ay.n) false) (ai x.t4.aq.n x.t4.aq.n) false) (ai x.t4.item.ay.n x.t4.item.ay.n) false) (ai (x.aW.n+1) (x.aW.n+1)) false) (.next ⟨x.t5,(x.aW.push (x.s.nodes.get (Int.toNat (x.t20.get (Int.toNat x.t22)).slot)).bF),x.t20,x.t21,(aP (x.t22+1)),x.s,x.p,x.t4,x.w,⟨x.out.item,false,x.out.aq⟩,(x.s.nodes.get (Int.toNat (x.t20.get (Int.toNat x.t22)).slot))⟩) .fail))
   (oB x)) .fail) .fail)
  (oB x))
def fF (x:cT):aX cT:=(cond (decide (x.t22 < x.t21)) (cond ((decide (0<=x.t22))&&(decide (x.t22 < (x.t20.n:Int)))) (cond ((decide (0<=(x.t20.get (Int.toNat x.t22)).slot))&&(decide ((x.t20.get (Int.toNat x.t22)).slot < (x.s.nodes.n:Int)))) (cond ((ai x.aW.n x.aW.n)&&(dQ 56 x.aW.n 1)) (cond ((x.s.nodes.get (Int.toNat (x.t20.get (Int.toNat x.t22)).slot)).kind==2) (cond (x.w.e==0) (cond (aZ x).isSome (cond ((x.s.nodes.get (Int.toNat (x.t20.get (Int.toNat x.t22)).slot)).kind==3) (cond ((decide (0<=x.t22))&&(decide (x.t22 < (x.p.kids.n:Int)))) (cond (!(decide ((x.p.kids.get (Int.toNat x.t22)) < 0))) (cond ((w16 (((Fe IntKind.u16 (Int.fdiv (x.s.nodes.get (Int.toNat (x.t20.get (Int.toNat x.t22)).slot)).sh (2 ^ (min (Int.toNat (x.p.kids.get (Int.toNat x.t22))) 16))) 1):Nat):Int))==0) (cond ((x.s.nodes.get (Int.toNat (x.t20.get (Int.toNat x.t22)).slot)).kind==4) (cond ((decide (0<=x.t22))&&(decide (x.t22 < (x.p.kids.n:Int)))) (cond (((aZ x).getD default).snd != 0) (cond (decide ((x.p.kids.get (Int.toNat x.t22)) < ((x.s.nodes.get (Int.toNat (x.t20.get (Int.toNat x.t22)).slot)).fo.n:Int))) (cond ((decide (0<=(x.p.kids.get (Int.toNat x.t22))))&&(decide ((x.p.kids.get (Int.toNat x.t22)) < ((x.s.nodes.get (Int.toNat (x.t20.get (Int.toNat x.t22)).slot)).fo.n:Int)))) (cond (decide ((x.p.kids.get (Int.toNat x.t22)) > 0)) (cond ((decide (0<=(aP ((x.p.kids.get (Int.toNat x.t22)) - 1))))&&(decide ((aP ((x.p.kids.get (Int.toNat x.t22)) - 1)) < ((x.s.nodes.get (Int.toNat (x.t20.get (Int.toNat x.t22)).slot)).fo.n:Int)))) (cond ((ai x.out.aq.n x.out.aq.n)&&(dQ 40 x.out.aq.n 1)) (cond (cond (cond (cond (cond (ai (x.out.aq.n+1) (x.out.aq.n+1)) (ai x.out.item.ay.n x.out.item.ay.n) false) (ai x.t4.aq.n x.t4.aq.n) false) (ai x.t4.item.ay.n x.t4.item.ay.n) false) (ai (x.aW.n+1) (x.aW.n+1)) false) (.next ⟨x.t5,(x.aW.push (x.s.nodes.get (Int.toNat (x.t20.get (Int.toNat x.t22)).slot)).bF),x.t20,x.t21,(aP (x.t22+1)),x.s,x.p,x.t4,⟨((aZ x).getD default).fst,((aZ x).getD default).snd⟩,⟨x.out.item,false,(x.out.aq.push ⟨⟨0,0,0⟩,((x.s.nodes.get (Int.toNat (x.t20.get (Int.toNat x.t22)).slot)).fo.get (Int.toNat (aP ((x.p.kids.get (Int.toNat x.t22)) - 1)))),((x.s.nodes.get (Int.toNat (x.t20.get (Int.toNat x.t22)).slot)).fo.get (Int.toNat (x.p.kids.get (Int.toNat x.t22))))⟩)⟩,(x.s.nodes.get (Int.toNat (x.t20.get (Int.toNat x.t22)).slot))⟩) .fail) .fail) .fail) (cond ((ai x.out.aq.n x.out.aq.n)&&(dQ 40 x.out.aq.n 1)) (cond (cond (cond (cond (cond (ai (x.out.aq.n+1) (x.out.aq.n+1)) (ai x.out.item.ay.n x.out.item.ay.n) false) (ai x.t4.aq.n x.t4.aq.n) false) (ai x.t4.item.ay.n x.t4.item.ay.n) false) (ai (x.aW.n+1) (x.aW.n+1)) false) (.next ⟨x.t5,(x.aW.push (x.s.nodes.get (Int.toNat (x.t20.get (Int.toNat x.t22)).slot)).bF),x.t20,x.t21,(aP (x.t22+1)),x.s,x.p,x.t4,⟨((aZ x).getD default).fst,((aZ x).getD default).snd⟩,⟨x.out.item,false,(x.out.aq.push ⟨⟨0,0,0⟩,0,((x.s.nodes.get (Int.toNat (x.t20.get (Int.toNat x.t22)).slot)).fo.get (Int.toNat (x.p.kids.get (Int.toNat x.t22))))⟩)⟩,(x.s.nodes.get (Int.toNat (x.t20.get (Int.toNat x.t22)).slot))⟩) .fail) .fail)) .fail) (cond ((ai x.out.aq.n x.out.aq.n)&&(dQ 40 x.out.aq.n 1)) (cond (cond (cond (cond (cond (ai (x.out.aq.n+1) (x.out.aq.n+1)) (ai x.out.item.ay.n x.out.item.ay.n) false) (ai x.t4.aq.n x.t4.aq.n) false) (ai x.t4.item.ay.n x.t4.item.ay.n) false) (ai (x.aW.n+1) (x.aW.n+1)) false) (.next ⟨x.t5,(x.aW.push (x.s.nodes.get (Int.toNat (x.t20.get (Int.toNat x.t22)).slot)).bF),x.t20,x.t21,(aP (x.t22+1)),x.s,x.p,x.t4,⟨((aZ x).getD default).fst,((aZ x).getD default).snd⟩,⟨x.out.item,false,(x.out.aq.push ⟨⟨0,0,0⟩,0,0⟩)⟩,(x.s.nodes.get (Int.toNat (x.t20.get (Int.toNat x.t22)).slot))⟩) .fail) .fail)) (cond (cU x).isSome (cond (decide ((x.p.kids.get (Int.toNat x.t22)) < ((x.s.nodes.get (Int.toNat (x.t20.get (Int.toNat x.t22)).slot)).fo.n:Int))) (cond ((decide (0<=(x.p.kids.get (Int.toNat x.t22))))&&(decide ((x.p.kids.get (Int.toNat x.t22)) < ((x.s.nodes.get (Int.toNat (x.t20.get (Int.toNat x.t22)).slot)).fo.n:Int)))) (cond (decide ((x.p.kids.get (Int.toNat x.t22)) > 0)) (cond ((decide (0<=(aP ((x.p.kids.get (Int.toNat x.t22)) - 1))))&&(decide ((aP ((x.p.kids.get (Int.toNat x.t22)) - 1)) < ((x.s.nodes.get (Int.toNat (x.t20.get (Int.toNat x.t22)).slot)).fo.n:Int)))) (cond ((ai x.out.aq.n x.out.aq.n)&&(dQ 40 x.out.aq.n 1)) (cond (cond (cond (cond (cond (ai (x.out.aq.n+1) (x.out.aq.n+1)) (ai x.out.item.ay.n x.out.item.ay.n) false) (ai x.t4.aq.n x.t4.aq.n) false) (ai x.t4.item.ay.n x.t4.item.ay.n) false) (ai (x.aW.n+1) (x.aW.n+1)) false) (.next ⟨x.t5,(x.aW.push (x.s.nodes.get (Int.toNat (x.t20.get (Int.toNat x.t22)).slot)).bF),x.t20,x.t21,(aP (x.t22+1)),x.s,x.p,x.t4,⟨((aZ x).getD default).fst,((cU x).getD default).snd⟩,⟨x.out.item,false,(x.out.aq.push ⟨((cU x).getD default).fst,((x.s.nodes.get (Int.toNat (x.t20.get (Int.toNat x.t22)).slot)).fo.get (Int.toNat (aP ((x.p.kids.get (Int.toNat x.t22)) - 1)))),((x.s.nodes.get (Int.toNat (x.t20.get (Int.toNat x.t22)).slot)).fo.get (Int.toNat (x.p.kids.get (Int.toNat x.t22))))⟩)⟩,(x.s.nodes.get (Int.toNat (x.t20.get (Int.toNat x.t22)).slot))⟩) .fail) .fail) .fail) (cond ((ai x.out.aq.n x.out.aq.n)&&(dQ 40 x.out.aq.n 1)) (cond (cond (cond (cond (cond (ai (x.out.aq.n+1) (x.out.aq.n+1)) (ai x.out.item.ay.n x.out.item.ay.n) false) (ai x.t4.aq.n x.t4.aq.n) false) (ai x.t4.item.ay.n x.t4.item.ay.n) false) (ai (x.aW.n+1) (x.aW.n+1)) false) (.next ⟨x.t5,(x.aW.push (x.s.nodes.get (Int.toNat (x.t20.get (Int.toNat x.t22)).slot)).bF),x.t20,x.t21,(aP (x.t22+1)),x.s,x.p,x.t4,⟨((aZ x).getD default).fst,((cU x).getD default).snd⟩,⟨x.out.item,false,(x.out.aq.push ⟨((cU x).getD default).fst,0,((x.s.nodes.get (Int.toNat (x.t20.get (Int.toNat x.t22)).slot)).fo.get (Int.toNat (x.p.kids.get (Int.toNat x.t22))))⟩)⟩,(x.s.nodes.get (Int.toNat (x.t20.get (Int.toNat x.t22)).slot))⟩) .fail) .fail)) .fail) (cond ((ai x.out.aq.n x.out.aq.n)&&(dQ 40 x.out.aq.n 1)) (cond (cond (cond (cond (cond (ai (x.out.aq.n+1) (x.out.aq.n+1)) (ai x.out.item.ay.n x.out.item.ay.n) false) (ai x.t4.aq.n x.t4.aq.n) false) (ai x.t4.item.ay.n x.t4.item.ay.n) false) (ai (x.aW.n+1) (x.aW.n+1)) false) (.next ⟨x.t5,(x.aW.push (x.s.nodes.get (Int.toNat (x.t20.get (Int.toNat x.t22)).slot)).bF),x.t20,x.t21,(aP (x.t22+1)),x.s,x.p,x.t4,⟨((aZ x).getD default).fst,((cU x).getD default).snd⟩,⟨x.out.item,false,(x.out.aq.push ⟨((cU x).getD default).fst,0,0⟩)⟩,(x.s.nodes.get (Int.toNat (x.t20.get (Int.toNat x.t22)).slot))⟩) .fail) .fail)) .fail)) .fail) (cond (cond (cond (cond (cond (ai x.out.aq.n x.out.aq.n) (ai x.out.item.ay.n x.out.item.ay.n) false) (ai x.t4.aq.n x.t4.aq.n) false) (ai x.t4.item.ay.n x.t4.item.ay.n) false) (ai (x.aW.n+1) (x.aW.n+1)) false) (.next ⟨x.t5,(x.aW.push (x.s.nodes.get (Int.toNat (x.t20.get (Int.toNat x.t22)).slot)).bF),x.t20,x.t21,(aP (x.t22+1)),x.s,x.p,x.t4,⟨((aZ x).getD default).fst,((aZ x).getD default).snd⟩,⟨x.out.item,false,x.out.aq⟩,(x.s.nodes.get (Int.toNat (x.t20.get (Int.toNat x.t22)).slot))⟩) .fail))
       (oA x)) .fail) .fail)
     (oA x)) .fail)
    (oC x))
    (oC x)) .fail) .fail) .fail) (cond (cond (cond (cond (cond (ai x.out.aq.n x.out.aq.n) (ai x.out.item.ay.n x.out.item.ay.n) false) (ai x.t4.aq.n x.t4.aq.n) false) (ai x.t4.item.ay.n x.t4.item.ay.n) false) (ai x.aW.n x.aW.n) false) (.out (aI.ah.exit 0) x) .fail))
theorem Od (x:cT):QV (Av x) (Aw x)=aX.enc Av Aw (fF x):=by
 unfold fF oC oB oA
 try simp only [aX.cJ,ah4,lL]
 kernel_rfl
def B8:Lp:=⟨21,506,Jf,fun vs rs=>dU Av Aw (goN fF (GB vs rs)) [aI.ah.exit 0],false⟩
theorem GC:B8.Ok PG:=C8 (ak.cons Np (ak.cons B7 (ak.cons Gj (ak.cons yb (ak.cons Gi (ak.cons KT (ak.cons I0 ak.nil))))))) bu.nil (pa:=GB) Od
end
end Go.Proofs.Ytckbdndhmcoihaa.b
end
