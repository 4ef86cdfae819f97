/- Part of the proof of WorldLevels: the machine, shown to be the model's, and plain models. No conditions. -/
import Derived.Test.YtckbdndhmcoihaaHp
import Derived.Test.YtckbdndhmcoihaaGp
set_option linter.unusedSimpArgs false
set_option linter.unusedVariables false
section
namespace Go.Proofs.Ytckbdndhmcoihaa.b
open Go.K
noncomputable section
structure bB where
 s:(Sl gW)
 t4:Int
 t7:Int
 t8:Int
instance:Inhabited bB:=⟨⟨default,default,default,default⟩⟩
def jb (x:bB):List KV:=[dL 79 uH x.s,.fn (.func 40) [] [],.int .i64 x.t4,.int .i64 x.t7,.int .i64 x.t8]
def jc (x:bB):List (List KV):=[]
def n4 (vs:List KV) (rs:List (List KV)):bB:=⟨eX kQ (v9 vs 0),av (v9 vs 2),av (v9 vs 3),av (v9 vs 4)⟩
def oB:aJ:=⟨[(0,w9 (n9 79)),(1,⟨false,[.lit (.fn (.func 40) [] [])]⟩),(4,w9 i9),(7,w9 i9),(8,w9 i9)],[],[]⟩
def yh:=BU [(49,yR),(48,um),(47,zR),(44,yS),(43,vX),(41,xX)] [] 75 26 oB
def iP (x:bB):=uI (x.s.get (Int.toNat x.t8))
def bI (x:bB):aX bB:=(cond (decide (x.t8 < x.t7)) (cond ((decide (0<=x.t8))&&(decide (x.t8 < (x.s.n:Int)))) (cond (iP x).isSome (cond (((iP x).getD default) != 0) (.out aG.ah.ret ⟨x.s,x.t8,x.t7,x.t8⟩) (.next ⟨x.s,x.t4,x.t7,(aO (x.t8+1))⟩)) .fail) .fail) (.out (aG.ah.exit 0) x))
theorem wX (x:bB):yh (jb x) (jc x)=aX.enc jb jc (bI x):=by
 unfold bI
 try simp only [aX.cD]
 kernel_rfl
def fL:Lp:=⟨75,26,oB,fun vs rs=>dR jb jc (goN bI (n4 vs rs)) [aG.ah.exit 0,aG.ah.ret],false⟩
theorem jd:fL.Ok PG:=CA (ak.cons uf (ak.cons uo (ak.cons xI (ak.cons yw (ak.cons vg (ak.cons vW ak.nil)))))) bm.nil (pa:=n4) wX
structure bC where
 s:(Sl gN)
 t4:Int
 t7:Int
 t8:Int
instance:Inhabited bC:=⟨⟨default,default,default,default⟩⟩
def je (x:bC):List KV:=[dL 118 jB x.s,.fn (.func 42) [] [],.int .i64 x.t4,.int .i64 x.t7,.int .i64 x.t8]
def jf (x:bC):List (List KV):=[]
def n5 (vs:List KV) (rs:List (List KV)):bC:=⟨eX eQ (v9 vs 0),av (v9 vs 2),av (v9 vs 3),av (v9 vs 4)⟩
def oC:aJ:=⟨[(0,w9 (n9 118)),(1,⟨false,[.lit (.fn (.func 42) [] [])]⟩),(4,w9 i9),(7,w9 i9),(8,w9 i9)],[],[]⟩
def yi:=BU [(49,yR),(48,um),(47,zR),(44,yS),(43,vX),(41,xX)] [fL] 76 26 oC
def iQ (x:bC):=rG (x.s.get (Int.toNat x.t8))
def bJ (x:bC):aX bC:=(cond (decide (x.t8 < x.t7)) (cond ((decide (0<=x.t8))&&(decide (x.t8 < (x.s.n:Int)))) (cond (iQ x).isSome (cond (((iQ x).getD default) != 0) (.out aG.ah.ret ⟨x.s,x.t8,x.t7,x.t8⟩) (.next ⟨x.s,x.t4,x.t7,(aO (x.t8+1))⟩)) .fail) .fail) (.out (aG.ah.exit 0) x))
theorem wY (x:bC):yi (je x) (jf x)=aX.enc je jf (bJ x):=by
 unfold bJ
 try simp only [aX.cD]
 kernel_rfl
def jy:Lp:=⟨76,26,oC,fun vs rs=>dR je jf (goN bJ (n5 vs rs)) [aG.ah.exit 0,aG.ah.ret],false⟩
theorem oa:jy.Ok PG:=CA (ak.cons uf (ak.cons uo (ak.cons xI (ak.cons yw (ak.cons vg (ak.cons vW ak.nil)))))) (r7 jd bm.nil) (pa:=n5) wY
structure eS where
 t2:Int
 t46:(Sl Node)
 t47:Int
 t48:Int
 s:aA
instance:Inhabited eS:=⟨⟨default,default,default,default,default⟩⟩
def B8 (x:eS):List KV:=[.int .i64 x.t2,dL 64 rN x.t46,.int .i64 x.t47,.int .i64 x.t48]
def B9 (x:eS):List (List KV):=[Bp x.s]
def I8 (vs:List KV) (rs:List (List KV)):eS:=⟨av (v9 vs 0),eX kP (v9 vs 1),av (v9 vs 2),av (v9 vs 3),Bq (r9 rs 0)⟩
def Kc:aJ:=⟨[(2,w9 i9),(46,w9 (n9 64)),(47,w9 i9),(48,w9 i9)],[(1,[n9 139,n9 47,n9 64,n9 79,n9 118,i9,i9],1)],[(1,0,0)]⟩
def Tj:=BU [(49,yR),(48,um),(47,zR),(44,yS),(43,vX),(41,xX)] [fL,jy] 22 250 Kc
def Al (x:eS):=wW (x.t46.get (Int.toNat x.t48)) ⟨0,⟨⟨⟨0,0,0⟩,⟨0,0,0⟩,⟨0,0,0⟩⟩,⟨0,0,0⟩⟩,0,⟨0,0,0⟩,⟨0,(fun i=>0)⟩,0,⟨⟨0,0,0,0,0⟩,⟨⟨0,0,0,0⟩,0,0,0,false,0⟩⟩⟩
def Ao (x:eS):=pg x.s (x.t46.get (Int.toNat x.t48))
def lP (x:eS):aX eS:=(cond ((decide (0<=x.t48))&&(decide (x.t48 < (x.s.graph.cB.cM.n:Int)))) (cond (x.s.graph.cB.cM.get (Int.toNat x.t48)).live (cond (Ao x).isSome (cond (((Ao x).getD default) != 0) (.out aG.ah.ret ⟨8,x.t46,x.t47,x.t48,x.s⟩) (cond ((x.t46.get (Int.toNat x.t48)).kind==5) (cond ((decide (0<=x.t48))&&(decide (x.t48 < (x.s.graph.kids.n:Int)))) (cond (decide (((x.s.graph.kids.get (Int.toNat x.t48)).n:Int) > 0)) (.out aG.ah.ret ⟨8,x.t46,x.t47,x.t48,x.s⟩) (.next ⟨x.t2,x.t46,x.t47,(aO (x.t48+1)),x.s⟩)) .fail) (.next ⟨x.t2,x.t46,x.t47,(aO (x.t48+1)),x.s⟩))) .fail) (.next ⟨x.t2,x.t46,x.t47,(aO (x.t48+1)),x.s⟩)) .fail)
def ga (x:eS):aX eS:=(cond (decide (x.t48 < x.t47)) (cond ((decide (0<=x.t48))&&(decide (x.t48 < (x.t46.n:Int)))) (cond ((decide (0<=x.t48))&&(decide (x.t48 < (x.s.graph.cB.cM.n:Int)))) (cond (!(x.s.graph.cB.cM.get (Int.toNat x.t48)).live) (cond (Al x).isSome (cond (!((Al x).getD default)) (.out aG.ah.ret ⟨8,x.t46,x.t47,x.t48,x.s⟩)
    (lP x)) .fail)
   (lP x)) .fail) .fail) (.out (aG.ah.exit 0) x))
theorem PK (x:eS):Tj (B8 x) (B9 x)=aX.enc B8 B9 (ga x):=by
 unfold ga lP
 try simp only [aX.cD]
 kernel_rfl
def Kd:Lp:=⟨22,250,Kc,fun vs rs=>dR B8 B9 (goN ga (I8 vs rs)) [aG.ah.exit 0,aG.ah.ret],false⟩
theorem Tk:Kd.Ok PG:=CA (ak.cons uf (ak.cons uo (ak.cons xI (ak.cons yw (ak.cons vg (ak.cons vW ak.nil)))))) (r7 jd (r7 oa bm.nil)) (pa:=I8) PK
def Gr (s:aA):=IV s.graph
def Bx (s:aA):=goN bI ⟨s.fj,0,(s.fj.n:Int),0⟩
def Bz (s:aA):=goN bJ ⟨s.j3,0,(s.j3.n:Int),0⟩
def nL (s:aA):=goN ga ⟨0,s.nodes,(s.nodes.n:Int),0,s⟩
def Gs (s:aA):=dy (nL s).st.s.graph.cB (nL s).st.s.root
def zS (s:aA):Option (Int):=(cond ((nL s).by (aG.ah.exit 0)) (cond (!(((nL s).st.s.root.slot==0)&&(((nL s).st.s.root.gen==0)&&true))) (cond (Gs s).isSome (cond (!((Gs s).getD default)) (some (8)) (some (0))) none) (some (0))) (cond ((nL s).by aG.ah.ret) (some ((nL s).st.t2)) none))
def zT (s:aA):Option (Int):=(cond (decide ((s.j3.n:Int) > 16)) (some (8)) (cond ((Bz s).by (aG.ah.exit 0))
  (zS s) (cond ((Bz s).by aG.ah.ret) (cond (decide ((Bz s).st.t4 >= 0)) (some (8))
   (zS s)) none)))
def rA (s:aA):Option (Int):=(cond (Gr s).isSome (cond (((Gr s).getD default) != 0) (some (8)) (cond ((s.nodes.n:Int) != (s.graph.kids.n:Int)) (some (8)) (cond (decide ((s.fj.n:Int) > 32)) (some (8)) (cond ((Bx s).by (aG.ah.exit 0))
    (zT s) (cond ((Bx s).by aG.ah.ret) (cond (decide ((Bx s).st.t4 >= 0)) (some (8))
     (zT s)) none))))) none)
theorem YF (s:aA):rE [(49,yR),(48,um),(47,zR),(44,yS),(43,vX),(41,xX)] [Kd,fL,jy] 22 [kA s] = (rA s).map (kI .i64):=by
 unfold rA zT zS
 try simp only [b6]
 kernel_rfl
def Ff:List KV->KR KV:=bR PG 22 (b8 (kI .i64) fun vs=>rA (eR (v9 vs 0)))
theorem EG:bQ PG 22 Ff:=dU (ak.cons uf (ak.cons uo (ak.cons xI (ak.cons yw (ak.cons vg (ak.cons vW ak.nil)))))) (r7 Tk (r7 jd (r7 oa bm.nil))) fun w=>YF (eR (g0 34 (w 0)))
def I9:List (Nat×(List KV->KR KV)):=[]
def Ja:List Lp:=[]
theorem PL:ak Try.prog I9:=ak.nil
theorem PM:bm Try.prog Ja:=bm.nil
def DC (s:(Sl kz)):Option ((Sl kz)):=(cond (Nat.blt 0 s.n) (cond ((Nat.blt 0 s.n)&&(dT 16 0 s.n)) (some (((Sl.lit []).join s))) none) none)
theorem Rc (s:(Sl kz)):CV Try.prog (pw Try.prog I9 Ja (fun _=>false)) 9 9 36 [(dL 125 jo) s] = (DC s).map (dL 125 jo):=by
 unfold DC
 try simp only [b6,j2,lL,lM]
 kernel_rfl
def Vc:List KV->KR KV:=bR Try.prog 36 (b8 (dL 125 jo) fun vs=>DC ((eX fB) (vs.getD 0 .bf)))
theorem FF (w:Nat->KV):vJ Try.prog [67] w 0 = [(dL 125 jo) ((eX fB) (ij Try.prog (cg Try.prog dB) 67 (w 0)))]:=by kernel_rfl
theorem PN:bQ Try.prog 36 Vc:=X5 funcs mixed PL PM (L:=9) (n:=9) fun w=>by
 have e:bT Try.prog 36 = [67]:=by kernel_rfl
 rw [e,FF]
 exact (Rc ((eX fB) (ij Try.prog (cg Try.prog dB) 67 (w 0)))).trans (by kernel_rfl)
end
end Go.Proofs.Ytckbdndhmcoihaa.b
end
section
namespace Go.K
open Go Go.aG
variable {P:Program} {E:Env}
theorem akR {t e:TypeId} {i:TypeInfo} (h:P.underlying t=some (.slice e)) (hi:P.info? e=some i) (b:Addr) (a:Option Addr) (c:Nat) (w:World):(Builtin.append_ #[t,t] t #[.slice (some b) 0 0,.slice a 0 c]).run P w = .ok (.slice (some b) 0 0) w:=by
 cases a <;> simp [Builtin.append_,aG.bq h,sizeOf,typeInfo,hi,Builtin.lenOf,Builtin.firstCells,loadCells,loadCellsFrom,storeCells]
structure adt (P:Program) (g:FuncId) (e:TypeId):Prop where
 nil:∀ c w,Calls P g #[.slice none 0 c] w fun r w'=>r = .returned (.slice none 0 0)/\w' = w
 some:∀ a c w,Calls P g #[.slice (some a) 0 c] w fun r w'=>r = .returned (.slice (some ⟨w.heap.size,0,none⟩) 0 0)/\w' = w.alloc (.cells #[] e)
def FG {α:Type} (b:Nat) (s:Sl α):Option (Sl α):=cond (dT b 0 s.n) (some s) none
theorem Sl.akS {α:Type} [Inhabited α] (s:Sl α):(Sl.lit []).join s=s:=by
 cases s with
 | mk n f=>
  unfold Sl.join Sl.lit;simp only [List.length_nil,ba];congr 1
theorem VK.amN {T:TypeId} {a:Option Addr} {acc:Nat->KV} (h:TY E (aU P T) a 0 []):VK P E (.ts T .any 0 [] acc) (.slice a 0 0):=by
 simp only [VK];exact ⟨⟨rfl,fun i hi=>absurd hi (oD _),rfl⟩,[],.nil,a,0,rfl,aB _,h,trivial⟩
theorem agJ {g:FuncId} {T t:TypeId} {b:Nat} {α:Type} {k:α->KV} {p:KV->α} {f1:Sl α->Option (Sl α)} [Inhabited α] (hn:adt P g T) (ht:bT P g = [t]) (hf:∀ s,f1 s=cond (Nat.blt 0 s.n) (cond (Nat.blt 0 s.n&&dT b 0 s.n) (some ((Sl.lit []).join s)) none) none)
  (ao8:∀ w,vJ P [t] w 0 = [dL T k (eX p (ij P (cg P dB) t (w 0)))]) (h1:bQ P g (bR P g (b8 (dL T k) fun vs=>f1 (eX p (vs.getD 0 .bf))))) (hc:xM P g) :
  bQ P g (bR P g (b8 (dL T k) fun vs=>FG b (eX p (vs.getD 0 .bf)))):=by
 intro args v hF hlen;refine ⟨hc,?_⟩;have hF0:=hF;unfold bR at hF;obtain ⟨hb,hF⟩:=aH.cond hF;obtain ⟨ww,hw⟩:=IJ 0 hb;rw [ht] at hw;rw [ao8] at hw;rw [ht,hw] at hF;unfold b8 at hF;obtain ⟨h2,h3⟩:=aH.jJ hF;have es:(([dL T k (eX p (ij P (cg P dB) t (ww 0)))] : List KV).getD 0 .bf)=dL T k (eX p (ij P (cg P dB) t (ww 0))):=rfl;have h2:(FG b (eX p (([dL T k (eX p (ij P (cg P dB) t (ww 0)))] : List KV).getD 0 .bf))).isSome=true:=h2;have h3:dL T k ((FG b (eX p (([dL T k (eX p (ij P (cg P dB) t (ww 0)))] : List KV).getD 0 .bf))).getD default)=v:=h3;rw [es] at h2 h3;generalize hs:eX p (dL T k (eX p (ij P (cg P dB) t (ww 0))))=s at h2 h3;cases hq:Nat.blt 0 s.n with
 | true=>
  have:aH (bR P g (b8 (dL T k) fun vs=>f1 (eX p (vs.getD 0 .bf))) (normArgs P (bT P g) args)) v:=by
   unfold bR;rw [hb,aj,ht,hw];show aH (KR.jJ (f1 (eX p (([dL T k (eX p (ij P (cg P dB) t (ww 0)))] : List KV).getD 0 .bf))).isSome (dL T k ((f1 (eX p (([dL T k (eX p (ij P (cg P dB) t (ww 0)))] : List KV).getD 0 .bf))).getD default))) v;rw [es,hs,hf,hq];unfold FG at h2 h3;cases ha:dT b 0 s.n with
   | false=>rw [ha] at h2; simp at h2
   | true=>
    rw [ha] at h3;simp only [cK,aj,Sl.akS];exact ⟨rfl,h3⟩
  exact (h1 args v this hlen).2
 | false=>
  have hz:s.n=0:=by
   apply Classical.byContradiction;intro hk;have:Nat.blt 0 s.n=true:=by rw [bF]; omega
   rw [hq] at this;simp at this
  have hv0:v = .ts T .any 0 [] fun i=>k (s.get i):=by
   have ha:dT b 0 s.n=true:=by
    unfold FG at h2;cases ha:dT b 0 s.n with
    | true=>rfl
    | false=>rw [ha] at h2; simp at h2
   rw [<- h3];unfold FG;rw [ha];show dL T k s=_;unfold dL;rw [hz];rfl
  intro E A B ρ base w dZ hv hj;have CO:rK P E ρ (normArgs P (bT P g) args) dZ:=by
   obtain ⟨m,h1,h2⟩:=hv;exact ⟨m,aV.Nf (.of rfl) h1 hlen,h2⟩
  rw [ht,hw] at CO;obtain ⟨u,us,rfl,hu,Ly⟩:=CO.xH;obtain rfl:=Ly.U1;have hn0:(eX p (ij P (cg P dB) t (ww 0))).n=0:=(congrArg Sl.n hs).trans hz;unfold dL at hu;rw [hn0] at hu;obtain ⟨u',hk,hr⟩:=hu;obtain ⟨_,bh,_,a,cap,rfl,_,_,_⟩:=hk.kW;subst hv0;cases a with
  | none=>
   rw [hr.fV];refine (hn.nil cap w).mono ?_;rintro r w' ⟨rfl,rfl⟩;exact ⟨_,E,B,ρ,rfl,⟨.slice none 0 0,VK.amN (.inl ⟨rfl,rfl⟩),by simp [VR]⟩,.refl hj.k hj.s⟩
  | some a=>
   obtain ⟨_,_,_,a',c',_,_,_,_,rfl⟩:=hr.lC;refine (hn.some a' c' w).mono ?_;rintro r w' ⟨rfl,rfl⟩;have g:=Rj (cs:=[]) (c:=#[]) (bp:=aU P T) T hj.s (by unfold dA; rfl) (fun v hv=>by simp at hv);refine ⟨_,E.eL B.next ⟨[],aU P T,true,none⟩,B.new (.row [] (aU P T) true none),ρ.set B.next ⟨w.heap.size,0,0,aU P T⟩,rfl,⟨.slice (some ⟨B.next,0,none⟩) 0 0,VK.amN (.inr ⟨B.next,0,⟨[],aU P T,true,none⟩,rfl,by simp [Env.eL],rfl,fun i x hi=>by simp at hi⟩),?_⟩,(cO.aaj hj.k).ev g⟩;simp only [VR];exact ⟨trivial,aB _,⟨w.heap.size,0,0,aU P T⟩,⟨w.heap.size,0,none⟩,0,by simp [Ren.set],aB _,fun h=>absurd rfl h,by simp,rfl⟩
end Go.K
end
section
set_option maxRecDepth 20000
namespace Go.Proofs.Ytckbdndhmcoihaa.b
open Go Go.RowKit Go.Lib Go.Shelf Go.K
noncomputable section
set_option maxHeartbeats 4000000 in
theorem abt:adt Try.prog 36 125:=by
 have mixed:=nodes.Bn;have t85:=Try.underlying67; have a85:=Try.isAgg67; have z85:=Try.sizeOf67; have v85:=Try.zeroValue67; have u85:=run_underlying Try.underlying67;have t185:=Try.underlying125; have a185:=Try.isAgg125; have z185:=Try.sizeOf125; have v185:=Try.zeroValue125; have u185:=run_underlying Try.underlying125;have h1:=fun (a:Option Addr) (n c:Nat) (w:World)=>Lib.run_eql_slice_nil (P:=Try.prog) w 67 125 a n c 0 0 Try.underlying67;have h2:=fun b=>akR Try.underlying67 (show Try.prog.info? 125=some _ from rfl) b;refine ⟨fun c w=>?_,fun a c w=>?_⟩
 ·go_enter Try.func36,Try.ntmps36
  go_wp2
  go_ret
  exact ⟨rfl,rfl⟩
 ·go_enter Try.func36,Try.ntmps36
  go_wp2
  go_ret
  exact ⟨rfl,rfl⟩
def wZ (s:(Sl kz)):Option (Sl kz):=FG 16 s
def w4:List KV->KR KV:=bR Try.prog 36 (b8 (dL 125 jo) fun vs=>wZ ((eX fB) (vs.getD 0 .bf)))
theorem yj:bQ Try.prog 36 w4:=agJ (b:=16) abt (by kernel_rfl) (fun _=>rfl) FF PN ⟨by kernel_rfl,_,Try.func36,rfl,by kernel_rfl⟩
end
end Go.Proofs.Ytckbdndhmcoihaa.b
end
section
namespace Go.Proofs.Ytckbdndhmcoihaa.b
open Go.K
noncomputable section
structure Path where
 nodes:(Sl Handle)
 kids:(Sl Int)
instance:Inhabited Path:=⟨⟨default,default⟩⟩
def WR (x:Path):List KV:=[dL 32 gM x.nodes,dL 3 (kI .i64) x.kids]
def Gt (x:Path):KV:=.agg (WR x)
def WS (c:Nat->KV):Path:=⟨eX fK (c 0),eX av (c 1)⟩
def EH (v:KV):Path:=WS fun k=>v.cells.getD k .bf
def Ke  : Option (iu):=(some ((⟨(⟨(⟨(256:Int),(0:Int),(0:Int)⟩:dm),(⟨(0:Int),(256:Int),(0:Int)⟩:dm),(⟨(0:Int),(0:Int),(256:Int)⟩:dm)⟩:eY),(⟨(0:Int),(0:Int),(0:Int)⟩:dI)⟩:iu)))
theorem acv  : rE [] [] 26 [] = (Ke ).map yv:=by
 unfold Ke
 kernel_rfl
def Kf:List KV->KR KV:=bR PG 26 (b8 yv fun vs=>Ke )
theorem Jb:bQ PG 26 Kf:=dU ak.nil bm.nil fun w=>acv
def FH (v:dI):Option (dm):=(some (⟨v.x,v.y,v.z⟩))
theorem acw (v:dI):rE [] [] 56 [np v] = (FH v).map eP:=by
 unfold FH
 kernel_rfl
def Yg:List KV->KR KV:=bR PG 56 (b8 eP fun vs=>FH (jV (v9 vs 0)))
theorem abu:bQ PG 56 Yg:=dU ak.nil bm.nil fun w=>acw (jV (g0 36 (w 0)))
def mw (a:Int) (b:Int):Option (Int×Int):=(cond (decide (b < 1)) (some (0,2)) (cond (!(decide (b=0))) (cond (!(decide (b=0))) (cond (decide ((Int.tmod a b) < 0)) (some ((aO ((aO (Int.tdiv a b)) - 1)),0)) (some ((aO (Int.tdiv a b)),0))) none) none))
theorem WT (a:Int) (b:Int):rE [] [] 82 [(kI .i64) a,(kI .i64) b] = (mw a b).map (fun (r:Int×Int)=>KV.ma [(kI .i64) r.1,(kI .i64) r.2]):=by
 unfold mw
 try simp only [b6]
 kernel_rfl
def PO:List KV->KR KV:=bR PG 82 (b8 (fun (r:Int×Int)=>KV.ma [(kI .i64) r.1,(kI .i64) r.2]) fun vs=>mw (av (v9 vs 0)) (av (v9 vs 1)))
theorem Vd:bQ PG 82 PO:=dU ak.nil bm.nil fun w=>WT (av (g0 3 (w 0))) (av (g0 3 (w 1)))
def K8 (m:eY) (v:dm):=mw (aO ((aO ((aO (0+(aO (m.e0.e0 * v.e0))))+(aO (m.e0.e1 * v.e1))))+(aO (m.e0.e2 * v.e2)))) 256
def K9 (m:eY) (v:dm):=mw (aO ((aO ((aO (0+(aO (m.e1.e0 * v.e0))))+(aO (m.e1.e1 * v.e1))))+(aO (m.e1.e2 * v.e2)))) 256
def Lb (m:eY) (v:dm):=mw (aO ((aO ((aO (0+(aO (m.e2.e0 * v.e0))))+(aO (m.e2.e1 * v.e1))))+(aO (m.e2.e2 * v.e2)))) 256
def uq (m:eY) (v:dm):Option (dm):=(cond (K8 m v).isSome (cond (K9 m v).isSome (cond (Lb m v).isSome (some (⟨((K8 m v).getD default).fst,((K9 m v).getD default).fst,((Lb m v).getD default).fst⟩)) none) none) none)
theorem acx (m:eY) (v:dm):rE [(82,PO)] [] 55 [hJ m,eP v] = (uq m v).map eP:=by
 unfold uq
 try simp only [b6]
 kernel_rfl
def PQ:List KV->KR KV:=bR PG 55 (b8 eP fun vs=>uq (dF (v9 vs 0)) (fc (v9 vs 1)))
theorem PR:bQ PG 55 PQ:=dU (ak.cons Vd ak.nil) bm.nil fun w=>acx (dF (g0 52 (w 0))) (fc (g0 51 (w 1)))
def DD (l:dm):Option (dI):=(some (⟨l.e0,l.e1,l.e2⟩))
theorem abv (l:dm):rE [] [] 54 [eP l] = (DD l).map np:=by
 unfold DD
 kernel_rfl
def Ve:List KV->KR KV:=bR PG 54 (b8 np fun vs=>DD (fc (v9 vs 0)))
theorem YG:bQ PG 54 Ve:=dU ak.nil bm.nil fun w=>abv (fc (g0 51 (w 0)))
def Jc (m:iu) (v:dI):=FH v
def Jd (m:iu) (v:dI):=uq m.m ((Jc m v).getD default)
def yV (m:iu) (v:dI):=DD ((Jd m v).getD default)
def w5 (m:iu) (v:dI):Option (dI):=(cond (Jc m v).isSome (cond (Jd m v).isSome (cond (yV m v).isSome (some (⟨(aO (((yV m v).getD default).x+m.t.x)),(aO (((yV m v).getD default).y+m.t.y)),(aO (((yV m v).getD default).z+m.t.z))⟩)) none) none) none)
theorem abw (m:iu) (v:dI):rE [(54,Ve),(55,PQ),(56,Yg)] [] 29 [yv m,np v] = (w5 m v).map np:=by
 unfold w5
 try simp only [b6]
 kernel_rfl
def Nv:List KV->KR KV:=bR PG 29 (b8 np fun vs=>w5 (rq (v9 vs 0)) (jV (v9 vs 1)))
theorem N9:bQ PG 29 Nv:=dU (ak.cons YG (ak.cons PR (ak.cons abu ak.nil))) bm.nil fun w=>abw (rq (g0 54 (w 0))) (jV (g0 36 (w 1)))
def Nw (a:iu) (b:iu):=jT a
def Nx (a:iu) (b:iu):=jT b
def DE (a:iu) (b:iu):=w5 a b.t
def ra (a:iu) (b:iu):=uq a.m ⟨b.m.e0.e0,b.m.e1.e0,b.m.e2.e0⟩
def rb (a:iu) (b:iu):=uq a.m ⟨b.m.e0.e1,b.m.e1.e1,b.m.e2.e1⟩
def rf (a:iu) (b:iu):=uq a.m ⟨b.m.e0.e2,b.m.e1.e2,b.m.e2.e2⟩
def Ht (a:iu) (b:iu):=jT ⟨⟨⟨((ra a b).getD default).e0,((rb a b).getD default).e0,((rf a b).getD default).e0⟩,⟨((ra a b).getD default).e1,((rb a b).getD default).e1,((rf a b).getD default).e1⟩,⟨((ra a b).getD default).e2,((rb a b).getD default).e2,((rf a b).getD default).e2⟩⟩,((DE a b).getD default)⟩
def Fg (a:iu) (b:iu):Option (iu×Int):=(some (⟨⟨⟨0,0,0⟩,⟨0,0,0⟩,⟨0,0,0⟩⟩,⟨0,0,0⟩⟩,20))
def EI (a:iu) (b:iu):Option (iu×Int):=(cond (Nw a b).isSome (cond (((Nw a b).getD default) != 0)
  (Fg a b) (cond (Nx a b).isSome (cond (((Nx a b).getD default) != 0)
   (Fg a b) (cond (DE a b).isSome (cond (ra a b).isSome (cond (rb a b).isSome (cond (rf a b).isSome (cond (Ht a b).isSome (cond (((Ht a b).getD default) != 0) (some (⟨⟨⟨0,0,0⟩,⟨0,0,0⟩,⟨0,0,0⟩⟩,⟨0,0,0⟩⟩,((Ht a b).getD default))) (some (⟨⟨⟨((ra a b).getD default).e0,((rb a b).getD default).e0,((rf a b).getD default).e0⟩,⟨((ra a b).getD default).e1,((rb a b).getD default).e1,((rf a b).getD default).e1⟩,⟨((ra a b).getD default).e2,((rb a b).getD default).e2,((rf a b).getD default).e2⟩⟩,((DE a b).getD default)⟩,0))) none) none) none) none) none)) none)) none)
theorem aeJ (a:iu) (b:iu):rE [(55,PQ),(29,Nv),(28,Bw)] [] 52 [yv a,yv b] = (EI a b).map (fun (r:iu×Int)=>KV.ma [yv r.1,(kI .i64) r.2]):=by
 unfold EI Fg
 try simp only [b6]
 kernel_rfl
def Ny:List KV->KR KV:=bR PG 52 (b8 (fun (r:iu×Int)=>KV.ma [yv r.1,(kI .i64) r.2]) fun vs=>EI (rq (v9 vs 0)) (rq (v9 vs 1)))
theorem Lc:bQ PG 52 Ny:=dU (ak.cons PR (ak.cons N9 (ak.cons B7 ak.nil))) bm.nil fun w=>aeJ (rq (g0 54 (w 0))) (rq (g0 54 (w 1)))
structure A9 where
 m:iu
 e:Int
instance:Inhabited A9:=⟨⟨default,default⟩⟩
def PS (x:A9):List KV:=[.int .i64 x.m.m.e0.e0,.int .i64 x.m.m.e0.e1,.int .i64 x.m.m.e0.e2,.int .i64 x.m.m.e1.e0,.int .i64 x.m.m.e1.e1,.int .i64 x.m.m.e1.e2,.int .i64 x.m.m.e2.e0,.int .i64 x.m.m.e2.e1,.int .i64 x.m.m.e2.e2,.int .i64 x.m.t.x,.int .i64 x.m.t.y,.int .i64 x.m.t.z,.int .i64 x.e]
def PT (c:Nat->KV):A9:=⟨⟨⟨⟨av (c 0),av (c 1),av (c 2)⟩,⟨av (c 3),av (c 4),av (c 5)⟩,⟨av (c 6),av (c 7),av (c 8)⟩⟩,⟨av (c 9),av (c 10),av (c 11)⟩⟩,av (c 12)⟩
end
end Go.Proofs.Ytckbdndhmcoihaa.b
end
section
namespace Go.K
open Go Go.aG
theorem aX.go_rule {X:Type} {step:X->aX X} {I:Nat->X->Prop} {Q:ah->X->Prop} {n:Nat}
  (h:∀ j x,j<=n->I j x->(∃ x',step x = .next x'/\j < n/\I (j+1) x')\/∃ e x',step x = .out e x'/\mB e=false/\Q e x') :
  ∀ (r j:Nat) (x:X),j+r=n->I j x->∀ N,r < N->∃ e x',aX.go step N x = .out e x'/\Q e x'
 | r,j,x,hj,hI,0,hN=>by omega
 | r,j,x,hj,hI,N+1,hN=>by
  rcases h j x (by omega) hI with ⟨x',h1,h2,h3⟩ | ⟨e,x',h1,h2,h3⟩
  ·obtain ⟨r',rfl⟩:∃ r',r=r' + 1:=⟨r - 1,by omega⟩
   obtain ⟨e,y,h4,h5⟩:=aX.go_rule h r' (j+1) x' (by omega) h3 N (by omega);exact ⟨e,y,by simp only [aX.go,h1,h4],h5⟩
  ·exact ⟨e,x',by simp only [aX.go,h1,h2,aI],h3⟩
theorem jD {X:Type} {step:X->aX X} (I:Nat->X->Prop) (Q:ah->X->Prop) (n:Nat) (hn:n < gK)
  (h:∀ j x,j<=n->I j x->(∃ x',step x = .next x'/\j < n/\I (j+1) x')\/∃ e x',step x = .out e x'/\mB e=false/\Q e x') {x:X} (h0:I 0 x) :
  ∃ e x',goN step x = .out e x'/\Q e x':=aX.go_rule h n 0 x (by omega) h0 gK hn
theorem ou {X:Type} {step:X->aX X} (n:Nat) (hn:n < gK) (st:Nat->X) (C:Nat->Prop) {e0 er:ah} (h0:mB e0=false) (hr:mB er=false) (R:X->Prop) {xe:X}
  (aik:∀ j,j < n->(C j->step (st j) = .next (st (j+1)))/\(¬ C j->∃ x',step (st j) = .out er x'/\R x')) (ajk:step (st n) = .out e0 xe) :
  (goN step (st 0) = .out e0 xe/\∀ j,j < n->C j)\/∃ x',goN step (st 0) = .out er x'/\R x'/\∃ j,j < n/\¬ C j:=by
 obtain ⟨e,x',h1,h2⟩:=jD (step:=step) (fun j x=>x=st j/\∀ i,i < j->C i) (fun e x'=>(e=e0/\x' = xe/\∀ j,j < n->C j)\/(e=er/\R x'/\∃ j,j < n/\¬ C j)) n hn (fun j x hj ⟨hx,cL⟩=>by
  subst hx;by_cases bj:j < n
  ·obtain ⟨q1,q2⟩:=aik j bj
   by_cases hc:C j
   ·exact .inl ⟨_,q1 hc,bj,rfl,fun i hi=>by
     by_cases e:i=j
     ·subst e; exact hc
     ·exact cL i (by omega)⟩
   ·obtain ⟨x',h3,h4⟩:=q2 hc
    exact .inr ⟨_,_,h3,hr,.inr ⟨rfl,h4,j,bj,hc⟩⟩
  ·have:j=n:=by omega
   subst this;exact .inr ⟨_,_,ajk,h0,.inl ⟨rfl,rfl,cL⟩⟩) (x:=st 0) ⟨rfl,fun i hi=>absurd hi (oD _)⟩
 rcases h2 with ⟨rfl,rfl,h2⟩ | ⟨rfl,h2,h3⟩
 ·exact .inl ⟨h1,h2⟩
 ·exact .inr ⟨x',h1,h2,h3⟩
theorem aX.ur {X:Type} (e:ah) (x:X) (e' : ah):(aX.out e x).by e' = zq e e':=rfl
theorem aX.lW {X:Type} [Inhabited X] (e:ah) (x:X):(aX.out e x).st=x:=rfl
theorem df {n:Int} (h : -9223372036854775808<=n) (h' : n < 9223372036854775808):aO n=n:=by
 show IntKind.wrap .i64 n=n;unfold IntKind.wrap;by_cases hn:0<=n
 ·have h1:n % (2 ^ IntKind.i64.bits:Int)=n:=Int.emod_eq_of_lt hn (by show n < 18446744073709551616; omega)
  simp only [h1];rw [aa];intro hc;simp only [aq,lT] at hc;have:n >= 9223372036854775808:=hc.2;omega
 ·have h1:n % (2 ^ IntKind.i64.bits:Int)=n+18446744073709551616:=by
   show n % 18446744073709551616=n+18446744073709551616;omega
  simp only [h1];rw [aE]
  ·show n+18446744073709551616 - 18446744073709551616=n
   omega
  ·simp only [aq,lT]
   refine ⟨rfl,?_⟩;show n+18446744073709551616 >= 9223372036854775808;omega
theorem akT {b n m:Nat} (h:(n+m) * b<=140737488355328) (h2:n+m<=17592186044416):dT b n m=true:=by
 unfold dT;rw [aq];exact ⟨Nat.ble_eq_true_of_le h,Nat.ble_eq_true_of_le h2⟩
theorem uJ {b n m:Nat} (hb:b<=1000000:=by omega) (hn:n<=1000000:=by omega) (hm:m<=1000000:=by omega):dT b n m=true:=
 akT (gR (Nat.mul_le_mul (by omega:n+m<=2000000) hb) (by decide)) (by omega)
@[simp] theorem cv (n:Nat):ai n n=true:=tM n
theorem Sl.Zg {α:Type} [Inhabited α] (s:Sl α) (v:α):(s.push v).n=s.n+1:=rfl
theorem Sl.HM {α:Type} [Inhabited α] {s:Sl α} {v:α} {i:Nat} (h:i < s.n):(s.push v).get i=s.get i:=by
 have:Nat.blt i s.n=true:=by rw [bF]; exact h
 simp only [Sl.push,this,aj]
theorem Sl.EJ {α:Type} [Inhabited α] {s:Sl α} {v:α} : (s.push v).get s.n=v:=by
 have:Nat.blt s.n s.n=false:=by
  cases h:Nat.blt s.n s.n with
  | false=>rfl
  | true=>rw [bF] at h; omega
 simp only [Sl.push,this,aI,tM,aj]
theorem Sl.abx {α:Type} {s t:Sl α} {i:Nat} (h:i < s.n):(s.join t).get i=s.get i:=by
 have:Nat.blt i s.n=true:=by rw [bF]; exact h
 simp only [Sl.join,this,aj]
theorem Sl.agK {α:Type} {s t:Sl α} {i:Nat} (h:s.n<=i):(s.join t).get i=t.get (i - s.n):=by
 have:Nat.blt i s.n=false:=by
  cases h' : Nat.blt i s.n with
  | false=>rfl
  | true=>rw [bF] at h'; omega
 simp only [Sl.join,this,aI]
end Go.K
end
section
namespace Go.Proofs.Ytckbdndhmcoihaa.sc
open Go Go.K
def rh (n lO:Int):Prop:=-lO<=n/\n<=lO
instance (n lO:Int):Decidable (rh n lO):=by unfold rh; exact inferInstance
def w6 (v:b.dI) (k:Int):Prop:=rh v.x k/\rh v.y k/\rh v.z k
instance (v:b.dI) (k:Int):Decidable (w6 v k):=by unfold w6; exact inferInstance
def PU (r:b.dm):Prop:=rh r.e0 1024/\rh r.e1 1024/\rh r.e2 1024
def RowsIn (m:b.eY):Prop:=PU m.e0/\PU m.e1/\PU m.e2
def Je (m:b.iu):Prop:=RowsIn m.m/\w6 m.t 4096
theorem chain {p:Prop} [Decidable p] {x:Option Bool} {Q:Prop} (h1:p->¬ Q) (h2 : ¬ p->∃ r,x=some r/\(r=true↔Q)):∃ r,cond (decide p) (some false) x=some r/\(r=true↔Q):=by
 by_cases h:p
 ·rw [ay h]
  exact ⟨false,rfl,⟨fun k=>by simp at k,fun k=>absurd k (h1 h)⟩⟩
 ·rw [bo h]
  exact h2 h
theorem akU (lO:Int) (l:Sl Int) (h:0<=lO) (h' : lO<=1000000) (hn:l.n < 1000000):∃ r,b.HL lO l=some r/\(r=true↔∀ i,i < l.n->rh (l.get i) lO):=by
 unfold b.HL b.Kb;obtain ⟨e,x',h1,h2⟩:∃ e x',goN b.tI (⟨lO,false,l,((l.n:Nat):Int),(0:Int)⟩:b.qX) = .out e x'/\((e = .exit 0/\∀ i,i < l.n->rh (l.get i) lO)\/(e = .ret/\x'.t4=false/\∃ i,i < l.n/\¬ rh (l.get i) lO)):=by
  refine jD (X:=b.qX) (fun j x=>x=⟨lO,false,l,((l.n:Nat):Int),(j:Int)⟩/\∀ i,i < j->rh (l.get i) lO) (fun e x'=>(e = .exit 0/\∀ i,i < l.n->rh (l.get i) lO)\/(e = .ret/\x'.t4=false/\∃ i,i < l.n/\¬ rh (l.get i) lO)) l.n (by unfold gK; omega) ?_ ⟨rfl,fun i hi=>absurd hi (oD _)⟩;rintro j _ hj ⟨rfl,cL⟩;unfold b.tI
  dsimp only
  by_cases bj:(j:Int) < (l.n:Int)
  ·have h0:(0:Int)<=(j:Int):=by omega
   rw [ay bj,ay h0,df (n:=0 - lO) (by omega) (by omega)];simp only [EP,aj];have ej:Int.toNat (j:Int)=j:=rfl;rw [ej];by_cases q1:l.get j < 0 - lO
   ·rw [ay q1]
    exact .inr ⟨_,_,rfl,rfl,.inr ⟨rfl,rfl,j,by omega,fun k=>by have:=k.1; omega⟩⟩
   ·rw [bo q1,aI]
    by_cases q2:l.get j > lO
    ·rw [ay q2]
     exact .inr ⟨_,_,rfl,rfl,.inr ⟨rfl,rfl,j,by omega,fun k=>by have:=k.2; omega⟩⟩
    ·rw [bo q2,aI,df (by omega) (by omega)]
     refine .inl ⟨_,rfl,by omega,by congr 1,fun i hi=>?_⟩;by_cases e:i=j
     ·subst e; exact ⟨by omega,by omega⟩
     ·exact cL i (by omega)
  ·rw [bo bj,aI]
   exact .inr ⟨_,_,rfl,rfl,.inl ⟨rfl,fun i hi=>cL i (by omega)⟩⟩
 rw [h1];rcases h2 with ⟨rfl,h2⟩ | ⟨rfl,h2,i,h3,h4⟩
 ·exact ⟨true,rfl,⟨fun _=>h2,fun _=>rfl⟩⟩
 ·exact ⟨x'.t4,rfl,⟨fun k=>by rw [h2] at k; simp at k,fun k=>absurd (k i h3) h4⟩⟩
theorem aqa {P:Int->Prop} {x y z:Int} : (∀ i,i < (Sl.lit [x,y,z]).n->P ((Sl.lit [x,y,z]).get i))↔P x/\P y/\P z:=by
 constructor
 ·exact fun h=>⟨h 0 (show 0 < 3 by omega),h 1 (show 1 < 3 by omega),h 2 (show 2 < 3 by omega)⟩
 ·rintro ⟨h1,h2,h3⟩ i hi
  have hi:i < 3:=hi;rcases (by omega:i=0\/i=1\/i=2) with rfl | rfl | rfl
  ·exact h1
  ·exact h2
  ·exact h3
theorem Kg (v:b.dI):b.qZ v=some (if w6 v 4096 then 0 else 20):=by
 unfold b.qZ b.Dy;obtain ⟨r,h1,h2⟩:=akU 4096 (Sl.lit [v.x,v.y,v.z]) (by omega) (by omega) (by show 3 < 1000000; omega);have h2:r=true↔w6 v 4096:=h2.trans (aqa (P:=fun n=>rh n 4096));rw [h1];cases r with
 | true=>rw [aE (h2.1 rfl)]; rfl
 | false=>rw [aa fun k=>by have:=h2.2 k; simp at this]; rfl
theorem ail (m:b.eY):∃ r,b.Cr m=some r/\(r=true↔RowsIn m):=by
 unfold b.Cr RowsIn PU rh
 iterate 18 refine chain (fun h k=>by omega) fun _=>?_
 exact ⟨true,rfl,⟨fun _=>by omega,fun _=>rfl⟩⟩
theorem yW (m:b.iu):(∃ e,b.jT m=some e/\(e=0/\Je m\/e=20/\¬ Je m)):=by
 unfold b.jT b.Dz b.DA Je;obtain ⟨r,h1,h2⟩:=ail m.m;rw [h1,Kg];cases r with
 | false=>exact ⟨20,rfl,.inr ⟨rfl,fun k=>by have:=h2.2 k.1; simp at this⟩⟩
 | true=>
  by_cases h3:w6 m.t 4096
  ·rw [aE h3]; exact ⟨0,rfl,.inl ⟨rfl,h2.1 rfl,h3⟩⟩
  ·rw [aa h3]; exact ⟨20,rfl,.inr ⟨rfl,fun k=>h3 k.2⟩⟩
theorem agL (a:Int) (ha : -4611686018427387904<=a/\a<=4611686018427387904):b.mw a 256=some (a / 256,0):=by
 have h1:decide ((256:Int) < 1)=false:=rfl;have h2:decide ((256:Int)=0)=false:=rfl;have h3:=Int.mul_tdiv_add_tmod a 256;have h4:=Int.natAbs_tdiv_le_natAbs a 256;have h5:(Int.tmod a 256).natAbs < (256:Int).natAbs:=by rw [Int.natAbs_tmod]; exact Nat.mod_lt _ (by omega)
 unfold b.mw;simp only [h1,h2,aI,JF,aj];by_cases hr:Int.tmod a 256 < 0
 ·have e:a / 256=Int.tdiv a 256 - 1:=((Int.ediv_emod_unique (by omega:(0:Int) < 256)).2 ⟨(show (Int.tmod a 256+256)+256 * (Int.tdiv a 256 - 1)=a by omega),by omega,by omega⟩).1
  rw [ay hr,aj,df (n:=Int.tdiv a 256) (by omega) (by omega),df (by omega) (by omega),e]
 ·have e:a / 256=Int.tdiv a 256:=((Int.ediv_emod_unique (by omega:(0:Int) < 256)).2 ⟨(show Int.tmod a 256+256 * Int.tdiv a 256=a by omega),by omega,by omega⟩).1
  rw [bo hr,aI,df (by omega) (by omega),e]
def dot (r:b.dm) (x y z:Int):Int:=r.e0 * x+r.e1 * y+r.e2 * z
theorem aeK {a b A B:Int} (h:rh a A) (k:rh b B) (hA:0<=A) (hB:0<=B):rh (a * b) (A * B):=by
 have h1:a.natAbs<=A.natAbs:=by have:=h.1; have:=h.2; omega
 have h2:b.natAbs<=B.natAbs:=by have:=k.1; have:=k.2; omega
 have h3:(a * b).natAbs<=A.natAbs * B.natAbs:=by rw [Int.natAbs_mul]; exact Nat.mul_le_mul h1 h2
 have h4:((A.natAbs * B.natAbs:Nat):Int)=A * B:=by rw [Int.natCast_mul,Int.natAbs_of_nonneg hA,Int.natAbs_of_nonneg hB]
 unfold rh;omega
theorem aby {r:b.dm} {x y z:Int} (h:PU r) (hx:rh x 4096) (hy:rh y 4096) (hz:rh z 4096):rh (r.e0 * x) 4194304/\rh (r.e1 * y) 4194304/\rh (r.e2 * z) 4194304:=
 ⟨aeK h.1 hx (by omega) (by omega),aeK h.2.1 hy (by omega) (by omega),aeK h.2.2 hz (by omega) (by omega)⟩
theorem Zh {r:b.dm} {x y z:Int} (h:PU r) (hx:rh x 4096) (hy:rh y 4096) (hz:rh z 4096):rh (dot r x y z) 12582912:=by
 obtain ⟨h1,h2,h3⟩:=aby h hx hy hz;unfold dot;unfold rh at *;omega
theorem Nz (m:b.eY) (v:b.dm) (h:RowsIn m) (hx:rh v.e0 4096) (hy:rh v.e1 4096) (hz:rh v.e2 4096) :
  b.uq m v=some ⟨dot m.e0 v.e0 v.e1 v.e2 / 256,dot m.e1 v.e0 v.e1 v.e2 / 256,dot m.e2 v.e0 v.e1 v.e2 / 256⟩:=by
 have one:∀ r,PU r->b.mw (aO ((aO ((aO ((0:Int)+(aO (r.e0 * v.e0))))+(aO (r.e1 * v.e1))))+(aO (r.e2 * v.e2)))) 256=some (dot r v.e0 v.e1 v.e2 / 256,0):=by
  intro r hr;obtain ⟨h1,h2,h3⟩:=aby hr hx hy hz;have h4:=Zh hr hx hy hz;unfold dot rh at *;rw [df (n:=r.e0 * v.e0) (by omega) (by omega),df (n:=r.e1 * v.e1) (by omega) (by omega),df (n:=r.e2 * v.e2) (by omega) (by omega),df (n:=0+r.e0 * v.e0) (by omega) (by omega),Int.zero_add,df (n:=r.e0 * v.e0+r.e1 * v.e1) (by omega) (by omega),df (by omega) (by omega)];exact agL _ (by omega)
 unfold b.uq b.K8 b.K9 b.Lb;rw [one _ h.1,one _ h.2.1,one _ h.2.2];rfl
def Tl (t:b.gN):Prop:=0 < t.w/\t.w<=16/\0 < t.h/\t.h<=16/\((t.UT.n:Nat):Int)=aO (t.w * t.h)
theorem abz (n:Int):∃ r,b.qB n=some r/\(r=true↔0 < n/\n<=16):=by
 unfold b.qB;by_cases h1:n > 0
 ·rw [ay h1]
  exact ⟨_,rfl,by rw [decide_eq_true_iff]; omega⟩
 ·rw [bo h1]
  exact ⟨false,rfl,⟨fun k=>by simp at k,fun k=>absurd k.1 h1⟩⟩
theorem akV (t:b.gN):∃ e,b.rG t=some e/\(e=0/\Tl t\/e=8/\¬ Tl t):=by
 unfold b.rG b.B5 b.B6 Tl;obtain ⟨r,h1,h2⟩:=abz t.w;obtain ⟨q,h3,h4⟩:=abz t.h;rw [h1,h3];simp only [gJ,eU,aj];cases r with
 | false=>exact ⟨8,rfl,.inr ⟨rfl,fun k=>by have:=h2.2 ⟨k.1,k.2.1⟩; simp at this⟩⟩
 | true=>
  have h2:=h2.1 rfl;cases q with
  | false=>exact ⟨8,rfl,.inr ⟨rfl,fun k=>by have:=h4.2 ⟨k.2.2.1,k.2.2.2.1⟩; simp at this⟩⟩
  | true=>
   have h4:=h4.1 rfl;by_cases h5:((t.UT.n:Nat):Int)=aO (t.w * t.h)
   ·rw [bne_eq_false_iff_eq.2 h5]
    exact ⟨0,rfl,.inl ⟨rfl,h2.1,h2.2,h4.1,h4.2,h5⟩⟩
   ·rw [bne_iff_ne.2 h5]
    exact ⟨8,rfl,.inr ⟨rfl,fun k=>h5 k.2.2.2.2⟩⟩
def aeL (p:b.Prim):Prop:=p.kind<=2/\p.index.n<=200/\(p.kind=0->p.index.n % 3=0)/\(p.kind > 0->p.index.n=0\/3<=p.index.n)
def NA (k:Int) (j:Nat):Nat:=if k=0 then (j+2) / 3 else j
def KL (p:b.Prim):Nat:=NA p.kind (p.index.n - 2)
theorem aim (p:b.Prim) (h0:0<=p.kind) (h2:p.kind<=2) (hn:p.index.n<=200) (z:Sl b.dm) (t:Int) :
  ∃ x',goN b.ku (⟨z,t,⟨0,fun _=>⟨0,0,0⟩⟩,p.index,(0:Int),p⟩:b.ee) = .out (.exit 1) x'/\x'.out.n=KL p:=by
 have HZ:=fun aik=>jD (X:=b.ee) (step:=b.ku) (fun j x=>∃ o:Sl b.dm,x=⟨z,t,o,p.index,(j:Int),p⟩/\o.n=NA p.kind j) (fun e x'=>e = .exit 1/\x'.out.n=KL p) (p.index.n - 2) (by unfold gK; omega) aik (x:=⟨z,t,⟨0,fun _=>⟨0,0,0⟩⟩,p.index,(0:Int),p⟩) ⟨_,rfl,by unfold NA; split <;> rfl⟩;refine Exists.elim (HZ ?_) fun e ⟨x,h1,he,h3⟩=>?_
 rotate_left
 ·subst he; exact ⟨x,h1,h3⟩
 rintro j _ hj ⟨o,rfl,ho⟩;have ho200:o.n<=200:=by rw [ho]; unfold NA; split <;> omega
 unfold b.ku b.qW b.qV b.qU
 dsimp only
 have e1:aO ((j:Int)+1)=((j+1:Nat):Int):=by rw [df (by omega) (by omega)]; omega
 have e2:aO ((j:Int)+2)=((j+2:Nat):Int):=by rw [df (by omega) (by omega)]; omega
 rw [e1,e2];by_cases bj:((j+2:Nat):Int) < (p.index.n:Int)
 ·have d1:decide ((0:Int)<=(j:Int))=true:=ay (by omega)
  have d2:decide ((j:Int) < (p.index.n:Int))=true:=ay (by omega);have d3:decide ((0:Int)<=((j+1:Nat):Int))=true:=ay (by omega);have d4:decide (((j+1:Nat):Int) < (p.index.n:Int))=true:=ay (by omega);have d5:decide ((0:Int)<=((j+2:Nat):Int))=true:=ay (by omega);have d6:decide (((j+2:Nat):Int) < (p.index.n:Int))=true:=ay bj;have d7:decide ((0:Int) < (p.index.n:Int))=true:=ay (by omega);have da:dT 24 o.n 1=true:=uJ;rw [d1,d2,d3,d4,d5,d6,d7,da];simp only [cv,EP,cK,aj];have hjn:j < p.index.n - 2:=by omega
  rcases (by omega:p.kind=0\/p.kind=1\/p.kind=2) with hk | hk | hk
  ·rw [hk]
   by_cases h3:Int.tmod (j:Int) 3=0
   ·rw [Bc.2 h3]
    refine .inl ⟨_,rfl,hjn,_,rfl,?_⟩;rw [Sl.Zg,ho,hk];have:Int.tmod (j:Int) 3=((j % 3:Nat):Int):=rfl;unfold NA;rw [aE rfl,aE rfl];omega
   ·rw [beq_eq_false_iff_ne.2 h3]
    refine .inl ⟨_,rfl,hjn,_,rfl,?_⟩;rw [ho,hk];have:Int.tmod (j:Int) 3=((j % 3:Nat):Int):=rfl;unfold NA;rw [aE rfl,aE rfl];omega
  ·rw [hk]
   have hc:∀ j,NA 1 j=j:=fun j=>rfl;by_cases h3:Int.tmod (j:Int) 2=0
   ·rw [Bc.2 h3]
    exact .inl ⟨_,rfl,hjn,_,rfl,by rw [Sl.Zg,ho,hk,hc,hc]⟩
   ·rw [beq_eq_false_iff_ne.2 h3]
    exact .inl ⟨_,rfl,hjn,_,rfl,by rw [Sl.Zg,ho,hk,hc,hc]⟩
  ·rw [hk]
   have hc:∀ j,NA 2 j=j:=fun j=>rfl;exact .inl ⟨_,rfl,hjn,_,rfl,by rw [Sl.Zg,ho,hk,hc,hc]⟩
 ·rw [bo bj,aI]
  simp only [cv,aj];refine .inr ⟨_,_,rfl,rfl,rfl,?_⟩;show o.n=_;rw [ho];have:j=p.index.n - 2:=by omega
  subst this;rfl
theorem ain (p:b.Prim) (h0:0<=p.kind) (h2:p.kind<=2):∃ r,b.zN p=some r/\(r=true↔(p.kind=0->p.index.n % 3=0)/\(p.kind > 0->p.index.n=0\/3<=p.index.n)):=by
 unfold b.zN b.Bs;have key:∀ {k:Int},(p.kind=k->k > 0)->∃ r,cond (((p.index.n:Nat):Int)==(0:Int)) (some true) (some (decide (((p.index.n:Nat):Int) >= (3:Int))))=some r/\(r=true↔(p.index.n=0\/3<=p.index.n)):=by
  intro k _;by_cases h:((p.index.n:Nat):Int)=0
  ·rw [Bc.2 h]
   exact ⟨true,rfl,⟨fun _=>.inl (by omega),fun _=>rfl⟩⟩
  ·rw [beq_eq_false_iff_ne.2 h]
   exact ⟨_,rfl,by rw [decide_eq_true_iff]; omega⟩
 rcases (by omega:p.kind=0\/p.kind=1\/p.kind=2) with hk | hk | hk
 ·rw [hk]
  refine ⟨_,rfl,?_⟩;rw [Bc];have:Int.tmod ((p.index.n:Nat):Int) 3=((p.index.n % 3:Nat):Int):=rfl;rw [this];exact ⟨fun h=>⟨fun _=>by omega,fun h=>absurd h (by omega)⟩,fun h=>by have:=h.1 rfl; omega⟩
 ·rw [hk]
  obtain ⟨r,h1,h3⟩:=key (k:=1) (fun _=>by omega);exact ⟨r,h1,h3.trans ⟨fun h=>⟨fun k=>absurd k (by omega),fun _=>h⟩,fun h=>h.2 (by omega)⟩⟩
 ·rw [hk]
  obtain ⟨r,h1,h3⟩:=key (k:=2) (fun _=>by omega);exact ⟨r,h1,h3.trans ⟨fun h=>⟨fun k=>absurd k (by omega),fun _=>h⟩,fun h=>h.2 (by omega)⟩⟩
theorem aio (p:b.Prim) (h0:0<=p.kind):∃ l e,b.zO p=some (l,e)/\(e=0/\aeL p/\l.n=KL p\/e≠0/\¬ aeL p/\l.n=0):=by
 unfold b.zO;by_cases h1:p.kind > 2
 ·rw [ay h1]
  exact ⟨_,_,rfl,.inr ⟨by decide,fun k=>by have:=k.1; omega,rfl⟩⟩
 ·rw [bo h1,aI]
  by_cases h2:((p.index.n:Nat):Int) > 200
  ·rw [ay h2]
   exact ⟨_,_,rfl,.inr ⟨by decide,fun k=>by have:=k.2.1; omega,rfl⟩⟩
  ·rw [bo h2,aI]
   unfold b.I4 b.I5;obtain ⟨r,h3,h4⟩:=ain p h0 (by omega);rw [h3];cases r with
   | false=>
    exact ⟨_,_,rfl,.inr ⟨by decide,fun k=>by have:=h4.2 k.2.2; simp at this,rfl⟩⟩
   | true=>
    obtain ⟨x',h5,h6⟩:=aim p h0 (by omega) (by omega) ⟨0,fun _=>⟨0,0,0⟩⟩ 0;rw [h5];exact ⟨_,_,rfl,.inl ⟨rfl,⟨by omega,by omega,h4.1 rfl⟩,h6⟩⟩
def tot (m:b.gW):Nat->Nat
 | 0=>0
 | k+1=>tot m k+KL (m.fY.get k)
theorem akW (m:b.gW) {i j:Nat} (h:i<=j):tot m i<=tot m j:=by
 induction j with
 | zero=>have:i=0:=by omega
         subst this; exact aB _
 | succ j ih=>
  by_cases e:i=j+1
  ·subst e; exact aB _
  ·have:=ih (by omega)
   show tot m i<=tot m j+_;omega
def ajX (m:b.gW) (k:Nat):Prop:=aeL (m.fY.get k)/\∀ i,i < (m.fY.get k).index.n->0<=(m.fY.get k).index.get i/\(m.fY.get k).index.get i < (m.aC.n:Int)
def QO (m:b.gW):Prop:=(∀ k,k < m.fY.n->ajX m k)/\tot m m.fY.n<=64
def Jf (m:b.gW):Prop:=∀ k,k < m.fY.n->0<=(m.fY.get k).kind
theorem agM (z o:Sl b.dm) (t:Bool) (q:Sl b.Prim) (a c:Int) (l:Sl Int) (hl:l.n<=1000) (m:b.gW) :
  (∃ k,goN b.fk (⟨z,t,o,q,a,c,l,((l.n:Nat):Int),(0:Int),m⟩:b.ff) = .out (.exit 2) ⟨z,t,o,q,a,c,l,((l.n:Nat):Int),k,m⟩/\∀ i,i < l.n->0<=l.get i/\l.get i < (m.aC.n:Int))\/
  ∃ x',goN b.fk (⟨z,t,o,q,a,c,l,((l.n:Nat):Int),(0:Int),m⟩:b.ff) = .out .ret x'/\x'.t3=false/\∃ i,i < l.n/\¬ (0<=l.get i/\l.get i < (m.aC.n:Int)):=by
 have key:=ou (step:=b.fk) l.n (by unfold gK; omega) (fun j=>⟨z,t,o,q,a,c,l,((l.n:Nat):Int),(j:Int),m⟩) (fun i=>0<=l.get i/\l.get i < (m.aC.n:Int)) (e0:=.exit 2) (er:=.ret) rfl rfl (fun x'=>x'.t3=false) (xe:=⟨z,t,o,q,a,c,l,((l.n:Nat):Int),((l.n:Nat):Int),m⟩) (fun j hj=>by
  have e1:aO ((j:Int)+1)=((j+1:Nat):Int):=by rw [df (by omega) (by omega)]; omega
  have d1:decide ((j:Int) < ((l.n:Nat):Int))=true:=ay (by omega);have d2:decide ((0:Int)<=(j:Int))=true:=ay (by omega);have ej:Int.toNat (j:Int)=j:=rfl;unfold b.fk b.ke
  dsimp only
  rw [d1,d2,ej,e1];simp only [cv,cK,aj];constructor
  ·rintro ⟨h1,h2⟩
   rw [bo (show ¬ l.get j < 0 by omega),bo (show ¬ l.get j >= (m.aC.n:Int) by omega)];rfl
  ·intro h
   by_cases h1:l.get j < 0
   ·rw [ay h1]
    exact ⟨_,rfl,rfl⟩
   ·rw [bo h1,ay (show l.get j >= (m.aC.n:Int) by omega)]
    exact ⟨_,rfl,rfl⟩) (by
  unfold b.fk b.ke
  dsimp only
  rw [bo (Int.lt_irrefl _)];simp only [cv,aj,aI])
 rcases key with ⟨h1,h2⟩ | ⟨x',h1,h2,h3⟩
 ·exact .inl ⟨_,h1,h2⟩
 ·exact .inr ⟨x',h1,h2,h3⟩
theorem abA (m:b.gW) (hk:Jf m) (hp:m.fY.n < 1000000):∃ l r,b.wR m=some (l,r)/\(r=true↔QO m):=by
 unfold b.wR b.vV;obtain ⟨e,x',h1,h2⟩:∃ e x',goN b.oq (⟨⟨0,fun _=>⟨0,0,0⟩⟩,false,⟨0,fun _=>⟨0,0,0⟩⟩,m.fY,((m.fY.n:Nat):Int),(0:Int),m⟩:b.fR) = .out e x'/\((e = .exit 0/\QO m)\/(e = .ret/\x'.t3=false/\¬ QO m)):=by
  refine jD (X:=b.fR) (fun j x=>∃ o:Sl b.dm,x=⟨⟨0,fun _=>⟨0,0,0⟩⟩,false,o,m.fY,((m.fY.n:Nat):Int),(j:Int),m⟩/\o.n=tot m j/\tot m j<=64/\∀ k,k < j->ajX m k) (fun e x'=>(e = .exit 0/\QO m)\/(e = .ret/\x'.t3=false/\¬ QO m)) m.fY.n (by unfold gK; omega) ?_ ⟨_,rfl,rfl,by show 0<=64; omega,fun k hk=>absurd hk (oD _)⟩;rintro j _ hj ⟨o,rfl,ho,ht,qF⟩;unfold b.oq b.rX b.cl b.fZ
  dsimp only
  by_cases bj:(j:Int) < ((m.fY.n:Nat):Int)
  ·have d1:decide ((j:Int) < ((m.fY.n:Nat):Int))=true:=ay bj
   have d2:decide ((0:Int)<=(j:Int))=true:=ay (by omega);have ej:Int.toNat (j:Int)=j:=rfl;obtain ⟨l,e,h1,h2⟩:=aio (m.fY.get j) (hk j (by omega));have hln:l.n<=200:=by
    rcases h2 with ⟨_,q,h⟩ | ⟨_,_,h⟩
    ·rw [h]; have:=q.2.1; unfold KL NA; split <;> omega
    ·omega
   have da:dT 24 o.n l.n=true:=uJ;rw [d1,d2,ej,h1];simp only [gJ,eU,aj,cK,cv,da];rcases h2 with ⟨rfl,hpo,hn⟩ | ⟨he,hpo,hn⟩
   ·have cH:((0:Int) != 0)=false:=rfl
    rw [cH,aI];have hs:tot m (j+1)=o.n+l.n:=by show tot m j+KL _=_; rw [ho,hn]
    by_cases h64:(((o.n+l.n:Nat)):Int) > 64
    ·rw [ay h64]
     exact .inr ⟨_,_,rfl,rfl,.inr ⟨rfl,rfl,fun k=>by have:=akW m (show j+1<=m.fY.n by omega); have:=k.2; omega⟩⟩
    ·rw [bo h64,aI]
     have e1:aO ((j:Int)+1)=((j+1:Nat):Int):=by rw [df (by omega) (by omega)]; omega
     rcases agM ⟨0,fun _=>⟨0,0,0⟩⟩ (o.join l) false m.fY ((m.fY.n:Nat):Int) (j:Int) (m.fY.get j).index (by have:=hpo.2.1; omega) m with ⟨k,q1,q2⟩ | ⟨x',q1,q2,i,q3,q4⟩
     ·rw [q1]
      simp only [aX.ur,aX.lW,cv,aj];rw [e1];refine .inl ⟨_,rfl,by omega,o.join l,rfl,by rw [hs]; rfl,by omega,fun k' mF=>?_⟩;by_cases e:k' = j
      ·subst e; exact ⟨hpo,q2⟩
      ·exact qF k' (by omega)
     ·rw [q1]
      simp only [aX.ur,aX.lW,cv,aj];exact .inr ⟨_,_,rfl,rfl,.inr ⟨rfl,q2,fun k=>q4 ((k.1 j (by omega)).2 i q3)⟩⟩
   ·have cH:(e != (0:Int))=true:=by rw [bne_iff_ne]; exact he
    rw [cH];exact .inr ⟨_,_,rfl,rfl,.inr ⟨rfl,rfl,fun k=>hpo (k.1 j (by omega)).1⟩⟩
  ·rw [bo bj,aI]
   simp only [cv,aj];have:j=m.fY.n:=by omega
   subst this;exact .inr ⟨_,_,rfl,rfl,.inl ⟨rfl,qF,ht⟩⟩
 rw [h1];rcases h2 with ⟨rfl,h2⟩ | ⟨rfl,h2,h3⟩
 ·exact ⟨_,true,rfl,⟨fun _=>h2,fun _=>rfl⟩⟩
 ·exact ⟨_,x'.t3,rfl,⟨fun k=>by rw [h2] at k; simp at k,fun k=>absurd k h3⟩⟩
def agN (q:b.kz):Prop:=0<=q.e0/\q.e0<=255/\0<=q.e1/\q.e1<=255
def aeM (m:b.gW):Prop:=m.aC.n<=64/\m.uV.n<=64/\m.fY.n<=16
def Hu (m:b.gW):Prop:=aeM m/\m.uV.n=m.aC.n/\(∀ i,i < m.aC.n->w6 (m.aC.get i) 1024)/\(∀ i,i < m.uV.n->agN (m.uV.get i))/\QO m
theorem agO (s:Sl b.dI) (hs:s.n<=64):(∃ x',goN b.bG (⟨s,(0:Int),((s.n:Nat):Int),(0:Int)⟩:b.bU) = .out (.exit 0) x'/\∀ i,i < s.n->w6 (s.get i) 1024)\/
  ∃ x',goN b.bG (⟨s,(0:Int),((s.n:Nat):Int),(0:Int)⟩:b.bU) = .out .ret x'/\x'.t4 >= 0/\∃ i,i < s.n/\¬ w6 (s.get i) 1024:=by
 have key:=ou (step:=b.bG) s.n (by unfold gK; omega) (fun j=>⟨s,(0:Int),((s.n:Nat):Int),(j:Int)⟩) (fun k=>w6 (s.get k) 1024) (e0:=.exit 0) (er:=.ret) rfl rfl (fun x'=>x'.t4 >= 0) (xe:=⟨s,(0:Int),((s.n:Nat):Int),((s.n:Nat):Int)⟩) (fun j hj=>by
  have e1:aO ((j:Int)+1)=((j+1:Nat):Int):=by rw [df (by omega) (by omega)]; omega
  have d1:decide ((j:Int) < ((s.n:Nat):Int))=true:=ay (by omega);have d2:decide ((0:Int)<=(j:Int))=true:=ay (by omega);have ej:Int.toNat (j:Int)=j:=rfl;unfold b.bG w6 rh
  dsimp only
  rw [d1,d2,ej,e1];simp only [cK,aj];generalize s.get j=v;have JD:(j:Int) >= 0:=by omega
  by_cases h1:v.x >= -1024
  ·by_cases h2:v.x<=1024
   ·by_cases h3:v.y >= -1024
    ·by_cases h4:v.y<=1024
     ·by_cases h5:v.z >= -1024
      ·by_cases h6:v.z<=1024
       ·rw [ay h1,ay h2,ay h3,ay h4,ay h5,ay h6]
        exact ⟨fun _=>rfl,fun h=>absurd ⟨⟨h1,h2⟩,⟨h3,h4⟩,h5,h6⟩ h⟩
       ·rw [ay h1,ay h2,ay h3,ay h4,ay h5,bo h6]
        exact ⟨fun h=>absurd h.2.2.2 h6,fun h=>⟨_,rfl,JD⟩⟩
      ·rw [ay h1,ay h2,ay h3,ay h4,bo h5]
       exact ⟨fun h=>absurd h.2.2.1 h5,fun h=>⟨_,rfl,JD⟩⟩
     ·rw [ay h1,ay h2,ay h3,bo h4]
      exact ⟨fun h=>absurd h.2.1.2 h4,fun h=>⟨_,rfl,JD⟩⟩
    ·rw [ay h1,ay h2,bo h3]
     exact ⟨fun h=>absurd h.2.1.1 h3,fun h=>⟨_,rfl,JD⟩⟩
   ·rw [ay h1,bo h2]
    exact ⟨fun h=>absurd h.1.2 h2,fun h=>⟨_,rfl,JD⟩⟩
  ·rw [bo h1]
   exact ⟨fun h=>absurd h.1.1 h1,fun h=>⟨_,rfl,JD⟩⟩) (by
  unfold b.bG
  dsimp only
  rw [bo (Int.lt_irrefl _)];rfl)
 rcases key with ⟨h1,h2⟩ | ⟨x',h1,h2,h3⟩
 ·exact .inl ⟨_,h1,h2⟩
 ·exact .inr ⟨x',h1,h2,h3⟩
theorem akX (s:Sl b.kz) (hs:s.n<=64):(∃ x',goN b.bH (⟨s,(0:Int),((s.n:Nat):Int),(0:Int)⟩:b.bX) = .out (.exit 0) x'/\∀ i,i < s.n->agN (s.get i))\/
  ∃ x',goN b.bH (⟨s,(0:Int),((s.n:Nat):Int),(0:Int)⟩:b.bX) = .out .ret x'/\x'.t4 >= 0/\∃ i,i < s.n/\¬ agN (s.get i):=by
 have key:=ou (step:=b.bH) s.n (by unfold gK; omega) (fun j=>⟨s,(0:Int),((s.n:Nat):Int),(j:Int)⟩) (fun k=>agN (s.get k)) (e0:=.exit 0) (er:=.ret) rfl rfl (fun x'=>x'.t4 >= 0) (xe:=⟨s,(0:Int),((s.n:Nat):Int),((s.n:Nat):Int)⟩) (fun j hj=>by
  have e1:aO ((j:Int)+1)=((j+1:Nat):Int):=by rw [df (by omega) (by omega)]; omega
  have d1:decide ((j:Int) < ((s.n:Nat):Int))=true:=ay (by omega);have d2:decide ((0:Int)<=(j:Int))=true:=ay (by omega);have ej:Int.toNat (j:Int)=j:=rfl;unfold b.bH agN
  dsimp only
  rw [d1,d2,ej,e1];simp only [cK,aj];generalize s.get j=v;have JD:(j:Int) >= 0:=by omega
  by_cases h1:v.e0 < 0
  ·rw [ay h1]
   exact ⟨fun h=>absurd h.1 (by omega),fun h=>⟨_,rfl,JD⟩⟩
  ·by_cases h2:v.e0 > 255
   ·rw [bo h1,ay h2]
    exact ⟨fun h=>absurd h.2.1 (by omega),fun h=>⟨_,rfl,JD⟩⟩
   ·by_cases h3:v.e1 < 0
    ·rw [bo h1,bo h2,ay h3]
     exact ⟨fun h=>absurd h.2.2.1 (by omega),fun h=>⟨_,rfl,JD⟩⟩
    ·by_cases h4:v.e1 > 255
     ·rw [bo h1,bo h2,bo h3,ay h4]
      exact ⟨fun h=>absurd h.2.2.2 (by omega),fun h=>⟨_,rfl,JD⟩⟩
     ·rw [bo h1,bo h2,bo h3,bo h4]
      exact ⟨fun _=>rfl,fun h=>absurd ⟨by omega,by omega,by omega,by omega⟩ h⟩) (by
  unfold b.bH
  dsimp only
  rw [bo (Int.lt_irrefl _)];rfl)
 rcases key with ⟨h1,h2⟩ | ⟨x',h1,h2,h3⟩
 ·exact .inl ⟨_,h1,h2⟩
 ·exact .inr ⟨x',h1,h2,h3⟩
open Classical in
noncomputable def PV (m:b.gW):Int:=if aeM m then (if Hu m then 0 else 40) else 4
theorem abB (m:b.gW) (hk:Jf m):b.uI m=some (PV m):=by
 unfold b.uI b.zQ b.zP PV;by_cases h1:((m.aC.n:Nat):Int) > 64
 ·rw [ay h1,aa fun k=>by have:=k.1; omega]; rfl
 rw [bo h1];by_cases h2:((m.uV.n:Nat):Int) > 64
 ·rw [ay h2,aa fun k=>by have:=k.2.1; omega]; rfl
 rw [bo h2];by_cases h3:((m.fY.n:Nat):Int) > 16
 ·rw [ay h3,aa fun k=>by have:=k.2.2; omega]; rfl
 rw [bo h3];have hf:aeM m:=⟨by omega,by omega,by omega⟩
 rw [aE hf];simp only [aI];by_cases h4:((m.uV.n:Nat):Int)=((m.aC.n:Nat):Int)
 ·rw [bne_eq_false_iff_eq.2 h4,aI]
  unfold b.Bu b.Bv b.Gj;rcases agO m.aC hf.1 with ⟨x',q1,q2⟩ | ⟨x',q1,q2,i,q3,q4⟩
  ·rw [q1]
   rcases akX m.uV hf.2.1 with ⟨y',r1,r2⟩ | ⟨y',r1,r2,i,r3,r4⟩
   ·rw [r1]
    obtain ⟨l,r,s1,s2⟩:=abA m hk (by have:=hf.2.2; omega);rw [s1];cases r with
    | true=>rw [aE ⟨hf,by omega,q2,r2,s2.1 rfl⟩]; rfl
    | false=>rw [aa fun k=>by have:=s2.2 k.2.2.2.2; simp at this]; rfl
   ·rw [r1,aa fun k=>r4 (k.2.2.2.1 i r3)]
    simp only [aX.ur,aX.lW,r2,decide_true];rfl
  ·rw [q1,aa fun k=>q4 (k.2.2.1 i q3)]
   simp only [aX.ur,aX.lW,q2,decide_true];rfl
 ·rw [bne_iff_ne.2 h4,aa fun k=>h4 (by rw [k.2.1])]; rfl
def Zi (l:b.kd):Prop:=-1<=l.dJ/\l.dJ < 16/\l.oY<=2/\-1024<=l.nW/\l.nW<=1024/\0<=l.bin/\l.bin<=15
theorem anI {p:Prop} [Decidable p] {x:Option Int} {Q:Prop} (h1:p->¬ Q) (h2 : ¬ p->∃ e,x=some e/\(e=0/\Q\/e=8/\¬ Q)):∃ e,cond (decide p) (some 8) x=some e/\(e=0/\Q\/e=8/\¬ Q):=by
 by_cases h:p
 ·rw [ay h]
  exact ⟨8,rfl,.inr ⟨rfl,h1 h⟩⟩
 ·rw [bo h]
  exact h2 h
theorem aip (l:b.kd):∃ e,b.mD l=some e/\(e=0/\Zi l\/e=8/\¬ Zi l):=by
 unfold b.mD Zi
 iterate 7 refine anI (fun h k=>by omega) fun _=>?_
 exact ⟨0,rfl,.inl ⟨rfl,by omega⟩⟩
def l8 (n:Int):Prop:=n=0\/n=1\/n=3\/n=5\/n=7
def Tn (s:b.dt) (l:b.kd):b.kd:=if s.cp.e0=0 then l else ⟨s.look.color,l.dJ,l.oY,l.nW,l.kr,l.bin⟩
theorem aqc (t:Int) (s:b.dt) (l:b.kd):(l8 s.cp.e0->b.bu ⟨t,0,s,l⟩ = .next ⟨t,1,s,Tn s l⟩)/\(¬ l8 s.cp.e0->∃ x',b.bu ⟨t,0,s,l⟩ = .out .ret x'/\x'.t2=8):=by
 unfold b.bu b.eD b.eC b.eB b.eA b.ew l8 Tn
 dsimp only
 have e1:aO ((0:Int)+1)=1:=by decide
 rw [e1];constructor
 ·rintro (h | h | h | h | h) <;> rw [h] <;> rfl
 ·intro h
  rw [beq_eq_false_iff_ne.2 (fun k=>h (by omega):s.cp.e0≠0),beq_eq_false_iff_ne.2 (fun k=>h (by omega):s.cp.e0≠1),beq_eq_false_iff_ne.2 (fun k=>h (by omega):s.cp.e0≠3),beq_eq_false_iff_ne.2 (fun k=>h (by omega):s.cp.e0≠5),beq_eq_false_iff_ne.2 (fun k=>h (by omega):s.cp.e0≠7)];exact ⟨_,rfl,rfl⟩
def WU (s:b.dt) (l:b.kd):b.kd:=if s.cp.e1=0 then l else ⟨l.color,s.look.dJ,l.oY,l.nW,l.kr,l.bin⟩
theorem aqd (t:Int) (s:b.dt) (l:b.kd):(l8 s.cp.e1->b.bu ⟨t,1,s,l⟩ = .next ⟨t,2,s,WU s l⟩)/\(¬ l8 s.cp.e1->∃ x',b.bu ⟨t,1,s,l⟩ = .out .ret x'/\x'.t2=8):=by
 unfold b.bu b.eD b.eC b.eB b.eA b.ew l8 WU
 dsimp only
 have e1:aO ((1:Int)+1)=2:=by decide
 rw [e1];constructor
 ·rintro (h | h | h | h | h) <;> rw [h] <;> rfl
 ·intro h
  rw [beq_eq_false_iff_ne.2 (fun k=>h (by omega):s.cp.e1≠0),beq_eq_false_iff_ne.2 (fun k=>h (by omega):s.cp.e1≠1),beq_eq_false_iff_ne.2 (fun k=>h (by omega):s.cp.e1≠3),beq_eq_false_iff_ne.2 (fun k=>h (by omega):s.cp.e1≠5),beq_eq_false_iff_ne.2 (fun k=>h (by omega):s.cp.e1≠7)];exact ⟨_,rfl,rfl⟩
def abC (s:b.dt) (l:b.kd):b.kd:=if s.cp.e2=0 then l else ⟨l.color,l.dJ,s.look.oY,l.nW,l.kr,l.bin⟩
theorem aqe (t:Int) (s:b.dt) (l:b.kd):(l8 s.cp.e2->b.bu ⟨t,2,s,l⟩ = .next ⟨t,3,s,abC s l⟩)/\(¬ l8 s.cp.e2->∃ x',b.bu ⟨t,2,s,l⟩ = .out .ret x'/\x'.t2=8):=by
 unfold b.bu b.eD b.eC b.eB b.eA b.ew l8 abC
 dsimp only
 have e1:aO ((2:Int)+1)=3:=by decide
 rw [e1];constructor
 ·rintro (h | h | h | h | h) <;> rw [h] <;> rfl
 ·intro h
  rw [beq_eq_false_iff_ne.2 (fun k=>h (by omega):s.cp.e2≠0),beq_eq_false_iff_ne.2 (fun k=>h (by omega):s.cp.e2≠1),beq_eq_false_iff_ne.2 (fun k=>h (by omega):s.cp.e2≠3),beq_eq_false_iff_ne.2 (fun k=>h (by omega):s.cp.e2≠5),beq_eq_false_iff_ne.2 (fun k=>h (by omega):s.cp.e2≠7)];exact ⟨_,rfl,rfl⟩
def aeN (s:b.dt) (l:b.kd):b.kd:=if s.cp.e3=0 then l else ⟨l.color,l.dJ,l.oY,s.look.nW,l.kr,l.bin⟩
theorem aqf (t:Int) (s:b.dt) (l:b.kd):(l8 s.cp.e3->b.bu ⟨t,3,s,l⟩ = .next ⟨t,4,s,aeN s l⟩)/\(¬ l8 s.cp.e3->∃ x',b.bu ⟨t,3,s,l⟩ = .out .ret x'/\x'.t2=8):=by
 unfold b.bu b.eD b.eC b.eB b.eA b.ew l8 aeN
 dsimp only
 have e1:aO ((3:Int)+1)=4:=by decide
 rw [e1];constructor
 ·rintro (h | h | h | h | h) <;> rw [h] <;> rfl
 ·intro h
  rw [beq_eq_false_iff_ne.2 (fun k=>h (by omega):s.cp.e3≠0),beq_eq_false_iff_ne.2 (fun k=>h (by omega):s.cp.e3≠1),beq_eq_false_iff_ne.2 (fun k=>h (by omega):s.cp.e3≠3),beq_eq_false_iff_ne.2 (fun k=>h (by omega):s.cp.e3≠5),beq_eq_false_iff_ne.2 (fun k=>h (by omega):s.cp.e3≠7)];exact ⟨_,rfl,rfl⟩
def aiq (s:b.dt) (l:b.kd):b.kd:=if s.cp.e4=0 then l else ⟨l.color,l.dJ,l.oY,l.nW,s.look.kr,s.look.bin⟩
theorem aqg (t:Int) (s:b.dt) (l:b.kd):(l8 s.cp.e4->b.bu ⟨t,4,s,l⟩ = .next ⟨t,5,s,aiq s l⟩)/\(¬ l8 s.cp.e4->∃ x',b.bu ⟨t,4,s,l⟩ = .out .ret x'/\x'.t2=8):=by
 unfold b.bu b.eD b.eC b.eB b.eA b.ew l8 aiq
 dsimp only
 have e1:aO ((4:Int)+1)=5:=by decide
 rw [e1];constructor
 ·rintro (h | h | h | h | h) <;> rw [h] <;> rfl
 ·intro h
  rw [beq_eq_false_iff_ne.2 (fun k=>h (by omega):s.cp.e4≠0),beq_eq_false_iff_ne.2 (fun k=>h (by omega):s.cp.e4≠1),beq_eq_false_iff_ne.2 (fun k=>h (by omega):s.cp.e4≠3),beq_eq_false_iff_ne.2 (fun k=>h (by omega):s.cp.e4≠5),beq_eq_false_iff_ne.2 (fun k=>h (by omega):s.cp.e4≠7)];exact ⟨_,rfl,rfl⟩
def Ca:b.kd:=⟨⟨0,0,0,0⟩,0,0,0,false,0⟩
def said (s:b.dt):b.kd:=aiq s (aeN s (abC s (WU s (Tn s Ca))))
def Zj (s:b.dt):Prop:=l8 s.cp.e0/\l8 s.cp.e1/\l8 s.cp.e2/\l8 s.cp.e3/\l8 s.cp.e4
def Mj (s:b.dt):Prop:=Zj s/\said s=s.look/\Zi s.look
theorem air (s:b.dt):(goN b.bu (⟨0,0,s,Ca⟩:b.cu) = .out (.exit 0) ⟨0,5,s,said s⟩/\Zj s)\/∃ x',goN b.bu (⟨0,0,s,Ca⟩:b.cu) = .out .ret x'/\x'.t2=8/\¬ Zj s:=by
 have key:=ou (step:=b.bu) 5 (by unfold gK; omega) (fun j=>match j with
  | 0=>⟨0,0,s,Ca⟩
  | 1=>⟨0,1,s,Tn s Ca⟩
  | 2=>⟨0,2,s,WU s (Tn s Ca)⟩
  | 3=>⟨0,3,s,abC s (WU s (Tn s Ca))⟩
  | 4=>⟨0,4,s,aeN s (abC s (WU s (Tn s Ca)))⟩
  | _=>⟨0,5,s,said s⟩) (fun j=>match j with
  | 0=>l8 s.cp.e0
  | 1=>l8 s.cp.e1
  | 2=>l8 s.cp.e2
  | 3=>l8 s.cp.e3
  | _=>l8 s.cp.e4) (e0:=.exit 0) (er:=.ret) rfl rfl (fun x'=>x'.t2=8) (xe:=⟨0,5,s,said s⟩) (fun j hj=>by
   rcases (by omega:j=0\/j=1\/j=2\/j=3\/j=4) with rfl | rfl | rfl | rfl | rfl
   ·exact aqc 0 s _
   ·exact aqd 0 s _
   ·exact aqe 0 s _
   ·exact aqf 0 s _
   ·exact aqg 0 s _) rfl
 rcases key with ⟨h1,h2⟩ | ⟨x',h1,h2,j,h3,h4⟩
 ·exact .inl ⟨h1,h2 0 (by omega),h2 1 (by omega),h2 2 (by omega),h2 3 (by omega),h2 4 (by omega)⟩
 ·refine .inr ⟨x',h1,h2,fun k=>h4 ?_⟩
  obtain ⟨k0,k1,k2,k3,k4⟩:=k;rcases (by omega:j=0\/j=1\/j=2\/j=3\/j=4) with rfl | rfl | rfl | rfl | rfl <;> assumption
theorem look_eq (a c:b.kd):((a.color.e0==c.color.e0)&&((a.color.e1==c.color.e1)&&((a.color.e2==c.color.e2)&&((a.color.e3==c.color.e3)&&((a.dJ==c.dJ)&&((a.oY==c.oY)&&((a.nW==c.nW)&&((a.kr==c.kr)&&((a.bin==c.bin)&&true)))))))))=true↔a=c:=by
 obtain ⟨⟨a0,a1,a2,a3⟩,a4,a5,a6,a7,a8⟩:=a;obtain ⟨⟨c0,c1,c2,c3⟩,c4,c5,c6,c7,c8⟩:=c;simp [aq,and_assoc]
theorem Yh (s:b.dt):∃ e,b.qA s=some e/\(e=0/\Mj s\/e=8/\¬ Mj s):=by
 unfold b.qA b.Dt b.ca;have e0:(⟨0,0,s,⟨⟨0,0,0,0⟩,0,0,0,false,0⟩⟩:b.cu)=⟨0,0,s,Ca⟩:=rfl;rw [e0];rcases air s with ⟨h1,h2⟩ | ⟨x',h1,h2,h3⟩
 ·rw [h1]
  simp only [aX.ur,aX.lW];by_cases hl:said s=s.look
  ·rw [(look_eq _ _).2 hl]
   obtain ⟨e,q1,q2⟩:=aip s.look;rw [q1];refine ⟨e,rfl,?_⟩;rcases q2 with ⟨rfl,q2⟩ | ⟨rfl,q2⟩
   ·exact .inl ⟨rfl,h2,hl,q2⟩
   ·exact .inr ⟨rfl,fun k=>q2 k.2.2⟩
  ·rw [Bool.eq_false_iff.2 fun k=>hl ((look_eq _ _).1 k)]
   exact ⟨8,rfl,.inr ⟨rfl,fun k=>hl k.2.1⟩⟩
 ·rw [h1]
  exact ⟨x'.t2,rfl,.inr ⟨h2,fun k=>h3 k.1⟩⟩
theorem cc {α:Type} (a c:Bool) (F X:α):cond a (cond c F X) X=cond (a&&c) F X:=by cases a <;> cases c <;> rfl
theorem cc2 {α:Type} (a c d:Bool) (F X:α):cond a (cond c F (cond d F X)) X=cond (a&&(c||d)) F X:=by cases a <;> cases c <;> cases d <;> rfl
def QP (s:b.dt):Prop:=(0<=s.cp.e0/\s.cp.e0<=255)/\(0<=s.cp.e1/\s.cp.e1<=255)/\(0<=s.cp.e2/\s.cp.e2<=255)/\(0<=s.cp.e3/\s.cp.e3<=255)/\(0<=s.cp.e4/\s.cp.e4<=255)
def Kh (l:Sl Int):Nat->Int
 | 0=>0
 | k+1=>l.get k
def WV (l:Sl Int):Prop:=(∀ j,j < l.n->Kh l j<=l.get j/\l.get j<=8192)/\l.n<=16
theorem agP {l:Sl Int} {n:Nat} (h:∀ j,j < n->Kh l j<=l.get j/\l.get j<=8192):∀ j,j < n->0<=l.get j
 | 0,hj=>(h 0 hj).1
 | k+1,hj=>Int.le_trans (agP h k (by omega)) (h (k+1) hj).1
theorem akY (l:Sl Int) (hn:l.n < 1000000):∃ r,b.Cs l=some r/\(r=true↔WV l):=by
 unfold b.Cs b.A8;have key:=ou (step:=b.jq) l.n (by unfold gK; omega) (fun j=>⟨l,false,Kh l j,l,((l.n:Nat):Int),(j:Int)⟩) (fun j=>Kh l j<=l.get j/\l.get j<=8192) (e0:=.exit 0) (er:=.ret) rfl rfl (fun x'=>x'.t2=false) (xe:=⟨l,false,Kh l l.n,l,((l.n:Nat):Int),((l.n:Nat):Int)⟩) (fun j hj=>by
  have e1:aO ((j:Int)+1)=((j+1:Nat):Int):=by rw [df (by omega) (by omega)]; omega
  have d1:decide ((j:Int) < ((l.n:Nat):Int))=true:=ay (by omega);have d2:decide ((0:Int)<=(j:Int))=true:=ay (by omega);have ej:Int.toNat (j:Int)=j:=rfl;unfold b.jq
  dsimp only
  rw [d1,d2,ej,e1];simp only [cK,aj];by_cases h1:l.get j < Kh l j
  ·rw [ay h1]
   exact ⟨fun h=>absurd h.1 (by omega),fun _=>⟨_,rfl,rfl⟩⟩
  ·by_cases h2:l.get j > 8192
   ·rw [bo h1,ay h2]
    exact ⟨fun h=>absurd h.2 (by omega),fun _=>⟨_,rfl,rfl⟩⟩
   ·rw [bo h1,bo h2]
    exact ⟨fun _=>rfl,fun h=>absurd ⟨by omega,by omega⟩ h⟩) (by
  unfold b.jq
  dsimp only
  rw [bo (Int.lt_irrefl _)];rfl)
 have e0:goN b.jq (⟨l,false,(0:Int),l,((l.n:Nat):Int),(0:Int)⟩:b.oZ)=goN b.jq ⟨l,false,Kh l 0,l,((l.n:Nat):Int),((0:Nat):Int)⟩:=rfl;rw [e0];rcases key with ⟨h1,h2⟩ | ⟨x',h1,h2,j,h3,h4⟩
 ·rw [h1]
  refine ⟨decide (((l.n:Nat):Int)<=16),rfl,?_⟩;rw [decide_eq_true_iff];exact ⟨fun h=>⟨h2,by omega⟩,fun h=>by have:=h.2; omega⟩
 ·rw [h1]
  exact ⟨x'.t2,rfl,⟨fun h=>by rw [h2] at h; simp at h,fun h=>absurd (h.1 j h3) h4⟩⟩
def agQ {α:Type} (a c:Sl α):Prop:=a.n=c.n/\∀ i,i < a.n->a.get i=c.get i
theorem agQ.refl {α:Type} (a:Sl α):agQ a a:=⟨rfl,fun _ _=>rfl⟩
theorem O5 (a c:Sl Int) (hn:a.n < 1000000):∃ r,b.ot a c=some r/\(r=true↔agQ a c):=by
 unfold b.ot b.uj;by_cases hq:a.n=c.n
 ·have cH:(((a.n:Nat):Int) != ((c.n:Nat):Int))=false:=by simp [hq]
  rw [cH,aI];have key:=ou (step:=b.eE) a.n (by unfold gK; omega) (fun j=>⟨a,c,false,((a.n:Nat):Int),(j:Int)⟩) (fun j=>a.get j=c.get j) (e0:=.exit 0) (er:=.ret) rfl rfl (fun x'=>x'.t4=false) (xe:=⟨a,c,false,((a.n:Nat):Int),((a.n:Nat):Int)⟩) (fun j hj=>by
   have e1:aO ((j:Int)+1)=((j+1:Nat):Int):=by rw [df (by omega) (by omega)]; omega
   have d1:decide ((j:Int) < ((a.n:Nat):Int))=true:=ay (by omega);have d2:decide ((0:Int)<=(j:Int))=true:=ay (by omega);have d3:decide ((j:Int) < ((c.n:Nat):Int))=true:=ay (by omega);have ej:Int.toNat (j:Int)=j:=rfl;unfold b.eE
   dsimp only
   rw [d1,d2,d3,ej,e1];simp only [cK,aj];by_cases h1:a.get j=c.get j
   ·have:(a.get j != c.get j)=false:=by simp [h1]
    rw [this];exact ⟨fun _=>rfl,fun h=>absurd h1 h⟩
   ·have:(a.get j != c.get j)=true:=by simp [h1]
    rw [this];exact ⟨fun h=>absurd h h1,fun _=>⟨_,rfl,rfl⟩⟩) (by
   unfold b.eE
   dsimp only
   rw [bo (Int.lt_irrefl _)];rfl)
  have e0:goN b.eE (⟨a,c,false,((a.n:Nat):Int),(0:Int)⟩:b.gq)=goN b.eE ⟨a,c,false,((a.n:Nat):Int),((0:Nat):Int)⟩:=rfl;rw [e0];rcases key with ⟨h1,h2⟩ | ⟨x',h1,h2,j,h3,h4⟩
  ·rw [h1]
   exact ⟨true,rfl,⟨fun _=>⟨hq,h2⟩,fun _=>rfl⟩⟩
  ·rw [h1]
   exact ⟨x'.t4,rfl,⟨fun h=>by rw [h2] at h; simp at h,fun h=>absurd (h.2 j h3) h4⟩⟩
 ·have cH:(((a.n:Nat):Int) != ((c.n:Nat):Int))=true:=by simp; omega
  rw [cH,aj];exact ⟨false,rfl,⟨fun h=>by simp at h,fun h=>absurd h.1 hq⟩⟩
def WW (a c:b.Node):Prop:=a.kind=c.kind/\a.nX=c.nX/\a.rM=c.rM/\a.cN=c.cN/\agQ a.eI c.eI/\a.fN=c.fN/\a.bD=c.bD
theorem anJ (a c:b.iu):((a.m.e0.e0==c.m.e0.e0)&&((a.m.e0.e1==c.m.e0.e1)&&((a.m.e0.e2==c.m.e0.e2)&&((a.m.e1.e0==c.m.e1.e0)&&((a.m.e1.e1==c.m.e1.e1)&&((a.m.e1.e2==c.m.e1.e2)&&((a.m.e2.e0==c.m.e2.e0)&&((a.m.e2.e1==c.m.e2.e1)&&((a.m.e2.e2==c.m.e2.e2)&&((a.t.x==c.t.x)&&((a.t.y==c.t.y)&&((a.t.z==c.t.z)&&true))))))))))))=true↔a=c:=by
 obtain ⟨⟨⟨a0,a1,a2⟩,⟨a3,a4,a5⟩,⟨a6,a7,a8⟩⟩,⟨a9,a10,a11⟩⟩:=a;obtain ⟨⟨⟨c0,c1,c2⟩,⟨c3,c4,c5⟩,⟨c6,c7,c8⟩⟩,⟨c9,c10,c11⟩⟩:=c;simp [and_assoc]
theorem anK (a c:b.dI):((a.x==c.x)&&((a.y==c.y)&&((a.z==c.z)&&true)))=true↔a=c:=by
 obtain ⟨a0,a1,a2⟩:=a;obtain ⟨c0,c1,c2⟩:=c;simp
theorem akZ (a c:b.dt):((a.cp.e0==c.cp.e0)&&((a.cp.e1==c.cp.e1)&&((a.cp.e2==c.cp.e2)&&((a.cp.e3==c.cp.e3)&&((a.cp.e4==c.cp.e4)&&((a.look.color.e0==c.look.color.e0)&&((a.look.color.e1==c.look.color.e1)&&((a.look.color.e2==c.look.color.e2)&&((a.look.color.e3==c.look.color.e3)&&((a.look.dJ==c.look.dJ)&&((a.look.oY==c.look.oY)&&((a.look.nW==c.look.nW)&&((a.look.kr==c.look.kr)&&((a.look.bin==c.look.bin)&&true))))))))))))))=true↔a=c:=by
 obtain ⟨⟨a0,a1,a2,a3,a4⟩,⟨⟨a5,a6,a7,a8⟩,a9,a10,a11,a12,a13⟩⟩:=a;obtain ⟨⟨c0,c1,c2,c3,c4⟩,⟨⟨c5,c6,c7,c8⟩,c9,c10,c11,c12,c13⟩⟩:=c;simp [and_assoc]
theorem WX {p:Prop} {c:Bool} {x:Option Bool} {Q:Prop} (hc:c=true↔p) (h1 : ¬ p->¬ Q) (h2:p->∃ r,x=some r/\(r=true↔Q)):∃ r,cond c x (some false)=some r/\(r=true↔Q):=by
 cases c with
 | false=>exact ⟨false,rfl,⟨fun k=>by simp at k,fun k=>absurd k (h1 fun q=>by have:=hc.2 q; simp at this)⟩⟩
 | true=>exact h2 (hc.1 rfl)
theorem abD (a c:b.Node) (hn:a.eI.n < 1000000):∃ r,b.wW a c=some r/\(r=true↔WW a c):=by
 unfold b.wW b.I7;obtain ⟨r,q1,q2⟩:=O5 a.eI c.eI hn;rw [q1,gJ,eU,aj];refine WX Bc (fun h k=>h k.1) fun g1=>?_;refine WX (anJ _ _) (fun h k=>h k.2.1) fun g2=>?_;refine WX Bc (fun h k=>h k.2.2.1) fun g3=>?_;refine WX (anK _ _) (fun h k=>h k.2.2.2.1) fun g4=>?_;refine WX q2 (fun h k=>h k.2.2.2.2.1) fun g5=>?_;refine WX Bc (fun h k=>h k.2.2.2.2.2.1) fun g6=>?_;exact ⟨_,rfl,(akZ _ _).trans ⟨fun h=>⟨g1,g2,g3,g4,g5,g6,h⟩,fun h=>h.2.2.2.2.2.2⟩⟩
theorem NB {n:Int} (h:rh n 1024):rh n 4096:=by unfold rh at *; omega
theorem Yi (m:b.iu) (v:b.dI) (h:Je m) (hv:w6 v 4096) :
  b.w5 m v=some ⟨dot m.m.e0 v.x v.y v.z / 256+m.t.x,dot m.m.e1 v.x v.y v.z / 256+m.t.y,dot m.m.e2 v.x v.y v.z / 256+m.t.z⟩:=by
 obtain ⟨⟨h0,h1,h2⟩,t1,t2,t3⟩:=h;have k0:=Zh h0 hv.1 hv.2.1 hv.2.2;have k1:=Zh h1 hv.1 hv.2.1 hv.2.2;have k2:=Zh h2 hv.1 hv.2.1 hv.2.2;unfold b.w5 b.yV b.Jd b.Jc b.FH b.DD;simp only [gJ,eU,aj];rw [Nz m.m ⟨v.x,v.y,v.z⟩ ⟨h0,h1,h2⟩ hv.1 hv.2.1 hv.2.2];simp only [gJ,eU,aj];unfold rh at *;rw [df (by omega) (by omega),df (by omega) (by omega),df (by omega) (by omega)]
def mul (a c:b.iu):b.iu:=
 ⟨⟨⟨dot a.m.e0 c.m.e0.e0 c.m.e1.e0 c.m.e2.e0 / 256,dot a.m.e0 c.m.e0.e1 c.m.e1.e1 c.m.e2.e1 / 256,dot a.m.e0 c.m.e0.e2 c.m.e1.e2 c.m.e2.e2 / 256⟩,
  ⟨dot a.m.e1 c.m.e0.e0 c.m.e1.e0 c.m.e2.e0 / 256,dot a.m.e1 c.m.e0.e1 c.m.e1.e1 c.m.e2.e1 / 256,dot a.m.e1 c.m.e0.e2 c.m.e1.e2 c.m.e2.e2 / 256⟩,
  ⟨dot a.m.e2 c.m.e0.e0 c.m.e1.e0 c.m.e2.e0 / 256,dot a.m.e2 c.m.e0.e1 c.m.e1.e1 c.m.e2.e1 / 256,dot a.m.e2 c.m.e0.e2 c.m.e1.e2 c.m.e2.e2 / 256⟩⟩,
  ⟨dot a.m.e0 c.t.x c.t.y c.t.z / 256+a.t.x,dot a.m.e1 c.t.x c.t.y c.t.z / 256+a.t.y,dot a.m.e2 c.t.x c.t.y c.t.z / 256+a.t.z⟩⟩
def abE:b.iu:=⟨⟨⟨0,0,0⟩,⟨0,0,0⟩,⟨0,0,0⟩⟩,⟨0,0,0⟩⟩
open Classical in
noncomputable def vi (a c:b.iu):b.iu×Int:=if Je a/\Je c/\Je (mul a c) then (mul a c,0) else (abE,20)
theorem ao9 {c:b.iu} (h:Je c):(∀ r,PU r->True)/\(rh c.m.e0.e0 4096/\rh c.m.e1.e0 4096/\rh c.m.e2.e0 4096)/\(rh c.m.e0.e1 4096/\rh c.m.e1.e1 4096/\rh c.m.e2.e1 4096)/\(rh c.m.e0.e2 4096/\rh c.m.e1.e2 4096/\rh c.m.e2.e2 4096):=by
 obtain ⟨⟨⟨a1,a2,a3⟩,⟨a4,a5,a6⟩,⟨a7,a8,a9⟩⟩,_⟩:=h;exact ⟨fun _ _=>trivial,⟨NB a1,NB a4,NB a7⟩,⟨NB a2,NB a5,NB a8⟩,⟨NB a3,NB a6,NB a9⟩⟩
theorem ais (a c:b.iu):b.EI a c=some (vi a c):=by
 unfold b.EI b.Fg b.Nw b.Nx;obtain ⟨e,h1,h2⟩:=yW a;rw [h1];rcases h2 with ⟨rfl,ha⟩ | ⟨rfl,ha⟩
 ·obtain ⟨e,h3,h4⟩:=yW c
  rw [h3];rcases h4 with ⟨rfl,hc⟩ | ⟨rfl,hc⟩
  ·obtain ⟨_,c1,c2,c3⟩:=ao9 hc
   unfold b.DE b.ra b.rb b.rf b.Ht b.DE b.ra b.rb b.rf;rw [Yi a c.t ha hc.2,Nz a.m ⟨c.m.e0.e0,c.m.e1.e0,c.m.e2.e0⟩ ha.1 c1.1 c1.2.1 c1.2.2,Nz a.m ⟨c.m.e0.e1,c.m.e1.e1,c.m.e2.e1⟩ ha.1 c2.1 c2.2.1 c2.2.2,Nz a.m ⟨c.m.e0.e2,c.m.e1.e2,c.m.e2.e2⟩ ha.1 c3.1 c3.2.1 c3.2.2];simp only [gJ,eU,aj];obtain ⟨e,h5,h6⟩:=yW (mul a c);have h5':=h5;unfold mul at h5';rw [h5'];rcases h6 with ⟨rfl,hm⟩ | ⟨rfl,hm⟩
   ·unfold vi
    rw [aE ⟨ha,hc,hm⟩];rfl
   ·unfold vi
    rw [aa fun k=>hm k.2.2];rfl
  ·unfold vi
   rw [aa fun k=>hc k.2.1];rfl
 ·unfold vi
  rw [aa fun k=>ha k.1];rfl
def Ki:b.dI:=⟨0,0,0⟩
def ajY:Sl Int:=⟨0,fun _=>0⟩
def Zk (s:b.aA) (n:b.Node):Prop:=(1<=n.kind/\n.kind<=5)/\Mj n.bD/\(n.bD.cp.e1=0\/n.bD.look.dJ < (s.j3.n:Int))/\(n.kind=2->Je n.nX)/\(n.kind≠2->n.nX=abE)/\(n.kind≠3->n.rM=0)/\(n.kind=4->w6 n.cN 4096/\WV n.eI)/\(n.kind≠4->n.cN=Ki/\n.eI.n=0)/\(n.kind=5->0<=n.fN/\n.fN < (s.fj.n:Int))/\(n.kind≠5->n.fN=0)
theorem agR {c:Bool} {p:Prop} (h:c=true↔p):(!c)=true↔¬ p:=by
 cases c <;> simp at h ⊢ <;> exact h
theorem aoy {c d:Bool} {p q:Prop} (h:c=true↔p) (k:d=true↔q):(c&&d)=true↔p/\q:=by
 rw [aq,h,k]
theorem orI {c d:Bool} {p q:Prop} (h:c=true↔p) (k:d=true↔q):(c||d)=true↔p\/q:=by
 rw [u7,h,k]
theorem Vf {p:Prop} [Decidable p] : decide p=true↔p:=decide_eq_true_iff
theorem DX {x y:Int} : (x==y)=true↔x=y:=Bc
theorem neI {x y:Int} : (x != y)=true↔x≠y:=bne_iff_ne
def abF (n:b.Node):Prop:=(1<=n.kind/\n.kind<=5)/\(n.kind=2->Je n.nX)/\(n.kind=4->w6 n.cN 4096/\WV n.eI)
open Classical in
theorem agS (n:b.Node) (hn:n.eI.n < 1000000):∃ ok,b.xY n=some (⟨n.kind,if n.kind=2 then n.nX else abE,if n.kind=3 then n.rM else 0,if n.kind=4 then n.cN else Ki,if n.kind=4 then n.eI else ajY,if n.kind=5 then n.fN else 0,n.bD⟩,ok)/\(ok=true↔abF n):=by
 unfold b.xY b.Gn b.Gp b.Gq;obtain ⟨e1,q1,i1⟩:=yW n.nX;have q2:=Kg n.cN;obtain ⟨r3,q3,i3⟩:=akY n.eI hn;simp only [q1,q2,q3,gJ,eU,aj];obtain ⟨k,m,o,c,f,x,st⟩:=n
 dsimp only at *
 unfold abF
 dsimp only
 by_cases h1:k=1
 ·subst h1
  exact ⟨true,rfl,by simp⟩
 have g1:(k==(1:Int))=false:=by rw [<- Bool.not_eq_true,DX]; exact h1
 rw [g1,aI];by_cases h2:k=2
 ·subst h2
  refine ⟨_,rfl,?_⟩;rw [DX];rcases i1 with ⟨a,c⟩ | ⟨a,c⟩ <;> simp [a,c]
 have g2:(k==(2:Int))=false:=by rw [<- Bool.not_eq_true,DX]; exact h2
 rw [g2,aI];by_cases h3:k=3
 ·subst h3
  exact ⟨true,rfl,by simp⟩
 have g3:(k==(3:Int))=false:=by rw [<- Bool.not_eq_true,DX]; exact h3
 rw [g3,aI];by_cases h4:k=4
 ·subst h4
  by_cases hv:w6 c 4096
  ·rw [aE hv]
   exact ⟨r3,rfl,i3.trans (by simp [hv])⟩
  ·rw [aa hv]
   exact ⟨false,rfl,by simp [hv]⟩
 have g4:(k==(4:Int))=false:=by rw [<- Bool.not_eq_true,DX]; exact h4
 rw [g4,aI];by_cases h5:k=5
 ·subst h5
  exact ⟨true,rfl,by simp⟩
 have g5:(k==(5:Int))=false:=by rw [<- Bool.not_eq_true,DX]; exact h5
 rw [g5,aI,aa h2,aa h3,aa h4,aa h4,aa h5];exact ⟨false,rfl,by simp; omega⟩
theorem Ld {p:Prop} {c:Bool} {x:Option Int} {Q:Prop} (hc:c=true↔p) (h1:p->¬ Q) (h2 : ¬ p->∃ e,x=some e/\(e=0/\Q\/e=8/\¬ Q)):∃ e,cond c (some 8) x=some e/\(e=0/\Q\/e=8/\¬ Q):=by
 cases c with
 | true=>exact ⟨8,rfl,.inr ⟨rfl,h1 (hc.1 rfl)⟩⟩
 | false=>exact h2 fun q=>by have:=hc.2 q; simp at this
theorem ait (s:b.aA) (n:b.Node) (hs:QP n.bD) (hn:n.eI.n < 1000000):∃ e,b.pg s n=some e/\(e=0/\Zk s n\/e=8/\¬ Zk s n):=by
 unfold b.pg b.uk b.Aj b.vh b.Ak;obtain ⟨ok,q1,i1⟩:=agS n hn;simp only [q1,gJ,eU,aj];obtain ⟨r2,q2,i2⟩:=abD ⟨n.kind,if n.kind=2 then n.nX else abE,if n.kind=3 then n.rM else 0,if n.kind=4 then n.cN else Ki,if n.kind=4 then n.eI else ajY,if n.kind=5 then n.fN else 0,n.bD⟩ n (by
  by_cases h:n.kind=4
  ·simp only [aE h]; exact hn
  ·simp only [aa h]; exact (by decide:(0:Nat) < 1000000))
 obtain ⟨e3,q3,i3⟩:=Yh n.bD;simp only [q2,q3,gJ,eU,aj,cc2,cc];have aoz:0<=n.bD.cp.e1:=hs.2.1.1;have i2' : r2=true↔(n.kind≠2->n.nX=abE)/\(n.kind≠3->n.rM=0)/\(n.kind≠4->n.cN=Ki/\n.eI.n=0)/\(n.kind≠5->n.fN=0):=by
  rw [i2];unfold WW
  dsimp only
  constructor
  ·rintro ⟨_,a2,a3,a4,a5,a6,_⟩
   refine ⟨fun h=>?_,fun h=>?_,fun h=>⟨?_,?_⟩,fun h=>?_⟩
   ·rw [aa h] at a2; exact a2.symm
   ·rw [aa h] at a3; exact a3.symm
   ·rw [aa h] at a4; exact a4.symm
   ·rw [aa h] at a5; exact a5.1.symm
   ·rw [aa h] at a6; exact a6.symm
  ·rintro ⟨a1,a2,a3,a4⟩
   refine ⟨rfl,?_,?_,?_,?_,?_,rfl⟩
   ·by_cases h:n.kind=2
    ·rw [aE h]
    ·rw [aa h]; exact (a1 h).symm
   ·by_cases h:n.kind=3
    ·rw [aE h]
    ·rw [aa h]; exact (a2 h).symm
   ·by_cases h:n.kind=4
    ·rw [aE h]
    ·rw [aa h]; exact (a3 h).1.symm
   ·by_cases h:n.kind=4
    ·rw [aE h]; exact agQ.refl _
    ·rw [aa h]; exact ⟨(a3 h).2.symm,fun i hi=>absurd hi (oD i)⟩
   ·by_cases h:n.kind=5
    ·rw [aE h]
    ·rw [aa h]; exact (a4 h).symm
 refine Ld (agR i1) (fun h k=>h ⟨k.1,k.2.2.2.1,k.2.2.2.2.2.2.1⟩) fun k1=>?_;refine Ld (agR i2') (fun h k=>h ⟨k.2.2.2.2.1,k.2.2.2.2.2.1,k.2.2.2.2.2.2.2.1,k.2.2.2.2.2.2.2.2.2⟩) fun k2=>?_;refine Ld neI (fun h k=>by
  rcases i3 with g | g
  ·exact h g.1
  ·exact g.2 k.2.1) fun k3=>?_
 have c1:abF n:=Classical.byContradiction k1;have c2:=Classical.byContradiction k2;have c3:Mj n.bD:=by
  rcases i3 with g | g
  ·exact g.2
  ·exact absurd (fun h=>by rw [g.1] at h; simp at h) k3
 refine Ld (aoy DX (orI Vf Vf)) (fun h k=>by have:=k.2.2.2.2.2.2.2.2.1 h.1; omega) fun k4=>?_;refine Ld (aoy neI Vf) (fun h k=>by rcases k.2.2.1 with g | g <;> omega) fun k5=>?_;exact ⟨0,rfl,.inl ⟨rfl,c1.1,c3,by omega,c1.2.1,c2.1,c2.2.1,c1.2.2,c2.2.2.1,fun h=>by omega,c2.2.2.2⟩⟩
end Go.Proofs.Ytckbdndhmcoihaa.sc
end
section
namespace Go.Proofs.Ytckbdndhmcoihaa.nodes
open Go Go.K
def aeO (s:b.Slot):Prop:=1<=s.gen/\s.gen<=1073741824
structure FJ (a:b.jW):Prop where
 Tp:a.cM.n<=128
 aoA:∀ i,i < a.cM.n->aeO (a.cM.get i)
theorem PW (a:b.jW):∃ n,b.dV a=some n/\(n=0/\FJ a\/n=8/\¬ FJ a):=by
 unfold b.dV;by_cases h:((a.cM.n:Nat):Int) > 128
 ·rw [ay h,aj]
  exact ⟨8,rfl,.inr ⟨rfl,fun k=>by have:=k.Tp; omega⟩⟩
 ·rw [bo h,aI]
  obtain ⟨e,x',h1,h2⟩:∃ e x',b.vN a = .out e x'/\((e = .exit 0/\∀ i,i < a.cM.n->aeO (a.cM.get i))\/(e = .ret/\0<=x'.t4/\¬ FJ a)):=by
   unfold b.vN;refine jD (X:=b.cf) (fun j x=>x.s=a.cM/\x.t7=(a.cM.n:Int)/\x.t8=(j:Int)/\∀ i,i < j->aeO (a.cM.get i)) (fun e x'=>(e = .exit 0/\∀ i,i < a.cM.n->aeO (a.cM.get i))\/(e = .ret/\0<=x'.t4/\¬ FJ a)) a.cM.n (by unfold gK; omega) ?_ ⟨rfl,rfl,rfl,fun i hi=>absurd hi (oD _)⟩;rintro j ⟨s,t4,t7,t8⟩ hj ⟨rfl,rfl,rfl,cL⟩;unfold b.dx
   dsimp only
   by_cases bj:(j:Int) < (a.cM.n:Int)
   ·have h0:(0:Int)<=(j:Int):=by omega
    rw [ay bj,ay h0,aj,EP,aj];have ej:Int.toNat (j:Int)=j:=rfl;rw [ej];by_cases g1:(a.cM.get j).gen < 1
    ·rw [ay g1,aj]
     exact .inr ⟨_,_,rfl,rfl,.inr ⟨rfl,h0,fun k=>by have:=(k.aoA j (by omega)).1; omega⟩⟩
    ·rw [bo g1,aI]
     by_cases g2:(a.cM.get j).gen > 1073741824
     ·rw [ay g2,aj]
      exact .inr ⟨_,_,rfl,rfl,.inr ⟨rfl,h0,fun k=>by have:=(k.aoA j (by omega)).2; omega⟩⟩
     ·rw [bo g2,aI]
      refine .inl ⟨_,rfl,by omega,rfl,rfl,?_,fun i hi=>?_⟩
      ·show aO ((j:Int)+1)=_
       rw [df (by omega) (by omega)];omega
      ·by_cases e:i=j
       ·subst e; exact ⟨by omega,by omega⟩
       ·exact cL i (by omega)
   ·rw [bo bj,aI]
    exact .inr ⟨_,_,rfl,rfl,.inl ⟨rfl,fun i hi=>cL i (by omega)⟩⟩
  rw [h1];rcases h2 with ⟨rfl,h2⟩ | ⟨rfl,h2,h3⟩
  ·exact ⟨0,rfl,.inl ⟨rfl,by omega,h2⟩⟩
  ·refine ⟨8,?_,.inr ⟨rfl,h3⟩⟩
   show cond false _ (cond true (cond (decide (x'.t4 >= 0)) _ _) _)=_;rw [ay (show x'.t4 >= 0 from h2)];rfl
def mz (a:b.jW) (h:b.Handle):Prop:=0<=h.slot/\h.slot < (a.cM.n:Int)/\(a.cM.get h.slot.toNat).gen=h.gen/\(a.cM.get h.slot.toNat).live=true
theorem aiu (a:b.jW) (h:b.Handle):∃ r,b.mc a h=some r/\(r=true↔mz a h):=by
 unfold b.mc mz;by_cases h1:h.slot >= 0
 ·by_cases h2:h.slot < (a.cM.n:Int)
  ·rw [ay h1,ay h2,aj,aj]
   refine ⟨_,rfl,?_⟩;simp only [aq,Bc,EP];exact ⟨fun k=>⟨h1,h2,k.1,k.2⟩,fun k=>⟨k.2.2.1,k.2.2.2⟩⟩
  ·rw [ay h1,bo h2,aj,aI]
   exact ⟨false,rfl,⟨fun k=>by simp at k,fun k=>absurd k.2.1 h2⟩⟩
 ·rw [bo h1,aI]
  exact ⟨false,rfl,⟨fun k=>by simp at k,fun k=>absurd k.1 h1⟩⟩
theorem Yj (a:b.jW) (h:b.Handle):∃ r,b.dy a h=some r/\(r=true↔FJ a/\mz a h):=by
 obtain ⟨n,hn,hs⟩:=PW a;obtain ⟨r,hr,hh⟩:=aiu a h;unfold b.dy b.vO b.vP;rw [hn,hr];rcases hs with ⟨rfl,ha⟩ | ⟨rfl,ha⟩
 ·exact ⟨r,rfl,hh.trans ⟨fun k=>⟨ha,k⟩,fun k=>k.2⟩⟩
 ·exact ⟨false,rfl,⟨fun k=>by simp at k,fun k=>absurd k.1 ha⟩⟩
def agT (g:b.fA) (i:Nat):Prop:=(g.kids.get i).n<=16/\(0 < (g.kids.get i).n->(g.cB.cM.get i).live=true)/\∀ k,k < (g.kids.get i).n->mz g.cB ((g.kids.get i).get k)
theorem ajZ {g:b.fA} (ha:FJ g.cB) (i:Nat):sf g i↔agT g i:=by
 have key:∀ h,b.dy g.cB h=some true↔mz g.cB h:=fun h=>by
  obtain ⟨r,hr,hh⟩:=Yj g.cB h;rw [hr,bM,hh];exact ⟨fun k=>k.2,fun k=>⟨ha,k⟩⟩
 exact ⟨fun h=>⟨h.1,h.2.1,fun k hk=>(key _).1 (h.2.2 k hk)⟩,fun h=>⟨h.1,h.2.1,fun k hk=>(key _).2 (h.2.2 k hk)⟩⟩
theorem HO (g:b.fA):qJ g↔FJ g.cB/\g.kids.n=g.cB.cM.n/\(∀ i,i < g.kids.n->agT g i)/\∀ i,i < g.kids.n->GH g i:=by
 obtain ⟨n,hn,hs⟩:=PW g.cB;constructor
 ·intro h
  rcases hs with ⟨rfl,ha⟩ | ⟨rfl,ha⟩
  ·exact ⟨ha,h.len,fun i hi=>(ajZ ha i).1 (h.row i hi),h.free⟩
  ·have:=h.cM
   rw [hn] at this;simp at this
 ·rintro ⟨ha,hl,hr,hf⟩
  rcases hs with ⟨rfl,_⟩ | ⟨rfl,hb⟩
  ·exact ⟨hn,hl,fun i hi=>(ajZ ha i).2 (hr i hi),hf⟩
  ·exact absurd ha hb
end Go.Proofs.Ytckbdndhmcoihaa.nodes
end
section
namespace Go.yX
theorem aj0:∀ (n:Nat) (g:Nat->Nat),(∀ j,j<=n->g j < n)->∃ i j,i < j/\j<=n/\g i=g j
 | 0,g,h=>absurd (h 0 (aB 0)) (oD _)
 | n+1,g,h=>by
  by_cases he:∃ i,i<=n/\g i=g (n+1)
  ·obtain ⟨i,hi,e⟩:=he
   exact ⟨i,n+1,by omega,aB _,e⟩
  ·have cH:∀ i,i<=n->g i≠g (n+1):=fun i hi e=>he ⟨i,hi,e⟩
   have hl:=h (n+1) (aB _);obtain ⟨i,j,h1,h2,h3⟩:=aj0 n (fun j=>if g j=n then g (n+1) else g j) fun j hj=>by
    have h1:=h j (by omega);have h2:=cH j hj;show (if g j=n then g (n+1) else g j) < n;split <;> omega
   refine ⟨i,j,h1,by omega,?_⟩;have hi:=cH i (by omega);have hj:=cH j h2;have h3:(if g i=n then g (n+1) else g i)=if g j=n then g (n+1) else g j:=h3;split at h3 <;> split at h3 <;> omega
section
variable (n:Nat) (mG:Nat->Nat) (c:Nat->Nat->Nat)
inductive Below (to:Nat):Nat->Prop where
 | here:Below to to
 | dW (i k:Nat) (hk:k < mG i) (r:Below to (c i k)):Below to i
def GH:Prop:=∀ i,i < n->∀ k,k < mG i->¬ Below mG c i (c i k)
variable {n mG c}
end
end Go.yX
end
section
namespace Go.Proofs.Ytckbdndhmcoihaa.nodes
open Go Go.K Go.yX
def dg (g:b.fA) (i:Nat):Nat:=(g.kids.get i).n
def ch (g:b.fA) (i k:Nat):Nat:=((g.kids.get i).get k).slot.toNat
structure Fit (g:b.fA):Prop where
 small:g.kids.n < 1000000
 Tp:∀ i,i < g.kids.n->dg g i < 1000000
 inr:∀ i,i < g.kids.n->∀ k,k < dg g i->0<=((g.kids.get i).get k).slot/\((g.kids.get i).get k).slot < (g.kids.n:Int)
theorem ak0 {g:b.fA} {i:Nat} {x:Int×Int} (h:Reach (qOf g) ((i:Int),(g.cB.cM.get i).gen) x):yX.Below (dg g) (ch g) i x.1.toNat:=by
 induction h with
 | here=>exact .here
 | dW h k hk _ ih=>exact .dW h.1.toNat k hk ih
theorem ak1 {g:b.fA} (hr:∀ i,i < g.kids.n->agT g i) (hlen:g.kids.n=g.cB.cM.n) {i j:Nat} (h:yX.Below (dg g) (ch g) i j):∀ x:b.Handle,x.slot.toNat=j->mz g.cB x->Reach (qOf g) ((i:Int),(g.cB.cM.get i).gen) (hp x):=by
 induction h with
 | here=>
  rintro ⟨s,gn⟩ e ⟨h1,h2,h3,_⟩;have h1:0<=s:=h1;have e:s.toNat=i:=e;have h3:(g.cB.cM.get s.toNat).gen=gn:=h3;have:hp ⟨s,gn⟩=((i:Int),(g.cB.cM.get i).gen):=by
   show (s,gn)=_;rw [<- h3,e];congr 1;omega
  rw [this];exact .here
 | dW j k hk _ ih=>
  rintro x e ⟨h1,h2,_,_⟩;subst e;have hj:x.slot.toNat < g.kids.n:=by omega
  exact .dW (q:=qOf g) (hp x) k hk (ih ((g.kids.get x.slot.toNat).get k) rfl ((hr _ hj).2.2 k hk))
theorem ak2 {g:b.fA} (hr:∀ i,i < g.kids.n->agT g i) (hlen:g.kids.n=g.cB.cM.n):(∀ i,i < g.kids.n->nodes.GH g i)↔yX.GH g.kids.n (dg g) (ch g):=
 ⟨fun h i hi k hk hb=>h i hi k hk (ak1 hr hlen hb _ rfl ((hr i hi).2.2 k hk)),fun h i hi k hk hb=>h i hi k hk (ak0 hb)⟩
theorem anL {g:b.fA} (ha:FJ g.cB) (hlen:g.kids.n=g.cB.cM.n) (hr:∀ i,i < g.kids.n->agT g i):Fit g:=by
 have:=ha.Tp;exact ⟨by omega,fun i hi=>by have:=(hr i hi).1; unfold dg; omega,fun i hi k hk=>by have:=(hr i hi).2.2 k hk; exact ⟨this.1,by rw [hlen]; exact this.2.1⟩⟩
open Classical in
theorem agU (g:b.fA):FC g=some (if qJ g then 0 else 8):=by
 obtain ⟨n,hn,_⟩:=PW g.cB;unfold FC;rw [hn];rfl
end Go.Proofs.Ytckbdndhmcoihaa.nodes
end
section
namespace Go.Proofs.Ytckbdndhmcoihaa.sc
open Go Go.K Go.Proofs.Ytckbdndhmcoihaa.nodes
theorem RP (m:b.gW):PV m=0↔Hu m:=by
 unfold PV;by_cases h:aeM m
 ·rw [aE h]
  by_cases k:Hu m
  ·rw [aE k]; exact ⟨fun _=>k,fun _=>rfl⟩
  ·rw [aa k]; exact ⟨fun q=>by simp at q,fun q=>absurd q k⟩
 ·rw [aa h]; exact ⟨fun q=>by simp at q,fun q=>absurd q.1 h⟩
def aeP:b.Node:=⟨0,abE,0,Ki,ajY,0,⟨⟨0,0,0,0,0⟩,⟨⟨0,0,0,0⟩,0,0,0,false,0⟩⟩⟩
def DF:b.Handle:=⟨0,0⟩
def Vg (s:b.aA) (i:Nat):Prop:=((s.graph.cB.cM.get i).live=true->Zk s (s.nodes.get i))/\((s.graph.cB.cM.get i).live=false->WW (s.nodes.get i) aeP)/\((s.nodes.get i).kind=5->(s.graph.kids.get i).n=0)
def ak3 (s:b.aA):Prop:=s.fj.n<=32/\s.j3.n<=16/\(∀ i,i < s.fj.n->Hu (s.fj.get i))/\∀ i,i < s.j3.n->Tl (s.j3.get i)
def o3 (s:b.aA):Prop:=qJ s.graph/\s.nodes.n=s.graph.kids.n/\ak3 s/\(∀ i,i < s.nodes.n->Vg s i)/\(s.root=DF\/mz s.graph.cB s.root)
def FK (s:b.aA):Prop:=(∀ i,i < s.nodes.n->QP (s.nodes.get i).bD/\(s.nodes.get i).eI.n < 1000000)/\(∀ i,i < s.fj.n->Jf (s.fj.get i))/\s.graph.cB.cM.n < 1000000/\s.nodes.n < 1000000/\s.fj.n < 1000000/\s.j3.n < 1000000
theorem aeQ (s:Sl b.gW) (hs:s.n<=1000) (hk:∀ i,i < s.n->Jf (s.get i)):(∃ x',goN b.bI (⟨s,(0:Int),((s.n:Nat):Int),(0:Int)⟩:b.bB) = .out (.exit 0) x'/\∀ i,i < s.n->Hu (s.get i))\/
  ∃ x',goN b.bI (⟨s,(0:Int),((s.n:Nat):Int),(0:Int)⟩:b.bB) = .out .ret x'/\x'.t4 >= 0/\∃ i,i < s.n/\¬ Hu (s.get i):=by
 have key:=ou (step:=b.bI) s.n (by unfold gK; omega) (fun j=>⟨s,(0:Int),((s.n:Nat):Int),(j:Int)⟩) (fun k=>Hu (s.get k)) (e0:=.exit 0) (er:=.ret) rfl rfl (fun x'=>x'.t4 >= 0) (xe:=⟨s,(0:Int),((s.n:Nat):Int),((s.n:Nat):Int)⟩) (fun j hj=>by
  have e1:aO ((j:Int)+1)=((j+1:Nat):Int):=by rw [df (by omega) (by omega)]; omega
  have d1:decide ((j:Int) < ((s.n:Nat):Int))=true:=ay (by omega);have d2:decide ((0:Int)<=(j:Int))=true:=ay (by omega);have ej:Int.toNat (j:Int)=j:=rfl;unfold b.bI b.iP
  dsimp only
  have JD:(j:Int) >= 0:=by omega
  rw [d1,d2,ej,e1,abB _ (hk j hj)];simp only [cK,aj,gJ,eU];rw [<- RP];by_cases h:PV (s.get j)=0
  ·rw [bne_eq_false_iff_eq.2 h]
   exact ⟨fun _=>rfl,fun k=>absurd h k⟩
  ·rw [bne_iff_ne.2 h]
   exact ⟨fun k=>absurd k h,fun _=>⟨_,rfl,JD⟩⟩) (by
  unfold b.bI
  dsimp only
  rw [bo (Int.lt_irrefl _)];rfl)
 rcases key with ⟨h1,h2⟩ | ⟨x',h1,h2,h3⟩
 ·exact .inl ⟨_,h1,h2⟩
 ·exact .inr ⟨x',h1,h2,h3⟩
theorem aiv (s:Sl b.gN) (hs:s.n<=1000):(∃ x',goN b.bJ (⟨s,(0:Int),((s.n:Nat):Int),(0:Int)⟩:b.bC) = .out (.exit 0) x'/\∀ i,i < s.n->Tl (s.get i))\/
  ∃ x',goN b.bJ (⟨s,(0:Int),((s.n:Nat):Int),(0:Int)⟩:b.bC) = .out .ret x'/\x'.t4 >= 0/\∃ i,i < s.n/\¬ Tl (s.get i):=by
 have key:=ou (step:=b.bJ) s.n (by unfold gK; omega) (fun j=>⟨s,(0:Int),((s.n:Nat):Int),(j:Int)⟩) (fun k=>Tl (s.get k)) (e0:=.exit 0) (er:=.ret) rfl rfl (fun x'=>x'.t4 >= 0) (xe:=⟨s,(0:Int),((s.n:Nat):Int),((s.n:Nat):Int)⟩) (fun j hj=>by
  have e1:aO ((j:Int)+1)=((j+1:Nat):Int):=by rw [df (by omega) (by omega)]; omega
  have d1:decide ((j:Int) < ((s.n:Nat):Int))=true:=ay (by omega);have d2:decide ((0:Int)<=(j:Int))=true:=ay (by omega);have ej:Int.toNat (j:Int)=j:=rfl;unfold b.bJ b.iQ
  dsimp only
  have JD:(j:Int) >= 0:=by omega
  obtain ⟨e,q1,q2⟩:=akV (s.get j);rw [d1,d2,ej,e1,q1];simp only [cK,aj,gJ,eU];rcases q2 with ⟨h,k⟩ | ⟨h,k⟩
  ·rw [h]
   exact ⟨fun _=>rfl,fun g=>absurd k g⟩
  ·rw [h]
   exact ⟨fun g=>absurd g k,fun _=>⟨_,rfl,JD⟩⟩) (by
  unfold b.bJ
  dsimp only
  rw [bo (Int.lt_irrefl _)];rfl)
 rcases key with ⟨h1,h2⟩ | ⟨x',h1,h2,h3⟩
 ·exact .inl ⟨_,h1,h2⟩
 ·exact .inr ⟨x',h1,h2,h3⟩
theorem agV (s:b.aA) (vp:FK s) (hlen:s.nodes.n=s.graph.kids.n) (hg:s.graph.kids.n=s.graph.cB.cM.n):(goN b.ga (⟨0,s.nodes,((s.nodes.n:Nat):Int),(0:Int),s⟩:b.eS) = .out (.exit 0) ⟨0,s.nodes,((s.nodes.n:Nat):Int),((s.nodes.n:Nat):Int),s⟩/\∀ i,i < s.nodes.n->Vg s i)\/
  ∃ x',goN b.ga (⟨0,s.nodes,((s.nodes.n:Nat):Int),(0:Int),s⟩:b.eS) = .out .ret x'/\x'.t2=8/\∃ i,i < s.nodes.n/\¬ Vg s i:=by
 have hn:=vp.2.2.2.1;exact ou (step:=b.ga) s.nodes.n (by unfold gK; omega) (fun j=>⟨0,s.nodes,((s.nodes.n:Nat):Int),(j:Int),s⟩) (fun k=>Vg s k) (e0:=.exit 0) (er:=.ret) rfl rfl (fun x'=>x'.t2=8) (xe:=⟨0,s.nodes,((s.nodes.n:Nat):Int),((s.nodes.n:Nat):Int),s⟩) (fun j hj=>by
  have e1:aO ((j:Int)+1)=((j+1:Nat):Int):=by rw [df (by omega) (by omega)]; omega
  have d1:decide ((j:Int) < ((s.nodes.n:Nat):Int))=true:=ay (by omega);have d2:decide ((0:Int)<=(j:Int))=true:=ay (by omega);have d3:decide ((j:Int) < ((s.graph.cB.cM.n:Nat):Int))=true:=ay (by omega);have d4:decide ((j:Int) < ((s.graph.kids.n:Nat):Int))=true:=ay (by omega);have ej:Int.toNat (j:Int)=j:=rfl;obtain ⟨aoz,Ri⟩:=vp.1 j hj;unfold b.ga b.lP b.Al b.Ao
  dsimp only
  rw [ej];obtain ⟨r,q1,q2⟩:=abD (s.nodes.get j) aeP Ri;obtain ⟨e,g1,g2⟩:=ait s (s.nodes.get j) aoz Ri;unfold aeP abE Ki ajY at q1;rw [d1,d2,d3,d4,e1,q1,g1];unfold Vg;cases hl:(s.graph.cB.cM.get j).live with
  | false=>
   simp only [cK,aj,aI,gJ,eU,JF,Bool.not_true];cases r with
   | true=>
    have hz:=q2.1 rfl;have h0:(s.nodes.get j).kind=0:=hz.1;exact ⟨fun _=>rfl,fun k=>absurd ⟨fun h=>by simp at h,fun _=>hz,fun h=>by omega⟩ k⟩
   | false=>exact ⟨fun k=>by have:=q2.2 (k.2.1 trivial); simp at this,fun _=>⟨_,rfl,rfl⟩⟩
  | true=>
   simp only [cK,aj,aI,gJ,eU,JF,Bool.not_true];rcases g2 with ⟨g3,g4⟩ | ⟨g3,g4⟩
   ·rw [g3]
    have:((0:Int) != 0)=false:=rfl;rw [this,aI];by_cases h5:(s.nodes.get j).kind=5
    ·rw [Bc.2 h5,aj]
     by_cases hk:(((s.graph.kids.get j).n:Nat):Int) > 0
     ·rw [ay hk]
      exact ⟨fun k=>absurd (k.2.2 h5) (by omega),fun _=>⟨_,rfl,rfl⟩⟩
     ·rw [bo hk]
      exact ⟨fun _=>rfl,fun k=>absurd ⟨fun _=>g4,fun h=>by simp at h,fun _=>by omega⟩ k⟩
    ·have:((s.nodes.get j).kind==(5:Int))=false:=by rw [<- Bool.not_eq_true,DX]; exact h5
     rw [this,aI];exact ⟨fun _=>rfl,fun k=>absurd ⟨fun _=>g4,fun h=>by simp at h,fun h=>absurd h h5⟩ k⟩
   ·rw [g3]
    exact ⟨fun k=>absurd (k.1 trivial) g4,fun _=>⟨_,rfl,rfl⟩⟩) (by
  unfold b.ga b.lP
  dsimp only
  rw [bo (Int.lt_irrefl _)];rfl)
theorem amO (h:b.Handle):((h.slot==(0:Int))&&((h.gen==(0:Int))&&true))=true↔h=DF:=by
 obtain ⟨x,y⟩:=h;unfold DF;simp
theorem aiw {s:b.aA} (hg:qJ s.graph) (h:b.Handle):b.dy s.graph.cB h=some (decide (b.dy s.graph.cB h=some true))/\(b.dy s.graph.cB h=some true↔mz s.graph.cB h):=by
 obtain ⟨r,q1,q2⟩:=Yj s.graph.cB h;have ha:=((HO s.graph).1 hg).1;rw [q1];cases r with
 | true=>exact ⟨rfl,fun _=>(q2.1 rfl).2,fun _=>rfl⟩
 | false=>exact ⟨rfl,fun k=>by simp at k,fun k=>by have:=q2.2 ⟨ha,k⟩; simp at this⟩
open Classical in
theorem abG (s:b.aA) (vp:FK s):∃ e,b.rA s=some e/\(e=0/\o3 s\/e=8/\¬ o3 s):=by
 unfold b.rA b.zT b.zS b.Gr b.Gs;have hq:b.IV s.graph=some (if qJ s.graph then 0 else 8):=agU s.graph;rw [hq];simp only [gJ,eU,aj];by_cases hg:qJ s.graph
 ·rw [aE hg]
  have hlen:=((HO s.graph).1 hg).2.1;refine Ld neI (fun h=>absurd rfl h) fun _=>?_;refine Ld neI (fun h k=>h (by rw [k.2.1])) fun k1=>?_;refine Ld Vf (fun h k=>by have:=k.2.2.1.1; omega) fun k2=>?_;unfold b.Bx;rcases aeQ s.fj (by omega) vp.2.1 with ⟨x',q1,q2⟩ | ⟨x',q1,q2,i,q3,q4⟩
  ·rw [q1]
   simp only [aX.ur,aX.lW];have ex:zq (.exit 0) (.exit 0)=true:=rfl;rw [ex,aj];refine Ld Vf (fun h k=>by have:=k.2.2.1.2.1; omega) fun k3=>?_;unfold b.Bz;rcases aiv s.j3 (by omega) with ⟨y',r1,r2⟩ | ⟨y',r1,r2,i,r3,r4⟩
   ·rw [r1]
    simp only [aX.ur,aX.lW];rw [ex,aj];unfold b.nL;rcases agV s vp (by omega) hlen with ⟨s1,s2⟩ | ⟨z',s1,s2,i,s3,s4⟩
    ·rw [s1]
     simp only [aX.ur,aX.lW];rw [ex,aj];obtain ⟨t1,t2⟩:=aiw hg s.root;by_cases hr:s.root=DF
     ·rw [(agR (amO s.root) |> fun h=>by rw [<- Bool.not_eq_true,h]; exact fun k=>k hr:(!((s.root.slot==(0:Int))&&((s.root.gen==(0:Int))&&true)))=false)]
      exact ⟨0,rfl,.inl ⟨rfl,hg,by omega,⟨by omega,by omega,q2,r2⟩,s2,.inl hr⟩⟩
     ·rw [(agR (amO s.root)).2 hr]
      rw [t1];simp only [gJ,eU,aj];refine Ld (agR Vf) (fun h k=>by
       rcases k.2.2.2.2 with g | g
       ·exact hr g
       ·exact h (t2.2 g)) fun k5=>?_
      exact ⟨0,rfl,.inl ⟨rfl,hg,by omega,⟨by omega,by omega,q2,r2⟩,s2,.inr (t2.1 (Classical.byContradiction k5))⟩⟩
    ·rw [s1]
     exact ⟨z'.t2,rfl,.inr ⟨s2,fun k=>s4 (k.2.2.2.1 i s3)⟩⟩
   ·rw [r1]
    simp only [aX.ur,aX.lW,r2,decide_true];exact ⟨8,rfl,.inr ⟨rfl,fun k=>r4 (k.2.2.1.2.2.2 i r3)⟩⟩
  ·rw [q1]
   simp only [aX.ur,aX.lW,q2,decide_true];exact ⟨8,rfl,.inr ⟨rfl,fun k=>q4 (k.2.2.1.2.2.1 i q3)⟩⟩
 ·rw [aa hg]
  exact ⟨8,rfl,.inr ⟨rfl,fun k=>hg k.1⟩⟩
theorem fG {α:Type} (s:Sl α) (i:Nat) (v:α):(s.set i v).get i=v:=by
 unfold Sl.set;show cond (Nat.beq i i) v (s.get i)=v;rw [tM];rfl
theorem eG {α:Type} (s:Sl α) {i j:Nat} (v:α) (h:j≠i):(s.set i v).get j=s.get j:=by
 unfold Sl.set;show cond (Nat.beq j i) v (s.get j)=s.get j;have:Nat.beq j i=false:=by
  cases q:Nat.beq j i with
  | false=>rfl
  | true=>exact absurd (aK q) h
 rw [this];rfl
def D4 (g:b.fA) (M:Nat->Int) (i:Nat):Nat->Int
 | 0=>1
 | k+1=>if 0<=((g.kids.get i).get k).slot/\((g.kids.get i).get k).slot < (g.kids.n:Int) then min (D4 g M i k+M ((g.kids.get i).get k).slot.toNat) 100000 else D4 g M i k
theorem Tq (g:b.fA) (M:Nat->Int) (i k:Nat):D4 g M i (k+1)=if 0<=((g.kids.get i).get k).slot/\((g.kids.get i).get k).slot < (g.kids.n:Int) then min (D4 g M i k+M ((g.kids.get i).get k).slot.toNat) 100000 else D4 g M i k:=rfl
def Vh (g:b.fA):Nat->Nat->Int
 | 0,_=>0
 | t+1,i=>D4 g (Vh g t) i (min (g.kids.get i).n 1000)
theorem abH {g:b.fA} {M:Nat->Int} (hM:∀ j,0<=M j) (i:Nat):∀ k,1<=D4 g M i k/\D4 g M i k<=100000
 | 0=>⟨Int.le_refl _,by show (1:Int)<=100000; omega⟩
 | k+1=>by
  have:=abH hM (g:=g) i k;have hm:=hM ((g.kids.get i).get k).slot.toNat;unfold D4;split
  ·exact ⟨by omega,by omega⟩
  ·exact this
theorem agW (g:b.fA):∀ t i,0<=Vh g t i/\Vh g t i<=100000
 | 0,i=>⟨Int.le_refl _,by show (0:Int)<=100000; omega⟩
 | t+1,i=>by
  have:=abH (g:=g) (fun j=>(agW g t j).1) i (min (g.kids.get i).n 1000);show 0<=D4 _ _ _ _/\D4 _ _ _ _<=100000;omega
theorem aix (s:b.aA) (M:Nat->Int) (hM:∀ j,0<=M j/\M j<=100000) (t2:Bool) (many nx:Sl Int) (step:Int) (i:Nat) (hi:i < s.graph.kids.n) (hm:many.n=s.graph.kids.n) (hx:nx.n=s.graph.kids.n) (h1:nx.get i=1) (WY:∀ j,j < s.graph.kids.n->many.get j=M j) :
  ∃ DG kk,goN b.gP (⟨t2,((s.graph.kids.n:Nat):Int),many,step,nx,(i:Int),(0:Int),s⟩:b.fq) = .out (.exit 4) ⟨t2,((s.graph.kids.n:Nat):Int),many,step,DG,(i:Int),kk,s⟩/\DG.n=s.graph.kids.n/\DG.get i=D4 s.graph M i (min (s.graph.kids.get i).n 1000)/\∀ j,j≠i->DG.get j=nx.get j:=by
 obtain ⟨e,x',h2,he,DG,kk,h3,h4⟩:=jD (step:=b.gP)
  (fun k x=>∃ q:Sl Int,x=⟨t2,((s.graph.kids.n:Nat):Int),many,step,q,(i:Int),(k:Int),s⟩/\q.n=s.graph.kids.n/\q.get i=D4 s.graph M i k/\∀ j,j≠i->q.get j=nx.get j)
  (fun e x'=>e = .exit 4/\∃ DG kk,x' = ⟨t2,((s.graph.kids.n:Nat):Int),many,step,DG,(i:Int),kk,s⟩/\DG.n=s.graph.kids.n/\DG.get i=D4 s.graph M i (min (s.graph.kids.get i).n 1000)/\∀ j,j≠i->DG.get j=nx.get j)
  (min (s.graph.kids.get i).n 1000) (by unfold gK; omega) (by
   rintro k _ hk ⟨q,rfl,hq,hqi,hqo⟩;have ei:Int.toNat (i:Int)=i:=rfl;have ek:Int.toNat (k:Int)=k:=rfl;have d1:decide ((0:Int)<=(i:Int))=true:=ay (by omega);have d2:decide ((i:Int) < ((s.graph.kids.n:Nat):Int))=true:=ay (by omega);have d3:decide ((i:Int) < ((q.n:Nat):Int))=true:=ay (by omega);have d4:decide ((0:Int)<=(k:Int))=true:=ay (by omega);unfold b.gP b.mv
   dsimp only
   rw [ei,ek,d1,d2,d3,d4];simp only [cK,EP,CF,aj,cv,ba];by_cases tS:(k:Int) < (((s.graph.kids.get i).n:Nat):Int)
   ·rw [ay tS]
    by_cases VL:(k:Int) < 1000
    ·rw [ay VL]
     simp only [aj];have e1:aO ((k:Int)+1)=((k+1:Nat):Int):=by rw [df (by omega) (by omega)]; omega
     rw [e1];refine .inl ?_;by_cases g1:0<=((s.graph.kids.get i).get k).slot
     ·by_cases g2:((s.graph.kids.get i).get k).slot < ((s.graph.kids.n:Nat):Int)
      ·have g3:((s.graph.kids.get i).get k).slot < ((many.n:Nat):Int):=by rw [hm]; exact g2
       have ed:decide (((s.graph.kids.get i).get k).slot >= 0)=true:=ay g1;rw [ed,ay g2,ay g3];simp only [cK,aj];refine ⟨_,rfl,by omega,_,rfl,hq,?_,fun j hj=>?_⟩
       ·rw [fG,hqi,WY _ (by omega)]
        have b1:=abH (g:=s.graph) (fun j=>(hM j).1) i k;have b2:=hM ((s.graph.kids.get i).get k).slot.toNat;rw [df (by omega) (by omega),Tq,aE ⟨g1,g2⟩]
       ·rw [eG _ _ hj]; exact hqo j hj
      ·have ed:decide (((s.graph.kids.get i).get k).slot >= 0)=true:=ay g1
       rw [ed,bo g2];simp only [aj,aI];refine ⟨_,rfl,by omega,_,rfl,hq,?_,hqo⟩;rw [hqi,Tq,aa fun h=>g2 h.2]
     ·have ed:decide (((s.graph.kids.get i).get k).slot >= 0)=false:=bo g1
      rw [ed];simp only [aI];refine ⟨_,rfl,by omega,_,rfl,hq,?_,hqo⟩;rw [hqi,Tq,aa fun h=>g1 h.1]
    ·rw [bo VL]
     have:k=min (s.graph.kids.get i).n 1000:=by omega
     exact .inr ⟨_,_,rfl,rfl,rfl,q,_,rfl,hq,by rw [<- this]; exact hqi,hqo⟩
   ·rw [bo tS]
    have:k=min (s.graph.kids.get i).n 1000:=by omega
    exact .inr ⟨_,_,rfl,rfl,rfl,q,_,rfl,hq,by rw [<- this]; exact hqi,hqo⟩
   ) (x:=⟨t2,((s.graph.kids.n:Nat):Int),many,step,nx,(i:Int),(0:Int),s⟩) ⟨nx,rfl,hx,h1,fun _ _=>rfl⟩
 ·subst he h3; exact ⟨DG,kk,h2,h4⟩
theorem amP (s:b.aA) (M:Nat->Int) (hM:∀ j,0<=M j/\M j<=100000) (hn:s.graph.kids.n<=300) (t2:Bool) (many nx:Sl Int) (step:Int) (hm:many.n=s.graph.kids.n) (hx:nx.n=s.graph.kids.n) (WY:∀ j,j < s.graph.kids.n->many.get j=M j) :
  (∃ DG,goN b.hO (⟨t2,((s.graph.kids.n:Nat):Int),many,step,nx,(0:Int),s⟩:b.gX) = .out (.exit 2) ⟨t2,((s.graph.kids.n:Nat):Int),many,step,DG,((s.graph.kids.n:Nat):Int),s⟩/\DG.n=s.graph.kids.n/\∀ j,j < s.graph.kids.n->DG.get j=D4 s.graph M j (min (s.graph.kids.get j).n 1000)/\DG.get j<=10000)\/
  ∃ x',goN b.hO (⟨t2,((s.graph.kids.n:Nat):Int),many,step,nx,(0:Int),s⟩:b.gX) = .out .ret x'/\x'.t2=true/\x'.many=many:=by
 obtain ⟨e,x',h2,h3⟩:=jD (step:=b.hO)
  (fun k x=>∃ q:Sl Int,x=⟨t2,((s.graph.kids.n:Nat):Int),many,step,q,(k:Int),s⟩/\q.n=s.graph.kids.n/\∀ j,j < k->q.get j=D4 s.graph M j (min (s.graph.kids.get j).n 1000)/\q.get j<=10000)
  (fun e x'=>(e = .exit 2/\∃ DG,x' = ⟨t2,((s.graph.kids.n:Nat):Int),many,step,DG,((s.graph.kids.n:Nat):Int),s⟩/\DG.n=s.graph.kids.n/\∀ j,j < s.graph.kids.n->DG.get j=D4 s.graph M j (min (s.graph.kids.get j).n 1000)/\DG.get j<=10000)\/(e = .ret/\x'.t2=true/\x'.many=many))
  s.graph.kids.n (by unfold gK; omega) (by
   rintro k _ hk ⟨q,rfl,hq,hqo⟩;have ek:Int.toNat (k:Int)=k:=rfl;have d1:decide ((0:Int)<=(k:Int))=true:=ay (by omega);unfold b.hO b.aY
   dsimp only
   rw [ek,d1];simp only [cK,EP,CF,aj,cv,ba];by_cases bj:(k:Int) < ((s.graph.kids.n:Nat):Int)
   ·have d2:decide ((k:Int) < ((q.n:Nat):Int))=true:=ay (by omega)
    rw [ay bj,d2];simp only [aj];obtain ⟨DG,kk,r1,r2,r3,r4⟩:=aix s M hM t2 many (q.set k 1) step k (by omega) hm hq (fG q k 1) WY;rw [r1];rw [aX.lW];simp only [aX.ur,cv,aj];have ex:zq (.exit 4) (.exit 4)=true:=rfl;have d3:decide ((k:Int) < ((DG.n:Nat):Int))=true:=ay (by omega);rw [ex,d1,d3,ek];simp only [cK,aj];by_cases hb:DG.get k > 10000
    ·rw [ay hb]
     exact .inr ⟨_,_,rfl,rfl,.inr ⟨rfl,rfl,rfl⟩⟩
    ·rw [bo hb]
     have e1:aO ((k:Int)+1)=((k+1:Nat):Int):=by rw [df (by omega) (by omega)]; omega
     rw [e1];refine .inl ⟨_,rfl,by omega,DG,rfl,r2,fun j hj=>?_⟩;by_cases QW:j=k
     ·subst QW; exact ⟨r3,by omega⟩
     ·rw [r4 j QW,eG _ _ QW]; exact hqo j (by omega)
   ·have:k=s.graph.kids.n:=by omega
    subst this;rw [bo bj];exact .inr ⟨_,_,rfl,rfl,.inl ⟨rfl,q,rfl,hq,hqo⟩⟩
   ) (x:=⟨t2,((s.graph.kids.n:Nat):Int),many,step,nx,(0:Int),s⟩) ⟨nx,rfl,hx,fun j hj=>absurd hj (oD j)⟩
 ·rcases h3 with ⟨rfl,DG,rfl,h4⟩ | ⟨rfl,h4⟩
  ·exact .inl ⟨DG,h2,h4⟩
  ·exact .inr ⟨x',h2,h4⟩
def agX (g:b.fA):Prop:=g.kids.n<=300/\∀ t,t<=18->∀ i,i < g.kids.n->Vh g t i<=10000
theorem aiy (s:b.aA):∃ r,b.Cq s=some r/\(r=false->agX s.graph):=by
 unfold b.Cq b.Fe;by_cases hn:((s.graph.kids.n:Nat):Int) > 300
 ·rw [ay hn]; exact ⟨true,rfl,fun h=>by simp at h⟩
 rw [bo hn];have en:Int.toNat ((s.graph.kids.n:Nat):Int)=s.graph.kids.n:=rfl;have d1:decide (((s.graph.kids.n:Nat):Int)<=((s.graph.kids.n:Nat):Int))=true:=ay (Int.le_refl _);have d2:Nat.ble (8 * s.graph.kids.n) 281474976710656=true:=by rw [Nat.ble_eq]; omega
 rw [en,d1,d2];simp only [cK,aj,aI,cv];obtain ⟨e,x',h2,h3⟩:=jD (step:=b.og)
  (fun t x=>∃ q:Sl Int,x=⟨false,((s.graph.kids.n:Nat):Int),q,(t:Int),s⟩/\q.n=s.graph.kids.n/\(∀ j,j < s.graph.kids.n->q.get j=Vh s.graph t j)/\∀ t',t'<=t->∀ j,j < s.graph.kids.n->Vh s.graph t' j<=10000)
  (fun e x'=>(e = .exit 0/\∀ t',t'<=18->∀ j,j < s.graph.kids.n->Vh s.graph t' j<=10000)\/(e = .ret/\x'.t2=true))
  18 (by unfold gK; omega) (by
   rintro t _ ht ⟨q,rfl,hq,hqo,hqb⟩;unfold b.og b.dn
   dsimp only
   have d0:decide ((0:Int)<=((s.graph.kids.n:Nat):Int))=true:=ay (by omega);rw [en,d0,d1,d2];simp only [cK,aj,cv];by_cases bj:(t:Int) < 18
   ·rw [ay bj,aj]
    rcases amP s (Vh s.graph t) (agW s.graph t) (by omega) false q ⟨s.graph.kids.n,fun _=>0⟩ (t:Int) hq rfl hqo with ⟨DG,r1,r2,r3⟩ | ⟨x',r1,r2,r3⟩
    ·rw [r1]
     simp only [aX.ur,aX.lW,cv];have e1:aO ((t:Int)+1)=((t+1:Nat):Int):=by rw [df (by omega) (by omega)]; omega
     rw [e1];refine .inl ⟨_,rfl,by omega,DG,rfl,r2,fun j hj=>(r3 j hj).1,fun t' ht' j hj=>?_⟩;by_cases htt:t' = t+1
     ·subst htt
      have:=r3 j hj;show D4 s.graph (Vh s.graph t) j _<=10000;omega
     ·exact hqb t' (by omega) j hj
    ·rw [r1]
     simp only [aX.ur,aX.lW,cv];exact .inr ⟨_,_,rfl,rfl,.inr ⟨rfl,r2⟩⟩
   ·have:t=18:=by omega
    subst this;rw [bo bj];exact .inr ⟨_,_,rfl,rfl,.inl ⟨rfl,hqb⟩⟩
   ) (x:=⟨false,((s.graph.kids.n:Nat):Int),⟨s.graph.kids.n,fun _=>0⟩,(0:Int),s⟩) ⟨_,rfl,rfl,fun _ _=>rfl,fun t' ht j hj=>by
   have:t' = 0:=by omega
   subst this;show (0:Int)<=10000;omega⟩
 ·rw [h2]
  rcases h3 with ⟨rfl,h3⟩ | ⟨rfl,h3⟩
  ·exact ⟨false,rfl,fun _=>⟨by omega,h3⟩⟩
  ·exact ⟨x'.t2,rfl,fun h=>by rw [h3] at h; simp at h⟩
theorem acy (g:b.fA):∃ r,b.uh g=some r/\(r=false->g.cB.cM.n<=200/\g.kids.n<=200):=by
 unfold b.uh b.Dj;by_cases h1:((g.cB.cM.n:Nat):Int) > 200
 ·rw [ay h1]; exact ⟨true,rfl,fun h=>by simp at h⟩
 rw [bo h1];by_cases h2:((g.kids.n:Nat):Int) > 200
 ·rw [ay h2]; exact ⟨true,rfl,fun h=>by simp at h⟩
 rw [bo h2];simp only [aI];obtain ⟨e,x',q1,q2⟩:=jD (step:=b.mC)
  (fun t x=>∃ m:Int,x=⟨false,m,(t:Int),g⟩)
  (fun e x'=>e = .exit 0\/e = .ret)
  g.kids.n (by unfold gK; omega) (by
   rintro t _ ht ⟨m,rfl⟩;have et:Int.toNat (t:Int)=t:=rfl;have d1:decide ((0:Int)<=(t:Int))=true:=ay (by omega);unfold b.mC
   dsimp only
   rw [et,d1];by_cases bj:(t:Int) < ((g.kids.n:Nat):Int)
   ·rw [ay bj]
    simp only [cK,aj];have e1:aO ((t:Int)+1)=((t+1:Nat):Int):=by rw [df (by omega) (by omega)]; omega
    rw [e1];by_cases hb:aO (m+(((g.kids.get t).n:Nat):Int)) > 400
    ·rw [ay hb]
     exact .inr ⟨_,_,rfl,rfl,.inr rfl⟩
    ·rw [bo hb]
     exact .inl ⟨_,rfl,by omega,_,rfl⟩
   ·rw [bo bj]
    exact .inr ⟨_,_,rfl,rfl,.inl rfl⟩) (x:=⟨false,(0:Int),(0:Int),g⟩) ⟨0,rfl⟩
 rw [q1];rcases q2 with rfl | rfl
 ·exact ⟨false,rfl,fun _=>⟨by omega,by omega⟩⟩
 ·exact ⟨x'.t2,rfl,fun _=>⟨by omega,by omega⟩⟩
theorem acz (l:Sl b.gN):∃ r,b.ui l=some r:=by
 unfold b.ui b.Dk;obtain ⟨e,x',q1,q2⟩:=jD (step:=b.om)
  (fun t x=>∃ m:Int,x=⟨l,false,m,(t:Int)⟩)
  (fun e x'=>e = .exit 0)
  100 (by unfold gK; omega) (by
   rintro t _ ht ⟨m,rfl⟩;have et:Int.toNat (t:Int)=t:=rfl;have d1:decide ((0:Int)<=(t:Int))=true:=ay (by omega);unfold b.om
   dsimp only
   rw [et,d1];by_cases bj:(t:Int) < ((l.n:Nat):Int)
   ·rw [ay bj]
    simp only [cK,aj];by_cases hb:(t:Int) < 100
    ·rw [ay hb]
     have e1:aO ((t:Int)+1)=((t+1:Nat):Int):=by rw [df (by omega) (by omega)]; omega
     rw [e1];exact .inl ⟨_,rfl,by omega,_,rfl⟩
    ·rw [bo hb]
     exact .inr ⟨_,_,rfl,rfl,rfl⟩
   ·rw [bo bj]
    exact .inr ⟨_,_,rfl,rfl,rfl⟩) (x:=⟨l,false,(0:Int),(0:Int)⟩) ⟨0,rfl⟩
 rw [q1];subst q2;rw [aX.lW];simp only [aX.ur];by_cases h:(((x'.l.n:Nat):Int) > 40)
 ·rw [ay h]; exact ⟨true,rfl⟩
 ·rw [bo h]; exact ⟨_,rfl⟩
def agY (m:b.gW):Prop:=m.aC.n<=1000/\m.uV.n<=1000/\m.fY.n<=100/\∀ i,i < m.fY.n->(m.fY.get i).index.n<=1000
theorem RQ (m:b.gW):∃ r,b.wQ m=some r/\(r=false->agY m):=by
 unfold b.wQ b.Dl;by_cases h1:((m.aC.n:Nat):Int) > 1000
 ·rw [ay h1]; exact ⟨true,rfl,fun h=>by simp at h⟩
 rw [bo h1];by_cases h2:((m.uV.n:Nat):Int) > 1000
 ·rw [ay h2]; exact ⟨true,rfl,fun h=>by simp at h⟩
 rw [bo h2];by_cases h3:((m.fY.n:Nat):Int) > 100
 ·rw [ay h3]; exact ⟨true,rfl,fun h=>by simp at h⟩
 rw [bo h3];simp only [aI];have key:=ou (step:=b.iw) m.fY.n (by unfold gK; omega) (fun j=>⟨false,(j:Int),m⟩) (fun k=>(m.fY.get k).index.n<=1000) (e0:=.exit 0) (er:=.ret) rfl rfl (fun x'=>x'.t2=true) (xe:=⟨false,((m.fY.n:Nat):Int),m⟩) (fun j hj=>by
  have e1:aO ((j:Int)+1)=((j+1:Nat):Int):=by rw [df (by omega) (by omega)]; omega
  have d1:decide ((j:Int) < ((m.fY.n:Nat):Int))=true:=ay (by omega);have d2:decide ((0:Int)<=(j:Int))=true:=ay (by omega);have ej:Int.toNat (j:Int)=j:=rfl;unfold b.iw
  dsimp only
  rw [d1,d2,ej,e1];simp only [cK,aj];by_cases h:(((m.fY.get j).index.n:Nat):Int) > 1000
  ·rw [ay h]
   exact ⟨fun k=>by omega,fun _=>⟨_,rfl,rfl⟩⟩
  ·rw [bo h]
   exact ⟨fun _=>rfl,fun k=>by omega⟩) (by
  unfold b.iw
  dsimp only
  rw [bo (Int.lt_irrefl _)];rfl)
 have e0:goN b.iw (⟨false,(0:Int),m⟩:b.nK)=goN b.iw ⟨false,((0:Nat):Int),m⟩:=rfl;rw [e0];rcases key with ⟨k1,k2⟩ | ⟨x',k1,k2,_⟩
 ·rw [k1]; exact ⟨false,rfl,fun _=>⟨by omega,by omega,by omega,k2⟩⟩
 ·rw [k1]; exact ⟨x'.t2,rfl,fun h=>by rw [k2] at h; simp at h⟩
structure Few (s:b.aA):Prop where
 g6:b.uh s.graph=some false
 g9:b.ui s.j3=some false
 ways:agX s.graph
 cM:s.graph.cB.cM.n<=200
 kids:s.graph.kids.n<=200
 nodes:s.nodes.n<=200
 fj:s.fj.n<=60
 j3:s.j3.n<=60
 eI:∀ i,i < s.nodes.n->(s.nodes.get i).eI.n<=200
 fN:∀ i,i < s.fj.n->agY (s.fj.get i)
theorem stepT {p:Prop} {c:Bool} {x:Option Bool} {Q:Prop} (hc:c=true↔p) (h2 : ¬ p->∃ r,x=some r/\(r=false->Q)):∃ r,cond c (some true) x=some r/\(r=false->Q):=by
 cases c with
 | true=>exact ⟨true,rfl,fun k=>by simp at k⟩
 | false=>exact h2 fun k=>by have:=hc.2 k; simp at this
theorem agZ (s:b.aA):∃ r,b.zt s=some r/\(r=false->Few s):=by
 unfold b.zt b.IP b.IQ b.IU b.Dr b.vR;obtain ⟨r1,q1,p1⟩:=aiy s;obtain ⟨r2,q2,p2⟩:=acy s.graph;obtain ⟨r3,q3⟩:=acz s.j3;rw [q1,q2,q3];simp only [gJ,eU,aj];refine stepT Iff.rfl fun k1=>?_;refine stepT Iff.rfl fun k2=>?_;refine stepT Vf fun k3=>?_;refine stepT Vf fun k4=>?_;refine stepT Vf fun k5=>?_;refine stepT Iff.rfl fun k6=>?_;have f6:b.uh s.graph=some false:=by rw [q2]; exact congrArg some (by simpa using k2)
 have f9:b.ui s.j3=some false:=by rw [q3]; exact congrArg some (by simpa using k6)
 have p1:=p1 (by simpa using k1);have p2:=p2 (by simpa using k2);have key:=ou (step:=b.gD) s.nodes.n (by unfold gK; omega) (fun j=>⟨false,(j:Int),s⟩) (fun k=>(s.nodes.get k).eI.n<=200) (e0:=.exit 0) (er:=.ret) rfl rfl (fun x'=>x'.t2=true) (xe:=⟨false,((s.nodes.n:Nat):Int),s⟩) (fun j hj=>by
  have e1:aO ((j:Int)+1)=((j+1:Nat):Int):=by rw [df (by omega) (by omega)]; omega
  have d1:decide ((j:Int) < ((s.nodes.n:Nat):Int))=true:=ay (by omega);have d2:decide ((0:Int)<=(j:Int))=true:=ay (by omega);have ej:Int.toNat (j:Int)=j:=rfl;unfold b.gD
  dsimp only
  rw [d1,d2,ej,e1];simp only [cK,aj];by_cases h:(((s.nodes.get j).eI.n:Nat):Int) > 200
  ·rw [ay h]
   exact ⟨fun k=>by omega,fun _=>⟨_,rfl,rfl⟩⟩
  ·rw [bo h]
   exact ⟨fun _=>rfl,fun k=>by omega⟩) (by
  unfold b.gD
  dsimp only
  rw [bo (Int.lt_irrefl _)];rfl)
 have e0:goN b.gD (⟨false,(0:Int),s⟩:b.lN)=goN b.gD ⟨false,((0:Nat):Int),s⟩:=rfl;rw [e0];rcases key with ⟨g1,g2⟩ | ⟨x',g1,g2,_⟩
 ·rw [g1]
  simp only [aX.lW];have key:=ou (step:=b.gE) s.fj.n (by unfold gK; omega) (fun j=>⟨false,(j:Int),s⟩) (fun k=>b.wQ (s.fj.get k)=some false) (e0:=.exit 2) (er:=.ret) rfl rfl (fun x'=>x'.t2=true) (xe:=⟨false,((s.fj.n:Nat):Int),s⟩) (fun j hj=>by
   have e1:aO ((j:Int)+1)=((j+1:Nat):Int):=by rw [df (by omega) (by omega)]; omega
   have d1:decide ((j:Int) < ((s.fj.n:Nat):Int))=true:=ay (by omega);have d2:decide ((0:Int)<=(j:Int))=true:=ay (by omega);have ej:Int.toNat (j:Int)=j:=rfl;obtain ⟨r,m1,_⟩:=RQ (s.fj.get j);unfold b.gE b.BZ
   dsimp only
   rw [d1,d2,ej,e1,m1];cases r with
   | true=>exact ⟨fun k=>by simp at k,fun _=>⟨_,rfl,rfl⟩⟩
   | false=>exact ⟨fun _=>rfl,fun k=>absurd rfl k⟩) (by
   unfold b.gE
   dsimp only
   rw [bo (Int.lt_irrefl _)];rfl)
  have e0:goN b.gE (⟨false,(0:Int),s⟩:b.j4)=goN b.gE ⟨false,((0:Nat):Int),s⟩:=rfl;rw [e0];rcases key with ⟨f1,f2⟩ | ⟨x',f1,f2,_⟩
  ·rw [f1]
   refine ⟨false,rfl,fun _=>⟨f6,f9,p1,p2.1,p2.2,by omega,by omega,by omega,g2,fun i hi=>?_⟩⟩;obtain ⟨r,m1,m2⟩:=RQ (s.fj.get i);rw [f2 i hi] at m1;exact m2 (GX m1).symm
  ·rw [f1]; exact ⟨x'.t2,rfl,fun h=>by rw [f2] at h; simp at h⟩
 ·rw [g1]; exact ⟨x'.t2,rfl,fun h=>by rw [g2] at h; simp at h⟩
theorem ag0 (a c:b.Handle):((a.slot==c.slot)&&((a.gen==c.gen)&&true))=true↔a=c:=by
 obtain ⟨a0,a1⟩:=a;obtain ⟨c0,c1⟩:=c;simp
def Vi (s:b.aA) (kids:Sl Int):Nat->b.Handle
 | 0=>s.root
 | j+1=>(s.graph.kids.get (Vi s kids j).slot.toNat).get (kids.get j).toNat
def Zl (s:b.aA) (kids:Sl Int) (j:Nat):Prop:=0<=kids.get j/\kids.get j < ((s.graph.kids.get (Vi s kids j).slot.toNat).n:Int)
def amQ (s:b.aA) (kids:Sl Int):Prop:=∀ j,j < kids.n->Zl s kids j
def Zm (s:b.aA) (kids:Sl Int) (l:Sl b.Handle):Prop:=l.n=kids.n+1/\∀ i,i<=kids.n->l.get i=Vi s kids i
theorem WZ {s:b.aA} (hs:o3 s) {h:b.Handle} (hh:mz s.graph.cB h) {k:Nat} (hk:k < (s.graph.kids.get h.slot.toNat).n):mz s.graph.cB ((s.graph.kids.get h.slot.toNat).get k):=by
 have hg:=(HO s.graph).1 hs.1;refine (hg.2.2.1 h.slot.toNat ?_).2.2 k hk;have:=hh.1;have:=hh.2.1;have:=hg.2.1;omega
theorem abI {s:b.aA} (hs:o3 s) (hr:s.root≠DF) (kids:Sl Int):∀ j,(∀ i,i < j->Zl s kids i)->mz s.graph.cB (Vi s kids j)
 | 0,_=>by
  rcases hs.2.2.2.2 with h | h
  ·exact absurd h hr
  ·exact h
 | j+1,h=>by
  have h1:=abI hs hr kids j fun i hi=>h i (by omega);have h2:=h j (by omega);exact WZ hs h1 (by have:=h2.1; have:=h2.2; omega)
theorem Ml {s:b.aA} (hs:o3 s) {h:b.Handle} (hh:mz s.graph.cB h):0<=h.slot/\h.slot < (s.graph.kids.n:Int)/\h.slot < (s.nodes.n:Int):=by
 have hg:=(HO s.graph).1 hs.1;have:=hh.1;have:=hh.2.1;have:=hg.2.1;have:=hs.2.1;omega
def abJ (s:b.aA) (p:b.Path):Prop:=o3 s/\s.root≠DF/\amQ s p.kids/\Zm s p.kids p.nodes
def U16 (n:Int):Prop:=0<=n/\n<=65535
theorem anM {n:Int} (h:U16 n):w16 n=n:=by
 obtain ⟨h1,h2⟩:=h;show IntKind.wrap .u16 n=n;unfold IntKind.wrap;have hb:(2 ^ IntKind.u16.bits:Int)=65536:=rfl;have hs:IntKind.u16.signed=false:=rfl;simp only [hb,hs,Bool.false_and];rw [aa (by simp)];omega
theorem aql {n:Int} (h:U16 n):((Fo IntKind.u16 n (1:Int):Nat):Int)=n % 2:=by
 obtain ⟨h1,h2⟩:=h;obtain ⟨m,rfl⟩:=Int.eq_ofNat_of_zero_le h1;unfold Fo;show (((BitVec.ofInt 16 (m:Int) &&& BitVec.ofInt 16 1).toNat:Nat):Int)=(m:Int) % 2;rw [BitVec.toNat_and,BitVec.toNat_ofInt];have e1:(BitVec.ofInt 16 1).toNat=1:=rfl;rw [e1,Nat.and_one_is_mod];omega
def W0 (on k:Int):Prop:=on / 2 ^ k.toNat % 2=1
theorem amR {on:Int} (h:U16 on) (k:Nat):U16 (on / 2 ^ k):=by
 obtain ⟨h1,h2⟩:=h;have hp:(0:Int) < 2 ^ k:=Int.pow_pos (by omega);refine ⟨Int.ediv_nonneg h1 (Int.le_of_lt hp),?_⟩;exact Int.le_trans (Int.ediv_le_self _ h1) h2
theorem ag1 {on:Int} (h:U16 on) {k:Nat} (hk:16<=k):on / 2 ^ k=0:=by
 obtain ⟨h1,h2⟩:=h;apply Int.ediv_eq_zero_of_lt h1;have:(2:Int) ^ 16<=2 ^ k:=by
  have:=Nat.pow_le_pow_right (show 0 < 2 by omega) hk
  exact_mod_cast this
 have e:(2:Int) ^ 16=65536:=by decide
 omega
theorem ag2 {on k:Int} (h:U16 on):(w16 ((Fo IntKind.u16 (Int.fdiv on ((2:Int) ^ (min (Int.toNat k) 16))) (1:Int):Nat):Int)==(0:Int))=true↔¬ W0 on k:=by
 have e:Int.fdiv on ((2:Int) ^ (min (Int.toNat k) 16))=on / 2 ^ (min (Int.toNat k) 16):=Int.fdiv_eq_ediv_of_nonneg _ (Int.le_of_lt (Int.pow_pos (by omega)));have hu:=amR h (min (Int.toNat k) 16);rw [e,aql hu,anM ⟨by omega,by omega⟩,Bc];unfold W0;by_cases hk:k.toNat<=16
 ·rw [Nat.min_eq_left hk]; omega
 ·rw [Nat.min_eq_right (by omega),ag1 h (by omega),ag1 h (by omega)]; omega
def nodeAt (s:b.aA) (p:b.Path) (j:Nat):b.Node:=s.nodes.get (p.nodes.get j).slot.toNat
def aj1 (s:b.aA):Prop:=∀ i,i < s.nodes.n->U16 (s.nodes.get i).rM
theorem Yk {s:b.aA} {p:b.Path} (h:abJ s p) {j:Nat} (hj:j<=p.kids.n):mz s.graph.cB (p.nodes.get j):=by
 rw [h.2.2.2.2 j hj];exact abI h.1 h.2.1 p.kids j fun i hi=>h.2.2.1 i (by omega)
theorem PX {s:b.aA} {p:b.Path} (h:abJ s p) {j:Nat} (hj:j<=p.kids.n):0<=(p.nodes.get j).slot/\(p.nodes.get j).slot < (s.nodes.n:Int):=by
 have:=Ml h.1 (Yk h hj);exact ⟨this.1,this.2.2⟩
theorem NC {s:b.aA} {p:b.Path} (h:abJ s p) {j:Nat} (hj:j < p.kids.n):0<=p.kids.get j/\p.kids.get j < 16:=by
 have hg:=(HO s.graph).1 h.1.1;have hh:=abI h.1 h.2.1 p.kids j fun i hi=>h.2.2.1 i (by omega);have hs:=Ml h.1 hh;have hr:=(hg.2.2.1 (Vi s p.kids j).slot.toNat (by omega)).1;have:=h.2.2.1 j hj;exact ⟨this.1,by have:=this.2; omega⟩
def unit:b.iu:=⟨⟨⟨256,0,0⟩,⟨0,256,0⟩,⟨0,0,256⟩⟩,⟨0,0,0⟩⟩
end Go.Proofs.Ytckbdndhmcoihaa.sc
end
section
namespace Go.Proofs.Ytckbdndhmcoihaa.b
open Go.K
noncomputable section
theorem Yl (s:Sl Path) (v:Path):s.push v=au (fun e=>EH (ij Try.prog (cg Try.prog 5) 50 e)) (s.n+1) (aw s.n (fun i=>Gt (s.get i)) (cZ [Gt v])):=(fP (p:=fun e=>EH (ij Try.prog (cg Try.prog 5) 50 e)) (fun x=>by kernel_rfl) (by kernel_rfl) s v).symm
def Jg (m:iu) (v:dI):=jT m
def Jh (m:iu) (v:dI):=qZ v
def DH (m:iu) (v:dI):=w5 m v
def DI (m:iu) (v:dI):=qZ ((DH m v).getD default)
def uu (m:iu) (v:dI):Option (dI×Int):=(cond (Jg m v).isSome (cond (((Jg m v).getD default) != 0) (some (⟨0,0,0⟩,20)) (cond (Jh m v).isSome (cond (((Jh m v).getD default) != 0) (some (⟨0,0,0⟩,20)) (cond (DH m v).isSome (cond (DI m v).isSome (cond (((DI m v).getD default) != 0) (some (⟨0,0,0⟩,((DI m v).getD default))) (some (((DH m v).getD default),0))) none) none)) none)) none)
theorem abK (m:iu) (v:dI):rE [(29,Nv),(14,Hs),(28,Bw)] [] 13 [yv m,np v] = (uu m v).map (fun (r:dI×Int)=>KV.ma [np r.1,(kI .i64) r.2]):=by
 unfold uu
 try simp only [b6]
 kernel_rfl
def Hv:List KV->KR KV:=bR PG 13 (b8 (fun (r:dI×Int)=>KV.ma [np r.1,(kI .i64) r.2]) fun vs=>uu (rq (v9 vs 0)) (jV (v9 vs 1)))
theorem Gu:bQ PG 13 Hv:=dU (ak.cons N9 (ak.cons Gk (ak.cons B7 ak.nil))) bm.nil fun w=>abK (rq (g0 54 (w 0))) (jV (g0 36 (w 1)))
def DJ (m:gW):=uI m
def Ji (m:gW):=wR m
def zU (m:gW):Option ((Sl dm)×Int):=(cond (DJ m).isSome (cond (((DJ m).getD default) != 0) (some (⟨0,(fun i=>⟨0,0,0⟩)⟩,((DJ m).getD default))) (cond (Ji m).isSome (some (((Ji m).getD default).fst,0)) none)) none)
theorem abL (m:gW):rE [(58,Dx),(41,xX)] [] 37 [uH m] = (zU m).map (fun (r:(Sl dm)×Int)=>KV.ma [(dL 51 eP) r.1,(kI .i64) r.2]):=by
 unfold zU
 try simp only [b6]
 kernel_rfl
def Hw:List KV->KR KV:=bR PG 37 (b8 (fun (r:(Sl dm)×Int)=>KV.ma [(dL 51 eP) r.1,(kI .i64) r.2]) fun vs=>zU (kQ (v9 vs 0)))
theorem Gv:bQ PG 37 Hw:=dU (ak.cons Bt (ak.cons vW ak.nil)) bm.nil fun w=>abL (kQ (g0 79 (w 0)))
def BA  : Option (cR):=(some ((⟨(⟨(⟨(255:Int),(255:Int),(255:Int),(255:Int)⟩:Color),(-(1:Int)),(0:Int),(0:Int),false,(0:Int)⟩:kd),(⟨false,false,false,false,false⟩:rO)⟩:cR)))
theorem Vj  : rE [] [] 59 [] = (BA ).map jC:=by
 unfold BA
 kernel_rfl
def Gw:List KV->KR KV:=bR PG 59 (b8 jC fun vs=>BA )
theorem Jj:bQ PG 59 Gw:=dU ak.nil bm.nil fun w=>Vj
structure gF where
 t3:Int
 t13:(Sl dt)
 t14:Int
 t15:Int
 t2:kd
 i:cR
instance:Inhabited gF:=⟨by constructor<;>exact default⟩
def yY (x:gF):List KV:=[.int .i64 x.t3,dL 62 oI x.t13,.int .i64 x.t14,.int .i64 x.t15]
def yZ (x:gF):List (List KV):=[aic x.t2,QM x.i]
def FL (vs:List KV) (rs:List (List KV)):gF:=⟨av (v9 vs 0),eX iv (v9 vs 1),av (v9 vs 2),av (v9 vs 3),aid (r9 rs 0),QN (r9 rs 1)⟩
def GL:aJ:=⟨[(3,w9 i9),(13,w9 (n9 62)),(14,w9 i9),(15,w9 i9)],[(2,[u9,u9,u9,u9,i9,u9,i9,b9,i9],1),(4,[u9,u9,u9,u9,i9,u9,i9,b9,i9,b9,b9,b9,b9,b9],1)],[(2,0,0),(4,1,0)]⟩
def PY:=BU [(61,Gh),(60,Br),(59,Gw)] [] 38 122 GL
def rY (x:gF):=qA (x.t13.get (Int.toNat x.t15))
def yk (x:gF):=tH x.i (x.t13.get (Int.toNat x.t15))
def iy (x:gF):aX gF:=(cond (decide (x.t15 < x.t14)) (cond ((decide (0<=x.t15))&&(decide (x.t15 < (x.t13.n:Int)))) (cond (rY x).isSome (cond (((rY x).getD default) != 0) (.out aG.ah.ret ⟨((rY x).getD default),x.t13,x.t14,x.t15,⟨⟨0,0,0,0⟩,0,0,0,false,0⟩,x.i⟩) (cond (yk x).isSome (.next ⟨x.t3,x.t13,x.t14,(aO (x.t15+1)),x.t2,((yk x).getD default)⟩) .fail)) .fail) .fail) (.out (aG.ah.exit 0) x))
theorem ND (x:gF):PY (yY x) (yZ x)=aX.enc yY yZ (iy x):=by
 unfold iy
 try simp only [aX.cD]
 kernel_rfl
def GM:Lp:=⟨38,122,GL,fun vs rs=>dR yY yZ (goN iy (FL vs rs)) [aG.ah.exit 0,aG.ah.ret],false⟩
theorem PZ:GM.Ok PG:=CA (ak.cons I0 (ak.cons B4 (ak.cons Jj ak.nil))) bm.nil (pa:=FL) ND
def DK (l:(Sl dt)):=BA
def jr (l:(Sl dt)):=goN iy ⟨0,l,(l.n:Int),0,⟨⟨0,0,0,0⟩,0,0,0,false,0⟩,((DK l).getD default)⟩
def tJ (l:(Sl dt)):Option (kd×Int):=(cond (decide ((l.n:Int) > 128)) (some (⟨⟨0,0,0,0⟩,0,0,0,false,0⟩,4)) (cond (DK l).isSome (cond ((jr l).by (aG.ah.exit 0)) (some ((jr l).st.i.look,0)) (cond ((jr l).by aG.ah.ret) (some ((jr l).st.t2,(jr l).st.t3)) none)) none))
theorem Vk (l:(Sl dt)):rE [(61,Gh),(60,Br),(59,Gw)] [GM] 38 [(dL 62 oI) l] = (tJ l).map (fun (r:kd×Int)=>KV.ma [ya r.1,(kI .i64) r.2]):=by
 unfold tJ
 try simp only [b6]
 kernel_rfl
def BB:List KV->KR KV:=bR PG 38 (b8 (fun (r:kd×Int)=>KV.ma [ya r.1,(kI .i64) r.2]) fun vs=>tJ ((eX iv) (v9 vs 0)))
theorem Cb:bQ PG 38 BB:=dU (ak.cons I0 (ak.cons B4 (ak.cons Jj ak.nil))) (r7 PZ bm.nil) fun w=>Vk ((eX iv) (g0 121 (w 0)))
def Ct (n:Int):Option (Bool):=(cond (decide (n >= (-(32768:Int)))) (some ((decide (n<=32768)))) (some (false)))
theorem ag3 (n:Int):rE [] [] 62 [(kI .i64) n] = (Ct n).map kB:=by
 unfold Ct
 try simp only [b6]
 kernel_rfl
def QQ:List KV->KR KV:=bR PG 62 (b8 kB fun vs=>Ct (av (v9 vs 0)))
theorem NF:bQ PG 62 QQ:=dU ak.nil bm.nil fun w=>ag3 (av (g0 3 (w 0)))
structure DL where
 low:dI
 high:dI
instance:Inhabited DL:=⟨⟨default,default⟩⟩
def amS (x:DL):List KV:=[.int .i64 x.low.x,.int .i64 x.low.y,.int .i64 x.low.z,.int .i64 x.high.x,.int .i64 x.high.y,.int .i64 x.high.z]
def H8 (x:DL):KV:=.agg (amS x)
def amT (c:Nat->KV):DL:=⟨⟨av (c 0),av (c 1),av (c 2)⟩,⟨av (c 3),av (c 4),av (c 5)⟩⟩
def adu (v:KV):DL:=amT fun k=>v.cells.getD k .bf
structure Span where
 low:Int
 high:Int
instance:Inhabited Span:=⟨⟨default,default⟩⟩
structure FM where
 e0:Span
 e1:Span
 e2:Span
instance:Inhabited FM:=⟨⟨default,default,default⟩⟩
def ak4 (x:FM):List KV:=[.int .i64 x.e0.low,.int .i64 x.e0.high,.int .i64 x.e1.low,.int .i64 x.e1.high,.int .i64 x.e2.low,.int .i64 x.e2.high]
def W6 (x:FM):KV:=.agg (ak4 x)
def ak5 (c:Nat->KV):FM:=⟨⟨av (c 0),av (c 1)⟩,⟨av (c 2),av (c 3)⟩,⟨av (c 4),av (c 5)⟩⟩
def adv (v:KV):FM:=ak5 fun k=>v.cells.getD k .bf
def DM (b:DL):Option (FM):=(some (⟨⟨b.low.x,b.high.x⟩,⟨b.low.y,b.high.y⟩,⟨b.low.z,b.high.z⟩⟩))
theorem abM (b:DL):rE [] [] 57 [H8 b] = (DM b).map W6:=by
 unfold DM
 kernel_rfl
def Vl:List KV->KR KV:=bR PG 57 (b8 W6 fun vs=>DM (adu (v9 vs 0)))
theorem YH:bQ PG 57 Vl:=dU ak.nil bm.nil fun w=>abM (adu (g0 70 (w 0)))
def Hx (s:FM):Option (DL):=(some (⟨⟨s.e0.low,s.e1.low,s.e2.low⟩,⟨s.e0.high,s.e1.high,s.e2.high⟩⟩))
theorem abN (s:FM):rE [] [] 86 [W6 s] = (Hx s).map H8:=by
 unfold Hx
 kernel_rfl
def Vm:List KV->KR KV:=bR PG 86 (b8 H8 fun vs=>Hx (adv (v9 vs 0)))
theorem YI:bQ PG 86 Vm:=dU ak.nil bm.nil fun w=>abN (adv (g0 152 (w 0)))
def uK (a:DL) (b:DL):=DM a
def uL (a:DL) (b:DL):=DM b
def RR (a:DL) (b:DL):=Hx ⟨⟨(min ((uK a b).getD default).e0.low ((uL a b).getD default).e0.low),(max ((uK a b).getD default).e0.high ((uL a b).getD default).e0.high)⟩,⟨(min ((uK a b).getD default).e1.low ((uL a b).getD default).e1.low),(max ((uK a b).getD default).e1.high ((uL a b).getD default).e1.high)⟩,⟨(min ((uK a b).getD default).e2.low ((uL a b).getD default).e2.low),(max ((uK a b).getD default).e2.high ((uL a b).getD default).e2.high)⟩⟩
def FN (a:DL) (b:DL):Option (DL):=(cond (uK a b).isSome (cond (uL a b).isSome (cond (RR a b).isSome (some (((RR a b).getD default))) none) none) none)
theorem acA (a:DL) (b:DL):rE [(86,Vm),(57,Vl)] [] 63 [H8 a,H8 b] = (FN a b).map H8:=by
 unfold FN
 try simp only [b6]
 kernel_rfl
def Kj:List KV->KR KV:=bR PG 63 (b8 H8 fun vs=>FN (adu (v9 vs 0)) (adu (v9 vs 1)))
theorem Jk:bQ PG 63 Kj:=dU (ak.cons YI (ak.cons YH ak.nil)) bm.nil fun w=>acA (adu (g0 70 (w 0))) (adu (g0 70 (w 1)))
structure ly where
 l:(Sl dI)
 e:Int
 t17:(Sl dI)
 t18:Int
 t19:Int
 b:DL
instance:Inhabited ly:=⟨by constructor<;>exact default⟩
def Le (x:ly):List KV:=[dL 36 np x.l,.int .i64 x.e,dL 36 np x.t17,.int .i64 x.t18,.int .i64 x.t19]
def Lf (x:ly):List (List KV):=[amS x.b]
def RS (vs:List KV) (rs:List (List KV)):ly:=⟨eX jV (v9 vs 0),av (v9 vs 1),eX jV (v9 vs 2),av (v9 vs 3),av (v9 vs 4),amT (r9 rs 0)⟩
def Vn:aJ:=⟨[(0,w9 (n9 36)),(3,w9 i9),(17,w9 (n9 36)),(18,w9 i9),(19,w9 i9)],[(2,[i9,i9,i9,i9,i9,i9],1)],[(2,0,0)]⟩
def acB:=BU [(63,Kj),(62,QQ)] [] 39 58 Vn
def Jl (x:ly):=Ct (x.t17.get (Int.toNat x.t19)).x
def Jm (x:ly):=Ct (x.t17.get (Int.toNat x.t19)).y
def Jn (x:ly):=Ct (x.t17.get (Int.toNat x.t19)).z
def rP (x:ly):aX ly:=(.out aG.ah.ret ⟨x.l,20,x.t17,x.t18,x.t19,⟨⟨0,0,0⟩,⟨0,0,0⟩⟩⟩)
def lz (x:ly):aX ly:=(cond (decide (x.t19 < x.t18)) (cond ((decide (0<=x.t19))&&(decide (x.t19 < (x.t17.n:Int)))) (cond (Jl x).isSome (cond (!((Jl x).getD default))
   (rP x) (cond (Jm x).isSome (cond (!((Jm x).getD default))
    (rP x) (cond (Jn x).isSome (cond (!((Jn x).getD default))
     (rP x) (.next ⟨x.l,x.e,x.t17,x.t18,(aO (x.t19+1)),x.b⟩)) .fail)) .fail)) .fail) .fail) (.out (aG.ah.exit 0) x))
theorem YJ (x:ly):acB (Le x) (Lf x)=aX.enc Le Lf (lz x):=by
 unfold lz rP
 try simp only [aX.cD]
 kernel_rfl
def NG:Lp:=⟨39,58,Vn,fun vs rs=>dR Le Lf (goN lz (RS vs rs)) [aG.ah.exit 0,aG.ah.ret],false⟩
theorem RT:NG.Ok PG:=CA (ak.cons Jk (ak.cons NF ak.nil)) bm.nil (pa:=RS) YJ
structure rB where
 e:Int
 t49:(Sl dI)
 t50:Int
 t51:Int
 b:DL
instance:Inhabited rB:=⟨⟨default,default,default,default,default⟩⟩
def Jo (x:rB):List KV:=[.int .i64 x.e,dL 36 np x.t49,.int .i64 x.t50,.int .i64 x.t51]
def Jp (x:rB):List (List KV):=[amS x.b]
def P0 (vs:List KV) (rs:List (List KV)):rB:=⟨av (v9 vs 0),eX jV (v9 vs 1),av (v9 vs 2),av (v9 vs 3),amT (r9 rs 0)⟩
def RU:aJ:=⟨[(3,w9 i9),(49,w9 (n9 36)),(50,w9 i9),(51,w9 i9)],[(2,[i9,i9,i9,i9,i9,i9],1)],[(2,0,0)]⟩
def abO:=BU [(63,Kj),(62,QQ)] [NG] 39 250 RU
def Gx (x:rB):=FN x.b ⟨(x.t49.get (Int.toNat x.t51)),(x.t49.get (Int.toNat x.t51))⟩
def lQ (x:rB):aX rB:=(cond (decide (x.t51 < x.t50)) (cond ((decide (0<=x.t51))&&(decide (x.t51 < (x.t49.n:Int)))) (cond (Gx x).isSome (.next ⟨x.e,x.t49,x.t50,(aO (x.t51+1)),((Gx x).getD default)⟩) .fail) .fail) (.out (aG.ah.exit 2) x))
theorem W7 (x:rB):abO (Jo x) (Jp x)=aX.enc Jo Jp (lQ x):=by
 unfold lQ
 try simp only [aX.cD]
 kernel_rfl
def RV:Lp:=⟨39,250,RU,fun vs rs=>dR Jo Jp (goN lQ (P0 vs rs)) [aG.ah.exit 2],false⟩
theorem abP:RV.Ok PG:=CA (ak.cons Jk (ak.cons NF ak.nil)) (r7 RT bm.nil) (pa:=P0) W7
def hX (l:(Sl dI)):=goN lz ⟨l,0,l,(l.n:Int),0,⟨⟨0,0,0⟩,⟨0,0,0⟩⟩⟩
def Kk (l:(Sl dI)):=goN lQ ⟨(hX l).st.e,⟨((Int.toNat ((hX l).st.l.n:Int)) - 1),(fun i=>((hX l).st.l.get (1+i)))⟩,((((Int.toNat ((hX l).st.l.n:Int)) - 1):Nat):Int),0,⟨((hX l).st.l.get 0),((hX l).st.l.get 0)⟩⟩
def Hy (l:(Sl dI)):Option (DL×Int):=(some (⟨⟨0,0,0⟩,⟨0,0,0⟩⟩,4))
def HP (l:(Sl dI)):Option (DL×Int):=(cond ((l.n:Int)==0)
  (Hy l) (cond (decide ((l.n:Int) > 4096))
  (Hy l) (cond ((hX l).by (aG.ah.exit 0)) (cond (decide (0 < ((hX l).st.l.n:Int))) (cond (decide (0 < ((hX l).st.l.n:Int))) (cond ((decide (1<=((hX l).st.l.n:Int)))&&(decide (((hX l).st.l.n:Int)<=((hX l).st.l.n:Int)))) (cond ((Kk l).by (aG.ah.exit 2)) (some ((Kk l).st.b,0)) none) none) none) none) (cond ((hX l).by aG.ah.ret) (some ((hX l).st.b,(hX l).st.e)) none))))
theorem ag4 (l:(Sl dI)):rE [(63,Kj),(62,QQ)] [NG,RV] 39 [(dL 36 np) l] = (HP l).map (fun (r:DL×Int)=>KV.ma [H8 r.1,(kI .i64) r.2]):=by
 unfold HP Hy
 try simp only [b6]
 kernel_rfl
def QR:List KV->KR KV:=bR PG 39 (b8 (fun (r:DL×Int)=>KV.ma [H8 r.1,(kI .i64) r.2]) fun vs=>HP ((eX jV) (v9 vs 0)))
theorem NH:bQ PG 39 QR:=dU (ak.cons Jk (ak.cons NF ak.nil)) (r7 RT (r7 abP bm.nil)) fun w=>ag4 ((eX jV) (g0 66 (w 0)))
structure Item where
 aC:(Sl dI)
 uV:(Sl kz)
 abQ:(Sl dm)
 look:kd
 box:DL
instance:Inhabited Item:=⟨⟨default,default,default,default,default⟩⟩
structure Gate where
 cN:dI
 from_:Int
 to_:Int
instance:Inhabited Gate:=⟨⟨default,default,default⟩⟩
def apa (x:Gate):List KV:=[.int .i64 x.cN.x,.int .i64 x.cN.y,.int .i64 x.cN.z,.int .i64 x.from_,.int .i64 x.to_]
def abR (x:Gate):KV:=.agg (apa x)
def apb (c:Nat->KV):Gate:=⟨⟨av (c 0),av (c 1),av (c 2)⟩,av (c 3),av (c 4)⟩
def W8 (v:KV):Gate:=apb fun k=>v.cells.getD k .bf
theorem amU (x:Gate):W8 (abR x)=x:=rfl
theorem amV:W8 .bf=default:=rfl
theorem aiz (s:Sl Gate) (v:Gate):s.push v=au W8 (s.n+1) (aw s.n (fun i=>abR (s.get i)) (cZ [abR v])):=(fP amU amV s v).symm
structure Place where
 item:Item
 rM:Bool
 ao:(Sl Gate)
instance:Inhabited Place:=⟨⟨default,default,default⟩⟩
def QS (x:Place):List KV:=[dL 36 np x.item.aC,dL 125 jo x.item.uV,dL 51 eP x.item.abQ,.int .u8 x.item.look.color.e0,.int .u8 x.item.look.color.e1,.int .u8 x.item.look.color.e2,.int .u8 x.item.look.color.e3,.int .i64 x.item.look.dJ,.int .u8 x.item.look.oY,.int .i64 x.item.look.nW,.bool x.item.look.kr,.int .i64 x.item.look.bin,.int .i64 x.item.box.low.x,.int .i64 x.item.box.low.y,.int .i64 x.item.box.low.z,.int .i64 x.item.box.high.x,.int .i64 x.item.box.high.y,.int .i64 x.item.box.high.z,.bool x.rM,dL 87 abR x.ao]
def DN (x:Place):KV:=.agg (QS x)
def QT (c:Nat->KV):Place:=⟨⟨eX jV (c 0),eX fB (c 1),eX fc (c 2),⟨⟨av (c 3),av (c 4),av (c 5),av (c 6)⟩,av (c 7),av (c 8),av (c 9),fh (c 10),av (c 11)⟩,⟨⟨av (c 12),av (c 13),av (c 14)⟩,⟨av (c 15),av (c 16),av (c 17)⟩⟩⟩,fh (c 18),eX W8 (c 19)⟩
def Kl (v:KV):Place:=QT fun k=>v.cells.getD k .bf
structure cT where
 t5:Int
 aW:(Sl dt)
 t20:(Sl Handle)
 t21:Int
 t22:Int
 s:aA
 p:Path
 t4:Place
 w:A9
 out:Place
 n:Node
instance:Inhabited cT:=⟨by constructor<;>exact default⟩
def Ap (x:cT):List KV:=[.int .i64 x.t5,dL 62 oI x.aW,dL 32 gM x.t20,.int .i64 x.t21,.int .i64 x.t22]
def Aq (x:cT):List (List KV):=[Bp x.s,WR x.p,QS x.t4,PS x.w,QS x.out,amA x.n]
def GN (vs:List KV) (rs:List (List KV)):cT:=⟨av (v9 vs 0),eX iv (v9 vs 1),eX fK (v9 vs 2),av (v9 vs 3),av (v9 vs 4),Bq (r9 rs 0),WS (r9 rs 1),QT (r9 rs 2),PT (r9 rs 3),QT (r9 rs 4),amB (r9 rs 5)⟩
def Jq:aJ:=⟨[(5,w9 i9),(9,⟨false,[.aP 62]⟩),(20,w9 (n9 32)),(21,w9 i9),(22,w9 i9)],[(2,[n9 139,n9 47,n9 64,n9 79,n9 118,i9,i9],1),(3,[n9 32,n9 3],1),(4,[.aP 36,n9 125,n9 51,u9,u9,u9,u9,i9,u9,i9,b9,i9,i9,i9,i9,i9,i9,i9,b9,.aP 87],1),(6,[i9,i9,i9,i9,i9,i9,i9,i9,i9,i9,i9,i9,i9],1),(7,[.aP 36,n9 125,n9 51,u9,u9,u9,u9,i9,u9,i9,b9,i9,i9,i9,i9,i9,i9,i9,b9,.aP 87],1),(8,[u9,i9,i9,i9,i9,i9,i9,i9,i9,i9,i9,i9,i9,.k (.int .u16),i9,i9,i9,n9 3,i9,u9,u9,u9,u9,u9,u9,u9,u9,u9,i9,u9,i9,b9,i9],1)],[(2,0,0),(3,1,0),(4,2,0),(6,3,0),(7,4,0),(8,5,0)]⟩
def Rd:=BU [(39,QR),(38,BB),(37,Hw),(36,w4),(13,Hv),(52,Ny),(26,Kf)] [] 21 506 Jq
def aZ (x:cT):=EI x.w.m (x.s.nodes.get (Int.toNat (x.t20.get (Int.toNat x.t22)).slot)).nX
def cU (x:cT):=uu ((aZ x).getD default).fst (x.s.nodes.get (Int.toNat (x.t20.get (Int.toNat x.t22)).slot)).cN
def cV (x:cT):=uu x.w.m (x.s.nodes.get (Int.toNat (x.t20.get (Int.toNat x.t22)).slot)).cN
def oJ (x:cT):aX cT:=(cond ((x.s.nodes.get (Int.toNat (x.t20.get (Int.toNat x.t22)).slot)).kind==4) (cond ((decide (0<=x.t22))&&(decide (x.t22 < (x.p.kids.n:Int)))) (cond (((aZ x).getD default).snd != 0) (cond (decide ((x.p.kids.get (Int.toNat x.t22)) < ((x.s.nodes.get (Int.toNat (x.t20.get (Int.toNat x.t22)).slot)).eI.n:Int))) (cond ((decide (0<=(x.p.kids.get (Int.toNat x.t22))))&&(decide ((x.p.kids.get (Int.toNat x.t22)) < ((x.s.nodes.get (Int.toNat (x.t20.get (Int.toNat x.t22)).slot)).eI.n:Int)))) (cond (decide ((x.p.kids.get (Int.toNat x.t22)) > 0)) (cond ((decide (0<=(aO ((x.p.kids.get (Int.toNat x.t22)) - 1))))&&(decide ((aO ((x.p.kids.get (Int.toNat x.t22)) - 1)) < ((x.s.nodes.get (Int.toNat (x.t20.get (Int.toNat x.t22)).slot)).eI.n:Int)))) (cond ((ai x.out.ao.n x.out.ao.n)&&(dT 40 x.out.ao.n 1)) (cond (cond (cond (cond (cond (ai (x.out.ao.n+1) (x.out.ao.n+1)) (ai x.out.item.aC.n x.out.item.aC.n) false) (ai x.t4.ao.n x.t4.ao.n) false) (ai x.t4.item.aC.n x.t4.item.aC.n) false) (ai (x.aW.n+1) (x.aW.n+1)) false) (.next ⟨x.t5,(x.aW.push (x.s.nodes.get (Int.toNat (x.t20.get (Int.toNat x.t22)).slot)).bD),x.t20,x.t21,(aO (x.t22+1)),x.s,x.p,x.t4,⟨((aZ x).getD default).fst,((aZ x).getD default).snd⟩,⟨x.out.item,x.out.rM,(x.out.ao.push ⟨⟨0,0,0⟩,((x.s.nodes.get (Int.toNat (x.t20.get (Int.toNat x.t22)).slot)).eI.get (Int.toNat (aO ((x.p.kids.get (Int.toNat x.t22)) - 1)))),((x.s.nodes.get (Int.toNat (x.t20.get (Int.toNat x.t22)).slot)).eI.get (Int.toNat (x.p.kids.get (Int.toNat x.t22))))⟩)⟩,(x.s.nodes.get (Int.toNat (x.t20.get (Int.toNat x.t22)).slot))⟩) .fail) .fail) .fail) (cond ((ai x.out.ao.n x.out.ao.n)&&(dT 40 x.out.ao.n 1)) (cond (cond (cond (cond (cond (ai (x.out.ao.n+1) (x.out.ao.n+1)) (ai x.out.item.aC.n x.out.item.aC.n) false) (ai x.t4.ao.n x.t4.ao.n) false) (ai x.t4.item.aC.n x.t4.item.aC.n) false) (ai (x.aW.n+1) (x.aW.n+1)) false) (.next ⟨x.t5,(x.aW.push (x.s.nodes.get (Int.toNat (x.t20.get (Int.toNat x.t22)).slot)).bD),x.t20,x.t21,(aO (x.t22+1)),x.s,x.p,x.t4,⟨((aZ x).getD default).fst,((aZ x).getD default).snd⟩,⟨x.out.item,x.out.rM,(x.out.ao.push ⟨⟨0,0,0⟩,0,((x.s.nodes.get (Int.toNat (x.t20.get (Int.toNat x.t22)).slot)).eI.get (Int.toNat (x.p.kids.get (Int.toNat x.t22))))⟩)⟩,(x.s.nodes.get (Int.toNat (x.t20.get (Int.toNat x.t22)).slot))⟩) .fail) .fail)) .fail) (cond ((ai x.out.ao.n x.out.ao.n)&&(dT 40 x.out.ao.n 1)) (cond (cond (cond (cond (cond (ai (x.out.ao.n+1) (x.out.ao.n+1)) (ai x.out.item.aC.n x.out.item.aC.n) false) (ai x.t4.ao.n x.t4.ao.n) false) (ai x.t4.item.aC.n x.t4.item.aC.n) false) (ai (x.aW.n+1) (x.aW.n+1)) false) (.next ⟨x.t5,(x.aW.push (x.s.nodes.get (Int.toNat (x.t20.get (Int.toNat x.t22)).slot)).bD),x.t20,x.t21,(aO (x.t22+1)),x.s,x.p,x.t4,⟨((aZ x).getD default).fst,((aZ x).getD default).snd⟩,⟨x.out.item,x.out.rM,(x.out.ao.push ⟨⟨0,0,0⟩,0,0⟩)⟩,(x.s.nodes.get (Int.toNat (x.t20.get (Int.toNat x.t22)).slot))⟩) .fail) .fail)) (cond (cU x).isSome (cond (decide ((x.p.kids.get (Int.toNat x.t22)) < ((x.s.nodes.get (Int.toNat (x.t20.get (Int.toNat x.t22)).slot)).eI.n:Int))) (cond ((decide (0<=(x.p.kids.get (Int.toNat x.t22))))&&(decide ((x.p.kids.get (Int.toNat x.t22)) < ((x.s.nodes.get (Int.toNat (x.t20.get (Int.toNat x.t22)).slot)).eI.n:Int)))) (cond (decide ((x.p.kids.get (Int.toNat x.t22)) > 0)) (cond ((decide (0<=(aO ((x.p.kids.get (Int.toNat x.t22)) - 1))))&&(decide ((aO ((x.p.kids.get (Int.toNat x.t22)) - 1)) < ((x.s.nodes.get (Int.toNat (x.t20.get (Int.toNat x.t22)).slot)).eI.n:Int)))) (cond ((ai x.out.ao.n x.out.ao.n)&&(dT 40 x.out.ao.n 1)) (cond (cond (cond (cond (cond (ai (x.out.ao.n+1) (x.out.ao.n+1)) (ai x.out.item.aC.n x.out.item.aC.n) false) (ai x.t4.ao.n x.t4.ao.n) false) (ai x.t4.item.aC.n x.t4.item.aC.n) false) (ai (x.aW.n+1) (x.aW.n+1)) false) (.next ⟨x.t5,(x.aW.push (x.s.nodes.get (Int.toNat (x.t20.get (Int.toNat x.t22)).slot)).bD),x.t20,x.t21,(aO (x.t22+1)),x.s,x.p,x.t4,⟨((aZ x).getD default).fst,((cU x).getD default).snd⟩,⟨x.out.item,x.out.rM,(x.out.ao.push ⟨((cU x).getD default).fst,((x.s.nodes.get (Int.toNat (x.t20.get (Int.toNat x.t22)).slot)).eI.get (Int.toNat (aO ((x.p.kids.get (Int.toNat x.t22)) - 1)))),((x.s.nodes.get (Int.toNat (x.t20.get (Int.toNat x.t22)).slot)).eI.get (Int.toNat (x.p.kids.get (Int.toNat x.t22))))⟩)⟩,(x.s.nodes.get (Int.toNat (x.t20.get (Int.toNat x.t22)).slot))⟩) .fail) .fail) .fail) (cond ((ai x.out.ao.n x.out.ao.n)&&(dT 40 x.out.ao.n 1)) (cond (cond (cond (cond (cond (ai (x.out.ao.n+1) (x.out.ao.n+1)) (ai x.out.item.aC.n x.out.item.aC.n) false) (ai x.t4.ao.n x.t4.ao.n) false) (ai x.t4.item.aC.n x.t4.item.aC.n) false) (ai (x.aW.n+1) (x.aW.n+1)) false) (.next ⟨x.t5,(x.aW.push (x.s.nodes.get (Int.toNat (x.t20.get (Int.toNat x.t22)).slot)).bD),x.t20,x.t21,(aO (x.t22+1)),x.s,x.p,x.t4,⟨((aZ x).getD default).fst,((cU x).getD default).snd⟩,⟨x.out.item,x.out.rM,(x.out.ao.push ⟨((cU x).getD default).fst,0,((x.s.nodes.get (Int.toNat (x.t20.get (Int.toNat x.t22)).slot)).eI.get (Int.toNat (x.p.kids.get (Int.toNat x.t22))))⟩)⟩,(x.s.nodes.get (Int.toNat (x.t20.get (Int.toNat x.t22)).slot))⟩) .fail) .fail)) .fail) (cond ((ai x.out.ao.n x.out.ao.n)&&(dT 40 x.out.ao.n 1)) (cond (cond (cond (cond (cond (ai (x.out.ao.n+1) (x.out.ao.n+1)) (ai x.out.item.aC.n x.out.item.aC.n) false) (ai x.t4.ao.n x.t4.ao.n) false) (ai x.t4.item.aC.n x.t4.item.aC.n) false) (ai (x.aW.n+1) (x.aW.n+1)) false) (.next ⟨x.t5,(x.aW.push (x.s.nodes.get (Int.toNat (x.t20.get (Int.toNat x.t22)).slot)).bD),x.t20,x.t21,(aO (x.t22+1)),x.s,x.p,x.t4,⟨((aZ x).getD default).fst,((cU x).getD default).snd⟩,⟨x.out.item,x.out.rM,(x.out.ao.push ⟨((cU x).getD default).fst,0,0⟩)⟩,(x.s.nodes.get (Int.toNat (x.t20.get (Int.toNat x.t22)).slot))⟩) .fail) .fail)) .fail)) .fail) (cond (cond (cond (cond (cond (ai x.out.ao.n x.out.ao.n) (ai x.out.item.aC.n x.out.item.aC.n) false) (ai x.t4.ao.n x.t4.ao.n) false) (ai x.t4.item.aC.n x.t4.item.aC.n) false) (ai (x.aW.n+1) (x.aW.n+1)) false) (.next ⟨x.t5,(x.aW.push (x.s.nodes.get (Int.toNat (x.t20.get (Int.toNat x.t22)).slot)).bD),x.t20,x.t21,(aO (x.t22+1)),x.s,x.p,x.t4,⟨((aZ x).getD default).fst,((aZ x).getD default).snd⟩,x.out,(x.s.nodes.get (Int.toNat (x.t20.get (Int.toNat x.t22)).slot))⟩) .fail))
def oK (x:cT):aX cT:=(cond ((x.s.nodes.get (Int.toNat (x.t20.get (Int.toNat x.t22)).slot)).kind==4) (cond ((decide (0<=x.t22))&&(decide (x.t22 < (x.p.kids.n:Int)))) (cond (x.w.e != 0) (cond (decide ((x.p.kids.get (Int.toNat x.t22)) < ((x.s.nodes.get (Int.toNat (x.t20.get (Int.toNat x.t22)).slot)).eI.n:Int))) (cond ((decide (0<=(x.p.kids.get (Int.toNat x.t22))))&&(decide ((x.p.kids.get (Int.toNat x.t22)) < ((x.s.nodes.get (Int.toNat (x.t20.get (Int.toNat x.t22)).slot)).eI.n:Int)))) (cond (decide ((x.p.kids.get (Int.toNat x.t22)) > 0)) (cond ((decide (0<=(aO ((x.p.kids.get (Int.toNat x.t22)) - 1))))&&(decide ((aO ((x.p.kids.get (Int.toNat x.t22)) - 1)) < ((x.s.nodes.get (Int.toNat (x.t20.get (Int.toNat x.t22)).slot)).eI.n:Int)))) (cond ((ai x.out.ao.n x.out.ao.n)&&(dT 40 x.out.ao.n 1)) (cond (cond (cond (cond (cond (ai (x.out.ao.n+1) (x.out.ao.n+1)) (ai x.out.item.aC.n x.out.item.aC.n) false) (ai x.t4.ao.n x.t4.ao.n) false) (ai x.t4.item.aC.n x.t4.item.aC.n) false) (ai (x.aW.n+1) (x.aW.n+1)) false) (.next ⟨x.t5,(x.aW.push (x.s.nodes.get (Int.toNat (x.t20.get (Int.toNat x.t22)).slot)).bD),x.t20,x.t21,(aO (x.t22+1)),x.s,x.p,x.t4,x.w,⟨x.out.item,x.out.rM,(x.out.ao.push ⟨⟨0,0,0⟩,((x.s.nodes.get (Int.toNat (x.t20.get (Int.toNat x.t22)).slot)).eI.get (Int.toNat (aO ((x.p.kids.get (Int.toNat x.t22)) - 1)))),((x.s.nodes.get (Int.toNat (x.t20.get (Int.toNat x.t22)).slot)).eI.get (Int.toNat (x.p.kids.get (Int.toNat x.t22))))⟩)⟩,(x.s.nodes.get (Int.toNat (x.t20.get (Int.toNat x.t22)).slot))⟩) .fail) .fail) .fail) (cond ((ai x.out.ao.n x.out.ao.n)&&(dT 40 x.out.ao.n 1)) (cond (cond (cond (cond (cond (ai (x.out.ao.n+1) (x.out.ao.n+1)) (ai x.out.item.aC.n x.out.item.aC.n) false) (ai x.t4.ao.n x.t4.ao.n) false) (ai x.t4.item.aC.n x.t4.item.aC.n) false) (ai (x.aW.n+1) (x.aW.n+1)) false) (.next ⟨x.t5,(x.aW.push (x.s.nodes.get (Int.toNat (x.t20.get (Int.toNat x.t22)).slot)).bD),x.t20,x.t21,(aO (x.t22+1)),x.s,x.p,x.t4,x.w,⟨x.out.item,x.out.rM,(x.out.ao.push ⟨⟨0,0,0⟩,0,((x.s.nodes.get (Int.toNat (x.t20.get (Int.toNat x.t22)).slot)).eI.get (Int.toNat (x.p.kids.get (Int.toNat x.t22))))⟩)⟩,(x.s.nodes.get (Int.toNat (x.t20.get (Int.toNat x.t22)).slot))⟩) .fail) .fail)) .fail) (cond ((ai x.out.ao.n x.out.ao.n)&&(dT 40 x.out.ao.n 1)) (cond (cond (cond (cond (cond (ai (x.out.ao.n+1) (x.out.ao.n+1)) (ai x.out.item.aC.n x.out.item.aC.n) false) (ai x.t4.ao.n x.t4.ao.n) false) (ai x.t4.item.aC.n x.t4.item.aC.n) false) (ai (x.aW.n+1) (x.aW.n+1)) false) (.next ⟨x.t5,(x.aW.push (x.s.nodes.get (Int.toNat (x.t20.get (Int.toNat x.t22)).slot)).bD),x.t20,x.t21,(aO (x.t22+1)),x.s,x.p,x.t4,x.w,⟨x.out.item,x.out.rM,(x.out.ao.push ⟨⟨0,0,0⟩,0,0⟩)⟩,(x.s.nodes.get (Int.toNat (x.t20.get (Int.toNat x.t22)).slot))⟩) .fail) .fail)) (cond (cV x).isSome (cond (decide ((x.p.kids.get (Int.toNat x.t22)) < ((x.s.nodes.get (Int.toNat (x.t20.get (Int.toNat x.t22)).slot)).eI.n:Int))) (cond ((decide (0<=(x.p.kids.get (Int.toNat x.t22))))&&(decide ((x.p.kids.get (Int.toNat x.t22)) < ((x.s.nodes.get (Int.toNat (x.t20.get (Int.toNat x.t22)).slot)).eI.n:Int)))) (cond (decide ((x.p.kids.get (Int.toNat x.t22)) > 0)) (cond ((decide (0<=(aO ((x.p.kids.get (Int.toNat x.t22)) - 1))))&&(decide ((aO ((x.p.kids.get (Int.toNat x.t22)) - 1)) < ((x.s.nodes.get (Int.toNat (x.t20.get (Int.toNat x.t22)).slot)).eI.n:Int)))) (cond ((ai x.out.ao.n x.out.ao.n)&&(dT 40 x.out.ao.n 1)) (cond (cond (cond (cond (cond (ai (x.out.ao.n+1) (x.out.ao.n+1)) (ai x.out.item.aC.n x.out.item.aC.n) false) (ai x.t4.ao.n x.t4.ao.n) false) (ai x.t4.item.aC.n x.t4.item.aC.n) false) (ai (x.aW.n+1) (x.aW.n+1)) false) (.next ⟨x.t5,(x.aW.push (x.s.nodes.get (Int.toNat (x.t20.get (Int.toNat x.t22)).slot)).bD),x.t20,x.t21,(aO (x.t22+1)),x.s,x.p,x.t4,⟨x.w.m,((cV x).getD default).snd⟩,⟨x.out.item,x.out.rM,(x.out.ao.push ⟨((cV x).getD default).fst,((x.s.nodes.get (Int.toNat (x.t20.get (Int.toNat x.t22)).slot)).eI.get (Int.toNat (aO ((x.p.kids.get (Int.toNat x.t22)) - 1)))),((x.s.nodes.get (Int.toNat (x.t20.get (Int.toNat x.t22)).slot)).eI.get (Int.toNat (x.p.kids.get (Int.toNat x.t22))))⟩)⟩,(x.s.nodes.get (Int.toNat (x.t20.get (Int.toNat x.t22)).slot))⟩) .fail) .fail) .fail) (cond ((ai x.out.ao.n x.out.ao.n)&&(dT 40 x.out.ao.n 1)) (cond (cond (cond (cond (cond (ai (x.out.ao.n+1) (x.out.ao.n+1)) (ai x.out.item.aC.n x.out.item.aC.n) false) (ai x.t4.ao.n x.t4.ao.n) false) (ai x.t4.item.aC.n x.t4.item.aC.n) false) (ai (x.aW.n+1) (x.aW.n+1)) false) (.next ⟨x.t5,(x.aW.push (x.s.nodes.get (Int.toNat (x.t20.get (Int.toNat x.t22)).slot)).bD),x.t20,x.t21,(aO (x.t22+1)),x.s,x.p,x.t4,⟨x.w.m,((cV x).getD default).snd⟩,⟨x.out.item,x.out.rM,(x.out.ao.push ⟨((cV x).getD default).fst,0,((x.s.nodes.get (Int.toNat (x.t20.get (Int.toNat x.t22)).slot)).eI.get (Int.toNat (x.p.kids.get (Int.toNat x.t22))))⟩)⟩,(x.s.nodes.get (Int.toNat (x.t20.get (Int.toNat x.t22)).slot))⟩) .fail) .fail)) .fail) (cond ((ai x.out.ao.n x.out.ao.n)&&(dT 40 x.out.ao.n 1)) (cond (cond (cond (cond (cond (ai (x.out.ao.n+1) (x.out.ao.n+1)) (ai x.out.item.aC.n x.out.item.aC.n) false) (ai x.t4.ao.n x.t4.ao.n) false) (ai x.t4.item.aC.n x.t4.item.aC.n) false) (ai (x.aW.n+1) (x.aW.n+1)) false) (.next ⟨x.t5,(x.aW.push (x.s.nodes.get (Int.toNat (x.t20.get (Int.toNat x.t22)).slot)).bD),x.t20,x.t21,(aO (x.t22+1)),x.s,x.p,x.t4,⟨x.w.m,((cV x).getD default).snd⟩,⟨x.out.item,x.out.rM,(x.out.ao.push ⟨((cV x).getD default).fst,0,0⟩)⟩,(x.s.nodes.get (Int.toNat (x.t20.get (Int.toNat x.t22)).slot))⟩) .fail) .fail)) .fail)) .fail) (cond (cond (cond (cond (cond (ai x.out.ao.n x.out.ao.n) (ai x.out.item.aC.n x.out.item.aC.n) false) (ai x.t4.ao.n x.t4.ao.n) false) (ai x.t4.item.aC.n x.t4.item.aC.n) false) (ai (x.aW.n+1) (x.aW.n+1)) false) (.next ⟨x.t5,(x.aW.push (x.s.nodes.get (Int.toNat (x.t20.get (Int.toNat x.t22)).slot)).bD),x.t20,x.t21,(aO (x.t22+1)),x.s,x.p,x.t4,x.w,x.out,(x.s.nodes.get (Int.toNat (x.t20.get (Int.toNat x.t22)).slot))⟩) .fail))
def oL (x:cT):aX cT:=(cond ((x.s.nodes.get (Int.toNat (x.t20.get (Int.toNat x.t22)).slot)).kind==3) (cond ((decide (0<=x.t22))&&(decide (x.t22 < (x.p.kids.n:Int)))) (cond (!(decide ((x.p.kids.get (Int.toNat x.t22)) < 0))) (cond ((w16 (((Fo IntKind.u16 (Int.fdiv (x.s.nodes.get (Int.toNat (x.t20.get (Int.toNat x.t22)).slot)).rM (2 ^ (min (Int.toNat (x.p.kids.get (Int.toNat x.t22))) 16))) 1):Nat):Int))==0) (cond ((x.s.nodes.get (Int.toNat (x.t20.get (Int.toNat x.t22)).slot)).kind==4) (cond ((decide (0<=x.t22))&&(decide (x.t22 < (x.p.kids.n:Int)))) (cond (x.w.e != 0) (cond (decide ((x.p.kids.get (Int.toNat x.t22)) < ((x.s.nodes.get (Int.toNat (x.t20.get (Int.toNat x.t22)).slot)).eI.n:Int))) (cond ((decide (0<=(x.p.kids.get (Int.toNat x.t22))))&&(decide ((x.p.kids.get (Int.toNat x.t22)) < ((x.s.nodes.get (Int.toNat (x.t20.get (Int.toNat x.t22)).slot)).eI.n:Int)))) (cond (decide ((x.p.kids.get (Int.toNat x.t22)) > 0)) (cond ((decide (0<=(aO ((x.p.kids.get (Int.toNat x.t22)) - 1))))&&(decide ((aO ((x.p.kids.get (Int.toNat x.t22)) - 1)) < ((x.s.nodes.get (Int.toNat (x.t20.get (Int.toNat x.t22)).slot)).eI.n:Int)))) (cond ((ai x.out.ao.n x.out.ao.n)&&(dT 40 x.out.ao.n 1)) (cond (cond (cond (cond (cond (ai (x.out.ao.n+1) (x.out.ao.n+1)) (ai x.out.item.aC.n x.out.item.aC.n) false) (ai x.t4.ao.n x.t4.ao.n) false) (ai x.t4.item.aC.n x.t4.item.aC.n) false) (ai (x.aW.n+1) (x.aW.n+1)) false) (.next ⟨x.t5,(x.aW.push (x.s.nodes.get (Int.toNat (x.t20.get (Int.toNat x.t22)).slot)).bD),x.t20,x.t21,(aO (x.t22+1)),x.s,x.p,x.t4,x.w,⟨x.out.item,false,(x.out.ao.push ⟨⟨0,0,0⟩,((x.s.nodes.get (Int.toNat (x.t20.get (Int.toNat x.t22)).slot)).eI.get (Int.toNat (aO ((x.p.kids.get (Int.toNat x.t22)) - 1)))),((x.s.nodes.get (Int.toNat (x.t20.get (Int.toNat x.t22)).slot)).eI.get (Int.toNat (x.p.kids.get (Int.toNat x.t22))))⟩)⟩,(x.s.nodes.get (Int.toNat (x.t20.get (Int.toNat x.t22)).slot))⟩) .fail) .fail) .fail) (cond ((ai x.out.ao.n x.out.ao.n)&&(dT 40 x.out.ao.n 1)) (cond (cond (cond (cond (cond (ai (x.out.ao.n+1) (x.out.ao.n+1)) (ai x.out.item.aC.n x.out.item.aC.n) false) (ai x.t4.ao.n x.t4.ao.n) false) (ai x.t4.item.aC.n x.t4.item.aC.n) false) (ai (x.aW.n+1) (x.aW.n+1)) false) (.next ⟨x.t5,(x.aW.push (x.s.nodes.get (Int.toNat (x.t20.get (Int.toNat x.t22)).slot)).bD),x.t20,x.t21,(aO (x.t22+1)),x.s,x.p,x.t4,x.w,⟨x.out.item,false,(x.out.ao.push ⟨⟨0,0,0⟩,0,((x.s.nodes.get (Int.toNat (x.t20.get (Int.toNat x.t22)).slot)).eI.get (Int.toNat (x.p.kids.get (Int.toNat x.t22))))⟩)⟩,(x.s.nodes.get (Int.toNat (x.t20.get (Int.toNat x.t22)).slot))⟩) .fail) .fail)) .fail) (cond ((ai x.out.ao.n x.out.ao.n)&&(dT 40 x.out.ao.n 1)) (cond (cond (cond (cond (cond (ai (x.out.ao.n+1) (x.out.ao.n+1)) (ai x.out.item.aC.n x.out.item.aC.n) false) (ai x.t4.ao.n x.t4.ao.n) false) (ai x.t4.item.aC.n x.t4.item.aC.n) false) (ai (x.aW.n+1) (x.aW.n+1)) false) (.next ⟨x.t5,(x.aW.push (x.s.nodes.get (Int.toNat (x.t20.get (Int.toNat x.t22)).slot)).bD),x.t20,x.t21,(aO (x.t22+1)),x.s,x.p,x.t4,x.w,⟨x.out.item,false,(x.out.ao.push ⟨⟨0,0,0⟩,0,0⟩)⟩,(x.s.nodes.get (Int.toNat (x.t20.get (Int.toNat x.t22)).slot))⟩) .fail) .fail)) (cond (cV x).isSome (cond (decide ((x.p.kids.get (Int.toNat x.t22)) < ((x.s.nodes.get (Int.toNat (x.t20.get (Int.toNat x.t22)).slot)).eI.n:Int))) (cond ((decide (0<=(x.p.kids.get (Int.toNat x.t22))))&&(decide ((x.p.kids.get (Int.toNat x.t22)) < ((x.s.nodes.get (Int.toNat (x.t20.get (Int.toNat x.t22)).slot)).eI.n:Int)))) (cond (decide ((x.p.kids.get (Int.toNat x.t22)) > 0)) (cond ((decide (0<=(aO ((x.p.kids.get (Int.toNat x.t22)) - 1))))&&(decide ((aO ((x.p.kids.get (Int.toNat x.t22)) - 1)) < ((x.s.nodes.get (Int.toNat (x.t20.get (Int.toNat x.t22)).slot)).eI.n:Int)))) (cond ((ai x.out.ao.n x.out.ao.n)&&(dT 40 x.out.ao.n 1)) (cond (cond (cond (cond (cond (ai (x.out.ao.n+1) (x.out.ao.n+1)) (ai x.out.item.aC.n x.out.item.aC.n) false) (ai x.t4.ao.n x.t4.ao.n) false) (ai x.t4.item.aC.n x.t4.item.aC.n) false) (ai (x.aW.n+1) (x.aW.n+1)) false) (.next ⟨x.t5,(x.aW.push (x.s.nodes.get (Int.toNat (x.t20.get (Int.toNat x.t22)).slot)).bD),x.t20,x.t21,(aO (x.t22+1)),x.s,x.p,x.t4,⟨x.w.m,((cV x).getD default).snd⟩,⟨x.out.item,false,(x.out.ao.push ⟨((cV x).getD default).fst,((x.s.nodes.get (Int.toNat (x.t20.get (Int.toNat x.t22)).slot)).eI.get (Int.toNat (aO ((x.p.kids.get (Int.toNat x.t22)) - 1)))),((x.s.nodes.get (Int.toNat (x.t20.get (Int.toNat x.t22)).slot)).eI.get (Int.toNat (x.p.kids.get (Int.toNat x.t22))))⟩)⟩,(x.s.nodes.get (Int.toNat (x.t20.get (Int.toNat x.t22)).slot))⟩) .fail) .fail) .fail) (cond ((ai x.out.ao.n x.out.ao.n)&&(dT 40 x.out.ao.n 1)) (cond (cond (cond (cond (cond (ai (x.out.ao.n+1) (x.out.ao.n+1)) (ai x.out.item.aC.n x.out.item.aC.n) false) (ai x.t4.ao.n x.t4.ao.n) false) (ai x.t4.item.aC.n x.t4.item.aC.n) false) (ai (x.aW.n+1) (x.aW.n+1)) false) (.next ⟨x.t5,(x.aW.push (x.s.nodes.get (Int.toNat (x.t20.get (Int.toNat x.t22)).slot)).bD),x.t20,x.t21,(aO (x.t22+1)),x.s,x.p,x.t4,⟨x.w.m,((cV x).getD default).snd⟩,⟨x.out.item,false,(x.out.ao.push ⟨((cV x).getD default).fst,0,((x.s.nodes.get (Int.toNat (x.t20.get (Int.toNat x.t22)).slot)).eI.get (Int.toNat (x.p.kids.get (Int.toNat x.t22))))⟩)⟩,(x.s.nodes.get (Int.toNat (x.t20.get (Int.toNat x.t22)).slot))⟩) .fail) .fail)) .fail) (cond ((ai x.out.ao.n x.out.ao.n)&&(dT 40 x.out.ao.n 1)) (cond (cond (cond (cond (cond (ai (x.out.ao.n+1) (x.out.ao.n+1)) (ai x.out.item.aC.n x.out.item.aC.n) false) (ai x.t4.ao.n x.t4.ao.n) false) (ai x.t4.item.aC.n x.t4.item.aC.n) false) (ai (x.aW.n+1) (x.aW.n+1)) false) (.next ⟨x.t5,(x.aW.push (x.s.nodes.get (Int.toNat (x.t20.get (Int.toNat x.t22)).slot)).bD),x.t20,x.t21,(aO (x.t22+1)),x.s,x.p,x.t4,⟨x.w.m,((cV x).getD default).snd⟩,⟨x.out.item,false,(x.out.ao.push ⟨((cV x).getD default).fst,0,0⟩)⟩,(x.s.nodes.get (Int.toNat (x.t20.get (Int.toNat x.t22)).slot))⟩) .fail) .fail)) .fail)) .fail) (cond (cond (cond (cond (cond (ai x.out.ao.n x.out.ao.n) (ai x.out.item.aC.n x.out.item.aC.n) false) (ai x.t4.ao.n x.t4.ao.n) false) (ai x.t4.item.aC.n x.t4.item.aC.n) false) (ai (x.aW.n+1) (x.aW.n+1)) false) (.next ⟨x.t5,(x.aW.push (x.s.nodes.get (Int.toNat (x.t20.get (Int.toNat x.t22)).slot)).bD),x.t20,x.t21,(aO (x.t22+1)),x.s,x.p,x.t4,x.w,⟨x.out.item,false,x.out.ao⟩,(x.s.nodes.get (Int.toNat (x.t20.get (Int.toNat x.t22)).slot))⟩) .fail))
   (oK x)) .fail) .fail)
  (oK x))
def fE (x:cT):aX cT:=(cond (decide (x.t22 < x.t21)) (cond ((decide (0<=x.t22))&&(decide (x.t22 < (x.t20.n:Int)))) (cond ((decide (0<=(x.t20.get (Int.toNat x.t22)).slot))&&(decide ((x.t20.get (Int.toNat x.t22)).slot < (x.s.nodes.n:Int)))) (cond ((ai x.aW.n x.aW.n)&&(dT 56 x.aW.n 1)) (cond ((x.s.nodes.get (Int.toNat (x.t20.get (Int.toNat x.t22)).slot)).kind==2) (cond (x.w.e==0) (cond (aZ x).isSome (cond ((x.s.nodes.get (Int.toNat (x.t20.get (Int.toNat x.t22)).slot)).kind==3) (cond ((decide (0<=x.t22))&&(decide (x.t22 < (x.p.kids.n:Int)))) (cond (!(decide ((x.p.kids.get (Int.toNat x.t22)) < 0))) (cond ((w16 (((Fo IntKind.u16 (Int.fdiv (x.s.nodes.get (Int.toNat (x.t20.get (Int.toNat x.t22)).slot)).rM (2 ^ (min (Int.toNat (x.p.kids.get (Int.toNat x.t22))) 16))) 1):Nat):Int))==0) (cond ((x.s.nodes.get (Int.toNat (x.t20.get (Int.toNat x.t22)).slot)).kind==4) (cond ((decide (0<=x.t22))&&(decide (x.t22 < (x.p.kids.n:Int)))) (cond (((aZ x).getD default).snd != 0) (cond (decide ((x.p.kids.get (Int.toNat x.t22)) < ((x.s.nodes.get (Int.toNat (x.t20.get (Int.toNat x.t22)).slot)).eI.n:Int))) (cond ((decide (0<=(x.p.kids.get (Int.toNat x.t22))))&&(decide ((x.p.kids.get (Int.toNat x.t22)) < ((x.s.nodes.get (Int.toNat (x.t20.get (Int.toNat x.t22)).slot)).eI.n:Int)))) (cond (decide ((x.p.kids.get (Int.toNat x.t22)) > 0)) (cond ((decide (0<=(aO ((x.p.kids.get (Int.toNat x.t22)) - 1))))&&(decide ((aO ((x.p.kids.get (Int.toNat x.t22)) - 1)) < ((x.s.nodes.get (Int.toNat (x.t20.get (Int.toNat x.t22)).slot)).eI.n:Int)))) (cond ((ai x.out.ao.n x.out.ao.n)&&(dT 40 x.out.ao.n 1)) (cond (cond (cond (cond (cond (ai (x.out.ao.n+1) (x.out.ao.n+1)) (ai x.out.item.aC.n x.out.item.aC.n) false) (ai x.t4.ao.n x.t4.ao.n) false) (ai x.t4.item.aC.n x.t4.item.aC.n) false) (ai (x.aW.n+1) (x.aW.n+1)) false) (.next ⟨x.t5,(x.aW.push (x.s.nodes.get (Int.toNat (x.t20.get (Int.toNat x.t22)).slot)).bD),x.t20,x.t21,(aO (x.t22+1)),x.s,x.p,x.t4,⟨((aZ x).getD default).fst,((aZ x).getD default).snd⟩,⟨x.out.item,false,(x.out.ao.push ⟨⟨0,0,0⟩,((x.s.nodes.get (Int.toNat (x.t20.get (Int.toNat x.t22)).slot)).eI.get (Int.toNat (aO ((x.p.kids.get (Int.toNat x.t22)) - 1)))),((x.s.nodes.get (Int.toNat (x.t20.get (Int.toNat x.t22)).slot)).eI.get (Int.toNat (x.p.kids.get (Int.toNat x.t22))))⟩)⟩,(x.s.nodes.get (Int.toNat (x.t20.get (Int.toNat x.t22)).slot))⟩) .fail) .fail) .fail) (cond ((ai x.out.ao.n x.out.ao.n)&&(dT 40 x.out.ao.n 1)) (cond (cond (cond (cond (cond (ai (x.out.ao.n+1) (x.out.ao.n+1)) (ai x.out.item.aC.n x.out.item.aC.n) false) (ai x.t4.ao.n x.t4.ao.n) false) (ai x.t4.item.aC.n x.t4.item.aC.n) false) (ai (x.aW.n+1) (x.aW.n+1)) false) (.next ⟨x.t5,(x.aW.push (x.s.nodes.get (Int.toNat (x.t20.get (Int.toNat x.t22)).slot)).bD),x.t20,x.t21,(aO (x.t22+1)),x.s,x.p,x.t4,⟨((aZ x).getD default).fst,((aZ x).getD default).snd⟩,⟨x.out.item,false,(x.out.ao.push ⟨⟨0,0,0⟩,0,((x.s.nodes.get (Int.toNat (x.t20.get (Int.toNat x.t22)).slot)).eI.get (Int.toNat (x.p.kids.get (Int.toNat x.t22))))⟩)⟩,(x.s.nodes.get (Int.toNat (x.t20.get (Int.toNat x.t22)).slot))⟩) .fail) .fail)) .fail) (cond ((ai x.out.ao.n x.out.ao.n)&&(dT 40 x.out.ao.n 1)) (cond (cond (cond (cond (cond (ai (x.out.ao.n+1) (x.out.ao.n+1)) (ai x.out.item.aC.n x.out.item.aC.n) false) (ai x.t4.ao.n x.t4.ao.n) false) (ai x.t4.item.aC.n x.t4.item.aC.n) false) (ai (x.aW.n+1) (x.aW.n+1)) false) (.next ⟨x.t5,(x.aW.push (x.s.nodes.get (Int.toNat (x.t20.get (Int.toNat x.t22)).slot)).bD),x.t20,x.t21,(aO (x.t22+1)),x.s,x.p,x.t4,⟨((aZ x).getD default).fst,((aZ x).getD default).snd⟩,⟨x.out.item,false,(x.out.ao.push ⟨⟨0,0,0⟩,0,0⟩)⟩,(x.s.nodes.get (Int.toNat (x.t20.get (Int.toNat x.t22)).slot))⟩) .fail) .fail)) (cond (cU x).isSome (cond (decide ((x.p.kids.get (Int.toNat x.t22)) < ((x.s.nodes.get (Int.toNat (x.t20.get (Int.toNat x.t22)).slot)).eI.n:Int))) (cond ((decide (0<=(x.p.kids.get (Int.toNat x.t22))))&&(decide ((x.p.kids.get (Int.toNat x.t22)) < ((x.s.nodes.get (Int.toNat (x.t20.get (Int.toNat x.t22)).slot)).eI.n:Int)))) (cond (decide ((x.p.kids.get (Int.toNat x.t22)) > 0)) (cond ((decide (0<=(aO ((x.p.kids.get (Int.toNat x.t22)) - 1))))&&(decide ((aO ((x.p.kids.get (Int.toNat x.t22)) - 1)) < ((x.s.nodes.get (Int.toNat (x.t20.get (Int.toNat x.t22)).slot)).eI.n:Int)))) (cond ((ai x.out.ao.n x.out.ao.n)&&(dT 40 x.out.ao.n 1)) (cond (cond (cond (cond (cond (ai (x.out.ao.n+1) (x.out.ao.n+1)) (ai x.out.item.aC.n x.out.item.aC.n) false) (ai x.t4.ao.n x.t4.ao.n) false) (ai x.t4.item.aC.n x.t4.item.aC.n) false) (ai (x.aW.n+1) (x.aW.n+1)) false) (.next ⟨x.t5,(x.aW.push (x.s.nodes.get (Int.toNat (x.t20.get (Int.toNat x.t22)).slot)).bD),x.t20,x.t21,(aO (x.t22+1)),x.s,x.p,x.t4,⟨((aZ x).getD default).fst,((cU x).getD default).snd⟩,⟨x.out.item,false,(x.out.ao.push ⟨((cU x).getD default).fst,((x.s.nodes.get (Int.toNat (x.t20.get (Int.toNat x.t22)).slot)).eI.get (Int.toNat (aO ((x.p.kids.get (Int.toNat x.t22)) - 1)))),((x.s.nodes.get (Int.toNat (x.t20.get (Int.toNat x.t22)).slot)).eI.get (Int.toNat (x.p.kids.get (Int.toNat x.t22))))⟩)⟩,(x.s.nodes.get (Int.toNat (x.t20.get (Int.toNat x.t22)).slot))⟩) .fail) .fail) .fail) (cond ((ai x.out.ao.n x.out.ao.n)&&(dT 40 x.out.ao.n 1)) (cond (cond (cond (cond (cond (ai (x.out.ao.n+1) (x.out.ao.n+1)) (ai x.out.item.aC.n x.out.item.aC.n) false) (ai x.t4.ao.n x.t4.ao.n) false) (ai x.t4.item.aC.n x.t4.item.aC.n) false) (ai (x.aW.n+1) (x.aW.n+1)) false) (.next ⟨x.t5,(x.aW.push (x.s.nodes.get (Int.toNat (x.t20.get (Int.toNat x.t22)).slot)).bD),x.t20,x.t21,(aO (x.t22+1)),x.s,x.p,x.t4,⟨((aZ x).getD default).fst,((cU x).getD default).snd⟩,⟨x.out.item,false,(x.out.ao.push ⟨((cU x).getD default).fst,0,((x.s.nodes.get (Int.toNat (x.t20.get (Int.toNat x.t22)).slot)).eI.get (Int.toNat (x.p.kids.get (Int.toNat x.t22))))⟩)⟩,(x.s.nodes.get (Int.toNat (x.t20.get (Int.toNat x.t22)).slot))⟩) .fail) .fail)) .fail) (cond ((ai x.out.ao.n x.out.ao.n)&&(dT 40 x.out.ao.n 1)) (cond (cond (cond (cond (cond (ai (x.out.ao.n+1) (x.out.ao.n+1)) (ai x.out.item.aC.n x.out.item.aC.n) false) (ai x.t4.ao.n x.t4.ao.n) false) (ai x.t4.item.aC.n x.t4.item.aC.n) false) (ai (x.aW.n+1) (x.aW.n+1)) false) (.next ⟨x.t5,(x.aW.push (x.s.nodes.get (Int.toNat (x.t20.get (Int.toNat x.t22)).slot)).bD),x.t20,x.t21,(aO (x.t22+1)),x.s,x.p,x.t4,⟨((aZ x).getD default).fst,((cU x).getD default).snd⟩,⟨x.out.item,false,(x.out.ao.push ⟨((cU x).getD default).fst,0,0⟩)⟩,(x.s.nodes.get (Int.toNat (x.t20.get (Int.toNat x.t22)).slot))⟩) .fail) .fail)) .fail)) .fail) (cond (cond (cond (cond (cond (ai x.out.ao.n x.out.ao.n) (ai x.out.item.aC.n x.out.item.aC.n) false) (ai x.t4.ao.n x.t4.ao.n) false) (ai x.t4.item.aC.n x.t4.item.aC.n) false) (ai (x.aW.n+1) (x.aW.n+1)) false) (.next ⟨x.t5,(x.aW.push (x.s.nodes.get (Int.toNat (x.t20.get (Int.toNat x.t22)).slot)).bD),x.t20,x.t21,(aO (x.t22+1)),x.s,x.p,x.t4,⟨((aZ x).getD default).fst,((aZ x).getD default).snd⟩,⟨x.out.item,false,x.out.ao⟩,(x.s.nodes.get (Int.toNat (x.t20.get (Int.toNat x.t22)).slot))⟩) .fail))
       (oJ x)) .fail) .fail)
     (oJ x)) .fail)
    (oL x))
    (oL x)) .fail) .fail) .fail) (cond (cond (cond (cond (cond (ai x.out.ao.n x.out.ao.n) (ai x.out.item.aC.n x.out.item.aC.n) false) (ai x.t4.ao.n x.t4.ao.n) false) (ai x.t4.item.aC.n x.t4.item.aC.n) false) (ai x.aW.n x.aW.n) false) (.out (aG.ah.exit 0) x) .fail))
theorem Oy (x:cT):Rd (Ap x) (Aq x)=aX.enc Ap Aq (fE x):=by
 unfold fE oL oK oJ
 try simp only [aX.cD,aiz,lK]
 kernel_rfl
def Cc:Lp:=⟨21,506,Jq,fun vs rs=>dR Ap Aq (goN fE (GN vs rs)) [aG.ah.exit 0],false⟩
theorem GP:Cc.Ok PG:=CA (ak.cons NH (ak.cons Cb (ak.cons Gv (ak.cons yj (ak.cons Gu (ak.cons Lc (ak.cons Jb ak.nil))))))) bm.nil (pa:=GN) Oy
end
end Go.Proofs.Ytckbdndhmcoihaa.b
end
