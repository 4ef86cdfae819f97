/- Part of the proof of WorldIn: the machine, shown to be the model's, and plain models. No conditions. -/
import Derived.Test.YtckbdndhmcoihaaGq
import Derived.Laws.EntriesVeiled
import Derived.Test.YtckbdndhmcoihaaProg
set_option linter.unusedSimpArgs false
set_option linter.unusedVariables false
section
set_option maxRecDepth 20000
namespace Go.Proofs.Ytckbdndhmcoihaa.nodes
open Go Go.RowKit Go.Lib Go.Shelf
abbrev gv (q:G):Value:=.agg #[.slice q.sa q.sn q.sc,.slice q.ka q.kn q.kc]
def MapAt (mb:Nat) (W:World) (S:List (Int×Int)):Prop:=∃ es clock,W.heap[mb]? = some (.map es clock)/\VY es S
theorem zU (V:World) (o:Obj) (n:Nat) (h:n=V.heap.size):(V.alloc o).heap[n]? = some o:=by
 subst h;exact heap_alloc_new V o
theorem mz {W:World} {b:Nat} {c:Array Value} {t:TypeId} (h:W.heap[b]? = some (.cells c t)) (i:Nat):W.cell? ⟨b,i,none⟩=c[i]?:=by
 unfold World.cell?;simp [h]
theorem aqN (W:World) (A0 A1 A2 A3 A4:Obj):∃ V,V=((((W.alloc A0).alloc A1).alloc A2).alloc A3).alloc A4/\V.heap[W.heap.size]? = some A0/\V.heap[W.heap.size+1]? = some A1/\V.heap[W.heap.size+1+1]? = some A2/\V.heap[W.heap.size+1+1+1]? = some A3/\V.heap[W.heap.size+1+1+1+1]? = some A4/\V.heap.size=W.heap.size+5/\∀ mb,Kp mb W V:=by
 have s1:(W.alloc A0).heap.size=W.heap.size+1:=by simp
 have s2:((W.alloc A0).alloc A1).heap.size=W.heap.size+2:=by simp
 have s3:(((W.alloc A0).alloc A1).alloc A2).heap.size=W.heap.size+3:=by simp
 have s4:((((W.alloc A0).alloc A1).alloc A2).alloc A3).heap.size=W.heap.size+4:=by simp
 refine ⟨_,rfl,?_,?_,?_,?_,?_,by simp,fun mb=>((((Kp.alloc W A0).trans (Kp.alloc _ A1)).trans (Kp.alloc _ A2)).trans (Kp.alloc _ A3)).trans (Kp.alloc _ A4)⟩
 ·rw [Below.heap_alloc _ _ _ (by omega),Below.heap_alloc _ _ _ (by omega),Below.heap_alloc _ _ _ (by omega),Below.heap_alloc _ _ _ (by omega)]
  exact zU _ _ _ rfl
 ·rw [Below.heap_alloc _ _ _ (by omega),Below.heap_alloc _ _ _ (by omega),Below.heap_alloc _ _ _ (by omega)]
  exact zU _ _ _ (by omega)
 ·rw [Below.heap_alloc _ _ _ (by omega),Below.heap_alloc _ _ _ (by omega)]
  exact zU _ _ _ (by omega)
 ·rw [Below.heap_alloc _ _ _ (by omega)]
  exact zU _ _ _ (by omega)
 ·exact zU _ _ _ (by omega)
set_option maxHeartbeats 4000000 in
theorem below (q:G) (B mb:Nat) (DG to:Int×Int) (U:List (Int×Int)) (hU:∀ u∈U,(0<=u.1/\u.1 < (q.kn:Int))/\∀ k,k < q.im u.1.toNat->q.dW u.1.toNat k∈U) (S:List (Int×Int)) (W:World)
  (hf:DG∈U) (hg:GAt q B W) (hB:B<=W.heap.size) (hm:B<=mb) (hM:MapAt mb W S) (ht:to ∉ S) :
  Calls Try.prog 74 #[gv q,.map (some mb),hv DG,hv to] W fun e W'=>∃ S' r,e = .returned (.bool r)/\MapAt mb W' S'/\Kp mb W W'/\(r=true/\Reach q to DG\/r=false/\Grow q S DG S'/\to ∉ S'):=by
 have W6:mb < W.heap.size:=by obtain ⟨es,c,h,_⟩:=hM; exact (r8.1 h).1
 have Qn:Calls Try.prog 92 #[hv DG,.pointer (some ⟨W.heap.size+1+1+1,0,none⟩),.pointer (some ⟨W.heap.size+1,0,none⟩),.pointer (some ⟨W.heap.size,0,none⟩),.pointer (some ⟨W.heap.size+1+1+1+1,0,none⟩)] (((((W.alloc (.cells #[.slice q.sa q.sn q.sc,.slice q.ka q.kn q.kc] 27)).alloc (.cells #[.map (some mb)] 172)).alloc (.cells #[.int .i64 DG.1,.int .i64 DG.2] 32)).alloc (.cells #[.int .i64 to.1,.int .i64 to.2] 32)).alloc (.cells #[.func (.func 92) #[] #[.pointer (some ⟨W.heap.size+1+1+1,0,none⟩),.pointer (some ⟨W.heap.size+1,0,none⟩),.pointer (some ⟨W.heap.size,0,none⟩),.pointer (some ⟨W.heap.size+1+1+1+1,0,none⟩)]] 170))
   fun e W'=>∃ S' r,e = .returned (.bool r)/\MapAt mb W' S'/\Kp mb W W'/\(r=true/\Reach q to DG\/r=false/\Grow q S DG S'/\to ∉ S'):=by
  obtain ⟨V,hV,v0,v1,v2,v3,v4,vs,vk⟩:=aqN W (.cells #[.slice q.sa q.sn q.sc,.slice q.ka q.kn q.kc] 27) (.cells #[.map (some mb)] 172) (.cells #[.int .i64 DG.1,.int .i64 DG.2] 32) (.cells #[.int .i64 to.1,.int .i64 to.2] 32) (.cells #[.func (.func 92) #[] #[.pointer (some ⟨W.heap.size+1+1+1,0,none⟩),.pointer (some ⟨W.heap.size+1,0,none⟩),.pointer (some ⟨W.heap.size,0,none⟩),.pointer (some ⟨W.heap.size+1+1+1+1,0,none⟩)]] 170);rw [<- hV];have L:BZ q B (W.heap.size+1+1+1) (W.heap.size+1) W.heap.size (W.heap.size+1+1+1+1) mb to V S:=
   ⟨hg.dR (vk mb) hB hm,by omega,by omega,by omega,by omega,by omega,hm,by rw [mz v3]; rfl,by rw [mz v3]; rfl,by rw [mz v1]; rfl,by rw [mz v0]; rfl,by rw [mz v0]; rfl,by rw [mz v4]; rfl,by
    obtain ⟨es,c,h1,h2⟩:=hM;have hk:=vk (mb+1);exact ⟨es,c,by rw [hk.block mb W6 (by omega)]; exact h1,h2⟩,ht⟩
  refine (look q B _ _ _ _ mb to U hU _ S V DG hf (Ra _) L).mono ?_;rintro e W' ⟨S',L',k',⟨rfl,hr⟩ | ⟨rfl,H5⟩⟩
  ·exact ⟨S',true,rfl,L'.map,(vk mb).trans k',.inl ⟨rfl,hr⟩⟩
  ·exact ⟨S',false,rfl,L'.map,(vk mb).trans k',.inr ⟨rfl,H5,L'.to⟩⟩
 have mixed:=zT;have t32:=Try.underlying32; have a32:=Try.isAgg32; have z32:=Try.sizeOf32; have v32:=Try.zeroValue32; have u32:=run_underlying Try.underlying32;have t202:=Try.underlying172; have anh:=Try.isAgg172; have ani:=Try.sizeOf172; have anj:=Try.zeroValue172; have SK:=run_underlying Try.underlying172;have t200:=Try.underlying170; have apb:=Try.isAgg170; have apc:=Try.sizeOf170; have apd:=Try.zeroValue170; have ape:=run_underlying Try.underlying170;have t27:=Try.underlying27; have a27:=Try.isAgg27; have z27:=Try.sizeOf27; have v27:=Try.zeroValue27; have u27:=run_underlying Try.underlying27;have t4:=Try.underlying4; have a4:=Try.isAgg4; have z4:=Try.sizeOf4; have v4:=Try.zeroValue4; have u4:=run_underlying Try.underlying4;have cW:(((((W.alloc (.cells #[.slice q.sa q.sn q.sc,.slice q.ka q.kn q.kc] 27)).alloc (.cells #[.map (some mb)] 172)).alloc (.cells #[.int .i64 DG.1,.int .i64 DG.2] 32)).alloc (.cells #[.int .i64 to.1,.int .i64 to.2] 32)).alloc (.cells #[.nilFunc] 170)).cell? ⟨W.heap.size+1+1+1+1,0,none⟩=some .nilFunc:=by rw [World.cell?_alloc_at _ _ _ _ (by simp)]; rfl
 have fW:(((((W.alloc (.cells #[.slice q.sa q.sn q.sc,.slice q.ka q.kn q.kc] 27)).alloc (.cells #[.map (some mb)] 172)).alloc (.cells #[.int .i64 DG.1,.int .i64 DG.2] 32)).alloc (.cells #[.int .i64 to.1,.int .i64 to.2] 32)).alloc (.cells #[.nilFunc] 170)).frozen? ⟨W.heap.size+1+1+1+1,0,none⟩=false:=by rw [World.frozen?_alloc_at _ _ _ _ (by simp)]
 go_enter Try.func74,Try.ntmps74
 go_wp2_with (go_at_call 92; refine Qn.mono ?_; rintro e w' ⟨S',r,rfl,hr⟩)
 go_wp2
 go_ret
 exact ⟨S',r,rfl,hr⟩
end Go.Proofs.Ytckbdndhmcoihaa.nodes
end
section
namespace Go.Proofs.Ytckbdndhmcoihaa.b
open Go.K
theorem funcs:Try.prog.funcs.toList.all aG.kG=true:=by kernel_rfl
theorem mixed:Try.prog.follows .mixedOrders=true:=by kernel_rfl
noncomputable abbrev PG:Program:=Try.prog
noncomputable abbrev g0 (T:TypeId) (v:KV):KV:=gV PG (b8 PG du) T v
theorem dE {R:Type} [Inhabited R] {k:R->KV} {r:List KV->Option R} {g:FuncId} {ps:List (Nat×(List KV->KR KV))} {ls:List Lp} {mt:TypeId->Bool} {fz eg:Bool} {a:(Nat->KV)->List KV} {q:(Nat->KV)->Option R} (eW:ai PG ps) (iH:bj PG ls)
  (hr:∀ w,EN PG (ra PG ps ls mt fz eg) 9 9 g (a w)=(q w).map k) (h:∀ w,uM PG (bT PG g) w 0=a w/\r (a w)=q w:=by exact fun w=>⟨by kernel_rfl,by kernel_rfl⟩) (hy:Nat.blt g aG.yB=true:=by rfl):bB PG g (bC PG g (bO k r)):=
 Qm funcs mixed eW iH (L:=9) (n:=9) (fun w=>by rw [(h w).1,(h w).2]; exact hr w) hy
theorem Bs {l:Lp} {X:Type} [Inhabited X] {ps:List (Nat×(List KV->KR KV))} {ls:List Lp} {mt:TypeId->Bool} {fz eg:Bool} {step:X->aW X} {ev:X->List KV} {er:X->List (List KV)} {es:List aG.ah} {pa:List KV->List (List KV)->X} (eW:ai PG ps) (iH:bj PG ls)
  (vd:∀ x,FJ PG (ra PG ps ls mt fz eg) 9 9 l.f l.p (DE PG l.f l.p) l.S (ev x) (er x)=aW.enc ev er (step x)) (hF:l.F=fun vs rs=>dK ev er (goN step (pa vs rs)) es:=by rfl)
  (gz:∀ wv wr,ev (pa (ju PG l.S.dD wv 0) (jv PG l.S.rows wr 0))=ju PG l.S.dD wv 0/\er (pa (ju PG l.S.dD wv 0) (jv PG l.S.rows wr 0))=jv PG l.S.rows wr 0:=by exact fun wv wr=>⟨by kernel_rfl,by kernel_rfl⟩) (hs:l.st=false:=by rfl):l.Ok PG:=
 ahg funcs mixed eW iH (L:=9) (n:=9) hF gz vd E7.nil hs
theorem rM {l:Lp} {ls:List Lp} (h:l.Ok PG) (r:bj PG ls) (t:Jt PG l.f l.p=true:=by kernel_rfl):bj PG (l::ls):=bj.cons h t r
noncomputable abbrev pk9 (ps:List (Nat×(List KV->KR KV))) (ls:List Lp) (g:FuncId) (a:List KV):Option KV:=EN PG (ra PG ps ls) 9 9 g a
noncomputable abbrev rk9 (ps:List (Nat×(List KV->KR KV))) (ls:List Lp) (f p:Nat) (S:aJ):=FJ PG (ra PG ps ls) 9 9 f p (DE PG f p) S
noncomputable abbrev ou (ps:List (Nat×(List KV->KR KV))) (ls:List Lp) (g:FuncId) (a:List KV):Option KV:=EN PG (ra PG ps ls (fun q=>Nat.beq q 3)) 9 9 g a
noncomputable abbrev AP (ps:List (Nat×(List KV->KR KV))) (ls:List Lp) (f p:Nat) (S:aJ):=FJ PG (ra PG ps ls (fun q=>Nat.beq q 3)) 9 9 f p (DE PG f p) S
abbrev v9 (vs:List KV) (i:Nat):KV:=vs.getD i .bh
abbrev r9 (rs:List (List KV)) (i k:Nat):KV:=(rs.getD i []).getD k .bh
abbrev i9:CD:=.k (.int .i64)
abbrev u9:CD:=.k (.int .u8)
abbrev b9:CD:=.k .bool
abbrev n9 (T:TypeId):CD:=.k (.slice T)
abbrev w9 (c:CD):VD:=⟨false,[c]⟩
end Go.Proofs.Ytckbdndhmcoihaa.b
end
section
namespace Go.Proofs.Ytckbdndhmcoihaa.b
open Go.K
noncomputable section
structure Slot where
 gen:Int
 live:Bool
instance:Inhabited Slot:=⟨⟨default,default⟩⟩
def apP (x:Slot):List KV:=[.int .i64 x.gen,.bool x.live]
def vP (x:Slot):KV:=.agg (apP x)
def apQ (c:Nat->KV):Slot:=⟨aq (c 0),eL (c 1)⟩
def nW (v:KV):Slot:=apQ fun k=>v.cells.getD k .bh
theorem Bt (x:Slot):nW (vP x)=x:=rfl
theorem ahk:nW .bh=default:=rfl
theorem pC (s:Sl Slot) (v:Slot):s.push v=aw nW (s.n+1) (ax s.n (fun i=>vP (s.get i)) (cY [vP v])):=(fR Bt ahk s v).symm
theorem pD (s t:Sl Slot):s.join t=aw nW (s.n+t.n) (ax s.n (fun i=>vP (s.get i)) (fun i=>vP (t.get i))):=(gW Bt s t).symm
theorem sK (l:List Slot):Sl.lit l=aw nW l.length (cY (l.map vP)):=(jR Bt ahk l).symm
theorem sL (s:Sl Slot) (i:Nat) (v:Slot):s.set i v=aw nW s.n (bR (fun j=>vP (s.get j)) i (vP v)):=(jS Bt s i v).symm
theorem mU (s t:Sl Slot) (o m:Nat):s.qZ o m t=aw nW s.n (aB o m (fun j=>vP (s.get j)) (fun j=>vP (t.get j))):=(fP Bt s t o m).symm
theorem sM (m n n' : Nat) (acc ay:Nat->KV):aw nW m (ax n (fun i=>vP ((aw nW n' acc).get i)) ay)=aw nW m (ax n acc ay):=kh Bt ..
theorem sN (m n n' : Nat) (acc ay:Nat->KV):aw nW m (ax n acc (fun i=>vP ((aw nW n' ay).get i)))=aw nW m (ax n acc ay):=ki Bt ..
theorem sP (m n' i:Nat) (acc:Nat->KV) (v:KV):aw nW m (bR (fun j=>vP ((aw nW n' acc).get j)) i v)=aw nW m (bR acc i v):=kl Bt ..
theorem sQ (n n' o m:Nat) (acc ay:Nat->KV):aw nW n (aB o m (fun j=>vP ((aw nW n' acc).get j)) ay)=aw nW n (aB o m acc ay):=kU Bt ..
theorem sR (n n' o m:Nat) (acc ay:Nat->KV):aw nW n (aB o m acc (fun j=>vP ((aw nW n' ay).get j)))=aw nW n (aB o m acc ay):=kV Bt ..
def DH (s:Slot):Option (Bool):=(cond (decide (s.gen < 1)) (some (true)) (some ((decide (s.gen > 1073741824)))))
theorem RW (s:Slot):pk9 [] [] 89 [vP s] = (DH s).map kB:=by
 unfold DH
 try simp only [bG]
 kernel_rfl
def DI:List KV->KR KV:=bC PG 89 (bO kB fun vs=>DH (nW (v9 vs 0)))
theorem F9:bB PG 89 DI:=dE ai.nil bj.nil fun w=>RW (nW (g0 139 (w 0)))
structure j4 where
 cL:(Sl Slot)
instance:Inhabited j4:=⟨⟨default⟩⟩
def aom (x:j4):List KV:=[dq 139 vP x.cL]
def jw (x:j4):KV:=.agg (aom x)
def aon (c:Nat->KV):j4:=⟨dM nW (c 0)⟩
def jN (v:KV):j4:=aon fun k=>v.cells.getD k .bh
theorem ya (x:j4):jN (jw x)=x:=rfl
theorem aec:jN .bh=default:=rfl
theorem mV (s:Sl j4) (v:j4):s.push v=aw jN (s.n+1) (ax s.n (fun i=>jw (s.get i)) (cY [jw v])):=(fR ya aec s v).symm
theorem mW (s t:Sl j4):s.join t=aw jN (s.n+t.n) (ax s.n (fun i=>jw (s.get i)) (fun i=>jw (t.get i))):=(gW ya s t).symm
theorem pE (l:List j4):Sl.lit l=aw jN l.length (cY (l.map jw)):=(jR ya aec l).symm
theorem pF (s:Sl j4) (i:Nat) (v:j4):s.set i v=aw jN s.n (bR (fun j=>jw (s.get j)) i (jw v)):=(jS ya s i v).symm
theorem lj (s t:Sl j4) (o m:Nat):s.qZ o m t=aw jN s.n (aB o m (fun j=>jw (s.get j)) (fun j=>jw (t.get j))):=(fP ya s t o m).symm
theorem pG (m n n' : Nat) (acc ay:Nat->KV):aw jN m (ax n (fun i=>jw ((aw jN n' acc).get i)) ay)=aw jN m (ax n acc ay):=kh ya ..
theorem pH (m n n' : Nat) (acc ay:Nat->KV):aw jN m (ax n acc (fun i=>jw ((aw jN n' ay).get i)))=aw jN m (ax n acc ay):=ki ya ..
theorem pI (m n' i:Nat) (acc:Nat->KV) (v:KV):aw jN m (bR (fun j=>jw ((aw jN n' acc).get j)) i v)=aw jN m (bR acc i v):=kl ya ..
theorem pJ (n n' o m:Nat) (acc ay:Nat->KV):aw jN n (aB o m (fun j=>jw ((aw jN n' acc).get j)) ay)=aw jN n (aB o m acc ay):=kU ya ..
theorem pK (n n' o m:Nat) (acc ay:Nat->KV):aw jN n (aB o m acc (fun j=>jw ((aw jN n' ay).get j)))=aw jN n (aB o m acc ay):=kV ya ..
structure cf where
 s:(Sl Slot)
 t4:Int
 t7:Int
 t8:Int
instance:Inhabited cf:=⟨⟨default,default,default,default⟩⟩
def iy (x:cf):List KV:=[dq 139 vP x.s,.fn (.func 89) [] [],.int .i64 x.t4,.int .i64 x.t7,.int .i64 x.t8]
def iz (x:cf):List (List KV):=[]
def mA (vs:List KV) (rs:List (List KV)):cf:=⟨dM nW (v9 vs 0),aq (v9 vs 2),aq (v9 vs 3),aq (v9 vs 4)⟩
def mX:aJ:=⟨[(0,w9 (n9 139)),(1,⟨false,[.lit (.fn (.func 89) [] [])]⟩),(4,w9 i9),(7,w9 i9),(8,w9 i9)],[],[]⟩
def wX:=rk9 [(89,DI)] [] 104 26 mX
def dy (x:cf):aW cf:=(cond (decide (x.t8 < x.t7)) (cond ((decide (0<=x.t8))&&(decide (x.t8 < (x.s.n:Int)))) (cond (decide ((x.s.get (Int.toNat x.t8)).gen < 1)) (.out aG.ah.ret ⟨x.s,x.t8,x.t7,x.t8⟩) (cond (decide ((x.s.get (Int.toNat x.t8)).gen > 1073741824)) (.out aG.ah.ret ⟨x.s,x.t8,x.t7,x.t8⟩) (.next ⟨x.s,x.t4,x.t7,(aK (x.t8+1))⟩))) .fail) (.out (aG.ah.exit 0) x))
theorem vQ (x:cf):wX (iy x) (iz x)=aW.enc iy iz (dy x):=by
 unfold dy
 try simp only [aW.cw]
 kernel_rfl
def mZ:Lp:=⟨104,26,mX,fun vs rs=>dK iy iz (goN dy (mA vs rs)) [aG.ah.exit 0,aG.ah.ret],false⟩
theorem wY:mZ.Ok PG:=Bs (ai.cons F9 ai.nil) bj.nil (pa:=mA) vQ
def vR (a:j4):=goN dy ⟨a.cL,0,(a.cL.n:Int),0⟩
def dU (a:j4):Option (Int):=(cond (decide ((a.cL.n:Int) > 128)) (some (8)) (cond ((vR a).by (aG.ah.exit 0)) (some (0)) (cond ((vR a).by aG.ah.ret) (cond (decide ((vR a).st.t4 >= 0)) (some (8)) (some (0))) none)))
theorem XQ (a:j4):pk9 [(89,DI)] [mZ] 70 [jw a] = (dU a).map (kI .i64):=by
 unfold dU
 try simp only [bG]
 kernel_rfl
def Qo:List KV->KR KV:=bC PG 70 (bO (kI .i64) fun vs=>dU (jN (v9 vs 0)))
theorem KS:bB PG 70 Qo:=dE (ai.cons F9 ai.nil) (rM wY bj.nil) fun w=>XQ (jN (g0 24 (w 0)))
structure Handle where
 slot:Int
 gen:Int
instance:Inhabited Handle:=⟨⟨default,default⟩⟩
def ahl (x:Handle):List KV:=[.int .i64 x.slot,.int .i64 x.gen]
def fy (x:Handle):KV:=.agg (ahl x)
def ahm (c:Nat->KV):Handle:=⟨aq (c 0),aq (c 1)⟩
def dV (v:KV):Handle:=ahm fun k=>v.cells.getD k .bh
theorem uN (x:Handle):dV (fy x)=x:=rfl
theorem ab4:dV .bh=default:=rfl
theorem iA (s:Sl Handle) (v:Handle):s.push v=aw dV (s.n+1) (ax s.n (fun i=>fy (s.get i)) (cY [fy v])):=(fR uN ab4 s v).symm
theorem lk (s t:Sl Handle):s.join t=aw dV (s.n+t.n) (ax s.n (fun i=>fy (s.get i)) (fun i=>fy (t.get i))):=(gW uN s t).symm
theorem lR (l:List Handle):Sl.lit l=aw dV l.length (cY (l.map fy)):=(jR uN ab4 l).symm
theorem nb (s:Sl Handle) (i:Nat) (v:Handle):s.set i v=aw dV s.n (bR (fun j=>fy (s.get j)) i (fy v)):=(jS uN s i v).symm
theorem jV (s t:Sl Handle) (o m:Nat):s.qZ o m t=aw dV s.n (aB o m (fun j=>fy (s.get j)) (fun j=>fy (t.get j))):=(fP uN s t o m).symm
theorem lT (m n n' : Nat) (acc ay:Nat->KV):aw dV m (ax n (fun i=>fy ((aw dV n' acc).get i)) ay)=aw dV m (ax n acc ay):=kh uN ..
theorem nf (m n n' : Nat) (acc ay:Nat->KV):aw dV m (ax n acc (fun i=>fy ((aw dV n' ay).get i)))=aw dV m (ax n acc ay):=ki uN ..
theorem ng (m n' i:Nat) (acc:Nat->KV) (v:KV):aw dV m (bR (fun j=>fy ((aw dV n' acc).get j)) i v)=aw dV m (bR acc i v):=kl uN ..
theorem nh (n n' o m:Nat) (acc ay:Nat->KV):aw dV n (aB o m (fun j=>fy ((aw dV n' acc).get j)) ay)=aw dV n (aB o m acc ay):=kU uN ..
theorem ni (n n' o m:Nat) (acc ay:Nat->KV):aw dV n (aB o m acc (fun j=>fy ((aw dV n' ay).get j)))=aw dV n (aB o m acc ay):=kV uN ..
def ml (a:j4) (h:Handle):Option (Bool):=(cond (decide (h.slot >= 0)) (cond (decide (h.slot < (a.cL.n:Int))) (cond ((decide (0<=h.slot))&&(decide (h.slot < (a.cL.n:Int)))) (some ((((a.cL.get (Int.toNat h.slot)).gen==h.gen)&&(((a.cL.get (Int.toNat h.slot)).live==true)&&true)))) none) (some (false))) (some (false)))
theorem ZH (a:j4) (h:Handle):pk9 [] [] 79 [jw a,fy h] = (ml a h).map kB:=by
 unfold ml
 try simp only [bG]
 kernel_rfl
def SL:List KV->KR KV:=bC PG 79 (bO kB fun vs=>ml (jN (v9 vs 0)) (dV (v9 vs 1)))
theorem XR:bB PG 79 SL:=dE ai.nil bj.nil fun w=>ZH (jN (g0 24 (w 0))) (dV (g0 32 (w 1)))
def vS (a:j4) (h:Handle):=dU a
def vT (a:j4) (h:Handle):=ml a h
def dz (a:j4) (h:Handle):Option (Bool):=(cond (vS a h).isSome (cond (((vS a h).getD default)==0) (cond (vT a h).isSome (some (((vT a h).getD default))) none) (some (false))) none)
theorem XS (a:j4) (h:Handle):pk9 [(79,SL),(70,Qo)] [] 49 [jw a,fy h] = (dz a h).map kB:=by
 unfold dz
 try simp only [bG]
 kernel_rfl
def zg:List KV->KR KV:=bC PG 49 (bO kB fun vs=>dz (jN (v9 vs 0)) (dV (v9 vs 1)))
theorem uq:bB PG 49 zg:=dE (ai.cons XR (ai.cons KS ai.nil)) bj.nil fun w=>XS (jN (g0 24 (w 0))) (dV (g0 32 (w 1)))
structure fF where
 cA:j4
 kids:(Sl (Sl Handle))
instance:Inhabited fF:=⟨⟨default,default⟩⟩
def akC (x:fF):List KV:=[dq 139 vP x.cA.cL,dq 47 (dq 32 fy) x.kids]
def se (x:fF):KV:=.agg (akC x)
def akD (c:Nat->KV):fF:=⟨⟨dM nW (c 0)⟩,dM (dM dV) (c 1)⟩
def jO (v:KV):fF:=akD fun k=>v.cells.getD k .bh
theorem yb (x:fF):jO (se x)=x:=rfl
theorem aed:jO .bh=default:=rfl
theorem nj (s:Sl fF) (v:fF):s.push v=aw jO (s.n+1) (ax s.n (fun i=>se (s.get i)) (cY [se v])):=(fR yb aed s v).symm
theorem nm (s t:Sl fF):s.join t=aw jO (s.n+t.n) (ax s.n (fun i=>se (s.get i)) (fun i=>se (t.get i))):=(gW yb s t).symm
theorem pL (l:List fF):Sl.lit l=aw jO l.length (cY (l.map se)):=(jR yb aed l).symm
theorem pM (s:Sl fF) (i:Nat) (v:fF):s.set i v=aw jO s.n (bR (fun j=>se (s.get j)) i (se v)):=(jS yb s i v).symm
theorem ll (s t:Sl fF) (o m:Nat):s.qZ o m t=aw jO s.n (aB o m (fun j=>se (s.get j)) (fun j=>se (t.get j))):=(fP yb s t o m).symm
theorem pN (m n n' : Nat) (acc ay:Nat->KV):aw jO m (ax n (fun i=>se ((aw jO n' acc).get i)) ay)=aw jO m (ax n acc ay):=kh yb ..
theorem pO (m n n' : Nat) (acc ay:Nat->KV):aw jO m (ax n acc (fun i=>se ((aw jO n' ay).get i)))=aw jO m (ax n acc ay):=ki yb ..
theorem pP (m n' i:Nat) (acc:Nat->KV) (v:KV):aw jO m (bR (fun j=>se ((aw jO n' acc).get j)) i v)=aw jO m (bR acc i v):=kl yb ..
theorem pQ (n n' o m:Nat) (acc ay:Nat->KV):aw jO n (aB o m (fun j=>se ((aw jO n' acc).get j)) ay)=aw jO n (aB o m acc ay):=kU yb ..
theorem pR (n n' o m:Nat) (acc ay:Nat->KV):aw jO n (aB o m acc (fun j=>se ((aw jO n' ay).get j)))=aw jO n (aB o m acc ay):=kV yb ..
structure dj where
 e0:Int
 e1:Int
 e2:Int
instance:Inhabited dj:=⟨⟨default,default,default⟩⟩
def anl (x:dj):List KV:=[.int .i64 x.e0,.int .i64 x.e1,.int .i64 x.e2]
def eQ (x:dj):KV:=.agg (anl x)
def anm (c:Nat->KV):dj:=⟨aq (c 0),aq (c 1),aq (c 2)⟩
def fc (v:KV):dj:=anm fun k=>v.cells.getD k .bh
theorem uO (x:dj):fc (eQ x)=x:=rfl
theorem ab5:fc .bh=default:=rfl
theorem j5 (s:Sl dj) (v:dj):s.push v=aw fc (s.n+1) (ax s.n (fun i=>eQ (s.get i)) (cY [eQ v])):=(fR uO ab5 s v).symm
theorem j6 (s t:Sl dj):s.join t=aw fc (s.n+t.n) (ax s.n (fun i=>eQ (s.get i)) (fun i=>eQ (t.get i))):=(gW uO s t).symm
theorem np (l:List dj):Sl.lit l=aw fc l.length (cY (l.map eQ)):=(jR uO ab5 l).symm
theorem ns (s:Sl dj) (i:Nat) (v:dj):s.set i v=aw fc s.n (bR (fun j=>eQ (s.get j)) i (eQ v)):=(jS uO s i v).symm
theorem jW (s t:Sl dj) (o m:Nat):s.qZ o m t=aw fc s.n (aB o m (fun j=>eQ (s.get j)) (fun j=>eQ (t.get j))):=(fP uO s t o m).symm
theorem nt (m n n' : Nat) (acc ay:Nat->KV):aw fc m (ax n (fun i=>eQ ((aw fc n' acc).get i)) ay)=aw fc m (ax n acc ay):=kh uO ..
theorem nu (m n n' : Nat) (acc ay:Nat->KV):aw fc m (ax n acc (fun i=>eQ ((aw fc n' ay).get i)))=aw fc m (ax n acc ay):=ki uO ..
theorem nv (m n' i:Nat) (acc:Nat->KV) (v:KV):aw fc m (bR (fun j=>eQ ((aw fc n' acc).get j)) i v)=aw fc m (bR acc i v):=kl uO ..
theorem nw (n n' o m:Nat) (acc ay:Nat->KV):aw fc n (aB o m (fun j=>eQ ((aw fc n' acc).get j)) ay)=aw fc n (aB o m acc ay):=kU uO ..
theorem ny (n n' o m:Nat) (acc ay:Nat->KV):aw fc n (aB o m acc (fun j=>eQ ((aw fc n' ay).get j)))=aw fc n (aB o m acc ay):=kV uO ..
structure eX where
 e0:dj
 e1:dj
 e2:dj
instance:Inhabited eX:=⟨⟨default,default,default⟩⟩
def ahn (x:eX):List KV:=[.int .i64 x.e0.e0,.int .i64 x.e0.e1,.int .i64 x.e0.e2,.int .i64 x.e1.e0,.int .i64 x.e1.e1,.int .i64 x.e1.e2,.int .i64 x.e2.e0,.int .i64 x.e2.e1,.int .i64 x.e2.e2]
def ij (x:eX):KV:=.agg (ahn x)
def aho (c:Nat->KV):eX:=⟨⟨aq (c 0),aq (c 1),aq (c 2)⟩,⟨aq (c 3),aq (c 4),aq (c 5)⟩,⟨aq (c 6),aq (c 7),aq (c 8)⟩⟩
def dH (v:KV):eX:=aho fun k=>v.cells.getD k .bh
theorem mm (x:eX):dH (ij x)=x:=rfl
theorem SM:dH .bh=default:=rfl
theorem gT (s:Sl eX) (v:eX):s.push v=aw dH (s.n+1) (ax s.n (fun i=>ij (s.get i)) (cY [ij v])):=(fR mm SM s v).symm
theorem gU (s t:Sl eX):s.join t=aw dH (s.n+t.n) (ax s.n (fun i=>ij (s.get i)) (fun i=>ij (t.get i))):=(gW mm s t).symm
theorem iK (l:List eX):Sl.lit l=aw dH l.length (cY (l.map ij)):=(jR mm SM l).symm
theorem iL (s:Sl eX) (i:Nat) (v:eX):s.set i v=aw dH s.n (bR (fun j=>ij (s.get j)) i (ij v)):=(jS mm s i v).symm
theorem fS (s t:Sl eX) (o m:Nat):s.qZ o m t=aw dH s.n (aB o m (fun j=>ij (s.get j)) (fun j=>ij (t.get j))):=(fP mm s t o m).symm
theorem iM (m n n' : Nat) (acc ay:Nat->KV):aw dH m (ax n (fun i=>ij ((aw dH n' acc).get i)) ay)=aw dH m (ax n acc ay):=kh mm ..
theorem iP (m n n' : Nat) (acc ay:Nat->KV):aw dH m (ax n acc (fun i=>ij ((aw dH n' ay).get i)))=aw dH m (ax n acc ay):=ki mm ..
theorem iQ (m n' i:Nat) (acc:Nat->KV) (v:KV):aw dH m (bR (fun j=>ij ((aw dH n' acc).get j)) i v)=aw dH m (bR acc i v):=kl mm ..
theorem iR (n n' o m:Nat) (acc ay:Nat->KV):aw dH n (aB o m (fun j=>ij ((aw dH n' acc).get j)) ay)=aw dH n (aB o m acc ay):=kU mm ..
theorem iU (n n' o m:Nat) (acc ay:Nat->KV):aw dH n (aB o m acc (fun j=>ij ((aw dH n' ay).get j)))=aw dH n (aB o m acc ay):=kV mm ..
structure fe where
 x:Int
 y:Int
 z:Int
instance:Inhabited fe:=⟨⟨default,default,default⟩⟩
def aqO (x:fe):List KV:=[.int .i64 x.x,.int .i64 x.y,.int .i64 x.z]
def oG (x:fe):KV:=.agg (aqO x)
def aqP (c:Nat->KV):fe:=⟨aq (c 0),aq (c 1),aq (c 2)⟩
def ko (v:KV):fe:=aqP fun k=>v.cells.getD k .bh
theorem FN (x:fe):ko (oG x)=x:=rfl
theorem akE:ko .bh=default:=rfl
theorem rN (s:Sl fe) (v:fe):s.push v=aw ko (s.n+1) (ax s.n (fun i=>oG (s.get i)) (cY [oG v])):=(fR FN akE s v).symm
theorem sS (s t:Sl fe):s.join t=aw ko (s.n+t.n) (ax s.n (fun i=>oG (s.get i)) (fun i=>oG (t.get i))):=(gW FN s t).symm
theorem xJ (l:List fe):Sl.lit l=aw ko l.length (cY (l.map oG)):=(jR FN akE l).symm
theorem xK (s:Sl fe) (i:Nat) (v:fe):s.set i v=aw ko s.n (bR (fun j=>oG (s.get j)) i (oG v)):=(jS FN s i v).symm
theorem pS (s t:Sl fe) (o m:Nat):s.qZ o m t=aw ko s.n (aB o m (fun j=>oG (s.get j)) (fun j=>oG (t.get j))):=(fP FN s t o m).symm
theorem xL (m n n' : Nat) (acc ay:Nat->KV):aw ko m (ax n (fun i=>oG ((aw ko n' acc).get i)) ay)=aw ko m (ax n acc ay):=kh FN ..
theorem xM (m n n' : Nat) (acc ay:Nat->KV):aw ko m (ax n acc (fun i=>oG ((aw ko n' ay).get i)))=aw ko m (ax n acc ay):=ki FN ..
theorem xN (m n' i:Nat) (acc:Nat->KV) (v:KV):aw ko m (bR (fun j=>oG ((aw ko n' acc).get j)) i v)=aw ko m (bR acc i v):=kl FN ..
theorem xO (n n' o m:Nat) (acc ay:Nat->KV):aw ko n (aB o m (fun j=>oG ((aw ko n' acc).get j)) ay)=aw ko n (aB o m acc ay):=kU FN ..
theorem xP (n n' o m:Nat) (acc ay:Nat->KV):aw ko n (aB o m acc (fun j=>oG ((aw ko n' ay).get j)))=aw ko n (aB o m acc ay):=kV FN ..
structure fT where
 m:eX
 t:fe
instance:Inhabited fT:=⟨⟨default,default⟩⟩
def ann (x:fT):List KV:=[.int .i64 x.m.e0.e0,.int .i64 x.m.e0.e1,.int .i64 x.m.e0.e2,.int .i64 x.m.e1.e0,.int .i64 x.m.e1.e1,.int .i64 x.m.e1.e2,.int .i64 x.m.e2.e0,.int .i64 x.m.e2.e1,.int .i64 x.m.e2.e2,.int .i64 x.t.x,.int .i64 x.t.y,.int .i64 x.t.z]
def wI (x:fT):KV:=.agg (ann x)
def ano (c:Nat->KV):fT:=⟨⟨⟨aq (c 0),aq (c 1),aq (c 2)⟩,⟨aq (c 3),aq (c 4),aq (c 5)⟩,⟨aq (c 6),aq (c 7),aq (c 8)⟩⟩,⟨aq (c 9),aq (c 10),aq (c 11)⟩⟩
def rE (v:KV):fT:=ano fun k=>v.cells.getD k .bh
theorem FO (x:fT):rE (wI x)=x:=rfl
theorem akF:rE .bh=default:=rfl
theorem sT (s:Sl fT) (v:fT):s.push v=aw rE (s.n+1) (ax s.n (fun i=>wI (s.get i)) (cY [wI v])):=(fR FO akF s v).symm
theorem sU (s t:Sl fT):s.join t=aw rE (s.n+t.n) (ax s.n (fun i=>wI (s.get i)) (fun i=>wI (t.get i))):=(gW FO s t).symm
theorem xQ (l:List fT):Sl.lit l=aw rE l.length (cY (l.map wI)):=(jR FO akF l).symm
theorem xR (s:Sl fT) (i:Nat) (v:fT):s.set i v=aw rE s.n (bR (fun j=>wI (s.get j)) i (wI v)):=(jS FO s i v).symm
theorem pT (s t:Sl fT) (o m:Nat):s.qZ o m t=aw rE s.n (aB o m (fun j=>wI (s.get j)) (fun j=>wI (t.get j))):=(fP FO s t o m).symm
theorem xS (m n n' : Nat) (acc ay:Nat->KV):aw rE m (ax n (fun i=>wI ((aw rE n' acc).get i)) ay)=aw rE m (ax n acc ay):=kh FO ..
theorem xT (m n n' : Nat) (acc ay:Nat->KV):aw rE m (ax n acc (fun i=>wI ((aw rE n' ay).get i)))=aw rE m (ax n acc ay):=ki FO ..
theorem xU (m n' i:Nat) (acc:Nat->KV) (v:KV):aw rE m (bR (fun j=>wI ((aw rE n' acc).get j)) i v)=aw rE m (bR acc i v):=kl FO ..
theorem xV (n n' o m:Nat) (acc ay:Nat->KV):aw rE n (aB o m (fun j=>wI ((aw rE n' acc).get j)) ay)=aw rE n (aB o m acc ay):=kU FO ..
theorem xW (n n' o m:Nat) (acc ay:Nat->KV):aw rE n (aB o m acc (fun j=>wI ((aw rE n' ay).get j)))=aw rE n (aB o m acc ay):=kV FO ..
structure DJ where
 e0:Int
 e1:Int
 e2:Int
 e3:Int
 e4:Int
instance:Inhabited DJ:=⟨⟨default,default,default,default,default⟩⟩
def aoo (x:DJ):List KV:=[.int .u8 x.e0,.int .u8 x.e1,.int .u8 x.e2,.int .u8 x.e3,.int .u8 x.e4]
def wZ (x:DJ):KV:=.agg (aoo x)
def aop (c:Nat->KV):DJ:=⟨aq (c 0),aq (c 1),aq (c 2),aq (c 3),aq (c 4)⟩
def n3 (v:KV):DJ:=aop fun k=>v.cells.getD k .bh
theorem yc (x:DJ):n3 (wZ x)=x:=rfl
theorem aee:n3 .bh=default:=rfl
theorem nz (s:Sl DJ) (v:DJ):s.push v=aw n3 (s.n+1) (ax s.n (fun i=>wZ (s.get i)) (cY [wZ v])):=(fR yc aee s v).symm
theorem nA (s t:Sl DJ):s.join t=aw n3 (s.n+t.n) (ax s.n (fun i=>wZ (s.get i)) (fun i=>wZ (t.get i))):=(gW yc s t).symm
theorem pU (l:List DJ):Sl.lit l=aw n3 l.length (cY (l.map wZ)):=(jR yc aee l).symm
theorem pV (s:Sl DJ) (i:Nat) (v:DJ):s.set i v=aw n3 s.n (bR (fun j=>wZ (s.get j)) i (wZ v)):=(jS yc s i v).symm
theorem ln (s t:Sl DJ) (o m:Nat):s.qZ o m t=aw n3 s.n (aB o m (fun j=>wZ (s.get j)) (fun j=>wZ (t.get j))):=(fP yc s t o m).symm
theorem pW (m n n' : Nat) (acc ay:Nat->KV):aw n3 m (ax n (fun i=>wZ ((aw n3 n' acc).get i)) ay)=aw n3 m (ax n acc ay):=kh yc ..
theorem pX (m n n' : Nat) (acc ay:Nat->KV):aw n3 m (ax n acc (fun i=>wZ ((aw n3 n' ay).get i)))=aw n3 m (ax n acc ay):=ki yc ..
theorem pY (m n' i:Nat) (acc:Nat->KV) (v:KV):aw n3 m (bR (fun j=>wZ ((aw n3 n' acc).get j)) i v)=aw n3 m (bR acc i v):=kl yc ..
theorem pZ (n n' o m:Nat) (acc ay:Nat->KV):aw n3 n (aB o m (fun j=>wZ ((aw n3 n' acc).get j)) ay)=aw n3 n (aB o m acc ay):=kU yc ..
theorem p0 (n n' o m:Nat) (acc ay:Nat->KV):aw n3 n (aB o m acc (fun j=>wZ ((aw n3 n' ay).get j)))=aw n3 n (aB o m acc ay):=kV yc ..
structure Color where
 e0:Int
 e1:Int
 e2:Int
 e3:Int
instance:Inhabited Color:=⟨⟨default,default,default,default⟩⟩
def aoq (x:Color):List KV:=[.int .u8 x.e0,.int .u8 x.e1,.int .u8 x.e2,.int .u8 x.e3]
def vh (x:Color):KV:=.agg (aoq x)
def aor (c:Nat->KV):Color:=⟨aq (c 0),aq (c 1),aq (c 2),aq (c 3)⟩
def mB (v:KV):Color:=aor fun k=>v.cells.getD k .bh
theorem yd (x:Color):mB (vh x)=x:=rfl
theorem aef:mB .bh=default:=rfl
theorem nB (s:Sl Color) (v:Color):s.push v=aw mB (s.n+1) (ax s.n (fun i=>vh (s.get i)) (cY [vh v])):=(fR yd aef s v).symm
theorem nC (s t:Sl Color):s.join t=aw mB (s.n+t.n) (ax s.n (fun i=>vh (s.get i)) (fun i=>vh (t.get i))):=(gW yd s t).symm
theorem p8 (l:List Color):Sl.lit l=aw mB l.length (cY (l.map vh)):=(jR yd aef l).symm
theorem p9 (s:Sl Color) (i:Nat) (v:Color):s.set i v=aw mB s.n (bR (fun j=>vh (s.get j)) i (vh v)):=(jS yd s i v).symm
theorem lq (s t:Sl Color) (o m:Nat):s.qZ o m t=aw mB s.n (aB o m (fun j=>vh (s.get j)) (fun j=>vh (t.get j))):=(fP yd s t o m).symm
theorem qa (m n n' : Nat) (acc ay:Nat->KV):aw mB m (ax n (fun i=>vh ((aw mB n' acc).get i)) ay)=aw mB m (ax n acc ay):=kh yd ..
theorem qb (m n n' : Nat) (acc ay:Nat->KV):aw mB m (ax n acc (fun i=>vh ((aw mB n' ay).get i)))=aw mB m (ax n acc ay):=ki yd ..
theorem qc (m n' i:Nat) (acc:Nat->KV) (v:KV):aw mB m (bR (fun j=>vh ((aw mB n' acc).get j)) i v)=aw mB m (bR acc i v):=kl yd ..
theorem qd (n n' o m:Nat) (acc ay:Nat->KV):aw mB n (aB o m (fun j=>vh ((aw mB n' acc).get j)) ay)=aw mB n (aB o m acc ay):=kU yd ..
theorem qe (n n' o m:Nat) (acc ay:Nat->KV):aw mB n (aB o m acc (fun j=>vh ((aw mB n' ay).get j)))=aw mB n (aB o m acc ay):=kV yd ..
structure kq where
 color:Color
 dL:Int
 o9:Int
 ob:Int
 kC:Bool
 bin:Int
instance:Inhabited kq:=⟨by constructor<;>exact default⟩
def ai0 (x:kq):List KV:=[.int .u8 x.color.e0,.int .u8 x.color.e1,.int .u8 x.color.e2,.int .u8 x.color.e3,.int .i64 x.dL,.int .u8 x.o9,.int .i64 x.ob,.bool x.kC,.int .i64 x.bin]
def yv (x:kq):KV:=.agg (ai0 x)
def ai1 (c:Nat->KV):kq:=⟨⟨aq (c 0),aq (c 1),aq (c 2),aq (c 3)⟩,aq (c 4),aq (c 5),aq (c 6),eL (c 7),aq (c 8)⟩
def rb (v:KV):kq:=ai1 fun k=>v.cells.getD k .bh
theorem Bu (x:kq):rb (yv x)=x:=rfl
theorem ahp:rb .bh=default:=rfl
theorem qf (s:Sl kq) (v:kq):s.push v=aw rb (s.n+1) (ax s.n (fun i=>yv (s.get i)) (cY [yv v])):=(fR Bu ahp s v).symm
theorem qg (s t:Sl kq):s.join t=aw rb (s.n+t.n) (ax s.n (fun i=>yv (s.get i)) (fun i=>yv (t.get i))):=(gW Bu s t).symm
theorem sX (l:List kq):Sl.lit l=aw rb l.length (cY (l.map yv)):=(jR Bu ahp l).symm
theorem sZ (s:Sl kq) (i:Nat) (v:kq):s.set i v=aw rb s.n (bR (fun j=>yv (s.get j)) i (yv v)):=(jS Bu s i v).symm
theorem nD (s t:Sl kq) (o m:Nat):s.qZ o m t=aw rb s.n (aB o m (fun j=>yv (s.get j)) (fun j=>yv (t.get j))):=(fP Bu s t o m).symm
theorem s0 (m n n' : Nat) (acc ay:Nat->KV):aw rb m (ax n (fun i=>yv ((aw rb n' acc).get i)) ay)=aw rb m (ax n acc ay):=kh Bu ..
theorem s5 (m n n' : Nat) (acc ay:Nat->KV):aw rb m (ax n acc (fun i=>yv ((aw rb n' ay).get i)))=aw rb m (ax n acc ay):=ki Bu ..
theorem s9 (m n' i:Nat) (acc:Nat->KV) (v:KV):aw rb m (bR (fun j=>yv ((aw rb n' acc).get j)) i v)=aw rb m (bR acc i v):=kl Bu ..
theorem ta (n n' o m:Nat) (acc ay:Nat->KV):aw rb n (aB o m (fun j=>yv ((aw rb n' acc).get j)) ay)=aw rb n (aB o m acc ay):=kU Bu ..
theorem tf (n n' o m:Nat) (acc ay:Nat->KV):aw rb n (aB o m acc (fun j=>yv ((aw rb n' ay).get j)))=aw rb n (aB o m acc ay):=kV Bu ..
structure dv where
 cl:DJ
 look:kq
instance:Inhabited dv:=⟨⟨default,default⟩⟩
def afv (x:dv):List KV:=[.int .u8 x.cl.e0,.int .u8 x.cl.e1,.int .u8 x.cl.e2,.int .u8 x.cl.e3,.int .u8 x.cl.e4,.int .u8 x.look.color.e0,.int .u8 x.look.color.e1,.int .u8 x.look.color.e2,.int .u8 x.look.color.e3,.int .i64 x.look.dL,.int .u8 x.look.o9,.int .i64 x.look.ob,.bool x.look.kC,.int .i64 x.look.bin]
def oQ (x:dv):KV:=.agg (afv x)
def afw (c:Nat->KV):dv:=⟨⟨aq (c 0),aq (c 1),aq (c 2),aq (c 3),aq (c 4)⟩,⟨⟨aq (c 5),aq (c 6),aq (c 7),aq (c 8)⟩,aq (c 9),aq (c 10),aq (c 11),eL (c 12),aq (c 13)⟩⟩
def iB (v:KV):dv:=afw fun k=>v.cells.getD k .bh
theorem ye (x:dv):iB (oQ x)=x:=rfl
theorem aeg:iB .bh=default:=rfl
theorem lU (s:Sl dv) (v:dv):s.push v=aw iB (s.n+1) (ax s.n (fun i=>oQ (s.get i)) (cY [oQ v])):=(fR ye aeg s v).symm
theorem nE (s t:Sl dv):s.join t=aw iB (s.n+t.n) (ax s.n (fun i=>oQ (s.get i)) (fun i=>oQ (t.get i))):=(gW ye s t).symm
theorem qh (l:List dv):Sl.lit l=aw iB l.length (cY (l.map oQ)):=(jR ye aeg l).symm
theorem qi (s:Sl dv) (i:Nat) (v:dv):s.set i v=aw iB s.n (bR (fun j=>oQ (s.get j)) i (oQ v)):=(jS ye s i v).symm
theorem lr (s t:Sl dv) (o m:Nat):s.qZ o m t=aw iB s.n (aB o m (fun j=>oQ (s.get j)) (fun j=>oQ (t.get j))):=(fP ye s t o m).symm
theorem qj (m n n' : Nat) (acc ay:Nat->KV):aw iB m (ax n (fun i=>oQ ((aw iB n' acc).get i)) ay)=aw iB m (ax n acc ay):=kh ye ..
theorem qk (m n n' : Nat) (acc ay:Nat->KV):aw iB m (ax n acc (fun i=>oQ ((aw iB n' ay).get i)))=aw iB m (ax n acc ay):=ki ye ..
theorem ql (m n' i:Nat) (acc:Nat->KV) (v:KV):aw iB m (bR (fun j=>oQ ((aw iB n' acc).get j)) i v)=aw iB m (bR acc i v):=kl ye ..
theorem qm (n n' o m:Nat) (acc ay:Nat->KV):aw iB n (aB o m (fun j=>oQ ((aw iB n' acc).get j)) ay)=aw iB n (aB o m acc ay):=kU ye ..
theorem qo (n n' o m:Nat) (acc ay:Nat->KV):aw iB n (aB o m acc (fun j=>oQ ((aw iB n' ay).get j)))=aw iB n (aB o m acc ay):=kV ye ..
structure Node where
 kind:Int
 mP:fT
 rf:Int
 eR:fe
 fw:(Sl Int)
 fA:Int
 bH:dv
instance:Inhabited Node:=⟨by constructor<;>exact default⟩
def anp (x:Node):List KV:=[.int .u8 x.kind,.int .i64 x.mP.m.e0.e0,.int .i64 x.mP.m.e0.e1,.int .i64 x.mP.m.e0.e2,.int .i64 x.mP.m.e1.e0,.int .i64 x.mP.m.e1.e1,.int .i64 x.mP.m.e1.e2,.int .i64 x.mP.m.e2.e0,.int .i64 x.mP.m.e2.e1,.int .i64 x.mP.m.e2.e2,.int .i64 x.mP.t.x,.int .i64 x.mP.t.y,.int .i64 x.mP.t.z,.int .u16 x.rf,.int .i64 x.eR.x,.int .i64 x.eR.y,.int .i64 x.eR.z,dq 3 (kI .i64) x.fw,.int .i64 x.fA,.int .u8 x.bH.cl.e0,.int .u8 x.bH.cl.e1,.int .u8 x.bH.cl.e2,.int .u8 x.bH.cl.e3,.int .u8 x.bH.cl.e4,.int .u8 x.bH.look.color.e0,.int .u8 x.bH.look.color.e1,.int .u8 x.bH.look.color.e2,.int .u8 x.bH.look.color.e3,.int .i64 x.bH.look.dL,.int .u8 x.bH.look.o9,.int .i64 x.bH.look.ob,.bool x.bH.look.kC,.int .i64 x.bH.look.bin]
def rW (x:Node):KV:=.agg (anp x)
def anq (c:Nat->KV):Node:=⟨aq (c 0),⟨⟨⟨aq (c 1),aq (c 2),aq (c 3)⟩,⟨aq (c 4),aq (c 5),aq (c 6)⟩,⟨aq (c 7),aq (c 8),aq (c 9)⟩⟩,⟨aq (c 10),aq (c 11),aq (c 12)⟩⟩,aq (c 13),⟨aq (c 14),aq (c 15),aq (c 16)⟩,dM aq (c 17),aq (c 18),⟨⟨aq (c 19),aq (c 20),aq (c 21),aq (c 22),aq (c 23)⟩,⟨⟨aq (c 24),aq (c 25),aq (c 26),aq (c 27)⟩,aq (c 28),aq (c 29),aq (c 30),eL (c 31),aq (c 32)⟩⟩⟩
def kW (v:KV):Node:=anq fun k=>v.cells.getD k .bh
theorem Bv (x:Node):kW (rW x)=x:=rfl
theorem ahq:kW .bh=default:=rfl
theorem qp (s:Sl Node) (v:Node):s.push v=aw kW (s.n+1) (ax s.n (fun i=>rW (s.get i)) (cY [rW v])):=(fR Bv ahq s v).symm
theorem qq (s t:Sl Node):s.join t=aw kW (s.n+t.n) (ax s.n (fun i=>rW (s.get i)) (fun i=>rW (t.get i))):=(gW Bv s t).symm
theorem tg (l:List Node):Sl.lit l=aw kW l.length (cY (l.map rW)):=(jR Bv ahq l).symm
theorem th (s:Sl Node) (i:Nat) (v:Node):s.set i v=aw kW s.n (bR (fun j=>rW (s.get j)) i (rW v)):=(jS Bv s i v).symm
theorem nF (s t:Sl Node) (o m:Nat):s.qZ o m t=aw kW s.n (aB o m (fun j=>rW (s.get j)) (fun j=>rW (t.get j))):=(fP Bv s t o m).symm
theorem ti (m n n' : Nat) (acc ay:Nat->KV):aw kW m (ax n (fun i=>rW ((aw kW n' acc).get i)) ay)=aw kW m (ax n acc ay):=kh Bv ..
theorem tj (m n n' : Nat) (acc ay:Nat->KV):aw kW m (ax n acc (fun i=>rW ((aw kW n' ay).get i)))=aw kW m (ax n acc ay):=ki Bv ..
theorem tl (m n' i:Nat) (acc:Nat->KV) (v:KV):aw kW m (bR (fun j=>rW ((aw kW n' acc).get j)) i v)=aw kW m (bR acc i v):=kl Bv ..
theorem tq (n n' o m:Nat) (acc ay:Nat->KV):aw kW n (aB o m (fun j=>rW ((aw kW n' acc).get j)) ay)=aw kW n (aB o m acc ay):=kU Bv ..
theorem tt (n n' o m:Nat) (acc ay:Nat->KV):aw kW n (aB o m acc (fun j=>rW ((aw kW n' ay).get j)))=aw kW n (aB o m acc ay):=kV Bv ..
structure kJ where
 e0:Int
 e1:Int
instance:Inhabited kJ:=⟨⟨default,default⟩⟩
def anr (x:kJ):List KV:=[.int .i64 x.e0,.int .i64 x.e1]
def jx (x:kJ):KV:=.agg (anr x)
def ans (c:Nat->KV):kJ:=⟨aq (c 0),aq (c 1)⟩
def fG (v:KV):kJ:=ans fun k=>v.cells.getD k .bh
theorem uQ (x:kJ):fG (jx x)=x:=rfl
theorem ab6:fG .bh=default:=rfl
theorem lu (s:Sl kJ) (v:kJ):s.push v=aw fG (s.n+1) (ax s.n (fun i=>jx (s.get i)) (cY [jx v])):=(fR uQ ab6 s v).symm
theorem j7 (s t:Sl kJ):s.join t=aw fG (s.n+t.n) (ax s.n (fun i=>jx (s.get i)) (fun i=>jx (t.get i))):=(gW uQ s t).symm
theorem lV (l:List kJ):Sl.lit l=aw fG l.length (cY (l.map jx)):=(jR uQ ab6 l).symm
theorem nG (s:Sl kJ) (i:Nat) (v:kJ):s.set i v=aw fG s.n (bR (fun j=>jx (s.get j)) i (jx v)):=(jS uQ s i v).symm
theorem jX (s t:Sl kJ) (o m:Nat):s.qZ o m t=aw fG s.n (aB o m (fun j=>jx (s.get j)) (fun j=>jx (t.get j))):=(fP uQ s t o m).symm
theorem lW (m n n' : Nat) (acc ay:Nat->KV):aw fG m (ax n (fun i=>jx ((aw fG n' acc).get i)) ay)=aw fG m (ax n acc ay):=kh uQ ..
theorem nH (m n n' : Nat) (acc ay:Nat->KV):aw fG m (ax n acc (fun i=>jx ((aw fG n' ay).get i)))=aw fG m (ax n acc ay):=ki uQ ..
theorem nI (m n' i:Nat) (acc:Nat->KV) (v:KV):aw fG m (bR (fun j=>jx ((aw fG n' acc).get j)) i v)=aw fG m (bR acc i v):=kl uQ ..
theorem nJ (n n' o m:Nat) (acc ay:Nat->KV):aw fG n (aB o m (fun j=>jx ((aw fG n' acc).get j)) ay)=aw fG n (aB o m acc ay):=kU uQ ..
theorem nK (n n' o m:Nat) (acc ay:Nat->KV):aw fG n (aB o m acc (fun j=>jx ((aw fG n' ay).get j)))=aw fG n (aB o m acc ay):=kV uQ ..
structure Prim where
 kind:Int
 index:(Sl Int)
instance:Inhabited Prim:=⟨⟨default,default⟩⟩
def ant (x:Prim):List KV:=[.int .u8 x.kind,dq 3 (kI .i64) x.index]
def vU (x:Prim):KV:=.agg (ant x)
def anu (c:Nat->KV):Prim:=⟨aq (c 0),dM aq (c 1)⟩
def mC (v:KV):Prim:=anu fun k=>v.cells.getD k .bh
theorem Bw (x:Prim):mC (vU x)=x:=rfl
theorem ahr:mC .bh=default:=rfl
theorem qt (s:Sl Prim) (v:Prim):s.push v=aw mC (s.n+1) (ax s.n (fun i=>vU (s.get i)) (cY [vU v])):=(fR Bw ahr s v).symm
theorem qu (s t:Sl Prim):s.join t=aw mC (s.n+t.n) (ax s.n (fun i=>vU (s.get i)) (fun i=>vU (t.get i))):=(gW Bw s t).symm
theorem tu (l:List Prim):Sl.lit l=aw mC l.length (cY (l.map vU)):=(jR Bw ahr l).symm
theorem tv (s:Sl Prim) (i:Nat) (v:Prim):s.set i v=aw mC s.n (bR (fun j=>vU (s.get j)) i (vU v)):=(jS Bw s i v).symm
theorem nL (s t:Sl Prim) (o m:Nat):s.qZ o m t=aw mC s.n (aB o m (fun j=>vU (s.get j)) (fun j=>vU (t.get j))):=(fP Bw s t o m).symm
theorem tw (m n n' : Nat) (acc ay:Nat->KV):aw mC m (ax n (fun i=>vU ((aw mC n' acc).get i)) ay)=aw mC m (ax n acc ay):=kh Bw ..
theorem tz (m n n' : Nat) (acc ay:Nat->KV):aw mC m (ax n acc (fun i=>vU ((aw mC n' ay).get i)))=aw mC m (ax n acc ay):=ki Bw ..
theorem tA (m n' i:Nat) (acc:Nat->KV) (v:KV):aw mC m (bR (fun j=>vU ((aw mC n' acc).get j)) i v)=aw mC m (bR acc i v):=kl Bw ..
theorem tB (n n' o m:Nat) (acc ay:Nat->KV):aw mC n (aB o m (fun j=>vU ((aw mC n' acc).get j)) ay)=aw mC n (aB o m acc ay):=kU Bw ..
theorem tC (n n' o m:Nat) (acc ay:Nat->KV):aw mC n (aB o m acc (fun j=>vU ((aw mC n' ay).get j)))=aw mC n (aB o m acc ay):=kV Bw ..
structure gE where
 az:(Sl fe)
 uV:(Sl kJ)
 gd:(Sl Prim)
instance:Inhabited gE:=⟨⟨default,default,default⟩⟩
def XT (x:gE):List KV:=[dq 36 oG x.az,dq 125 jx x.uV,dq 120 vU x.gd]
def uR (x:gE):KV:=.agg (XT x)
def XU (c:Nat->KV):gE:=⟨dM ko (c 0),dM fG (c 1),dM mC (c 2)⟩
def kX (v:KV):gE:=XU fun k=>v.cells.getD k .bh
theorem Bx (x:gE):kX (uR x)=x:=rfl
theorem ahs:kX .bh=default:=rfl
theorem qv (s:Sl gE) (v:gE):s.push v=aw kX (s.n+1) (ax s.n (fun i=>uR (s.get i)) (cY [uR v])):=(fR Bx ahs s v).symm
theorem qw (s t:Sl gE):s.join t=aw kX (s.n+t.n) (ax s.n (fun i=>uR (s.get i)) (fun i=>uR (t.get i))):=(gW Bx s t).symm
theorem tD (l:List gE):Sl.lit l=aw kX l.length (cY (l.map uR)):=(jR Bx ahs l).symm
theorem tE (s:Sl gE) (i:Nat) (v:gE):s.set i v=aw kX s.n (bR (fun j=>uR (s.get j)) i (uR v)):=(jS Bx s i v).symm
theorem nM (s t:Sl gE) (o m:Nat):s.qZ o m t=aw kX s.n (aB o m (fun j=>uR (s.get j)) (fun j=>uR (t.get j))):=(fP Bx s t o m).symm
theorem tF (m n n' : Nat) (acc ay:Nat->KV):aw kX m (ax n (fun i=>uR ((aw kX n' acc).get i)) ay)=aw kX m (ax n acc ay):=kh Bx ..
theorem tG (m n n' : Nat) (acc ay:Nat->KV):aw kX m (ax n acc (fun i=>uR ((aw kX n' ay).get i)))=aw kX m (ax n acc ay):=ki Bx ..
theorem tH (m n' i:Nat) (acc:Nat->KV) (v:KV):aw kX m (bR (fun j=>uR ((aw kX n' acc).get j)) i v)=aw kX m (bR acc i v):=kl Bx ..
theorem tI (n n' o m:Nat) (acc ay:Nat->KV):aw kX n (aB o m (fun j=>uR ((aw kX n' acc).get j)) ay)=aw kX n (aB o m acc ay):=kU Bx ..
theorem tJ (n n' o m:Nat) (acc ay:Nat->KV):aw kX n (aB o m acc (fun j=>uR ((aw kX n' ay).get j)))=aw kX n (aB o m acc ay):=kV Bx ..
structure gX where
 w:Int
 h:Int
 VZ:(Sl Color)
instance:Inhabited gX:=⟨⟨default,default,default⟩⟩
def alz (x:gX):List KV:=[.int .i64 x.w,.int .i64 x.h,dq 58 vh x.VZ]
def jJ (x:gX):KV:=.agg (alz x)
def alA (c:Nat->KV):gX:=⟨aq (c 0),aq (c 1),dM mB (c 2)⟩
def eS (v:KV):gX:=alA fun k=>v.cells.getD k .bh
theorem rF (x:gX):eS (jJ x)=x:=rfl
theorem Zh:eS .bh=default:=rfl
theorem jY (s:Sl gX) (v:gX):s.push v=aw eS (s.n+1) (ax s.n (fun i=>jJ (s.get i)) (cY [jJ v])):=(fR rF Zh s v).symm
theorem jZ (s t:Sl gX):s.join t=aw eS (s.n+t.n) (ax s.n (fun i=>jJ (s.get i)) (fun i=>jJ (t.get i))):=(gW rF s t).symm
theorem lx (l:List gX):Sl.lit l=aw eS l.length (cY (l.map jJ)):=(jR rF Zh l).symm
theorem ly (s:Sl gX) (i:Nat) (v:gX):s.set i v=aw eS s.n (bR (fun j=>jJ (s.get j)) i (jJ v)):=(jS rF s i v).symm
theorem iV (s t:Sl gX) (o m:Nat):s.qZ o m t=aw eS s.n (aB o m (fun j=>jJ (s.get j)) (fun j=>jJ (t.get j))):=(fP rF s t o m).symm
theorem lz (m n n' : Nat) (acc ay:Nat->KV):aw eS m (ax n (fun i=>jJ ((aw eS n' acc).get i)) ay)=aw eS m (ax n acc ay):=kh rF ..
theorem lA (m n n' : Nat) (acc ay:Nat->KV):aw eS m (ax n acc (fun i=>jJ ((aw eS n' ay).get i)))=aw eS m (ax n acc ay):=ki rF ..
theorem lB (m n' i:Nat) (acc:Nat->KV) (v:KV):aw eS m (bR (fun j=>jJ ((aw eS n' acc).get j)) i v)=aw eS m (bR acc i v):=kl rF ..
theorem lC (n n' o m:Nat) (acc ay:Nat->KV):aw eS n (aB o m (fun j=>jJ ((aw eS n' acc).get j)) ay)=aw eS n (aB o m acc ay):=kU rF ..
theorem lD (n n' o m:Nat) (acc ay:Nat->KV):aw eS n (aB o m acc (fun j=>jJ ((aw eS n' ay).get j)))=aw eS n (aB o m acc ay):=kV rF ..
structure aA where
 graph:fF
 nodes:(Sl Node)
 eo:(Sl gE)
 j8:(Sl gX)
 root:Handle
instance:Inhabited aA:=⟨⟨default,default,default,default,default⟩⟩
def w4 (x:aA):List KV:=[dq 139 vP x.graph.cA.cL,dq 47 (dq 32 fy) x.graph.kids,dq 64 rW x.nodes,dq 79 uR x.eo,dq 118 jJ x.j8,.int .i64 x.root.slot,.int .i64 x.root.gen]
def iY (x:aA):KV:=.agg (w4 x)
def w5 (c:Nat->KV):aA:=⟨⟨⟨dM nW (c 0)⟩,dM (dM dV) (c 1)⟩,dM kW (c 2),dM kX (c 3),dM eS (c 4),⟨aq (c 5),aq (c 6)⟩⟩
def dC (v:KV):aA:=w5 fun k=>v.cells.getD k .bh
theorem yf (x:aA):dC (iY x)=x:=rfl
theorem aeh:dC .bh=default:=rfl
theorem nN (s:Sl aA) (v:aA):s.push v=aw dC (s.n+1) (ax s.n (fun i=>iY (s.get i)) (cY [iY v])):=(fR yf aeh s v).symm
theorem nP (s t:Sl aA):s.join t=aw dC (s.n+t.n) (ax s.n (fun i=>iY (s.get i)) (fun i=>iY (t.get i))):=(gW yf s t).symm
theorem qx (l:List aA):Sl.lit l=aw dC l.length (cY (l.map iY)):=(jR yf aeh l).symm
theorem qy (s:Sl aA) (i:Nat) (v:aA):s.set i v=aw dC s.n (bR (fun j=>iY (s.get j)) i (iY v)):=(jS yf s i v).symm
theorem lE (s t:Sl aA) (o m:Nat):s.qZ o m t=aw dC s.n (aB o m (fun j=>iY (s.get j)) (fun j=>iY (t.get j))):=(fP yf s t o m).symm
theorem qz (m n n' : Nat) (acc ay:Nat->KV):aw dC m (ax n (fun i=>iY ((aw dC n' acc).get i)) ay)=aw dC m (ax n acc ay):=kh yf ..
theorem qA (m n n' : Nat) (acc ay:Nat->KV):aw dC m (ax n acc (fun i=>iY ((aw dC n' ay).get i)))=aw dC m (ax n acc ay):=ki yf ..
theorem qB (m n' i:Nat) (acc:Nat->KV) (v:KV):aw dC m (bR (fun j=>iY ((aw dC n' acc).get j)) i v)=aw dC m (bR acc i v):=kl yf ..
theorem qC (n n' o m:Nat) (acc ay:Nat->KV):aw dC n (aB o m (fun j=>iY ((aw dC n' acc).get j)) ay)=aw dC n (aB o m acc ay):=kU yf ..
theorem qD (n n' o m:Nat) (acc ay:Nat->KV):aw dC n (aB o m acc (fun j=>iY ((aw dC n' ay).get j)))=aw dC n (aB o m acc ay):=kV yf ..
structure nQ where
 t2:Bool
 n:Int
 many:(Sl Int)
 step:Int
 s:aA
instance:Inhabited nQ:=⟨⟨default,default,default,default,default⟩⟩
def E8 (x:nQ):List KV:=[.bool x.t2,.int .i64 x.n,dq 3 (kI .i64) x.many,.int .i64 x.step]
def E9 (x:nQ):List (List KV):=[w4 x.s]
def MM (vs:List KV) (rs:List (List KV)):nQ:=⟨eL (v9 vs 0),aq (v9 vs 1),dM aq (v9 vs 2),aq (v9 vs 3),w5 (r9 rs 0)⟩
def OO:aJ:=⟨[(2,w9 b9),(3,w9 i9),(4,⟨false,[.arr 3]⟩),(5,w9 i9)],[(1,[n9 139,n9 47,n9 64,n9 79,n9 118,i9,i9],1)],[(1,0,0)]⟩
structure ib where
 t2:Bool
 n:Int
 many:(Sl Int)
 step:Int
 ff:(Sl Int)
 i:Int
 s:aA
instance:Inhabited ib:=⟨by constructor<;>exact default⟩
def Cp (x:ib):List KV:=[.bool x.t2,.int .i64 x.n,dq 3 (kI .i64) x.many,.int .i64 x.step,dq 3 (kI .i64) x.ff,.int .i64 x.i]
def Cq (x:ib):List (List KV):=[w4 x.s]
def Jv (vs:List KV) (rs:List (List KV)):ib:=⟨eL (v9 vs 0),aq (v9 vs 1),dM aq (v9 vs 2),aq (v9 vs 3),dM aq (v9 vs 4),aq (v9 vs 5),w5 (r9 rs 0)⟩
def KT:aJ:=⟨[(2,w9 b9),(3,w9 i9),(4,⟨false,[.arr 3]⟩),(5,w9 i9),(6,⟨false,[.arr 3]⟩),(7,w9 i9)],[(1,[n9 139,n9 47,n9 64,n9 79,n9 118,i9,i9],1)],[(1,0,0)]⟩
structure fB where
 t2:Bool
 n:Int
 many:(Sl Int)
 step:Int
 ff:(Sl Int)
 i:Int
 k:Int
 s:aA
instance:Inhabited fB:=⟨by constructor<;>exact default⟩
def yw (x:fB):List KV:=[.bool x.t2,.int .i64 x.n,dq 3 (kI .i64) x.many,.int .i64 x.step,dq 3 (kI .i64) x.ff,.int .i64 x.i,.int .i64 x.k]
def yx (x:fB):List (List KV):=[w4 x.s]
def Ex (vs:List KV) (rs:List (List KV)):fB:=⟨eL (v9 vs 0),aq (v9 vs 1),dM aq (v9 vs 2),aq (v9 vs 3),dM aq (v9 vs 4),aq (v9 vs 5),aq (v9 vs 6),w5 (r9 rs 0)⟩
def Ga:aJ:=⟨[(2,w9 b9),(3,w9 i9),(4,⟨false,[.arr 3]⟩),(5,w9 i9),(6,⟨false,[.arr 3]⟩),(7,w9 i9),(8,w9 i9)],[(1,[n9 139,n9 47,n9 64,n9 79,n9 118,i9,i9],1)],[(1,0,0)]⟩
def Ph:=AP [] [] 17 16403018 Ga
def mD (x:fB):aW fB:=(cond (cond (ak x.ff.n x.ff.n) (ak x.many.n x.many.n) false) (.next ⟨x.t2,x.n,x.many,x.step,x.ff,x.i,(aK (x.k+1)),x.s⟩) .fail)
def gY (x:fB):aW fB:=(cond ((decide (0<=x.i))&&(decide (x.i < (x.s.graph.kids.n:Int)))) (cond (decide (x.k < ((x.s.graph.kids.get (Int.toNat x.i)).n:Int))) (cond (decide (x.k < 1000)) (cond ((decide (0<=x.i))&&(decide (x.i < (x.s.graph.kids.n:Int)))) (cond ((decide (0<=x.k))&&(decide (x.k < ((x.s.graph.kids.get (Int.toNat x.i)).n:Int)))) (cond (decide (((x.s.graph.kids.get (Int.toNat x.i)).get (Int.toNat x.k)).slot >= 0)) (cond (decide (((x.s.graph.kids.get (Int.toNat x.i)).get (Int.toNat x.k)).slot < x.n)) (cond ((decide (0<=x.i))&&(decide (x.i < (x.ff.n:Int)))) (cond ((decide (0<=((x.s.graph.kids.get (Int.toNat x.i)).get (Int.toNat x.k)).slot))&&(decide (((x.s.graph.kids.get (Int.toNat x.i)).get (Int.toNat x.k)).slot < (x.many.n:Int)))) (cond ((decide (0<=x.i))&&(decide (x.i < (x.ff.n:Int)))) (cond (cond (ak x.ff.n x.ff.n) (ak x.many.n x.many.n) false) (.next ⟨x.t2,x.n,x.many,x.step,(x.ff.set (0+(Int.toNat x.i)) (min (aK ((x.ff.get (0+(Int.toNat x.i)))+(x.many.get (0+(Int.toNat ((x.s.graph.kids.get (Int.toNat x.i)).get (Int.toNat x.k)).slot))))) 100000)),x.i,(aK (x.k+1)),x.s⟩) .fail) .fail) .fail) .fail)
     (mD x))
    (mD x)) .fail) .fail) (cond (cond (ak x.ff.n x.ff.n) (ak x.many.n x.many.n) false) (.out (aG.ah.exit 4) x) .fail)) (cond (cond (ak x.ff.n x.ff.n) (ak x.many.n x.many.n) false) (.out (aG.ah.exit 4) x) .fail)) .fail)
theorem MN (x:fB):Ph (yw x) (yx x)=aW.enc yw yx (gY x):=by
 unfold gY mD
 try simp only [aW.cw,um]
 kernel_rfl
def ur:Lp:=⟨17,16403018,Ga,fun vs rs=>dK yw yx (goN gY (Ex vs rs)) [aG.ah.exit 4],false⟩
theorem yy:ur.Ok PG:=Bs ai.nil bj.nil (pa:=Ex) MN
def Uc:=AP [] [ur] 17 64074 KT
def aY (x:ib):=goN gY ⟨x.t2,x.n,x.many,x.step,(x.ff.set (0+(Int.toNat x.i)) 1),x.i,0,x.s⟩
def ik (x:ib):aW ib:=(cond (decide (x.i < x.n)) (cond ((decide (0<=x.i))&&(decide (x.i < (x.ff.n:Int)))) (cond (cond (ak x.ff.n x.ff.n) (ak x.many.n x.many.n) false) (cond ((aY x).by (aG.ah.exit 4)) (cond ((decide (0<=(aY x).st.i))&&(decide ((aY x).st.i < ((aY x).st.ff.n:Int)))) (cond (decide (((aY x).st.ff.get (0+(Int.toNat (aY x).st.i))) > 10000)) (cond (cond (ak (aY x).st.ff.n (aY x).st.ff.n) (ak (aY x).st.many.n (aY x).st.many.n) false) (.out aG.ah.ret ⟨true,(aY x).st.n,(aY x).st.many,(aY x).st.step,(aY x).st.ff,(aY x).st.i,(aY x).st.s⟩) .fail) (cond (cond (ak (aY x).st.ff.n (aY x).st.ff.n) (ak (aY x).st.many.n (aY x).st.many.n) false) (.next ⟨(aY x).st.t2,(aY x).st.n,(aY x).st.many,(aY x).st.step,(aY x).st.ff,(aK ((aY x).st.i+1)),(aY x).st.s⟩) .fail)) .fail) .fail) .fail) .fail) (cond (cond (ak x.ff.n x.ff.n) (ak x.many.n x.many.n) false) (.out (aG.ah.exit 2) x) .fail))
theorem Qp (x:ib):Uc (Cp x) (Cq x)=aW.enc Cp Cq (ik x):=by
 unfold ik
 try simp only [aW.cw,aY,um]
 kernel_rfl
def DK:Lp:=⟨17,64074,KT,fun vs rs=>dK Cp Cq (goN ik (Jv vs rs)) [aG.ah.exit 2,aG.ah.ret],false⟩
theorem Jw:DK.Ok PG:=Bs ai.nil (rM yy bj.nil) (pa:=Jv) Qp
def XV:=AP [] [ur,DK] 17 250 OO
def dm (x:nQ):=goN ik ⟨x.t2,x.n,x.many,x.step,⟨(Int.toNat x.n),(fun i=>0)⟩,0,x.s⟩
def ov (x:nQ):aW nQ:=(cond (decide (x.step < 18)) (cond (((decide (0<=x.n))&&(decide (x.n<=x.n)))&&(Nat.ble (8 * (Int.toNat x.n)) 281474976710656)) (cond (cond (ak (Int.toNat x.n) (Int.toNat x.n)) (ak x.many.n x.many.n) false) (cond ((dm x).by (aG.ah.exit 2)) (cond (ak (dm x).st.ff.n (dm x).st.ff.n) (.next ⟨(dm x).st.t2,(dm x).st.n,(dm x).st.ff,(aK ((dm x).st.step+1)),(dm x).st.s⟩) .fail) (cond ((dm x).by aG.ah.ret) (cond (ak (dm x).st.many.n (dm x).st.many.n) (.out aG.ah.ret ⟨(dm x).st.t2,(dm x).st.n,(dm x).st.many,(dm x).st.step,(dm x).st.s⟩) .fail) .fail)) .fail) .fail) (cond (ak x.many.n x.many.n) (.out (aG.ah.exit 0) x) .fail))
theorem Ud (x:nQ):XV (E8 x) (E9 x)=aW.enc E8 E9 (ov x):=by
 unfold ov
 try simp only [aW.cw]
 kernel_rfl
def OP:Lp:=⟨17,250,OO,fun vs rs=>dK E8 E9 (goN ov (MM vs rs)) [aG.ah.exit 0,aG.ah.ret],false⟩
theorem XW:OP.Ok PG:=Bs ai.nil (rM yy (rM Jw bj.nil)) (pa:=MM) Ud
def FQ (s:aA):=goN ov ⟨false,(s.graph.kids.n:Int),⟨(Int.toNat (s.graph.kids.n:Int)),(fun i=>0)⟩,0,s⟩
def CT (s:aA):Option (Bool):=(cond (decide ((s.graph.kids.n:Int) > 300)) (some (true)) (cond ((decide ((s.graph.kids.n:Int)<=(s.graph.kids.n:Int)))&&(Nat.ble (8 * (Int.toNat (s.graph.kids.n:Int))) 281474976710656)) (cond (ak (Int.toNat (s.graph.kids.n:Int)) (Int.toNat (s.graph.kids.n:Int))) (cond ((FQ s).by (aG.ah.exit 0)) (some (false)) (cond ((FQ s).by aG.ah.ret) (some ((FQ s).st.t2)) none)) none) none))
theorem adh (s:aA):ou [] [ur,DK,OP] 17 [iY s] = (CT s).map kB:=by
 unfold CT
 try simp only [bG]
 kernel_rfl
def KU:List KV->KR KV:=bC PG 17 (bO kB fun vs=>CT (dC (v9 vs 0)))
theorem Jx:bB PG 17 KU:=dE ai.nil (rM yy (rM Jw (rM XW bj.nil))) fun w=>adh (dC (g0 34 (w 0)))
structure ow where
 t2:Bool
 n:Int
 i:Int
 g:fF
instance:Inhabited ow:=⟨⟨default,default,default,default⟩⟩
def DL (x:ow):List KV:=[.bool x.t2,.int .i64 x.n,.int .i64 x.i]
def DM (x:ow):List (List KV):=[akC x.g]
def KW (vs:List KV) (rs:List (List KV)):ow:=⟨eL (v9 vs 0),aq (v9 vs 1),aq (v9 vs 2),akD (r9 rs 0)⟩
def MO:aJ:=⟨[(2,w9 b9),(3,w9 i9),(4,w9 i9)],[(1,[n9 139,n9 47],1)],[(1,0,0)]⟩
def V1:=AP [] [] 18 122 MO
def mL (x:ow):aW ow:=(cond (decide (x.i < (x.g.kids.n:Int))) (cond ((decide (0<=x.i))&&(decide (x.i < (x.g.kids.n:Int)))) (cond (decide ((aK (x.n+((x.g.kids.get (Int.toNat x.i)).n:Int))) > 400)) (.out aG.ah.ret ⟨true,(aK (x.n+((x.g.kids.get (Int.toNat x.i)).n:Int))),x.i,x.g⟩) (.next ⟨x.t2,(aK (x.n+((x.g.kids.get (Int.toNat x.i)).n:Int))),(aK (x.i+1)),x.g⟩)) .fail) (.out (aG.ah.exit 0) x))
theorem RX (x:ow):V1 (DL x) (DM x)=aW.enc DL DM (mL x):=by
 unfold mL
 try simp only [aW.cw]
 kernel_rfl
def MP:Lp:=⟨18,122,MO,fun vs rs=>dK DL DM (goN mL (KW vs rs)) [aG.ah.exit 0,aG.ah.ret],false⟩
theorem V2:MP.Ok PG:=Bs ai.nil bj.nil (pa:=KW) RX
def DN (g:fF):=goN mL ⟨false,0,0,g⟩
def uu (g:fF):Option (Bool):=(cond (decide ((g.cA.cL.n:Int) > 200)) (some (true)) (cond (decide ((g.kids.n:Int) > 200)) (some (true)) (cond ((DN g).by (aG.ah.exit 0)) (some (false)) (cond ((DN g).by aG.ah.ret) (some ((DN g).st.t2)) none))))
theorem ab7 (g:fF):ou [] [MP] 18 [se g] = (uu g).map kB:=by
 unfold uu
 try simp only [bG]
 kernel_rfl
def Ic:List KV->KR KV:=bC PG 18 (bO kB fun vs=>uu (jO (v9 vs 0)))
theorem GM:bB PG 18 Ic:=dE ai.nil (rM V2 bj.nil) fun w=>ab7 (jO (g0 27 (w 0)))
structure qE where
 l:(Sl gX)
 t2:Bool
 n:Int
 i:Int
instance:Inhabited qE:=⟨⟨default,default,default,default⟩⟩
def Fa (x:qE):List KV:=[dq 118 jJ x.l,.bool x.t2,.int .i64 x.n,.int .i64 x.i]
def Fb (x:qE):List (List KV):=[]
def MQ (vs:List KV) (rs:List (List KV)):qE:=⟨dM eS (v9 vs 0),eL (v9 vs 1),aq (v9 vs 2),aq (v9 vs 3)⟩
def OQ:aJ:=⟨[(0,w9 (n9 118)),(2,w9 b9),(3,w9 i9),(4,w9 i9)],[],[]⟩
def XX:=AP [] [] 19 58 OQ
def ox (x:qE):aW qE:=(cond (decide (x.i < (x.l.n:Int))) (cond (decide (x.i < 100)) (cond ((decide (0<=x.i))&&(decide (x.i < (x.l.n:Int)))) (.next ⟨x.l,x.t2,(aK (x.n+(min ((x.l.get (Int.toNat x.i)).VZ.n:Int) 100000))),(aK (x.i+1))⟩) .fail) (.out (aG.ah.exit 0) x)) (.out (aG.ah.exit 0) x))
theorem Ue (x:qE):XX (Fa x) (Fb x)=aW.enc Fa Fb (ox x):=by
 unfold ox
 try simp only [aW.cw]
 kernel_rfl
def OS:Lp:=⟨19,58,OQ,fun vs rs=>dK Fa Fb (goN ox (MQ vs rs)) [aG.ah.exit 0],false⟩
theorem XY:OS.Ok PG:=Bs ai.nil bj.nil (pa:=MQ) Ue
def DP (l:(Sl gX)):=goN ox ⟨l,false,0,0⟩
def uv (l:(Sl gX)):Option (Bool):=(cond ((DP l).by (aG.ah.exit 0)) (cond (decide (((DP l).st.l.n:Int) > 40)) (some (true)) (some ((decide ((DP l).st.n > 20000))))) none)
theorem ab8 (l:(Sl gX)):ou [] [OS] 19 [(dq 118 jJ) l] = (uv l).map kB:=by
 unfold uv
 try simp only [bG]
 kernel_rfl
def Ie:List KV->KR KV:=bC PG 19 (bO kB fun vs=>uv ((dM eS) (v9 vs 0)))
theorem GN:bB PG 19 Ie:=dE ai.nil (rM XY bj.nil) fun w=>ab8 ((dM eS) (g0 30 (w 0)))
structure nR where
 t2:Bool
 i:Int
 m:gE
instance:Inhabited nR:=⟨⟨default,default,default⟩⟩
def Fe (x:nR):List KV:=[.bool x.t2,.int .i64 x.i]
def Ff (x:nR):List (List KV):=[XT x.m]
def MR (vs:List KV) (rs:List (List KV)):nR:=⟨eL (v9 vs 0),aq (v9 vs 1),XU (r9 rs 0)⟩
def OT:aJ:=⟨[(2,w9 b9),(3,w9 i9)],[(1,[n9 36,n9 125,n9 120],1)],[(1,0,0)]⟩
def XZ:=AP [] [] 20 58 OT
def iC (x:nR):aW nR:=(cond (decide (x.i < (x.m.gd.n:Int))) (cond ((decide (0<=x.i))&&(decide (x.i < (x.m.gd.n:Int)))) (cond (decide (((x.m.gd.get (Int.toNat x.i)).index.n:Int) > 1000)) (.out aG.ah.ret ⟨true,x.i,x.m⟩) (.next ⟨x.t2,(aK (x.i+1)),x.m⟩)) .fail) (.out (aG.ah.exit 0) x))
theorem Uf (x:nR):XZ (Fe x) (Ff x)=aW.enc Fe Ff (iC x):=by
 unfold iC
 try simp only [aW.cw]
 kernel_rfl
def OU:Lp:=⟨20,58,OT,fun vs rs=>dK Fe Ff (goN iC (MR vs rs)) [aG.ah.exit 0,aG.ah.ret],false⟩
theorem X0:OU.Ok PG:=Bs ai.nil bj.nil (pa:=MR) Uf
def DQ (m:gE):=goN iC ⟨false,0,m⟩
def w6 (m:gE):Option (Bool):=(cond (decide ((m.az.n:Int) > 1000)) (some (true)) (cond (decide ((m.uV.n:Int) > 1000)) (some (true)) (cond (decide ((m.gd.n:Int) > 100)) (some (true)) (cond ((DQ m).by (aG.ah.exit 0)) (some (false)) (cond ((DQ m).by aG.ah.ret) (some ((DQ m).st.t2)) none)))))
theorem ab9 (m:gE):ou [] [OU] 20 [uR m] = (w6 m).map kB:=by
 unfold w6
 try simp only [bG]
 kernel_rfl
def Ig:List KV->KR KV:=bC PG 20 (bO kB fun vs=>w6 (kX (v9 vs 0)))
theorem GP:bB PG 20 Ig:=dE ai.nil (rM X0 bj.nil) fun w=>ab9 (kX (g0 79 (w 0)))
structure lX where
 t2:Bool
 i:Int
 s:aA
instance:Inhabited lX:=⟨⟨default,default,default⟩⟩
def DR (x:lX):List KV:=[.bool x.t2,.int .i64 x.i]
def DS (x:lX):List (List KV):=[w4 x.s]
def KX (vs:List KV) (rs:List (List KV)):lX:=⟨eL (v9 vs 0),aq (v9 vs 1),w5 (r9 rs 0)⟩
def MS:aJ:=⟨[(2,w9 b9),(3,w9 i9)],[(1,[n9 139,n9 47,n9 64,n9 79,n9 118,i9,i9],1)],[(1,0,0)]⟩
def V3:=AP [(20,Ig),(19,Ie),(18,Ic),(17,KU)] [] 7 122 MS
def gM (x:lX):aW lX:=(cond (decide (x.i < (x.s.nodes.n:Int))) (cond ((decide (0<=x.i))&&(decide (x.i < (x.s.nodes.n:Int)))) (cond (decide (((x.s.nodes.get (Int.toNat x.i)).fw.n:Int) > 200)) (.out aG.ah.ret ⟨true,x.i,x.s⟩) (.next ⟨x.t2,(aK (x.i+1)),x.s⟩)) .fail) (.out (aG.ah.exit 0) x))
theorem RY (x:lX):V3 (DR x) (DS x)=aW.enc DR DS (gM x):=by
 unfold gM
 try simp only [aW.cw]
 kernel_rfl
def Fg:Lp:=⟨7,122,MS,fun vs rs=>dK DR DS (goN gM (KX vs rs)) [aG.ah.exit 0,aG.ah.ret],false⟩
theorem KY:Fg.Ok PG:=Bs (ai.cons GP (ai.cons GN (ai.cons GM (ai.cons Jx ai.nil)))) bj.nil (pa:=KX) RY
structure j9 where
 t2:Bool
 i:Int
 s:aA
instance:Inhabited j9:=⟨⟨default,default,default⟩⟩
def DT (x:j9):List KV:=[.bool x.t2,.int .i64 x.i]
def DU (x:j9):List (List KV):=[w4 x.s]
def K0 (vs:List KV) (rs:List (List KV)):j9:=⟨eL (v9 vs 0),aq (v9 vs 1),w5 (r9 rs 0)⟩
def MT:aJ:=⟨[(2,w9 b9),(4,w9 i9)],[(1,[n9 139,n9 47,n9 64,n9 79,n9 118,i9,i9],1)],[(1,0,0)]⟩
def V4:=AP [(20,Ig),(19,Ie),(18,Ic),(17,KU)] [Fg] 7 250 MT
def Cr (x:j9):=w6 (x.s.eo.get (Int.toNat x.i))
def gN (x:j9):aW j9:=(cond (decide (x.i < (x.s.eo.n:Int))) (cond ((decide (0<=x.i))&&(decide (x.i < (x.s.eo.n:Int)))) (cond (Cr x).isSome (cond ((Cr x).getD default) (.out aG.ah.ret ⟨true,x.i,x.s⟩) (.next ⟨x.t2,(aK (x.i+1)),x.s⟩)) .fail) .fail) (.out (aG.ah.exit 2) x))
theorem RZ (x:j9):V4 (DT x) (DU x)=aW.enc DT DU (gN x):=by
 unfold gN
 try simp only [aW.cw]
 kernel_rfl
def MU:Lp:=⟨7,250,MT,fun vs rs=>dK DT DU (goN gN (K0 vs rs)) [aG.ah.exit 2,aG.ah.ret],false⟩
theorem V5:MU.Ok PG:=Bs (ai.cons GP (ai.cons GN (ai.cons GM (ai.cons Jx ai.nil)))) (rM KY bj.nil) (pa:=K0) RZ
def Jy (s:aA):=CT s
def Jz (s:aA):=uu s.graph
def JA (s:aA):=uv s.j8
def vV (s:aA):=goN gM ⟨false,0,s⟩
def DV (s:aA):=goN gN ⟨(vV s).st.t2,0,(vV s).st.s⟩
def zV (s:aA):Option (Bool):=(cond (Jy s).isSome (cond ((Jy s).getD default) (some (true)) (cond (Jz s).isSome (cond ((Jz s).getD default) (some (true)) (cond (decide ((s.nodes.n:Int) > 200)) (some (true)) (cond (decide ((s.eo.n:Int) > 60)) (some (true)) (cond (decide ((s.j8.n:Int) > 60)) (some (true)) (cond (JA s).isSome (cond ((JA s).getD default) (some (true)) (cond ((vV s).by (aG.ah.exit 0)) (cond ((DV s).by (aG.ah.exit 2)) (some (false)) (cond ((DV s).by aG.ah.ret) (some ((DV s).st.t2)) none)) (cond ((vV s).by aG.ah.ret) (some ((vV s).st.t2)) none))) none))))) none)) none)
theorem aca (s:aA):ou [(20,Ig),(19,Ie),(18,Ic),(17,KU)] [Fg,MU] 7 [iY s] = (zV s).map kB:=by
 unfold zV
 try simp only [bG]
 kernel_rfl
def Ih:List KV->KR KV:=bC PG 7 (bO kB fun vs=>zV (dC (v9 vs 0)))
theorem GQ:bB PG 7 Ih:=dE (ai.cons GP (ai.cons GN (ai.cons GM (ai.cons Jx ai.nil)))) (rM KY (rM V5 bj.nil)) fun w=>aca (dC (g0 34 (w 0)))
end
end Go.Proofs.Ytckbdndhmcoihaa.b
end
section
namespace Go.K
open Go Go.aG
variable {P:Program} {E:Env}
theorem VC.akG {ρ:Ren} {cs:List KV} {u:Value} (h:VC P E ρ (.agg cs) u):∃ l,u = .agg ⟨l⟩/\rU P E ρ cs l:=by
 obtain ⟨u',h1,h2⟩:=h;obtain ⟨l,rfl,q⟩:=h1.kQ;obtain ⟨l',e,h3⟩:=h2.kQ;exact ⟨l'.toList,e,l,q,h3⟩
theorem IC {A:ae} {B:St} {ρ:Ren} {base:Nat} {w:World} (hj:KJ P E A B ρ base w) {T:TypeId} {m:Mk} {n:Nat} {es:List KV} {acc:Nat->KV} {u:Value} (h:VC P E ρ (.ts T m n es acc) u) :
  ∃ a c,u = .slice a n c/\∀ i,i < n->∃ b off,a=some ⟨b,off,none⟩/\b < w.heap.size/\∀ k c',(acc i).cells[k]? = some c'->∃ z,w.cell? ⟨b,off+i * aU P T+k,none⟩=some z/\VC P E ρ c' z:=by
 obtain ⟨u',hk,hr⟩:=h;obtain ⟨ht,bo,TH,a,cap,rfl,ajM,NL,_⟩:=hk.lh;cases a with
 | none=>
  have:=hr.ga;subst this;refine ⟨none,cap,rfl,fun i hi=>?_⟩;rcases NL with ⟨_,h0⟩ | ⟨b,off,r,e,_⟩
  ·omega
  ·simp at e
 | some a=>
  obtain ⟨Gv,HR,lc,a',c',hl,vw,Lt,mR,rfl⟩:=hr.lK;refine ⟨some a',c',rfl,fun i hi=>?_⟩;rcases NL with ⟨e,_⟩ | ⟨b,off,r,e,hz,dT,aqQ⟩
  ·simp at e
  ·simp only [bQ] at e
   subst e;have fv:=hj.k.z b r hz;obtain ⟨l,vb,ok⟩:=hj.s.rel.row _ _ _ _ _ fv;rw [hl] at vb;have:=HI vb;subst this;have WQ:i < es.length:=by have:=ht.len; omega
   refine ⟨lc.cb,lc.dw+off,by rw [Lt (by omega)],ok.lN,fun k c1 hc1=>?_⟩;have hg:es[i]? = some (acc i):=by
    rw [ht.acc i (by omega),fH,cJ WQ];rfl
   obtain ⟨y,hy,hvy⟩:=TH.get hg;have hkn:=(gq (gL ht.typed hg)).2;obtain ⟨hys,hyc⟩:=aqQ i y hy;obtain ⟨z,Lr,C5⟩:=(hvy.cells hkn).get hc1;have:=hyc k z (by simpa using Lr);obtain ⟨z',q1,q2,_⟩:=ok.cells _ z this;exact ⟨z',by rw [show lc.dw+off+i * aU P T+k=lc.dw+(off+i * aU P T+k) by omega]; exact q1,z,C5,q2⟩
end Go.K
end
section
namespace Go.K
open Go Go.aG
variable {P:Program} {E:Env}
def Trie.aht {α β:Type} (f:α->β):Trie α->Trie β
 | .leaf=>.leaf
 | .node v l r=>.node (v.map f) (Trie.aht f l) (Trie.aht f r)
theorem Trie.X1 {α β:Type} (f:α->β):∀ (t:Trie α) (n:Nat),(Trie.aht f t).get n=(t.get n).map f
 | .leaf,n=>rfl
 | .node v l r,n=>by
  rw [Trie.get_eq,Trie.get_eq];cases n with
  | zero=>rfl
  | succ m=>
   have hl:=Trie.X1 f l (Nat.div m 2);have hr:=Trie.X1 f r (Nat.div m 2);rw [Trie.get_eq,Trie.get_eq] at hl hr;simp only [Trie.aht,Trie.Da];cases Nat.beq (Nat.mod m 2) 0 with
   | true=>exact hl
   | false=>exact hr
def ct.still:ct->ct
 | .row cs bp _ _=>.row cs bp false none
 | _=>.dead
def St.still (B:St):St:=⟨Trie.aht ct.still B.heap,B.next,0,.leaf⟩
theorem St.acb (B:St) (b:Nat):(St.still B).get b=(B.get b).map ct.still:=Trie.X1 _ _ _
theorem St.ai2 (B:St) (g:Nat):(St.still B).members g = []:=rfl
def Env.still (E:Env):Env:={ κ:=fun _=>Option.none,z:=fun b=>(E.z b).map fun r=>{ r with own:=false,bN:=Option.none },φ:=fun _=>Option.none,α:=fun _=>Option.none }
theorem Env.alB (E:Env):ZF E E.still:=fun b r e=>⟨{ r with own:=false,bN:=Option.none },by simp [Env.still,e],rfl,rfl⟩
theorem St.Ug {B:St} {b:Nat} {o:ct} (h:(St.still B).get b=some o) (hd:o≠.dead):∃ cs bp own bN,B.get b=some (.row cs bp own bN)/\o = .row cs bp false none:=by
 rw [St.acb] at h;cases hb:B.get b with
 | none=>rw [hb] at h; simp at h
 | some x=>
  rw [hb] at h;have h:some (ct.still x)=some o:=h;have h:=HI h;cases x <;> first
   | exact ⟨_,_,_,_,rfl,h.symm⟩
   | exact absurd h.symm hd
theorem St.Zi {B:St} {b:Nat} {o:ct} (h:(St.still B).get b=some o):o.eH=false:=by
 by_cases hd:o = .dead
 ·subst hd; rfl
 ·obtain ⟨_,_,_,_,_,rfl⟩:=St.Ug h hd
  rfl
theorem St.ai3 {B:St} {b:Nat} {o:ct} (h:(St.still B).get b=some o):o.lM=none:=by
 by_cases hd:o = .dead
 ·subst hd; rfl
 ·obtain ⟨_,_,_,_,_,rfl⟩:=St.Ug h hd
  rfl
theorem vu.still {ρ:Ren} {B:St} {base:Nat} {w:World} (h:vu ρ B base w):vu ρ (St.still B) w.heap.size w:=by
 refine ⟨.FC (fun b o hg hd=>?_) (fun b1 b2 o1 o2 l1 l2 _ h1 _ hm=>?_) (fun b o aP f hg hk=>?_),h.jP,aC _,h.IU⟩
 ·obtain ⟨cs,bp,own,bN,e,rfl⟩:=St.Ug hg hd
  obtain ⟨l,e2,ok⟩:=h.rel.row _ _ _ _ _ e;refine ⟨l,e2,?_⟩;exact ⟨ok.cells,fun _=>ok.lN,fun e=>by simp at e,fun e=>by simp at e,ok.fits,fun e=>by simp at e,ok.bp,ok.lN,fun e=>by simp at e⟩
 ·rw [St.Zi h1] at hm; simp at hm
 ·rw [St.ai3 hg] at hk; simp at hk
theorem dr.still {A:ae} {B:St} (h:dr P E A B):dr P E.still .empty (St.still B) where
 row b cs bp hb:=by simp [ae.empty,ae.get] at hb
 aP b top sz hb:=by simp [ae.empty,ae.get] at hb
 z b r e:=by
  simp only [Env.still,cj] at e;obtain ⟨r0,e,rfl⟩:=e;rw [St.acb,h.z b r0 e];rfl
 apart b x e:=by simp [Env.still] at e
 inj b c x e:=by simp [Env.still] at e
 gK b c g _ _ _ _ _ _ e:=by simp [Env.still] at e
 jP b x e:=by simp [Env.still] at e
 kR b g e:=by simp [Env.still] at e
 live b o hb:=by simp [ae.empty,ae.get] at hb
 eV b x e:=by simp [Env.still] at e
 lJ b r e:=by
  simp only [Env.still,cj] at e;obtain ⟨r0,e,rfl⟩:=e;exact h.lJ b r0 e
 iv b g e:=by simp [Env.still] at e
 fresh g _:=rfl
 mem g x hx:=by rw [St.ai2] at hx; simp at hx
 ar:=by
  have hn:∀ b v,¬ ae.empty.get b=some (.arr v):=fun b v hb=>by simp [ae.empty,ae.get] at hb
  exact ⟨fun b v hb=>(hn b v hb).elim,fun b v hb=>by simp [ae.empty,ae.get] at hb,fun x ⟨b,v,_,_,hb,_⟩=>(hn b v hb).elim,fun b c v u x L N L' N' hb=>(hn b v hb).elim,fun b c v u x y L N L' N' cs e own g k bP e' rC k' hb=>(hn b v hb).elim,fun b x e=>by simp [Env.still] at e,fun b p e=>by simp [Env.still] at e,fun b x L N e=>by simp [Env.still] at e,fun b v x L N cs e own g k hb=>(hn b v hb).elim,fun b v hb=>(hn b v hb).elim⟩
theorem Zj {A:ae} {B:St} {ρ:Ren} {base:Nat} {w W:World} (hj:KJ P E A B ρ base w) (hw:RowKit.Below w.heap.size w W) {g:FuncId} {F:List KV->KR KV} (hpu:bB P g F) {args:List KV} {v:KV} {dY:List Value}
  (hF:aI (F (normArgs P (bT P g) (normArgs P (bT P g) args))) v) (hlen:args.length=(bT P g).length) (hv:rU P E ρ args dY) :
  Calls P g dY.toArray W fun e W'=>∃ v' E' aF,e = .returned v'/\VC P E' aF v v'/\RowKit.Below W.heap.size W W':=by
 have hs:=vu.still (jb.below hj.s hw).fY;obtain ⟨m,h1,h2⟩:=hv;have Dh:rU P E.still ρ (normArgs P (bT P g) args) dY:=⟨m,aV.NW (Env.alB E) h1 hlen,h2⟩
 obtain ⟨_,lI⟩:=hpu _ v hF (MG hlen);refine (lI E.still .empty (St.still B) ρ W.heap.size W dY Dh ⟨hj.k.still,hs⟩).mono ?_;rintro e W' ⟨v',E',B',aF,rfl,q1,q2⟩;refine ⟨v',E',aF,rfl,q1,?_⟩;have k:=q2.eJ.kept;refine ⟨k.os,k.tape,k.output,k.size,fun j hj=>k.block j hj ?_⟩;rintro ⟨b,o,l,ho,hm,_⟩;rw [St.Zi ho] at hm;simp at hm
theorem V6 {g:FuncId} {R:Type} [Inhabited R] {k:R->KV} {r:List KV->Option R} {arD:List KV} {x:R} (ha:mc P (bT P g) arD=true) (hr:r arD=some x):aI (bC P g (bO k r) arD) (k x):=by
 unfold bC bO;rw [ha,hr];exact ⟨rfl,rfl⟩
theorem VC.cg {ρ:Ren} {k:IntKind} {n:Int} {v:Value} (h:VC P E ρ (.int k n) v):v = .int k n:=by
 obtain ⟨u,h1,h2⟩:=h;have h1:u = .int k n:=by simpa [VK] using h1
 subst h1;exact h2.cg
theorem rU.xX {ρ:Ren} {c:KV} {cs:List KV} {l:List Value} (h:rU P E ρ (c::cs) l):∃ x xs,l=x::xs/\VC P E ρ c x/\rU P E ρ cs xs:=by
 obtain ⟨m,h1,h2⟩:=h;obtain ⟨y,ys,rfl,h3,h4⟩:=h1.cons_inv;obtain ⟨z,zs,rfl,h5,h6⟩:=h2.cons_inv;exact ⟨z,zs,rfl,⟨y,h3,h5⟩,⟨ys,h4,h6⟩⟩
theorem rU.V7 {ρ:Ren} {l:List Value} (h:rU P E ρ [] l):l = []:=by
 obtain ⟨m,h1,h2⟩:=h;rw [h1.b6] at h2;exact h2.b6
theorem rU.Gb {ρ:Ren} {c:KV} {cs:List KV} {x:Value} {xs:List Value} (h:VC P E ρ c x) (h' : rU P E ρ cs xs):rU P E ρ (c::cs) (x::xs):=by
 obtain ⟨y,h1,h2⟩:=h;obtain ⟨ys,h3,h4⟩:=h';exact ⟨y::ys,.cons h1 h3,.cons h2 h4⟩
theorem rU.aal {ρ:Ren} : rU P E ρ [] []:=⟨[],.nil,.nil⟩
theorem VC.akH {ρ:Ren} {cs:List KV} {xs:List Value} (h:rU P E ρ cs xs):VC P E ρ (.agg cs) (.agg ⟨xs⟩):=by
 obtain ⟨ys,h3,h4⟩:=h;exact ⟨.agg ⟨ys⟩,by simp only [VK]; exact ⟨ys,rfl,h3⟩,by simp only [VR]; exact ⟨⟨xs⟩,by simpa [va] using h4,rfl⟩⟩
end Go.K
end
section
set_option maxRecDepth 20000
namespace Go.Proofs.Ytckbdndhmcoihaa.nodes
open Go Go.RowKit Go.Lib Go.Shelf Go.K
abbrev hp (h:b.Handle):Int×Int:=(h.slot,h.gen)
structure acd (q:G) (B:Nat) (W:World):Prop where
 kids:∀ i,i < q.kn->∃ b off,q.ka=some ⟨b,off,none⟩/\b < B/\W.cell? ⟨b,off+i,none⟩=some (.slice (q.ia i) (q.im i) (q.ic i))
 row:∀ i,i < q.kn->∀ k,k < q.im i->∃ b off,q.ia i=some ⟨b,off,none⟩/\b < B/\W.cell? ⟨b,off+k * 2,none⟩=some (.int .i64 (q.dW i k).1)/\W.cell? ⟨b,off+k * 2+1,none⟩=some (.int .i64 (q.dW i k).2)
theorem acd.with {q:G} {B:Nat} {W:World} (h:acd q B W) (hs:∀ i,i < q.kn->q.im i<=1000000):GAt q B W:=⟨h.kids,hs,h.row⟩
theorem acd.dR {q:G} {B mb:Nat} {W W' : World} (h:acd q B W) (k:Kp mb W W') (hB:B<=W.heap.size) (hm:B<=mb):acd q B W':=by
 refine ⟨fun i hi=>?_,fun i hi j hj=>?_⟩
 ·obtain ⟨b,off,h1,h2,h3⟩:=h.kids i hi
  exact ⟨b,off,h1,h2,by rw [k.cell (by omega) (by omega)]; exact h3⟩
 ·obtain ⟨b,off,h1,h2,h3,h4⟩:=h.row i hi j hj
  exact ⟨b,off,h1,h2,by rw [k.cell (by omega) (by omega)]; exact h3,by rw [k.cell (by omega) (by omega)]; exact h4⟩
structure Of (q:G) (g:b.fF) (B:Nat) (W:World):Prop where
 sn:q.sn=g.cA.cL.n
 kn:q.kn=g.kids.n
 im:∀ i,q.im i=(g.kids.get i).n
 dW:∀ i k,q.dW i k=hp ((g.kids.get i).get k)
 slot:∀ i,i < q.sn->∃ b off,q.sa=some ⟨b,off,none⟩/\b < B/\W.cell? ⟨b,off+i * 2,none⟩=some (.int .i64 (g.cA.cL.get i).gen)/\W.cell? ⟨b,off+i * 2+1,none⟩=some (.bool (g.cA.cL.get i).live)
theorem Of.dR {q:G} {g:b.fF} {B mb:Nat} {W W' : World} (h:Of q g B W) (k:Kp mb W W') (hB:B<=W.heap.size) (hm:B<=mb):Of q g B W':=by
 refine ⟨h.sn,h.kn,h.im,h.dW,fun i hi=>?_⟩;obtain ⟨b,off,h1,h2,h3,h4⟩:=h.slot i hi;exact ⟨b,off,h1,h2,by rw [k.cell (by omega) (by omega)]; exact h3,by rw [k.cell (by omega) (by omega)]; exact h4⟩
theorem aqS:aU Try.prog 47=1:=by kernel_rfl
theorem anv:aU Try.prog 32=2:=by kernel_rfl
theorem apR:aU Try.prog 139=2:=by kernel_rfl
theorem alC {E:Env} {A:ae} {B:aG.St} {ρ:aG.Ren} {base:Nat} {w:World} {g:b.fF} {u:Value} (hj:KJ Try.prog E A B ρ base w) (h:VC Try.prog E ρ (b.se g) u) :
  ∃ q:G,u=gv q/\acd q w.heap.size w/\Of q g w.heap.size w/\VC Try.prog E ρ (b.jw g.cA) (.agg #[.slice q.sa q.sn q.sc]):=by
 obtain ⟨l,rfl,hl⟩:=h.akG;obtain ⟨x,xs,rfl,h1,k7⟩:=hl.xX;obtain ⟨y,ys,rfl,h2,hl3⟩:=k7.xX;obtain rfl:=hl3.V7;obtain ⟨sa,sc,rfl,H1⟩:=IC hj h1;obtain ⟨ka,kc,rfl,H2⟩:=IC hj h2;have H3:∀ i,∃ p:Option Addr×Nat,i < g.kids.n->(∃ b off,ka=some ⟨b,off,none⟩/\b < w.heap.size/\w.cell? ⟨b,off+i,none⟩=some (.slice p.1 (g.kids.get i).n p.2))/\
   ∀ k,k < (g.kids.get i).n->∃ b off,p.1=some ⟨b,off,none⟩/\b < w.heap.size/\w.cell? ⟨b,off+k * 2,none⟩=some (.int .i64 ((g.kids.get i).get k).slot)/\w.cell? ⟨b,off+k * 2+1,none⟩=some (.int .i64 ((g.kids.get i).get k).gen):=by
  intro i;by_cases hi:i < g.kids.n
  ·obtain ⟨bb,off,e1,e2,e3⟩:=H2 i hi
   obtain ⟨z,z1,z2⟩:=e3 0 (dq 32 b.fy (g.kids.get i)) rfl;obtain ⟨a,c,rfl,H⟩:=IC hj z2;rw [aqS] at z1;refine ⟨(a,c),fun _=>⟨⟨bb,off,e1,e2,by rw [show off+i=off+i * 1+0 by omega]; exact z1⟩,fun k hk=>?_⟩⟩;obtain ⟨bc,anw,r1,r2,r3⟩:=H k hk;obtain ⟨z,s1,s2⟩:=r3 0 (.int .i64 ((g.kids.get i).get k).slot) rfl;obtain ⟨z',t1,t2⟩:=r3 1 (.int .i64 ((g.kids.get i).get k).gen) rfl;rw [anv] at s1 t1;rw [s2.cg] at s1;rw [t2.cg] at t1;exact ⟨bc,anw,r1,r2,s1,t1⟩
  ·exact ⟨(none,0),fun h=>absurd h hi⟩
 obtain ⟨f,hf⟩:=Classical.axiomOfChoice H3;refine ⟨⟨sa,g.cA.cL.n,sc,ka,g.kids.n,kc,fun i=>(f i).1,fun i=>(g.kids.get i).n,fun i=>(f i).2,fun i k=>hp ((g.kids.get i).get k)⟩,rfl,⟨fun i hi=>(hf i hi).1,fun i hi k hk=>(hf i hi).2 k hk⟩,⟨rfl,rfl,fun _=>rfl,fun _ _=>rfl,fun i hi=>?_⟩,.akH (.Gb h1 .aal)⟩;obtain ⟨bb,off,e1,e2,e3⟩:=H1 i hi;obtain ⟨z,s1,s2⟩:=e3 0 (.int .i64 (g.cA.cL.get i).gen) rfl;obtain ⟨z',t1,t2⟩:=e3 1 (.bool (g.cA.cL.get i).live) rfl;rw [apR] at s1 t1;rw [s2.cg] at s1;rw [t2.eK] at t1;exact ⟨bb,off,e1,e2,s1,t1⟩
theorem ahu {E:Env} {A:ae} {B:aG.St} {ρ:aG.Ren} {base:Nat} {w W:World} (hj:KJ Try.prog E A B ρ base w) (hw:Below w.heap.size w W) {a:b.j4} {x:Value} (hx:VC Try.prog E ρ (b.jw a) x) {n:Int} (hn:b.dU a=some n) :
  Calls Try.prog 70 #[x] W fun e W'=>e = .returned (.int .i64 n)/\Below W.heap.size W W':=by
 have ep:bT Try.prog 70 = [24]:=by kernel_rfl
 have en:normArgs Try.prog (bT Try.prog 70) (normArgs Try.prog (bT Try.prog 70) [b.jw a]) = [b.jw a]:=by rw [ep]; kernel_rfl
 refine (Zj hj hw b.KS (args:=[b.jw a]) (v:=kI .i64 n) (by rw [en]; exact V6 (by rw [ep]; kernel_rfl) hn) (by rw [ep]; rfl) (.Gb hx .aal)).mono ?_;rintro e W' ⟨v',E',aF,rfl,q1,q2⟩;exact ⟨by rw [q1.cg],q2⟩
theorem ahv {E:Env} {A:ae} {B:aG.St} {ρ:aG.Ren} {base:Nat} {w W:World} (hj:KJ Try.prog E A B ρ base w) (hw:Below w.heap.size w W) {a:b.j4} {x:Value} (hx:VC Try.prog E ρ (b.jw a) x) {h:Int×Int} {r:Bool} (hn:b.dz a ⟨h.1,h.2⟩=some r) :
  Calls Try.prog 49 #[x,hv h] W fun e W'=>e = .returned (.bool r)/\Below W.heap.size W W':=by
 have ep:bT Try.prog 49 = [24,32]:=by kernel_rfl
 have en:normArgs Try.prog (bT Try.prog 49) (normArgs Try.prog (bT Try.prog 49) [b.jw a,b.fy ⟨h.1,h.2⟩]) = [b.jw a,b.fy ⟨h.1,h.2⟩]:=by rw [ep]; kernel_rfl
 have hh:VC Try.prog E ρ (b.fy ⟨h.1,h.2⟩) (hv h):=.akH (.Gb ⟨_,.mkInt,by simp [aG.VR]⟩ (.Gb ⟨_,.mkInt,by simp [aG.VR]⟩ .aal));refine (Zj hj hw b.uq (args:=[b.jw a,b.fy ⟨h.1,h.2⟩]) (v:=kB r) (by rw [en]; exact V6 (by rw [ep]; kernel_rfl) hn) (by rw [ep]; rfl) (.Gb hx (.Gb hh .aal))).mono ?_;rintro e W' ⟨v',E',aF,rfl,q1,q2⟩;exact ⟨by rw [q1.eK],q2⟩
set_option maxHeartbeats 4000000 in
theorem rQ {E:Env} {A:ae} {B:aG.St} {ρ:aG.Ren} {base:Nat} {w W:World} (hj:KJ Try.prog E A B ρ base w) (hw:Below w.heap.size w W) {a:b.j4} {q:G} (hx:VC Try.prog E ρ (b.jw a) (.agg #[.slice q.sa q.sn q.sc])) (h:Int×Int) {r:Bool} (hn:b.dz a ⟨h.1,h.2⟩=some r)
  {bg:Nat} (hbg:bg < W.heap.size) (c0:W.cell? ⟨bg,0,none⟩=some (.slice q.sa q.sn q.sc)) :
  Calls Try.prog 71 #[hv h,.pointer (some ⟨bg,0,none⟩)] W fun e W'=>e = .returned (.bool (!r))/\Below W.heap.size W W':=by
 have mixed:=zT;have t32:=Try.underlying32; have a32:=Try.isAgg32; have z32:=Try.sizeOf32; have v32:=Try.zeroValue32; have u32:=run_underlying Try.underlying32;have t27:=Try.underlying27; have a27:=Try.isAgg27; have z27:=Try.sizeOf27; have v27:=Try.zeroValue27; have u27:=run_underlying Try.underlying27;have t24:=Try.underlying24; have a24:=Try.isAgg24; have z24:=Try.sizeOf24; have v24:=Try.zeroValue24; have u24:=run_underlying Try.underlying24;have t22:=Try.underlying22; have a22:=Try.isAgg22; have z22:=Try.sizeOf22; have v22:=Try.zeroValue22; have u22:=run_underlying Try.underlying22;have t4:=Try.underlying4; have a4:=Try.isAgg4; have z4:=Try.sizeOf4; have v4:=Try.zeroValue4; have u4:=run_underlying Try.underlying4;have hc:=ahv hj (W:=W.alloc (.cells #[.int .i64 h.1,.int .i64 h.2] 32)) (hw.alloc hw.size _) hx hn;have c1:(W.alloc (.cells #[.int .i64 h.1,.int .i64 h.2] 32)).cell? ⟨bg,0,none⟩=some (.slice q.sa q.sn q.sc):=((Kp.alloc (mb:=W.heap.size) W _).cell hbg (by omega)).trans c0
 go_enter Try.func71,Try.ntmps71
 go_wp2_with (go_at_call 49; refine hc.mono ?_; rintro e w' ⟨rfl,hk⟩)
 go_wp2
 go_ret
 exact ⟨rfl,(Below.refl _ _ |>.alloc (aC _) _).trans (hk.mono (by simp))⟩
set_option maxHeartbeats 4000000 in
theorem under (q:G) (B mb:Nat) (DG to:Int×Int) (U:List (Int×Int)) (hU:∀ u∈U,(0<=u.1/\u.1 < (q.kn:Int))/\∀ k,k < q.im u.1.toNat->q.dW u.1.toNat k∈U) (S:List (Int×Int)) (W:World)
  (hf:DG∈U) (hg:GAt q B W) (hB:B<=W.heap.size) (hm:B<=mb) (hM:MapAt mb W S) (ht:to ∉ S) {bg bs bt:Nat} (lg:bg < W.heap.size/\bg≠mb) (ls:bs < W.heap.size/\bs≠mb) (lt:bt < W.heap.size/\bt≠mb)
  (c0:W.cell? ⟨bg,0,none⟩=some (.slice q.sa q.sn q.sc)) (c1:W.cell? ⟨bg,1,none⟩=some (.slice q.ka q.kn q.kc)) (c2:W.cell? ⟨bs,0,none⟩=some (.map (some mb))) (c3:W.cell? ⟨bt,0,none⟩=some (.int .i64 to.1)) (c4:W.cell? ⟨bt,1,none⟩=some (.int .i64 to.2)) :
  Calls Try.prog 73 #[hv DG,.pointer (some ⟨bg,0,none⟩),.pointer (some ⟨bs,0,none⟩),.pointer (some ⟨bt,0,none⟩)] W fun e W'=>∃ S' r,e = .returned (.bool r)/\MapAt mb W' S'/\Kp mb W W'/\(r=true/\Reach q to DG\/r=false/\Grow q S DG S'/\to ∉ S'):=by
 have mixed:=zT;have t32:=Try.underlying32; have a32:=Try.isAgg32; have z32:=Try.sizeOf32; have v32:=Try.zeroValue32; have u32:=run_underlying Try.underlying32;have t27:=Try.underlying27; have a27:=Try.isAgg27; have z27:=Try.sizeOf27; have v27:=Try.zeroValue27; have u27:=run_underlying Try.underlying27;have t202:=Try.underlying172; have anh:=Try.isAgg172; have ani:=Try.sizeOf172; have anj:=Try.zeroValue172; have SK:=run_underlying Try.underlying172;have t4:=Try.underlying4; have a4:=Try.isAgg4; have z4:=Try.sizeOf4; have v4:=Try.zeroValue4; have u4:=run_underlying Try.underlying4;have W6:mb < W.heap.size:=by obtain ⟨es,c,h,_⟩:=hM; exact (r8.1 h).1
 have KA:=Kp.alloc (mb:=mb) W (.cells #[.int .i64 DG.1,.int .i64 DG.2] 32);have hM1:MapAt mb (W.alloc (.cells #[.int .i64 DG.1,.int .i64 DG.2] 32)) S:=by
  obtain ⟨es,c,h1,h2⟩:=hM;exact ⟨es,c,by rw [Below.heap_alloc _ _ _ W6]; exact h1,h2⟩
 have hc:=below q B mb DG to U hU S (W.alloc (.cells #[.int .i64 DG.1,.int .i64 DG.2] 32)) hf (hg.dR KA hB hm) (hD hB KA.size) hm hM1 ht;have d0:=(KA.cell lg.1 lg.2).trans c0;have d1:=(KA.cell lg.1 lg.2).trans c1;have d2:=(KA.cell ls.1 ls.2).trans c2;have d3:=(KA.cell lt.1 lt.2).trans c3;have d4:=(KA.cell lt.1 lt.2).trans c4;obtain ⟨f1,f2⟩:=DG;obtain ⟨t1,t2⟩:=to
 go_enter Try.func73,Try.ntmps73
 go_wp2_with (go_at_call 74; refine hc.mono ?_; rintro e w' ⟨S',r,rfl,hr⟩)
 go_wp2
 go_ret
 exact ⟨S',r,rfl,hr.1,KA.trans hr.2.1,hr.2.2⟩
theorem Zk {q:G} {to:Int×Int} {S:List (Int×Int)} (hS:∀ x∈S,∀ k,k < q.im x.1.toNat->q.dW x.1.toNat k∈S) (ht:to ∉ S):∀ {x:Int×Int},Reach q to x->x ∉ S
 | _,.here=>ht
 | _,.dW h k hk r=>fun hm=>Zk hS ht r (hS h hm k hk)
theorem Grow.closed {q:G} {S S' : List (Int×Int)} {h:Int×Int} (g:Grow q S h S') (hS:∀ x∈S,∀ k,k < q.im x.1.toNat->q.dW x.1.toNat k∈S):∀ x∈S',∀ k,k < q.im x.1.toNat->q.dW x.1.toNat k∈S':=fun x hx k hk=>
 (g.new x hx).elim (fun h1=>g.sub _ (hS x h1 k hk)) fun h1=>h1 k hk
theorem ai4 {W:World} {mb:Nat} {es:Array MapEntry} {clock:Nat} (hm:W.heap[mb]? = some (.map es clock)) :
  (Builtin.clear_ #[172] 0 #[.map (some mb)]).run Try.prog W = .ok (.tuple #[]) (put W mb (.map #[] clock)):=by
 have SK:=run_underlying Try.underlying172;simp [Builtin.clear_,SK,MapKept.run_getObj_map hm,MapKept.run_setObj_map _ hm,Result.andThen];rfl
theorem run_make (W:World):(Instr.makeMap 172 none).run Try.prog W = .ok (.map (some W.heap.size)) (W.alloc (.map #[] 0)):=by
 have SK:=run_underlying Try.underlying172;simp [Instr.makeMap,Result.andThen,newObj,Sem.run]
 try rfl
def qOf (g:b.fF):G:=⟨none,0,0,none,g.kids.n,0,fun _=>none,fun i=>(g.kids.get i).n,fun _=>0,fun i k=>hp ((g.kids.get i).get k)⟩
theorem Of.reach {q:G} {g:b.fF} {B:Nat} {W:World} (h:Of q g B W) {to x:Int×Int} : Reach q to x↔Reach (qOf g) to x:=by
 constructor
 ·intro r
  induction r with
  | here=>exact .here
  | dW h' k hk _ ih=>
   rw [h.im] at hk;rw [h.dW] at ih;exact .dW (q:=qOf g) h' k hk ih
 ·intro r
  induction r with
  | here=>exact .here
  | dW h' k hk _ ih=>exact .dW h' k (by rw [h.im]; exact hk) (by rw [h.dW]; exact ih)
def sv (g:b.fF) (i:Nat):Prop:=(g.kids.get i).n<=16/\(0 < (g.kids.get i).n->(g.cA.cL.get i).live=true)/\∀ k,k < (g.kids.get i).n->b.dz g.cA ((g.kids.get i).get k)=some true
def Hn (g:b.fF) (i:Nat):Prop:=∀ k,k < (g.kids.get i).n->¬ Reach (qOf g) ((i:Int),(g.cA.cL.get i).gen) (hp ((g.kids.get i).get k))
structure qQ (g:b.fF):Prop where
 cL:b.dU g.cA=some 0
 len:g.kids.n=g.cA.cL.n
 row:∀ i,i < g.kids.n->sv g i
 free:∀ i,i < g.kids.n->Hn g i
theorem ahw {W W' : World} (h:Below W.heap.size W W') (mb:Nat):Kp mb W W':=⟨h.os,h.tape,h.output,h.size,fun k hk _=>h.block k hk⟩
theorem ai5 (a:b.j4) (h:b.Handle) {n:Int} (hn:b.dU a=some n):∃ r,b.dz a h=some r:=by
 unfold b.dz b.vS b.vT;rw [hn];simp only [fj,aj,dI];cases n==0 with
 | false=>exact ⟨_,rfl⟩
 | true=>
  have:∃ r,b.ml a h=some r:=by
   unfold b.ml;by_cases h1:h.slot >= 0
   ·by_cases h2:h.slot < (a.cL.n:Int)
    ·simp [h1,h2]
    ·simp [h1,h2]
   ·simp [h1]
  obtain ⟨r,hr⟩:=this;rw [hr];exact ⟨r,rfl⟩
theorem afx {a:b.j4} (hn:b.dU a=some 0):a.cL.n<=128:=by
 unfold b.dU at hn;by_cases h:((a.cL.n:Nat):Int) > 128
 ·rw [au h,aj] at hn
  simp at hn
 ·omega
theorem anx {a:b.j4} {h:b.Handle} (hn:b.dz a h=some true):0<=h.slot/\h.slot < (a.cL.n:Int):=by
 unfold b.dz b.vS b.vT at hn;by_cases h1:h.slot >= 0
 ·by_cases h2:h.slot < (a.cL.n:Int)
  ·exact ⟨h1,h2⟩
  ·exfalso
   revert hn
   cases (b.dU a).isSome with
   | false=>simp
   | true=>
    cases ((b.dU a).getD default==0) with
    | false=>simp
    | true=>simp [b.ml,h1,h2]
 ·exfalso
  revert hn
  cases (b.dU a).isSome with
  | false=>simp
  | true=>
   cases ((b.dU a).getD default==0) with
   | false=>simp
   | true=>simp [b.ml,h1]
set_option maxHeartbeats 8000000 in
theorem check {E:Env} {A:ae} {B:aG.St} {ρ:aG.Ren} {base:Nat} {w:World} (hj:KJ Try.prog E A B ρ base w) {g:b.fF} {q:G} (hg:acd q w.heap.size w) (ho:Of q g w.heap.size w) (hx:VC Try.prog E ρ (b.jw g.cA) (.agg #[.slice q.sa q.sn q.sc])) {n:Int} (hn:b.dU g.cA=some n) :
  Calls Try.prog 44 #[gv q] w fun e w'=>∃ n,e = .returned (.int .i64 n)/\Below w.heap.size w w'/\(n=0/\qQ g\/n=8/\¬ qQ g):=by
 have mixed:=zT;have t46:=Try.underlying40; have a46:=Try.isAgg40; have z46:=Try.sizeOf40; have v46:=Try.zeroValue40; have u46:=run_underlying Try.underlying40;have t32:=Try.underlying32; have a32:=Try.isAgg32; have z32:=Try.sizeOf32; have v32:=Try.zeroValue32; have u32:=run_underlying Try.underlying32;have t27:=Try.underlying27; have a27:=Try.isAgg27; have z27:=Try.sizeOf27; have v27:=Try.zeroValue27; have u27:=run_underlying Try.underlying27;have t24:=Try.underlying24; have a24:=Try.isAgg24; have z24:=Try.sizeOf24; have v24:=Try.zeroValue24; have u24:=run_underlying Try.underlying24;have t22:=Try.underlying22; have a22:=Try.isAgg22; have z22:=Try.sizeOf22; have v22:=Try.zeroValue22; have u22:=run_underlying Try.underlying22;have t25:=Try.underlying25; have a25:=Try.isAgg25; have z25:=Try.sizeOf25; have v25:=Try.zeroValue25; have u25:=run_underlying Try.underlying25;have t35:=Try.underlying47; have a35:=Try.isAgg47; have z35:=Try.sizeOf47; have v35:=Try.zeroValue47; have u35:=run_underlying Try.underlying47;have t111:=Try.underlying139; have a111:=Try.isAgg139; have z111:=Try.sizeOf139; have v111:=Try.zeroValue139; have u111:=run_underlying Try.underlying139;have t202:=Try.underlying172; have anh:=Try.isAgg172; have ani:=Try.sizeOf172; have anj:=Try.zeroValue172; have SK:=run_underlying Try.underlying172;have t200:=Try.underlying170; have apb:=Try.isAgg170; have apc:=Try.sizeOf170; have apd:=Try.zeroValue170; have ape:=run_underlying Try.underlying170;have t3:=Try.underlying3; have a3:=Try.isAgg3; have z3:=Try.sizeOf3; have v3:=Try.zeroValue3; have u3:=run_underlying Try.underlying3;have t4:=Try.underlying4; have a4:=Try.isAgg4; have z4:=Try.sizeOf4; have v4:=Try.zeroValue4; have u4:=run_underlying Try.underlying4;have bg0:Below w.heap.size w (w.alloc (.cells #[.slice q.sa q.sn q.sc,.slice q.ka q.kn q.kc] 27)):=(Below.refl _ _).alloc (aC _) _;have hac:=ahu hj bg0 hx hn;have cg0:(w.alloc (.cells #[.slice q.sa q.sn q.sc,.slice q.ka q.kn q.kc] 27)).cell? ⟨w.heap.size,0,none⟩=some (.slice q.sa q.sn q.sc):=by simp
 have cg1:(w.alloc (.cells #[.slice q.sa q.sn q.sc,.slice q.ka q.kn q.kc] 27)).cell? ⟨w.heap.size,1,none⟩=some (.slice q.ka q.kn q.kc):=by simp
 have sg:(w.alloc (.cells #[.slice q.sa q.sn q.sc,.slice q.ka q.kn q.kc] 27)).heap.size=w.heap.size+1:=by simp
 generalize hW1:w.alloc (.cells #[.slice q.sa q.sn q.sc,.slice q.ka q.kn q.kc] 27)=W1 at hac bg0 cg0 cg1 sg
 go_enter Try.func44,Try.ntmps44
 by_cases hn0:n=0
 ·subst hn0
  have hsm:q.sn<=128:=by rw [ho.sn]; exact afx hn
  by_cases hlen:q.kn=q.sn
  ·have TI:((q.kn:Int)==(q.sn:Int))=true:=by rw [hlen]; exact beq_self_eq_true _
   have apS:((q.kn:Int) != (q.sn:Int))=false:=by rw [hlen]; exact bne_self_eq_false _
   have hlen2:q.kn<=q.sn/\q.sn<=q.kn:=by omega
   clear hlen
   go_wp2_with (go_at_call 70; refine hac.mono ?_; rintro e w2 ⟨rfl,hk⟩; have c0:=(hk.cell (p:=⟨w.heap.size,0,none⟩) (by show w.heap.size < _; omega)).trans cg0; have c1:=(hk.cell (p:=⟨w.heap.size,1,none⟩) (by show w.heap.size < _; omega)).trans cg1)
   have bW:Below W1.heap.size W1 w2:=hk
   go_wp2
   go_loopg [27] q.kn (fun gg s27 wr=>∃ kk:Nat,kk<=q.kn/\q.kn - kk<=gg/\s27 = .int .i64 kk/\Aside (Below W1.heap.size W1 wr/\∀ i,i < kk->sv g i))
   case atStart=>exact ⟨0,r6 _,by omega,rfl,bW,fun i hi=>absurd hi (ph _)⟩
   case round=>
    obtain ⟨kk,hkk,hgg,rfl,BW⟩:=hrel;clear TI apS;by_cases bm:kk < q.kn
    ·have ahi:(kk:Int) < (q.kn:Int):=by omega
     have hltz2:(kk:Int) < (q.sn:Int):=by omega
     have BWw:Below w.heap.size w wr:=bg0.trans (BW.out.1.mono (by omega));have IW:=hg.dR (ahw BWw w.heap.size) (aC _) (aC _);have hoo:=ho.dR (ahw BWw w.heap.size) (aC _) (aC _);have e0:=(BW.out.1.cell (p:=⟨w.heap.size,0,none⟩) (by show w.heap.size < _; omega)).trans cg0;have e1:=(BW.out.1.cell (p:=⟨w.heap.size,1,none⟩) (by show w.heap.size < _; omega)).trans cg1;obtain ⟨bk,ok,hka,hbk,fv⟩:=IW.kids kk bm;obtain ⟨bl,ol,hsa,hbl,aph,anz⟩:=hoo.slot kk (by omega);have him:q.im kk<=(g.kids.get kk).n/\(g.kids.get kk).n<=q.im kk:=by rw [ho.im]; exact ⟨aC _,aC _⟩
     have Qn:q.im kk<=16->∀ V,Below W1.heap.size W1 V->Calls Try.prog 72 #[.slice (q.ia kk) (q.im kk) (q.ic kk),.func (.func 71) #[] #[.pointer (some ⟨w.heap.size,0,none⟩)]] V fun e W'=>∃ r,e = .returned (.bool r)/\Below W1.heap.size W1 W'/\(r=true/\¬ sv g kk\/r=false/\∀ k,k < q.im kk->b.dz g.cA ((g.kids.get kk).get k)=some true):=by
      intro h16 V hV;refine (Ub 71 #[.pointer (some ⟨w.heap.size,0,none⟩)] (enters_of Try.func71 (by kernel_rfl) rfl) (q.ia kk) (q.im kk) (q.ic kk) (q.dW kk)
       (fun j W'=>Below W1.heap.size W1 W'/\∀ k,k < j->b.dz g.cA ((g.kids.get kk).get k)=some true)
       (fun W'=>Below W1.heap.size W1 W'/\¬ sv g kk) (by omega) (fun W' j AH hI=>?_) (fun j W' AH hI=>?_) V ⟨hV,fun k hk=>absurd hk (ph _)⟩).mono ?_
      ·have BW' : Below w.heap.size w W':=bg0.trans (hI.1.mono (by omega))
       obtain ⟨bb,off,r1,_,r2,r3⟩:=(hg.dR (ahw BW' w.heap.size) (aC _) (aC _)).row kk bm j AH;exact ⟨bb,off,r1,r2,r3⟩
      ·have BW' : Below w.heap.size w W':=bg0.trans (hI.1.mono (by omega))
       obtain ⟨r,hr⟩:=ai5 g.cA ((g.kids.get kk).get j) hn;have ace:=ho.dW kk j;refine (rQ hj BW' hx (q.dW kk j) (r:=r) (by rw [ace]; exact hr) (bg:=w.heap.size) (by have:=hI.1.size; omega) ((hI.1.cell (p:=⟨w.heap.size,0,none⟩) (by show w.heap.size < _; omega)).trans cg0)).mono ?_;rintro e W2 ⟨rfl,hb⟩;have VH:Below W1.heap.size W1 W2:=hI.1.trans (hb.mono hI.1.size);cases r with
       | true=>
        refine .inr ⟨rfl,VH,fun k hk=>?_⟩;by_cases ek:k=j
        ·subst ek; exact hr
        ·exact hI.2 k (by omega)
       | false=>exact .inl ⟨rfl,VH,fun h=>by have:=h.2.2 j (by omega); rw [hr] at this; simp at this⟩
      ·rintro e W' ⟨r,rfl,⟨rfl,h1⟩ | ⟨rfl,h1⟩⟩
       ·exact ⟨true,rfl,h1.1,.inl ⟨rfl,h1.2⟩⟩
       ·exact ⟨false,rfl,h1.1,.inr ⟨rfl,h1.2⟩⟩
     have eg:∀ args w,(callFunc 72 args).run Try.prog w = .ok (.enter 72 args) w:=enters_of Try.func72 (by kernel_rfl) rfl;have akJ:∀ W',Below W1.heap.size W1 W'->¬ sv g kk->∃ n,Ending.returned (.int .i64 8) = .returned (.int .i64 n)/\Below w.heap.size w W'/\(n=0/\qQ g\/n=8/\¬ qQ g):=fun W' hb hr=>
      ⟨8,rfl,bg0.trans (hb.mono (by omega)),.inr ⟨rfl,fun h=>hr (h.row kk (by rw [<- ho.kn]; exact bm))⟩⟩
     have hBW:=BW.out;have SN:∀ W',Below W1.heap.size W1 W'->sv g kk->Below W1.heap.size W1 W'/\∀ i,i < kk+1->sv g i:=fun W' hb hr=>⟨hb,fun i hi=>by
      by_cases e:i=kk
      ·subst e; exact hr
      ·exact hBW.2 i (by omega)⟩
     clear hg ho hj hac BW;generalize hlv:(g.cA.cL.get kk).live=lv at anz;by_cases h16:q.im kk<=16
     ·have aqU : ¬ (q.im kk:Int) > 16:=by omega
      have anA:=Qn h16;have anB:=anA wr hBW.1;clear Qn anA;have abz:∀ W' r,Below W1.heap.size W1 W'->(r=true/\¬ sv g kk\/r=false/\∀ k,k < q.im kk->b.dz g.cA ((g.kids.get kk).get k)=some true)->(0 < q.im kk->lv=true)->r=true/\(Below W1.heap.size W1 W'/\¬ sv g kk)\/r=false/\(Below W1.heap.size W1 W'/\∀ i,i < kk+1->sv g i):=by
       rintro W' r hb (⟨rfl,hr⟩ | ⟨rfl,hr⟩) hl
       ·exact .inl ⟨rfl,hb,hr⟩
       ·exact .inr ⟨rfl,SN _ hb ⟨by omega,fun Hk=>by rw [hlv]; exact hl (by omega),fun k hk=>hr k (by omega)⟩⟩
      by_cases h0:0 < q.im kk
      ·have h0z:(q.im kk:Int) > 0:=by omega
       cases lv with
       | true=>
        go_wp2_with (go_at_call 72; refine anB.mono ?_; rintro e w3 ⟨r,rfl,hb,hr⟩; rcases abz _ _ hb hr (fun _=>rfl) with ⟨rfl,hd⟩ | ⟨rfl,hd⟩)
        ·go_wp2
         go_ret
         exact akJ _ hd.1 hd.2
        ·go_wp2
         simp only [<- hka,<- hsa]
         go_roundg (q.kn - (kk+1))
         case measure=>omega
         case rel=>exact ⟨kk+1,by omega,by omega,by go_num,hd⟩
       | false=>
        go_wp2
        go_ret
        exact akJ _ hBW.1 fun h=>by have:=h.2.1 (by omega); rw [hlv] at this; simp at this
      ·have h0z : ¬ (q.im kk:Int) > 0:=by omega
       go_wp2_with (go_at_call 72; refine anB.mono ?_; rintro e w3 ⟨r,rfl,hb,hr⟩; rcases abz _ _ hb hr (fun h=>absurd h h0) with ⟨rfl,hd⟩ | ⟨rfl,hd⟩)
       ·go_wp2
        go_ret
        exact akJ _ hd.1 hd.2
       ·go_wp2
        simp only [<- hka,<- hsa]
        go_roundg (q.kn - (kk+1))
        case measure=>omega
        case rel=>exact ⟨kk+1,by omega,by omega,by go_num,hd⟩
     ·have aqU:(q.im kk:Int) > 16:=by omega
      go_wp2
      go_ret
      exact akJ _ hBW.1 fun h=>h16 (by have:=h.1; omega)
    ·rename World=>V0
     have ahi : ¬ (kk:Int) < (q.kn:Int):=by omega
     have qM:∀ i,i < q.kn->sv g i:=fun i hi=>BW.out.2 i (by omega);have hB1:=BW.out.1;have BWw:Below w.heap.size w V0:=bg0.trans (hB1.mono (by omega));have IW:=(hg.dR (ahw BWw w.heap.size) (aC _) (aC _)).with fun i hi=>by have:=(qM i hi).1; rw [ho.im]; omega
     have hoo:=ho.dR (ahw BWw w.heap.size) (aC _) (aC _);have e0:=(hB1.cell (p:=⟨w.heap.size,0,none⟩) (by show w.heap.size < _; omega)).trans cg0;have e1:=(hB1.cell (p:=⟨w.heap.size,1,none⟩) (by show w.heap.size < _; omega)).trans cg1;have TF:=run_make;have sW:w.heap.size < V0.heap.size:=by have:=hB1.size; omega
     have K2:∀ mb,Kp mb V0 ((V0.alloc (.map #[] 0)).alloc (.cells #[.map (some V0.heap.size)] 172)):=fun mb=>(Kp.alloc V0 _).trans (Kp.alloc _ _);have hM2:MapAt V0.heap.size ((V0.alloc (.map #[] 0)).alloc (.cells #[.map (some V0.heap.size)] 172)) []:=⟨#[],0,by rw [Below.heap_alloc _ _ _ (by simp)]; exact zU _ _ _ rfl,aeb⟩
     have jL:((V0.alloc (.map #[] 0)).alloc (.cells #[.map (some V0.heap.size)] 172)).cell? ⟨V0.heap.size+1,0,none⟩=some (.map (some V0.heap.size)):=by
      rw [mz (zU _ _ _ (by simp))]; rfl
     have C5:((V0.alloc (.map #[] 0)).alloc (.cells #[.map (some V0.heap.size)] 172)).heap.size=V0.heap.size+2:=by simp
     have f0:=((K2 V0.heap.size).cell (b:=w.heap.size) (j:=0) sW (by omega)).trans e0;have f1:=((K2 V0.heap.size).cell (b:=w.heap.size) (j:=1) sW (by omega)).trans e1;generalize hW2:(V0.alloc (.map #[] 0)).alloc (.cells #[.map (some V0.heap.size)] 172)=W2 at K2 hM2 jL C5 f0 f1;have Pf:=IW.dR (K2 V0.heap.size) (Nat.le_of_lt sW) (Nat.le_of_lt sW);have ho2:=hoo.dR (K2 V0.heap.size) (Nat.le_of_lt sW) (Nat.le_of_lt sW);have api:∀ W',Kp V0.heap.size W2 W'->Below w.heap.size w W':=fun W' k=>BWw.trans (((K2 V0.heap.size).trans k).below (Nat.le_of_lt sW) (Nat.le_of_lt sW));clear hac hg IW ho hoo BW
     go_wp2
     go_loopg [61] q.kn (fun gg s61 wr2=>∃ jj:Nat,jj<=q.kn/\q.kn - jj<=gg/\s61 = .int .i64 jj/\Aside (Kp V0.heap.size W2 wr2/\(∃ S,MapAt V0.heap.size wr2 S)/\∀ i,i < jj->Hn g i))
     case atStart=>exact ⟨0,r6 _,by omega,rfl,Kp.refl _ _,⟨_,hM2⟩,fun i hi=>absurd hi (ph _)⟩
     case round=>
      obtain ⟨jj,hjj,hgg2,rfl,BJ⟩:=hrel;obtain ⟨kj,⟨S0,es0,Zl,hm0,_⟩,ai6⟩:=BJ.out;clear BJ;by_cases ahx:jj < q.kn
      ·have hjz:(jj:Int) < (q.kn:Int):=by omega
       have hjz2:(jj:Int) < (q.sn:Int):=by omega
       have hgj:=Pf.dR kj (by omega) (by omega);have hoj:=ho2.dR kj (by omega) (by omega);have sj:=kj.size;have j0:=(kj.cell (b:=w.heap.size) (j:=0) (by omega) (by omega)).trans f0;have j1:=(kj.cell (b:=w.heap.size) (j:=1) (by omega) (by omega)).trans f1;have js:=(kj.cell (b:=V0.heap.size+1) (j:=0) (by omega) (by omega)).trans jL;obtain ⟨bk,ok,hka,hbk,fv⟩:=hgj.kids jj ahx;obtain ⟨bl,ol,hsa,hbl,aph,anz⟩:=hoj.slot jj (by omega);have ace:=hoj.dW jj;have him:q.im jj<=(g.kids.get jj).n/\(g.kids.get jj).n<=q.im jj:=by rw [hoj.im]; exact ⟨aC _,aC _⟩
       generalize abR:(g.cA.cL.get jj).gen=gj at aph;have KA:=Kp.alloc (mb:=V0.heap.size) wr (.cells #[.int .i64 jj,.int .i64 gj] 32);have hmA:(wr.alloc (.cells #[.int .i64 jj,.int .i64 gj] 32)).heap[V0.heap.size]? = some (.map es0 Zl):=by rw [Below.heap_alloc _ _ _ (by omega)]; exact hm0
       have aqV:=ai4 hmA;have KP:=Kp.put (mb:=V0.heap.size) (wr.alloc (.cells #[.int .i64 jj,.int .i64 gj] 32)) (.map #[] Zl);have jA:=(KA.cell (b:=V0.heap.size+1) (j:=0) (by omega) (by omega)).trans js;have K4:=KA.trans KP;have hM4:MapAt V0.heap.size (put (wr.alloc (.cells #[.int .i64 jj,.int .i64 gj] 32)) V0.heap.size (.map #[] Zl)) []:=⟨#[],Zl,aad hmA,aeb⟩
       have js4:=(KP.cell (b:=V0.heap.size+1) (j:=0) (by have:=KA.size; omega) (by omega)).trans jA;have jt0:(put (wr.alloc (.cells #[.int .i64 jj,.int .i64 gj] 32)) V0.heap.size (.map #[] Zl)).cell? ⟨wr.heap.size,0,none⟩=some (.int .i64 jj):=by
        rw [KP.cell (by simp) (by omega)]; simp
       have jt1:(put (wr.alloc (.cells #[.int .i64 jj,.int .i64 gj] 32)) V0.heap.size (.map #[] Zl)).cell? ⟨wr.heap.size,1,none⟩=some (.int .i64 gj):=by
        rw [KP.cell (by simp) (by omega)]; simp
       have hz4:wr.heap.size < (put (wr.alloc (.cells #[.int .i64 jj,.int .i64 gj] 32)) V0.heap.size (.map #[] Zl)).heap.size:=by rw [XP]; simp
       generalize hW4:put (wr.alloc (.cells #[.int .i64 jj,.int .i64 gj] 32)) V0.heap.size (.map #[] Zl)=W4 at aqV KP K4 hM4 js4 jt0 jt1 hz4;have hU:∀ u∈(List.range q.kn).flatMap (fun i=>(List.range (q.im i)).map fun k=>q.dW i k),(0<=u.1/\u.1 < (q.kn:Int))/\∀ k,k < q.im u.1.toNat->q.dW u.1.toNat k∈(List.range q.kn).flatMap (fun i=>(List.range (q.im i)).map fun k=>q.dW i k):=by
        intro u hu;obtain ⟨i,hi,hu⟩:=List.mem_flatMap.1 hu;obtain ⟨k,hk,rfl⟩:=HJ.1 hu;rw [HM] at hi hk;have hr:=anx ((qM i hi).2.2 k (by rw [<- hoj.im]; exact hk));rw [<- hoj.sn] at hr;have hh:0<=(q.dW i k).1/\(q.dW i k).1 < (q.kn:Int):=by rw [hoj.dW]; exact ⟨hr.1,by have:=hr.2; show ((g.kids.get i).get k).slot < _; omega⟩
        exact ⟨hh,fun k' mO=>List.mem_flatMap.2 ⟨(q.dW i k).1.toNat,HM.2 (by omega),HJ.2 ⟨k',HM.2 mO,rfl⟩⟩⟩
       have Qn:Calls Try.prog 72 #[.slice (q.ia jj) (q.im jj) (q.ic jj),.func (.func 73) #[] #[.pointer (some ⟨w.heap.size,0,none⟩),.pointer (some ⟨V0.heap.size+1,0,none⟩),.pointer (some ⟨wr.heap.size,0,none⟩)]] W4 fun e W'=>∃ r,e = .returned (.bool r)/\Kp V0.heap.size W4 W'/\(∃ S,MapAt V0.heap.size W' S)/\(r=true/\¬ Hn g jj\/r=false/\Hn g jj):=by
        refine (Ub 73 #[.pointer (some ⟨w.heap.size,0,none⟩),.pointer (some ⟨V0.heap.size+1,0,none⟩),.pointer (some ⟨wr.heap.size,0,none⟩)] (enters_of Try.func73 (by kernel_rfl) rfl) (q.ia jj) (q.im jj) (q.ic jj) (q.dW jj)
         (fun j W'=>Kp V0.heap.size W4 W'/\∃ S,MapAt V0.heap.size W' S/\((jj:Int),gj) ∉ S/\(∀ x∈S,∀ k,k < q.im x.1.toNat->q.dW x.1.toNat k∈S)/\∀ k,k < j->q.dW jj k∈S)
         (fun W'=>Kp V0.heap.size W4 W'/\(∃ S,MapAt V0.heap.size W' S)/\¬ Hn g jj) (Pf.small jj ahx) (fun W' j AH hI=>?_) (fun j W' AH hI=>?_) W4 ⟨Kp.refl _ _,[],hM4,by simp,by simp,fun k hk=>absurd hk (ph _)⟩).mono ?_
        ·obtain ⟨bb,off,r1,_,r2,r3⟩:=(hgj.dR (K4.trans hI.1) (by omega) (by omega)).row jj ahx j AH
         exact ⟨bb,off,r1,r2,r3⟩
        ·obtain ⟨tY,S,hS,hn1,hcl,qL⟩:=hI
         have kk4:=K4.trans tY;have dT:=tY.size;refine (under q w.heap.size V0.heap.size (q.dW jj j) ((jj:Int),gj) _ hU S W' (List.mem_flatMap.2 ⟨jj,HM.2 ahx,HJ.2 ⟨j,HM.2 AH,rfl⟩⟩) (hgj.dR kk4 (by omega) (by omega)) (by omega) (by omega) hS hn1
          (bg:=w.heap.size) (bs:=V0.heap.size+1) (bt:=wr.heap.size) (by omega) (by omega) (by omega)
          ((kk4.cell (b:=w.heap.size) (j:=0) (by omega) (by omega)).trans j0) ((kk4.cell (b:=w.heap.size) (j:=1) (by omega) (by omega)).trans j1) ((tY.cell (b:=V0.heap.size+1) (j:=0) (by omega) (by omega)).trans js4)
          ((tY.cell (b:=wr.heap.size) (j:=0) hz4 (by omega)).trans jt0) ((tY.cell (b:=wr.heap.size) (j:=1) hz4 (by omega)).trans jt1)).mono ?_
         rintro e W5 ⟨S',r,rfl,m5,k5,⟨rfl,hr⟩ | ⟨rfl,H5,hn5⟩⟩
         ·refine .inl ⟨rfl,tY.trans k5,⟨S',m5⟩,fun hf=>hf j (by omega) ?_⟩
          rw [abR,<- ace j];exact hoj.reach.1 hr
         ·refine .inr ⟨rfl,tY.trans k5,S',m5,hn5,H5.closed hcl,fun k hk=>?_⟩
          by_cases ek:k=j
          ·subst ek; exact H5.is
          ·exact H5.sub _ (qL k (by omega))
        ·rintro e W' ⟨r,rfl,⟨rfl,h1⟩ | ⟨rfl,h1,S,h2,h3,h4,h5⟩⟩
         ·exact ⟨true,rfl,h1.1,h1.2.1,.inl ⟨rfl,h1.2.2⟩⟩
         ·refine ⟨false,rfl,h1,⟨S,h2⟩,.inr ⟨rfl,fun k hk hr=>?_⟩⟩
          rw [abR,<- ace k] at hr;exact Zk h4 h3 (hoj.reach.2 hr) (h5 k (by omega))
       have apT:∀ W',Kp V0.heap.size W4 W'->¬ Hn g jj->∃ n,Ending.returned (.int .i64 8) = .returned (.int .i64 n)/\Below w.heap.size w W'/\(n=0/\qQ g\/n=8/\¬ qQ g):=fun W' hk hf=>
        ⟨8,rfl,api _ (kj.trans (K4.trans hk)),.inr ⟨rfl,fun h=>hf (h.free jj (by rw [<- hoj.kn]; exact ahx))⟩⟩
       have fZ:∀ W',Kp V0.heap.size W4 W'->(∃ S,MapAt V0.heap.size W' S)->Hn g jj->Kp V0.heap.size W2 W'/\(∃ S,MapAt V0.heap.size W' S)/\∀ i,i < jj+1->Hn g i:=fun W' hk hm hf=>⟨kj.trans (K4.trans hk),hm,fun i hi=>by
        by_cases e:i=jj
        ·subst e; exact hf
        ·exact ai6 i (by omega)⟩
       clear hU ace Pf ho2 hgj hoj qM hW2 abR ai6 hm0
       go_wp2_with (go_at_call 72; go_loud (refine Qn.mono ?_; rintro e w3 ⟨r,rfl,hb,hm,⟨rfl,hr⟩ | ⟨rfl,hr⟩⟩))
       ·go_wp2
        go_ret
        exact apT _ hb hr
       ·go_wp2
        simp only [<- hka,<- hsa]
        go_roundg (q.kn - (jj+1))
        case measure=>omega
        case rel=>exact ⟨jj+1,by omega,by omega,by go_num,fZ _ hb hm hr⟩
      ·have hjz : ¬ (jj:Int) < (q.kn:Int):=by omega
       have hf:qQ g:=⟨hn,by rw [<- ho2.kn,<- ho2.sn]; omega,fun i hi=>qM i (by rw [ho2.kn]; exact hi),fun i hi=>ai6 i (by have:=ho2.kn; omega)⟩
       have hb:=api _ kj;have Tz:∀ W',Below w.heap.size w W'->∃ n,Ending.returned (.int .i64 0) = .returned (.int .i64 n)/\Below w.heap.size w W'/\(n=0/\qQ g\/n=8/\¬ qQ g):=fun W' hb=>⟨0,rfl,hb,.inl ⟨rfl,hf⟩⟩
       clear hm0 Pf ho2 qM
       go_wp2
       go_ret
       first | exact Tz _ hb | exact ⟨rfl,hb⟩
  ·have TI:((q.kn:Int)==(q.sn:Int))=false:=beq_eq_false_iff_ne.2 fun h=>hlen (by exact_mod_cast h)
   have hlen3 : ¬ (q.kn:Int)=(q.sn:Int):=fun h=>hlen (by exact_mod_cast h)
   go_wp2_with (go_at_call 70; refine hac.mono ?_; rintro e w2 ⟨rfl,hk⟩; have c0:=(hk.cell (p:=⟨w.heap.size,0,none⟩) (by show w.heap.size < _; omega)).trans cg0; have c1:=(hk.cell (p:=⟨w.heap.size,1,none⟩) (by show w.heap.size < _; omega)).trans cg1)
   go_wp2
   go_ret
   exact ⟨8,rfl,bg0.trans (hk.mono (by omega)),.inr ⟨rfl,fun h=>hlen (by rw [ho.kn,ho.sn,h.len])⟩⟩
 ·have hn0' : (n==0)=false:=by simpa using hn0
  go_wp2_with (go_at_call 70; refine hac.mono ?_; rintro e w2 ⟨rfl,hk⟩)
  go_wp2
  go_ret
  exact ⟨8,rfl,bg0.trans (hk.mono (by omega)),.inr ⟨rfl,fun h=>by rw [h.cL] at hn; simp only [bQ] at hn; omega⟩⟩
end Go.Proofs.Ytckbdndhmcoihaa.nodes
end
section
namespace Go.Proofs.Ytckbdndhmcoihaa.nodes
open Go Go.RowKit Go.K
open Classical in
noncomputable def Gc (g:b.fF):Option Int:=(b.dU g.cA).map fun _=>if qQ g then 0 else 8
noncomputable def ahy:List KV->KR KV:=bC Try.prog 44 (bO (kI .i64) fun vs=>Gc (b.jO (vs.getD 0 .bh)))
theorem call73:x9 Try.prog 44:=by
 refine ⟨by kernel_rfl,_,Try.func44,rfl,by kernel_rfl⟩
theorem aos (w:Nat->KV):uM Try.prog [27] w 0 = [b.se (b.jO (gV Try.prog (b8 Try.prog du) 27 (w 0)))]:=by kernel_rfl
theorem ahz:bB Try.prog 44 ahy:=by
 refine ahf call73 fun args v E A B ρ base w dY hF hlen hv hj=>?_;have ep:bT Try.prog 44 = [27]:=by kernel_rfl
 unfold ahy bC at hF;obtain ⟨hb,hF⟩:=aI.cond hF;obtain ⟨ww,hw⟩:=Ju 0 hb;have Dh:rU Try.prog E ρ (normArgs Try.prog (bT Try.prog 44) args) dY:=by
  obtain ⟨m,h1,h2⟩:=hv;exact ⟨m,aV.NW (.of rfl) h1 hlen,h2⟩
 rw [hw,ep,aos] at hF Dh;generalize b.jO (gV Try.prog (b8 Try.prog du) 27 (ww 0))=g at hF Dh;obtain ⟨u,us,rfl,hu,Ml⟩:=Dh.xX;obtain rfl:=Ml.V7;obtain ⟨q,rfl,hg,ho,hx⟩:=alC hj hu;unfold bO at hF;obtain ⟨h1,h2⟩:=aI.jQ hF;have h1:(Gc g).isSome=true:=h1;have h2:kI .i64 ((Gc g).getD default)=v:=h2;cases hn:b.dU g.cA with
 | none=>simp [Gc,hn] at h1
 | some n=>
  refine (check hj hg ho hx hn).mono ?_;rintro e w' ⟨m,rfl,hb,hm⟩;refine ⟨.int .i64 m,rfl,?_,hb⟩;have:v=kI .i64 m:=by
   rw [<- h2];simp only [Gc,hn,Option.map_some,dI];rcases hm with ⟨rfl,h⟩ | ⟨rfl,h⟩
   ·rw [aD h]
   ·rw [aa h]
  rw [this];exact ⟨_,.mkInt,by simp [aG.VR]⟩
end Go.Proofs.Ytckbdndhmcoihaa.nodes
end
section
namespace Go.Proofs.Ytckbdndhmcoihaa.b
open Go.K
noncomputable section
def JB (g:fF):Option Int:=nodes.Gc g
def zh:List KV->KR KV:=bC Try.prog 44 (bO (kI .i64) fun vs=>JB (jO (vs.getD 0 .bh)))
theorem yP:bB Try.prog 44 zh:=nodes.ahz
def mM (l:kq):Option (Int):=(cond (decide (l.dL < (-(1:Int)))) (some (8)) (cond (decide (l.dL >= 16)) (some (8)) (cond (decide (l.o9 > 2)) (some (8)) (cond (decide (l.ob < (-(1024:Int)))) (some (8)) (cond (decide (l.ob > 1024)) (some (8)) (cond (decide (l.bin < 0)) (some (8)) (cond (decide (l.bin > 15)) (some (8)) (some (0)))))))))
theorem Pj (l:kq):ou [] [] 85 [yv l] = (mM l).map (kI .i64):=by
 unfold mM
 try simp only [bG]
 kernel_rfl
def AQ:List KV->KR KV:=bC PG 85 (bO (kI .i64) fun vs=>mM (rb (v9 vs 0)))
theorem DW:bB PG 85 AQ:=dE ai.nil bj.nil fun w=>Pj (rb (g0 60 (w 0)))
structure cu where
 t2:Int
 t7:Int
 s:dv
 said:kq
instance:Inhabited cu:=⟨⟨default,default,default,default⟩⟩
def vi (x:cu):List KV:=[.int .i64 x.t2,.agg [.fn (.func 96) [] [],.fn (.func 97) [] [],.fn (.func 98) [] [],.fn (.func 99) [] [],.fn (.func 100) [] []],.int .i64 x.t7]
def vj (x:cu):List (List KV):=[afv x.s,ai0 x.said]
def Ho (vs:List KV) (rs:List (List KV)):cu:=⟨aq (v9 vs 0),aq (v9 vs 2),afw (r9 rs 0),ai1 (r9 rs 1)⟩
def JC:aJ:=⟨[(2,w9 i9),(6,⟨true,[.lit (.fn (.func 96) [] []),.lit (.fn (.func 97) [] []),.lit (.fn (.func 98) [] []),.lit (.fn (.func 99) [] []),.lit (.fn (.func 100) [] [])]⟩),(7,w9 i9)],[(1,[u9,u9,u9,u9,u9,u9,u9,u9,u9,i9,u9,i9,b9,i9],1),(3,[u9,u9,u9,u9,i9,u9,i9,b9,i9],1)],[(1,0,0),(3,1,0)]⟩
def R0:=AP [(85,AQ)] [] 60 58 JC
def ew (x:cu):aW cu:=(.next ⟨x.t2,(aK (0+1)),x.s,⟨x.s.look.color,x.said.dL,x.said.o9,x.said.ob,x.said.kC,x.said.bin⟩⟩)
def eA (x:cu):aW cu:=(.next ⟨x.t2,(aK (1+1)),x.s,⟨x.said.color,x.s.look.dL,x.said.o9,x.said.ob,x.said.kC,x.said.bin⟩⟩)
def eB (x:cu):aW cu:=(.next ⟨x.t2,(aK (2+1)),x.s,⟨x.said.color,x.said.dL,x.s.look.o9,x.said.ob,x.said.kC,x.said.bin⟩⟩)
def eC (x:cu):aW cu:=(.next ⟨x.t2,(aK (3+1)),x.s,⟨x.said.color,x.said.dL,x.said.o9,x.s.look.ob,x.said.kC,x.said.bin⟩⟩)
def eD (x:cu):aW cu:=(.next ⟨x.t2,(aK (4+1)),x.s,⟨x.said.color,x.said.dL,x.said.o9,x.said.ob,x.s.look.kC,x.s.look.bin⟩⟩)
def bu (x:cu):aW cu:=(cond (x.t7==0) (cond (x.s.cl.e0==0) (.next ⟨x.t2,(aK (0+1)),x.s,x.said⟩) (cond (x.s.cl.e0==1)
   (ew x) (cond (x.s.cl.e0==3)
   (ew x) (cond (x.s.cl.e0==5)
    (ew x) (cond (x.s.cl.e0==7)
    (ew x) (.out aG.ah.ret ⟨8,0,x.s,x.said⟩)))))) (cond (x.t7==1) (cond (x.s.cl.e1==0) (.next ⟨x.t2,(aK (1+1)),x.s,x.said⟩) (cond (x.s.cl.e1==1)
   (eA x) (cond (x.s.cl.e1==3)
    (eA x) (cond (x.s.cl.e1==5)
    (eA x) (cond (x.s.cl.e1==7)
     (eA x) (.out aG.ah.ret ⟨8,1,x.s,x.said⟩)))))) (cond (x.t7==2) (cond (x.s.cl.e2==0) (.next ⟨x.t2,(aK (2+1)),x.s,x.said⟩) (cond (x.s.cl.e2==1)
    (eB x) (cond (x.s.cl.e2==3)
    (eB x) (cond (x.s.cl.e2==5)
     (eB x) (cond (x.s.cl.e2==7)
     (eB x) (.out aG.ah.ret ⟨8,2,x.s,x.said⟩)))))) (cond (x.t7==3) (cond (x.s.cl.e3==0) (.next ⟨x.t2,(aK (3+1)),x.s,x.said⟩) (cond (x.s.cl.e3==1)
    (eC x) (cond (x.s.cl.e3==3)
     (eC x) (cond (x.s.cl.e3==5)
     (eC x) (cond (x.s.cl.e3==7)
      (eC x) (.out aG.ah.ret ⟨8,3,x.s,x.said⟩)))))) (cond (x.t7==4) (cond (x.s.cl.e4==0) (.next ⟨x.t2,(aK (4+1)),x.s,x.said⟩) (cond (x.s.cl.e4==1)
     (eD x) (cond (x.s.cl.e4==3)
     (eD x) (cond (x.s.cl.e4==5)
      (eD x) (cond (x.s.cl.e4==7)
      (eD x) (.out aG.ah.ret ⟨8,4,x.s,x.said⟩)))))) (cond (x.t7==5) (.out (aG.ah.exit 0) ⟨x.t2,5,x.s,x.said⟩) .fail))))))
theorem Pk (x:cu):bu x = .fail\/R0 (vi x) (vj x)=aW.enc vi vj (bu x):=by
 obtain ⟨t2,t7,s,said⟩:=x
 exact (aW.lit (fun h=>by subst h; (try simp only [aW.cw,iA,lk,lR,lT,nf,ng,nh,ni,nb,jV,mV,mW,pE,pG,pH,pI,pJ,pK,pF,lj,pC,pD,sK,sM,sN,sP,sQ,sR,sL,mU,nN,nP,qx,qz,qA,qB,qC,qD,qy,lE,jY,jZ,lx,lz,lA,lB,lC,lD,ly,iV,qv,qw,tD,tF,tG,tH,tI,tJ,tE,nM,qt,qu,tu,tw,tz,tA,tB,tC,tv,nL,lu,j7,lV,lW,nH,nI,nJ,nK,nG,jX,qp,qq,tg,ti,tj,tl,tq,tt,th,nF,lU,nE,qh,qj,qk,ql,qm,qo,qi,lr,qf,qg,sX,s0,s5,s9,ta,tf,sZ,nD,nB,nC,p8,qa,qb,qc,qd,qe,p9,lq,nz,nA,pU,pW,pX,pY,pZ,p0,pV,ln,sT,sU,xQ,xS,xT,xU,xV,xW,xR,pT,rN,sS,xJ,xL,xM,xN,xO,xP,xK,pS,gT,gU,iK,iM,iP,iQ,iR,iU,iL,fS,j5,j6,np,nt,nu,nv,nw,ny,ns,jW,nj,nm,pL,pN,pO,pP,pQ,pR,pM,ll,rK,rL,uo,vO,xF,xG,xH,xI,pA,pB,sJ,um,sI,pz,mT]); kernel_rfl) (aW.lit (fun h=>by subst h; (try simp only [aW.cw,iA,lk,lR,lT,nf,ng,nh,ni,nb,jV,mV,mW,pE,pG,pH,pI,pJ,pK,pF,lj,pC,pD,sK,sM,sN,sP,sQ,sR,sL,mU,nN,nP,qx,qz,qA,qB,qC,qD,qy,lE,jY,jZ,lx,lz,lA,lB,lC,lD,ly,iV,qv,qw,tD,tF,tG,tH,tI,tJ,tE,nM,qt,qu,tu,tw,tz,tA,tB,tC,tv,nL,lu,j7,lV,lW,nH,nI,nJ,nK,nG,jX,qp,qq,tg,ti,tj,tl,tq,tt,th,nF,lU,nE,qh,qj,qk,ql,qm,qo,qi,lr,qf,qg,sX,s0,s5,s9,ta,tf,sZ,nD,nB,nC,p8,qa,qb,qc,qd,qe,p9,lq,nz,nA,pU,pW,pX,pY,pZ,p0,pV,ln,sT,sU,xQ,xS,xT,xU,xV,xW,xR,pT,rN,sS,xJ,xL,xM,xN,xO,xP,xK,pS,gT,gU,iK,iM,iP,iQ,iR,iU,iL,fS,j5,j6,np,nt,nu,nv,nw,ny,ns,jW,nj,nm,pL,pN,pO,pP,pQ,pR,pM,ll,rK,rL,uo,vO,xF,xG,xH,xI,pA,pB,sJ,um,sI,pz,mT]); kernel_rfl) (aW.lit (fun h=>by subst h; (try simp only [aW.cw,iA,lk,lR,lT,nf,ng,nh,ni,nb,jV,mV,mW,pE,pG,pH,pI,pJ,pK,pF,lj,pC,pD,sK,sM,sN,sP,sQ,sR,sL,mU,nN,nP,qx,qz,qA,qB,qC,qD,qy,lE,jY,jZ,lx,lz,lA,lB,lC,lD,ly,iV,qv,qw,tD,tF,tG,tH,tI,tJ,tE,nM,qt,qu,tu,tw,tz,tA,tB,tC,tv,nL,lu,j7,lV,lW,nH,nI,nJ,nK,nG,jX,qp,qq,tg,ti,tj,tl,tq,tt,th,nF,lU,nE,qh,qj,qk,ql,qm,qo,qi,lr,qf,qg,sX,s0,s5,s9,ta,tf,sZ,nD,nB,nC,p8,qa,qb,qc,qd,qe,p9,lq,nz,nA,pU,pW,pX,pY,pZ,p0,pV,ln,sT,sU,xQ,xS,xT,xU,xV,xW,xR,pT,rN,sS,xJ,xL,xM,xN,xO,xP,xK,pS,gT,gU,iK,iM,iP,iQ,iR,iU,iL,fS,j5,j6,np,nt,nu,nv,nw,ny,ns,jW,nj,nm,pL,pN,pO,pP,pQ,pR,pM,ll,rK,rL,uo,vO,xF,xG,xH,xI,pA,pB,sJ,um,sI,pz,mT]); kernel_rfl) (aW.lit (fun h=>by subst h; (try simp only [aW.cw,iA,lk,lR,lT,nf,ng,nh,ni,nb,jV,mV,mW,pE,pG,pH,pI,pJ,pK,pF,lj,pC,pD,sK,sM,sN,sP,sQ,sR,sL,mU,nN,nP,qx,qz,qA,qB,qC,qD,qy,lE,jY,jZ,lx,lz,lA,lB,lC,lD,ly,iV,qv,qw,tD,tF,tG,tH,tI,tJ,tE,nM,qt,qu,tu,tw,tz,tA,tB,tC,tv,nL,lu,j7,lV,lW,nH,nI,nJ,nK,nG,jX,qp,qq,tg,ti,tj,tl,tq,tt,th,nF,lU,nE,qh,qj,qk,ql,qm,qo,qi,lr,qf,qg,sX,s0,s5,s9,ta,tf,sZ,nD,nB,nC,p8,qa,qb,qc,qd,qe,p9,lq,nz,nA,pU,pW,pX,pY,pZ,p0,pV,ln,sT,sU,xQ,xS,xT,xU,xV,xW,xR,pT,rN,sS,xJ,xL,xM,xN,xO,xP,xK,pS,gT,gU,iK,iM,iP,iQ,iR,iU,iL,fS,j5,j6,np,nt,nu,nv,nw,ny,ns,jW,nj,nm,pL,pN,pO,pP,pQ,pR,pM,ll,rK,rL,uo,vO,xF,xG,xH,xI,pA,pB,sJ,um,sI,pz,mT]); kernel_rfl) (aW.lit (fun h=>by subst h; (try simp only [aW.cw,iA,lk,lR,lT,nf,ng,nh,ni,nb,jV,mV,mW,pE,pG,pH,pI,pJ,pK,pF,lj,pC,pD,sK,sM,sN,sP,sQ,sR,sL,mU,nN,nP,qx,qz,qA,qB,qC,qD,qy,lE,jY,jZ,lx,lz,lA,lB,lC,lD,ly,iV,qv,qw,tD,tF,tG,tH,tI,tJ,tE,nM,qt,qu,tu,tw,tz,tA,tB,tC,tv,nL,lu,j7,lV,lW,nH,nI,nJ,nK,nG,jX,qp,qq,tg,ti,tj,tl,tq,tt,th,nF,lU,nE,qh,qj,qk,ql,qm,qo,qi,lr,qf,qg,sX,s0,s5,s9,ta,tf,sZ,nD,nB,nC,p8,qa,qb,qc,qd,qe,p9,lq,nz,nA,pU,pW,pX,pY,pZ,p0,pV,ln,sT,sU,xQ,xS,xT,xU,xV,xW,xR,pT,rN,sS,xJ,xL,xM,xN,xO,xP,xK,pS,gT,gU,iK,iM,iP,iQ,iR,iU,iL,fS,j5,j6,np,nt,nu,nv,nw,ny,ns,jW,nj,nm,pL,pN,pO,pP,pQ,pR,pM,ll,rK,rL,uo,vO,xF,xG,xH,xI,pA,pB,sJ,um,sI,pz,mT]); kernel_rfl) (aW.lit (fun h=>by subst h; (try simp only [aW.cw,iA,lk,lR,lT,nf,ng,nh,ni,nb,jV,mV,mW,pE,pG,pH,pI,pJ,pK,pF,lj,pC,pD,sK,sM,sN,sP,sQ,sR,sL,mU,nN,nP,qx,qz,qA,qB,qC,qD,qy,lE,jY,jZ,lx,lz,lA,lB,lC,lD,ly,iV,qv,qw,tD,tF,tG,tH,tI,tJ,tE,nM,qt,qu,tu,tw,tz,tA,tB,tC,tv,nL,lu,j7,lV,lW,nH,nI,nJ,nK,nG,jX,qp,qq,tg,ti,tj,tl,tq,tt,th,nF,lU,nE,qh,qj,qk,ql,qm,qo,qi,lr,qf,qg,sX,s0,s5,s9,ta,tf,sZ,nD,nB,nC,p8,qa,qb,qc,qd,qe,p9,lq,nz,nA,pU,pW,pX,pY,pZ,p0,pV,ln,sT,sU,xQ,xS,xT,xU,xV,xW,xR,pT,rN,sS,xJ,xL,xM,xN,xO,xP,xK,pS,gT,gU,iK,iM,iP,iQ,iR,iU,iL,fS,j5,j6,np,nt,nu,nv,nw,ny,ns,jW,nj,nm,pL,pN,pO,pP,pQ,pR,pM,ll,rK,rL,uo,vO,xF,xG,xH,xI,pA,pB,sJ,um,sI,pz,mT]); kernel_rfl) (.inl rfl)))))))
def JD:Lp:=⟨60,58,JC,fun vs rs=>dK vi vj (goN bu (Ho vs rs)) [aG.ah.exit 0,aG.ah.ret],false⟩
theorem R1:JD.Ok PG:=VW funcs mixed (ai.cons DW ai.nil) bj.nil (L:=9) (n:=9) (step:=bu) (ev:=vi) (er:=vj) (pa:=Ho) rfl (fun wv wr=>⟨by kernel_rfl,by kernel_rfl⟩) Pk
def ca (s:dv):=goN bu ⟨0,0,s,⟨⟨0,0,0,0⟩,0,0,0,false,0⟩⟩
def DX (s:dv):=mM (ca s).st.s.look
def qF (s:dv):Option (Int):=(cond ((ca s).by (aG.ah.exit 0)) (cond (!(((ca s).st.said.color.e0==(ca s).st.s.look.color.e0)&&(((ca s).st.said.color.e1==(ca s).st.s.look.color.e1)&&(((ca s).st.said.color.e2==(ca s).st.s.look.color.e2)&&(((ca s).st.said.color.e3==(ca s).st.s.look.color.e3)&&(((ca s).st.said.dL==(ca s).st.s.look.dL)&&(((ca s).st.said.o9==(ca s).st.s.look.o9)&&(((ca s).st.said.ob==(ca s).st.s.look.ob)&&(((ca s).st.said.kC==(ca s).st.s.look.kC)&&(((ca s).st.said.bin==(ca s).st.s.look.bin)&&true)))))))))) (some (8)) (cond (DX s).isSome (some (((DX s).getD default))) none)) (cond ((ca s).by aG.ah.ret) (some ((ca s).st.t2)) none))
theorem V8 (s:dv):ou [(85,AQ)] [JD] 60 [oQ s] = (qF s).map (kI .i64):=by
 unfold qF
 try simp only [bG]
 kernel_rfl
def B4:List KV->KR KV:=bC PG 60 (bO (kI .i64) fun vs=>qF (iB (v9 vs 0)))
theorem Cs:bB PG 60 B4:=dE (ai.cons DW ai.nil) (rM R1 bj.nil) fun w=>V8 (iB (g0 62 (w 0)))
structure rX where
 e0:Bool
 e1:Bool
 e2:Bool
 e3:Bool
 e4:Bool
instance:Inhabited rX:=⟨⟨default,default,default,default,default⟩⟩
def alD (x:rX):List KV:=[.bool x.e0,.bool x.e1,.bool x.e2,.bool x.e3,.bool x.e4]
def oy (x:rX):KV:=.agg (alD x)
def alE (c:Nat->KV):rX:=⟨eL (c 0),eL (c 1),eL (c 2),eL (c 3),eL (c 4)⟩
def iq (v:KV):rX:=alE fun k=>v.cells.getD k .bh
theorem rG (x:rX):iq (oy x)=x:=rfl
theorem Zm:iq .bh=default:=rfl
theorem yg (s:Sl rX) (v:rX):s.push v=aw iq (s.n+1) (ax s.n (fun i=>oy (s.get i)) (cY [oy v])):=(fR rG Zm s v).symm
theorem yh (s t:Sl rX):s.join t=aw iq (s.n+t.n) (ax s.n (fun i=>oy (s.get i)) (fun i=>oy (t.get i))):=(gW rG s t).symm
theorem zW (l:List rX):Sl.lit l=aw iq l.length (cY (l.map oy)):=(jR rG Zm l).symm
theorem zX (s:Sl rX) (i:Nat) (v:rX):s.set i v=aw iq s.n (bR (fun j=>oy (s.get j)) i (oy v)):=(jS rG s i v).symm
theorem vW (s t:Sl rX) (o m:Nat):s.qZ o m t=aw iq s.n (aB o m (fun j=>oy (s.get j)) (fun j=>oy (t.get j))):=(fP rG s t o m).symm
theorem zY (m n n' : Nat) (acc ay:Nat->KV):aw iq m (ax n (fun i=>oy ((aw iq n' acc).get i)) ay)=aw iq m (ax n acc ay):=kh rG ..
theorem zZ (m n n' : Nat) (acc ay:Nat->KV):aw iq m (ax n acc (fun i=>oy ((aw iq n' ay).get i)))=aw iq m (ax n acc ay):=ki rG ..
theorem z6 (m n' i:Nat) (acc:Nat->KV) (v:KV):aw iq m (bR (fun j=>oy ((aw iq n' acc).get j)) i v)=aw iq m (bR acc i v):=kl rG ..
theorem z7 (n n' o m:Nat) (acc ay:Nat->KV):aw iq n (aB o m (fun j=>oy ((aw iq n' acc).get j)) ay)=aw iq n (aB o m acc ay):=kU rG ..
theorem z8 (n n' o m:Nat) (acc ay:Nat->KV):aw iq n (aB o m acc (fun j=>oy ((aw iq n' ay).get j)))=aw iq n (aB o m acc ay):=kV rG ..
structure cQ where
 look:kq
 kept:rX
instance:Inhabited cQ:=⟨⟨default,default⟩⟩
def RE (x:cQ):List KV:=[.int .u8 x.look.color.e0,.int .u8 x.look.color.e1,.int .u8 x.look.color.e2,.int .u8 x.look.color.e3,.int .i64 x.look.dL,.int .u8 x.look.o9,.int .i64 x.look.ob,.bool x.look.kC,.int .i64 x.look.bin,.bool x.kept.e0,.bool x.kept.e1,.bool x.kept.e2,.bool x.kept.e3,.bool x.kept.e4]
def jK (x:cQ):KV:=.agg (RE x)
def RF (c:Nat->KV):cQ:=⟨⟨⟨aq (c 0),aq (c 1),aq (c 2),aq (c 3)⟩,aq (c 4),aq (c 5),aq (c 6),eL (c 7),aq (c 8)⟩,⟨eL (c 9),eL (c 10),eL (c 11),eL (c 12),eL (c 13)⟩⟩
def gw (v:KV):cQ:=RF fun k=>v.cells.getD k .bh
theorem rH (x:cQ):gw (jK x)=x:=rfl
theorem Zn:gw .bh=default:=rfl
theorem yi (s:Sl cQ) (v:cQ):s.push v=aw gw (s.n+1) (ax s.n (fun i=>jK (s.get i)) (cY [jK v])):=(fR rH Zn s v).symm
theorem yj (s t:Sl cQ):s.join t=aw gw (s.n+t.n) (ax s.n (fun i=>jK (s.get i)) (fun i=>jK (t.get i))):=(gW rH s t).symm
theorem Aa (l:List cQ):Sl.lit l=aw gw l.length (cY (l.map jK)):=(jR rH Zn l).symm
theorem Ab (s:Sl cQ) (i:Nat) (v:cQ):s.set i v=aw gw s.n (bR (fun j=>jK (s.get j)) i (jK v)):=(jS rH s i v).symm
theorem vX (s t:Sl cQ) (o m:Nat):s.qZ o m t=aw gw s.n (aB o m (fun j=>jK (s.get j)) (fun j=>jK (t.get j))):=(fP rH s t o m).symm
theorem Ac (m n n' : Nat) (acc ay:Nat->KV):aw gw m (ax n (fun i=>jK ((aw gw n' acc).get i)) ay)=aw gw m (ax n acc ay):=kh rH ..
theorem Ad (m n n' : Nat) (acc ay:Nat->KV):aw gw m (ax n acc (fun i=>jK ((aw gw n' ay).get i)))=aw gw m (ax n acc ay):=ki rH ..
theorem Ae (m n' i:Nat) (acc:Nat->KV) (v:KV):aw gw m (bR (fun j=>jK ((aw gw n' acc).get j)) i v)=aw gw m (bR acc i v):=kl rH ..
theorem Af (n n' o m:Nat) (acc ay:Nat->KV):aw gw n (aB o m (fun j=>jK ((aw gw n' acc).get j)) ay)=aw gw n (aB o m acc ay):=kU rH ..
theorem Ag (n n' o m:Nat) (acc ay:Nat->KV):aw gw n (aB o m acc (fun j=>jK ((aw gw n' ay).get j)))=aw gw n (aB o m acc ay):=kV rH ..
structure cR where
 t14:Int
 i:cQ
 s:dv
 t4:cQ
instance:Inhabited cR:=⟨⟨default,default,default,default⟩⟩
def vl (x:cR):List KV:=[.agg [.fn (.func 96) [] [],.fn (.func 97) [] [],.fn (.func 98) [] [],.fn (.func 99) [] [],.fn (.func 100) [] []],.int .i64 x.t14]
def vm (x:cR):List (List KV):=[RE x.i,afv x.s,RE x.t4]
def Hp (vs:List KV) (rs:List (List KV)):cR:=⟨aq (v9 vs 1),RF (r9 rs 0),afw (r9 rs 1),RF (r9 rs 2)⟩
def JE:aJ:=⟨[(13,⟨true,[.lit (.fn (.func 96) [] []),.lit (.fn (.func 97) [] []),.lit (.fn (.func 98) [] []),.lit (.fn (.func 99) [] []),.lit (.fn (.func 100) [] [])]⟩),(14,w9 i9)],[(2,[u9,u9,u9,u9,i9,u9,i9,b9,i9,b9,b9,b9,b9,b9],1),(3,[u9,u9,u9,u9,u9,u9,u9,u9,u9,i9,u9,i9,b9,i9],1),(4,[u9,u9,u9,u9,i9,u9,i9,b9,i9,b9,b9,b9,b9,b9],1)],[(2,0,0),(3,1,0),(4,2,0)]⟩
def R2:=AP [] [] 61 58 JE
def Bz (x:cR):aW cR:=(.next ⟨(aK (0+1)),⟨⟨x.s.look.color,x.i.look.dL,x.i.look.o9,x.i.look.ob,x.i.look.kC,x.i.look.bin⟩,⟨((w8 (((Dm IntKind.u8 x.s.cl.e0 2):Nat):Int)) != 0),x.i.kept.e1,x.i.kept.e2,x.i.kept.e3,x.i.kept.e4⟩⟩,x.s,x.t4⟩)
def BA (x:cR):aW cR:=(.next ⟨(aK (1+1)),⟨⟨x.i.look.color,x.s.look.dL,x.i.look.o9,x.i.look.ob,x.i.look.kC,x.i.look.bin⟩,⟨x.i.kept.e0,((w8 (((Dm IntKind.u8 x.s.cl.e1 2):Nat):Int)) != 0),x.i.kept.e2,x.i.kept.e3,x.i.kept.e4⟩⟩,x.s,x.t4⟩)
def BB (x:cR):aW cR:=(.next ⟨(aK (2+1)),⟨⟨x.i.look.color,x.i.look.dL,x.s.look.o9,x.i.look.ob,x.i.look.kC,x.i.look.bin⟩,⟨x.i.kept.e0,x.i.kept.e1,((w8 (((Dm IntKind.u8 x.s.cl.e2 2):Nat):Int)) != 0),x.i.kept.e3,x.i.kept.e4⟩⟩,x.s,x.t4⟩)
def BC (x:cR):aW cR:=(.next ⟨(aK (3+1)),⟨⟨x.i.look.color,x.i.look.dL,x.i.look.o9,x.s.look.ob,x.i.look.kC,x.i.look.bin⟩,⟨x.i.kept.e0,x.i.kept.e1,x.i.kept.e2,((w8 (((Dm IntKind.u8 x.s.cl.e3 2):Nat):Int)) != 0),x.i.kept.e4⟩⟩,x.s,x.t4⟩)
def BD (x:cR):aW cR:=(.next ⟨(aK (4+1)),⟨⟨x.i.look.color,x.i.look.dL,x.i.look.o9,x.i.look.ob,x.s.look.kC,x.s.look.bin⟩,⟨x.i.kept.e0,x.i.kept.e1,x.i.kept.e2,x.i.kept.e3,((w8 (((Dm IntKind.u8 x.s.cl.e4 2):Nat):Int)) != 0)⟩⟩,x.s,x.t4⟩)
def eU (x:cR):aW cR:=(cond (x.t14==0) (cond (x.s.cl.e0==0) (.next ⟨(aK (0+1)),x.i,x.s,x.t4⟩) (cond x.i.kept.e0 (cond ((w8 (((Dm IntKind.u8 x.s.cl.e0 4):Nat):Int))==0) (.next ⟨(aK (0+1)),x.i,x.s,x.t4⟩)
   (Bz x))
   (Bz x))) (cond (x.t14==1) (cond (x.s.cl.e1==0) (.next ⟨(aK (1+1)),x.i,x.s,x.t4⟩) (cond x.i.kept.e1 (cond ((w8 (((Dm IntKind.u8 x.s.cl.e1 4):Nat):Int))==0) (.next ⟨(aK (1+1)),x.i,x.s,x.t4⟩)
    (BA x))
   (BA x))) (cond (x.t14==2) (cond (x.s.cl.e2==0) (.next ⟨(aK (2+1)),x.i,x.s,x.t4⟩) (cond x.i.kept.e2 (cond ((w8 (((Dm IntKind.u8 x.s.cl.e2 4):Nat):Int))==0) (.next ⟨(aK (2+1)),x.i,x.s,x.t4⟩)
    (BB x))
    (BB x))) (cond (x.t14==3) (cond (x.s.cl.e3==0) (.next ⟨(aK (3+1)),x.i,x.s,x.t4⟩) (cond x.i.kept.e3 (cond ((w8 (((Dm IntKind.u8 x.s.cl.e3 4):Nat):Int))==0) (.next ⟨(aK (3+1)),x.i,x.s,x.t4⟩)
     (BC x))
    (BC x))) (cond (x.t14==4) (cond (x.s.cl.e4==0) (.next ⟨(aK (4+1)),x.i,x.s,x.t4⟩) (cond x.i.kept.e4 (cond ((w8 (((Dm IntKind.u8 x.s.cl.e4 4):Nat):Int))==0) (.next ⟨(aK (4+1)),x.i,x.s,x.t4⟩)
     (BD x))
     (BD x))) (cond (x.t14==5) (.out (aG.ah.exit 0) ⟨5,x.i,x.s,x.t4⟩) .fail))))))
theorem Pl (x:cR):eU x = .fail\/R2 (vl x) (vm x)=aW.enc vl vm (eU x):=by
 obtain ⟨t14,i,s,t4⟩:=x
 exact (aW.lit (fun h=>by subst h; (try simp only [aW.cw,yi,yj,Aa,Ac,Ad,Ae,Af,Ag,Ab,vX,yg,yh,zW,zY,zZ,z6,z7,z8,zX,vW,iA,lk,lR,lT,nf,ng,nh,ni,nb,jV,mV,mW,pE,pG,pH,pI,pJ,pK,pF,lj,pC,pD,sK,sM,sN,sP,sQ,sR,sL,mU,nN,nP,qx,qz,qA,qB,qC,qD,qy,lE,jY,jZ,lx,lz,lA,lB,lC,lD,ly,iV,qv,qw,tD,tF,tG,tH,tI,tJ,tE,nM,qt,qu,tu,tw,tz,tA,tB,tC,tv,nL,lu,j7,lV,lW,nH,nI,nJ,nK,nG,jX,qp,qq,tg,ti,tj,tl,tq,tt,th,nF,lU,nE,qh,qj,qk,ql,qm,qo,qi,lr,qf,qg,sX,s0,s5,s9,ta,tf,sZ,nD,nB,nC,p8,qa,qb,qc,qd,qe,p9,lq,nz,nA,pU,pW,pX,pY,pZ,p0,pV,ln,sT,sU,xQ,xS,xT,xU,xV,xW,xR,pT,rN,sS,xJ,xL,xM,xN,xO,xP,xK,pS,gT,gU,iK,iM,iP,iQ,iR,iU,iL,fS,j5,j6,np,nt,nu,nv,nw,ny,ns,jW,nj,nm,pL,pN,pO,pP,pQ,pR,pM,ll,rK,rL,uo,vO,xF,xG,xH,xI,pA,pB,sJ,um,sI,pz,mT]); kernel_rfl) (aW.lit (fun h=>by subst h; (try simp only [aW.cw,yi,yj,Aa,Ac,Ad,Ae,Af,Ag,Ab,vX,yg,yh,zW,zY,zZ,z6,z7,z8,zX,vW,iA,lk,lR,lT,nf,ng,nh,ni,nb,jV,mV,mW,pE,pG,pH,pI,pJ,pK,pF,lj,pC,pD,sK,sM,sN,sP,sQ,sR,sL,mU,nN,nP,qx,qz,qA,qB,qC,qD,qy,lE,jY,jZ,lx,lz,lA,lB,lC,lD,ly,iV,qv,qw,tD,tF,tG,tH,tI,tJ,tE,nM,qt,qu,tu,tw,tz,tA,tB,tC,tv,nL,lu,j7,lV,lW,nH,nI,nJ,nK,nG,jX,qp,qq,tg,ti,tj,tl,tq,tt,th,nF,lU,nE,qh,qj,qk,ql,qm,qo,qi,lr,qf,qg,sX,s0,s5,s9,ta,tf,sZ,nD,nB,nC,p8,qa,qb,qc,qd,qe,p9,lq,nz,nA,pU,pW,pX,pY,pZ,p0,pV,ln,sT,sU,xQ,xS,xT,xU,xV,xW,xR,pT,rN,sS,xJ,xL,xM,xN,xO,xP,xK,pS,gT,gU,iK,iM,iP,iQ,iR,iU,iL,fS,j5,j6,np,nt,nu,nv,nw,ny,ns,jW,nj,nm,pL,pN,pO,pP,pQ,pR,pM,ll,rK,rL,uo,vO,xF,xG,xH,xI,pA,pB,sJ,um,sI,pz,mT]); kernel_rfl) (aW.lit (fun h=>by subst h; (try simp only [aW.cw,yi,yj,Aa,Ac,Ad,Ae,Af,Ag,Ab,vX,yg,yh,zW,zY,zZ,z6,z7,z8,zX,vW,iA,lk,lR,lT,nf,ng,nh,ni,nb,jV,mV,mW,pE,pG,pH,pI,pJ,pK,pF,lj,pC,pD,sK,sM,sN,sP,sQ,sR,sL,mU,nN,nP,qx,qz,qA,qB,qC,qD,qy,lE,jY,jZ,lx,lz,lA,lB,lC,lD,ly,iV,qv,qw,tD,tF,tG,tH,tI,tJ,tE,nM,qt,qu,tu,tw,tz,tA,tB,tC,tv,nL,lu,j7,lV,lW,nH,nI,nJ,nK,nG,jX,qp,qq,tg,ti,tj,tl,tq,tt,th,nF,lU,nE,qh,qj,qk,ql,qm,qo,qi,lr,qf,qg,sX,s0,s5,s9,ta,tf,sZ,nD,nB,nC,p8,qa,qb,qc,qd,qe,p9,lq,nz,nA,pU,pW,pX,pY,pZ,p0,pV,ln,sT,sU,xQ,xS,xT,xU,xV,xW,xR,pT,rN,sS,xJ,xL,xM,xN,xO,xP,xK,pS,gT,gU,iK,iM,iP,iQ,iR,iU,iL,fS,j5,j6,np,nt,nu,nv,nw,ny,ns,jW,nj,nm,pL,pN,pO,pP,pQ,pR,pM,ll,rK,rL,uo,vO,xF,xG,xH,xI,pA,pB,sJ,um,sI,pz,mT]); kernel_rfl) (aW.lit (fun h=>by subst h; (try simp only [aW.cw,yi,yj,Aa,Ac,Ad,Ae,Af,Ag,Ab,vX,yg,yh,zW,zY,zZ,z6,z7,z8,zX,vW,iA,lk,lR,lT,nf,ng,nh,ni,nb,jV,mV,mW,pE,pG,pH,pI,pJ,pK,pF,lj,pC,pD,sK,sM,sN,sP,sQ,sR,sL,mU,nN,nP,qx,qz,qA,qB,qC,qD,qy,lE,jY,jZ,lx,lz,lA,lB,lC,lD,ly,iV,qv,qw,tD,tF,tG,tH,tI,tJ,tE,nM,qt,qu,tu,tw,tz,tA,tB,tC,tv,nL,lu,j7,lV,lW,nH,nI,nJ,nK,nG,jX,qp,qq,tg,ti,tj,tl,tq,tt,th,nF,lU,nE,qh,qj,qk,ql,qm,qo,qi,lr,qf,qg,sX,s0,s5,s9,ta,tf,sZ,nD,nB,nC,p8,qa,qb,qc,qd,qe,p9,lq,nz,nA,pU,pW,pX,pY,pZ,p0,pV,ln,sT,sU,xQ,xS,xT,xU,xV,xW,xR,pT,rN,sS,xJ,xL,xM,xN,xO,xP,xK,pS,gT,gU,iK,iM,iP,iQ,iR,iU,iL,fS,j5,j6,np,nt,nu,nv,nw,ny,ns,jW,nj,nm,pL,pN,pO,pP,pQ,pR,pM,ll,rK,rL,uo,vO,xF,xG,xH,xI,pA,pB,sJ,um,sI,pz,mT]); kernel_rfl) (aW.lit (fun h=>by subst h; (try simp only [aW.cw,yi,yj,Aa,Ac,Ad,Ae,Af,Ag,Ab,vX,yg,yh,zW,zY,zZ,z6,z7,z8,zX,vW,iA,lk,lR,lT,nf,ng,nh,ni,nb,jV,mV,mW,pE,pG,pH,pI,pJ,pK,pF,lj,pC,pD,sK,sM,sN,sP,sQ,sR,sL,mU,nN,nP,qx,qz,qA,qB,qC,qD,qy,lE,jY,jZ,lx,lz,lA,lB,lC,lD,ly,iV,qv,qw,tD,tF,tG,tH,tI,tJ,tE,nM,qt,qu,tu,tw,tz,tA,tB,tC,tv,nL,lu,j7,lV,lW,nH,nI,nJ,nK,nG,jX,qp,qq,tg,ti,tj,tl,tq,tt,th,nF,lU,nE,qh,qj,qk,ql,qm,qo,qi,lr,qf,qg,sX,s0,s5,s9,ta,tf,sZ,nD,nB,nC,p8,qa,qb,qc,qd,qe,p9,lq,nz,nA,pU,pW,pX,pY,pZ,p0,pV,ln,sT,sU,xQ,xS,xT,xU,xV,xW,xR,pT,rN,sS,xJ,xL,xM,xN,xO,xP,xK,pS,gT,gU,iK,iM,iP,iQ,iR,iU,iL,fS,j5,j6,np,nt,nu,nv,nw,ny,ns,jW,nj,nm,pL,pN,pO,pP,pQ,pR,pM,ll,rK,rL,uo,vO,xF,xG,xH,xI,pA,pB,sJ,um,sI,pz,mT]); kernel_rfl) (aW.lit (fun h=>by subst h; (try simp only [aW.cw,yi,yj,Aa,Ac,Ad,Ae,Af,Ag,Ab,vX,yg,yh,zW,zY,zZ,z6,z7,z8,zX,vW,iA,lk,lR,lT,nf,ng,nh,ni,nb,jV,mV,mW,pE,pG,pH,pI,pJ,pK,pF,lj,pC,pD,sK,sM,sN,sP,sQ,sR,sL,mU,nN,nP,qx,qz,qA,qB,qC,qD,qy,lE,jY,jZ,lx,lz,lA,lB,lC,lD,ly,iV,qv,qw,tD,tF,tG,tH,tI,tJ,tE,nM,qt,qu,tu,tw,tz,tA,tB,tC,tv,nL,lu,j7,lV,lW,nH,nI,nJ,nK,nG,jX,qp,qq,tg,ti,tj,tl,tq,tt,th,nF,lU,nE,qh,qj,qk,ql,qm,qo,qi,lr,qf,qg,sX,s0,s5,s9,ta,tf,sZ,nD,nB,nC,p8,qa,qb,qc,qd,qe,p9,lq,nz,nA,pU,pW,pX,pY,pZ,p0,pV,ln,sT,sU,xQ,xS,xT,xU,xV,xW,xR,pT,rN,sS,xJ,xL,xM,xN,xO,xP,xK,pS,gT,gU,iK,iM,iP,iQ,iR,iU,iL,fS,j5,j6,np,nt,nu,nv,nw,ny,ns,jW,nj,nm,pL,pN,pO,pP,pQ,pR,pM,ll,rK,rL,uo,vO,xF,xG,xH,xI,pA,pB,sJ,um,sI,pz,mT]); kernel_rfl) (.inl rfl)))))))
def JF:Lp:=⟨61,58,JE,fun vs rs=>dK vl vm (goN eU (Hp vs rs)) [aG.ah.exit 0],false⟩
theorem R3:JF.Ok PG:=VW funcs mixed ai.nil bj.nil (L:=9) (n:=9) (step:=eU) (ev:=vl) (er:=vm) (pa:=Hp) rfl (fun wv wr=>⟨by kernel_rfl,by kernel_rfl⟩) Pl
def DY (i:cQ) (s:dv):=goN eU ⟨0,i,s,⟨⟨⟨0,0,0,0⟩,0,0,0,false,0⟩,⟨false,false,false,false,false⟩⟩⟩
def tK (i:cQ) (s:dv):Option (cQ):=(cond ((s.cl.e0==0)&&((s.cl.e1==0)&&((s.cl.e2==0)&&((s.cl.e3==0)&&((s.cl.e4==0)&&true))))) (some (i)) (cond ((DY i s).by (aG.ah.exit 0)) (some ((DY i s).st.i)) none))
theorem V9 (i:cQ) (s:dv):ou [] [JF] 61 [jK i,oQ s] = (tK i s).map jK:=by
 unfold tK
 try simp only [bG]
 kernel_rfl
def GS:List KV->KR KV:=bC PG 61 (bO jK fun vs=>tK (gw (v9 vs 0)) (iB (v9 vs 1)))
theorem JG:bB PG 61 GS:=dE ai.nil (rM R3 bj.nil) fun w=>V9 (gw (g0 158 (w 0))) (iB (g0 62 (w 1)))
def vY (n:Int) (lY:Int):Option (Bool):=(cond (decide (n >= (aK (0 - lY)))) (some ((decide (n<=lY)))) (some (false)))
theorem X2 (n:Int) (lY:Int):ou [] [] 65 [(kI .i64) n,(kI .i64) lY] = (vY n lY).map kB:=by
 unfold vY
 try simp only [bG]
 kernel_rfl
def Qq:List KV->KR KV:=bC PG 65 (bO kB fun vs=>vY (aq (v9 vs 0)) (aq (v9 vs 1)))
theorem Wa:bB PG 65 Qq:=dE ai.nil bj.nil fun w=>X2 (aq (g0 3 (w 0))) (aq (g0 3 (w 1)))
def JH (v:fe):=vY v.x 1024
def JI (v:fe):=vY v.y 1024
def JJ (v:fe):=vY v.z 1024
def Fh (v:fe):Option (Bool):=(cond (JH v).isSome (cond (!((JH v).getD default)) (some (true)) (cond (JI v).isSome (cond (!((JI v).getD default)) (some (true)) (cond (JJ v).isSome (some ((!((JJ v).getD default)))) none)) none)) none)
theorem Uh (v:fe):ou [(65,Qq)] [] 64 [oG v] = (Fh v).map kB:=by
 unfold Fh
 try simp only [bG]
 kernel_rfl
def Ai:List KV->KR KV:=bC PG 64 (bO kB fun vs=>Fh (ko (v9 vs 0)))
theorem AU:bB PG 64 Ai:=dE (ai.cons Wa ai.nil) bj.nil fun w=>Uh (ko (g0 36 (w 0)))
def Fi (p:kJ):Option (Bool):=(cond (decide (p.e0 < 0)) (some (true)) (cond (decide (p.e0 > 255)) (some (true)) (cond (decide (p.e1 < 0)) (some (true)) (some ((decide (p.e1 > 255)))))))
theorem Ui (p:kJ):ou [] [] 66 [jx p] = (Fi p).map kB:=by
 unfold Fi
 try simp only [bG]
 kernel_rfl
def Aj:List KV->KR KV:=bC PG 66 (bO kB fun vs=>Fi (fG (v9 vs 0)))
theorem AV:bB PG 66 Aj:=dE ai.nil bj.nil fun w=>Ui (fG (g0 125 (w 0)))
def B5 (p:Prim):Option (Bool):=(cond ((p.index.n:Int)==0) (some (true)) (some ((decide ((p.index.n:Int) >= 3)))))
def Ak (p:Prim):Option (Bool):=(cond (p.kind==0) (some (((Int.tmod (p.index.n:Int) 3)==0))) (cond (p.kind==1)
  (B5 p) (cond (p.kind==2)
   (B5 p) (some (false)))))
theorem acf (p:Prim):ou [] [] 95 [vU p] = (Ak p).map kB:=by
 unfold Ak B5
 try simp only [bG]
 kernel_rfl
def N8:List KV->KR KV:=bC PG 95 (bO kB fun vs=>Ak (mC (v9 vs 0)))
theorem OV:bB PG 95 N8:=dE ai.nil bj.nil fun w=>acf (mC (g0 120 (w 0)))
structure dZ where
 t2:(Sl dj)
 t3:Int
 out:(Sl dj)
 l:(Sl Int)
 i:Int
 p:Prim
instance:Inhabited dZ:=⟨by constructor<;>exact default⟩
def DZ (x:dZ):List KV:=[dq 51 eQ x.t2,.int .i64 x.t3,dq 51 eQ x.out,dq 3 (kI .i64) x.l,.int .i64 x.i]
def D0 (x:dZ):List (List KV):=[ant x.p]
def K1 (vs:List KV) (rs:List (List KV)):dZ:=⟨dM fc (v9 vs 0),aq (v9 vs 1),dM fc (v9 vs 2),dM aq (v9 vs 3),aq (v9 vs 4),anu (r9 rs 0)⟩
def MV:aJ:=⟨[(2,w9 (n9 51)),(3,w9 i9),(4,⟨false,[.aP 51]⟩),(5,w9 (n9 3)),(6,w9 i9)],[(1,[u9,n9 3],1)],[(1,0,0)]⟩
def Wb:=AP [(95,N8)] [] 83 250 MV
def rh (x:dZ):aW dZ:=(cond ((decide (0<=x.i))&&(decide (x.i < (x.l.n:Int)))) (cond ((decide (0<=(aK (x.i+1))))&&(decide ((aK (x.i+1)) < (x.l.n:Int)))) (cond ((decide (0<=(aK (x.i+2))))&&(decide ((aK (x.i+2)) < (x.l.n:Int)))) (cond ((ak x.out.n x.out.n)&&(dP 24 x.out.n 1)) (cond (ak (x.out.n+1) (x.out.n+1)) (.next ⟨x.t2,x.t3,(x.out.push ⟨(x.l.get (Int.toNat x.i)),(x.l.get (Int.toNat (aK (x.i+1)))),(x.l.get (Int.toNat (aK (x.i+2))))⟩),x.l,(aK (x.i+1)),x.p⟩) .fail) .fail) .fail) .fail) .fail)
def ri (x:dZ):aW dZ:=(cond (x.p.kind==1) (cond ((decide (0<=(aK (x.i+1))))&&(decide ((aK (x.i+1)) < (x.l.n:Int)))) (cond ((decide (0<=x.i))&&(decide (x.i < (x.l.n:Int)))) (cond ((decide (0<=(aK (x.i+2))))&&(decide ((aK (x.i+2)) < (x.l.n:Int)))) (cond ((ak x.out.n x.out.n)&&(dP 24 x.out.n 1)) (cond (ak (x.out.n+1) (x.out.n+1)) (.next ⟨x.t2,x.t3,(x.out.push ⟨(x.l.get (Int.toNat (aK (x.i+1)))),(x.l.get (Int.toNat x.i)),(x.l.get (Int.toNat (aK (x.i+2))))⟩),x.l,(aK (x.i+1)),x.p⟩) .fail) .fail) .fail) .fail) .fail) (cond (x.p.kind==2) (cond (decide (0 < (x.l.n:Int))) (cond ((decide (0<=(aK (x.i+1))))&&(decide ((aK (x.i+1)) < (x.l.n:Int)))) (cond ((decide (0<=(aK (x.i+2))))&&(decide ((aK (x.i+2)) < (x.l.n:Int)))) (cond ((ak x.out.n x.out.n)&&(dP 24 x.out.n 1)) (cond (ak (x.out.n+1) (x.out.n+1)) (.next ⟨x.t2,x.t3,(x.out.push ⟨(x.l.get 0),(x.l.get (Int.toNat (aK (x.i+1)))),(x.l.get (Int.toNat (aK (x.i+2))))⟩),x.l,(aK (x.i+1)),x.p⟩) .fail) .fail) .fail) .fail) .fail) (cond (ak x.out.n x.out.n) (.next ⟨x.t2,x.t3,x.out,x.l,(aK (x.i+1)),x.p⟩) .fail)))
def rj (x:dZ):aW dZ:=(cond (x.p.kind==1) (cond ((Int.tmod x.i 2)==0)
  (rh x)
  (ri x))
  (ri x))
def kD (x:dZ):aW dZ:=(cond (decide ((aK (x.i+2)) < (x.l.n:Int))) (cond (x.p.kind==0) (cond ((Int.tmod x.i 3)==0)
   (rh x)
   (rj x))
  (rj x)) (cond (ak x.out.n x.out.n) (.out (aG.ah.exit 1) x) .fail))
theorem R4 (x:dZ):Wb (DZ x) (D0 x)=aW.enc DZ D0 (kD x):=by
 unfold kD rj ri rh
 try simp only [aW.cw,j5]
 kernel_rfl
def MW:Lp:=⟨83,250,MV,fun vs rs=>dK DZ D0 (goN kD (K1 vs rs)) [aG.ah.exit 1],false⟩
theorem Wc:MW.Ok PG:=Bs (ai.cons OV ai.nil) bj.nil (pa:=K1) R4
def JK (p:Prim):=Ak p
def JL (p:Prim):=goN kD ⟨⟨0,(fun i=>⟨0,0,0⟩)⟩,0,⟨0,(fun i=>⟨0,0,0⟩)⟩,p.index,0,p⟩
def Al (p:Prim):Option ((Sl dj)×Int):=(cond (decide (p.kind > 2)) (some (⟨0,(fun i=>⟨0,0,0⟩)⟩,2)) (cond (decide ((p.index.n:Int) > 200)) (some (⟨0,(fun i=>⟨0,0,0⟩)⟩,4)) (cond (JK p).isSome (cond (!((JK p).getD default)) (some (⟨0,(fun i=>⟨0,0,0⟩)⟩,40)) (cond ((JL p).by (aG.ah.exit 1)) (some ((JL p).st.out,0)) none)) none)))
theorem acg (p:Prim):ou [(95,N8)] [MW] 83 [vU p] = (Al p).map (fun (r:(Sl dj)×Int)=>KV.kL [(dq 51 eQ) r.1,(kI .i64) r.2]):=by
 unfold Al
 try simp only [bG]
 kernel_rfl
def Ii:List KV->KR KV:=bC PG 83 (bO (fun (r:(Sl dj)×Int)=>KV.kL [(dq 51 eQ) r.1,(kI .i64) r.2]) fun vs=>Al (mC (v9 vs 0)))
theorem GU:bB PG 83 Ii:=dE (ai.cons OV ai.nil) (rM Wc bj.nil) fun w=>acg (mC (g0 120 (w 0)))
structure fU where
 t2:(Sl dj)
 t3:Bool
 out:(Sl dj)
 t12:(Sl Prim)
 t13:Int
 t14:Int
 m:gE
instance:Inhabited fU:=⟨by constructor<;>exact default⟩
def Fj (x:fU):List KV:=[dq 51 eQ x.t2,.bool x.t3,dq 51 eQ x.out,dq 120 vU x.t12,.int .i64 x.t13,.int .i64 x.t14]
def Fk (x:fU):List (List KV):=[XT x.m]
def MX (vs:List KV) (rs:List (List KV)):fU:=⟨dM fc (v9 vs 0),eL (v9 vs 1),dM fc (v9 vs 2),dM mC (v9 vs 3),aq (v9 vs 4),aq (v9 vs 5),XU (r9 rs 0)⟩
def OW:aJ:=⟨[(2,w9 (n9 51)),(3,w9 b9),(4,⟨false,[.aP 51]⟩),(12,w9 (n9 120)),(13,w9 i9),(14,w9 i9)],[(1,[n9 36,n9 125,n9 120],1)],[(1,0,0)]⟩
structure fg where
 t2:(Sl dj)
 t3:Bool
 out:(Sl dj)
 t12:(Sl Prim)
 t13:Int
 t14:Int
 t34:(Sl Int)
 t35:Int
 t36:Int
 m:gE
instance:Inhabited fg:=⟨by constructor<;>exact default⟩
def zi (x:fg):List KV:=[dq 51 eQ x.t2,.bool x.t3,dq 51 eQ x.out,dq 120 vU x.t12,.int .i64 x.t13,.int .i64 x.t14,dq 3 (kI .i64) x.t34,.int .i64 x.t35,.int .i64 x.t36]
def zj (x:fg):List (List KV):=[XT x.m]
def Gd (vs:List KV) (rs:List (List KV)):fg:=⟨dM fc (v9 vs 0),eL (v9 vs 1),dM fc (v9 vs 2),dM mC (v9 vs 3),aq (v9 vs 4),aq (v9 vs 5),dM aq (v9 vs 6),aq (v9 vs 7),aq (v9 vs 8),XU (r9 rs 0)⟩
def Hq:aJ:=⟨[(2,w9 (n9 51)),(3,w9 b9),(4,⟨false,[.aP 51]⟩),(12,w9 (n9 120)),(13,w9 i9),(14,w9 i9),(34,w9 (n9 3)),(35,w9 i9),(36,w9 i9)],[(1,[n9 36,n9 125,n9 120],1)],[(1,0,0)]⟩
def Qr:=AP [(83,Ii)] [] 58 119614 Hq
def kr (x:fg):aW fg:=(cond (ak x.out.n x.out.n) (.out aG.ah.ret ⟨⟨0,(fun i=>⟨0,0,0⟩)⟩,false,x.out,x.t12,x.t13,x.t14,x.t34,x.t35,x.t36,x.m⟩) .fail)
def fo (x:fg):aW fg:=(cond (decide (x.t36 < x.t35)) (cond ((decide (0<=x.t36))&&(decide (x.t36 < (x.t34.n:Int)))) (cond (decide ((x.t34.get (Int.toNat x.t36)) < 0))
   (kr x) (cond (decide ((x.t34.get (Int.toNat x.t36)) >= (x.m.az.n:Int)))
   (kr x) (cond (ak x.out.n x.out.n) (.next ⟨x.t2,x.t3,x.out,x.t12,x.t13,x.t14,x.t34,x.t35,(aK (x.t36+1)),x.m⟩) .fail))) .fail) (cond (ak x.out.n x.out.n) (.out (aG.ah.exit 2) x) .fail))
theorem N9 (x:fg):Qr (zi x) (zj x)=aW.enc zi zj (fo x):=by
 unfold fo kr
 try simp only [aW.cw]
 kernel_rfl
def AW:Lp:=⟨58,119614,Hq,fun vs rs=>dK zi zj (goN fo (Gd vs rs)) [aG.ah.exit 2,aG.ah.ret],false⟩
theorem Ge:AW.Ok PG:=Bs (ai.cons GU ai.nil) bj.nil (pa:=Gd) N9
def X3:=AP [(83,Ii)] [AW] 58 58 OW
def gf (x:fU):=Al (x.t12.get (Int.toNat x.t14))
def ck (x:fU):=goN fo ⟨x.t2,x.t3,(x.out.join ((gf x).getD default).fst),x.t12,x.t13,x.t14,(x.t12.get (Int.toNat x.t14)).index,((x.t12.get (Int.toNat x.t14)).index.n:Int),0,x.m⟩
def sf (x:fU):aW fU:=(cond (ak (x.out.n+((gf x).getD default).fst.n) (x.out.n+((gf x).getD default).fst.n)) (.out aG.ah.ret ⟨⟨0,(fun i=>⟨0,0,0⟩)⟩,false,(x.out.join ((gf x).getD default).fst),x.t12,x.t13,x.t14,x.m⟩) .fail)
def oz (x:fU):aW fU:=(cond (decide (x.t14 < x.t13)) (cond ((decide (0<=x.t14))&&(decide (x.t14 < (x.t12.n:Int)))) (cond (gf x).isSome (cond ((ak x.out.n x.out.n)&&(dP 24 x.out.n ((gf x).getD default).fst.n)) (cond (((gf x).getD default).snd != 0)
    (sf x) (cond (decide ((((x.out.n+((gf x).getD default).fst.n):Nat):Int) > 64))
    (sf x) (cond (ak (x.out.n+((gf x).getD default).fst.n) (x.out.n+((gf x).getD default).fst.n)) (cond ((ck x).by (aG.ah.exit 2)) (cond (ak (ck x).st.out.n (ck x).st.out.n) (.next ⟨(ck x).st.t2,(ck x).st.t3,(ck x).st.out,(ck x).st.t12,(ck x).st.t13,(aK ((ck x).st.t14+1)),(ck x).st.m⟩) .fail) (cond ((ck x).by aG.ah.ret) (cond (ak (ck x).st.out.n (ck x).st.out.n) (.out aG.ah.ret ⟨(ck x).st.t2,(ck x).st.t3,(ck x).st.out,(ck x).st.t12,(ck x).st.t13,(ck x).st.t14,(ck x).st.m⟩) .fail) .fail)) .fail))) .fail) .fail) .fail) (cond (ak x.out.n x.out.n) (.out (aG.ah.exit 0) x) .fail))
theorem Uj (x:fU):X3 (Fj x) (Fk x)=aW.enc Fj Fk (oz x):=by
 unfold oz sf
 try simp only [aW.cw,ck,j6]
 kernel_rfl
def OX:Lp:=⟨58,58,OW,fun vs rs=>dK Fj Fk (goN oz (MX vs rs)) [aG.ah.exit 0,aG.ah.ret],false⟩
theorem X4:OX.Ok PG:=Bs (ai.cons GU ai.nil) (rM Ge bj.nil) (pa:=MX) Uj
def vZ (m:gE):=goN oz ⟨⟨0,(fun i=>⟨0,0,0⟩)⟩,false,⟨0,(fun i=>⟨0,0,0⟩)⟩,m.gd,(m.gd.n:Int),0,m⟩
def w7 (m:gE):Option ((Sl dj)×Bool):=(cond ((vZ m).by (aG.ah.exit 0)) (some ((vZ m).st.out,true)) (cond ((vZ m).by aG.ah.ret) (some ((vZ m).st.t2,(vZ m).st.t3)) none))
theorem ach (m:gE):ou [(83,Ii)] [AW,OX] 58 [uR m] = (w7 m).map (fun (r:(Sl dj)×Bool)=>KV.kL [(dq 51 eQ) r.1,kB r.2]):=by
 unfold w7
 try simp only [bG]
 kernel_rfl
def D1:List KV->KR KV:=bC PG 58 (bO (fun (r:(Sl dj)×Bool)=>KV.kL [(dq 51 eQ) r.1,kB r.2]) fun vs=>w7 (kX (v9 vs 0)))
theorem B6:bB PG 58 D1:=dE (ai.cons GU ai.nil) (rM Ge (rM X4 bj.nil)) fun w=>ach (kX (g0 79 (w 0)))
structure bZ where
 s:(Sl fe)
 t4:Int
 t7:Int
 t8:Int
instance:Inhabited bZ:=⟨⟨default,default,default,default⟩⟩
def je (x:bZ):List KV:=[dq 36 oG x.s,.fn (.func 64) [] [],.int .i64 x.t4,.int .i64 x.t7,.int .i64 x.t8]
def jf (x:bZ):List (List KV):=[]
def od (vs:List KV) (rs:List (List KV)):bZ:=⟨dM ko (v9 vs 0),aq (v9 vs 2),aq (v9 vs 3),aq (v9 vs 4)⟩
def oH:aJ:=⟨[(0,w9 (n9 36)),(1,⟨false,[.lit (.fn (.func 64) [] [])]⟩),(4,w9 i9),(7,w9 i9),(8,w9 i9)],[],[]⟩
def yz:=AP [(58,D1),(66,Aj),(64,Ai)] [] 87 26 oH
def bJ (x:bZ):aW bZ:=(cond (decide (x.t8 < x.t7)) (cond ((decide (0<=x.t8))&&(decide (x.t8 < (x.s.n:Int)))) (cond (decide ((x.s.get (Int.toNat x.t8)).x >= (-(1024:Int)))) (cond (!(decide ((x.s.get (Int.toNat x.t8)).x<=1024))) (.out aG.ah.ret ⟨x.s,x.t8,x.t7,x.t8⟩) (cond (decide ((x.s.get (Int.toNat x.t8)).y >= (-(1024:Int)))) (cond (!(decide ((x.s.get (Int.toNat x.t8)).y<=1024))) (.out aG.ah.ret ⟨x.s,x.t8,x.t7,x.t8⟩) (cond (decide ((x.s.get (Int.toNat x.t8)).z >= (-(1024:Int)))) (cond (!(decide ((x.s.get (Int.toNat x.t8)).z<=1024))) (.out aG.ah.ret ⟨x.s,x.t8,x.t7,x.t8⟩) (.next ⟨x.s,x.t4,x.t7,(aK (x.t8+1))⟩)) (.out aG.ah.ret ⟨x.s,x.t8,x.t7,x.t8⟩))) (.out aG.ah.ret ⟨x.s,x.t8,x.t7,x.t8⟩))) (.out aG.ah.ret ⟨x.s,x.t8,x.t7,x.t8⟩)) .fail) (.out (aG.ah.exit 0) x))
theorem xa (x:bZ):yz (je x) (jf x)=aW.enc je jf (bJ x):=by
 unfold bJ
 try simp only [aW.cw]
 kernel_rfl
def jG:Lp:=⟨87,26,oH,fun vs rs=>dK je jf (goN bJ (od vs rs)) [aG.ah.exit 0,aG.ah.ret],false⟩
theorem oe:jG.Ok PG:=Bs (ai.cons B6 (ai.cons AV (ai.cons AU ai.nil))) bj.nil (pa:=od) xa
structure b5 where
 s:(Sl kJ)
 t4:Int
 t7:Int
 t8:Int
instance:Inhabited b5:=⟨⟨default,default,default,default⟩⟩
def jg (x:b5):List KV:=[dq 125 jx x.s,.fn (.func 66) [] [],.int .i64 x.t4,.int .i64 x.t7,.int .i64 x.t8]
def jh (x:b5):List (List KV):=[]
def og (vs:List KV) (rs:List (List KV)):b5:=⟨dM fG (v9 vs 0),aq (v9 vs 2),aq (v9 vs 3),aq (v9 vs 4)⟩
def oI:aJ:=⟨[(0,w9 (n9 125)),(1,⟨false,[.lit (.fn (.func 66) [] [])]⟩),(4,w9 i9),(7,w9 i9),(8,w9 i9)],[],[]⟩
def yA:=AP [(58,D1),(66,Aj),(64,Ai)] [jG] 88 26 oI
def bK (x:b5):aW b5:=(cond (decide (x.t8 < x.t7)) (cond ((decide (0<=x.t8))&&(decide (x.t8 < (x.s.n:Int)))) (cond (decide ((x.s.get (Int.toNat x.t8)).e0 < 0)) (.out aG.ah.ret ⟨x.s,x.t8,x.t7,x.t8⟩) (cond (decide ((x.s.get (Int.toNat x.t8)).e0 > 255)) (.out aG.ah.ret ⟨x.s,x.t8,x.t7,x.t8⟩) (cond (decide ((x.s.get (Int.toNat x.t8)).e1 < 0)) (.out aG.ah.ret ⟨x.s,x.t8,x.t7,x.t8⟩) (cond (decide ((x.s.get (Int.toNat x.t8)).e1 > 255)) (.out aG.ah.ret ⟨x.s,x.t8,x.t7,x.t8⟩) (.next ⟨x.s,x.t4,x.t7,(aK (x.t8+1))⟩))))) .fail) (.out (aG.ah.exit 0) x))
theorem xc (x:b5):yA (jg x) (jh x)=aW.enc jg jh (bK x):=by
 unfold bK
 try simp only [aW.cw]
 kernel_rfl
def oJ:Lp:=⟨88,26,oI,fun vs rs=>dK jg jh (goN bK (og vs rs)) [aG.ah.exit 0,aG.ah.ret],false⟩
theorem yC:oJ.Ok PG:=Bs (ai.cons B6 (ai.cons AV (ai.cons AU ai.nil))) (rM oe bj.nil) (pa:=og) xc
def B7 (m:gE):=goN bJ ⟨m.az,0,(m.az.n:Int),0⟩
def B8 (m:gE):=goN bK ⟨m.uV,0,(m.uV.n:Int),0⟩
def GV (m:gE):=w7 m
def Ao (m:gE):Option (Int):=(cond (GV m).isSome (cond (!((GV m).getD default).snd) (some (40)) (some (0))) none)
def Ap (m:gE):Option (Int):=(cond ((B8 m).by (aG.ah.exit 0))
  (Ao m) (cond ((B8 m).by aG.ah.ret) (cond (decide ((B8 m).st.t4 >= 0)) (some (40))
   (Ao m)) none))
def uT (m:gE):Option (Int):=(cond (decide ((m.az.n:Int) > 64)) (some (4)) (cond (decide ((m.uV.n:Int) > 64)) (some (4)) (cond (decide ((m.gd.n:Int) > 16)) (some (4)) (cond ((m.uV.n:Int) != (m.az.n:Int)) (some (40)) (cond ((B7 m).by (aG.ah.exit 0))
    (Ap m) (cond ((B7 m).by aG.ah.ret) (cond (decide ((B7 m).st.t4 >= 0)) (some (40))
     (Ap m)) none))))))
theorem ZI (m:gE):ou [(58,D1),(66,Aj),(64,Ai)] [jG,oJ] 41 [uR m] = (uT m).map (kI .i64):=by
 unfold uT Ap Ao
 try simp only [bG]
 kernel_rfl
def yk:List KV->KR KV:=bC PG 41 (bO (kI .i64) fun vs=>uT (kX (v9 vs 0)))
theorem v7:bB PG 41 yk:=dE (ai.cons B6 (ai.cons AV (ai.cons AU ai.nil))) (rM oe (rM yC bj.nil)) fun w=>ZI (kX (g0 79 (w 0)))
def qG (n:Int):Option (Bool):=(cond (decide (n > 0)) (some ((decide (n<=16)))) (some (false)))
theorem Wd (n:Int):ou [] [] 69 [(kI .i64) n] = (qG n).map kB:=by
 unfold qG
 try simp only [bG]
 kernel_rfl
def OY:List KV->KR KV:=bC PG 69 (bO kB fun vs=>qG (aq (v9 vs 0)))
theorem Uk:bB PG 69 OY:=dE ai.nil bj.nil fun w=>Wd (aq (g0 3 (w 0)))
def Ct (t:gX):=qG t.w
def Cu (t:gX):=qG t.h
def rO (t:gX):Option (Int):=(cond (Ct t).isSome (cond (!((Ct t).getD default)) (some (8)) (cond (Cu t).isSome (cond (!((Cu t).getD default)) (some (8)) (cond ((t.VZ.n:Int) != (aK (t.w * t.h))) (some (8)) (some (0)))) none)) none)
theorem Ul (t:gX):ou [(69,OY)] [] 43 [jJ t] = (rO t).map (kI .i64):=by
 unfold rO
 try simp only [bG]
 kernel_rfl
def v8:List KV->KR KV:=bC PG 43 (bO (kI .i64) fun vs=>rO (eS (v9 vs 0)))
theorem vo:bB PG 43 v8:=dE (ai.cons Uk ai.nil) bj.nil fun w=>Ul (eS (g0 118 (w 0)))
structure rl where
 lY:Int
 t4:Bool
 t7:(Sl Int)
 t8:Int
 t9:Int
instance:Inhabited rl:=⟨⟨default,default,default,default,default⟩⟩
def LS (x:rl):List KV:=[.int .i64 x.lY,.bool x.t4,dq 3 (kI .i64) x.t7,.int .i64 x.t8,.int .i64 x.t9]
def LU (x:rl):List (List KV):=[]
def SP (vs:List KV) (rs:List (List KV)):rl:=⟨aq (v9 vs 0),eL (v9 vs 1),dM aq (v9 vs 2),aq (v9 vs 3),aq (v9 vs 4)⟩
def Wf:aJ:=⟨[(0,w9 i9),(4,w9 b9),(7,w9 (n9 3)),(8,w9 i9),(9,w9 i9)],[],[]⟩
def adi:=AP [] [] 30 26 Wf
def tL (x:rl):aW rl:=(cond (decide (x.t9 < x.t8)) (cond ((decide (0<=x.t9))&&(decide (x.t9 < (x.t7.n:Int)))) (cond (decide ((x.t7.get (Int.toNat x.t9)) < (aK (0 - x.lY)))) (.out aG.ah.ret ⟨x.lY,false,x.t7,x.t8,x.t9⟩) (cond (decide ((x.t7.get (Int.toNat x.t9)) > x.lY)) (.out aG.ah.ret ⟨x.lY,false,x.t7,x.t8,x.t9⟩) (.next ⟨x.lY,x.t4,x.t7,x.t8,(aK (x.t9+1))⟩))) .fail) (.out (aG.ah.exit 0) x))
theorem ZJ (x:rl):adi (LS x) (LU x)=aW.enc LS LU (tL x):=by
 unfold tL
 try simp only [aW.cw]
 kernel_rfl
def Wg:Lp:=⟨30,26,Wf,fun vs rs=>dK LS LU (goN tL (SP vs rs)) [aG.ah.exit 0,aG.ah.ret],false⟩
theorem adj:Wg.Ok PG:=Bs ai.nil bj.nil (pa:=SP) ZJ
def K3 (lY:Int) (l:(Sl Int)):=goN tL ⟨lY,false,l,(l.n:Int),0⟩
def ID (lY:Int) (l:(Sl Int)):Option (Bool):=(cond ((K3 lY l).by (aG.ah.exit 0)) (some (true)) (cond ((K3 lY l).by aG.ah.ret) (some ((K3 lY l).st.t4)) none))
theorem ahA (lY:Int) (l:(Sl Int)):ou [] [Wg] 30 [(kI .i64) lY,(dq 3 (kI .i64)) l] = (ID lY l).map kB:=by
 unfold ID
 try simp only [bG]
 kernel_rfl
def aei:List KV->KR KV:=bC PG 30 (bO kB fun vs=>ID (aq (v9 vs 0)) ((dM aq) (v9 vs 1)))
theorem afy:bB PG 30 aei:=dE ai.nil (rM adj bj.nil) fun w=>ahA (aq (g0 3 (w 0))) ((dM aq) (g0 48 (w 1)))
def CU (m:eX):Option (Bool):=(cond (decide (m.e0.e0 < (-(1024:Int)))) (some (false)) (cond (decide (m.e0.e0 > 1024)) (some (false)) (cond (decide (m.e0.e1 < (-(1024:Int)))) (some (false)) (cond (decide (m.e0.e1 > 1024)) (some (false)) (cond (decide (m.e0.e2 < (-(1024:Int)))) (some (false)) (cond (decide (m.e0.e2 > 1024)) (some (false)) (cond (decide (m.e1.e0 < (-(1024:Int)))) (some (false)) (cond (decide (m.e1.e0 > 1024)) (some (false)) (cond (decide (m.e1.e1 < (-(1024:Int)))) (some (false)) (cond (decide (m.e1.e1 > 1024)) (some (false)) (cond (decide (m.e1.e2 < (-(1024:Int)))) (some (false)) (cond (decide (m.e1.e2 > 1024)) (some (false)) (cond (decide (m.e2.e0 < (-(1024:Int)))) (some (false)) (cond (decide (m.e2.e0 > 1024)) (some (false)) (cond (decide (m.e2.e1 < (-(1024:Int)))) (some (false)) (cond (decide (m.e2.e1 > 1024)) (some (false)) (cond (decide (m.e2.e2 < (-(1024:Int)))) (some (false)) (cond (decide (m.e2.e2 > 1024)) (some (false)) (some (true))))))))))))))))))))
theorem adk (m:eX):ou [] [] 53 [ij m] = (CU m).map kB:=by
 unfold CU
 try simp only [bG]
 kernel_rfl
def Zo:List KV->KR KV:=bC PG 53 (bO kB fun vs=>CU (dH (v9 vs 0)))
theorem aci:bB PG 53 Zo:=dE ai.nil bj.nil fun w=>adk (dH (g0 52 (w 0)))
def D2 (v:fe):=ID 4096 (Sl.lit [v.x,v.y,v.z])
def oS (v:fe):Option (Int):=(cond (D2 v).isSome (cond (!((D2 v).getD default)) (some (20)) (some (0))) none)
theorem acj (v:fe):ou [(30,aei)] [] 14 [oG v] = (oS v).map (kI .i64):=by
 unfold oS
 try simp only [bG,D2,uo]
 kernel_rfl
def xd:List KV->KR KV:=bC PG 14 (bO (kI .i64) fun vs=>oS (ko (v9 vs 0)))
theorem tM:bB PG 14 xd:=dE (ai.cons afy ai.nil) bj.nil fun w=>acj (ko (g0 36 (w 0)))
def D3 (m:fT):=CU m.m
def D4 (m:fT):=oS m.t
def j2 (m:fT):Option (Int):=(cond (D3 m).isSome (cond (!((D3 m).getD default)) (some (20)) (cond (D4 m).isSome (some (((D4 m).getD default))) none)) none)
theorem Wh (m:fT):ou [(14,xd),(53,Zo)] [] 28 [wI m] = (j2 m).map (kI .i64):=by
 unfold j2
 try simp only [bG]
 kernel_rfl
def B9:List KV->KR KV:=bC PG 28 (bO (kI .i64) fun vs=>j2 (rE (v9 vs 0)))
theorem Cv:bB PG 28 B9:=dE (ai.cons tM (ai.cons aci ai.nil)) bj.nil fun w=>Wh (rE (g0 54 (w 0)))
structure pb where
 l:(Sl Int)
 t2:Bool
 last:Int
 t6:(Sl Int)
 t7:Int
 t8:Int
instance:Inhabited pb:=⟨by constructor<;>exact default⟩
def GW (x:pb):List KV:=[dq 3 (kI .i64) x.l,.bool x.t2,.int .i64 x.last,dq 3 (kI .i64) x.t6,.int .i64 x.t7,.int .i64 x.t8]
def GX (x:pb):List (List KV):=[]
def OZ (vs:List KV) (rs:List (List KV)):pb:=⟨dM aq (v9 vs 0),eL (v9 vs 1),aq (v9 vs 2),dM aq (v9 vs 3),aq (v9 vs 4),aq (v9 vs 5)⟩
def Qs:aJ:=⟨[(0,w9 (n9 3)),(2,w9 b9),(3,w9 i9),(6,w9 (n9 3)),(7,w9 i9),(8,w9 i9)],[],[]⟩
def ZK:=AP [] [] 93 58 Qs
def jy (x:pb):aW pb:=(cond (decide (x.t8 < x.t7)) (cond ((decide (0<=x.t8))&&(decide (x.t8 < (x.t6.n:Int)))) (cond (decide ((x.t6.get (Int.toNat x.t8)) < x.last)) (.out aG.ah.ret ⟨x.l,false,x.last,x.t6,x.t7,x.t8⟩) (cond (decide ((x.t6.get (Int.toNat x.t8)) > 8192)) (.out aG.ah.ret ⟨x.l,false,x.last,x.t6,x.t7,x.t8⟩) (.next ⟨x.l,x.t2,(x.t6.get (Int.toNat x.t8)),x.t6,x.t7,(aK (x.t8+1))⟩))) .fail) (.out (aG.ah.exit 0) x))
theorem Wi (x:pb):ZK (GW x) (GX x)=aW.enc GW GX (jy x):=by
 unfold jy
 try simp only [aW.cw]
 kernel_rfl
def Qt:Lp:=⟨93,58,Qs,fun vs rs=>dK GW GX (goN jy (OZ vs rs)) [aG.ah.exit 0,aG.ah.ret],false⟩
theorem ZL:Qt.Ok PG:=Bs ai.nil bj.nil (pa:=OZ) Wi
def BF (l:(Sl Int)):=goN jy ⟨l,false,0,l,(l.n:Int),0⟩
def CV (l:(Sl Int)):Option (Bool):=(cond ((BF l).by (aG.ah.exit 0)) (some ((decide (((BF l).st.l.n:Int)<=16)))) (cond ((BF l).by aG.ah.ret) (some ((BF l).st.t2)) none))
theorem adl (l:(Sl Int)):ou [] [Qt] 93 [(dq 3 (kI .i64)) l] = (CV l).map kB:=by
 unfold CV
 try simp only [bG]
 kernel_rfl
def Zp:List KV->KR KV:=bC PG 93 (bO kB fun vs=>CV ((dM aq) (v9 vs 0)))
theorem ack:bB PG 93 Zp:=dE ai.nil (rM ZL bj.nil) fun w=>adl ((dM aq) (g0 48 (w 0)))
def GY (n:Node):=j2 n.mP
def GZ (n:Node):=oS n.eR
def G0 (n:Node):=CV n.fw
def yl (n:Node):Option (Node×Bool):=(cond (n.kind==1) (some (⟨n.kind,⟨⟨⟨0,0,0⟩,⟨0,0,0⟩,⟨0,0,0⟩⟩,⟨0,0,0⟩⟩,0,⟨0,0,0⟩,⟨0,(fun i=>0)⟩,0,n.bH⟩,true)) (cond (n.kind==2) (cond (GY n).isSome (some (⟨n.kind,n.mP,0,⟨0,0,0⟩,⟨0,(fun i=>0)⟩,0,n.bH⟩,(((GY n).getD default)==0))) none) (cond (n.kind==3) (some (⟨n.kind,⟨⟨⟨0,0,0⟩,⟨0,0,0⟩,⟨0,0,0⟩⟩,⟨0,0,0⟩⟩,n.rf,⟨0,0,0⟩,⟨0,(fun i=>0)⟩,0,n.bH⟩,true)) (cond (n.kind==4) (cond (GZ n).isSome (cond (((GZ n).getD default)==0) (cond (G0 n).isSome (some (⟨n.kind,⟨⟨⟨0,0,0⟩,⟨0,0,0⟩,⟨0,0,0⟩⟩,⟨0,0,0⟩⟩,0,n.eR,n.fw,0,n.bH⟩,((G0 n).getD default))) none) (some (⟨n.kind,⟨⟨⟨0,0,0⟩,⟨0,0,0⟩,⟨0,0,0⟩⟩,⟨0,0,0⟩⟩,0,n.eR,n.fw,0,n.bH⟩,false))) none) (cond (n.kind==5) (some (⟨n.kind,⟨⟨⟨0,0,0⟩,⟨0,0,0⟩,⟨0,0,0⟩⟩,⟨0,0,0⟩⟩,0,⟨0,0,0⟩,⟨0,(fun i=>0)⟩,n.fA,n.bH⟩,true)) (some (⟨n.kind,⟨⟨⟨0,0,0⟩,⟨0,0,0⟩,⟨0,0,0⟩⟩,⟨0,0,0⟩⟩,0,⟨0,0,0⟩,⟨0,(fun i=>0)⟩,0,n.bH⟩,false)))))))
theorem ZM (n:Node):ou [(93,Zp),(14,xd),(28,B9)] [] 78 [rW n] = (yl n).map (fun (r:Node×Bool)=>KV.kL [rW r.1,kB r.2]):=by
 unfold yl
 try simp only [bG]
 kernel_rfl
def SQ:List KV->KR KV:=bC PG 78 (bO (fun (r:Node×Bool)=>KV.kL [rW r.1,kB r.2]) fun vs=>yl (kW (v9 vs 0)))
theorem X5:bB PG 78 SQ:=dE (ai.cons ack (ai.cons tM (ai.cons Cv ai.nil))) bj.nil fun w=>ZM (kW (g0 64 (w 0)))
structure gF where
 s1:(Sl Int)
 s2:(Sl Int)
 t4:Bool
 t12:Int
 t13:Int
instance:Inhabited gF:=⟨⟨default,default,default,default,default⟩⟩
def xf (x:gF):List KV:=[dq 3 (kI .i64) x.s1,dq 3 (kI .i64) x.s2,.bool x.t4,.int .i64 x.t12,.int .i64 x.t13]
def xg (x:gF):List (List KV):=[]
def D5 (vs:List KV) (rs:List (List KV)):gF:=⟨dM aq (v9 vs 0),dM aq (v9 vs 1),eL (v9 vs 2),aq (v9 vs 3),aq (v9 vs 4)⟩
def Ey:aJ:=⟨[(0,w9 (n9 3)),(1,w9 (n9 3)),(4,w9 b9),(12,w9 i9),(13,w9 i9)],[],[]⟩
def Oa:=AP [] [] 77 58 Ey
def eE (x:gF):aW gF:=(cond (decide (x.t13 < x.t12)) (cond ((decide (0<=x.t13))&&(decide (x.t13 < (x.s1.n:Int)))) (cond ((decide (0<=x.t13))&&(decide (x.t13 < (x.s2.n:Int)))) (cond ((x.s1.get (Int.toNat x.t13)) != (x.s2.get (Int.toNat x.t13))) (.out aG.ah.ret ⟨x.s1,x.s2,false,x.t12,x.t13⟩) (.next ⟨x.s1,x.s2,x.t4,x.t12,(aK (x.t13+1))⟩)) .fail) .fail) (.out (aG.ah.exit 0) x))
theorem LV (x:gF):Oa (xf x) (xg x)=aW.enc xf xg (eE x):=by
 unfold eE
 try simp only [aW.cw]
 kernel_rfl
def Ez:Lp:=⟨77,58,Ey,fun vs rs=>dK xf xg (goN eE (D5 vs rs)) [aG.ah.exit 0,aG.ah.ret],false⟩
theorem Ob:Ez.Ok PG:=Bs ai.nil bj.nil (pa:=D5) LV
def uw (s1:(Sl Int)) (s2:(Sl Int)):=goN eE ⟨s1,s2,false,(s1.n:Int),0⟩
def oA (s1:(Sl Int)) (s2:(Sl Int)):Option (Bool):=(cond ((s1.n:Int) != (s2.n:Int)) (some (false)) (cond ((uw s1 s2).by (aG.ah.exit 0)) (some (true)) (cond ((uw s1 s2).by aG.ah.ret) (some ((uw s1 s2).st.t4)) none)))
theorem Qu (s1:(Sl Int)) (s2:(Sl Int)):ou [] [Ez] 77 [(dq 3 (kI .i64)) s1,(dq 3 (kI .i64)) s2] = (oA s1 s2).map kB:=by
 unfold oA
 try simp only [bG]
 kernel_rfl
def JM:List KV->KR KV:=bC PG 77 (bO kB fun vs=>oA ((dM aq) (v9 vs 0)) ((dM aq) (v9 vs 1)))
theorem Pm:bB PG 77 JM:=dE ai.nil (rM Ob bj.nil) fun w=>Qu ((dM aq) (g0 48 (w 0))) ((dM aq) (g0 48 (w 1)))
def JN (a:Node) (b:Node):=oA a.fw b.fw
def xh (a:Node) (b:Node):Option (Bool):=(cond (a.kind==b.kind) (cond ((a.mP.m.e0.e0==b.mP.m.e0.e0)&&((a.mP.m.e0.e1==b.mP.m.e0.e1)&&((a.mP.m.e0.e2==b.mP.m.e0.e2)&&((a.mP.m.e1.e0==b.mP.m.e1.e0)&&((a.mP.m.e1.e1==b.mP.m.e1.e1)&&((a.mP.m.e1.e2==b.mP.m.e1.e2)&&((a.mP.m.e2.e0==b.mP.m.e2.e0)&&((a.mP.m.e2.e1==b.mP.m.e2.e1)&&((a.mP.m.e2.e2==b.mP.m.e2.e2)&&((a.mP.t.x==b.mP.t.x)&&((a.mP.t.y==b.mP.t.y)&&((a.mP.t.z==b.mP.t.z)&&true)))))))))))) (cond (a.rf==b.rf) (cond ((a.eR.x==b.eR.x)&&((a.eR.y==b.eR.y)&&((a.eR.z==b.eR.z)&&true))) (cond (JN a b).isSome (cond ((JN a b).getD default) (cond (a.fA==b.fA) (some (((a.bH.cl.e0==b.bH.cl.e0)&&((a.bH.cl.e1==b.bH.cl.e1)&&((a.bH.cl.e2==b.bH.cl.e2)&&((a.bH.cl.e3==b.bH.cl.e3)&&((a.bH.cl.e4==b.bH.cl.e4)&&((a.bH.look.color.e0==b.bH.look.color.e0)&&((a.bH.look.color.e1==b.bH.look.color.e1)&&((a.bH.look.color.e2==b.bH.look.color.e2)&&((a.bH.look.color.e3==b.bH.look.color.e3)&&((a.bH.look.dL==b.bH.look.dL)&&((a.bH.look.o9==b.bH.look.o9)&&((a.bH.look.ob==b.bH.look.ob)&&((a.bH.look.kC==b.bH.look.kC)&&((a.bH.look.bin==b.bH.look.bin)&&true)))))))))))))))) (some (false))) (some (false))) none) (some (false))) (some (false))) (some (false))) (some (false)))
theorem acm (a:Node) (b:Node):ou [(77,JM)] [] 47 [rW a,rW b] = (xh a b).map kB:=by
 unfold xh
 try simp only [bG]
 kernel_rfl
def Aq:List KV->KR KV:=bC PG 47 (bO kB fun vs=>xh (kW (v9 vs 0)) (kW (v9 vs 1)))
theorem xY:bB PG 47 Aq:=dE (ai.cons Pm ai.nil) bj.nil fun w=>acm (kW (g0 64 (w 0))) (kW (g0 64 (w 1)))
def vp (s:aA) (n:Node):=yl n
def AX (s:aA) (n:Node):=xh ((vp s n).getD default).fst n
def AY (s:aA) (n:Node):=qF n.bH
def ux (s:aA) (n:Node):Option (Int):=(cond (n.bH.cl.e1 != 0) (cond (decide (n.bH.look.dL >= (s.j8.n:Int))) (some (8)) (some (0))) (some (0)))
def pr (s:aA) (n:Node):Option (Int):=(cond (vp s n).isSome (cond (!((vp s n).getD default).snd) (some (8)) (cond (AX s n).isSome (cond (!((AX s n).getD default)) (some (8)) (cond (AY s n).isSome (cond (((AY s n).getD default) != 0) (some (8)) (cond (n.kind==5) (cond (decide (n.fA < 0)) (some (8)) (cond (decide (n.fA >= (s.eo.n:Int))) (some (8))
      (ux s n)))
     (ux s n))) none)) none)) none)
theorem R5 (s:aA) (n:Node):ou [(60,B4),(47,Aq),(78,SQ)] [] 48 [iY s,rW n] = (pr s n).map (kI .i64):=by
 unfold pr ux
 try simp only [bG]
 kernel_rfl
def uy:List KV->KR KV:=bC PG 48 (bO (kI .i64) fun vs=>pr (dC (v9 vs 0)) (kW (v9 vs 1)))
theorem uz:bB PG 48 uy:=dE (ai.cons Cs (ai.cons xY (ai.cons X5 ai.nil))) bj.nil fun w=>R5 (dC (g0 34 (w 0))) (kW (g0 64 (w 1)))
end
end Go.Proofs.Ytckbdndhmcoihaa.b
end
