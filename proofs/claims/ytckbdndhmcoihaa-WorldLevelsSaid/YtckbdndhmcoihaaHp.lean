/- Part of the proof of WorldLevels: the machine, shown to be the model's, and plain models. No conditions. -/
import Derived.Test.YtckbdndhmcoihaaGp
import Derived.Laws.EntriesVeiled
import Derived.Test.YtckbdndhmcoihaaProg
set_option linter.unusedSimpArgs false
set_option linter.unusedVariables false
section
set_option maxRecDepth 20000
namespace Go.Proofs.Ytckbdndhmcoihaa.nodes
open Go Go.RowKit Go.Lib Go.Shelf
abbrev gv (q:G):Value:=.agg #[.slice q.sa q.sn q.sc,.slice q.ka q.kn q.kc]
def MapAt (mb:Nat) (W:World) (S:List (Int×Int)):Prop:=∃ es clock,W.heap[mb]? = some (.map es clock)/\UR es S
theorem zr (V:World) (o:Obj) (n:Nat) (h:n=V.heap.size):(V.alloc o).heap[n]? = some o:=by
 subst h;exact heap_alloc_new V o
theorem mo {W:World} {b:Nat} {c:Array Value} {t:TypeId} (h:W.heap[b]? = some (.cells c t)) (i:Nat):W.cell? ⟨b,i,none⟩=c[i]?:=by
 unfold World.cell?;simp [h]
theorem apZ (W:World) (A0 A1 A2 A3 A4:Obj):∃ V,V=((((W.alloc A0).alloc A1).alloc A2).alloc A3).alloc A4/\V.heap[W.heap.size]? = some A0/\V.heap[W.heap.size+1]? = some A1/\V.heap[W.heap.size+1+1]? = some A2/\V.heap[W.heap.size+1+1+1]? = some A3/\V.heap[W.heap.size+1+1+1+1]? = some A4/\V.heap.size=W.heap.size+5/\∀ mb,Kp mb W V:=by
 have s1:(W.alloc A0).heap.size=W.heap.size+1:=by simp
 have s2:((W.alloc A0).alloc A1).heap.size=W.heap.size+2:=by simp
 have s3:(((W.alloc A0).alloc A1).alloc A2).heap.size=W.heap.size+3:=by simp
 have s4:((((W.alloc A0).alloc A1).alloc A2).alloc A3).heap.size=W.heap.size+4:=by simp
 refine ⟨_,rfl,?_,?_,?_,?_,?_,by simp,fun mb=>((((Kp.alloc W A0).trans (Kp.alloc _ A1)).trans (Kp.alloc _ A2)).trans (Kp.alloc _ A3)).trans (Kp.alloc _ A4)⟩
 ·rw [Below.heap_alloc _ _ _ (by omega),Below.heap_alloc _ _ _ (by omega),Below.heap_alloc _ _ _ (by omega),Below.heap_alloc _ _ _ (by omega)]
  exact zr _ _ _ rfl
 ·rw [Below.heap_alloc _ _ _ (by omega),Below.heap_alloc _ _ _ (by omega),Below.heap_alloc _ _ _ (by omega)]
  exact zr _ _ _ (by omega)
 ·rw [Below.heap_alloc _ _ _ (by omega),Below.heap_alloc _ _ _ (by omega)]
  exact zr _ _ _ (by omega)
 ·rw [Below.heap_alloc _ _ _ (by omega)]
  exact zr _ _ _ (by omega)
 ·exact zr _ _ _ (by omega)
set_option maxHeartbeats 4000000 in
theorem below (q:G) (B mb:Nat) (Dc to:Int×Int) (U:List (Int×Int)) (hU:∀ u∈U,(0<=u.1/\u.1 < (q.kn:Int))/\∀ k,k < q.im u.1.toNat->q.dW u.1.toNat k∈U) (S:List (Int×Int)) (W:World)
  (hf:Dc∈U) (hg:GAt q B W) (hB:B<=W.heap.size) (hm:B<=mb) (hM:MapAt mb W S) (ht:to ∉ S) :
  Calls Try.prog 74 #[gv q,.map (some mb),hv Dc,hv to] W fun e W'=>∃ S' r,e = .returned (.bool r)/\MapAt mb W' S'/\Kp mb W W'/\(r=true/\Reach q to Dc\/r=false/\Grow q S Dc S'/\to ∉ S'):=by
 have VN:mb < W.heap.size:=by obtain ⟨es,c,h,_⟩:=hM; exact (rV.1 h).1
 have PB:Calls Try.prog 92 #[hv Dc,.pointer (some ⟨W.heap.size+1+1+1,0,none⟩),.pointer (some ⟨W.heap.size+1,0,none⟩),.pointer (some ⟨W.heap.size,0,none⟩),.pointer (some ⟨W.heap.size+1+1+1+1,0,none⟩)] (((((W.alloc (.cells #[.slice q.sa q.sn q.sc,.slice q.ka q.kn q.kc] 27)).alloc (.cells #[.map (some mb)] 172)).alloc (.cells #[.int .i64 Dc.1,.int .i64 Dc.2] 32)).alloc (.cells #[.int .i64 to.1,.int .i64 to.2] 32)).alloc (.cells #[.func (.func 92) #[] #[.pointer (some ⟨W.heap.size+1+1+1,0,none⟩),.pointer (some ⟨W.heap.size+1,0,none⟩),.pointer (some ⟨W.heap.size,0,none⟩),.pointer (some ⟨W.heap.size+1+1+1+1,0,none⟩)]] 170))
   fun e W'=>∃ S' r,e = .returned (.bool r)/\MapAt mb W' S'/\Kp mb W W'/\(r=true/\Reach q to Dc\/r=false/\Grow q S Dc S'/\to ∉ S'):=by
  obtain ⟨V,hV,v0,v1,v2,v3,v4,vs,vk⟩:=apZ W (.cells #[.slice q.sa q.sn q.sc,.slice q.ka q.kn q.kc] 27) (.cells #[.map (some mb)] 172) (.cells #[.int .i64 Dc.1,.int .i64 Dc.2] 32) (.cells #[.int .i64 to.1,.int .i64 to.2] 32) (.cells #[.func (.func 92) #[] #[.pointer (some ⟨W.heap.size+1+1+1,0,none⟩),.pointer (some ⟨W.heap.size+1,0,none⟩),.pointer (some ⟨W.heap.size,0,none⟩),.pointer (some ⟨W.heap.size+1+1+1+1,0,none⟩)]] 170);rw [<- hV];have L:Bo q B (W.heap.size+1+1+1) (W.heap.size+1) W.heap.size (W.heap.size+1+1+1+1) mb to V S:=
   ⟨hg.dP (vk mb) hB hm,by omega,by omega,by omega,by omega,by omega,hm,by rw [mo v3]; rfl,by rw [mo v3]; rfl,by rw [mo v1]; rfl,by rw [mo v0]; rfl,by rw [mo v0]; rfl,by rw [mo v4]; rfl,by
    obtain ⟨es,c,h1,h2⟩:=hM;have hk:=vk (mb+1);exact ⟨es,c,by rw [hk.block mb VN (by omega)]; exact h1,h2⟩,ht⟩
  refine (look q B _ _ _ _ mb to U hU _ S V Dc hf (Mt _) L).mono ?_;rintro e W' ⟨S',L',k',⟨rfl,hr⟩ | ⟨rfl,Hg⟩⟩
  ·exact ⟨S',true,rfl,L'.map,(vk mb).trans k',.inl ⟨rfl,hr⟩⟩
  ·exact ⟨S',false,rfl,L'.map,(vk mb).trans k',.inr ⟨rfl,Hg,L'.to⟩⟩
 have mixed:=Bn;have t32:=Try.underlying32; have a32:=Try.isAgg32; have z32:=Try.sizeOf32; have v32:=Try.zeroValue32; have u32:=run_underlying Try.underlying32;have t202:=Try.underlying172; have ams:=Try.isAgg172; have amt:=Try.sizeOf172; have amu:=Try.zeroValue172; have RJ:=run_underlying Try.underlying172;have t200:=Try.underlying170; have aoq:=Try.isAgg170; have aor:=Try.sizeOf170; have aos:=Try.zeroValue170; have aot:=run_underlying Try.underlying170;have t27:=Try.underlying27; have a27:=Try.isAgg27; have z27:=Try.sizeOf27; have v27:=Try.zeroValue27; have u27:=run_underlying Try.underlying27;have t4:=Try.underlying4; have a4:=Try.isAgg4; have z4:=Try.sizeOf4; have v4:=Try.zeroValue4; have u4:=run_underlying Try.underlying4;have cW:(((((W.alloc (.cells #[.slice q.sa q.sn q.sc,.slice q.ka q.kn q.kc] 27)).alloc (.cells #[.map (some mb)] 172)).alloc (.cells #[.int .i64 Dc.1,.int .i64 Dc.2] 32)).alloc (.cells #[.int .i64 to.1,.int .i64 to.2] 32)).alloc (.cells #[.nilFunc] 170)).cell? ⟨W.heap.size+1+1+1+1,0,none⟩=some .nilFunc:=by rw [World.cell?_alloc_at _ _ _ _ (by simp)]; rfl
 have fW:(((((W.alloc (.cells #[.slice q.sa q.sn q.sc,.slice q.ka q.kn q.kc] 27)).alloc (.cells #[.map (some mb)] 172)).alloc (.cells #[.int .i64 Dc.1,.int .i64 Dc.2] 32)).alloc (.cells #[.int .i64 to.1,.int .i64 to.2] 32)).alloc (.cells #[.nilFunc] 170)).frozen? ⟨W.heap.size+1+1+1+1,0,none⟩=false:=by rw [World.frozen?_alloc_at _ _ _ _ (by simp)]
 go_enter Try.func74,Try.ntmps74
 go_wp2_with (go_at_call 92; refine PB.mono ?_; rintro e w' ⟨S',r,rfl,hr⟩)
 go_wp2
 go_ret
 exact ⟨S',r,rfl,hr⟩
end Go.Proofs.Ytckbdndhmcoihaa.nodes
end
section
namespace Go.Proofs.Ytckbdndhmcoihaa.b
open Go.K
theorem funcs:Try.prog.funcs.toList.all aG.kx=true:=by kernel_rfl
theorem mixed:Try.prog.follows .mixedOrders=true:=by kernel_rfl
noncomputable abbrev PG:Program:=Try.prog
noncomputable abbrev g0 (T:TypeId) (v:KV):KV:=ij PG (cg PG dB) T v
theorem dU {R:Type} [Inhabited R] {k:R->KV} {r:List KV->Option R} {g:FuncId} {ps:List (Nat×(List KV->KR KV))} {ls:List Lp} {mt:TypeId->Bool} {fz eg:Bool} {a:(Nat->KV)->List KV} {q:(Nat->KV)->Option R} (eW:ak PG ps) (iB:bm PG ls)
  (hr:∀ w,CV PG (pw PG ps ls mt fz eg) 9 9 g (a w)=(q w).map k) (h:∀ w,vJ PG (bT PG g) w 0=a w/\r (a w)=q w:=by exact fun w=>⟨by kernel_rfl,by kernel_rfl⟩) (hy:Nat.blt g aG.yB=true:=by rfl):bQ PG g (bR PG g (b8 k r)):=
 X5 funcs mixed eW iB (L:=9) (n:=9) (fun w=>by rw [(h w).1,(h w).2]; exact hr w) hy
theorem CA {l:Lp} {X:Type} [Inhabited X] {ps:List (Nat×(List KV->KR KV))} {ls:List Lp} {mt:TypeId->Bool} {fz eg:Bool} {step:X->aX X} {ev:X->List KV} {er:X->List (List KV)} {es:List aG.ah} {pa:List KV->List (List KV)->X} (eW:ak PG ps) (iB:bm PG ls)
  (u6:∀ x,E6 PG (pw PG ps ls mt fz eg) 9 9 l.f l.p (Da PG l.f l.p) l.S (ev x) (er x)=aX.enc ev er (step x)) (hF:l.F=fun vs rs=>dR ev er (goN step (pa vs rs)) es:=by rfl)
  (gY:∀ wv wr,ev (pa (jl PG l.S.dC wv 0) (jm PG l.S.rows wr 0))=jl PG l.S.dC wv 0/\er (pa (jl PG l.S.dC wv 0) (jm PG l.S.rows wr 0))=jm PG l.S.rows wr 0:=by exact fun wv wr=>⟨by kernel_rfl,by kernel_rfl⟩) (hs:l.st=false:=by rfl):l.Ok PG:=
 agq funcs mixed eW iB (L:=9) (n:=9) hF gY u6 Et.nil hs
theorem r7 {l:Lp} {ls:List Lp} (h:l.Ok PG) (r:bm PG ls) (t:II PG l.f l.p=true:=by kernel_rfl):bm PG (l::ls):=bm.cons h t r
noncomputable abbrev pk9 (ps:List (Nat×(List KV->KR KV))) (ls:List Lp) (g:FuncId) (a:List KV):Option KV:=CV PG (pw PG ps ls) 9 9 g a
noncomputable abbrev rk9 (ps:List (Nat×(List KV->KR KV))) (ls:List Lp) (f p:Nat) (S:aJ):=E6 PG (pw PG ps ls) 9 9 f p (Da PG f p) S
noncomputable abbrev rE (ps:List (Nat×(List KV->KR KV))) (ls:List Lp) (g:FuncId) (a:List KV):Option KV:=CV PG (pw PG ps ls (fun q=>Nat.beq q 3)) 9 9 g a
noncomputable abbrev BU (ps:List (Nat×(List KV->KR KV))) (ls:List Lp) (f p:Nat) (S:aJ):=E6 PG (pw PG ps ls (fun q=>Nat.beq q 3)) 9 9 f p (Da PG f p) S
abbrev v9 (vs:List KV) (i:Nat):KV:=vs.getD i .bf
abbrev r9 (rs:List (List KV)) (i k:Nat):KV:=(rs.getD i []).getD k .bf
abbrev i9:CD:=.k (.int .i64)
abbrev u9:CD:=.k (.int .u8)
abbrev b9:CD:=.k .bool
abbrev n9 (T:TypeId):CD:=.k (.slice T)
abbrev w9 (c:CD):VD:=⟨false,[c]⟩
end Go.Proofs.Ytckbdndhmcoihaa.b
end
section
namespace Go.Proofs.Ytckbdndhmcoihaa.b
open Go.K
noncomputable section
structure Slot where
 gen:Int
 live:Bool
instance:Inhabited Slot:=⟨⟨default,default⟩⟩
def ao3 (x:Slot):List KV:=[.int .i64 x.gen,.bool x.live]
def vL (x:Slot):KV:=.agg (ao3 x)
def ao4 (c:Nat->KV):Slot:=⟨av (c 0),fh (c 1)⟩
def nP (v:KV):Slot:=ao4 fun k=>v.cells.getD k .bf
theorem AQ (x:Slot):nP (vL x)=x:=rfl
theorem agu:nP .bf=default:=rfl
theorem px (s:Sl Slot) (v:Slot):s.push v=au nP (s.n+1) (aw s.n (fun i=>vL (s.get i)) (cZ [vL v])):=(fP AQ agu s v).symm
theorem py (s t:Sl Slot):s.join t=au nP (s.n+t.n) (aw s.n (fun i=>vL (s.get i)) (fun i=>vL (t.get i))):=(gL AQ s t).symm
theorem sF (l:List Slot):Sl.lit l=au nP l.length (cZ (l.map vL)):=(jK AQ agu l).symm
theorem sG (s:Sl Slot) (i:Nat) (v:Slot):s.set i v=au nP s.n (bN (fun j=>vL (s.get j)) i (vL v)):=(jL AQ s i v).symm
theorem mL (s t:Sl Slot) (o m:Nat):s.qS o m t=au nP s.n (az o m (fun j=>vL (s.get j)) (fun j=>vL (t.get j))):=(fM AQ s t o m).symm
theorem sH (m n n' : Nat) (acc ax:Nat->KV):au nP m (aw n (fun i=>vL ((au nP n' acc).get i)) ax)=au nP m (aw n acc ax):=j8 AQ ..
theorem sI (m n n' : Nat) (acc ax:Nat->KV):au nP m (aw n acc (fun i=>vL ((au nP n' ax).get i)))=au nP m (aw n acc ax):=j9 AQ ..
theorem sJ (m n' i:Nat) (acc:Nat->KV) (v:KV):au nP m (bN (fun j=>vL ((au nP n' acc).get j)) i v)=au nP m (bN acc i v):=kb AQ ..
theorem sK (n n' o m:Nat) (acc ax:Nat->KV):au nP n (az o m (fun j=>vL ((au nP n' acc).get j)) ax)=au nP n (az o m acc ax):=kN AQ ..
theorem sL (n n' o m:Nat) (acc ax:Nat->KV):au nP n (az o m acc (fun j=>vL ((au nP n' ax).get j)))=au nP n (az o m acc ax):=kO AQ ..
def Dd (s:Slot):Option (Bool):=(cond (decide (s.gen < 1)) (some (true)) (some ((decide (s.gen > 1073741824)))))
theorem Q2 (s:Slot):pk9 [] [] 89 [vL s] = (Dd s).map kB:=by
 unfold Dd
 try simp only [b6]
 kernel_rfl
def De:List KV->KR KV:=bR PG 89 (b8 kB fun vs=>Dd (nP (v9 vs 0)))
theorem Fy:bQ PG 89 De:=dU ak.nil bm.nil fun w=>Q2 (nP (g0 139 (w 0)))
structure jW where
 cM:(Sl Slot)
instance:Inhabited jW:=⟨⟨default⟩⟩
def anz (x:jW):List KV:=[dL 139 vL x.cM]
def jn (x:jW):KV:=.agg (anz x)
def anA (c:Nat->KV):jW:=⟨eX nP (c 0)⟩
def jG (v:KV):jW:=anA fun k=>v.cells.getD k .bf
theorem xN (x:jW):jG (jn x)=x:=rfl
theorem adm:jG .bf=default:=rfl
theorem mM (s:Sl jW) (v:jW):s.push v=au jG (s.n+1) (aw s.n (fun i=>jn (s.get i)) (cZ [jn v])):=(fP xN adm s v).symm
theorem mN (s t:Sl jW):s.join t=au jG (s.n+t.n) (aw s.n (fun i=>jn (s.get i)) (fun i=>jn (t.get i))):=(gL xN s t).symm
theorem pz (l:List jW):Sl.lit l=au jG l.length (cZ (l.map jn)):=(jK xN adm l).symm
theorem pA (s:Sl jW) (i:Nat) (v:jW):s.set i v=au jG s.n (bN (fun j=>jn (s.get j)) i (jn v)):=(jL xN s i v).symm
theorem kX (s t:Sl jW) (o m:Nat):s.qS o m t=au jG s.n (az o m (fun j=>jn (s.get j)) (fun j=>jn (t.get j))):=(fM xN s t o m).symm
theorem pB (m n n' : Nat) (acc ax:Nat->KV):au jG m (aw n (fun i=>jn ((au jG n' acc).get i)) ax)=au jG m (aw n acc ax):=j8 xN ..
theorem pC (m n n' : Nat) (acc ax:Nat->KV):au jG m (aw n acc (fun i=>jn ((au jG n' ax).get i)))=au jG m (aw n acc ax):=j9 xN ..
theorem pD (m n' i:Nat) (acc:Nat->KV) (v:KV):au jG m (bN (fun j=>jn ((au jG n' acc).get j)) i v)=au jG m (bN acc i v):=kb xN ..
theorem pE (n n' o m:Nat) (acc ax:Nat->KV):au jG n (az o m (fun j=>jn ((au jG n' acc).get j)) ax)=au jG n (az o m acc ax):=kN xN ..
theorem pF (n n' o m:Nat) (acc ax:Nat->KV):au jG n (az o m acc (fun j=>jn ((au jG n' ax).get j)))=au jG n (az o m acc ax):=kO xN ..
structure cf where
 s:(Sl Slot)
 t4:Int
 t7:Int
 t8:Int
instance:Inhabited cf:=⟨⟨default,default,default,default⟩⟩
def iq (x:cf):List KV:=[dL 139 vL x.s,.fn (.func 89) [] [],.int .i64 x.t4,.int .i64 x.t7,.int .i64 x.t8]
def ir (x:cf):List (List KV):=[]
def mq (vs:List KV) (rs:List (List KV)):cf:=⟨eX nP (v9 vs 0),av (v9 vs 2),av (v9 vs 3),av (v9 vs 4)⟩
def mO:aJ:=⟨[(0,w9 (n9 139)),(1,⟨false,[.lit (.fn (.func 89) [] [])]⟩),(4,w9 i9),(7,w9 i9),(8,w9 i9)],[],[]⟩
def wN:=rk9 [(89,De)] [] 104 26 mO
def dx (x:cf):aX cf:=(cond (decide (x.t8 < x.t7)) (cond ((decide (0<=x.t8))&&(decide (x.t8 < (x.s.n:Int)))) (cond (decide ((x.s.get (Int.toNat x.t8)).gen < 1)) (.out aG.ah.ret ⟨x.s,x.t8,x.t7,x.t8⟩) (cond (decide ((x.s.get (Int.toNat x.t8)).gen > 1073741824)) (.out aG.ah.ret ⟨x.s,x.t8,x.t7,x.t8⟩) (.next ⟨x.s,x.t4,x.t7,(aO (x.t8+1))⟩))) .fail) (.out (aG.ah.exit 0) x))
theorem vM (x:cf):wN (iq x) (ir x)=aX.enc iq ir (dx x):=by
 unfold dx
 try simp only [aX.cD]
 kernel_rfl
def mP:Lp:=⟨104,26,mO,fun vs rs=>dR iq ir (goN dx (mq vs rs)) [aG.ah.exit 0,aG.ah.ret],false⟩
theorem wO:mP.Ok PG:=CA (ak.cons Fy ak.nil) bm.nil (pa:=mq) vM
def vN (a:jW):=goN dx ⟨a.cM,0,(a.cM.n:Int),0⟩
def dV (a:jW):Option (Int):=(cond (decide ((a.cM.n:Int) > 128)) (some (8)) (cond ((vN a).by (aG.ah.exit 0)) (some (0)) (cond ((vN a).by aG.ah.ret) (cond (decide ((vN a).st.t4 >= 0)) (some (8)) (some (0))) none)))
theorem Wz (a:jW):pk9 [(89,De)] [mP] 70 [jn a] = (dV a).map (kI .i64):=by
 unfold dV
 try simp only [b6]
 kernel_rfl
def PC:List KV->KR KV:=bR PG 70 (b8 (kI .i64) fun vs=>dV (jG (v9 vs 0)))
theorem J3:bQ PG 70 PC:=dU (ak.cons Fy ak.nil) (r7 wO bm.nil) fun w=>Wz (jG (g0 24 (w 0)))
structure Handle where
 slot:Int
 gen:Int
instance:Inhabited Handle:=⟨⟨default,default⟩⟩
def amw (x:Handle):List KV:=[.int .i64 x.slot,.int .i64 x.gen]
def gM (x:Handle):KV:=.agg (amw x)
def amx (c:Nat->KV):Handle:=⟨av (c 0),av (c 1)⟩
def fK (v:KV):Handle:=amx fun k=>v.cells.getD k .bf
theorem uE (x:Handle):fK (gM x)=x:=rfl
theorem aa9:fK .bf=default:=rfl
theorem jX (s:Sl Handle) (v:Handle):s.push v=au fK (s.n+1) (aw s.n (fun i=>gM (s.get i)) (cZ [gM v])):=(fP uE aa9 s v).symm
theorem kY (s t:Sl Handle):s.join t=au fK (s.n+t.n) (aw s.n (fun i=>gM (s.get i)) (fun i=>gM (t.get i))):=(gL uE s t).symm
theorem mQ (l:List Handle):Sl.lit l=au fK l.length (cZ (l.map gM)):=(jK uE aa9 l).symm
theorem mR (s:Sl Handle) (i:Nat) (v:Handle):s.set i v=au fK s.n (bN (fun j=>gM (s.get j)) i (gM v)):=(jL uE s i v).symm
theorem jO (s t:Sl Handle) (o m:Nat):s.qS o m t=au fK s.n (az o m (fun j=>gM (s.get j)) (fun j=>gM (t.get j))):=(fM uE s t o m).symm
theorem mS (m n n' : Nat) (acc ax:Nat->KV):au fK m (aw n (fun i=>gM ((au fK n' acc).get i)) ax)=au fK m (aw n acc ax):=j8 uE ..
theorem mT (m n n' : Nat) (acc ax:Nat->KV):au fK m (aw n acc (fun i=>gM ((au fK n' ax).get i)))=au fK m (aw n acc ax):=j9 uE ..
theorem mU (m n' i:Nat) (acc:Nat->KV) (v:KV):au fK m (bN (fun j=>gM ((au fK n' acc).get j)) i v)=au fK m (bN acc i v):=kb uE ..
theorem mV (n n' o m:Nat) (acc ax:Nat->KV):au fK n (az o m (fun j=>gM ((au fK n' acc).get j)) ax)=au fK n (az o m acc ax):=kN uE ..
theorem mW (n n' o m:Nat) (acc ax:Nat->KV):au fK n (az o m acc (fun j=>gM ((au fK n' ax).get j)))=au fK n (az o m acc ax):=kO uE ..
def mc (a:jW) (h:Handle):Option (Bool):=(cond (decide (h.slot >= 0)) (cond (decide (h.slot < (a.cM.n:Int))) (cond ((decide (0<=h.slot))&&(decide (h.slot < (a.cM.n:Int)))) (some ((((a.cM.get (Int.toNat h.slot)).gen==h.gen)&&(((a.cM.get (Int.toNat h.slot)).live==true)&&true)))) none) (some (false))) (some (false)))
theorem Yz (a:jW) (h:Handle):pk9 [] [] 79 [jn a,gM h] = (mc a h).map kB:=by
 unfold mc
 try simp only [b6]
 kernel_rfl
def RK:List KV->KR KV:=bR PG 79 (b8 kB fun vs=>mc (jG (v9 vs 0)) (fK (v9 vs 1)))
theorem WB:bQ PG 79 RK:=dU ak.nil bm.nil fun w=>Yz (jG (g0 24 (w 0))) (fK (g0 32 (w 1)))
def vO (a:jW) (h:Handle):=dV a
def vP (a:jW) (h:Handle):=mc a h
def dy (a:jW) (h:Handle):Option (Bool):=(cond (vO a h).isSome (cond (((vO a h).getD default)==0) (cond (vP a h).isSome (some (((vP a h).getD default))) none) (some (false))) none)
theorem WC (a:jW) (h:Handle):pk9 [(79,RK),(70,PC)] [] 49 [jn a,gM h] = (dy a h).map kB:=by
 unfold dy
 try simp only [b6]
 kernel_rfl
def yR:List KV->KR KV:=bR PG 49 (b8 kB fun vs=>dy (jG (v9 vs 0)) (fK (v9 vs 1)))
theorem uf:bQ PG 49 yR:=dU (ak.cons WB (ak.cons J3 ak.nil)) bm.nil fun w=>WC (jG (g0 24 (w 0))) (fK (g0 32 (w 1)))
structure fA where
 cB:jW
 kids:(Sl (Sl Handle))
instance:Inhabited fA:=⟨⟨default,default⟩⟩
def ajN (x:fA):List KV:=[dL 139 vL x.cB.cM,dL 47 (dL 32 gM) x.kids]
def rW (x:fA):KV:=.agg (ajN x)
def ajO (c:Nat->KV):fA:=⟨⟨eX nP (c 0)⟩,eX (eX fK) (c 1)⟩
def jH (v:KV):fA:=ajO fun k=>v.cells.getD k .bf
theorem xO (x:fA):jH (rW x)=x:=rfl
theorem adn:jH .bf=default:=rfl
theorem mX (s:Sl fA) (v:fA):s.push v=au jH (s.n+1) (aw s.n (fun i=>rW (s.get i)) (cZ [rW v])):=(fP xO adn s v).symm
theorem mZ (s t:Sl fA):s.join t=au jH (s.n+t.n) (aw s.n (fun i=>rW (s.get i)) (fun i=>rW (t.get i))):=(gL xO s t).symm
theorem pG (l:List fA):Sl.lit l=au jH l.length (cZ (l.map rW)):=(jK xO adn l).symm
theorem pH (s:Sl fA) (i:Nat) (v:fA):s.set i v=au jH s.n (bN (fun j=>rW (s.get j)) i (rW v)):=(jL xO s i v).symm
theorem kZ (s t:Sl fA) (o m:Nat):s.qS o m t=au jH s.n (az o m (fun j=>rW (s.get j)) (fun j=>rW (t.get j))):=(fM xO s t o m).symm
theorem pI (m n n' : Nat) (acc ax:Nat->KV):au jH m (aw n (fun i=>rW ((au jH n' acc).get i)) ax)=au jH m (aw n acc ax):=j8 xO ..
theorem pJ (m n n' : Nat) (acc ax:Nat->KV):au jH m (aw n acc (fun i=>rW ((au jH n' ax).get i)))=au jH m (aw n acc ax):=j9 xO ..
theorem pK (m n' i:Nat) (acc:Nat->KV) (v:KV):au jH m (bN (fun j=>rW ((au jH n' acc).get j)) i v)=au jH m (bN acc i v):=kb xO ..
theorem pL (n n' o m:Nat) (acc ax:Nat->KV):au jH n (az o m (fun j=>rW ((au jH n' acc).get j)) ax)=au jH n (az o m acc ax):=kN xO ..
theorem pM (n n' o m:Nat) (acc ax:Nat->KV):au jH n (az o m acc (fun j=>rW ((au jH n' ax).get j)))=au jH n (az o m acc ax):=kO xO ..
structure dm where
 e0:Int
 e1:Int
 e2:Int
instance:Inhabited dm:=⟨⟨default,default,default⟩⟩
def amy (x:dm):List KV:=[.int .i64 x.e0,.int .i64 x.e1,.int .i64 x.e2]
def eP (x:dm):KV:=.agg (amy x)
def amz (c:Nat->KV):dm:=⟨av (c 0),av (c 1),av (c 2)⟩
def fc (v:KV):dm:=amz fun k=>v.cells.getD k .bf
theorem uF (x:dm):fc (eP x)=x:=rfl
theorem aba:fc .bf=default:=rfl
theorem jY (s:Sl dm) (v:dm):s.push v=au fc (s.n+1) (aw s.n (fun i=>eP (s.get i)) (cZ [eP v])):=(fP uF aba s v).symm
theorem jZ (s t:Sl dm):s.join t=au fc (s.n+t.n) (aw s.n (fun i=>eP (s.get i)) (fun i=>eP (t.get i))):=(gL uF s t).symm
theorem nb (l:List dm):Sl.lit l=au fc l.length (cZ (l.map eP)):=(jK uF aba l).symm
theorem nf (s:Sl dm) (i:Nat) (v:dm):s.set i v=au fc s.n (bN (fun j=>eP (s.get j)) i (eP v)):=(jL uF s i v).symm
theorem jP (s t:Sl dm) (o m:Nat):s.qS o m t=au fc s.n (az o m (fun j=>eP (s.get j)) (fun j=>eP (t.get j))):=(fM uF s t o m).symm
theorem ng (m n n' : Nat) (acc ax:Nat->KV):au fc m (aw n (fun i=>eP ((au fc n' acc).get i)) ax)=au fc m (aw n acc ax):=j8 uF ..
theorem nh (m n n' : Nat) (acc ax:Nat->KV):au fc m (aw n acc (fun i=>eP ((au fc n' ax).get i)))=au fc m (aw n acc ax):=j9 uF ..
theorem ni (m n' i:Nat) (acc:Nat->KV) (v:KV):au fc m (bN (fun j=>eP ((au fc n' acc).get j)) i v)=au fc m (bN acc i v):=kb uF ..
theorem nj (n n' o m:Nat) (acc ax:Nat->KV):au fc n (az o m (fun j=>eP ((au fc n' acc).get j)) ax)=au fc n (az o m acc ax):=kN uF ..
theorem nm (n n' o m:Nat) (acc ax:Nat->KV):au fc n (az o m acc (fun j=>eP ((au fc n' ax).get j)))=au fc n (az o m acc ax):=kO uF ..
structure eY where
 e0:dm
 e1:dm
 e2:dm
instance:Inhabited eY:=⟨⟨default,default,default⟩⟩
def agv (x:eY):List KV:=[.int .i64 x.e0.e0,.int .i64 x.e0.e1,.int .i64 x.e0.e2,.int .i64 x.e1.e0,.int .i64 x.e1.e1,.int .i64 x.e1.e2,.int .i64 x.e2.e0,.int .i64 x.e2.e1,.int .i64 x.e2.e2]
def hJ (x:eY):KV:=.agg (agv x)
def agw (c:Nat->KV):eY:=⟨⟨av (c 0),av (c 1),av (c 2)⟩,⟨av (c 3),av (c 4),av (c 5)⟩,⟨av (c 6),av (c 7),av (c 8)⟩⟩
def dF (v:KV):eY:=agw fun k=>v.cells.getD k .bf
theorem mf (x:eY):dF (hJ x)=x:=rfl
theorem RL:dF .bf=default:=rfl
theorem gH (s:Sl eY) (v:eY):s.push v=au dF (s.n+1) (aw s.n (fun i=>hJ (s.get i)) (cZ [hJ v])):=(fP mf RL s v).symm
theorem gI (s t:Sl eY):s.join t=au dF (s.n+t.n) (aw s.n (fun i=>hJ (s.get i)) (fun i=>hJ (t.get i))):=(gL mf s t).symm
theorem iE (l:List eY):Sl.lit l=au dF l.length (cZ (l.map hJ)):=(jK mf RL l).symm
theorem iG (s:Sl eY) (i:Nat) (v:eY):s.set i v=au dF s.n (bN (fun j=>hJ (s.get j)) i (hJ v)):=(jL mf s i v).symm
theorem fQ (s t:Sl eY) (o m:Nat):s.qS o m t=au dF s.n (az o m (fun j=>hJ (s.get j)) (fun j=>hJ (t.get j))):=(fM mf s t o m).symm
theorem iH (m n n' : Nat) (acc ax:Nat->KV):au dF m (aw n (fun i=>hJ ((au dF n' acc).get i)) ax)=au dF m (aw n acc ax):=j8 mf ..
theorem iI (m n n' : Nat) (acc ax:Nat->KV):au dF m (aw n acc (fun i=>hJ ((au dF n' ax).get i)))=au dF m (aw n acc ax):=j9 mf ..
theorem iJ (m n' i:Nat) (acc:Nat->KV) (v:KV):au dF m (bN (fun j=>hJ ((au dF n' acc).get j)) i v)=au dF m (bN acc i v):=kb mf ..
theorem iK (n n' o m:Nat) (acc ax:Nat->KV):au dF n (az o m (fun j=>hJ ((au dF n' acc).get j)) ax)=au dF n (az o m acc ax):=kN mf ..
theorem iL (n n' o m:Nat) (acc ax:Nat->KV):au dF n (az o m acc (fun j=>hJ ((au dF n' ax).get j)))=au dF n (az o m acc ax):=kO mf ..
structure dI where
 x:Int
 y:Int
 z:Int
instance:Inhabited dI:=⟨⟨default,default,default⟩⟩
def ajP (x:dI):List KV:=[.int .i64 x.x,.int .i64 x.y,.int .i64 x.z]
def np (x:dI):KV:=.agg (ajP x)
def ajQ (c:Nat->KV):dI:=⟨av (c 0),av (c 1),av (c 2)⟩
def jV (v:KV):dI:=ajQ fun k=>v.cells.getD k .bf
theorem Fa (x:dI):jV (np x)=x:=rfl
theorem ajR:jV .bf=default:=rfl
theorem rF (s:Sl dI) (v:dI):s.push v=au jV (s.n+1) (aw s.n (fun i=>np (s.get i)) (cZ [np v])):=(fP Fa ajR s v).symm
theorem sM (s t:Sl dI):s.join t=au jV (s.n+t.n) (aw s.n (fun i=>np (s.get i)) (fun i=>np (t.get i))):=(gL Fa s t).symm
theorem xt (l:List dI):Sl.lit l=au jV l.length (cZ (l.map np)):=(jK Fa ajR l).symm
theorem xu (s:Sl dI) (i:Nat) (v:dI):s.set i v=au jV s.n (bN (fun j=>np (s.get j)) i (np v)):=(jL Fa s i v).symm
theorem pN (s t:Sl dI) (o m:Nat):s.qS o m t=au jV s.n (az o m (fun j=>np (s.get j)) (fun j=>np (t.get j))):=(fM Fa s t o m).symm
theorem xv (m n n' : Nat) (acc ax:Nat->KV):au jV m (aw n (fun i=>np ((au jV n' acc).get i)) ax)=au jV m (aw n acc ax):=j8 Fa ..
theorem xw (m n n' : Nat) (acc ax:Nat->KV):au jV m (aw n acc (fun i=>np ((au jV n' ax).get i)))=au jV m (aw n acc ax):=j9 Fa ..
theorem xx (m n' i:Nat) (acc:Nat->KV) (v:KV):au jV m (bN (fun j=>np ((au jV n' acc).get j)) i v)=au jV m (bN acc i v):=kb Fa ..
theorem xy (n n' o m:Nat) (acc ax:Nat->KV):au jV n (az o m (fun j=>np ((au jV n' acc).get j)) ax)=au jV n (az o m acc ax):=kN Fa ..
theorem xz (n n' o m:Nat) (acc ax:Nat->KV):au jV n (az o m acc (fun j=>np ((au jV n' ax).get j)))=au jV n (az o m acc ax):=kO Fa ..
structure iu where
 m:eY
 t:dI
instance:Inhabited iu:=⟨⟨default,default⟩⟩
def ap0 (x:iu):List KV:=[.int .i64 x.m.e0.e0,.int .i64 x.m.e0.e1,.int .i64 x.m.e0.e2,.int .i64 x.m.e1.e0,.int .i64 x.m.e1.e1,.int .i64 x.m.e1.e2,.int .i64 x.m.e2.e0,.int .i64 x.m.e2.e1,.int .i64 x.m.e2.e2,.int .i64 x.t.x,.int .i64 x.t.y,.int .i64 x.t.z]
def yv (x:iu):KV:=.agg (ap0 x)
def ap1 (c:Nat->KV):iu:=⟨⟨⟨av (c 0),av (c 1),av (c 2)⟩,⟨av (c 3),av (c 4),av (c 5)⟩,⟨av (c 6),av (c 7),av (c 8)⟩⟩,⟨av (c 9),av (c 10),av (c 11)⟩⟩
def rq (v:KV):iu:=ap1 fun k=>v.cells.getD k .bf
theorem Fb (x:iu):rq (yv x)=x:=rfl
theorem ajS:rq .bf=default:=rfl
theorem sN (s:Sl iu) (v:iu):s.push v=au rq (s.n+1) (aw s.n (fun i=>yv (s.get i)) (cZ [yv v])):=(fP Fb ajS s v).symm
theorem sP (s t:Sl iu):s.join t=au rq (s.n+t.n) (aw s.n (fun i=>yv (s.get i)) (fun i=>yv (t.get i))):=(gL Fb s t).symm
theorem xA (l:List iu):Sl.lit l=au rq l.length (cZ (l.map yv)):=(jK Fb ajS l).symm
theorem xB (s:Sl iu) (i:Nat) (v:iu):s.set i v=au rq s.n (bN (fun j=>yv (s.get j)) i (yv v)):=(jL Fb s i v).symm
theorem pO (s t:Sl iu) (o m:Nat):s.qS o m t=au rq s.n (az o m (fun j=>yv (s.get j)) (fun j=>yv (t.get j))):=(fM Fb s t o m).symm
theorem xC (m n n' : Nat) (acc ax:Nat->KV):au rq m (aw n (fun i=>yv ((au rq n' acc).get i)) ax)=au rq m (aw n acc ax):=j8 Fb ..
theorem xD (m n n' : Nat) (acc ax:Nat->KV):au rq m (aw n acc (fun i=>yv ((au rq n' ax).get i)))=au rq m (aw n acc ax):=j9 Fb ..
theorem xE (m n' i:Nat) (acc:Nat->KV) (v:KV):au rq m (bN (fun j=>yv ((au rq n' acc).get j)) i v)=au rq m (bN acc i v):=kb Fb ..
theorem xF (n n' o m:Nat) (acc ax:Nat->KV):au rq n (az o m (fun j=>yv ((au rq n' acc).get j)) ax)=au rq n (az o m acc ax):=kN Fb ..
theorem xG (n n' o m:Nat) (acc ax:Nat->KV):au rq n (az o m acc (fun j=>yv ((au rq n' ax).get j)))=au rq n (az o m acc ax):=kO Fb ..
structure Df where
 e0:Int
 e1:Int
 e2:Int
 e3:Int
 e4:Int
instance:Inhabited Df:=⟨⟨default,default,default,default,default⟩⟩
def anB (x:Df):List KV:=[.int .u8 x.e0,.int .u8 x.e1,.int .u8 x.e2,.int .u8 x.e3,.int .u8 x.e4]
def wP (x:Df):KV:=.agg (anB x)
def anC (c:Nat->KV):Df:=⟨av (c 0),av (c 1),av (c 2),av (c 3),av (c 4)⟩
def nT (v:KV):Df:=anC fun k=>v.cells.getD k .bf
theorem xP (x:Df):nT (wP x)=x:=rfl
theorem ado:nT .bf=default:=rfl
theorem ns (s:Sl Df) (v:Df):s.push v=au nT (s.n+1) (aw s.n (fun i=>wP (s.get i)) (cZ [wP v])):=(fP xP ado s v).symm
theorem nt (s t:Sl Df):s.join t=au nT (s.n+t.n) (aw s.n (fun i=>wP (s.get i)) (fun i=>wP (t.get i))):=(gL xP s t).symm
theorem pP (l:List Df):Sl.lit l=au nT l.length (cZ (l.map wP)):=(jK xP ado l).symm
theorem pQ (s:Sl Df) (i:Nat) (v:Df):s.set i v=au nT s.n (bN (fun j=>wP (s.get j)) i (wP v)):=(jL xP s i v).symm
theorem k7 (s t:Sl Df) (o m:Nat):s.qS o m t=au nT s.n (az o m (fun j=>wP (s.get j)) (fun j=>wP (t.get j))):=(fM xP s t o m).symm
theorem pR (m n n' : Nat) (acc ax:Nat->KV):au nT m (aw n (fun i=>wP ((au nT n' acc).get i)) ax)=au nT m (aw n acc ax):=j8 xP ..
theorem pS (m n n' : Nat) (acc ax:Nat->KV):au nT m (aw n acc (fun i=>wP ((au nT n' ax).get i)))=au nT m (aw n acc ax):=j9 xP ..
theorem pT (m n' i:Nat) (acc:Nat->KV) (v:KV):au nT m (bN (fun j=>wP ((au nT n' acc).get j)) i v)=au nT m (bN acc i v):=kb xP ..
theorem pU (n n' o m:Nat) (acc ax:Nat->KV):au nT n (az o m (fun j=>wP ((au nT n' acc).get j)) ax)=au nT n (az o m acc ax):=kN xP ..
theorem pV (n n' o m:Nat) (acc ax:Nat->KV):au nT n (az o m acc (fun j=>wP ((au nT n' ax).get j)))=au nT n (az o m acc ax):=kO xP ..
structure Color where
 e0:Int
 e1:Int
 e2:Int
 e3:Int
instance:Inhabited Color:=⟨⟨default,default,default,default⟩⟩
def anE (x:Color):List KV:=[.int .u8 x.e0,.int .u8 x.e1,.int .u8 x.e2,.int .u8 x.e3]
def vb (x:Color):KV:=.agg (anE x)
def anF (c:Nat->KV):Color:=⟨av (c 0),av (c 1),av (c 2),av (c 3)⟩
def mr (v:KV):Color:=anF fun k=>v.cells.getD k .bf
theorem xQ (x:Color):mr (vb x)=x:=rfl
theorem adp:mr .bf=default:=rfl
theorem nu (s:Sl Color) (v:Color):s.push v=au mr (s.n+1) (aw s.n (fun i=>vb (s.get i)) (cZ [vb v])):=(fP xQ adp s v).symm
theorem nv (s t:Sl Color):s.join t=au mr (s.n+t.n) (aw s.n (fun i=>vb (s.get i)) (fun i=>vb (t.get i))):=(gL xQ s t).symm
theorem pW (l:List Color):Sl.lit l=au mr l.length (cZ (l.map vb)):=(jK xQ adp l).symm
theorem pX (s:Sl Color) (i:Nat) (v:Color):s.set i v=au mr s.n (bN (fun j=>vb (s.get j)) i (vb v)):=(jL xQ s i v).symm
theorem k8 (s t:Sl Color) (o m:Nat):s.qS o m t=au mr s.n (az o m (fun j=>vb (s.get j)) (fun j=>vb (t.get j))):=(fM xQ s t o m).symm
theorem pY (m n n' : Nat) (acc ax:Nat->KV):au mr m (aw n (fun i=>vb ((au mr n' acc).get i)) ax)=au mr m (aw n acc ax):=j8 xQ ..
theorem pZ (m n n' : Nat) (acc ax:Nat->KV):au mr m (aw n acc (fun i=>vb ((au mr n' ax).get i)))=au mr m (aw n acc ax):=j9 xQ ..
theorem p0 (m n' i:Nat) (acc:Nat->KV) (v:KV):au mr m (bN (fun j=>vb ((au mr n' acc).get j)) i v)=au mr m (bN acc i v):=kb xQ ..
theorem p8 (n n' o m:Nat) (acc ax:Nat->KV):au mr n (az o m (fun j=>vb ((au mr n' acc).get j)) ax)=au mr n (az o m acc ax):=kN xQ ..
theorem p9 (n n' o m:Nat) (acc ax:Nat->KV):au mr n (az o m acc (fun j=>vb ((au mr n' ax).get j)))=au mr n (az o m acc ax):=kO xQ ..
structure kd where
 color:Color
 dJ:Int
 oY:Int
 nW:Int
 kr:Bool
 bin:Int
instance:Inhabited kd:=⟨by constructor<;>exact default⟩
def aic (x:kd):List KV:=[.int .u8 x.color.e0,.int .u8 x.color.e1,.int .u8 x.color.e2,.int .u8 x.color.e3,.int .i64 x.dJ,.int .u8 x.oY,.int .i64 x.nW,.bool x.kr,.int .i64 x.bin]
def ya (x:kd):KV:=.agg (aic x)
def aid (c:Nat->KV):kd:=⟨⟨av (c 0),av (c 1),av (c 2),av (c 3)⟩,av (c 4),av (c 5),av (c 6),fh (c 7),av (c 8)⟩
def qT (v:KV):kd:=aid fun k=>v.cells.getD k .bf
theorem AU (x:kd):qT (ya x)=x:=rfl
theorem agx:qT .bf=default:=rfl
theorem qa (s:Sl kd) (v:kd):s.push v=au qT (s.n+1) (aw s.n (fun i=>ya (s.get i)) (cZ [ya v])):=(fP AU agx s v).symm
theorem qb (s t:Sl kd):s.join t=au qT (s.n+t.n) (aw s.n (fun i=>ya (s.get i)) (fun i=>ya (t.get i))):=(gL AU s t).symm
theorem sQ (l:List kd):Sl.lit l=au qT l.length (cZ (l.map ya)):=(jK AU agx l).symm
theorem sR (s:Sl kd) (i:Nat) (v:kd):s.set i v=au qT s.n (bN (fun j=>ya (s.get j)) i (ya v)):=(jL AU s i v).symm
theorem nw (s t:Sl kd) (o m:Nat):s.qS o m t=au qT s.n (az o m (fun j=>ya (s.get j)) (fun j=>ya (t.get j))):=(fM AU s t o m).symm
theorem sS (m n n' : Nat) (acc ax:Nat->KV):au qT m (aw n (fun i=>ya ((au qT n' acc).get i)) ax)=au qT m (aw n acc ax):=j8 AU ..
theorem sT (m n n' : Nat) (acc ax:Nat->KV):au qT m (aw n acc (fun i=>ya ((au qT n' ax).get i)))=au qT m (aw n acc ax):=j9 AU ..
theorem sU (m n' i:Nat) (acc:Nat->KV) (v:KV):au qT m (bN (fun j=>ya ((au qT n' acc).get j)) i v)=au qT m (bN acc i v):=kb AU ..
theorem sX (n n' o m:Nat) (acc ax:Nat->KV):au qT n (az o m (fun j=>ya ((au qT n' acc).get j)) ax)=au qT n (az o m acc ax):=kN AU ..
theorem sZ (n n' o m:Nat) (acc ax:Nat->KV):au qT n (az o m acc (fun j=>ya ((au qT n' ax).get j)))=au qT n (az o m acc ax):=kO AU ..
structure dt where
 cp:Df
 look:kd
instance:Inhabited dt:=⟨⟨default,default⟩⟩
def aeF (x:dt):List KV:=[.int .u8 x.cp.e0,.int .u8 x.cp.e1,.int .u8 x.cp.e2,.int .u8 x.cp.e3,.int .u8 x.cp.e4,.int .u8 x.look.color.e0,.int .u8 x.look.color.e1,.int .u8 x.look.color.e2,.int .u8 x.look.color.e3,.int .i64 x.look.dJ,.int .u8 x.look.oY,.int .i64 x.look.nW,.bool x.look.kr,.int .i64 x.look.bin]
def oI (x:dt):KV:=.agg (aeF x)
def aeG (c:Nat->KV):dt:=⟨⟨av (c 0),av (c 1),av (c 2),av (c 3),av (c 4)⟩,⟨⟨av (c 5),av (c 6),av (c 7),av (c 8)⟩,av (c 9),av (c 10),av (c 11),fh (c 12),av (c 13)⟩⟩
def iv (v:KV):dt:=aeG fun k=>v.cells.getD k .bf
theorem xR (x:dt):iv (oI x)=x:=rfl
theorem adq:iv .bf=default:=rfl
theorem lK (s:Sl dt) (v:dt):s.push v=au iv (s.n+1) (aw s.n (fun i=>oI (s.get i)) (cZ [oI v])):=(fP xR adq s v).symm
theorem ny (s t:Sl dt):s.join t=au iv (s.n+t.n) (aw s.n (fun i=>oI (s.get i)) (fun i=>oI (t.get i))):=(gL xR s t).symm
theorem qc (l:List dt):Sl.lit l=au iv l.length (cZ (l.map oI)):=(jK xR adq l).symm
theorem qd (s:Sl dt) (i:Nat) (v:dt):s.set i v=au iv s.n (bN (fun j=>oI (s.get j)) i (oI v)):=(jL xR s i v).symm
theorem la (s t:Sl dt) (o m:Nat):s.qS o m t=au iv s.n (az o m (fun j=>oI (s.get j)) (fun j=>oI (t.get j))):=(fM xR s t o m).symm
theorem qe (m n n' : Nat) (acc ax:Nat->KV):au iv m (aw n (fun i=>oI ((au iv n' acc).get i)) ax)=au iv m (aw n acc ax):=j8 xR ..
theorem qf (m n n' : Nat) (acc ax:Nat->KV):au iv m (aw n acc (fun i=>oI ((au iv n' ax).get i)))=au iv m (aw n acc ax):=j9 xR ..
theorem qg (m n' i:Nat) (acc:Nat->KV) (v:KV):au iv m (bN (fun j=>oI ((au iv n' acc).get j)) i v)=au iv m (bN acc i v):=kb xR ..
theorem qh (n n' o m:Nat) (acc ax:Nat->KV):au iv n (az o m (fun j=>oI ((au iv n' acc).get j)) ax)=au iv n (az o m acc ax):=kN xR ..
theorem qi (n n' o m:Nat) (acc ax:Nat->KV):au iv n (az o m acc (fun j=>oI ((au iv n' ax).get j)))=au iv n (az o m acc ax):=kO xR ..
structure Node where
 kind:Int
 nX:iu
 rM:Int
 cN:dI
 eI:(Sl Int)
 fN:Int
 bD:dt
instance:Inhabited Node:=⟨by constructor<;>exact default⟩
def amA (x:Node):List KV:=[.int .u8 x.kind,.int .i64 x.nX.m.e0.e0,.int .i64 x.nX.m.e0.e1,.int .i64 x.nX.m.e0.e2,.int .i64 x.nX.m.e1.e0,.int .i64 x.nX.m.e1.e1,.int .i64 x.nX.m.e1.e2,.int .i64 x.nX.m.e2.e0,.int .i64 x.nX.m.e2.e1,.int .i64 x.nX.m.e2.e2,.int .i64 x.nX.t.x,.int .i64 x.nX.t.y,.int .i64 x.nX.t.z,.int .u16 x.rM,.int .i64 x.cN.x,.int .i64 x.cN.y,.int .i64 x.cN.z,dL 3 (kI .i64) x.eI,.int .i64 x.fN,.int .u8 x.bD.cp.e0,.int .u8 x.bD.cp.e1,.int .u8 x.bD.cp.e2,.int .u8 x.bD.cp.e3,.int .u8 x.bD.cp.e4,.int .u8 x.bD.look.color.e0,.int .u8 x.bD.look.color.e1,.int .u8 x.bD.look.color.e2,.int .u8 x.bD.look.color.e3,.int .i64 x.bD.look.dJ,.int .u8 x.bD.look.oY,.int .i64 x.bD.look.nW,.bool x.bD.look.kr,.int .i64 x.bD.look.bin]
def rN (x:Node):KV:=.agg (amA x)
def amB (c:Nat->KV):Node:=⟨av (c 0),⟨⟨⟨av (c 1),av (c 2),av (c 3)⟩,⟨av (c 4),av (c 5),av (c 6)⟩,⟨av (c 7),av (c 8),av (c 9)⟩⟩,⟨av (c 10),av (c 11),av (c 12)⟩⟩,av (c 13),⟨av (c 14),av (c 15),av (c 16)⟩,eX av (c 17),av (c 18),⟨⟨av (c 19),av (c 20),av (c 21),av (c 22),av (c 23)⟩,⟨⟨av (c 24),av (c 25),av (c 26),av (c 27)⟩,av (c 28),av (c 29),av (c 30),fh (c 31),av (c 32)⟩⟩⟩
def kP (v:KV):Node:=amB fun k=>v.cells.getD k .bf
theorem AV (x:Node):kP (rN x)=x:=rfl
theorem agy:kP .bf=default:=rfl
theorem qj (s:Sl Node) (v:Node):s.push v=au kP (s.n+1) (aw s.n (fun i=>rN (s.get i)) (cZ [rN v])):=(fP AV agy s v).symm
theorem qk (s t:Sl Node):s.join t=au kP (s.n+t.n) (aw s.n (fun i=>rN (s.get i)) (fun i=>rN (t.get i))):=(gL AV s t).symm
theorem s0 (l:List Node):Sl.lit l=au kP l.length (cZ (l.map rN)):=(jK AV agy l).symm
theorem s5 (s:Sl Node) (i:Nat) (v:Node):s.set i v=au kP s.n (bN (fun j=>rN (s.get j)) i (rN v)):=(jL AV s i v).symm
theorem nz (s t:Sl Node) (o m:Nat):s.qS o m t=au kP s.n (az o m (fun j=>rN (s.get j)) (fun j=>rN (t.get j))):=(fM AV s t o m).symm
theorem s9 (m n n' : Nat) (acc ax:Nat->KV):au kP m (aw n (fun i=>rN ((au kP n' acc).get i)) ax)=au kP m (aw n acc ax):=j8 AV ..
theorem ta (m n n' : Nat) (acc ax:Nat->KV):au kP m (aw n acc (fun i=>rN ((au kP n' ax).get i)))=au kP m (aw n acc ax):=j9 AV ..
theorem tf (m n' i:Nat) (acc:Nat->KV) (v:KV):au kP m (bN (fun j=>rN ((au kP n' acc).get j)) i v)=au kP m (bN acc i v):=kb AV ..
theorem tg (n n' o m:Nat) (acc ax:Nat->KV):au kP n (az o m (fun j=>rN ((au kP n' acc).get j)) ax)=au kP n (az o m acc ax):=kN AV ..
theorem th (n n' o m:Nat) (acc ax:Nat->KV):au kP n (az o m acc (fun j=>rN ((au kP n' ax).get j)))=au kP n (az o m acc ax):=kO AV ..
structure kz where
 e0:Int
 e1:Int
instance:Inhabited kz:=⟨⟨default,default⟩⟩
def amC (x:kz):List KV:=[.int .i64 x.e0,.int .i64 x.e1]
def jo (x:kz):KV:=.agg (amC x)
def amD (c:Nat->KV):kz:=⟨av (c 0),av (c 1)⟩
def fB (v:KV):kz:=amD fun k=>v.cells.getD k .bf
theorem uG (x:kz):fB (jo x)=x:=rfl
theorem abb:fB .bf=default:=rfl
theorem lh (s:Sl kz) (v:kz):s.push v=au fB (s.n+1) (aw s.n (fun i=>jo (s.get i)) (cZ [jo v])):=(fP uG abb s v).symm
theorem j2 (s t:Sl kz):s.join t=au fB (s.n+t.n) (aw s.n (fun i=>jo (s.get i)) (fun i=>jo (t.get i))):=(gL uG s t).symm
theorem lL (l:List kz):Sl.lit l=au fB l.length (cZ (l.map jo)):=(jK uG abb l).symm
theorem nA (s:Sl kz) (i:Nat) (v:kz):s.set i v=au fB s.n (bN (fun j=>jo (s.get j)) i (jo v)):=(jL uG s i v).symm
theorem jQ (s t:Sl kz) (o m:Nat):s.qS o m t=au fB s.n (az o m (fun j=>jo (s.get j)) (fun j=>jo (t.get j))):=(fM uG s t o m).symm
theorem lM (m n n' : Nat) (acc ax:Nat->KV):au fB m (aw n (fun i=>jo ((au fB n' acc).get i)) ax)=au fB m (aw n acc ax):=j8 uG ..
theorem nB (m n n' : Nat) (acc ax:Nat->KV):au fB m (aw n acc (fun i=>jo ((au fB n' ax).get i)))=au fB m (aw n acc ax):=j9 uG ..
theorem nC (m n' i:Nat) (acc:Nat->KV) (v:KV):au fB m (bN (fun j=>jo ((au fB n' acc).get j)) i v)=au fB m (bN acc i v):=kb uG ..
theorem nD (n n' o m:Nat) (acc ax:Nat->KV):au fB n (az o m (fun j=>jo ((au fB n' acc).get j)) ax)=au fB n (az o m acc ax):=kN uG ..
theorem nE (n n' o m:Nat) (acc ax:Nat->KV):au fB n (az o m acc (fun j=>jo ((au fB n' ax).get j)))=au fB n (az o m acc ax):=kO uG ..
structure Prim where
 kind:Int
 index:(Sl Int)
instance:Inhabited Prim:=⟨⟨default,default⟩⟩
def amE (x:Prim):List KV:=[.int .u8 x.kind,dL 3 (kI .i64) x.index]
def vQ (x:Prim):KV:=.agg (amE x)
def amF (c:Nat->KV):Prim:=⟨av (c 0),eX av (c 1)⟩
def mu (v:KV):Prim:=amF fun k=>v.cells.getD k .bf
theorem AW (x:Prim):mu (vQ x)=x:=rfl
theorem agz:mu .bf=default:=rfl
theorem ql (s:Sl Prim) (v:Prim):s.push v=au mu (s.n+1) (aw s.n (fun i=>vQ (s.get i)) (cZ [vQ v])):=(fP AW agz s v).symm
theorem qm (s t:Sl Prim):s.join t=au mu (s.n+t.n) (aw s.n (fun i=>vQ (s.get i)) (fun i=>vQ (t.get i))):=(gL AW s t).symm
theorem tl (l:List Prim):Sl.lit l=au mu l.length (cZ (l.map vQ)):=(jK AW agz l).symm
theorem tq (s:Sl Prim) (i:Nat) (v:Prim):s.set i v=au mu s.n (bN (fun j=>vQ (s.get j)) i (vQ v)):=(jL AW s i v).symm
theorem nF (s t:Sl Prim) (o m:Nat):s.qS o m t=au mu s.n (az o m (fun j=>vQ (s.get j)) (fun j=>vQ (t.get j))):=(fM AW s t o m).symm
theorem tt (m n n' : Nat) (acc ax:Nat->KV):au mu m (aw n (fun i=>vQ ((au mu n' acc).get i)) ax)=au mu m (aw n acc ax):=j8 AW ..
theorem tu (m n n' : Nat) (acc ax:Nat->KV):au mu m (aw n acc (fun i=>vQ ((au mu n' ax).get i)))=au mu m (aw n acc ax):=j9 AW ..
theorem tv (m n' i:Nat) (acc:Nat->KV) (v:KV):au mu m (bN (fun j=>vQ ((au mu n' acc).get j)) i v)=au mu m (bN acc i v):=kb AW ..
theorem tw (n n' o m:Nat) (acc ax:Nat->KV):au mu n (az o m (fun j=>vQ ((au mu n' acc).get j)) ax)=au mu n (az o m acc ax):=kN AW ..
theorem tz (n n' o m:Nat) (acc ax:Nat->KV):au mu n (az o m acc (fun j=>vQ ((au mu n' ax).get j)))=au mu n (az o m acc ax):=kO AW ..
structure gW where
 aC:(Sl dI)
 uV:(Sl kz)
 fY:(Sl Prim)
instance:Inhabited gW:=⟨⟨default,default,default⟩⟩
def abc (x:gW):List KV:=[dL 36 np x.aC,dL 125 jo x.uV,dL 120 vQ x.fY]
def uH (x:gW):KV:=.agg (abc x)
def abd (c:Nat->KV):gW:=⟨eX jV (c 0),eX fB (c 1),eX mu (c 2)⟩
def kQ (v:KV):gW:=abd fun k=>v.cells.getD k .bf
theorem AX (x:gW):kQ (uH x)=x:=rfl
theorem agA:kQ .bf=default:=rfl
theorem qo (s:Sl gW) (v:gW):s.push v=au kQ (s.n+1) (aw s.n (fun i=>uH (s.get i)) (cZ [uH v])):=(fP AX agA s v).symm
theorem qp (s t:Sl gW):s.join t=au kQ (s.n+t.n) (aw s.n (fun i=>uH (s.get i)) (fun i=>uH (t.get i))):=(gL AX s t).symm
theorem tA (l:List gW):Sl.lit l=au kQ l.length (cZ (l.map uH)):=(jK AX agA l).symm
theorem tB (s:Sl gW) (i:Nat) (v:gW):s.set i v=au kQ s.n (bN (fun j=>uH (s.get j)) i (uH v)):=(jL AX s i v).symm
theorem nG (s t:Sl gW) (o m:Nat):s.qS o m t=au kQ s.n (az o m (fun j=>uH (s.get j)) (fun j=>uH (t.get j))):=(fM AX s t o m).symm
theorem tC (m n n' : Nat) (acc ax:Nat->KV):au kQ m (aw n (fun i=>uH ((au kQ n' acc).get i)) ax)=au kQ m (aw n acc ax):=j8 AX ..
theorem tD (m n n' : Nat) (acc ax:Nat->KV):au kQ m (aw n acc (fun i=>uH ((au kQ n' ax).get i)))=au kQ m (aw n acc ax):=j9 AX ..
theorem tE (m n' i:Nat) (acc:Nat->KV) (v:KV):au kQ m (bN (fun j=>uH ((au kQ n' acc).get j)) i v)=au kQ m (bN acc i v):=kb AX ..
theorem tF (n n' o m:Nat) (acc ax:Nat->KV):au kQ n (az o m (fun j=>uH ((au kQ n' acc).get j)) ax)=au kQ n (az o m acc ax):=kN AX ..
theorem tG (n n' o m:Nat) (acc ax:Nat->KV):au kQ n (az o m acc (fun j=>uH ((au kQ n' ax).get j)))=au kQ n (az o m acc ax):=kO AX ..
structure gN where
 w:Int
 h:Int
 UT:(Sl Color)
instance:Inhabited gN:=⟨⟨default,default,default⟩⟩
def akL (x:gN):List KV:=[.int .i64 x.w,.int .i64 x.h,dL 58 vb x.UT]
def jB (x:gN):KV:=.agg (akL x)
def akM (c:Nat->KV):gN:=⟨av (c 0),av (c 1),eX mr (c 2)⟩
def eQ (v:KV):gN:=akM fun k=>v.cells.getD k .bf
theorem ru (x:gN):eQ (jB x)=x:=rfl
theorem X7:eQ .bf=default:=rfl
theorem jR (s:Sl gN) (v:gN):s.push v=au eQ (s.n+1) (aw s.n (fun i=>jB (s.get i)) (cZ [jB v])):=(fP ru X7 s v).symm
theorem jS (s t:Sl gN):s.join t=au eQ (s.n+t.n) (aw s.n (fun i=>jB (s.get i)) (fun i=>jB (t.get i))):=(gL ru s t).symm
theorem lj (l:List gN):Sl.lit l=au eQ l.length (cZ (l.map jB)):=(jK ru X7 l).symm
theorem lk (s:Sl gN) (i:Nat) (v:gN):s.set i v=au eQ s.n (bN (fun j=>jB (s.get j)) i (jB v)):=(jL ru s i v).symm
theorem iM (s t:Sl gN) (o m:Nat):s.qS o m t=au eQ s.n (az o m (fun j=>jB (s.get j)) (fun j=>jB (t.get j))):=(fM ru s t o m).symm
theorem ll (m n n' : Nat) (acc ax:Nat->KV):au eQ m (aw n (fun i=>jB ((au eQ n' acc).get i)) ax)=au eQ m (aw n acc ax):=j8 ru ..
theorem ln (m n n' : Nat) (acc ax:Nat->KV):au eQ m (aw n acc (fun i=>jB ((au eQ n' ax).get i)))=au eQ m (aw n acc ax):=j9 ru ..
theorem lq (m n' i:Nat) (acc:Nat->KV) (v:KV):au eQ m (bN (fun j=>jB ((au eQ n' acc).get j)) i v)=au eQ m (bN acc i v):=kb ru ..
theorem lr (n n' o m:Nat) (acc ax:Nat->KV):au eQ n (az o m (fun j=>jB ((au eQ n' acc).get j)) ax)=au eQ n (az o m acc ax):=kN ru ..
theorem lu (n n' o m:Nat) (acc ax:Nat->KV):au eQ n (az o m acc (fun j=>jB ((au eQ n' ax).get j)))=au eQ n (az o m acc ax):=kO ru ..
structure aA where
 graph:fA
 nodes:(Sl Node)
 fj:(Sl gW)
 j3:(Sl gN)
 root:Handle
instance:Inhabited aA:=⟨⟨default,default,default,default,default⟩⟩
def Bp (x:aA):List KV:=[dL 139 vL x.graph.cB.cM,dL 47 (dL 32 gM) x.graph.kids,dL 64 rN x.nodes,dL 79 uH x.fj,dL 118 jB x.j3,.int .i64 x.root.slot,.int .i64 x.root.gen]
def kA (x:aA):KV:=.agg (Bp x)
def Bq (c:Nat->KV):aA:=⟨⟨⟨eX nP (c 0)⟩,eX (eX fK) (c 1)⟩,eX kP (c 2),eX kQ (c 3),eX eQ (c 4),⟨av (c 5),av (c 6)⟩⟩
def eR (v:KV):aA:=Bq fun k=>v.cells.getD k .bf
theorem xS (x:aA):eR (kA x)=x:=rfl
theorem adr:eR .bf=default:=rfl
theorem nH (s:Sl aA) (v:aA):s.push v=au eR (s.n+1) (aw s.n (fun i=>kA (s.get i)) (cZ [kA v])):=(fP xS adr s v).symm
theorem nI (s t:Sl aA):s.join t=au eR (s.n+t.n) (aw s.n (fun i=>kA (s.get i)) (fun i=>kA (t.get i))):=(gL xS s t).symm
theorem qq (l:List aA):Sl.lit l=au eR l.length (cZ (l.map kA)):=(jK xS adr l).symm
theorem qt (s:Sl aA) (i:Nat) (v:aA):s.set i v=au eR s.n (bN (fun j=>kA (s.get j)) i (kA v)):=(jL xS s i v).symm
theorem lx (s t:Sl aA) (o m:Nat):s.qS o m t=au eR s.n (az o m (fun j=>kA (s.get j)) (fun j=>kA (t.get j))):=(fM xS s t o m).symm
theorem qu (m n n' : Nat) (acc ax:Nat->KV):au eR m (aw n (fun i=>kA ((au eR n' acc).get i)) ax)=au eR m (aw n acc ax):=j8 xS ..
theorem qv (m n n' : Nat) (acc ax:Nat->KV):au eR m (aw n acc (fun i=>kA ((au eR n' ax).get i)))=au eR m (aw n acc ax):=j9 xS ..
theorem qw (m n' i:Nat) (acc:Nat->KV) (v:KV):au eR m (bN (fun j=>kA ((au eR n' acc).get j)) i v)=au eR m (bN acc i v):=kb xS ..
theorem qx (n n' o m:Nat) (acc ax:Nat->KV):au eR n (az o m (fun j=>kA ((au eR n' acc).get j)) ax)=au eR n (az o m acc ax):=kN xS ..
theorem qy (n n' o m:Nat) (acc ax:Nat->KV):au eR n (az o m acc (fun j=>kA ((au eR n' ax).get j)))=au eR n (az o m acc ax):=kO xS ..
structure nJ where
 t2:Bool
 n:Int
 many:(Sl Int)
 step:Int
 s:aA
instance:Inhabited nJ:=⟨⟨default,default,default,default,default⟩⟩
def Eu (x:nJ):List KV:=[.bool x.t2,.int .i64 x.n,dL 3 (kI .i64) x.many,.int .i64 x.step]
def Ew (x:nJ):List (List KV):=[Bp x.s]
def L6 (vs:List KV) (rs:List (List KV)):nJ:=⟨fh (v9 vs 0),av (v9 vs 1),eX av (v9 vs 2),av (v9 vs 3),Bq (r9 rs 0)⟩
def NW:aJ:=⟨[(2,w9 b9),(3,w9 i9),(4,⟨false,[.arr 3]⟩),(5,w9 i9)],[(1,[n9 139,n9 47,n9 64,n9 79,n9 118,i9,i9],1)],[(1,0,0)]⟩
structure gX where
 t2:Bool
 n:Int
 many:(Sl Int)
 step:Int
 fe:(Sl Int)
 i:Int
 s:aA
instance:Inhabited gX:=⟨by constructor<;>exact default⟩
def BV (x:gX):List KV:=[.bool x.t2,.int .i64 x.n,dL 3 (kI .i64) x.many,.int .i64 x.step,dL 3 (kI .i64) x.fe,.int .i64 x.i]
def BX (x:gX):List (List KV):=[Bp x.s]
def IK (vs:List KV) (rs:List (List KV)):gX:=⟨fh (v9 vs 0),av (v9 vs 1),eX av (v9 vs 2),av (v9 vs 3),eX av (v9 vs 4),av (v9 vs 5),Bq (r9 rs 0)⟩
def J4:aJ:=⟨[(2,w9 b9),(3,w9 i9),(4,⟨false,[.arr 3]⟩),(5,w9 i9),(6,⟨false,[.arr 3]⟩),(7,w9 i9)],[(1,[n9 139,n9 47,n9 64,n9 79,n9 118,i9,i9],1)],[(1,0,0)]⟩
structure fq where
 t2:Bool
 n:Int
 many:(Sl Int)
 step:Int
 fe:(Sl Int)
 i:Int
 k:Int
 s:aA
instance:Inhabited fq:=⟨by constructor<;>exact default⟩
def yb (x:fq):List KV:=[.bool x.t2,.int .i64 x.n,dL 3 (kI .i64) x.many,.int .i64 x.step,dL 3 (kI .i64) x.fe,.int .i64 x.i,.int .i64 x.k]
def yc (x:fq):List (List KV):=[Bp x.s]
def D1 (vs:List KV) (rs:List (List KV)):fq:=⟨fh (v9 vs 0),av (v9 vs 1),eX av (v9 vs 2),av (v9 vs 3),eX av (v9 vs 4),av (v9 vs 5),av (v9 vs 6),Bq (r9 rs 0)⟩
def Fz:aJ:=⟨[(2,w9 b9),(3,w9 i9),(4,⟨false,[.arr 3]⟩),(5,w9 i9),(6,⟨false,[.arr 3]⟩),(7,w9 i9),(8,w9 i9)],[(1,[n9 139,n9 47,n9 64,n9 79,n9 118,i9,i9],1)],[(1,0,0)]⟩
def Ot:=BU [] [] 17 16403018 Fz
def mv (x:fq):aX fq:=(cond (cond (ai x.fe.n x.fe.n) (ai x.many.n x.many.n) false) (.next ⟨x.t2,x.n,x.many,x.step,x.fe,x.i,(aO (x.k+1)),x.s⟩) .fail)
def gP (x:fq):aX fq:=(cond ((decide (0<=x.i))&&(decide (x.i < (x.s.graph.kids.n:Int)))) (cond (decide (x.k < ((x.s.graph.kids.get (Int.toNat x.i)).n:Int))) (cond (decide (x.k < 1000)) (cond ((decide (0<=x.i))&&(decide (x.i < (x.s.graph.kids.n:Int)))) (cond ((decide (0<=x.k))&&(decide (x.k < ((x.s.graph.kids.get (Int.toNat x.i)).n:Int)))) (cond (decide (((x.s.graph.kids.get (Int.toNat x.i)).get (Int.toNat x.k)).slot >= 0)) (cond (decide (((x.s.graph.kids.get (Int.toNat x.i)).get (Int.toNat x.k)).slot < x.n)) (cond ((decide (0<=x.i))&&(decide (x.i < (x.fe.n:Int)))) (cond ((decide (0<=((x.s.graph.kids.get (Int.toNat x.i)).get (Int.toNat x.k)).slot))&&(decide (((x.s.graph.kids.get (Int.toNat x.i)).get (Int.toNat x.k)).slot < (x.many.n:Int)))) (cond ((decide (0<=x.i))&&(decide (x.i < (x.fe.n:Int)))) (cond (cond (ai x.fe.n x.fe.n) (ai x.many.n x.many.n) false) (.next ⟨x.t2,x.n,x.many,x.step,(x.fe.set (0+(Int.toNat x.i)) (min (aO ((x.fe.get (0+(Int.toNat x.i)))+(x.many.get (0+(Int.toNat ((x.s.graph.kids.get (Int.toNat x.i)).get (Int.toNat x.k)).slot))))) 100000)),x.i,(aO (x.k+1)),x.s⟩) .fail) .fail) .fail) .fail)
     (mv x))
    (mv x)) .fail) .fail) (cond (cond (ai x.fe.n x.fe.n) (ai x.many.n x.many.n) false) (.out (aG.ah.exit 4) x) .fail)) (cond (cond (ai x.fe.n x.fe.n) (ai x.many.n x.many.n) false) (.out (aG.ah.exit 4) x) .fail)) .fail)
theorem L7 (x:fq):Ot (yb x) (yc x)=aX.enc yb yc (gP x):=by
 unfold gP mv
 try simp only [aX.cD,ue]
 kernel_rfl
def ug:Lp:=⟨17,16403018,Fz,fun vs rs=>dR yb yc (goN gP (D1 vs rs)) [aG.ah.exit 4],false⟩
theorem yd:ug.Ok PG:=CA ak.nil bm.nil (pa:=D1) L7
def S8:=BU [] [ug] 17 64074 J4
def aY (x:gX):=goN gP ⟨x.t2,x.n,x.many,x.step,(x.fe.set (0+(Int.toNat x.i)) 1),x.i,0,x.s⟩
def hO (x:gX):aX gX:=(cond (decide (x.i < x.n)) (cond ((decide (0<=x.i))&&(decide (x.i < (x.fe.n:Int)))) (cond (cond (ai x.fe.n x.fe.n) (ai x.many.n x.many.n) false) (cond ((aY x).by (aG.ah.exit 4)) (cond ((decide (0<=(aY x).st.i))&&(decide ((aY x).st.i < ((aY x).st.fe.n:Int)))) (cond (decide (((aY x).st.fe.get (0+(Int.toNat (aY x).st.i))) > 10000)) (cond (cond (ai (aY x).st.fe.n (aY x).st.fe.n) (ai (aY x).st.many.n (aY x).st.many.n) false) (.out aG.ah.ret ⟨true,(aY x).st.n,(aY x).st.many,(aY x).st.step,(aY x).st.fe,(aY x).st.i,(aY x).st.s⟩) .fail) (cond (cond (ai (aY x).st.fe.n (aY x).st.fe.n) (ai (aY x).st.many.n (aY x).st.many.n) false) (.next ⟨(aY x).st.t2,(aY x).st.n,(aY x).st.many,(aY x).st.step,(aY x).st.fe,(aO ((aY x).st.i+1)),(aY x).st.s⟩) .fail)) .fail) .fail) .fail) .fail) (cond (cond (ai x.fe.n x.fe.n) (ai x.many.n x.many.n) false) (.out (aG.ah.exit 2) x) .fail))
theorem PD (x:gX):S8 (BV x) (BX x)=aX.enc BV BX (hO x):=by
 unfold hO
 try simp only [aX.cD,aY,ue]
 kernel_rfl
def Dg:Lp:=⟨17,64074,J4,fun vs rs=>dR BV BX (goN hO (IK vs rs)) [aG.ah.exit 2,aG.ah.ret],false⟩
theorem IL:Dg.Ok PG:=CA ak.nil (r7 yd bm.nil) (pa:=IK) PD
def WD:=BU [] [ug,Dg] 17 250 NW
def dn (x:nJ):=goN hO ⟨x.t2,x.n,x.many,x.step,⟨(Int.toNat x.n),(fun i=>0)⟩,0,x.s⟩
def og (x:nJ):aX nJ:=(cond (decide (x.step < 18)) (cond (((decide (0<=x.n))&&(decide (x.n<=x.n)))&&(Nat.ble (8 * (Int.toNat x.n)) 281474976710656)) (cond (cond (ai (Int.toNat x.n) (Int.toNat x.n)) (ai x.many.n x.many.n) false) (cond ((dn x).by (aG.ah.exit 2)) (cond (ai (dn x).st.fe.n (dn x).st.fe.n) (.next ⟨(dn x).st.t2,(dn x).st.n,(dn x).st.fe,(aO ((dn x).st.step+1)),(dn x).st.s⟩) .fail) (cond ((dn x).by aG.ah.ret) (cond (ai (dn x).st.many.n (dn x).st.many.n) (.out aG.ah.ret ⟨(dn x).st.t2,(dn x).st.n,(dn x).st.many,(dn x).st.step,(dn x).st.s⟩) .fail) .fail)) .fail) .fail) (cond (ai x.many.n x.many.n) (.out (aG.ah.exit 0) x) .fail))
theorem S9 (x:nJ):WD (Eu x) (Ew x)=aX.enc Eu Ew (og x):=by
 unfold og
 try simp only [aX.cD]
 kernel_rfl
def NX:Lp:=⟨17,250,NW,fun vs rs=>dR Eu Ew (goN og (L6 vs rs)) [aG.ah.exit 0,aG.ah.ret],false⟩
theorem WG:NX.Ok PG:=CA ak.nil (r7 yd (r7 IL bm.nil)) (pa:=L6) S9
def Fe (s:aA):=goN og ⟨false,(s.graph.kids.n:Int),⟨(Int.toNat (s.graph.kids.n:Int)),(fun i=>0)⟩,0,s⟩
def Cq (s:aA):Option (Bool):=(cond (decide ((s.graph.kids.n:Int) > 300)) (some (true)) (cond ((decide ((s.graph.kids.n:Int)<=(s.graph.kids.n:Int)))&&(Nat.ble (8 * (Int.toNat (s.graph.kids.n:Int))) 281474976710656)) (cond (ai (Int.toNat (s.graph.kids.n:Int)) (Int.toNat (s.graph.kids.n:Int))) (cond ((Fe s).by (aG.ah.exit 0)) (some (false)) (cond ((Fe s).by aG.ah.ret) (some ((Fe s).st.t2)) none)) none) none))
theorem acp (s:aA):rE [] [ug,Dg,NX] 17 [kA s] = (Cq s).map kB:=by
 unfold Cq
 try simp only [b6]
 kernel_rfl
def J5:List KV->KR KV:=bR PG 17 (b8 kB fun vs=>Cq (eR (v9 vs 0)))
theorem IM:bQ PG 17 J5:=dU ak.nil (r7 yd (r7 IL (r7 WG bm.nil))) fun w=>acp (eR (g0 34 (w 0)))
structure oh where
 t2:Bool
 n:Int
 i:Int
 g:fA
instance:Inhabited oh:=⟨⟨default,default,default,default⟩⟩
def Dh (x:oh):List KV:=[.bool x.t2,.int .i64 x.n,.int .i64 x.i]
def Di (x:oh):List (List KV):=[ajN x.g]
def J6 (vs:List KV) (rs:List (List KV)):oh:=⟨fh (v9 vs 0),av (v9 vs 1),av (v9 vs 2),ajO (r9 rs 0)⟩
def L8:aJ:=⟨[(2,w9 b9),(3,w9 i9),(4,w9 i9)],[(1,[n9 139,n9 47],1)],[(1,0,0)]⟩
def UU:=BU [] [] 18 122 L8
def mC (x:oh):aX oh:=(cond (decide (x.i < (x.g.kids.n:Int))) (cond ((decide (0<=x.i))&&(decide (x.i < (x.g.kids.n:Int)))) (cond (decide ((aO (x.n+((x.g.kids.get (Int.toNat x.i)).n:Int))) > 400)) (.out aG.ah.ret ⟨true,(aO (x.n+((x.g.kids.get (Int.toNat x.i)).n:Int))),x.i,x.g⟩) (.next ⟨x.t2,(aO (x.n+((x.g.kids.get (Int.toNat x.i)).n:Int))),(aO (x.i+1)),x.g⟩)) .fail) (.out (aG.ah.exit 0) x))
theorem Q3 (x:oh):UU (Dh x) (Di x)=aX.enc Dh Di (mC x):=by
 unfold mC
 try simp only [aX.cD]
 kernel_rfl
def L9:Lp:=⟨18,122,L8,fun vs rs=>dR Dh Di (goN mC (J6 vs rs)) [aG.ah.exit 0,aG.ah.ret],false⟩
theorem UW:L9.Ok PG:=CA ak.nil bm.nil (pa:=J6) Q3
def Dj (g:fA):=goN mC ⟨false,0,0,g⟩
def uh (g:fA):Option (Bool):=(cond (decide ((g.cB.cM.n:Int) > 200)) (some (true)) (cond (decide ((g.kids.n:Int) > 200)) (some (true)) (cond ((Dj g).by (aG.ah.exit 0)) (some (false)) (cond ((Dj g).by aG.ah.ret) (some ((Dj g).st.t2)) none))))
theorem abe (g:fA):rE [] [L9] 18 [rW g] = (uh g).map kB:=by
 unfold uh
 try simp only [b6]
 kernel_rfl
def Hn:List KV->KR KV:=bR PG 18 (b8 kB fun vs=>uh (jH (v9 vs 0)))
theorem Gd:bQ PG 18 Hn:=dU ak.nil (r7 UW bm.nil) fun w=>abe (jH (g0 27 (w 0)))
structure qz where
 l:(Sl gN)
 t2:Bool
 n:Int
 i:Int
instance:Inhabited qz:=⟨⟨default,default,default,default⟩⟩
def Ex (x:qz):List KV:=[dL 118 jB x.l,.bool x.t2,.int .i64 x.n,.int .i64 x.i]
def Ey (x:qz):List (List KV):=[]
def Ma (vs:List KV) (rs:List (List KV)):qz:=⟨eX eQ (v9 vs 0),fh (v9 vs 1),av (v9 vs 2),av (v9 vs 3)⟩
def NY:aJ:=⟨[(0,w9 (n9 118)),(2,w9 b9),(3,w9 i9),(4,w9 i9)],[],[]⟩
def WH:=BU [] [] 19 58 NY
def om (x:qz):aX qz:=(cond (decide (x.i < (x.l.n:Int))) (cond (decide (x.i < 100)) (cond ((decide (0<=x.i))&&(decide (x.i < (x.l.n:Int)))) (.next ⟨x.l,x.t2,(aO (x.n+(min ((x.l.get (Int.toNat x.i)).UT.n:Int) 100000))),(aO (x.i+1))⟩) .fail) (.out (aG.ah.exit 0) x)) (.out (aG.ah.exit 0) x))
theorem Ta (x:qz):WH (Ex x) (Ey x)=aX.enc Ex Ey (om x):=by
 unfold om
 try simp only [aX.cD]
 kernel_rfl
def NZ:Lp:=⟨19,58,NY,fun vs rs=>dR Ex Ey (goN om (Ma vs rs)) [aG.ah.exit 0],false⟩
theorem WI:NZ.Ok PG:=CA ak.nil bm.nil (pa:=Ma) Ta
def Dk (l:(Sl gN)):=goN om ⟨l,false,0,0⟩
def ui (l:(Sl gN)):Option (Bool):=(cond ((Dk l).by (aG.ah.exit 0)) (cond (decide (((Dk l).st.l.n:Int) > 40)) (some (true)) (some ((decide ((Dk l).st.n > 20000))))) none)
theorem abf (l:(Sl gN)):rE [] [NZ] 19 [(dL 118 jB) l] = (ui l).map kB:=by
 unfold ui
 try simp only [b6]
 kernel_rfl
def Ho:List KV->KR KV:=bR PG 19 (b8 kB fun vs=>ui ((eX eQ) (v9 vs 0)))
theorem Ge:bQ PG 19 Ho:=dU ak.nil (r7 WI bm.nil) fun w=>abf ((eX eQ) (g0 30 (w 0)))
structure nK where
 t2:Bool
 i:Int
 m:gW
instance:Inhabited nK:=⟨⟨default,default,default⟩⟩
def Ez (x:nK):List KV:=[.bool x.t2,.int .i64 x.i]
def EA (x:nK):List (List KV):=[abc x.m]
def Mb (vs:List KV) (rs:List (List KV)):nK:=⟨fh (v9 vs 0),av (v9 vs 1),abd (r9 rs 0)⟩
def N1:aJ:=⟨[(2,w9 b9),(3,w9 i9)],[(1,[n9 36,n9 125,n9 120],1)],[(1,0,0)]⟩
def WJ:=BU [] [] 20 58 N1
def iw (x:nK):aX nK:=(cond (decide (x.i < (x.m.fY.n:Int))) (cond ((decide (0<=x.i))&&(decide (x.i < (x.m.fY.n:Int)))) (cond (decide (((x.m.fY.get (Int.toNat x.i)).index.n:Int) > 1000)) (.out aG.ah.ret ⟨true,x.i,x.m⟩) (.next ⟨x.t2,(aO (x.i+1)),x.m⟩)) .fail) (.out (aG.ah.exit 0) x))
theorem Tb (x:nK):WJ (Ez x) (EA x)=aX.enc Ez EA (iw x):=by
 unfold iw
 try simp only [aX.cD]
 kernel_rfl
def N3:Lp:=⟨20,58,N1,fun vs rs=>dR Ez EA (goN iw (Mb vs rs)) [aG.ah.exit 0,aG.ah.ret],false⟩
theorem WK:N3.Ok PG:=CA ak.nil bm.nil (pa:=Mb) Tb
def Dl (m:gW):=goN iw ⟨false,0,m⟩
def wQ (m:gW):Option (Bool):=(cond (decide ((m.aC.n:Int) > 1000)) (some (true)) (cond (decide ((m.uV.n:Int) > 1000)) (some (true)) (cond (decide ((m.fY.n:Int) > 100)) (some (true)) (cond ((Dl m).by (aG.ah.exit 0)) (some (false)) (cond ((Dl m).by aG.ah.ret) (some ((Dl m).st.t2)) none)))))
theorem abg (m:gW):rE [] [N3] 20 [uH m] = (wQ m).map kB:=by
 unfold wQ
 try simp only [b6]
 kernel_rfl
def Hp:List KV->KR KV:=bR PG 20 (b8 kB fun vs=>wQ (kQ (v9 vs 0)))
theorem Gf:bQ PG 20 Hp:=dU ak.nil (r7 WK bm.nil) fun w=>abg (kQ (g0 79 (w 0)))
structure lN where
 t2:Bool
 i:Int
 s:aA
instance:Inhabited lN:=⟨⟨default,default,default⟩⟩
def Dm (x:lN):List KV:=[.bool x.t2,.int .i64 x.i]
def Dn (x:lN):List (List KV):=[Bp x.s]
def J7 (vs:List KV) (rs:List (List KV)):lN:=⟨fh (v9 vs 0),av (v9 vs 1),Bq (r9 rs 0)⟩
def Mc:aJ:=⟨[(2,w9 b9),(3,w9 i9)],[(1,[n9 139,n9 47,n9 64,n9 79,n9 118,i9,i9],1)],[(1,0,0)]⟩
def UX:=BU [(20,Hp),(19,Ho),(18,Hn),(17,J5)] [] 7 122 Mc
def gD (x:lN):aX lN:=(cond (decide (x.i < (x.s.nodes.n:Int))) (cond ((decide (0<=x.i))&&(decide (x.i < (x.s.nodes.n:Int)))) (cond (decide (((x.s.nodes.get (Int.toNat x.i)).eI.n:Int) > 200)) (.out aG.ah.ret ⟨true,x.i,x.s⟩) (.next ⟨x.t2,(aO (x.i+1)),x.s⟩)) .fail) (.out (aG.ah.exit 0) x))
theorem Q4 (x:lN):UX (Dm x) (Dn x)=aX.enc Dm Dn (gD x):=by
 unfold gD
 try simp only [aX.cD]
 kernel_rfl
def EB:Lp:=⟨7,122,Mc,fun vs rs=>dR Dm Dn (goN gD (J7 vs rs)) [aG.ah.exit 0,aG.ah.ret],false⟩
theorem J8:EB.Ok PG:=CA (ak.cons Gf (ak.cons Ge (ak.cons Gd (ak.cons IM ak.nil)))) bm.nil (pa:=J7) Q4
structure j4 where
 t2:Bool
 i:Int
 s:aA
instance:Inhabited j4:=⟨⟨default,default,default⟩⟩
def Dp (x:j4):List KV:=[.bool x.t2,.int .i64 x.i]
def Dq (x:j4):List (List KV):=[Bp x.s]
def J9 (vs:List KV) (rs:List (List KV)):j4:=⟨fh (v9 vs 0),av (v9 vs 1),Bq (r9 rs 0)⟩
def Md:aJ:=⟨[(2,w9 b9),(4,w9 i9)],[(1,[n9 139,n9 47,n9 64,n9 79,n9 118,i9,i9],1)],[(1,0,0)]⟩
def UY:=BU [(20,Hp),(19,Ho),(18,Hn),(17,J5)] [EB] 7 250 Md
def BZ (x:j4):=wQ (x.s.fj.get (Int.toNat x.i))
def gE (x:j4):aX j4:=(cond (decide (x.i < (x.s.fj.n:Int))) (cond ((decide (0<=x.i))&&(decide (x.i < (x.s.fj.n:Int)))) (cond (BZ x).isSome (cond ((BZ x).getD default) (.out aG.ah.ret ⟨true,x.i,x.s⟩) (.next ⟨x.t2,(aO (x.i+1)),x.s⟩)) .fail) .fail) (.out (aG.ah.exit 2) x))
theorem Q5 (x:j4):UY (Dp x) (Dq x)=aX.enc Dp Dq (gE x):=by
 unfold gE
 try simp only [aX.cD]
 kernel_rfl
def Mf:Lp:=⟨7,250,Md,fun vs rs=>dR Dp Dq (goN gE (J9 vs rs)) [aG.ah.exit 2,aG.ah.ret],false⟩
theorem UZ:Mf.Ok PG:=CA (ak.cons Gf (ak.cons Ge (ak.cons Gd (ak.cons IM ak.nil)))) (r7 J8 bm.nil) (pa:=J9) Q5
def IP (s:aA):=Cq s
def IQ (s:aA):=uh s.graph
def IU (s:aA):=ui s.j3
def vR (s:aA):=goN gD ⟨false,0,s⟩
def Dr (s:aA):=goN gE ⟨(vR s).st.t2,0,(vR s).st.s⟩
def zt (s:aA):Option (Bool):=(cond (IP s).isSome (cond ((IP s).getD default) (some (true)) (cond (IQ s).isSome (cond ((IQ s).getD default) (some (true)) (cond (decide ((s.nodes.n:Int) > 200)) (some (true)) (cond (decide ((s.fj.n:Int) > 60)) (some (true)) (cond (decide ((s.j3.n:Int) > 60)) (some (true)) (cond (IU s).isSome (cond ((IU s).getD default) (some (true)) (cond ((vR s).by (aG.ah.exit 0)) (cond ((Dr s).by (aG.ah.exit 2)) (some (false)) (cond ((Dr s).by aG.ah.ret) (some ((Dr s).st.t2)) none)) (cond ((vR s).by aG.ah.ret) (some ((vR s).st.t2)) none))) none))))) none)) none)
theorem abh (s:aA):rE [(20,Hp),(19,Ho),(18,Hn),(17,J5)] [EB,Mf] 7 [kA s] = (zt s).map kB:=by
 unfold zt
 try simp only [b6]
 kernel_rfl
def Hq:List KV->KR KV:=bR PG 7 (b8 kB fun vs=>zt (eR (v9 vs 0)))
theorem Gg:bQ PG 7 Hq:=dU (ak.cons Gf (ak.cons Ge (ak.cons Gd (ak.cons IM ak.nil)))) (r7 J8 (r7 UZ bm.nil)) fun w=>abh (eR (g0 34 (w 0)))
end
end Go.Proofs.Ytckbdndhmcoihaa.b
end
section
namespace Go.K
open Go Go.aG
variable {P:Program} {E:Env}
theorem VC.ajT {ρ:Ren} {cs:List KV} {u:Value} (h:VC P E ρ (.agg cs) u):∃ l,u = .agg ⟨l⟩/\rK P E ρ cs l:=by
 obtain ⟨u',h1,h2⟩:=h;obtain ⟨l,rfl,q⟩:=h1.kJ;obtain ⟨l',e,h3⟩:=h2.kJ;exact ⟨l'.toList,e,l,q,h3⟩
theorem HK {A:ae} {B:St} {ρ:Ren} {base:Nat} {w:World} (hj:KJ P E A B ρ base w) {T:TypeId} {m:Mk} {n:Nat} {es:List KV} {acc:Nat->KV} {u:Value} (h:VC P E ρ (.ts T m n es acc) u) :
  ∃ a c,u = .slice a n c/\∀ i,i < n->∃ b off,a=some ⟨b,off,none⟩/\b < w.heap.size/\∀ k c',(acc i).cells[k]? = some c'->∃ z,w.cell? ⟨b,off+i * aU P T+k,none⟩=some z/\VC P E ρ c' z:=by
 obtain ⟨u',hk,hr⟩:=h;obtain ⟨ht,bh,SC,a,cap,rfl,aiY,M4,_⟩:=hk.kW;cases a with
 | none=>
  have:=hr.fV;subst this;refine ⟨none,cap,rfl,fun i hi=>?_⟩;rcases M4 with ⟨_,h0⟩ | ⟨b,off,r,e,_⟩
  ·omega
  ·simp at e
 | some a=>
  obtain ⟨FW,G4,lc,a',c',hl,vq,KB,mI,rfl⟩:=hr.lC;refine ⟨some a',c',rfl,fun i hi=>?_⟩;rcases M4 with ⟨e,_⟩ | ⟨b,off,r,e,hz,dS,ap2⟩
  ·simp at e
  ·simp only [bM] at e
   subst e;have fp:=hj.k.z b r hz;obtain ⟨l,uY,ok⟩:=hj.s.rel.row _ _ _ _ _ fp;rw [hl] at uY;have:=GX uY;subst this;have Vz:i < es.length:=by have:=ht.len; omega
   refine ⟨lc.cb,lc.dv+off,by rw [KB (by omega)],ok.lG,fun k c1 hc1=>?_⟩;have hg:es[i]? = some (acc i):=by
    rw [ht.acc i (by omega),fC,cI Vz];rfl
   obtain ⟨y,hy,hvy⟩:=SC.get hg;have hkn:=(gf (gC ht.typed hg)).2;obtain ⟨hys,hyc⟩:=ap2 i y hy;obtain ⟨z,Ky,Cz⟩:=(hvy.cells hkn).get hc1;have:=hyc k z (by simpa using Ky);obtain ⟨z',q1,q2,_⟩:=ok.cells _ z this;exact ⟨z',by rw [show lc.dv+off+i * aU P T+k=lc.dv+(off+i * aU P T+k) by omega]; exact q1,z,Cz,q2⟩
end Go.K
end
section
namespace Go.K
open Go Go.aG
variable {P:Program} {E:Env}
def Trie.agB {α β:Type} (f:α->β):Trie α->Trie β
 | .leaf=>.leaf
 | .node v l r=>.node (v.map f) (Trie.agB f l) (Trie.agB f r)
theorem Trie.WL {α β:Type} (f:α->β):∀ (t:Trie α) (n:Nat),(Trie.agB f t).get n=(t.get n).map f
 | .leaf,n=>rfl
 | .node v l r,n=>by
  rw [Trie.get_eq,Trie.get_eq];cases n with
  | zero=>rfl
  | succ m=>
   have hl:=Trie.WL f l (Nat.div m 2);have hr:=Trie.WL f r (Nat.div m 2);rw [Trie.get_eq,Trie.get_eq] at hl hr;simp only [Trie.agB,Trie.CG];cases Nat.beq (Nat.mod m 2) 0 with
   | true=>exact hl
   | false=>exact hr
def ct.still:ct->ct
 | .row cs bp _ _=>.row cs bp false none
 | _=>.dead
def St.still (B:St):St:=⟨Trie.agB ct.still B.heap,B.next,0,.leaf⟩
theorem St.abi (B:St) (b:Nat):(St.still B).get b=(B.get b).map ct.still:=Trie.WL _ _ _
theorem St.aie (B:St) (g:Nat):(St.still B).members g = []:=rfl
def Env.still (E:Env):Env:={ κ:=fun _=>Option.none,z:=fun b=>(E.z b).map fun r=>{ r with own:=false,bK:=Option.none },φ:=fun _=>Option.none,α:=fun _=>Option.none }
theorem Env.akN (E:Env):Yx E E.still:=fun b r e=>⟨{ r with own:=false,bK:=Option.none },by simp [Env.still,e],rfl,rfl⟩
theorem St.Td {B:St} {b:Nat} {o:ct} (h:(St.still B).get b=some o) (hd:o≠.dead):∃ cs bp own bK,B.get b=some (.row cs bp own bK)/\o = .row cs bp false none:=by
 rw [St.abi] at h;cases hb:B.get b with
 | none=>rw [hb] at h; simp at h
 | some x=>
  rw [hb] at h;have h:some (ct.still x)=some o:=h;have h:=GX h;cases x <;> first
   | exact ⟨_,_,_,_,rfl,h.symm⟩
   | exact absurd h.symm hd
theorem St.X8 {B:St} {b:Nat} {o:ct} (h:(St.still B).get b=some o):o.eF=false:=by
 by_cases hd:o = .dead
 ·subst hd; rfl
 ·obtain ⟨_,_,_,_,_,rfl⟩:=St.Td h hd
  rfl
theorem St.aif {B:St} {b:Nat} {o:ct} (h:(St.still B).get b=some o):o.lF=none:=by
 by_cases hd:o = .dead
 ·subst hd; rfl
 ·obtain ⟨_,_,_,_,_,rfl⟩:=St.Td h hd
  rfl
theorem vm.still {ρ:Ren} {B:St} {base:Nat} {w:World} (h:vm ρ B base w):vm ρ (St.still B) w.heap.size w:=by
 refine ⟨.EW (fun b o hg hd=>?_) (fun b1 b2 o1 o2 l1 l2 _ h1 _ hm=>?_) (fun b o aP f hg hk=>?_),h.jI,aB _,h.HX⟩
 ·obtain ⟨cs,bp,own,bK,e,rfl⟩:=St.Td hg hd
  obtain ⟨l,e2,ok⟩:=h.rel.row _ _ _ _ _ e;refine ⟨l,e2,?_⟩;exact ⟨ok.cells,fun _=>ok.lG,fun e=>by simp at e,fun e=>by simp at e,ok.fits,fun e=>by simp at e,ok.bp,ok.lG,fun e=>by simp at e⟩
 ·rw [St.X8 h1] at hm; simp at hm
 ·rw [St.aif hg] at hk; simp at hk
theorem dr.still {A:ae} {B:St} (h:dr P E A B):dr P E.still .empty (St.still B) where
 row b cs bp hb:=by simp [ae.empty,ae.get] at hb
 aP b top sz hb:=by simp [ae.empty,ae.get] at hb
 z b r e:=by
  simp only [Env.still,ck] at e;obtain ⟨r0,e,rfl⟩:=e;rw [St.abi,h.z b r0 e];rfl
 apart b x e:=by simp [Env.still] at e
 inj b c x e:=by simp [Env.still] at e
 gz b c g _ _ _ _ _ _ e:=by simp [Env.still] at e
 jI b x e:=by simp [Env.still] at e
 kK b g e:=by simp [Env.still] at e
 live b o hb:=by simp [ae.empty,ae.get] at hb
 eV b x e:=by simp [Env.still] at e
 lB b r e:=by
  simp only [Env.still,ck] at e;obtain ⟨r0,e,rfl⟩:=e;exact h.lB b r0 e
 ik b g e:=by simp [Env.still] at e
 fresh g _:=rfl
 mem g x hx:=by rw [St.aie] at hx; simp at hx
 ar:=by
  have hn:∀ b v,¬ ae.empty.get b=some (.arr v):=fun b v hb=>by simp [ae.empty,ae.get] at hb
  exact ⟨fun b v hb=>(hn b v hb).elim,fun b v hb=>by simp [ae.empty,ae.get] at hb,fun x ⟨b,v,_,_,hb,_⟩=>(hn b v hb).elim,fun b c v u x L N L' N' hb=>(hn b v hb).elim,fun b c v u x y L N L' N' cs e own g k bL e' rm k' hb=>(hn b v hb).elim,fun b x e=>by simp [Env.still] at e,fun b p e=>by simp [Env.still] at e,fun b x L N e=>by simp [Env.still] at e,fun b v x L N cs e own g k hb=>(hn b v hb).elim,fun b v hb=>(hn b v hb).elim⟩
theorem X9 {A:ae} {B:St} {ρ:Ren} {base:Nat} {w W:World} (hj:KJ P E A B ρ base w) (hw:RowKit.Below w.heap.size w W) {g:FuncId} {F:List KV->KR KV} (hpu:bQ P g F) {args:List KV} {v:KV} {dZ:List Value}
  (hF:aH (F (normArgs P (bT P g) (normArgs P (bT P g) args))) v) (hlen:args.length=(bT P g).length) (hv:rK P E ρ args dZ) :
  Calls P g dZ.toArray W fun e W'=>∃ v' E' aF,e = .returned v'/\VC P E' aF v v'/\RowKit.Below W.heap.size W W':=by
 have hs:=vm.still (iU.below hj.s hw).fT;obtain ⟨m,h1,h2⟩:=hv;have CO:rK P E.still ρ (normArgs P (bT P g) args) dZ:=⟨m,aV.Nf (Env.akN E) h1 hlen,h2⟩
 obtain ⟨_,lA⟩:=hpu _ v hF (LW hlen);refine (lA E.still .empty (St.still B) ρ W.heap.size W dZ CO ⟨hj.k.still,hs⟩).mono ?_;rintro e W' ⟨v',E',B',aF,rfl,q1,q2⟩;refine ⟨v',E',aF,rfl,q1,?_⟩;have k:=q2.eH.kept;refine ⟨k.os,k.tape,k.output,k.size,fun j hj=>k.block j hj ?_⟩;rintro ⟨b,o,l,ho,hm,_⟩;rw [St.X8 ho] at hm;simp at hm
theorem U0 {g:FuncId} {R:Type} [Inhabited R] {k:R->KV} {r:List KV->Option R} {aqL:List KV} {x:R} (ha:lV P (bT P g) aqL=true) (hr:r aqL=some x):aH (bR P g (b8 k r) aqL) (k x):=by
 unfold bR b8;rw [ha,hr];exact ⟨rfl,rfl⟩
theorem VC.cj {ρ:Ren} {k:IntKind} {n:Int} {v:Value} (h:VC P E ρ (.int k n) v):v = .int k n:=by
 obtain ⟨u,h1,h2⟩:=h;have h1:u = .int k n:=by simpa [VK] using h1
 subst h1;exact h2.cj
theorem rK.xH {ρ:Ren} {c:KV} {cs:List KV} {l:List Value} (h:rK P E ρ (c::cs) l):∃ x xs,l=x::xs/\VC P E ρ c x/\rK P E ρ cs xs:=by
 obtain ⟨m,h1,h2⟩:=h;obtain ⟨y,ys,rfl,h3,h4⟩:=h1.cons_inv;obtain ⟨z,zs,rfl,h5,h6⟩:=h2.cons_inv;exact ⟨z,zs,rfl,⟨y,h3,h5⟩,⟨ys,h4,h6⟩⟩
theorem rK.U1 {ρ:Ren} {l:List Value} (h:rK P E ρ [] l):l = []:=by
 obtain ⟨m,h1,h2⟩:=h;rw [h1.b5] at h2;exact h2.b5
theorem rK.FB {ρ:Ren} {c:KV} {cs:List KV} {x:Value} {xs:List Value} (h:VC P E ρ c x) (h' : rK P E ρ cs xs):rK P E ρ (c::cs) (x::xs):=by
 obtain ⟨y,h1,h2⟩:=h;obtain ⟨ys,h3,h4⟩:=h';exact ⟨y::ys,.cons h1 h3,.cons h2 h4⟩
theorem rK.Zf {ρ:Ren} : rK P E ρ [] []:=⟨[],.nil,.nil⟩
theorem VC.ajU {ρ:Ren} {cs:List KV} {xs:List Value} (h:rK P E ρ cs xs):VC P E ρ (.agg cs) (.agg ⟨xs⟩):=by
 obtain ⟨ys,h3,h4⟩:=h;exact ⟨.agg ⟨ys⟩,by simp only [VK]; exact ⟨ys,rfl,h3⟩,by simp only [VR]; exact ⟨⟨xs⟩,by simpa [uX] using h4,rfl⟩⟩
end Go.K
end
section
set_option maxRecDepth 20000
namespace Go.Proofs.Ytckbdndhmcoihaa.nodes
open Go Go.RowKit Go.Lib Go.Shelf Go.K
abbrev hp (h:b.Handle):Int×Int:=(h.slot,h.gen)
structure abj (q:G) (B:Nat) (W:World):Prop where
 kids:∀ i,i < q.kn->∃ b off,q.ka=some ⟨b,off,none⟩/\b < B/\W.cell? ⟨b,off+i,none⟩=some (.slice (q.ia i) (q.im i) (q.ic i))
 row:∀ i,i < q.kn->∀ k,k < q.im i->∃ b off,q.ia i=some ⟨b,off,none⟩/\b < B/\W.cell? ⟨b,off+k * 2,none⟩=some (.int .i64 (q.dW i k).1)/\W.cell? ⟨b,off+k * 2+1,none⟩=some (.int .i64 (q.dW i k).2)
theorem abj.with {q:G} {B:Nat} {W:World} (h:abj q B W) (hs:∀ i,i < q.kn->q.im i<=1000000):GAt q B W:=⟨h.kids,hs,h.row⟩
theorem abj.dP {q:G} {B mb:Nat} {W W' : World} (h:abj q B W) (k:Kp mb W W') (hB:B<=W.heap.size) (hm:B<=mb):abj q B W':=by
 refine ⟨fun i hi=>?_,fun i hi j hj=>?_⟩
 ·obtain ⟨b,off,h1,h2,h3⟩:=h.kids i hi
  exact ⟨b,off,h1,h2,by rw [k.cell (by omega) (by omega)]; exact h3⟩
 ·obtain ⟨b,off,h1,h2,h3,h4⟩:=h.row i hi j hj
  exact ⟨b,off,h1,h2,by rw [k.cell (by omega) (by omega)]; exact h3,by rw [k.cell (by omega) (by omega)]; exact h4⟩
structure Of (q:G) (g:b.fA) (B:Nat) (W:World):Prop where
 sn:q.sn=g.cB.cM.n
 kn:q.kn=g.kids.n
 im:∀ i,q.im i=(g.kids.get i).n
 dW:∀ i k,q.dW i k=hp ((g.kids.get i).get k)
 slot:∀ i,i < q.sn->∃ b off,q.sa=some ⟨b,off,none⟩/\b < B/\W.cell? ⟨b,off+i * 2,none⟩=some (.int .i64 (g.cB.cM.get i).gen)/\W.cell? ⟨b,off+i * 2+1,none⟩=some (.bool (g.cB.cM.get i).live)
theorem Of.dP {q:G} {g:b.fA} {B mb:Nat} {W W' : World} (h:Of q g B W) (k:Kp mb W W') (hB:B<=W.heap.size) (hm:B<=mb):Of q g B W':=by
 refine ⟨h.sn,h.kn,h.im,h.dW,fun i hi=>?_⟩;obtain ⟨b,off,h1,h2,h3,h4⟩:=h.slot i hi;exact ⟨b,off,h1,h2,by rw [k.cell (by omega) (by omega)]; exact h3,by rw [k.cell (by omega) (by omega)]; exact h4⟩
theorem ap4:aU Try.prog 47=1:=by kernel_rfl
theorem amG:aU Try.prog 32=2:=by kernel_rfl
theorem ao5:aU Try.prog 139=2:=by kernel_rfl
theorem akO {E:Env} {A:ae} {B:aG.St} {ρ:aG.Ren} {base:Nat} {w:World} {g:b.fA} {u:Value} (hj:KJ Try.prog E A B ρ base w) (h:VC Try.prog E ρ (b.rW g) u) :
  ∃ q:G,u=gv q/\abj q w.heap.size w/\Of q g w.heap.size w/\VC Try.prog E ρ (b.jn g.cB) (.agg #[.slice q.sa q.sn q.sc]):=by
 obtain ⟨l,rfl,hl⟩:=h.ajT;obtain ⟨x,xs,rfl,h1,kT⟩:=hl.xH;obtain ⟨y,ys,rfl,h2,hl3⟩:=kT.xH;obtain rfl:=hl3.U1;obtain ⟨sa,sc,rfl,H1⟩:=HK hj h1;obtain ⟨ka,kc,rfl,H2⟩:=HK hj h2;have H3:∀ i,∃ p:Option Addr×Nat,i < g.kids.n->(∃ b off,ka=some ⟨b,off,none⟩/\b < w.heap.size/\w.cell? ⟨b,off+i,none⟩=some (.slice p.1 (g.kids.get i).n p.2))/\
   ∀ k,k < (g.kids.get i).n->∃ b off,p.1=some ⟨b,off,none⟩/\b < w.heap.size/\w.cell? ⟨b,off+k * 2,none⟩=some (.int .i64 ((g.kids.get i).get k).slot)/\w.cell? ⟨b,off+k * 2+1,none⟩=some (.int .i64 ((g.kids.get i).get k).gen):=by
  intro i;by_cases hi:i < g.kids.n
  ·obtain ⟨bb,off,e1,e2,e3⟩:=H2 i hi
   obtain ⟨z,z1,z2⟩:=e3 0 (dL 32 b.gM (g.kids.get i)) rfl;obtain ⟨a,c,rfl,H⟩:=HK hj z2;rw [ap4] at z1;refine ⟨(a,c),fun _=>⟨⟨bb,off,e1,e2,by rw [show off+i=off+i * 1+0 by omega]; exact z1⟩,fun k hk=>?_⟩⟩;obtain ⟨bc,amH,r1,r2,r3⟩:=H k hk;obtain ⟨z,s1,s2⟩:=r3 0 (.int .i64 ((g.kids.get i).get k).slot) rfl;obtain ⟨z',t1,t2⟩:=r3 1 (.int .i64 ((g.kids.get i).get k).gen) rfl;rw [amG] at s1 t1;rw [s2.cj] at s1;rw [t2.cj] at t1;exact ⟨bc,amH,r1,r2,s1,t1⟩
  ·exact ⟨(none,0),fun h=>absurd h hi⟩
 obtain ⟨f,hf⟩:=Classical.axiomOfChoice H3;refine ⟨⟨sa,g.cB.cM.n,sc,ka,g.kids.n,kc,fun i=>(f i).1,fun i=>(g.kids.get i).n,fun i=>(f i).2,fun i k=>hp ((g.kids.get i).get k)⟩,rfl,⟨fun i hi=>(hf i hi).1,fun i hi k hk=>(hf i hi).2 k hk⟩,⟨rfl,rfl,fun _=>rfl,fun _ _=>rfl,fun i hi=>?_⟩,.ajU (.FB h1 .Zf)⟩;obtain ⟨bb,off,e1,e2,e3⟩:=H1 i hi;obtain ⟨z,s1,s2⟩:=e3 0 (.int .i64 (g.cB.cM.get i).gen) rfl;obtain ⟨z',t1,t2⟩:=e3 1 (.bool (g.cB.cM.get i).live) rfl;rw [ao5] at s1 t1;rw [s2.cj] at s1;rw [t2.eK] at t1;exact ⟨bb,off,e1,e2,s1,t1⟩
theorem agC {E:Env} {A:ae} {B:aG.St} {ρ:aG.Ren} {base:Nat} {w W:World} (hj:KJ Try.prog E A B ρ base w) (hw:Below w.heap.size w W) {a:b.jW} {x:Value} (hx:VC Try.prog E ρ (b.jn a) x) {n:Int} (hn:b.dV a=some n) :
  Calls Try.prog 70 #[x] W fun e W'=>e = .returned (.int .i64 n)/\Below W.heap.size W W':=by
 have ep:bT Try.prog 70 = [24]:=by kernel_rfl
 have en:normArgs Try.prog (bT Try.prog 70) (normArgs Try.prog (bT Try.prog 70) [b.jn a]) = [b.jn a]:=by rw [ep]; kernel_rfl
 refine (X9 hj hw b.J3 (args:=[b.jn a]) (v:=kI .i64 n) (by rw [en]; exact U0 (by rw [ep]; kernel_rfl) hn) (by rw [ep]; rfl) (.FB hx .Zf)).mono ?_;rintro e W' ⟨v',E',aF,rfl,q1,q2⟩;exact ⟨by rw [q1.cj],q2⟩
theorem agD {E:Env} {A:ae} {B:aG.St} {ρ:aG.Ren} {base:Nat} {w W:World} (hj:KJ Try.prog E A B ρ base w) (hw:Below w.heap.size w W) {a:b.jW} {x:Value} (hx:VC Try.prog E ρ (b.jn a) x) {h:Int×Int} {r:Bool} (hn:b.dy a ⟨h.1,h.2⟩=some r) :
  Calls Try.prog 49 #[x,hv h] W fun e W'=>e = .returned (.bool r)/\Below W.heap.size W W':=by
 have ep:bT Try.prog 49 = [24,32]:=by kernel_rfl
 have en:normArgs Try.prog (bT Try.prog 49) (normArgs Try.prog (bT Try.prog 49) [b.jn a,b.gM ⟨h.1,h.2⟩]) = [b.jn a,b.gM ⟨h.1,h.2⟩]:=by rw [ep]; kernel_rfl
 have hh:VC Try.prog E ρ (b.gM ⟨h.1,h.2⟩) (hv h):=.ajU (.FB ⟨_,.mkInt,by simp [aG.VR]⟩ (.FB ⟨_,.mkInt,by simp [aG.VR]⟩ .Zf));refine (X9 hj hw b.uf (args:=[b.jn a,b.gM ⟨h.1,h.2⟩]) (v:=kB r) (by rw [en]; exact U0 (by rw [ep]; kernel_rfl) hn) (by rw [ep]; rfl) (.FB hx (.FB hh .Zf))).mono ?_;rintro e W' ⟨v',E',aF,rfl,q1,q2⟩;exact ⟨by rw [q1.eK],q2⟩
set_option maxHeartbeats 4000000 in
theorem rH {E:Env} {A:ae} {B:aG.St} {ρ:aG.Ren} {base:Nat} {w W:World} (hj:KJ Try.prog E A B ρ base w) (hw:Below w.heap.size w W) {a:b.jW} {q:G} (hx:VC Try.prog E ρ (b.jn a) (.agg #[.slice q.sa q.sn q.sc])) (h:Int×Int) {r:Bool} (hn:b.dy a ⟨h.1,h.2⟩=some r)
  {bg:Nat} (hbg:bg < W.heap.size) (c0:W.cell? ⟨bg,0,none⟩=some (.slice q.sa q.sn q.sc)) :
  Calls Try.prog 71 #[hv h,.pointer (some ⟨bg,0,none⟩)] W fun e W'=>e = .returned (.bool (!r))/\Below W.heap.size W W':=by
 have mixed:=Bn;have t32:=Try.underlying32; have a32:=Try.isAgg32; have z32:=Try.sizeOf32; have v32:=Try.zeroValue32; have u32:=run_underlying Try.underlying32;have t27:=Try.underlying27; have a27:=Try.isAgg27; have z27:=Try.sizeOf27; have v27:=Try.zeroValue27; have u27:=run_underlying Try.underlying27;have t24:=Try.underlying24; have a24:=Try.isAgg24; have z24:=Try.sizeOf24; have v24:=Try.zeroValue24; have u24:=run_underlying Try.underlying24;have t22:=Try.underlying22; have a22:=Try.isAgg22; have z22:=Try.sizeOf22; have v22:=Try.zeroValue22; have u22:=run_underlying Try.underlying22;have t4:=Try.underlying4; have a4:=Try.isAgg4; have z4:=Try.sizeOf4; have v4:=Try.zeroValue4; have u4:=run_underlying Try.underlying4;have hc:=agD hj (W:=W.alloc (.cells #[.int .i64 h.1,.int .i64 h.2] 32)) (hw.alloc hw.size _) hx hn;have c1:(W.alloc (.cells #[.int .i64 h.1,.int .i64 h.2] 32)).cell? ⟨bg,0,none⟩=some (.slice q.sa q.sn q.sc):=((Kp.alloc (mb:=W.heap.size) W _).cell hbg (by omega)).trans c0
 go_enter Try.func71,Try.ntmps71
 go_wp2_with (go_at_call 49; refine hc.mono ?_; rintro e w' ⟨rfl,hk⟩)
 go_wp2
 go_ret
 exact ⟨rfl,(Below.refl _ _ |>.alloc (aB _) _).trans (hk.mono (by simp))⟩
set_option maxHeartbeats 4000000 in
theorem under (q:G) (B mb:Nat) (Dc to:Int×Int) (U:List (Int×Int)) (hU:∀ u∈U,(0<=u.1/\u.1 < (q.kn:Int))/\∀ k,k < q.im u.1.toNat->q.dW u.1.toNat k∈U) (S:List (Int×Int)) (W:World)
  (hf:Dc∈U) (hg:GAt q B W) (hB:B<=W.heap.size) (hm:B<=mb) (hM:MapAt mb W S) (ht:to ∉ S) {bg bs bt:Nat} (lg:bg < W.heap.size/\bg≠mb) (ls:bs < W.heap.size/\bs≠mb) (lt:bt < W.heap.size/\bt≠mb)
  (c0:W.cell? ⟨bg,0,none⟩=some (.slice q.sa q.sn q.sc)) (c1:W.cell? ⟨bg,1,none⟩=some (.slice q.ka q.kn q.kc)) (c2:W.cell? ⟨bs,0,none⟩=some (.map (some mb))) (c3:W.cell? ⟨bt,0,none⟩=some (.int .i64 to.1)) (c4:W.cell? ⟨bt,1,none⟩=some (.int .i64 to.2)) :
  Calls Try.prog 73 #[hv Dc,.pointer (some ⟨bg,0,none⟩),.pointer (some ⟨bs,0,none⟩),.pointer (some ⟨bt,0,none⟩)] W fun e W'=>∃ S' r,e = .returned (.bool r)/\MapAt mb W' S'/\Kp mb W W'/\(r=true/\Reach q to Dc\/r=false/\Grow q S Dc S'/\to ∉ S'):=by
 have mixed:=Bn;have t32:=Try.underlying32; have a32:=Try.isAgg32; have z32:=Try.sizeOf32; have v32:=Try.zeroValue32; have u32:=run_underlying Try.underlying32;have t27:=Try.underlying27; have a27:=Try.isAgg27; have z27:=Try.sizeOf27; have v27:=Try.zeroValue27; have u27:=run_underlying Try.underlying27;have t202:=Try.underlying172; have ams:=Try.isAgg172; have amt:=Try.sizeOf172; have amu:=Try.zeroValue172; have RJ:=run_underlying Try.underlying172;have t4:=Try.underlying4; have a4:=Try.isAgg4; have z4:=Try.sizeOf4; have v4:=Try.zeroValue4; have u4:=run_underlying Try.underlying4;have VN:mb < W.heap.size:=by obtain ⟨es,c,h,_⟩:=hM; exact (rV.1 h).1
 have KA:=Kp.alloc (mb:=mb) W (.cells #[.int .i64 Dc.1,.int .i64 Dc.2] 32);have hM1:MapAt mb (W.alloc (.cells #[.int .i64 Dc.1,.int .i64 Dc.2] 32)) S:=by
  obtain ⟨es,c,h1,h2⟩:=hM;exact ⟨es,c,by rw [Below.heap_alloc _ _ _ VN]; exact h1,h2⟩
 have hc:=below q B mb Dc to U hU S (W.alloc (.cells #[.int .i64 Dc.1,.int .i64 Dc.2] 32)) hf (hg.dP KA hB hm) (gR hB KA.size) hm hM1 ht;have d0:=(KA.cell lg.1 lg.2).trans c0;have d1:=(KA.cell lg.1 lg.2).trans c1;have d2:=(KA.cell ls.1 ls.2).trans c2;have d3:=(KA.cell lt.1 lt.2).trans c3;have d4:=(KA.cell lt.1 lt.2).trans c4;obtain ⟨f1,f2⟩:=Dc;obtain ⟨t1,t2⟩:=to
 go_enter Try.func73,Try.ntmps73
 go_wp2_with (go_at_call 74; refine hc.mono ?_; rintro e w' ⟨S',r,rfl,hr⟩)
 go_wp2
 go_ret
 exact ⟨S',r,rfl,hr.1,KA.trans hr.2.1,hr.2.2⟩
theorem Ya {q:G} {to:Int×Int} {S:List (Int×Int)} (hS:∀ x∈S,∀ k,k < q.im x.1.toNat->q.dW x.1.toNat k∈S) (ht:to ∉ S):∀ {x:Int×Int},Reach q to x->x ∉ S
 | _,.here=>ht
 | _,.dW h k hk r=>fun hm=>Ya hS ht r (hS h hm k hk)
theorem Grow.closed {q:G} {S S' : List (Int×Int)} {h:Int×Int} (g:Grow q S h S') (hS:∀ x∈S,∀ k,k < q.im x.1.toNat->q.dW x.1.toNat k∈S):∀ x∈S',∀ k,k < q.im x.1.toNat->q.dW x.1.toNat k∈S':=fun x hx k hk=>
 (g.new x hx).elim (fun h1=>g.sub _ (hS x h1 k hk)) fun h1=>h1 k hk
theorem aih {W:World} {mb:Nat} {es:Array MapEntry} {clock:Nat} (hm:W.heap[mb]? = some (.map es clock)) :
  (Builtin.clear_ #[172] 0 #[.map (some mb)]).run Try.prog W = .ok (.tuple #[]) (put W mb (.map #[] clock)):=by
 have RJ:=run_underlying Try.underlying172;simp [Builtin.clear_,RJ,MapKept.run_getObj_map hm,MapKept.run_setObj_map _ hm,Result.andThen];rfl
theorem run_make (W:World):(Instr.makeMap 172 none).run Try.prog W = .ok (.map (some W.heap.size)) (W.alloc (.map #[] 0)):=by
 have RJ:=run_underlying Try.underlying172;simp [Instr.makeMap,Result.andThen,newObj,Sem.run]
 try rfl
def qOf (g:b.fA):G:=⟨none,0,0,none,g.kids.n,0,fun _=>none,fun i=>(g.kids.get i).n,fun _=>0,fun i k=>hp ((g.kids.get i).get k)⟩
theorem Of.reach {q:G} {g:b.fA} {B:Nat} {W:World} (h:Of q g B W) {to x:Int×Int} : Reach q to x↔Reach (qOf g) to x:=by
 constructor
 ·intro r
  induction r with
  | here=>exact .here
  | dW h' k hk _ ih=>
   rw [h.im] at hk;rw [h.dW] at ih;exact .dW (q:=qOf g) h' k hk ih
 ·intro r
  induction r with
  | here=>exact .here
  | dW h' k hk _ ih=>exact .dW h' k (by rw [h.im]; exact hk) (by rw [h.dW]; exact ih)
def sf (g:b.fA) (i:Nat):Prop:=(g.kids.get i).n<=16/\(0 < (g.kids.get i).n->(g.cB.cM.get i).live=true)/\∀ k,k < (g.kids.get i).n->b.dy g.cB ((g.kids.get i).get k)=some true
def GH (g:b.fA) (i:Nat):Prop:=∀ k,k < (g.kids.get i).n->¬ Reach (qOf g) ((i:Int),(g.cB.cM.get i).gen) (hp ((g.kids.get i).get k))
structure qJ (g:b.fA):Prop where
 cM:b.dV g.cB=some 0
 len:g.kids.n=g.cB.cM.n
 row:∀ i,i < g.kids.n->sf g i
 free:∀ i,i < g.kids.n->GH g i
theorem agE {W W' : World} (h:Below W.heap.size W W') (mb:Nat):Kp mb W W':=⟨h.os,h.tape,h.output,h.size,fun k hk _=>h.block k hk⟩
theorem aii (a:b.jW) (h:b.Handle) {n:Int} (hn:b.dV a=some n):∃ r,b.dy a h=some r:=by
 unfold b.dy b.vO b.vP;rw [hn];simp only [gJ,aj,eU];cases n==0 with
 | false=>exact ⟨_,rfl⟩
 | true=>
  have:∃ r,b.mc a h=some r:=by
   unfold b.mc;by_cases h1:h.slot >= 0
   ·by_cases h2:h.slot < (a.cM.n:Int)
    ·simp [h1,h2]
    ·simp [h1,h2]
   ·simp [h1]
  obtain ⟨r,hr⟩:=this;rw [hr];exact ⟨r,rfl⟩
theorem aeH {a:b.jW} (hn:b.dV a=some 0):a.cM.n<=128:=by
 unfold b.dV at hn;by_cases h:((a.cM.n:Nat):Int) > 128
 ·rw [ay h,aj] at hn
  simp at hn
 ·omega
theorem amI {a:b.jW} {h:b.Handle} (hn:b.dy a h=some true):0<=h.slot/\h.slot < (a.cM.n:Int):=by
 unfold b.dy b.vO b.vP at hn;by_cases h1:h.slot >= 0
 ·by_cases h2:h.slot < (a.cM.n:Int)
  ·exact ⟨h1,h2⟩
  ·exfalso
   revert hn
   cases (b.dV a).isSome with
   | false=>simp
   | true=>
    cases ((b.dV a).getD default==0) with
    | false=>simp
    | true=>simp [b.mc,h1,h2]
 ·exfalso
  revert hn
  cases (b.dV a).isSome with
  | false=>simp
  | true=>
   cases ((b.dV a).getD default==0) with
   | false=>simp
   | true=>simp [b.mc,h1]
set_option maxHeartbeats 8000000 in
theorem check {E:Env} {A:ae} {B:aG.St} {ρ:aG.Ren} {base:Nat} {w:World} (hj:KJ Try.prog E A B ρ base w) {g:b.fA} {q:G} (hg:abj q w.heap.size w) (ho:Of q g w.heap.size w) (hx:VC Try.prog E ρ (b.jn g.cB) (.agg #[.slice q.sa q.sn q.sc])) {n:Int} (hn:b.dV g.cB=some n) :
  Calls Try.prog 44 #[gv q] w fun e w'=>∃ n,e = .returned (.int .i64 n)/\Below w.heap.size w w'/\(n=0/\qJ g\/n=8/\¬ qJ g):=by
 have mixed:=Bn;have t46:=Try.underlying40; have a46:=Try.isAgg40; have z46:=Try.sizeOf40; have v46:=Try.zeroValue40; have u46:=run_underlying Try.underlying40;have t32:=Try.underlying32; have a32:=Try.isAgg32; have z32:=Try.sizeOf32; have v32:=Try.zeroValue32; have u32:=run_underlying Try.underlying32;have t27:=Try.underlying27; have a27:=Try.isAgg27; have z27:=Try.sizeOf27; have v27:=Try.zeroValue27; have u27:=run_underlying Try.underlying27;have t24:=Try.underlying24; have a24:=Try.isAgg24; have z24:=Try.sizeOf24; have v24:=Try.zeroValue24; have u24:=run_underlying Try.underlying24;have t22:=Try.underlying22; have a22:=Try.isAgg22; have z22:=Try.sizeOf22; have v22:=Try.zeroValue22; have u22:=run_underlying Try.underlying22;have t25:=Try.underlying25; have a25:=Try.isAgg25; have z25:=Try.sizeOf25; have v25:=Try.zeroValue25; have u25:=run_underlying Try.underlying25;have t35:=Try.underlying47; have a35:=Try.isAgg47; have z35:=Try.sizeOf47; have v35:=Try.zeroValue47; have u35:=run_underlying Try.underlying47;have t111:=Try.underlying139; have a111:=Try.isAgg139; have z111:=Try.sizeOf139; have v111:=Try.zeroValue139; have u111:=run_underlying Try.underlying139;have t202:=Try.underlying172; have ams:=Try.isAgg172; have amt:=Try.sizeOf172; have amu:=Try.zeroValue172; have RJ:=run_underlying Try.underlying172;have t200:=Try.underlying170; have aoq:=Try.isAgg170; have aor:=Try.sizeOf170; have aos:=Try.zeroValue170; have aot:=run_underlying Try.underlying170;have t3:=Try.underlying3; have a3:=Try.isAgg3; have z3:=Try.sizeOf3; have v3:=Try.zeroValue3; have u3:=run_underlying Try.underlying3;have t4:=Try.underlying4; have a4:=Try.isAgg4; have z4:=Try.sizeOf4; have v4:=Try.zeroValue4; have u4:=run_underlying Try.underlying4;have bg0:Below w.heap.size w (w.alloc (.cells #[.slice q.sa q.sn q.sc,.slice q.ka q.kn q.kc] 27)):=(Below.refl _ _).alloc (aB _) _;have hac:=agC hj bg0 hx hn;have cg0:(w.alloc (.cells #[.slice q.sa q.sn q.sc,.slice q.ka q.kn q.kc] 27)).cell? ⟨w.heap.size,0,none⟩=some (.slice q.sa q.sn q.sc):=by simp
 have cg1:(w.alloc (.cells #[.slice q.sa q.sn q.sc,.slice q.ka q.kn q.kc] 27)).cell? ⟨w.heap.size,1,none⟩=some (.slice q.ka q.kn q.kc):=by simp
 have sg:(w.alloc (.cells #[.slice q.sa q.sn q.sc,.slice q.ka q.kn q.kc] 27)).heap.size=w.heap.size+1:=by simp
 generalize hW1:w.alloc (.cells #[.slice q.sa q.sn q.sc,.slice q.ka q.kn q.kc] 27)=W1 at hac bg0 cg0 cg1 sg
 go_enter Try.func44,Try.ntmps44
 by_cases hn0:n=0
 ·subst hn0
  have hsm:q.sn<=128:=by rw [ho.sn]; exact aeH hn
  by_cases hlen:q.kn=q.sn
  ·have SD:((q.kn:Int)==(q.sn:Int))=true:=by rw [hlen]; exact beq_self_eq_true _
   have ao6:((q.kn:Int) != (q.sn:Int))=false:=by rw [hlen]; exact bne_self_eq_false _
   have amJ:q.kn<=q.sn/\q.sn<=q.kn:=by omega
   clear hlen
   go_wp2_with (go_at_call 70; refine hac.mono ?_; rintro e w2 ⟨rfl,hk⟩; have c0:=(hk.cell (p:=⟨w.heap.size,0,none⟩) (by show w.heap.size < _; omega)).trans cg0; have c1:=(hk.cell (p:=⟨w.heap.size,1,none⟩) (by show w.heap.size < _; omega)).trans cg1)
   have bW:Below W1.heap.size W1 w2:=hk
   go_wp2
   go_loopg [27] q.kn (fun gg s27 wr=>∃ kk:Nat,kk<=q.kn/\q.kn - kk<=gg/\s27 = .int .i64 kk/\Aside (Below W1.heap.size W1 wr/\∀ i,i < kk->sf g i))
   case atStart=>exact ⟨0,qK _,by omega,rfl,bW,fun i hi=>absurd hi (oD _)⟩
   case round=>
    obtain ⟨kk,hkk,hgg,rfl,BW⟩:=hrel;clear SD ao6;by_cases bj:kk < q.kn
    ·have ags:(kk:Int) < (q.kn:Int):=by omega
     have hltz2:(kk:Int) < (q.sn:Int):=by omega
     have BWw:Below w.heap.size w wr:=bg0.trans (BW.out.1.mono (by omega));have HZ:=hg.dP (agE BWw w.heap.size) (aB _) (aB _);have hoo:=ho.dP (agE BWw w.heap.size) (aB _) (aB _);have e0:=(BW.out.1.cell (p:=⟨w.heap.size,0,none⟩) (by show w.heap.size < _; omega)).trans cg0;have e1:=(BW.out.1.cell (p:=⟨w.heap.size,1,none⟩) (by show w.heap.size < _; omega)).trans cg1;obtain ⟨bk,ok,hka,hbk,fp⟩:=HZ.kids kk bj;obtain ⟨bl,ol,hsa,hbl,aow,amK⟩:=hoo.slot kk (by omega);have him:q.im kk<=(g.kids.get kk).n/\(g.kids.get kk).n<=q.im kk:=by rw [ho.im]; exact ⟨aB _,aB _⟩
     have PB:q.im kk<=16->∀ V,Below W1.heap.size W1 V->Calls Try.prog 72 #[.slice (q.ia kk) (q.im kk) (q.ic kk),.func (.func 71) #[] #[.pointer (some ⟨w.heap.size,0,none⟩)]] V fun e W'=>∃ r,e = .returned (.bool r)/\Below W1.heap.size W1 W'/\(r=true/\¬ sf g kk\/r=false/\∀ k,k < q.im kk->b.dy g.cB ((g.kids.get kk).get k)=some true):=by
      intro h16 V hV;refine (S7 71 #[.pointer (some ⟨w.heap.size,0,none⟩)] (enters_of Try.func71 (by kernel_rfl) rfl) (q.ia kk) (q.im kk) (q.ic kk) (q.dW kk)
       (fun j W'=>Below W1.heap.size W1 W'/\∀ k,k < j->b.dy g.cB ((g.kids.get kk).get k)=some true)
       (fun W'=>Below W1.heap.size W1 W'/\¬ sf g kk) (by omega) (fun W' j z7 hI=>?_) (fun j W' z7 hI=>?_) V ⟨hV,fun k hk=>absurd hk (oD _)⟩).mono ?_
      ·have BW' : Below w.heap.size w W':=bg0.trans (hI.1.mono (by omega))
       obtain ⟨bb,off,r1,_,r2,r3⟩:=(hg.dP (agE BW' w.heap.size) (aB _) (aB _)).row kk bj j z7;exact ⟨bb,off,r1,r2,r3⟩
      ·have BW' : Below w.heap.size w W':=bg0.trans (hI.1.mono (by omega))
       obtain ⟨r,hr⟩:=aii g.cB ((g.kids.get kk).get j) hn;have abk:=ho.dW kk j;refine (rH hj BW' hx (q.dW kk j) (r:=r) (by rw [abk]; exact hr) (bg:=w.heap.size) (by have:=hI.1.size; omega) ((hI.1.cell (p:=⟨w.heap.size,0,none⟩) (by show w.heap.size < _; omega)).trans cg0)).mono ?_;rintro e W2 ⟨rfl,hb⟩;have UB:Below W1.heap.size W1 W2:=hI.1.trans (hb.mono hI.1.size);cases r with
       | true=>
        refine .inr ⟨rfl,UB,fun k hk=>?_⟩;by_cases ek:k=j
        ·subst ek; exact hr
        ·exact hI.2 k (by omega)
       | false=>exact .inl ⟨rfl,UB,fun h=>by have:=h.2.2 j (by omega); rw [hr] at this; simp at this⟩
      ·rintro e W' ⟨r,rfl,⟨rfl,h1⟩ | ⟨rfl,h1⟩⟩
       ·exact ⟨true,rfl,h1.1,.inl ⟨rfl,h1.2⟩⟩
       ·exact ⟨false,rfl,h1.1,.inr ⟨rfl,h1.2⟩⟩
     have eg:∀ args w,(callFunc 72 args).run Try.prog w = .ok (.enter 72 args) w:=enters_of Try.func72 (by kernel_rfl) rfl;have ajW:∀ W',Below W1.heap.size W1 W'->¬ sf g kk->∃ n,Ending.returned (.int .i64 8) = .returned (.int .i64 n)/\Below w.heap.size w W'/\(n=0/\qJ g\/n=8/\¬ qJ g):=fun W' hb hr=>
      ⟨8,rfl,bg0.trans (hb.mono (by omega)),.inr ⟨rfl,fun h=>hr (h.row kk (by rw [<- ho.kn]; exact bj))⟩⟩
     have hBW:=BW.out;have RM:∀ W',Below W1.heap.size W1 W'->sf g kk->Below W1.heap.size W1 W'/\∀ i,i < kk+1->sf g i:=fun W' hb hr=>⟨hb,fun i hi=>by
      by_cases e:i=kk
      ·subst e; exact hr
      ·exact hBW.2 i (by omega)⟩
     clear hg ho hj hac BW;generalize hlv:(g.cB.cM.get kk).live=lv at amK;by_cases h16:q.im kk<=16
     ·have ap6 : ¬ (q.im kk:Int) > 16:=by omega
      have amL:=PB h16;have amM:=amL wr hBW.1;clear PB amL;have aaE:∀ W' r,Below W1.heap.size W1 W'->(r=true/\¬ sf g kk\/r=false/\∀ k,k < q.im kk->b.dy g.cB ((g.kids.get kk).get k)=some true)->(0 < q.im kk->lv=true)->r=true/\(Below W1.heap.size W1 W'/\¬ sf g kk)\/r=false/\(Below W1.heap.size W1 W'/\∀ i,i < kk+1->sf g i):=by
       rintro W' r hb (⟨rfl,hr⟩ | ⟨rfl,hr⟩) hl
       ·exact .inl ⟨rfl,hb,hr⟩
       ·exact .inr ⟨rfl,RM _ hb ⟨by omega,fun GD=>by rw [hlv]; exact hl (by omega),fun k hk=>hr k (by omega)⟩⟩
      by_cases h0:0 < q.im kk
      ·have h0z:(q.im kk:Int) > 0:=by omega
       cases lv with
       | true=>
        go_wp2_with (go_at_call 72; refine amM.mono ?_; rintro e w3 ⟨r,rfl,hb,hr⟩; rcases aaE _ _ hb hr (fun _=>rfl) with ⟨rfl,hd⟩ | ⟨rfl,hd⟩)
        ·go_wp2
         go_ret
         exact ajW _ hd.1 hd.2
        ·go_wp2
         simp only [<- hka,<- hsa]
         go_roundg (q.kn - (kk+1))
         case measure=>omega
         case rel=>exact ⟨kk+1,by omega,by omega,by go_num,hd⟩
       | false=>
        go_wp2
        go_ret
        exact ajW _ hBW.1 fun h=>by have:=h.2.1 (by omega); rw [hlv] at this; simp at this
      ·have h0z : ¬ (q.im kk:Int) > 0:=by omega
       go_wp2_with (go_at_call 72; refine amM.mono ?_; rintro e w3 ⟨r,rfl,hb,hr⟩; rcases aaE _ _ hb hr (fun h=>absurd h h0) with ⟨rfl,hd⟩ | ⟨rfl,hd⟩)
       ·go_wp2
        go_ret
        exact ajW _ hd.1 hd.2
       ·go_wp2
        simp only [<- hka,<- hsa]
        go_roundg (q.kn - (kk+1))
        case measure=>omega
        case rel=>exact ⟨kk+1,by omega,by omega,by go_num,hd⟩
     ·have ap6:(q.im kk:Int) > 16:=by omega
      go_wp2
      go_ret
      exact ajW _ hBW.1 fun h=>h16 (by have:=h.1; omega)
    ·rename World=>V0
     have ags : ¬ (kk:Int) < (q.kn:Int):=by omega
     have qF:∀ i,i < q.kn->sf g i:=fun i hi=>BW.out.2 i (by omega);have hB1:=BW.out.1;have BWw:Below w.heap.size w V0:=bg0.trans (hB1.mono (by omega));have HZ:=(hg.dP (agE BWw w.heap.size) (aB _) (aB _)).with fun i hi=>by have:=(qF i hi).1; rw [ho.im]; omega
     have hoo:=ho.dP (agE BWw w.heap.size) (aB _) (aB _);have e0:=(hB1.cell (p:=⟨w.heap.size,0,none⟩) (by show w.heap.size < _; omega)).trans cg0;have e1:=(hB1.cell (p:=⟨w.heap.size,1,none⟩) (by show w.heap.size < _; omega)).trans cg1;have SA:=run_make;have sW:w.heap.size < V0.heap.size:=by have:=hB1.size; omega
     have K2:∀ mb,Kp mb V0 ((V0.alloc (.map #[] 0)).alloc (.cells #[.map (some V0.heap.size)] 172)):=fun mb=>(Kp.alloc V0 _).trans (Kp.alloc _ _);have hM2:MapAt V0.heap.size ((V0.alloc (.map #[] 0)).alloc (.cells #[.map (some V0.heap.size)] 172)) []:=⟨#[],0,by rw [Below.heap_alloc _ _ _ (by simp)]; exact zr _ _ _ rfl,adl⟩
     have jE:((V0.alloc (.map #[] 0)).alloc (.cells #[.map (some V0.heap.size)] 172)).cell? ⟨V0.heap.size+1,0,none⟩=some (.map (some V0.heap.size)):=by
      rw [mo (zr _ _ _ (by simp))]; rfl
     have Cz:((V0.alloc (.map #[] 0)).alloc (.cells #[.map (some V0.heap.size)] 172)).heap.size=V0.heap.size+2:=by simp
     have f0:=((K2 V0.heap.size).cell (b:=w.heap.size) (j:=0) sW (by omega)).trans e0;have f1:=((K2 V0.heap.size).cell (b:=w.heap.size) (j:=1) sW (by omega)).trans e1;generalize hW2:(V0.alloc (.map #[] 0)).alloc (.cells #[.map (some V0.heap.size)] 172)=W2 at K2 hM2 jE Cz f0 f1;have Oo:=HZ.dP (K2 V0.heap.size) (Nat.le_of_lt sW) (Nat.le_of_lt sW);have ho2:=hoo.dP (K2 V0.heap.size) (Nat.le_of_lt sW) (Nat.le_of_lt sW);have aox:∀ W',Kp V0.heap.size W2 W'->Below w.heap.size w W':=fun W' k=>BWw.trans (((K2 V0.heap.size).trans k).below (Nat.le_of_lt sW) (Nat.le_of_lt sW));clear hac hg HZ ho hoo BW
     go_wp2
     go_loopg [61] q.kn (fun gg s61 wr2=>∃ jj:Nat,jj<=q.kn/\q.kn - jj<=gg/\s61 = .int .i64 jj/\Aside (Kp V0.heap.size W2 wr2/\(∃ S,MapAt V0.heap.size wr2 S)/\∀ i,i < jj->GH g i))
     case atStart=>exact ⟨0,qK _,by omega,rfl,Kp.refl _ _,⟨_,hM2⟩,fun i hi=>absurd hi (oD _)⟩
     case round=>
      obtain ⟨jj,hjj,hgg2,rfl,BJ⟩:=hrel;obtain ⟨kj,⟨S0,es0,Yb,hm0,_⟩,aij⟩:=BJ.out;clear BJ;by_cases agF:jj < q.kn
      ·have hjz:(jj:Int) < (q.kn:Int):=by omega
       have hjz2:(jj:Int) < (q.sn:Int):=by omega
       have hgj:=Oo.dP kj (by omega) (by omega);have hoj:=ho2.dP kj (by omega) (by omega);have sj:=kj.size;have j0:=(kj.cell (b:=w.heap.size) (j:=0) (by omega) (by omega)).trans f0;have j1:=(kj.cell (b:=w.heap.size) (j:=1) (by omega) (by omega)).trans f1;have js:=(kj.cell (b:=V0.heap.size+1) (j:=0) (by omega) (by omega)).trans jE;obtain ⟨bk,ok,hka,hbk,fp⟩:=hgj.kids jj agF;obtain ⟨bl,ol,hsa,hbl,aow,amK⟩:=hoj.slot jj (by omega);have abk:=hoj.dW jj;have him:q.im jj<=(g.kids.get jj).n/\(g.kids.get jj).n<=q.im jj:=by rw [hoj.im]; exact ⟨aB _,aB _⟩
       generalize aaW:(g.cB.cM.get jj).gen=gj at aow;have KA:=Kp.alloc (mb:=V0.heap.size) wr (.cells #[.int .i64 jj,.int .i64 gj] 32);have hmA:(wr.alloc (.cells #[.int .i64 jj,.int .i64 gj] 32)).heap[V0.heap.size]? = some (.map es0 Yb):=by rw [Below.heap_alloc _ _ _ (by omega)]; exact hm0
       have ap7:=aih hmA;have KP:=Kp.put (mb:=V0.heap.size) (wr.alloc (.cells #[.int .i64 jj,.int .i64 gj] 32)) (.map #[] Yb);have jA:=(KA.cell (b:=V0.heap.size+1) (j:=0) (by omega) (by omega)).trans js;have K4:=KA.trans KP;have hM4:MapAt V0.heap.size (put (wr.alloc (.cells #[.int .i64 jj,.int .i64 gj] 32)) V0.heap.size (.map #[] Yb)) []:=⟨#[],Yb,Y7 hmA,adl⟩
       have js4:=(KP.cell (b:=V0.heap.size+1) (j:=0) (by have:=KA.size; omega) (by omega)).trans jA;have jt0:(put (wr.alloc (.cells #[.int .i64 jj,.int .i64 gj] 32)) V0.heap.size (.map #[] Yb)).cell? ⟨wr.heap.size,0,none⟩=some (.int .i64 jj):=by
        rw [KP.cell (by simp) (by omega)]; simp
       have jt1:(put (wr.alloc (.cells #[.int .i64 jj,.int .i64 gj] 32)) V0.heap.size (.map #[] Yb)).cell? ⟨wr.heap.size,1,none⟩=some (.int .i64 gj):=by
        rw [KP.cell (by simp) (by omega)]; simp
       have hz4:wr.heap.size < (put (wr.alloc (.cells #[.int .i64 jj,.int .i64 gj] 32)) V0.heap.size (.map #[] Yb)).heap.size:=by rw [Wy]; simp
       generalize hW4:put (wr.alloc (.cells #[.int .i64 jj,.int .i64 gj] 32)) V0.heap.size (.map #[] Yb)=W4 at ap7 KP K4 hM4 js4 jt0 jt1 hz4;have hU:∀ u∈(List.range q.kn).flatMap (fun i=>(List.range (q.im i)).map fun k=>q.dW i k),(0<=u.1/\u.1 < (q.kn:Int))/\∀ k,k < q.im u.1.toNat->q.dW u.1.toNat k∈(List.range q.kn).flatMap (fun i=>(List.range (q.im i)).map fun k=>q.dW i k):=by
        intro u hu;obtain ⟨i,hi,hu⟩:=List.mem_flatMap.1 hu;obtain ⟨k,hk,rfl⟩:=GY.1 hu;rw [G1] at hi hk;have hr:=amI ((qF i hi).2.2 k (by rw [<- hoj.im]; exact hk));rw [<- hoj.sn] at hr;have hh:0<=(q.dW i k).1/\(q.dW i k).1 < (q.kn:Int):=by rw [hoj.dW]; exact ⟨hr.1,by have:=hr.2; show ((g.kids.get i).get k).slot < _; omega⟩
        exact ⟨hh,fun k' mF=>List.mem_flatMap.2 ⟨(q.dW i k).1.toNat,G1.2 (by omega),GY.2 ⟨k',G1.2 mF,rfl⟩⟩⟩
       have PB:Calls Try.prog 72 #[.slice (q.ia jj) (q.im jj) (q.ic jj),.func (.func 73) #[] #[.pointer (some ⟨w.heap.size,0,none⟩),.pointer (some ⟨V0.heap.size+1,0,none⟩),.pointer (some ⟨wr.heap.size,0,none⟩)]] W4 fun e W'=>∃ r,e = .returned (.bool r)/\Kp V0.heap.size W4 W'/\(∃ S,MapAt V0.heap.size W' S)/\(r=true/\¬ GH g jj\/r=false/\GH g jj):=by
        refine (S7 73 #[.pointer (some ⟨w.heap.size,0,none⟩),.pointer (some ⟨V0.heap.size+1,0,none⟩),.pointer (some ⟨wr.heap.size,0,none⟩)] (enters_of Try.func73 (by kernel_rfl) rfl) (q.ia jj) (q.im jj) (q.ic jj) (q.dW jj)
         (fun j W'=>Kp V0.heap.size W4 W'/\∃ S,MapAt V0.heap.size W' S/\((jj:Int),gj) ∉ S/\(∀ x∈S,∀ k,k < q.im x.1.toNat->q.dW x.1.toNat k∈S)/\∀ k,k < j->q.dW jj k∈S)
         (fun W'=>Kp V0.heap.size W4 W'/\(∃ S,MapAt V0.heap.size W' S)/\¬ GH g jj) (Oo.small jj agF) (fun W' j z7 hI=>?_) (fun j W' z7 hI=>?_) W4 ⟨Kp.refl _ _,[],hM4,by simp,by simp,fun k hk=>absurd hk (oD _)⟩).mono ?_
        ·obtain ⟨bb,off,r1,_,r2,r3⟩:=(hgj.dP (K4.trans hI.1) (by omega) (by omega)).row jj agF j z7
         exact ⟨bb,off,r1,r2,r3⟩
        ·obtain ⟨tS,S,hS,ZK,hcl,qE⟩:=hI
         have kk4:=K4.trans tS;have dS:=tS.size;refine (under q w.heap.size V0.heap.size (q.dW jj j) ((jj:Int),gj) _ hU S W' (List.mem_flatMap.2 ⟨jj,G1.2 agF,GY.2 ⟨j,G1.2 z7,rfl⟩⟩) (hgj.dP kk4 (by omega) (by omega)) (by omega) (by omega) hS ZK
          (bg:=w.heap.size) (bs:=V0.heap.size+1) (bt:=wr.heap.size) (by omega) (by omega) (by omega)
          ((kk4.cell (b:=w.heap.size) (j:=0) (by omega) (by omega)).trans j0) ((kk4.cell (b:=w.heap.size) (j:=1) (by omega) (by omega)).trans j1) ((tS.cell (b:=V0.heap.size+1) (j:=0) (by omega) (by omega)).trans js4)
          ((tS.cell (b:=wr.heap.size) (j:=0) hz4 (by omega)).trans jt0) ((tS.cell (b:=wr.heap.size) (j:=1) hz4 (by omega)).trans jt1)).mono ?_
         rintro e W5 ⟨S',r,rfl,m5,k5,⟨rfl,hr⟩ | ⟨rfl,Hg,hn5⟩⟩
         ·refine .inl ⟨rfl,tS.trans k5,⟨S',m5⟩,fun hf=>hf j (by omega) ?_⟩
          rw [aaW,<- abk j];exact hoj.reach.1 hr
         ·refine .inr ⟨rfl,tS.trans k5,S',m5,hn5,Hg.closed hcl,fun k hk=>?_⟩
          by_cases ek:k=j
          ·subst ek; exact Hg.is
          ·exact Hg.sub _ (qE k (by omega))
        ·rintro e W' ⟨r,rfl,⟨rfl,h1⟩ | ⟨rfl,h1,S,h2,h3,h4,h5⟩⟩
         ·exact ⟨true,rfl,h1.1,h1.2.1,.inl ⟨rfl,h1.2.2⟩⟩
         ·refine ⟨false,rfl,h1,⟨S,h2⟩,.inr ⟨rfl,fun k hk hr=>?_⟩⟩
          rw [aaW,<- abk k] at hr;exact Ya h4 h3 (hoj.reach.2 hr) (h5 k (by omega))
       have ao7:∀ W',Kp V0.heap.size W4 W'->¬ GH g jj->∃ n,Ending.returned (.int .i64 8) = .returned (.int .i64 n)/\Below w.heap.size w W'/\(n=0/\qJ g\/n=8/\¬ qJ g):=fun W' hk hf=>
        ⟨8,rfl,aox _ (kj.trans (K4.trans hk)),.inr ⟨rfl,fun h=>hf (h.free jj (by rw [<- hoj.kn]; exact agF))⟩⟩
       have fU:∀ W',Kp V0.heap.size W4 W'->(∃ S,MapAt V0.heap.size W' S)->GH g jj->Kp V0.heap.size W2 W'/\(∃ S,MapAt V0.heap.size W' S)/\∀ i,i < jj+1->GH g i:=fun W' hk hm hf=>⟨kj.trans (K4.trans hk),hm,fun i hi=>by
        by_cases e:i=jj
        ·subst e; exact hf
        ·exact aij i (by omega)⟩
       clear hU abk Oo ho2 hgj hoj qF hW2 aaW aij hm0
       go_wp2_with (go_at_call 72; go_loud (refine PB.mono ?_; rintro e w3 ⟨r,rfl,hb,hm,⟨rfl,hr⟩ | ⟨rfl,hr⟩⟩))
       ·go_wp2
        go_ret
        exact ao7 _ hb hr
       ·go_wp2
        simp only [<- hka,<- hsa]
        go_roundg (q.kn - (jj+1))
        case measure=>omega
        case rel=>exact ⟨jj+1,by omega,by omega,by go_num,fU _ hb hm hr⟩
      ·have hjz : ¬ (jj:Int) < (q.kn:Int):=by omega
       have hf:qJ g:=⟨hn,by rw [<- ho2.kn,<- ho2.sn]; omega,fun i hi=>qF i (by rw [ho2.kn]; exact hi),fun i hi=>aij i (by have:=ho2.kn; omega)⟩
       have hb:=aox _ kj;have Ss:∀ W',Below w.heap.size w W'->∃ n,Ending.returned (.int .i64 0) = .returned (.int .i64 n)/\Below w.heap.size w W'/\(n=0/\qJ g\/n=8/\¬ qJ g):=fun W' hb=>⟨0,rfl,hb,.inl ⟨rfl,hf⟩⟩
       clear hm0 Oo ho2 qF
       go_wp2
       go_ret
       first | exact Ss _ hb | exact ⟨rfl,hb⟩
  ·have SD:((q.kn:Int)==(q.sn:Int))=false:=beq_eq_false_iff_ne.2 fun h=>hlen (by exact_mod_cast h)
   have hlen3 : ¬ (q.kn:Int)=(q.sn:Int):=fun h=>hlen (by exact_mod_cast h)
   go_wp2_with (go_at_call 70; refine hac.mono ?_; rintro e w2 ⟨rfl,hk⟩; have c0:=(hk.cell (p:=⟨w.heap.size,0,none⟩) (by show w.heap.size < _; omega)).trans cg0; have c1:=(hk.cell (p:=⟨w.heap.size,1,none⟩) (by show w.heap.size < _; omega)).trans cg1)
   go_wp2
   go_ret
   exact ⟨8,rfl,bg0.trans (hk.mono (by omega)),.inr ⟨rfl,fun h=>hlen (by rw [ho.kn,ho.sn,h.len])⟩⟩
 ·have hn0' : (n==0)=false:=by simpa using hn0
  go_wp2_with (go_at_call 70; refine hac.mono ?_; rintro e w2 ⟨rfl,hk⟩)
  go_wp2
  go_ret
  exact ⟨8,rfl,bg0.trans (hk.mono (by omega)),.inr ⟨rfl,fun h=>by rw [h.cM] at hn; simp only [bM] at hn; omega⟩⟩
end Go.Proofs.Ytckbdndhmcoihaa.nodes
end
section
namespace Go.Proofs.Ytckbdndhmcoihaa.nodes
open Go Go.RowKit Go.K
open Classical in
noncomputable def FC (g:b.fA):Option Int:=(b.dV g.cB).map fun _=>if qJ g then 0 else 8
noncomputable def agG:List KV->KR KV:=bR Try.prog 44 (b8 (kI .i64) fun vs=>FC (b.jH (vs.getD 0 .bf)))
theorem call73:xM Try.prog 44:=by
 refine ⟨by kernel_rfl,_,Try.func44,rfl,by kernel_rfl⟩
theorem anG (w:Nat->KV):vJ Try.prog [27] w 0 = [b.rW (b.jH (ij Try.prog (cg Try.prog dB) 27 (w 0)))]:=by kernel_rfl
theorem agH:bQ Try.prog 44 agG:=by
 refine agp call73 fun args v E A B ρ base w dZ hF hlen hv hj=>?_;have ep:bT Try.prog 44 = [27]:=by kernel_rfl
 unfold agG bR at hF;obtain ⟨hb,hF⟩:=aH.cond hF;obtain ⟨ww,hw⟩:=IJ 0 hb;have CO:rK Try.prog E ρ (normArgs Try.prog (bT Try.prog 44) args) dZ:=by
  obtain ⟨m,h1,h2⟩:=hv;exact ⟨m,aV.Nf (.of rfl) h1 hlen,h2⟩
 rw [hw,ep,anG] at hF CO;generalize b.jH (ij Try.prog (cg Try.prog dB) 27 (ww 0))=g at hF CO;obtain ⟨u,us,rfl,hu,Ly⟩:=CO.xH;obtain rfl:=Ly.U1;obtain ⟨q,rfl,hg,ho,hx⟩:=akO hj hu;unfold b8 at hF;obtain ⟨h1,h2⟩:=aH.jJ hF;have h1:(FC g).isSome=true:=h1;have h2:kI .i64 ((FC g).getD default)=v:=h2;cases hn:b.dV g.cB with
 | none=>simp [FC,hn] at h1
 | some n=>
  refine (check hj hg ho hx hn).mono ?_;rintro e w' ⟨m,rfl,hb,hm⟩;refine ⟨.int .i64 m,rfl,?_,hb⟩;have:v=kI .i64 m:=by
   rw [<- h2];simp only [FC,hn,Option.map_some,eU];rcases hm with ⟨rfl,h⟩ | ⟨rfl,h⟩
   ·rw [aE h]
   ·rw [aa h]
  rw [this];exact ⟨_,.mkInt,by simp [aG.VR]⟩
end Go.Proofs.Ytckbdndhmcoihaa.nodes
end
section
namespace Go.Proofs.Ytckbdndhmcoihaa.b
open Go.K
noncomputable section
def IV (g:fA):Option Int:=nodes.FC g
def yS:List KV->KR KV:=bR Try.prog 44 (b8 (kI .i64) fun vs=>IV (jH (vs.getD 0 .bf)))
theorem yw:bQ Try.prog 44 yS:=nodes.agH
def mD (l:kd):Option (Int):=(cond (decide (l.dJ < (-(1:Int)))) (some (8)) (cond (decide (l.dJ >= 16)) (some (8)) (cond (decide (l.oY > 2)) (some (8)) (cond (decide (l.nW < (-(1024:Int)))) (some (8)) (cond (decide (l.nW > 1024)) (some (8)) (cond (decide (l.bin < 0)) (some (8)) (cond (decide (l.bin > 15)) (some (8)) (some (0)))))))))
theorem Ou (l:kd):rE [] [] 85 [ya l] = (mD l).map (kI .i64):=by
 unfold mD
 try simp only [b6]
 kernel_rfl
def Ae:List KV->KR KV:=bR PG 85 (b8 (kI .i64) fun vs=>mD (qT (v9 vs 0)))
theorem Ds:bQ PG 85 Ae:=dU ak.nil bm.nil fun w=>Ou (qT (g0 60 (w 0)))
structure cu where
 t2:Int
 t7:Int
 s:dt
 said:kd
instance:Inhabited cu:=⟨⟨default,default,default,default⟩⟩
def vc (x:cu):List KV:=[.int .i64 x.t2,.agg [.fn (.func 96) [] [],.fn (.func 97) [] [],.fn (.func 98) [] [],.fn (.func 99) [] [],.fn (.func 100) [] []],.int .i64 x.t7]
def vd (x:cu):List (List KV):=[aeF x.s,aic x.said]
def GI (vs:List KV) (rs:List (List KV)):cu:=⟨av (v9 vs 0),av (v9 vs 2),aeG (r9 rs 0),aid (r9 rs 1)⟩
def IW:aJ:=⟨[(2,w9 i9),(6,⟨true,[.lit (.fn (.func 96) [] []),.lit (.fn (.func 97) [] []),.lit (.fn (.func 98) [] []),.lit (.fn (.func 99) [] []),.lit (.fn (.func 100) [] [])]⟩),(7,w9 i9)],[(1,[u9,u9,u9,u9,u9,u9,u9,u9,u9,i9,u9,i9,b9,i9],1),(3,[u9,u9,u9,u9,i9,u9,i9,b9,i9],1)],[(1,0,0),(3,1,0)]⟩
def Q6:=BU [(85,Ae)] [] 60 58 IW
def ew (x:cu):aX cu:=(.next ⟨x.t2,(aO (0+1)),x.s,⟨x.s.look.color,x.said.dJ,x.said.oY,x.said.nW,x.said.kr,x.said.bin⟩⟩)
def eA (x:cu):aX cu:=(.next ⟨x.t2,(aO (1+1)),x.s,⟨x.said.color,x.s.look.dJ,x.said.oY,x.said.nW,x.said.kr,x.said.bin⟩⟩)
def eB (x:cu):aX cu:=(.next ⟨x.t2,(aO (2+1)),x.s,⟨x.said.color,x.said.dJ,x.s.look.oY,x.said.nW,x.said.kr,x.said.bin⟩⟩)
def eC (x:cu):aX cu:=(.next ⟨x.t2,(aO (3+1)),x.s,⟨x.said.color,x.said.dJ,x.said.oY,x.s.look.nW,x.said.kr,x.said.bin⟩⟩)
def eD (x:cu):aX cu:=(.next ⟨x.t2,(aO (4+1)),x.s,⟨x.said.color,x.said.dJ,x.said.oY,x.said.nW,x.s.look.kr,x.s.look.bin⟩⟩)
def bu (x:cu):aX cu:=(cond (x.t7==0) (cond (x.s.cp.e0==0) (.next ⟨x.t2,(aO (0+1)),x.s,x.said⟩) (cond (x.s.cp.e0==1)
   (ew x) (cond (x.s.cp.e0==3)
   (ew x) (cond (x.s.cp.e0==5)
    (ew x) (cond (x.s.cp.e0==7)
    (ew x) (.out aG.ah.ret ⟨8,0,x.s,x.said⟩)))))) (cond (x.t7==1) (cond (x.s.cp.e1==0) (.next ⟨x.t2,(aO (1+1)),x.s,x.said⟩) (cond (x.s.cp.e1==1)
   (eA x) (cond (x.s.cp.e1==3)
    (eA x) (cond (x.s.cp.e1==5)
    (eA x) (cond (x.s.cp.e1==7)
     (eA x) (.out aG.ah.ret ⟨8,1,x.s,x.said⟩)))))) (cond (x.t7==2) (cond (x.s.cp.e2==0) (.next ⟨x.t2,(aO (2+1)),x.s,x.said⟩) (cond (x.s.cp.e2==1)
    (eB x) (cond (x.s.cp.e2==3)
    (eB x) (cond (x.s.cp.e2==5)
     (eB x) (cond (x.s.cp.e2==7)
     (eB x) (.out aG.ah.ret ⟨8,2,x.s,x.said⟩)))))) (cond (x.t7==3) (cond (x.s.cp.e3==0) (.next ⟨x.t2,(aO (3+1)),x.s,x.said⟩) (cond (x.s.cp.e3==1)
    (eC x) (cond (x.s.cp.e3==3)
     (eC x) (cond (x.s.cp.e3==5)
     (eC x) (cond (x.s.cp.e3==7)
      (eC x) (.out aG.ah.ret ⟨8,3,x.s,x.said⟩)))))) (cond (x.t7==4) (cond (x.s.cp.e4==0) (.next ⟨x.t2,(aO (4+1)),x.s,x.said⟩) (cond (x.s.cp.e4==1)
     (eD x) (cond (x.s.cp.e4==3)
     (eD x) (cond (x.s.cp.e4==5)
      (eD x) (cond (x.s.cp.e4==7)
      (eD x) (.out aG.ah.ret ⟨8,4,x.s,x.said⟩)))))) (cond (x.t7==5) (.out (aG.ah.exit 0) ⟨x.t2,5,x.s,x.said⟩) .fail))))))
theorem Ov (x:cu):bu x = .fail\/Q6 (vc x) (vd x)=aX.enc vc vd (bu x):=by
 obtain ⟨t2,t7,s,said⟩:=x
 exact (aX.lit (fun h=>by subst h; (try simp only [aX.cD,jX,kY,mQ,mS,mT,mU,mV,mW,mR,jO,mM,mN,pz,pB,pC,pD,pE,pF,pA,kX,px,py,sF,sH,sI,sJ,sK,sL,sG,mL,nH,nI,qq,qu,qv,qw,qx,qy,qt,lx,jR,jS,lj,ll,ln,lq,lr,lu,lk,iM,qo,qp,tA,tC,tD,tE,tF,tG,tB,nG,ql,qm,tl,tt,tu,tv,tw,tz,tq,nF,lh,j2,lL,lM,nB,nC,nD,nE,nA,jQ,qj,qk,s0,s9,ta,tf,tg,th,s5,nz,lK,ny,qc,qe,qf,qg,qh,qi,qd,la,qa,qb,sQ,sS,sT,sU,sX,sZ,sR,nw,nu,nv,pW,pY,pZ,p0,p8,p9,pX,k8,ns,nt,pP,pR,pS,pT,pU,pV,pQ,k7,sN,sP,xA,xC,xD,xE,xF,xG,xB,pO,rF,sM,xt,xv,xw,xx,xy,xz,xu,pN,gH,gI,iE,iH,iI,iJ,iK,iL,iG,fQ,jY,jZ,nb,ng,nh,ni,nj,nm,nf,jP,mX,mZ,pG,pI,pJ,pK,pL,pM,pH,kZ,rD,sD,vK,xn,xo,xp,xq,xr,pr,pt,sE,ue,sC,pq,mK]); kernel_rfl) (aX.lit (fun h=>by subst h; (try simp only [aX.cD,jX,kY,mQ,mS,mT,mU,mV,mW,mR,jO,mM,mN,pz,pB,pC,pD,pE,pF,pA,kX,px,py,sF,sH,sI,sJ,sK,sL,sG,mL,nH,nI,qq,qu,qv,qw,qx,qy,qt,lx,jR,jS,lj,ll,ln,lq,lr,lu,lk,iM,qo,qp,tA,tC,tD,tE,tF,tG,tB,nG,ql,qm,tl,tt,tu,tv,tw,tz,tq,nF,lh,j2,lL,lM,nB,nC,nD,nE,nA,jQ,qj,qk,s0,s9,ta,tf,tg,th,s5,nz,lK,ny,qc,qe,qf,qg,qh,qi,qd,la,qa,qb,sQ,sS,sT,sU,sX,sZ,sR,nw,nu,nv,pW,pY,pZ,p0,p8,p9,pX,k8,ns,nt,pP,pR,pS,pT,pU,pV,pQ,k7,sN,sP,xA,xC,xD,xE,xF,xG,xB,pO,rF,sM,xt,xv,xw,xx,xy,xz,xu,pN,gH,gI,iE,iH,iI,iJ,iK,iL,iG,fQ,jY,jZ,nb,ng,nh,ni,nj,nm,nf,jP,mX,mZ,pG,pI,pJ,pK,pL,pM,pH,kZ,rD,sD,vK,xn,xo,xp,xq,xr,pr,pt,sE,ue,sC,pq,mK]); kernel_rfl) (aX.lit (fun h=>by subst h; (try simp only [aX.cD,jX,kY,mQ,mS,mT,mU,mV,mW,mR,jO,mM,mN,pz,pB,pC,pD,pE,pF,pA,kX,px,py,sF,sH,sI,sJ,sK,sL,sG,mL,nH,nI,qq,qu,qv,qw,qx,qy,qt,lx,jR,jS,lj,ll,ln,lq,lr,lu,lk,iM,qo,qp,tA,tC,tD,tE,tF,tG,tB,nG,ql,qm,tl,tt,tu,tv,tw,tz,tq,nF,lh,j2,lL,lM,nB,nC,nD,nE,nA,jQ,qj,qk,s0,s9,ta,tf,tg,th,s5,nz,lK,ny,qc,qe,qf,qg,qh,qi,qd,la,qa,qb,sQ,sS,sT,sU,sX,sZ,sR,nw,nu,nv,pW,pY,pZ,p0,p8,p9,pX,k8,ns,nt,pP,pR,pS,pT,pU,pV,pQ,k7,sN,sP,xA,xC,xD,xE,xF,xG,xB,pO,rF,sM,xt,xv,xw,xx,xy,xz,xu,pN,gH,gI,iE,iH,iI,iJ,iK,iL,iG,fQ,jY,jZ,nb,ng,nh,ni,nj,nm,nf,jP,mX,mZ,pG,pI,pJ,pK,pL,pM,pH,kZ,rD,sD,vK,xn,xo,xp,xq,xr,pr,pt,sE,ue,sC,pq,mK]); kernel_rfl) (aX.lit (fun h=>by subst h; (try simp only [aX.cD,jX,kY,mQ,mS,mT,mU,mV,mW,mR,jO,mM,mN,pz,pB,pC,pD,pE,pF,pA,kX,px,py,sF,sH,sI,sJ,sK,sL,sG,mL,nH,nI,qq,qu,qv,qw,qx,qy,qt,lx,jR,jS,lj,ll,ln,lq,lr,lu,lk,iM,qo,qp,tA,tC,tD,tE,tF,tG,tB,nG,ql,qm,tl,tt,tu,tv,tw,tz,tq,nF,lh,j2,lL,lM,nB,nC,nD,nE,nA,jQ,qj,qk,s0,s9,ta,tf,tg,th,s5,nz,lK,ny,qc,qe,qf,qg,qh,qi,qd,la,qa,qb,sQ,sS,sT,sU,sX,sZ,sR,nw,nu,nv,pW,pY,pZ,p0,p8,p9,pX,k8,ns,nt,pP,pR,pS,pT,pU,pV,pQ,k7,sN,sP,xA,xC,xD,xE,xF,xG,xB,pO,rF,sM,xt,xv,xw,xx,xy,xz,xu,pN,gH,gI,iE,iH,iI,iJ,iK,iL,iG,fQ,jY,jZ,nb,ng,nh,ni,nj,nm,nf,jP,mX,mZ,pG,pI,pJ,pK,pL,pM,pH,kZ,rD,sD,vK,xn,xo,xp,xq,xr,pr,pt,sE,ue,sC,pq,mK]); kernel_rfl) (aX.lit (fun h=>by subst h; (try simp only [aX.cD,jX,kY,mQ,mS,mT,mU,mV,mW,mR,jO,mM,mN,pz,pB,pC,pD,pE,pF,pA,kX,px,py,sF,sH,sI,sJ,sK,sL,sG,mL,nH,nI,qq,qu,qv,qw,qx,qy,qt,lx,jR,jS,lj,ll,ln,lq,lr,lu,lk,iM,qo,qp,tA,tC,tD,tE,tF,tG,tB,nG,ql,qm,tl,tt,tu,tv,tw,tz,tq,nF,lh,j2,lL,lM,nB,nC,nD,nE,nA,jQ,qj,qk,s0,s9,ta,tf,tg,th,s5,nz,lK,ny,qc,qe,qf,qg,qh,qi,qd,la,qa,qb,sQ,sS,sT,sU,sX,sZ,sR,nw,nu,nv,pW,pY,pZ,p0,p8,p9,pX,k8,ns,nt,pP,pR,pS,pT,pU,pV,pQ,k7,sN,sP,xA,xC,xD,xE,xF,xG,xB,pO,rF,sM,xt,xv,xw,xx,xy,xz,xu,pN,gH,gI,iE,iH,iI,iJ,iK,iL,iG,fQ,jY,jZ,nb,ng,nh,ni,nj,nm,nf,jP,mX,mZ,pG,pI,pJ,pK,pL,pM,pH,kZ,rD,sD,vK,xn,xo,xp,xq,xr,pr,pt,sE,ue,sC,pq,mK]); kernel_rfl) (aX.lit (fun h=>by subst h; (try simp only [aX.cD,jX,kY,mQ,mS,mT,mU,mV,mW,mR,jO,mM,mN,pz,pB,pC,pD,pE,pF,pA,kX,px,py,sF,sH,sI,sJ,sK,sL,sG,mL,nH,nI,qq,qu,qv,qw,qx,qy,qt,lx,jR,jS,lj,ll,ln,lq,lr,lu,lk,iM,qo,qp,tA,tC,tD,tE,tF,tG,tB,nG,ql,qm,tl,tt,tu,tv,tw,tz,tq,nF,lh,j2,lL,lM,nB,nC,nD,nE,nA,jQ,qj,qk,s0,s9,ta,tf,tg,th,s5,nz,lK,ny,qc,qe,qf,qg,qh,qi,qd,la,qa,qb,sQ,sS,sT,sU,sX,sZ,sR,nw,nu,nv,pW,pY,pZ,p0,p8,p9,pX,k8,ns,nt,pP,pR,pS,pT,pU,pV,pQ,k7,sN,sP,xA,xC,xD,xE,xF,xG,xB,pO,rF,sM,xt,xv,xw,xx,xy,xz,xu,pN,gH,gI,iE,iH,iI,iJ,iK,iL,iG,fQ,jY,jZ,nb,ng,nh,ni,nj,nm,nf,jP,mX,mZ,pG,pI,pJ,pK,pL,pM,pH,kZ,rD,sD,vK,xn,xo,xp,xq,xr,pr,pt,sE,ue,sC,pq,mK]); kernel_rfl) (.inl rfl)))))))
def IX:Lp:=⟨60,58,IW,fun vs rs=>dR vc vd (goN bu (GI vs rs)) [aG.ah.exit 0,aG.ah.ret],false⟩
theorem Q7:IX.Ok PG:=UO funcs mixed (ak.cons Ds ak.nil) bm.nil (L:=9) (n:=9) (step:=bu) (ev:=vc) (er:=vd) (pa:=GI) rfl (fun wv wr=>⟨by kernel_rfl,by kernel_rfl⟩) Ov
def ca (s:dt):=goN bu ⟨0,0,s,⟨⟨0,0,0,0⟩,0,0,0,false,0⟩⟩
def Dt (s:dt):=mD (ca s).st.s.look
def qA (s:dt):Option (Int):=(cond ((ca s).by (aG.ah.exit 0)) (cond (!(((ca s).st.said.color.e0==(ca s).st.s.look.color.e0)&&(((ca s).st.said.color.e1==(ca s).st.s.look.color.e1)&&(((ca s).st.said.color.e2==(ca s).st.s.look.color.e2)&&(((ca s).st.said.color.e3==(ca s).st.s.look.color.e3)&&(((ca s).st.said.dJ==(ca s).st.s.look.dJ)&&(((ca s).st.said.oY==(ca s).st.s.look.oY)&&(((ca s).st.said.nW==(ca s).st.s.look.nW)&&(((ca s).st.said.kr==(ca s).st.s.look.kr)&&(((ca s).st.said.bin==(ca s).st.s.look.bin)&&true)))))))))) (some (8)) (cond (Dt s).isSome (some (((Dt s).getD default))) none)) (cond ((ca s).by aG.ah.ret) (some ((ca s).st.t2)) none))
theorem U2 (s:dt):rE [(85,Ae)] [IX] 60 [oI s] = (qA s).map (kI .i64):=by
 unfold qA
 try simp only [b6]
 kernel_rfl
def Br:List KV->KR KV:=bR PG 60 (b8 (kI .i64) fun vs=>qA (iv (v9 vs 0)))
theorem B4:bQ PG 60 Br:=dU (ak.cons Ds ak.nil) (r7 Q7 bm.nil) fun w=>U2 (iv (g0 62 (w 0)))
structure rO where
 e0:Bool
 e1:Bool
 e2:Bool
 e3:Bool
 e4:Bool
instance:Inhabited rO:=⟨⟨default,default,default,default,default⟩⟩
def akP (x:rO):List KV:=[.bool x.e0,.bool x.e1,.bool x.e2,.bool x.e3,.bool x.e4]
def oo (x:rO):KV:=.agg (akP x)
def akQ (c:Nat->KV):rO:=⟨fh (c 0),fh (c 1),fh (c 2),fh (c 3),fh (c 4)⟩
def ib (v:KV):rO:=akQ fun k=>v.cells.getD k .bf
theorem rv (x:rO):ib (oo x)=x:=rfl
theorem Yc:ib .bf=default:=rfl
theorem xT (s:Sl rO) (v:rO):s.push v=au ib (s.n+1) (aw s.n (fun i=>oo (s.get i)) (cZ [oo v])):=(fP rv Yc s v).symm
theorem xU (s t:Sl rO):s.join t=au ib (s.n+t.n) (aw s.n (fun i=>oo (s.get i)) (fun i=>oo (t.get i))):=(gL rv s t).symm
theorem zu (l:List rO):Sl.lit l=au ib l.length (cZ (l.map oo)):=(jK rv Yc l).symm
theorem zv (s:Sl rO) (i:Nat) (v:rO):s.set i v=au ib s.n (bN (fun j=>oo (s.get j)) i (oo v)):=(jL rv s i v).symm
theorem vS (s t:Sl rO) (o m:Nat):s.qS o m t=au ib s.n (az o m (fun j=>oo (s.get j)) (fun j=>oo (t.get j))):=(fM rv s t o m).symm
theorem zw (m n n' : Nat) (acc ax:Nat->KV):au ib m (aw n (fun i=>oo ((au ib n' acc).get i)) ax)=au ib m (aw n acc ax):=j8 rv ..
theorem zx (m n n' : Nat) (acc ax:Nat->KV):au ib m (aw n acc (fun i=>oo ((au ib n' ax).get i)))=au ib m (aw n acc ax):=j9 rv ..
theorem zy (m n' i:Nat) (acc:Nat->KV) (v:KV):au ib m (bN (fun j=>oo ((au ib n' acc).get j)) i v)=au ib m (bN acc i v):=kb rv ..
theorem zA (n n' o m:Nat) (acc ax:Nat->KV):au ib n (az o m (fun j=>oo ((au ib n' acc).get j)) ax)=au ib n (az o m acc ax):=kN rv ..
theorem zB (n n' o m:Nat) (acc ax:Nat->KV):au ib n (az o m acc (fun j=>oo ((au ib n' ax).get j)))=au ib n (az o m acc ax):=kO rv ..
structure cR where
 look:kd
 kept:rO
instance:Inhabited cR:=⟨⟨default,default⟩⟩
def QM (x:cR):List KV:=[.int .u8 x.look.color.e0,.int .u8 x.look.color.e1,.int .u8 x.look.color.e2,.int .u8 x.look.color.e3,.int .i64 x.look.dJ,.int .u8 x.look.oY,.int .i64 x.look.nW,.bool x.look.kr,.int .i64 x.look.bin,.bool x.kept.e0,.bool x.kept.e1,.bool x.kept.e2,.bool x.kept.e3,.bool x.kept.e4]
def jC (x:cR):KV:=.agg (QM x)
def QN (c:Nat->KV):cR:=⟨⟨⟨av (c 0),av (c 1),av (c 2),av (c 3)⟩,av (c 4),av (c 5),av (c 6),fh (c 7),av (c 8)⟩,⟨fh (c 9),fh (c 10),fh (c 11),fh (c 12),fh (c 13)⟩⟩
def gi (v:KV):cR:=QN fun k=>v.cells.getD k .bf
theorem rz (x:cR):gi (jC x)=x:=rfl
theorem Yd:gi .bf=default:=rfl
theorem xV (s:Sl cR) (v:cR):s.push v=au gi (s.n+1) (aw s.n (fun i=>jC (s.get i)) (cZ [jC v])):=(fP rz Yd s v).symm
theorem xW (s t:Sl cR):s.join t=au gi (s.n+t.n) (aw s.n (fun i=>jC (s.get i)) (fun i=>jC (t.get i))):=(gL rz s t).symm
theorem zC (l:List cR):Sl.lit l=au gi l.length (cZ (l.map jC)):=(jK rz Yd l).symm
theorem zD (s:Sl cR) (i:Nat) (v:cR):s.set i v=au gi s.n (bN (fun j=>jC (s.get j)) i (jC v)):=(jL rz s i v).symm
theorem vT (s t:Sl cR) (o m:Nat):s.qS o m t=au gi s.n (az o m (fun j=>jC (s.get j)) (fun j=>jC (t.get j))):=(fM rz s t o m).symm
theorem zF (m n n' : Nat) (acc ax:Nat->KV):au gi m (aw n (fun i=>jC ((au gi n' acc).get i)) ax)=au gi m (aw n acc ax):=j8 rz ..
theorem zG (m n n' : Nat) (acc ax:Nat->KV):au gi m (aw n acc (fun i=>jC ((au gi n' ax).get i)))=au gi m (aw n acc ax):=j9 rz ..
theorem zH (m n' i:Nat) (acc:Nat->KV) (v:KV):au gi m (bN (fun j=>jC ((au gi n' acc).get j)) i v)=au gi m (bN acc i v):=kb rz ..
theorem zI (n n' o m:Nat) (acc ax:Nat->KV):au gi n (az o m (fun j=>jC ((au gi n' acc).get j)) ax)=au gi n (az o m acc ax):=kN rz ..
theorem zJ (n n' o m:Nat) (acc ax:Nat->KV):au gi n (az o m acc (fun j=>jC ((au gi n' ax).get j)))=au gi n (az o m acc ax):=kO rz ..
structure cS where
 t14:Int
 i:cR
 s:dt
 t4:cR
instance:Inhabited cS:=⟨⟨default,default,default,default⟩⟩
def ve (x:cS):List KV:=[.agg [.fn (.func 96) [] [],.fn (.func 97) [] [],.fn (.func 98) [] [],.fn (.func 99) [] [],.fn (.func 100) [] []],.int .i64 x.t14]
def vf (x:cS):List (List KV):=[QM x.i,aeF x.s,QM x.t4]
def GJ (vs:List KV) (rs:List (List KV)):cS:=⟨av (v9 vs 1),QN (r9 rs 0),aeG (r9 rs 1),QN (r9 rs 2)⟩
def IY:aJ:=⟨[(13,⟨true,[.lit (.fn (.func 96) [] []),.lit (.fn (.func 97) [] []),.lit (.fn (.func 98) [] []),.lit (.fn (.func 99) [] []),.lit (.fn (.func 100) [] [])]⟩),(14,w9 i9)],[(2,[u9,u9,u9,u9,i9,u9,i9,b9,i9,b9,b9,b9,b9,b9],1),(3,[u9,u9,u9,u9,u9,u9,u9,u9,u9,i9,u9,i9,b9,i9],1),(4,[u9,u9,u9,u9,i9,u9,i9,b9,i9,b9,b9,b9,b9,b9],1)],[(2,0,0),(3,1,0),(4,2,0)]⟩
def Q8:=BU [] [] 61 58 IY
def AY (x:cS):aX cS:=(.next ⟨(aO (0+1)),⟨⟨x.s.look.color,x.i.look.dJ,x.i.look.oY,x.i.look.nW,x.i.look.kr,x.i.look.bin⟩,⟨((w8 (((Fo IntKind.u8 x.s.cp.e0 2):Nat):Int)) != 0),x.i.kept.e1,x.i.kept.e2,x.i.kept.e3,x.i.kept.e4⟩⟩,x.s,x.t4⟩)
def AZ (x:cS):aX cS:=(.next ⟨(aO (1+1)),⟨⟨x.i.look.color,x.s.look.dJ,x.i.look.oY,x.i.look.nW,x.i.look.kr,x.i.look.bin⟩,⟨x.i.kept.e0,((w8 (((Fo IntKind.u8 x.s.cp.e1 2):Nat):Int)) != 0),x.i.kept.e2,x.i.kept.e3,x.i.kept.e4⟩⟩,x.s,x.t4⟩)
def A5 (x:cS):aX cS:=(.next ⟨(aO (2+1)),⟨⟨x.i.look.color,x.i.look.dJ,x.s.look.oY,x.i.look.nW,x.i.look.kr,x.i.look.bin⟩,⟨x.i.kept.e0,x.i.kept.e1,((w8 (((Fo IntKind.u8 x.s.cp.e2 2):Nat):Int)) != 0),x.i.kept.e3,x.i.kept.e4⟩⟩,x.s,x.t4⟩)
def A6 (x:cS):aX cS:=(.next ⟨(aO (3+1)),⟨⟨x.i.look.color,x.i.look.dJ,x.i.look.oY,x.s.look.nW,x.i.look.kr,x.i.look.bin⟩,⟨x.i.kept.e0,x.i.kept.e1,x.i.kept.e2,((w8 (((Fo IntKind.u8 x.s.cp.e3 2):Nat):Int)) != 0),x.i.kept.e4⟩⟩,x.s,x.t4⟩)
def A7 (x:cS):aX cS:=(.next ⟨(aO (4+1)),⟨⟨x.i.look.color,x.i.look.dJ,x.i.look.oY,x.i.look.nW,x.s.look.kr,x.s.look.bin⟩,⟨x.i.kept.e0,x.i.kept.e1,x.i.kept.e2,x.i.kept.e3,((w8 (((Fo IntKind.u8 x.s.cp.e4 2):Nat):Int)) != 0)⟩⟩,x.s,x.t4⟩)
def eT (x:cS):aX cS:=(cond (x.t14==0) (cond (x.s.cp.e0==0) (.next ⟨(aO (0+1)),x.i,x.s,x.t4⟩) (cond x.i.kept.e0 (cond ((w8 (((Fo IntKind.u8 x.s.cp.e0 4):Nat):Int))==0) (.next ⟨(aO (0+1)),x.i,x.s,x.t4⟩)
   (AY x))
   (AY x))) (cond (x.t14==1) (cond (x.s.cp.e1==0) (.next ⟨(aO (1+1)),x.i,x.s,x.t4⟩) (cond x.i.kept.e1 (cond ((w8 (((Fo IntKind.u8 x.s.cp.e1 4):Nat):Int))==0) (.next ⟨(aO (1+1)),x.i,x.s,x.t4⟩)
    (AZ x))
   (AZ x))) (cond (x.t14==2) (cond (x.s.cp.e2==0) (.next ⟨(aO (2+1)),x.i,x.s,x.t4⟩) (cond x.i.kept.e2 (cond ((w8 (((Fo IntKind.u8 x.s.cp.e2 4):Nat):Int))==0) (.next ⟨(aO (2+1)),x.i,x.s,x.t4⟩)
    (A5 x))
    (A5 x))) (cond (x.t14==3) (cond (x.s.cp.e3==0) (.next ⟨(aO (3+1)),x.i,x.s,x.t4⟩) (cond x.i.kept.e3 (cond ((w8 (((Fo IntKind.u8 x.s.cp.e3 4):Nat):Int))==0) (.next ⟨(aO (3+1)),x.i,x.s,x.t4⟩)
     (A6 x))
    (A6 x))) (cond (x.t14==4) (cond (x.s.cp.e4==0) (.next ⟨(aO (4+1)),x.i,x.s,x.t4⟩) (cond x.i.kept.e4 (cond ((w8 (((Fo IntKind.u8 x.s.cp.e4 4):Nat):Int))==0) (.next ⟨(aO (4+1)),x.i,x.s,x.t4⟩)
     (A7 x))
     (A7 x))) (cond (x.t14==5) (.out (aG.ah.exit 0) ⟨5,x.i,x.s,x.t4⟩) .fail))))))
theorem Ow (x:cS):eT x = .fail\/Q8 (ve x) (vf x)=aX.enc ve vf (eT x):=by
 obtain ⟨t14,i,s,t4⟩:=x
 exact (aX.lit (fun h=>by subst h; (try simp only [aX.cD,xV,xW,zC,zF,zG,zH,zI,zJ,zD,vT,xT,xU,zu,zw,zx,zy,zA,zB,zv,vS,jX,kY,mQ,mS,mT,mU,mV,mW,mR,jO,mM,mN,pz,pB,pC,pD,pE,pF,pA,kX,px,py,sF,sH,sI,sJ,sK,sL,sG,mL,nH,nI,qq,qu,qv,qw,qx,qy,qt,lx,jR,jS,lj,ll,ln,lq,lr,lu,lk,iM,qo,qp,tA,tC,tD,tE,tF,tG,tB,nG,ql,qm,tl,tt,tu,tv,tw,tz,tq,nF,lh,j2,lL,lM,nB,nC,nD,nE,nA,jQ,qj,qk,s0,s9,ta,tf,tg,th,s5,nz,lK,ny,qc,qe,qf,qg,qh,qi,qd,la,qa,qb,sQ,sS,sT,sU,sX,sZ,sR,nw,nu,nv,pW,pY,pZ,p0,p8,p9,pX,k8,ns,nt,pP,pR,pS,pT,pU,pV,pQ,k7,sN,sP,xA,xC,xD,xE,xF,xG,xB,pO,rF,sM,xt,xv,xw,xx,xy,xz,xu,pN,gH,gI,iE,iH,iI,iJ,iK,iL,iG,fQ,jY,jZ,nb,ng,nh,ni,nj,nm,nf,jP,mX,mZ,pG,pI,pJ,pK,pL,pM,pH,kZ,rD,sD,vK,xn,xo,xp,xq,xr,pr,pt,sE,ue,sC,pq,mK]); kernel_rfl) (aX.lit (fun h=>by subst h; (try simp only [aX.cD,xV,xW,zC,zF,zG,zH,zI,zJ,zD,vT,xT,xU,zu,zw,zx,zy,zA,zB,zv,vS,jX,kY,mQ,mS,mT,mU,mV,mW,mR,jO,mM,mN,pz,pB,pC,pD,pE,pF,pA,kX,px,py,sF,sH,sI,sJ,sK,sL,sG,mL,nH,nI,qq,qu,qv,qw,qx,qy,qt,lx,jR,jS,lj,ll,ln,lq,lr,lu,lk,iM,qo,qp,tA,tC,tD,tE,tF,tG,tB,nG,ql,qm,tl,tt,tu,tv,tw,tz,tq,nF,lh,j2,lL,lM,nB,nC,nD,nE,nA,jQ,qj,qk,s0,s9,ta,tf,tg,th,s5,nz,lK,ny,qc,qe,qf,qg,qh,qi,qd,la,qa,qb,sQ,sS,sT,sU,sX,sZ,sR,nw,nu,nv,pW,pY,pZ,p0,p8,p9,pX,k8,ns,nt,pP,pR,pS,pT,pU,pV,pQ,k7,sN,sP,xA,xC,xD,xE,xF,xG,xB,pO,rF,sM,xt,xv,xw,xx,xy,xz,xu,pN,gH,gI,iE,iH,iI,iJ,iK,iL,iG,fQ,jY,jZ,nb,ng,nh,ni,nj,nm,nf,jP,mX,mZ,pG,pI,pJ,pK,pL,pM,pH,kZ,rD,sD,vK,xn,xo,xp,xq,xr,pr,pt,sE,ue,sC,pq,mK]); kernel_rfl) (aX.lit (fun h=>by subst h; (try simp only [aX.cD,xV,xW,zC,zF,zG,zH,zI,zJ,zD,vT,xT,xU,zu,zw,zx,zy,zA,zB,zv,vS,jX,kY,mQ,mS,mT,mU,mV,mW,mR,jO,mM,mN,pz,pB,pC,pD,pE,pF,pA,kX,px,py,sF,sH,sI,sJ,sK,sL,sG,mL,nH,nI,qq,qu,qv,qw,qx,qy,qt,lx,jR,jS,lj,ll,ln,lq,lr,lu,lk,iM,qo,qp,tA,tC,tD,tE,tF,tG,tB,nG,ql,qm,tl,tt,tu,tv,tw,tz,tq,nF,lh,j2,lL,lM,nB,nC,nD,nE,nA,jQ,qj,qk,s0,s9,ta,tf,tg,th,s5,nz,lK,ny,qc,qe,qf,qg,qh,qi,qd,la,qa,qb,sQ,sS,sT,sU,sX,sZ,sR,nw,nu,nv,pW,pY,pZ,p0,p8,p9,pX,k8,ns,nt,pP,pR,pS,pT,pU,pV,pQ,k7,sN,sP,xA,xC,xD,xE,xF,xG,xB,pO,rF,sM,xt,xv,xw,xx,xy,xz,xu,pN,gH,gI,iE,iH,iI,iJ,iK,iL,iG,fQ,jY,jZ,nb,ng,nh,ni,nj,nm,nf,jP,mX,mZ,pG,pI,pJ,pK,pL,pM,pH,kZ,rD,sD,vK,xn,xo,xp,xq,xr,pr,pt,sE,ue,sC,pq,mK]); kernel_rfl) (aX.lit (fun h=>by subst h; (try simp only [aX.cD,xV,xW,zC,zF,zG,zH,zI,zJ,zD,vT,xT,xU,zu,zw,zx,zy,zA,zB,zv,vS,jX,kY,mQ,mS,mT,mU,mV,mW,mR,jO,mM,mN,pz,pB,pC,pD,pE,pF,pA,kX,px,py,sF,sH,sI,sJ,sK,sL,sG,mL,nH,nI,qq,qu,qv,qw,qx,qy,qt,lx,jR,jS,lj,ll,ln,lq,lr,lu,lk,iM,qo,qp,tA,tC,tD,tE,tF,tG,tB,nG,ql,qm,tl,tt,tu,tv,tw,tz,tq,nF,lh,j2,lL,lM,nB,nC,nD,nE,nA,jQ,qj,qk,s0,s9,ta,tf,tg,th,s5,nz,lK,ny,qc,qe,qf,qg,qh,qi,qd,la,qa,qb,sQ,sS,sT,sU,sX,sZ,sR,nw,nu,nv,pW,pY,pZ,p0,p8,p9,pX,k8,ns,nt,pP,pR,pS,pT,pU,pV,pQ,k7,sN,sP,xA,xC,xD,xE,xF,xG,xB,pO,rF,sM,xt,xv,xw,xx,xy,xz,xu,pN,gH,gI,iE,iH,iI,iJ,iK,iL,iG,fQ,jY,jZ,nb,ng,nh,ni,nj,nm,nf,jP,mX,mZ,pG,pI,pJ,pK,pL,pM,pH,kZ,rD,sD,vK,xn,xo,xp,xq,xr,pr,pt,sE,ue,sC,pq,mK]); kernel_rfl) (aX.lit (fun h=>by subst h; (try simp only [aX.cD,xV,xW,zC,zF,zG,zH,zI,zJ,zD,vT,xT,xU,zu,zw,zx,zy,zA,zB,zv,vS,jX,kY,mQ,mS,mT,mU,mV,mW,mR,jO,mM,mN,pz,pB,pC,pD,pE,pF,pA,kX,px,py,sF,sH,sI,sJ,sK,sL,sG,mL,nH,nI,qq,qu,qv,qw,qx,qy,qt,lx,jR,jS,lj,ll,ln,lq,lr,lu,lk,iM,qo,qp,tA,tC,tD,tE,tF,tG,tB,nG,ql,qm,tl,tt,tu,tv,tw,tz,tq,nF,lh,j2,lL,lM,nB,nC,nD,nE,nA,jQ,qj,qk,s0,s9,ta,tf,tg,th,s5,nz,lK,ny,qc,qe,qf,qg,qh,qi,qd,la,qa,qb,sQ,sS,sT,sU,sX,sZ,sR,nw,nu,nv,pW,pY,pZ,p0,p8,p9,pX,k8,ns,nt,pP,pR,pS,pT,pU,pV,pQ,k7,sN,sP,xA,xC,xD,xE,xF,xG,xB,pO,rF,sM,xt,xv,xw,xx,xy,xz,xu,pN,gH,gI,iE,iH,iI,iJ,iK,iL,iG,fQ,jY,jZ,nb,ng,nh,ni,nj,nm,nf,jP,mX,mZ,pG,pI,pJ,pK,pL,pM,pH,kZ,rD,sD,vK,xn,xo,xp,xq,xr,pr,pt,sE,ue,sC,pq,mK]); kernel_rfl) (aX.lit (fun h=>by subst h; (try simp only [aX.cD,xV,xW,zC,zF,zG,zH,zI,zJ,zD,vT,xT,xU,zu,zw,zx,zy,zA,zB,zv,vS,jX,kY,mQ,mS,mT,mU,mV,mW,mR,jO,mM,mN,pz,pB,pC,pD,pE,pF,pA,kX,px,py,sF,sH,sI,sJ,sK,sL,sG,mL,nH,nI,qq,qu,qv,qw,qx,qy,qt,lx,jR,jS,lj,ll,ln,lq,lr,lu,lk,iM,qo,qp,tA,tC,tD,tE,tF,tG,tB,nG,ql,qm,tl,tt,tu,tv,tw,tz,tq,nF,lh,j2,lL,lM,nB,nC,nD,nE,nA,jQ,qj,qk,s0,s9,ta,tf,tg,th,s5,nz,lK,ny,qc,qe,qf,qg,qh,qi,qd,la,qa,qb,sQ,sS,sT,sU,sX,sZ,sR,nw,nu,nv,pW,pY,pZ,p0,p8,p9,pX,k8,ns,nt,pP,pR,pS,pT,pU,pV,pQ,k7,sN,sP,xA,xC,xD,xE,xF,xG,xB,pO,rF,sM,xt,xv,xw,xx,xy,xz,xu,pN,gH,gI,iE,iH,iI,iJ,iK,iL,iG,fQ,jY,jZ,nb,ng,nh,ni,nj,nm,nf,jP,mX,mZ,pG,pI,pJ,pK,pL,pM,pH,kZ,rD,sD,vK,xn,xo,xp,xq,xr,pr,pt,sE,ue,sC,pq,mK]); kernel_rfl) (.inl rfl)))))))
def IZ:Lp:=⟨61,58,IY,fun vs rs=>dR ve vf (goN eT (GJ vs rs)) [aG.ah.exit 0],false⟩
theorem Q9:IZ.Ok PG:=UO funcs mixed ak.nil bm.nil (L:=9) (n:=9) (step:=eT) (ev:=ve) (er:=vf) (pa:=GJ) rfl (fun wv wr=>⟨by kernel_rfl,by kernel_rfl⟩) Ow
def Du (i:cR) (s:dt):=goN eT ⟨0,i,s,⟨⟨⟨0,0,0,0⟩,0,0,0,false,0⟩,⟨false,false,false,false,false⟩⟩⟩
def tH (i:cR) (s:dt):Option (cR):=(cond ((s.cp.e0==0)&&((s.cp.e1==0)&&((s.cp.e2==0)&&((s.cp.e3==0)&&((s.cp.e4==0)&&true))))) (some (i)) (cond ((Du i s).by (aG.ah.exit 0)) (some ((Du i s).st.i)) none))
theorem U3 (i:cR) (s:dt):rE [] [IZ] 61 [jC i,oI s] = (tH i s).map jC:=by
 unfold tH
 try simp only [b6]
 kernel_rfl
def Gh:List KV->KR KV:=bR PG 61 (b8 jC fun vs=>tH (gi (v9 vs 0)) (iv (v9 vs 1)))
theorem I0:bQ PG 61 Gh:=dU ak.nil (r7 Q9 bm.nil) fun w=>U3 (gi (g0 158 (w 0))) (iv (g0 62 (w 1)))
def vU (n:Int) (lO:Int):Option (Bool):=(cond (decide (n >= (aO (0 - lO)))) (some ((decide (n<=lO)))) (some (false)))
theorem WM (n:Int) (lO:Int):rE [] [] 65 [(kI .i64) n,(kI .i64) lO] = (vU n lO).map kB:=by
 unfold vU
 try simp only [b6]
 kernel_rfl
def PE:List KV->KR KV:=bR PG 65 (b8 kB fun vs=>vU (av (v9 vs 0)) (av (v9 vs 1)))
theorem U4:bQ PG 65 PE:=dU ak.nil bm.nil fun w=>WM (av (g0 3 (w 0))) (av (g0 3 (w 1)))
def I1 (v:dI):=vU v.x 1024
def I2 (v:dI):=vU v.y 1024
def I3 (v:dI):=vU v.z 1024
def EC (v:dI):Option (Bool):=(cond (I1 v).isSome (cond (!((I1 v).getD default)) (some (true)) (cond (I2 v).isSome (cond (!((I2 v).getD default)) (some (true)) (cond (I3 v).isSome (some ((!((I3 v).getD default)))) none)) none)) none)
theorem Te (v:dI):rE [(65,PE)] [] 64 [np v] = (EC v).map kB:=by
 unfold EC
 try simp only [b6]
 kernel_rfl
def zL:List KV->KR KV:=bR PG 64 (b8 kB fun vs=>EC (jV (v9 vs 0)))
theorem Af:bQ PG 64 zL:=dU (ak.cons U4 ak.nil) bm.nil fun w=>Te (jV (g0 36 (w 0)))
def ED (p:kz):Option (Bool):=(cond (decide (p.e0 < 0)) (some (true)) (cond (decide (p.e0 > 255)) (some (true)) (cond (decide (p.e1 < 0)) (some (true)) (some ((decide (p.e1 > 255)))))))
theorem Tf (p:kz):rE [] [] 66 [jo p] = (ED p).map kB:=by
 unfold ED
 try simp only [b6]
 kernel_rfl
def zM:List KV->KR KV:=bR PG 66 (b8 kB fun vs=>ED (fB (v9 vs 0)))
theorem Ag:bQ PG 66 zM:=dU ak.nil bm.nil fun w=>Tf (fB (g0 125 (w 0)))
def Bs (p:Prim):Option (Bool):=(cond ((p.index.n:Int)==0) (some (true)) (some ((decide ((p.index.n:Int) >= 3)))))
def zN (p:Prim):Option (Bool):=(cond (p.kind==0) (some (((Int.tmod (p.index.n:Int) 3)==0))) (cond (p.kind==1)
  (Bs p) (cond (p.kind==2)
   (Bs p) (some (false)))))
theorem abl (p:Prim):rE [] [] 95 [vQ p] = (zN p).map kB:=by
 unfold zN Bs
 try simp only [b6]
 kernel_rfl
def Nr:List KV->KR KV:=bR PG 95 (b8 kB fun vs=>zN (mu (v9 vs 0)))
theorem N4:bQ PG 95 Nr:=dU ak.nil bm.nil fun w=>abl (mu (g0 120 (w 0)))
structure ee where
 t2:(Sl dm)
 t3:Int
 out:(Sl dm)
 l:(Sl Int)
 i:Int
 p:Prim
instance:Inhabited ee:=⟨by constructor<;>exact default⟩
def Dv (x:ee):List KV:=[dL 51 eP x.t2,.int .i64 x.t3,dL 51 eP x.out,dL 3 (kI .i64) x.l,.int .i64 x.i]
def Dw (x:ee):List (List KV):=[amE x.p]
def Ka (vs:List KV) (rs:List (List KV)):ee:=⟨eX fc (v9 vs 0),av (v9 vs 1),eX fc (v9 vs 2),eX av (v9 vs 3),av (v9 vs 4),amF (r9 rs 0)⟩
def Mg:aJ:=⟨[(2,w9 (n9 51)),(3,w9 i9),(4,⟨false,[.aP 51]⟩),(5,w9 (n9 3)),(6,w9 i9)],[(1,[u9,n9 3],1)],[(1,0,0)]⟩
def U5:=BU [(95,Nr)] [] 83 250 Mg
def qU (x:ee):aX ee:=(cond ((decide (0<=x.i))&&(decide (x.i < (x.l.n:Int)))) (cond ((decide (0<=(aO (x.i+1))))&&(decide ((aO (x.i+1)) < (x.l.n:Int)))) (cond ((decide (0<=(aO (x.i+2))))&&(decide ((aO (x.i+2)) < (x.l.n:Int)))) (cond ((ai x.out.n x.out.n)&&(dT 24 x.out.n 1)) (cond (ai (x.out.n+1) (x.out.n+1)) (.next ⟨x.t2,x.t3,(x.out.push ⟨(x.l.get (Int.toNat x.i)),(x.l.get (Int.toNat (aO (x.i+1)))),(x.l.get (Int.toNat (aO (x.i+2))))⟩),x.l,(aO (x.i+1)),x.p⟩) .fail) .fail) .fail) .fail) .fail)
def qV (x:ee):aX ee:=(cond (x.p.kind==1) (cond ((decide (0<=(aO (x.i+1))))&&(decide ((aO (x.i+1)) < (x.l.n:Int)))) (cond ((decide (0<=x.i))&&(decide (x.i < (x.l.n:Int)))) (cond ((decide (0<=(aO (x.i+2))))&&(decide ((aO (x.i+2)) < (x.l.n:Int)))) (cond ((ai x.out.n x.out.n)&&(dT 24 x.out.n 1)) (cond (ai (x.out.n+1) (x.out.n+1)) (.next ⟨x.t2,x.t3,(x.out.push ⟨(x.l.get (Int.toNat (aO (x.i+1)))),(x.l.get (Int.toNat x.i)),(x.l.get (Int.toNat (aO (x.i+2))))⟩),x.l,(aO (x.i+1)),x.p⟩) .fail) .fail) .fail) .fail) .fail) (cond (x.p.kind==2) (cond (decide (0 < (x.l.n:Int))) (cond ((decide (0<=(aO (x.i+1))))&&(decide ((aO (x.i+1)) < (x.l.n:Int)))) (cond ((decide (0<=(aO (x.i+2))))&&(decide ((aO (x.i+2)) < (x.l.n:Int)))) (cond ((ai x.out.n x.out.n)&&(dT 24 x.out.n 1)) (cond (ai (x.out.n+1) (x.out.n+1)) (.next ⟨x.t2,x.t3,(x.out.push ⟨(x.l.get 0),(x.l.get (Int.toNat (aO (x.i+1)))),(x.l.get (Int.toNat (aO (x.i+2))))⟩),x.l,(aO (x.i+1)),x.p⟩) .fail) .fail) .fail) .fail) .fail) (cond (ai x.out.n x.out.n) (.next ⟨x.t2,x.t3,x.out,x.l,(aO (x.i+1)),x.p⟩) .fail)))
def qW (x:ee):aX ee:=(cond (x.p.kind==1) (cond ((Int.tmod x.i 2)==0)
  (qU x)
  (qV x))
  (qV x))
def ku (x:ee):aX ee:=(cond (decide ((aO (x.i+2)) < (x.l.n:Int))) (cond (x.p.kind==0) (cond ((Int.tmod x.i 3)==0)
   (qU x)
   (qW x))
  (qW x)) (cond (ai x.out.n x.out.n) (.out (aG.ah.exit 1) x) .fail))
theorem Ra (x:ee):U5 (Dv x) (Dw x)=aX.enc Dv Dw (ku x):=by
 unfold ku qW qV qU
 try simp only [aX.cD,jY]
 kernel_rfl
def Mh:Lp:=⟨83,250,Mg,fun vs rs=>dR Dv Dw (goN ku (Ka vs rs)) [aG.ah.exit 1],false⟩
theorem U6:Mh.Ok PG:=CA (ak.cons N4 ak.nil) bm.nil (pa:=Ka) Ra
def I4 (p:Prim):=zN p
def I5 (p:Prim):=goN ku ⟨⟨0,(fun i=>⟨0,0,0⟩)⟩,0,⟨0,(fun i=>⟨0,0,0⟩)⟩,p.index,0,p⟩
def zO (p:Prim):Option ((Sl dm)×Int):=(cond (decide (p.kind > 2)) (some (⟨0,(fun i=>⟨0,0,0⟩)⟩,2)) (cond (decide ((p.index.n:Int) > 200)) (some (⟨0,(fun i=>⟨0,0,0⟩)⟩,4)) (cond (I4 p).isSome (cond (!((I4 p).getD default)) (some (⟨0,(fun i=>⟨0,0,0⟩)⟩,40)) (cond ((I5 p).by (aG.ah.exit 1)) (some ((I5 p).st.out,0)) none)) none)))
theorem abm (p:Prim):rE [(95,Nr)] [Mh] 83 [vQ p] = (zO p).map (fun (r:(Sl dm)×Int)=>KV.ma [(dL 51 eP) r.1,(kI .i64) r.2]):=by
 unfold zO
 try simp only [b6]
 kernel_rfl
def Hr:List KV->KR KV:=bR PG 83 (b8 (fun (r:(Sl dm)×Int)=>KV.ma [(dL 51 eP) r.1,(kI .i64) r.2]) fun vs=>zO (mu (v9 vs 0)))
theorem Gi:bQ PG 83 Hr:=dU (ak.cons N4 ak.nil) (r7 U6 bm.nil) fun w=>abm (mu (g0 120 (w 0)))
structure fR where
 t2:(Sl dm)
 t3:Bool
 out:(Sl dm)
 t12:(Sl Prim)
 t13:Int
 t14:Int
 m:gW
instance:Inhabited fR:=⟨by constructor<;>exact default⟩
def EE (x:fR):List KV:=[dL 51 eP x.t2,.bool x.t3,dL 51 eP x.out,dL 120 vQ x.t12,.int .i64 x.t13,.int .i64 x.t14]
def EF (x:fR):List (List KV):=[abc x.m]
def Mi (vs:List KV) (rs:List (List KV)):fR:=⟨eX fc (v9 vs 0),fh (v9 vs 1),eX fc (v9 vs 2),eX mu (v9 vs 3),av (v9 vs 4),av (v9 vs 5),abd (r9 rs 0)⟩
def N5:aJ:=⟨[(2,w9 (n9 51)),(3,w9 b9),(4,⟨false,[.aP 51]⟩),(12,w9 (n9 120)),(13,w9 i9),(14,w9 i9)],[(1,[n9 36,n9 125,n9 120],1)],[(1,0,0)]⟩
structure ff where
 t2:(Sl dm)
 t3:Bool
 out:(Sl dm)
 t12:(Sl Prim)
 t13:Int
 t14:Int
 t34:(Sl Int)
 t35:Int
 t36:Int
 m:gW
instance:Inhabited ff:=⟨by constructor<;>exact default⟩
def yT (x:ff):List KV:=[dL 51 eP x.t2,.bool x.t3,dL 51 eP x.out,dL 120 vQ x.t12,.int .i64 x.t13,.int .i64 x.t14,dL 3 (kI .i64) x.t34,.int .i64 x.t35,.int .i64 x.t36]
def yU (x:ff):List (List KV):=[abc x.m]
def FD (vs:List KV) (rs:List (List KV)):ff:=⟨eX fc (v9 vs 0),fh (v9 vs 1),eX fc (v9 vs 2),eX mu (v9 vs 3),av (v9 vs 4),av (v9 vs 5),eX av (v9 vs 6),av (v9 vs 7),av (v9 vs 8),abd (r9 rs 0)⟩
def GK:aJ:=⟨[(2,w9 (n9 51)),(3,w9 b9),(4,⟨false,[.aP 51]⟩),(12,w9 (n9 120)),(13,w9 i9),(14,w9 i9),(34,w9 (n9 3)),(35,w9 i9),(36,w9 i9)],[(1,[n9 36,n9 125,n9 120],1)],[(1,0,0)]⟩
def PF:=BU [(83,Hr)] [] 58 119614 GK
def ke (x:ff):aX ff:=(cond (ai x.out.n x.out.n) (.out aG.ah.ret ⟨⟨0,(fun i=>⟨0,0,0⟩)⟩,false,x.out,x.t12,x.t13,x.t14,x.t34,x.t35,x.t36,x.m⟩) .fail)
def fk (x:ff):aX ff:=(cond (decide (x.t36 < x.t35)) (cond ((decide (0<=x.t36))&&(decide (x.t36 < (x.t34.n:Int)))) (cond (decide ((x.t34.get (Int.toNat x.t36)) < 0))
   (ke x) (cond (decide ((x.t34.get (Int.toNat x.t36)) >= (x.m.aC.n:Int)))
   (ke x) (cond (ai x.out.n x.out.n) (.next ⟨x.t2,x.t3,x.out,x.t12,x.t13,x.t14,x.t34,x.t35,(aO (x.t36+1)),x.m⟩) .fail))) .fail) (cond (ai x.out.n x.out.n) (.out (aG.ah.exit 2) x) .fail))
theorem Ns (x:ff):PF (yT x) (yU x)=aX.enc yT yU (fk x):=by
 unfold fk ke
 try simp only [aX.cD]
 kernel_rfl
def Ai:Lp:=⟨58,119614,GK,fun vs rs=>dR yT yU (goN fk (FD vs rs)) [aG.ah.exit 2,aG.ah.ret],false⟩
theorem FE:Ai.Ok PG:=CA (ak.cons Gi ak.nil) bm.nil (pa:=FD) Ns
def WN:=BU [(83,Hr)] [Ai] 58 58 N5
def fZ (x:fR):=zO (x.t12.get (Int.toNat x.t14))
def cl (x:fR):=goN fk ⟨x.t2,x.t3,(x.out.join ((fZ x).getD default).fst),x.t12,x.t13,x.t14,(x.t12.get (Int.toNat x.t14)).index,((x.t12.get (Int.toNat x.t14)).index.n:Int),0,x.m⟩
def rX (x:fR):aX fR:=(cond (ai (x.out.n+((fZ x).getD default).fst.n) (x.out.n+((fZ x).getD default).fst.n)) (.out aG.ah.ret ⟨⟨0,(fun i=>⟨0,0,0⟩)⟩,false,(x.out.join ((fZ x).getD default).fst),x.t12,x.t13,x.t14,x.m⟩) .fail)
def oq (x:fR):aX fR:=(cond (decide (x.t14 < x.t13)) (cond ((decide (0<=x.t14))&&(decide (x.t14 < (x.t12.n:Int)))) (cond (fZ x).isSome (cond ((ai x.out.n x.out.n)&&(dT 24 x.out.n ((fZ x).getD default).fst.n)) (cond (((fZ x).getD default).snd != 0)
    (rX x) (cond (decide ((((x.out.n+((fZ x).getD default).fst.n):Nat):Int) > 64))
    (rX x) (cond (ai (x.out.n+((fZ x).getD default).fst.n) (x.out.n+((fZ x).getD default).fst.n)) (cond ((cl x).by (aG.ah.exit 2)) (cond (ai (cl x).st.out.n (cl x).st.out.n) (.next ⟨(cl x).st.t2,(cl x).st.t3,(cl x).st.out,(cl x).st.t12,(cl x).st.t13,(aO ((cl x).st.t14+1)),(cl x).st.m⟩) .fail) (cond ((cl x).by aG.ah.ret) (cond (ai (cl x).st.out.n (cl x).st.out.n) (.out aG.ah.ret ⟨(cl x).st.t2,(cl x).st.t3,(cl x).st.out,(cl x).st.t12,(cl x).st.t13,(cl x).st.t14,(cl x).st.m⟩) .fail) .fail)) .fail))) .fail) .fail) .fail) (cond (ai x.out.n x.out.n) (.out (aG.ah.exit 0) x) .fail))
theorem Tg (x:fR):WN (EE x) (EF x)=aX.enc EE EF (oq x):=by
 unfold oq rX
 try simp only [aX.cD,cl,jZ]
 kernel_rfl
def N6:Lp:=⟨58,58,N5,fun vs rs=>dR EE EF (goN oq (Mi vs rs)) [aG.ah.exit 0,aG.ah.ret],false⟩
theorem WO:N6.Ok PG:=CA (ak.cons Gi ak.nil) (r7 FE bm.nil) (pa:=Mi) Tg
def vV (m:gW):=goN oq ⟨⟨0,(fun i=>⟨0,0,0⟩)⟩,false,⟨0,(fun i=>⟨0,0,0⟩)⟩,m.fY,(m.fY.n:Int),0,m⟩
def wR (m:gW):Option ((Sl dm)×Bool):=(cond ((vV m).by (aG.ah.exit 0)) (some ((vV m).st.out,true)) (cond ((vV m).by aG.ah.ret) (some ((vV m).st.t2,(vV m).st.t3)) none))
theorem abn (m:gW):rE [(83,Hr)] [Ai,N6] 58 [uH m] = (wR m).map (fun (r:(Sl dm)×Bool)=>KV.ma [(dL 51 eP) r.1,kB r.2]):=by
 unfold wR
 try simp only [b6]
 kernel_rfl
def Dx:List KV->KR KV:=bR PG 58 (b8 (fun (r:(Sl dm)×Bool)=>KV.ma [(dL 51 eP) r.1,kB r.2]) fun vs=>wR (kQ (v9 vs 0)))
theorem Bt:bQ PG 58 Dx:=dU (ak.cons Gi ak.nil) (r7 FE (r7 WO bm.nil)) fun w=>abn (kQ (g0 79 (w 0)))
structure bU where
 s:(Sl dI)
 t4:Int
 t7:Int
 t8:Int
instance:Inhabited bU:=⟨⟨default,default,default,default⟩⟩
def iX (x:bU):List KV:=[dL 36 np x.s,.fn (.func 64) [] [],.int .i64 x.t4,.int .i64 x.t7,.int .i64 x.t8]
def iY (x:bU):List (List KV):=[]
def nY (vs:List KV) (rs:List (List KV)):bU:=⟨eX jV (v9 vs 0),av (v9 vs 2),av (v9 vs 3),av (v9 vs 4)⟩
def oy:aJ:=⟨[(0,w9 (n9 36)),(1,⟨false,[.lit (.fn (.func 64) [] [])]⟩),(4,w9 i9),(7,w9 i9),(8,w9 i9)],[],[]⟩
def ye:=BU [(58,Dx),(66,zM),(64,zL)] [] 87 26 oy
def bG (x:bU):aX bU:=(cond (decide (x.t8 < x.t7)) (cond ((decide (0<=x.t8))&&(decide (x.t8 < (x.s.n:Int)))) (cond (decide ((x.s.get (Int.toNat x.t8)).x >= (-(1024:Int)))) (cond (!(decide ((x.s.get (Int.toNat x.t8)).x<=1024))) (.out aG.ah.ret ⟨x.s,x.t8,x.t7,x.t8⟩) (cond (decide ((x.s.get (Int.toNat x.t8)).y >= (-(1024:Int)))) (cond (!(decide ((x.s.get (Int.toNat x.t8)).y<=1024))) (.out aG.ah.ret ⟨x.s,x.t8,x.t7,x.t8⟩) (cond (decide ((x.s.get (Int.toNat x.t8)).z >= (-(1024:Int)))) (cond (!(decide ((x.s.get (Int.toNat x.t8)).z<=1024))) (.out aG.ah.ret ⟨x.s,x.t8,x.t7,x.t8⟩) (.next ⟨x.s,x.t4,x.t7,(aO (x.t8+1))⟩)) (.out aG.ah.ret ⟨x.s,x.t8,x.t7,x.t8⟩))) (.out aG.ah.ret ⟨x.s,x.t8,x.t7,x.t8⟩))) (.out aG.ah.ret ⟨x.s,x.t8,x.t7,x.t8⟩)) .fail) (.out (aG.ah.exit 0) x))
theorem wS (x:bU):ye (iX x) (iY x)=aX.enc iX iY (bG x):=by
 unfold bG
 try simp only [aX.cD]
 kernel_rfl
def jx:Lp:=⟨87,26,oy,fun vs rs=>dR iX iY (goN bG (nY vs rs)) [aG.ah.exit 0,aG.ah.ret],false⟩
theorem nZ:jx.Ok PG:=CA (ak.cons Bt (ak.cons Ag (ak.cons Af ak.nil))) bm.nil (pa:=nY) wS
structure bX where
 s:(Sl kz)
 t4:Int
 t7:Int
 t8:Int
instance:Inhabited bX:=⟨⟨default,default,default,default⟩⟩
def iZ (x:bX):List KV:=[dL 125 jo x.s,.fn (.func 66) [] [],.int .i64 x.t4,.int .i64 x.t7,.int .i64 x.t8]
def ja (x:bX):List (List KV):=[]
def n3 (vs:List KV) (rs:List (List KV)):bX:=⟨eX fB (v9 vs 0),av (v9 vs 2),av (v9 vs 3),av (v9 vs 4)⟩
def oz:aJ:=⟨[(0,w9 (n9 125)),(1,⟨false,[.lit (.fn (.func 66) [] [])]⟩),(4,w9 i9),(7,w9 i9),(8,w9 i9)],[],[]⟩
def yf:=BU [(58,Dx),(66,zM),(64,zL)] [jx] 88 26 oz
def bH (x:bX):aX bX:=(cond (decide (x.t8 < x.t7)) (cond ((decide (0<=x.t8))&&(decide (x.t8 < (x.s.n:Int)))) (cond (decide ((x.s.get (Int.toNat x.t8)).e0 < 0)) (.out aG.ah.ret ⟨x.s,x.t8,x.t7,x.t8⟩) (cond (decide ((x.s.get (Int.toNat x.t8)).e0 > 255)) (.out aG.ah.ret ⟨x.s,x.t8,x.t7,x.t8⟩) (cond (decide ((x.s.get (Int.toNat x.t8)).e1 < 0)) (.out aG.ah.ret ⟨x.s,x.t8,x.t7,x.t8⟩) (cond (decide ((x.s.get (Int.toNat x.t8)).e1 > 255)) (.out aG.ah.ret ⟨x.s,x.t8,x.t7,x.t8⟩) (.next ⟨x.s,x.t4,x.t7,(aO (x.t8+1))⟩))))) .fail) (.out (aG.ah.exit 0) x))
theorem wT (x:bX):yf (iZ x) (ja x)=aX.enc iZ ja (bH x):=by
 unfold bH
 try simp only [aX.cD]
 kernel_rfl
def oA:Lp:=⟨88,26,oz,fun vs rs=>dR iZ ja (goN bH (n3 vs rs)) [aG.ah.exit 0,aG.ah.ret],false⟩
theorem yg:oA.Ok PG:=CA (ak.cons Bt (ak.cons Ag (ak.cons Af ak.nil))) (r7 nZ bm.nil) (pa:=n3) wT
def Bu (m:gW):=goN bG ⟨m.aC,0,(m.aC.n:Int),0⟩
def Bv (m:gW):=goN bH ⟨m.uV,0,(m.uV.n:Int),0⟩
def Gj (m:gW):=wR m
def zP (m:gW):Option (Int):=(cond (Gj m).isSome (cond (!((Gj m).getD default).snd) (some (40)) (some (0))) none)
def zQ (m:gW):Option (Int):=(cond ((Bv m).by (aG.ah.exit 0))
  (zP m) (cond ((Bv m).by aG.ah.ret) (cond (decide ((Bv m).st.t4 >= 0)) (some (40))
   (zP m)) none))
def uI (m:gW):Option (Int):=(cond (decide ((m.aC.n:Int) > 64)) (some (4)) (cond (decide ((m.uV.n:Int) > 64)) (some (4)) (cond (decide ((m.fY.n:Int) > 16)) (some (4)) (cond ((m.uV.n:Int) != (m.aC.n:Int)) (some (40)) (cond ((Bu m).by (aG.ah.exit 0))
    (zQ m) (cond ((Bu m).by aG.ah.ret) (cond (decide ((Bu m).st.t4 >= 0)) (some (40))
     (zQ m)) none))))))
theorem YA (m:gW):rE [(58,Dx),(66,zM),(64,zL)] [jx,oA] 41 [uH m] = (uI m).map (kI .i64):=by
 unfold uI zQ zP
 try simp only [b6]
 kernel_rfl
def xX:List KV->KR KV:=bR PG 41 (b8 (kI .i64) fun vs=>uI (kQ (v9 vs 0)))
theorem vW:bQ PG 41 xX:=dU (ak.cons Bt (ak.cons Ag (ak.cons Af ak.nil))) (r7 nZ (r7 yg bm.nil)) fun w=>YA (kQ (g0 79 (w 0)))
def qB (n:Int):Option (Bool):=(cond (decide (n > 0)) (some ((decide (n<=16)))) (some (false)))
theorem U7 (n:Int):rE [] [] 69 [(kI .i64) n] = (qB n).map kB:=by
 unfold qB
 try simp only [b6]
 kernel_rfl
def N7:List KV->KR KV:=bR PG 69 (b8 kB fun vs=>qB (av (v9 vs 0)))
theorem Th:bQ PG 69 N7:=dU ak.nil bm.nil fun w=>U7 (av (g0 3 (w 0)))
def B5 (t:gN):=qB t.w
def B6 (t:gN):=qB t.h
def rG (t:gN):Option (Int):=(cond (B5 t).isSome (cond (!((B5 t).getD default)) (some (8)) (cond (B6 t).isSome (cond (!((B6 t).getD default)) (some (8)) (cond ((t.UT.n:Int) != (aO (t.w * t.h))) (some (8)) (some (0)))) none)) none)
theorem Ti (t:gN):rE [(69,N7)] [] 43 [jB t] = (rG t).map (kI .i64):=by
 unfold rG
 try simp only [b6]
 kernel_rfl
def vX:List KV->KR KV:=bR PG 43 (b8 (kI .i64) fun vs=>rG (eQ (v9 vs 0)))
theorem vg:bQ PG 43 vX:=dU (ak.cons Th ak.nil) bm.nil fun w=>Ti (eQ (g0 118 (w 0)))
structure qX where
 lO:Int
 t4:Bool
 t7:(Sl Int)
 t8:Int
 t9:Int
instance:Inhabited qX:=⟨⟨default,default,default,default,default⟩⟩
def K5 (x:qX):List KV:=[.int .i64 x.lO,.bool x.t4,dL 3 (kI .i64) x.t7,.int .i64 x.t8,.int .i64 x.t9]
def K6 (x:qX):List (List KV):=[]
def RN (vs:List KV) (rs:List (List KV)):qX:=⟨av (v9 vs 0),fh (v9 vs 1),eX av (v9 vs 2),av (v9 vs 3),av (v9 vs 4)⟩
def U8:aJ:=⟨[(0,w9 i9),(4,w9 b9),(7,w9 (n9 3)),(8,w9 i9),(9,w9 i9)],[],[]⟩
def acq:=BU [] [] 30 26 U8
def tI (x:qX):aX qX:=(cond (decide (x.t9 < x.t8)) (cond ((decide (0<=x.t9))&&(decide (x.t9 < (x.t7.n:Int)))) (cond (decide ((x.t7.get (Int.toNat x.t9)) < (aO (0 - x.lO)))) (.out aG.ah.ret ⟨x.lO,false,x.t7,x.t8,x.t9⟩) (cond (decide ((x.t7.get (Int.toNat x.t9)) > x.lO)) (.out aG.ah.ret ⟨x.lO,false,x.t7,x.t8,x.t9⟩) (.next ⟨x.lO,x.t4,x.t7,x.t8,(aO (x.t9+1))⟩))) .fail) (.out (aG.ah.exit 0) x))
theorem YB (x:qX):acq (K5 x) (K6 x)=aX.enc K5 K6 (tI x):=by
 unfold tI
 try simp only [aX.cD]
 kernel_rfl
def U9:Lp:=⟨30,26,U8,fun vs rs=>dR K5 K6 (goN tI (RN vs rs)) [aG.ah.exit 0,aG.ah.ret],false⟩
theorem acr:U9.Ok PG:=CA ak.nil bm.nil (pa:=RN) YB
def Kb (lO:Int) (l:(Sl Int)):=goN tI ⟨lO,false,l,(l.n:Int),0⟩
def HL (lO:Int) (l:(Sl Int)):Option (Bool):=(cond ((Kb lO l).by (aG.ah.exit 0)) (some (true)) (cond ((Kb lO l).by aG.ah.ret) (some ((Kb lO l).st.t4)) none))
theorem agI (lO:Int) (l:(Sl Int)):rE [] [U9] 30 [(kI .i64) lO,(dL 3 (kI .i64)) l] = (HL lO l).map kB:=by
 unfold HL
 try simp only [b6]
 kernel_rfl
def ads:List KV->KR KV:=bR PG 30 (b8 kB fun vs=>HL (av (v9 vs 0)) ((eX av) (v9 vs 1)))
theorem aeI:bQ PG 30 ads:=dU ak.nil (r7 acr bm.nil) fun w=>agI (av (g0 3 (w 0))) ((eX av) (g0 48 (w 1)))
def Cr (m:eY):Option (Bool):=(cond (decide (m.e0.e0 < (-(1024:Int)))) (some (false)) (cond (decide (m.e0.e0 > 1024)) (some (false)) (cond (decide (m.e0.e1 < (-(1024:Int)))) (some (false)) (cond (decide (m.e0.e1 > 1024)) (some (false)) (cond (decide (m.e0.e2 < (-(1024:Int)))) (some (false)) (cond (decide (m.e0.e2 > 1024)) (some (false)) (cond (decide (m.e1.e0 < (-(1024:Int)))) (some (false)) (cond (decide (m.e1.e0 > 1024)) (some (false)) (cond (decide (m.e1.e1 < (-(1024:Int)))) (some (false)) (cond (decide (m.e1.e1 > 1024)) (some (false)) (cond (decide (m.e1.e2 < (-(1024:Int)))) (some (false)) (cond (decide (m.e1.e2 > 1024)) (some (false)) (cond (decide (m.e2.e0 < (-(1024:Int)))) (some (false)) (cond (decide (m.e2.e0 > 1024)) (some (false)) (cond (decide (m.e2.e1 < (-(1024:Int)))) (some (false)) (cond (decide (m.e2.e1 > 1024)) (some (false)) (cond (decide (m.e2.e2 < (-(1024:Int)))) (some (false)) (cond (decide (m.e2.e2 > 1024)) (some (false)) (some (true))))))))))))))))))))
theorem acs (m:eY):rE [] [] 53 [hJ m] = (Cr m).map kB:=by
 unfold Cr
 try simp only [b6]
 kernel_rfl
def Ye:List KV->KR KV:=bR PG 53 (b8 kB fun vs=>Cr (dF (v9 vs 0)))
theorem abo:bQ PG 53 Ye:=dU ak.nil bm.nil fun w=>acs (dF (g0 52 (w 0)))
def Dy (v:dI):=HL 4096 (Sl.lit [v.x,v.y,v.z])
def qZ (v:dI):Option (Int):=(cond (Dy v).isSome (cond (!((Dy v).getD default)) (some (20)) (some (0))) none)
theorem abp (v:dI):rE [(30,ads)] [] 14 [np v] = (qZ v).map (kI .i64):=by
 unfold qZ
 try simp only [b6,Dy,vK]
 kernel_rfl
def Hs:List KV->KR KV:=bR PG 14 (b8 (kI .i64) fun vs=>qZ (jV (v9 vs 0)))
theorem Gk:bQ PG 14 Hs:=dU (ak.cons aeI ak.nil) bm.nil fun w=>abp (jV (g0 36 (w 0)))
def Dz (m:iu):=Cr m.m
def DA (m:iu):=qZ m.t
def jT (m:iu):Option (Int):=(cond (Dz m).isSome (cond (!((Dz m).getD default)) (some (20)) (cond (DA m).isSome (some (((DA m).getD default))) none)) none)
theorem Va (m:iu):rE [(14,Hs),(53,Ye)] [] 28 [yv m] = (jT m).map (kI .i64):=by
 unfold jT
 try simp only [b6]
 kernel_rfl
def Bw:List KV->KR KV:=bR PG 28 (b8 (kI .i64) fun vs=>jT (rq (v9 vs 0)))
theorem B7:bQ PG 28 Bw:=dU (ak.cons Gk (ak.cons abo ak.nil)) bm.nil fun w=>Va (rq (g0 54 (w 0)))
structure oZ where
 l:(Sl Int)
 t2:Bool
 last:Int
 t6:(Sl Int)
 t7:Int
 t8:Int
instance:Inhabited oZ:=⟨by constructor<;>exact default⟩
def Gl (x:oZ):List KV:=[dL 3 (kI .i64) x.l,.bool x.t2,.int .i64 x.last,dL 3 (kI .i64) x.t6,.int .i64 x.t7,.int .i64 x.t8]
def Gm (x:oZ):List (List KV):=[]
def N8 (vs:List KV) (rs:List (List KV)):oZ:=⟨eX av (v9 vs 0),fh (v9 vs 1),av (v9 vs 2),eX av (v9 vs 3),av (v9 vs 4),av (v9 vs 5)⟩
def PH:aJ:=⟨[(0,w9 (n9 3)),(2,w9 b9),(3,w9 i9),(6,w9 (n9 3)),(7,w9 i9),(8,w9 i9)],[],[]⟩
def YC:=BU [] [] 93 58 PH
def jq (x:oZ):aX oZ:=(cond (decide (x.t8 < x.t7)) (cond ((decide (0<=x.t8))&&(decide (x.t8 < (x.t6.n:Int)))) (cond (decide ((x.t6.get (Int.toNat x.t8)) < x.last)) (.out aG.ah.ret ⟨x.l,false,x.last,x.t6,x.t7,x.t8⟩) (cond (decide ((x.t6.get (Int.toNat x.t8)) > 8192)) (.out aG.ah.ret ⟨x.l,false,x.last,x.t6,x.t7,x.t8⟩) (.next ⟨x.l,x.t2,(x.t6.get (Int.toNat x.t8)),x.t6,x.t7,(aO (x.t8+1))⟩))) .fail) (.out (aG.ah.exit 0) x))
theorem Vb (x:oZ):YC (Gl x) (Gm x)=aX.enc Gl Gm (jq x):=by
 unfold jq
 try simp only [aX.cD]
 kernel_rfl
def PI:Lp:=⟨93,58,PH,fun vs rs=>dR Gl Gm (goN jq (N8 vs rs)) [aG.ah.exit 0,aG.ah.ret],false⟩
theorem YD:PI.Ok PG:=CA ak.nil bm.nil (pa:=N8) Vb
def A8 (l:(Sl Int)):=goN jq ⟨l,false,0,l,(l.n:Int),0⟩
def Cs (l:(Sl Int)):Option (Bool):=(cond ((A8 l).by (aG.ah.exit 0)) (some ((decide (((A8 l).st.l.n:Int)<=16)))) (cond ((A8 l).by aG.ah.ret) (some ((A8 l).st.t2)) none))
theorem acu (l:(Sl Int)):rE [] [PI] 93 [(dL 3 (kI .i64)) l] = (Cs l).map kB:=by
 unfold Cs
 try simp only [b6]
 kernel_rfl
def Yf:List KV->KR KV:=bR PG 93 (b8 kB fun vs=>Cs ((eX av) (v9 vs 0)))
theorem abq:bQ PG 93 Yf:=dU ak.nil (r7 YD bm.nil) fun w=>acu ((eX av) (g0 48 (w 0)))
def Gn (n:Node):=jT n.nX
def Gp (n:Node):=qZ n.cN
def Gq (n:Node):=Cs n.eI
def xY (n:Node):Option (Node×Bool):=(cond (n.kind==1) (some (⟨n.kind,⟨⟨⟨0,0,0⟩,⟨0,0,0⟩,⟨0,0,0⟩⟩,⟨0,0,0⟩⟩,0,⟨0,0,0⟩,⟨0,(fun i=>0)⟩,0,n.bD⟩,true)) (cond (n.kind==2) (cond (Gn n).isSome (some (⟨n.kind,n.nX,0,⟨0,0,0⟩,⟨0,(fun i=>0)⟩,0,n.bD⟩,(((Gn n).getD default)==0))) none) (cond (n.kind==3) (some (⟨n.kind,⟨⟨⟨0,0,0⟩,⟨0,0,0⟩,⟨0,0,0⟩⟩,⟨0,0,0⟩⟩,n.rM,⟨0,0,0⟩,⟨0,(fun i=>0)⟩,0,n.bD⟩,true)) (cond (n.kind==4) (cond (Gp n).isSome (cond (((Gp n).getD default)==0) (cond (Gq n).isSome (some (⟨n.kind,⟨⟨⟨0,0,0⟩,⟨0,0,0⟩,⟨0,0,0⟩⟩,⟨0,0,0⟩⟩,0,n.cN,n.eI,0,n.bD⟩,((Gq n).getD default))) none) (some (⟨n.kind,⟨⟨⟨0,0,0⟩,⟨0,0,0⟩,⟨0,0,0⟩⟩,⟨0,0,0⟩⟩,0,n.cN,n.eI,0,n.bD⟩,false))) none) (cond (n.kind==5) (some (⟨n.kind,⟨⟨⟨0,0,0⟩,⟨0,0,0⟩,⟨0,0,0⟩⟩,⟨0,0,0⟩⟩,0,⟨0,0,0⟩,⟨0,(fun i=>0)⟩,n.fN,n.bD⟩,true)) (some (⟨n.kind,⟨⟨⟨0,0,0⟩,⟨0,0,0⟩,⟨0,0,0⟩⟩,⟨0,0,0⟩⟩,0,⟨0,0,0⟩,⟨0,(fun i=>0)⟩,0,n.bD⟩,false)))))))
theorem YE (n:Node):rE [(93,Yf),(14,Hs),(28,Bw)] [] 78 [rN n] = (xY n).map (fun (r:Node×Bool)=>KV.ma [rN r.1,kB r.2]):=by
 unfold xY
 try simp only [b6]
 kernel_rfl
def RO:List KV->KR KV:=bR PG 78 (b8 (fun (r:Node×Bool)=>KV.ma [rN r.1,kB r.2]) fun vs=>xY (kP (v9 vs 0)))
theorem WQ:bQ PG 78 RO:=dU (ak.cons abq (ak.cons Gk (ak.cons B7 ak.nil))) bm.nil fun w=>YE (kP (g0 64 (w 0)))
structure gq where
 s1:(Sl Int)
 s2:(Sl Int)
 t4:Bool
 t12:Int
 t13:Int
instance:Inhabited gq:=⟨⟨default,default,default,default,default⟩⟩
def wU (x:gq):List KV:=[dL 3 (kI .i64) x.s1,dL 3 (kI .i64) x.s2,.bool x.t4,.int .i64 x.t12,.int .i64 x.t13]
def wV (x:gq):List (List KV):=[]
def DB (vs:List KV) (rs:List (List KV)):gq:=⟨eX av (v9 vs 0),eX av (v9 vs 1),fh (v9 vs 2),av (v9 vs 3),av (v9 vs 4)⟩
def D2:aJ:=⟨[(0,w9 (n9 3)),(1,w9 (n9 3)),(4,w9 b9),(12,w9 i9),(13,w9 i9)],[],[]⟩
def Nt:=BU [] [] 77 58 D2
def eE (x:gq):aX gq:=(cond (decide (x.t13 < x.t12)) (cond ((decide (0<=x.t13))&&(decide (x.t13 < (x.s1.n:Int)))) (cond ((decide (0<=x.t13))&&(decide (x.t13 < (x.s2.n:Int)))) (cond ((x.s1.get (Int.toNat x.t13)) != (x.s2.get (Int.toNat x.t13))) (.out aG.ah.ret ⟨x.s1,x.s2,false,x.t12,x.t13⟩) (.next ⟨x.s1,x.s2,x.t4,x.t12,(aO (x.t13+1))⟩)) .fail) .fail) (.out (aG.ah.exit 0) x))
theorem K7 (x:gq):Nt (wU x) (wV x)=aX.enc wU wV (eE x):=by
 unfold eE
 try simp only [aX.cD]
 kernel_rfl
def D3:Lp:=⟨77,58,D2,fun vs rs=>dR wU wV (goN eE (DB vs rs)) [aG.ah.exit 0,aG.ah.ret],false⟩
theorem Nu:D3.Ok PG:=CA ak.nil bm.nil (pa:=DB) K7
def uj (s1:(Sl Int)) (s2:(Sl Int)):=goN eE ⟨s1,s2,false,(s1.n:Int),0⟩
def ot (s1:(Sl Int)) (s2:(Sl Int)):Option (Bool):=(cond ((s1.n:Int) != (s2.n:Int)) (some (false)) (cond ((uj s1 s2).by (aG.ah.exit 0)) (some (true)) (cond ((uj s1 s2).by aG.ah.ret) (some ((uj s1 s2).st.t4)) none)))
theorem PJ (s1:(Sl Int)) (s2:(Sl Int)):rE [] [D3] 77 [(dL 3 (kI .i64)) s1,(dL 3 (kI .i64)) s2] = (ot s1 s2).map kB:=by
 unfold ot
 try simp only [b6]
 kernel_rfl
def I6:List KV->KR KV:=bR PG 77 (b8 kB fun vs=>ot ((eX av) (v9 vs 0)) ((eX av) (v9 vs 1)))
theorem Ox:bQ PG 77 I6:=dU ak.nil (r7 Nu bm.nil) fun w=>PJ ((eX av) (g0 48 (w 0))) ((eX av) (g0 48 (w 1)))
def I7 (a:Node) (b:Node):=ot a.eI b.eI
def wW (a:Node) (b:Node):Option (Bool):=(cond (a.kind==b.kind) (cond ((a.nX.m.e0.e0==b.nX.m.e0.e0)&&((a.nX.m.e0.e1==b.nX.m.e0.e1)&&((a.nX.m.e0.e2==b.nX.m.e0.e2)&&((a.nX.m.e1.e0==b.nX.m.e1.e0)&&((a.nX.m.e1.e1==b.nX.m.e1.e1)&&((a.nX.m.e1.e2==b.nX.m.e1.e2)&&((a.nX.m.e2.e0==b.nX.m.e2.e0)&&((a.nX.m.e2.e1==b.nX.m.e2.e1)&&((a.nX.m.e2.e2==b.nX.m.e2.e2)&&((a.nX.t.x==b.nX.t.x)&&((a.nX.t.y==b.nX.t.y)&&((a.nX.t.z==b.nX.t.z)&&true)))))))))))) (cond (a.rM==b.rM) (cond ((a.cN.x==b.cN.x)&&((a.cN.y==b.cN.y)&&((a.cN.z==b.cN.z)&&true))) (cond (I7 a b).isSome (cond ((I7 a b).getD default) (cond (a.fN==b.fN) (some (((a.bD.cp.e0==b.bD.cp.e0)&&((a.bD.cp.e1==b.bD.cp.e1)&&((a.bD.cp.e2==b.bD.cp.e2)&&((a.bD.cp.e3==b.bD.cp.e3)&&((a.bD.cp.e4==b.bD.cp.e4)&&((a.bD.look.color.e0==b.bD.look.color.e0)&&((a.bD.look.color.e1==b.bD.look.color.e1)&&((a.bD.look.color.e2==b.bD.look.color.e2)&&((a.bD.look.color.e3==b.bD.look.color.e3)&&((a.bD.look.dJ==b.bD.look.dJ)&&((a.bD.look.oY==b.bD.look.oY)&&((a.bD.look.nW==b.bD.look.nW)&&((a.bD.look.kr==b.bD.look.kr)&&((a.bD.look.bin==b.bD.look.bin)&&true)))))))))))))))) (some (false))) (some (false))) none) (some (false))) (some (false))) (some (false))) (some (false)))
theorem abr (a:Node) (b:Node):rE [(77,I6)] [] 47 [rN a,rN b] = (wW a b).map kB:=by
 unfold wW
 try simp only [b6]
 kernel_rfl
def zR:List KV->KR KV:=bR PG 47 (b8 kB fun vs=>wW (kP (v9 vs 0)) (kP (v9 vs 1)))
theorem xI:bQ PG 47 zR:=dU (ak.cons Ox ak.nil) bm.nil fun w=>abr (kP (g0 64 (w 0))) (kP (g0 64 (w 1)))
def vh (s:aA) (n:Node):=xY n
def Aj (s:aA) (n:Node):=wW ((vh s n).getD default).fst n
def Ak (s:aA) (n:Node):=qA n.bD
def uk (s:aA) (n:Node):Option (Int):=(cond (n.bD.cp.e1 != 0) (cond (decide (n.bD.look.dJ >= (s.j3.n:Int))) (some (8)) (some (0))) (some (0)))
def pg (s:aA) (n:Node):Option (Int):=(cond (vh s n).isSome (cond (!((vh s n).getD default).snd) (some (8)) (cond (Aj s n).isSome (cond (!((Aj s n).getD default)) (some (8)) (cond (Ak s n).isSome (cond (((Ak s n).getD default) != 0) (some (8)) (cond (n.kind==5) (cond (decide (n.fN < 0)) (some (8)) (cond (decide (n.fN >= (s.fj.n:Int))) (some (8))
      (uk s n)))
     (uk s n))) none)) none)) none)
theorem Rb (s:aA) (n:Node):rE [(60,Br),(47,zR),(78,RO)] [] 48 [kA s,rN n] = (pg s n).map (kI .i64):=by
 unfold pg uk
 try simp only [b6]
 kernel_rfl
def um:List KV->KR KV:=bR PG 48 (b8 (kI .i64) fun vs=>pg (eR (v9 vs 0)) (kP (v9 vs 1)))
theorem uo:bQ PG 48 um:=dU (ak.cons B4 (ak.cons xI (ak.cons WQ ak.nil))) bm.nil fun w=>Rb (eR (g0 34 (w 0))) (kP (g0 64 (w 1)))
end
end Go.Proofs.Ytckbdndhmcoihaa.b
end
