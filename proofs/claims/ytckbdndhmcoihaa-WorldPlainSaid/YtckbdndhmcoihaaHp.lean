/- Part of the proof of WorldPlain: the machine, shown to be the model's, and plain models. No conditions. -/
import Derived.Test.YtckbdndhmcoihaaGp
import Derived.Laws.EntriesVeiled
import Derived.Test.YtckbdndhmcoihaaProg
set_option linter.unusedSimpArgs false
set_option linter.unusedVariables false
section
set_option maxRecDepth 20000
namespace Go.Proofs.Ytckbdndhmcoihaa.nodes
open Go Go.RowKit Go.Lib Go.Shelf
abbrev gv (q:G):Value:=.agg #[.slice q.sa q.sn q.sc,.slice q.ka q.kn q.kc]
def MapAt (mb:Nat) (W:World) (S:List (Int×Int)):Prop:=∃ es clock,W.heap[mb]? = some (.map es clock)/\Uw es S
theorem zr (V:World) (o:Obj) (n:Nat) (h:n=V.heap.size):(V.alloc o).heap[n]? = some o:=by
 subst h;exact heap_alloc_new V o
theorem mm {W:World} {b:Nat} {c:Array Value} {t:TypeId} (h:W.heap[b]? = some (.cells c t)) (i:Nat):W.cell? ⟨b,i,none⟩=c[i]?:=by
 unfold World.cell?;simp [h]
theorem apq (W:World) (A0 A1 A2 A3 A4:Obj):∃ V,V=((((W.alloc A0).alloc A1).alloc A2).alloc A3).alloc A4/\V.heap[W.heap.size]? = some A0/\V.heap[W.heap.size+1]? = some A1/\V.heap[W.heap.size+1+1]? = some A2/\V.heap[W.heap.size+1+1+1]? = some A3/\V.heap[W.heap.size+1+1+1+1]? = some A4/\V.heap.size=W.heap.size+5/\∀ mb,Kp mb W V:=by
 have s1:(W.alloc A0).heap.size=W.heap.size+1:=by simp
 have s2:((W.alloc A0).alloc A1).heap.size=W.heap.size+2:=by simp
 have s3:(((W.alloc A0).alloc A1).alloc A2).heap.size=W.heap.size+3:=by simp
 have s4:((((W.alloc A0).alloc A1).alloc A2).alloc A3).heap.size=W.heap.size+4:=by simp
 refine ⟨_,rfl,?_,?_,?_,?_,?_,by simp,fun mb=>((((Kp.alloc W A0).trans (Kp.alloc _ A1)).trans (Kp.alloc _ A2)).trans (Kp.alloc _ A3)).trans (Kp.alloc _ A4)⟩
 ·rw [Below.heap_alloc _ _ _ (by omega),Below.heap_alloc _ _ _ (by omega),Below.heap_alloc _ _ _ (by omega),Below.heap_alloc _ _ _ (by omega)]
  exact zr _ _ _ rfl
 ·rw [Below.heap_alloc _ _ _ (by omega),Below.heap_alloc _ _ _ (by omega),Below.heap_alloc _ _ _ (by omega)]
  exact zr _ _ _ (by omega)
 ·rw [Below.heap_alloc _ _ _ (by omega),Below.heap_alloc _ _ _ (by omega)]
  exact zr _ _ _ (by omega)
 ·rw [Below.heap_alloc _ _ _ (by omega)]
  exact zr _ _ _ (by omega)
 ·exact zr _ _ _ (by omega)
set_option maxHeartbeats 4000000 in
theorem below (q:G) (B mb:Nat) (C7 to:Int×Int) (U:List (Int×Int)) (hU:∀ u∈U,(0<=u.1/\u.1 < (q.kn:Int))/\∀ k,k < q.im u.1.toNat->q.dS u.1.toNat k∈U) (S:List (Int×Int)) (W:World)
  (hf:C7∈U) (hg:GAt q B W) (hB:B<=W.heap.size) (hm:B<=mb) (hM:MapAt mb W S) (ht:to ∉ S) :
  Calls Try.prog 74 #[gv q,.map (some mb),hv C7,hv to] W fun e W'=>∃ S' r,e = .returned (.bool r)/\MapAt mb W' S'/\Kp mb W W'/\(r=true/\Reach q to C7\/r=false/\Grow q S C7 S'/\to ∉ S'):=by
 have Vo:mb < W.heap.size:=by obtain ⟨es,c,h,_⟩:=hM; exact (rS.1 h).1
 have Pj:Calls Try.prog 92 #[hv C7,.pointer (some ⟨W.heap.size+1+1+1,0,none⟩),.pointer (some ⟨W.heap.size+1,0,none⟩),.pointer (some ⟨W.heap.size,0,none⟩),.pointer (some ⟨W.heap.size+1+1+1+1,0,none⟩)] (((((W.alloc (.cells #[.slice q.sa q.sn q.sc,.slice q.ka q.kn q.kc] 27)).alloc (.cells #[.map (some mb)] 172)).alloc (.cells #[.int .i64 C7.1,.int .i64 C7.2] 32)).alloc (.cells #[.int .i64 to.1,.int .i64 to.2] 32)).alloc (.cells #[.func (.func 92) #[] #[.pointer (some ⟨W.heap.size+1+1+1,0,none⟩),.pointer (some ⟨W.heap.size+1,0,none⟩),.pointer (some ⟨W.heap.size,0,none⟩),.pointer (some ⟨W.heap.size+1+1+1+1,0,none⟩)]] 170))
   fun e W'=>∃ S' r,e = .returned (.bool r)/\MapAt mb W' S'/\Kp mb W W'/\(r=true/\Reach q to C7\/r=false/\Grow q S C7 S'/\to ∉ S'):=by
  obtain ⟨V,hV,v0,v1,v2,v3,v4,vs,vk⟩:=apq W (.cells #[.slice q.sa q.sn q.sc,.slice q.ka q.kn q.kc] 27) (.cells #[.map (some mb)] 172) (.cells #[.int .i64 C7.1,.int .i64 C7.2] 32) (.cells #[.int .i64 to.1,.int .i64 to.2] 32) (.cells #[.func (.func 92) #[] #[.pointer (some ⟨W.heap.size+1+1+1,0,none⟩),.pointer (some ⟨W.heap.size+1,0,none⟩),.pointer (some ⟨W.heap.size,0,none⟩),.pointer (some ⟨W.heap.size+1+1+1+1,0,none⟩)]] 170);rw [<- hV];have L:Bq q B (W.heap.size+1+1+1) (W.heap.size+1) W.heap.size (W.heap.size+1+1+1+1) mb to V S:=
   ⟨hg.dL (vk mb) hB hm,by omega,by omega,by omega,by omega,by omega,hm,by rw [mm v3]; rfl,by rw [mm v3]; rfl,by rw [mm v1]; rfl,by rw [mm v0]; rfl,by rw [mm v0]; rfl,by rw [mm v4]; rfl,by
    obtain ⟨es,c,h1,h2⟩:=hM;have hk:=vk (mb+1);exact ⟨es,c,by rw [hk.block mb Vo (by omega)]; exact h1,h2⟩,ht⟩
  refine (look q B _ _ _ _ mb to U hU _ S V C7 hf (P1 _) L).mono ?_;rintro e W' ⟨S',L',k',⟨rfl,hr⟩ | ⟨rfl,G6⟩⟩
  ·exact ⟨S',true,rfl,L'.map,(vk mb).trans k',.inl ⟨rfl,hr⟩⟩
  ·exact ⟨S',false,rfl,L'.map,(vk mb).trans k',.inr ⟨rfl,G6,L'.to⟩⟩
 have mixed:=Bp;have t32:=Try.underlying32; have a32:=Try.isAgg32; have z32:=Try.sizeOf32; have v32:=Try.zeroValue32; have u32:=run_underlying Try.underlying32;have t202:=Try.underlying172; have alV:=Try.isAgg172; have alW:=Try.sizeOf172; have alX:=Try.zeroValue172; have Rs:=run_underlying Try.underlying172;have t200:=Try.underlying170; have anP:=Try.isAgg170; have anQ:=Try.sizeOf170; have anR:=Try.zeroValue170; have anS:=run_underlying Try.underlying170;have t27:=Try.underlying27; have a27:=Try.isAgg27; have z27:=Try.sizeOf27; have v27:=Try.zeroValue27; have u27:=run_underlying Try.underlying27;have t4:=Try.underlying4; have a4:=Try.isAgg4; have z4:=Try.sizeOf4; have v4:=Try.zeroValue4; have u4:=run_underlying Try.underlying4;have cW:(((((W.alloc (.cells #[.slice q.sa q.sn q.sc,.slice q.ka q.kn q.kc] 27)).alloc (.cells #[.map (some mb)] 172)).alloc (.cells #[.int .i64 C7.1,.int .i64 C7.2] 32)).alloc (.cells #[.int .i64 to.1,.int .i64 to.2] 32)).alloc (.cells #[.nilFunc] 170)).cell? ⟨W.heap.size+1+1+1+1,0,none⟩=some .nilFunc:=by rw [World.cell?_alloc_at _ _ _ _ (by simp)]; rfl
 have fW:(((((W.alloc (.cells #[.slice q.sa q.sn q.sc,.slice q.ka q.kn q.kc] 27)).alloc (.cells #[.map (some mb)] 172)).alloc (.cells #[.int .i64 C7.1,.int .i64 C7.2] 32)).alloc (.cells #[.int .i64 to.1,.int .i64 to.2] 32)).alloc (.cells #[.nilFunc] 170)).frozen? ⟨W.heap.size+1+1+1+1,0,none⟩=false:=by rw [World.frozen?_alloc_at _ _ _ _ (by simp)]
 go_enter Try.func74,Try.ntmps74
 go_wp2_with (go_at_call 92; refine Pj.mono ?_; rintro e w' ⟨S',r,rfl,hr⟩)
 go_wp2
 go_ret
 exact ⟨S',r,rfl,hr⟩
end Go.Proofs.Ytckbdndhmcoihaa.nodes
end
section
namespace Go.Proofs.Ytckbdndhmcoihaa.b
open Go.K
theorem funcs:Try.prog.funcs.toList.all aI.ky=true:=by kernel_rfl
theorem mixed:Try.prog.follows .mixedOrders=true:=by kernel_rfl
noncomputable abbrev PG:Program:=Try.prog
noncomputable abbrev g0 (T:TypeId) (v:KV):KV:=ik PG (ca PG dB) T v
theorem ee {R:Type} [Inhabited R] {k:R->KV} {r:List KV->Option R} {g:FuncId} {ps:List (Nat×(List KV->KR KV))} {ls:List Lp} {mt:TypeId->Bool} {fz eg:Bool} {a:(Nat->KV)->List KV} {q:(Nat->KV)->Option R} (eT:ak PG ps) (iD:bu PG ls)
  (hr:∀ w,FT PG (rG PG ps ls mt fz eg) 9 9 g (a w)=(q w).map k) (h:∀ w,vA PG (bS PG g) w 0=a w/\r (a w)=q w:=by exact fun w=>⟨by kernel_rfl,by kernel_rfl⟩) (hy:Nat.blt g aI.yB=true:=by rfl):bZ PG g (b5 PG g (cg k r)):=
 XG funcs mixed eT iD (L:=9) (n:=9) (fun w=>by rw [(h w).1,(h w).2]; exact hr w) hy
theorem C8 {l:Lp} {X:Type} [Inhabited X] {ps:List (Nat×(List KV->KR KV))} {ls:List Lp} {mt:TypeId->Bool} {fz eg:Bool} {step:X->aX X} {ev:X->List KV} {er:X->List (List KV)} {es:List aI.ah} {pa:List KV->List (List KV)->X} (eT:ak PG ps) (iD:bu PG ls)
  (uQ:∀ x,EU PG (rG PG ps ls mt fz eg) 9 9 l.f l.p (C5 PG l.f l.p) l.S (ev x) (er x)=aX.enc ev er (step x)) (hF:l.F=fun vs rs=>dU ev er (goN step (pa vs rs)) es:=by rfl)
  (gZ:∀ wv wr,ev (pa (jq PG l.S.dC wv 0) (jr PG l.S.rows wr 0))=jq PG l.S.dC wv 0/\er (pa (jq PG l.S.dC wv 0) (jr PG l.S.rows wr 0))=jr PG l.S.rows wr 0:=by exact fun wv wr=>⟨by kernel_rfl,by kernel_rfl⟩) (hs:l.st=false:=by rfl):l.Ok PG:=
 afT funcs mixed eT iD (L:=9) (n:=9) hF gZ uQ En.nil hs
theorem rH {l:Lp} {ls:List Lp} (h:l.Ok PG) (r:bu PG ls) (t:Iu PG l.f l.p=true:=by kernel_rfl):bu PG (l::ls):=bu.cons h t r
noncomputable abbrev pk9 (ps:List (Nat×(List KV->KR KV))) (ls:List Lp) (g:FuncId) (a:List KV):Option KV:=FT PG (rG PG ps ls) 9 9 g a
noncomputable abbrev rk9 (ps:List (Nat×(List KV->KR KV))) (ls:List Lp) (f p:Nat) (S:aJ):=EU PG (rG PG ps ls) 9 9 f p (C5 PG f p) S
noncomputable abbrev rv (ps:List (Nat×(List KV->KR KV))) (ls:List Lp) (g:FuncId) (a:List KV):Option KV:=FT PG (rG PG ps ls (fun q=>Nat.beq q 3)) 9 9 g a
noncomputable abbrev Cv (ps:List (Nat×(List KV->KR KV))) (ls:List Lp) (f p:Nat) (S:aJ):=EU PG (rG PG ps ls (fun q=>Nat.beq q 3)) 9 9 f p (C5 PG f p) S
abbrev v9 (vs:List KV) (i:Nat):KV:=vs.getD i .bf
abbrev r9 (rs:List (List KV)) (i k:Nat):KV:=(rs.getD i []).getD k .bf
abbrev i9:CD:=.k (.int .i64)
abbrev u9:CD:=.k (.int .u8)
abbrev b9:CD:=.k .bool
abbrev n9 (T:TypeId):CD:=.k (.slice T)
abbrev w9 (c:CD):VD:=⟨false,[c]⟩
end Go.Proofs.Ytckbdndhmcoihaa.b
end
section
namespace Go.Proofs.Ytckbdndhmcoihaa.b
open Go.K
noncomputable section
structure Slot where
 gen:Int
 live:Bool
instance:Inhabited Slot:=⟨⟨default,default⟩⟩
def aos (x:Slot):List KV:=[.int .i64 x.gen,.bool x.live]
def vC (x:Slot):KV:=.agg (aos x)
def aot (c:Nat->KV):Slot:=⟨ax (c 0),eH (c 1)⟩
def nL (v:KV):Slot:=aot fun k=>v.cells.getD k .bf
theorem AW (x:Slot):nL (vC x)=x:=rfl
theorem afX:nL .bf=default:=rfl
theorem pj (s:Sl Slot) (v:Slot):s.push v=au nL (s.n+1) (av s.n (fun i=>vC (s.get i)) (cZ [vC v])):=(fP AW afX s v).symm
theorem pk (s t:Sl Slot):s.join t=au nL (s.n+t.n) (av s.n (fun i=>vC (s.get i)) (fun i=>vC (t.get i))):=(gM AW s t).symm
theorem sD (l:List Slot):Sl.lit l=au nL l.length (cZ (l.map vC)):=(jO AW afX l).symm
theorem sE (s:Sl Slot) (i:Nat) (v:Slot):s.set i v=au nL s.n (bO (fun j=>vC (s.get j)) i (vC v)):=(jP AW s i v).symm
theorem mK (s t:Sl Slot) (o m:Nat):s.qN o m t=au nL s.n (aA o m (fun j=>vC (s.get j)) (fun j=>vC (t.get j))):=(fM AW s t o m).symm
theorem sF (m n n' : Nat) (acc aw:Nat->KV):au nL m (av n (fun i=>vC ((au nL n' acc).get i)) aw)=au nL m (av n acc aw):=kb AW ..
theorem sG (m n n' : Nat) (acc aw:Nat->KV):au nL m (av n acc (fun i=>vC ((au nL n' aw).get i)))=au nL m (av n acc aw):=kd AW ..
theorem sH (m n' i:Nat) (acc:Nat->KV) (v:KV):au nL m (bO (fun j=>vC ((au nL n' acc).get j)) i v)=au nL m (bO acc i v):=ke AW ..
theorem sI (n n' o m:Nat) (acc aw:Nat->KV):au nL n (aA o m (fun j=>vC ((au nL n' acc).get j)) aw)=au nL n (aA o m acc aw):=kO AW ..
theorem sJ (n n' o m:Nat) (acc aw:Nat->KV):au nL n (aA o m acc (fun j=>vC ((au nL n' aw).get j)))=au nL n (aA o m acc aw):=kP AW ..
def C9 (s:Slot):Option (Bool):=(cond (decide (s.gen < 1)) (some (true)) (some ((decide (s.gen > 1073741824)))))
theorem QK (s:Slot):pk9 [] [] 89 [vC s] = (C9 s).map kB:=by
 unfold C9
 try simp only [cf]
 kernel_rfl
def Da:List KV->KR KV:=b5 PG 89 (cg kB fun vs=>C9 (nL (v9 vs 0)))
theorem Fo:bZ PG 89 Da:=ee ak.nil bu.nil fun w=>QK (nL (g0 139 (w 0)))
structure jZ where
 cN:(Sl Slot)
instance:Inhabited jZ:=⟨⟨default⟩⟩
def amX (x:jZ):List KV:=[dG 139 vC x.cN]
def jt (x:jZ):KV:=.agg (amX x)
def amY (c:Nat->KV):jZ:=⟨eF nL (c 0)⟩
def jK (v:KV):jZ:=amY fun k=>v.cells.getD k .bf
theorem xD (x:jZ):jK (jt x)=x:=rfl
theorem acN:jK .bf=default:=rfl
theorem mL (s:Sl jZ) (v:jZ):s.push v=au jK (s.n+1) (av s.n (fun i=>jt (s.get i)) (cZ [jt v])):=(fP xD acN s v).symm
theorem mM (s t:Sl jZ):s.join t=au jK (s.n+t.n) (av s.n (fun i=>jt (s.get i)) (fun i=>jt (t.get i))):=(gM xD s t).symm
theorem pn (l:List jZ):Sl.lit l=au jK l.length (cZ (l.map jt)):=(jO xD acN l).symm
theorem po (s:Sl jZ) (i:Nat) (v:jZ):s.set i v=au jK s.n (bO (fun j=>jt (s.get j)) i (jt v)):=(jP xD s i v).symm
theorem kZ (s t:Sl jZ) (o m:Nat):s.qN o m t=au jK s.n (aA o m (fun j=>jt (s.get j)) (fun j=>jt (t.get j))):=(fM xD s t o m).symm
theorem pq (m n n' : Nat) (acc aw:Nat->KV):au jK m (av n (fun i=>jt ((au jK n' acc).get i)) aw)=au jK m (av n acc aw):=kb xD ..
theorem pr (m n n' : Nat) (acc aw:Nat->KV):au jK m (av n acc (fun i=>jt ((au jK n' aw).get i)))=au jK m (av n acc aw):=kd xD ..
theorem pt (m n' i:Nat) (acc:Nat->KV) (v:KV):au jK m (bO (fun j=>jt ((au jK n' acc).get j)) i v)=au jK m (bO acc i v):=ke xD ..
theorem pw (n n' o m:Nat) (acc aw:Nat->KV):au jK n (aA o m (fun j=>jt ((au jK n' acc).get j)) aw)=au jK n (aA o m acc aw):=kO xD ..
theorem px (n n' o m:Nat) (acc aw:Nat->KV):au jK n (aA o m acc (fun j=>jt ((au jK n' aw).get j)))=au jK n (aA o m acc aw):=kP xD ..
structure b8 where
 s:(Sl Slot)
 t4:Int
 t7:Int
 t8:Int
instance:Inhabited b8:=⟨⟨default,default,default,default⟩⟩
def ir (x:b8):List KV:=[dG 139 vC x.s,.fn (.func 89) [] [],.int .i64 x.t4,.int .i64 x.t7,.int .i64 x.t8]
def iu (x:b8):List (List KV):=[]
def mn (vs:List KV) (rs:List (List KV)):b8:=⟨eF nL (v9 vs 0),ax (v9 vs 2),ax (v9 vs 3),ax (v9 vs 4)⟩
def mN:aJ:=⟨[(0,w9 (n9 139)),(1,⟨false,[.lit (.fn (.func 89) [] [])]⟩),(4,w9 i9),(7,w9 i9),(8,w9 i9)],[],[]⟩
def wD:=rk9 [(89,Da)] [] 104 26 mN
def dx (x:b8):aX b8:=(cond (decide (x.t8 < x.t7)) (cond ((decide (0<=x.t8))&&(decide (x.t8 < (x.s.n:Int)))) (cond (decide ((x.s.get (Int.toNat x.t8)).gen < 1)) (.out aI.ah.ret ⟨x.s,x.t8,x.t7,x.t8⟩) (cond (decide ((x.s.get (Int.toNat x.t8)).gen > 1073741824)) (.out aI.ah.ret ⟨x.s,x.t8,x.t7,x.t8⟩) (.next ⟨x.s,x.t4,x.t7,(aP (x.t8+1))⟩))) .fail) (.out (aI.ah.exit 0) x))
theorem vD (x:b8):wD (ir x) (iu x)=aX.enc ir iu (dx x):=by
 unfold dx
 try simp only [aX.cJ]
 kernel_rfl
def mO:Lp:=⟨104,26,mN,fun vs rs=>dU ir iu (goN dx (mn vs rs)) [aI.ah.exit 0,aI.ah.ret],false⟩
theorem wF:mO.Ok PG:=C8 (ak.cons Fo ak.nil) bu.nil (pa:=mn) vD
def vE (a:jZ):=goN dx ⟨a.cN,0,(a.cN.n:Int),0⟩
def dR (a:jZ):Option (Int):=(cond (decide ((a.cN.n:Int) > 128)) (some (8)) (cond ((vE a).by (aI.ah.exit 0)) (some (0)) (cond ((vE a).by aI.ah.ret) (cond (decide ((vE a).st.t4 >= 0)) (some (8)) (some (0))) none)))
theorem Wc (a:jZ):pk9 [(89,Da)] [mO] 70 [jt a] = (dR a).map (kI .i64):=by
 unfold dR
 try simp only [cf]
 kernel_rfl
def Pk:List KV->KR KV:=b5 PG 70 (cg (kI .i64) fun vs=>dR (jK (v9 vs 0)))
theorem JQ:bZ PG 70 Pk:=ee (ak.cons Fo ak.nil) (rH wF bu.nil) fun w=>Wc (jK (g0 24 (w 0)))
structure Handle where
 slot:Int
 gen:Int
instance:Inhabited Handle:=⟨⟨default,default⟩⟩
def afY (x:Handle):List KV:=[.int .i64 x.slot,.int .i64 x.gen]
def gN (x:Handle):KV:=.agg (afY x)
def afZ (c:Nat->KV):Handle:=⟨ax (c 0),ax (c 1)⟩
def fK (v:KV):Handle:=afZ fun k=>v.cells.getD k .bf
theorem uB (x:Handle):fK (gN x)=x:=rfl
theorem aaG:fK .bf=default:=rfl
theorem j2 (s:Sl Handle) (v:Handle):s.push v=au fK (s.n+1) (av s.n (fun i=>gN (s.get i)) (cZ [gN v])):=(fP uB aaG s v).symm
theorem k7 (s t:Sl Handle):s.join t=au fK (s.n+t.n) (av s.n (fun i=>gN (s.get i)) (fun i=>gN (t.get i))):=(gM uB s t).symm
theorem mP (l:List Handle):Sl.lit l=au fK l.length (cZ (l.map gN)):=(jO uB aaG l).symm
theorem mQ (s:Sl Handle) (i:Nat) (v:Handle):s.set i v=au fK s.n (bO (fun j=>gN (s.get j)) i (gN v)):=(jP uB s i v).symm
theorem jS (s t:Sl Handle) (o m:Nat):s.qN o m t=au fK s.n (aA o m (fun j=>gN (s.get j)) (fun j=>gN (t.get j))):=(fM uB s t o m).symm
theorem mR (m n n' : Nat) (acc aw:Nat->KV):au fK m (av n (fun i=>gN ((au fK n' acc).get i)) aw)=au fK m (av n acc aw):=kb uB ..
theorem mS (m n n' : Nat) (acc aw:Nat->KV):au fK m (av n acc (fun i=>gN ((au fK n' aw).get i)))=au fK m (av n acc aw):=kd uB ..
theorem mT (m n' i:Nat) (acc:Nat->KV) (v:KV):au fK m (bO (fun j=>gN ((au fK n' acc).get j)) i v)=au fK m (bO acc i v):=ke uB ..
theorem mU (n n' o m:Nat) (acc aw:Nat->KV):au fK n (aA o m (fun j=>gN ((au fK n' acc).get j)) aw)=au fK n (aA o m acc aw):=kO uB ..
theorem mV (n n' o m:Nat) (acc aw:Nat->KV):au fK n (aA o m acc (fun j=>gN ((au fK n' aw).get j)))=au fK n (aA o m acc aw):=kP uB ..
def l9 (a:jZ) (h:Handle):Option (Bool):=(cond (decide (h.slot >= 0)) (cond (decide (h.slot < (a.cN.n:Int))) (cond ((decide (0<=h.slot))&&(decide (h.slot < (a.cN.n:Int)))) (some ((((a.cN.get (Int.toNat h.slot)).gen==h.gen)&&(((a.cN.get (Int.toNat h.slot)).live==true)&&true)))) none) (some (false))) (some (false)))
theorem X8 (a:jZ) (h:Handle):pk9 [] [] 79 [jt a,gN h] = (l9 a h).map kB:=by
 unfold l9
 try simp only [cf]
 kernel_rfl
def Rt:List KV->KR KV:=b5 PG 79 (cg kB fun vs=>l9 (jK (v9 vs 0)) (fK (v9 vs 1)))
theorem Wd:bZ PG 79 Rt:=ee ak.nil bu.nil fun w=>X8 (jK (g0 24 (w 0))) (fK (g0 32 (w 1)))
def vF (a:jZ) (h:Handle):=dR a
def vG (a:jZ) (h:Handle):=l9 a h
def dy (a:jZ) (h:Handle):Option (Bool):=(cond (vF a h).isSome (cond (((vF a h).getD default)==0) (cond (vG a h).isSome (some (((vG a h).getD default))) none) (some (false))) none)
theorem Wf (a:jZ) (h:Handle):pk9 [(79,Rt),(70,Pk)] [] 49 [jt a,gN h] = (dy a h).map kB:=by
 unfold dy
 try simp only [cf]
 kernel_rfl
def yM:List KV->KR KV:=b5 PG 49 (cg kB fun vs=>dy (jK (v9 vs 0)) (fK (v9 vs 1)))
theorem uc:bZ PG 49 yM:=ee (ak.cons Wd (ak.cons JQ ak.nil)) bu.nil fun w=>Wf (jK (g0 24 (w 0))) (fK (g0 32 (w 1)))
structure fA where
 cD:jZ
 kids:(Sl (Sl Handle))
instance:Inhabited fA:=⟨⟨default,default⟩⟩
def ajg (x:fA):List KV:=[dG 139 vC x.cD.cN,dG 47 (dG 32 gN) x.kids]
def rT (x:fA):KV:=.agg (ajg x)
def ajh (c:Nat->KV):fA:=⟨⟨eF nL (c 0)⟩,eF (eF fK) (c 1)⟩
def jL (v:KV):fA:=ajh fun k=>v.cells.getD k .bf
theorem xE (x:fA):jL (rT x)=x:=rfl
theorem acO:jL .bf=default:=rfl
theorem mW (s:Sl fA) (v:fA):s.push v=au jL (s.n+1) (av s.n (fun i=>rT (s.get i)) (cZ [rT v])):=(fP xE acO s v).symm
theorem mX (s t:Sl fA):s.join t=au jL (s.n+t.n) (av s.n (fun i=>rT (s.get i)) (fun i=>rT (t.get i))):=(gM xE s t).symm
theorem py (l:List fA):Sl.lit l=au jL l.length (cZ (l.map rT)):=(jO xE acO l).symm
theorem pz (s:Sl fA) (i:Nat) (v:fA):s.set i v=au jL s.n (bO (fun j=>rT (s.get j)) i (rT v)):=(jP xE s i v).symm
theorem k8 (s t:Sl fA) (o m:Nat):s.qN o m t=au jL s.n (aA o m (fun j=>rT (s.get j)) (fun j=>rT (t.get j))):=(fM xE s t o m).symm
theorem pA (m n n' : Nat) (acc aw:Nat->KV):au jL m (av n (fun i=>rT ((au jL n' acc).get i)) aw)=au jL m (av n acc aw):=kb xE ..
theorem pB (m n n' : Nat) (acc aw:Nat->KV):au jL m (av n acc (fun i=>rT ((au jL n' aw).get i)))=au jL m (av n acc aw):=kd xE ..
theorem pC (m n' i:Nat) (acc:Nat->KV) (v:KV):au jL m (bO (fun j=>rT ((au jL n' acc).get j)) i v)=au jL m (bO acc i v):=ke xE ..
theorem pD (n n' o m:Nat) (acc aw:Nat->KV):au jL n (aA o m (fun j=>rT ((au jL n' acc).get j)) aw)=au jL n (aA o m acc aw):=kO xE ..
theorem pE (n n' o m:Nat) (acc aw:Nat->KV):au jL n (aA o m acc (fun j=>rT ((au jL n' aw).get j)))=au jL n (aA o m acc aw):=kP xE ..
structure dm where
 e0:Int
 e1:Int
 e2:Int
instance:Inhabited dm:=⟨⟨default,default,default⟩⟩
def alZ (x:dm):List KV:=[.int .i64 x.e0,.int .i64 x.e1,.int .i64 x.e2]
def eM (x:dm):KV:=.agg (alZ x)
def al0 (c:Nat->KV):dm:=⟨ax (c 0),ax (c 1),ax (c 2)⟩
def e8 (v:KV):dm:=al0 fun k=>v.cells.getD k .bf
theorem uC (x:dm):e8 (eM x)=x:=rfl
theorem aaH:e8 .bf=default:=rfl
theorem j3 (s:Sl dm) (v:dm):s.push v=au e8 (s.n+1) (av s.n (fun i=>eM (s.get i)) (cZ [eM v])):=(fP uC aaH s v).symm
theorem j4 (s t:Sl dm):s.join t=au e8 (s.n+t.n) (av s.n (fun i=>eM (s.get i)) (fun i=>eM (t.get i))):=(gM uC s t).symm
theorem mZ (l:List dm):Sl.lit l=au e8 l.length (cZ (l.map eM)):=(jO uC aaH l).symm
theorem nb (s:Sl dm) (i:Nat) (v:dm):s.set i v=au e8 s.n (bO (fun j=>eM (s.get j)) i (eM v)):=(jP uC s i v).symm
theorem jT (s t:Sl dm) (o m:Nat):s.qN o m t=au e8 s.n (aA o m (fun j=>eM (s.get j)) (fun j=>eM (t.get j))):=(fM uC s t o m).symm
theorem nf (m n n' : Nat) (acc aw:Nat->KV):au e8 m (av n (fun i=>eM ((au e8 n' acc).get i)) aw)=au e8 m (av n acc aw):=kb uC ..
theorem ng (m n n' : Nat) (acc aw:Nat->KV):au e8 m (av n acc (fun i=>eM ((au e8 n' aw).get i)))=au e8 m (av n acc aw):=kd uC ..
theorem nh (m n' i:Nat) (acc:Nat->KV) (v:KV):au e8 m (bO (fun j=>eM ((au e8 n' acc).get j)) i v)=au e8 m (bO acc i v):=ke uC ..
theorem ni (n n' o m:Nat) (acc aw:Nat->KV):au e8 n (aA o m (fun j=>eM ((au e8 n' acc).get j)) aw)=au e8 n (aA o m acc aw):=kO uC ..
theorem nj (n n' o m:Nat) (acc aw:Nat->KV):au e8 n (aA o m acc (fun j=>eM ((au e8 n' aw).get j)))=au e8 n (aA o m acc aw):=kP uC ..
structure eU where
 e0:dm
 e1:dm
 e2:dm
instance:Inhabited eU:=⟨⟨default,default,default⟩⟩
def af0 (x:eU):List KV:=[.int .i64 x.e0.e0,.int .i64 x.e0.e1,.int .i64 x.e0.e2,.int .i64 x.e1.e0,.int .i64 x.e1.e1,.int .i64 x.e1.e2,.int .i64 x.e2.e0,.int .i64 x.e2.e1,.int .i64 x.e2.e2]
def hX (x:eU):KV:=.agg (af0 x)
def af1 (c:Nat->KV):eU:=⟨⟨ax (c 0),ax (c 1),ax (c 2)⟩,⟨ax (c 3),ax (c 4),ax (c 5)⟩,⟨ax (c 6),ax (c 7),ax (c 8)⟩⟩
def dF (v:KV):eU:=af1 fun k=>v.cells.getD k .bf
theorem ma (x:eU):dF (hX x)=x:=rfl
theorem Ru:dF .bf=default:=rfl
theorem gK (s:Sl eU) (v:eU):s.push v=au dF (s.n+1) (av s.n (fun i=>hX (s.get i)) (cZ [hX v])):=(fP ma Ru s v).symm
theorem gL (s t:Sl eU):s.join t=au dF (s.n+t.n) (av s.n (fun i=>hX (s.get i)) (fun i=>hX (t.get i))):=(gM ma s t).symm
theorem iI (l:List eU):Sl.lit l=au dF l.length (cZ (l.map hX)):=(jO ma Ru l).symm
theorem iJ (s:Sl eU) (i:Nat) (v:eU):s.set i v=au dF s.n (bO (fun j=>hX (s.get j)) i (hX v)):=(jP ma s i v).symm
theorem fQ (s t:Sl eU) (o m:Nat):s.qN o m t=au dF s.n (aA o m (fun j=>hX (s.get j)) (fun j=>hX (t.get j))):=(fM ma s t o m).symm
theorem iK (m n n' : Nat) (acc aw:Nat->KV):au dF m (av n (fun i=>hX ((au dF n' acc).get i)) aw)=au dF m (av n acc aw):=kb ma ..
theorem iL (m n n' : Nat) (acc aw:Nat->KV):au dF m (av n acc (fun i=>hX ((au dF n' aw).get i)))=au dF m (av n acc aw):=kd ma ..
theorem iM (m n' i:Nat) (acc:Nat->KV) (v:KV):au dF m (bO (fun j=>hX ((au dF n' acc).get j)) i v)=au dF m (bO acc i v):=ke ma ..
theorem iP (n n' o m:Nat) (acc aw:Nat->KV):au dF n (aA o m (fun j=>hX ((au dF n' acc).get j)) aw)=au dF n (aA o m acc aw):=kO ma ..
theorem iQ (n n' o m:Nat) (acc aw:Nat->KV):au dF n (aA o m acc (fun j=>hX ((au dF n' aw).get j)))=au dF n (aA o m acc aw):=kP ma ..
structure fp where
 x:Int
 y:Int
 z:Int
instance:Inhabited fp:=⟨⟨default,default,default⟩⟩
def apr (x:fp):List KV:=[.int .i64 x.x,.int .i64 x.y,.int .i64 x.z]
def oP (x:fp):KV:=.agg (apr x)
def aps (c:Nat->KV):fp:=⟨ax (c 0),ax (c 1),ax (c 2)⟩
def kQ (v:KV):fp:=aps fun k=>v.cells.getD k .bf
theorem EY (x:fp):kQ (oP x)=x:=rfl
theorem aji:kQ .bf=default:=rfl
theorem rz (s:Sl fp) (v:fp):s.push v=au kQ (s.n+1) (av s.n (fun i=>oP (s.get i)) (cZ [oP v])):=(fP EY aji s v).symm
theorem sK (s t:Sl fp):s.join t=au kQ (s.n+t.n) (av s.n (fun i=>oP (s.get i)) (fun i=>oP (t.get i))):=(gM EY s t).symm
theorem xf (l:List fp):Sl.lit l=au kQ l.length (cZ (l.map oP)):=(jO EY aji l).symm
theorem xg (s:Sl fp) (i:Nat) (v:fp):s.set i v=au kQ s.n (bO (fun j=>oP (s.get j)) i (oP v)):=(jP EY s i v).symm
theorem pF (s t:Sl fp) (o m:Nat):s.qN o m t=au kQ s.n (aA o m (fun j=>oP (s.get j)) (fun j=>oP (t.get j))):=(fM EY s t o m).symm
theorem xh (m n n' : Nat) (acc aw:Nat->KV):au kQ m (av n (fun i=>oP ((au kQ n' acc).get i)) aw)=au kQ m (av n acc aw):=kb EY ..
theorem xj (m n n' : Nat) (acc aw:Nat->KV):au kQ m (av n acc (fun i=>oP ((au kQ n' aw).get i)))=au kQ m (av n acc aw):=kd EY ..
theorem xk (m n' i:Nat) (acc:Nat->KV) (v:KV):au kQ m (bO (fun j=>oP ((au kQ n' acc).get j)) i v)=au kQ m (bO acc i v):=ke EY ..
theorem xm (n n' o m:Nat) (acc aw:Nat->KV):au kQ n (aA o m (fun j=>oP ((au kQ n' acc).get j)) aw)=au kQ n (aA o m acc aw):=kO EY ..
theorem xn (n n' o m:Nat) (acc aw:Nat->KV):au kQ n (aA o m acc (fun j=>oP ((au kQ n' aw).get j)))=au kQ n (aA o m acc aw):=kP EY ..
structure hD where
 m:eU
 t:fp
instance:Inhabited hD:=⟨⟨default,default⟩⟩
def apt (x:hD):List KV:=[.int .i64 x.m.e0.e0,.int .i64 x.m.e0.e1,.int .i64 x.m.e0.e2,.int .i64 x.m.e1.e0,.int .i64 x.m.e1.e1,.int .i64 x.m.e1.e2,.int .i64 x.m.e2.e0,.int .i64 x.m.e2.e1,.int .i64 x.m.e2.e2,.int .i64 x.t.x,.int .i64 x.t.y,.int .i64 x.t.z]
def yl (x:hD):KV:=.agg (apt x)
def apu (c:Nat->KV):hD:=⟨⟨⟨ax (c 0),ax (c 1),ax (c 2)⟩,⟨ax (c 3),ax (c 4),ax (c 5)⟩,⟨ax (c 6),ax (c 7),ax (c 8)⟩⟩,⟨ax (c 9),ax (c 10),ax (c 11)⟩⟩
def rh (v:KV):hD:=apu fun k=>v.cells.getD k .bf
theorem EZ (x:hD):rh (yl x)=x:=rfl
theorem ajj:rh .bf=default:=rfl
theorem sL (s:Sl hD) (v:hD):s.push v=au rh (s.n+1) (av s.n (fun i=>yl (s.get i)) (cZ [yl v])):=(fP EZ ajj s v).symm
theorem sM (s t:Sl hD):s.join t=au rh (s.n+t.n) (av s.n (fun i=>yl (s.get i)) (fun i=>yl (t.get i))):=(gM EZ s t).symm
theorem xo (l:List hD):Sl.lit l=au rh l.length (cZ (l.map yl)):=(jO EZ ajj l).symm
theorem xq (s:Sl hD) (i:Nat) (v:hD):s.set i v=au rh s.n (bO (fun j=>yl (s.get j)) i (yl v)):=(jP EZ s i v).symm
theorem pG (s t:Sl hD) (o m:Nat):s.qN o m t=au rh s.n (aA o m (fun j=>yl (s.get j)) (fun j=>yl (t.get j))):=(fM EZ s t o m).symm
theorem xr (m n n' : Nat) (acc aw:Nat->KV):au rh m (av n (fun i=>yl ((au rh n' acc).get i)) aw)=au rh m (av n acc aw):=kb EZ ..
theorem xt (m n n' : Nat) (acc aw:Nat->KV):au rh m (av n acc (fun i=>yl ((au rh n' aw).get i)))=au rh m (av n acc aw):=kd EZ ..
theorem xu (m n' i:Nat) (acc:Nat->KV) (v:KV):au rh m (bO (fun j=>yl ((au rh n' acc).get j)) i v)=au rh m (bO acc i v):=ke EZ ..
theorem xv (n n' o m:Nat) (acc aw:Nat->KV):au rh n (aA o m (fun j=>yl ((au rh n' acc).get j)) aw)=au rh n (aA o m acc aw):=kO EZ ..
theorem xw (n n' o m:Nat) (acc aw:Nat->KV):au rh n (aA o m acc (fun j=>yl ((au rh n' aw).get j)))=au rh n (aA o m acc aw):=kP EZ ..
structure Db where
 e0:Int
 e1:Int
 e2:Int
 e3:Int
 e4:Int
instance:Inhabited Db:=⟨⟨default,default,default,default,default⟩⟩
def amZ (x:Db):List KV:=[.int .u8 x.e0,.int .u8 x.e1,.int .u8 x.e2,.int .u8 x.e3,.int .u8 x.e4]
def wG (x:Db):KV:=.agg (amZ x)
def am0 (c:Nat->KV):Db:=⟨ax (c 0),ax (c 1),ax (c 2),ax (c 3),ax (c 4)⟩
def nQ (v:KV):Db:=am0 fun k=>v.cells.getD k .bf
theorem xF (x:Db):nQ (wG x)=x:=rfl
theorem acP:nQ .bf=default:=rfl
theorem nm (s:Sl Db) (v:Db):s.push v=au nQ (s.n+1) (av s.n (fun i=>wG (s.get i)) (cZ [wG v])):=(fP xF acP s v).symm
theorem np (s t:Sl Db):s.join t=au nQ (s.n+t.n) (av s.n (fun i=>wG (s.get i)) (fun i=>wG (t.get i))):=(gM xF s t).symm
theorem pH (l:List Db):Sl.lit l=au nQ l.length (cZ (l.map wG)):=(jO xF acP l).symm
theorem pI (s:Sl Db) (i:Nat) (v:Db):s.set i v=au nQ s.n (bO (fun j=>wG (s.get j)) i (wG v)):=(jP xF s i v).symm
theorem la (s t:Sl Db) (o m:Nat):s.qN o m t=au nQ s.n (aA o m (fun j=>wG (s.get j)) (fun j=>wG (t.get j))):=(fM xF s t o m).symm
theorem pJ (m n n' : Nat) (acc aw:Nat->KV):au nQ m (av n (fun i=>wG ((au nQ n' acc).get i)) aw)=au nQ m (av n acc aw):=kb xF ..
theorem pK (m n n' : Nat) (acc aw:Nat->KV):au nQ m (av n acc (fun i=>wG ((au nQ n' aw).get i)))=au nQ m (av n acc aw):=kd xF ..
theorem pL (m n' i:Nat) (acc:Nat->KV) (v:KV):au nQ m (bO (fun j=>wG ((au nQ n' acc).get j)) i v)=au nQ m (bO acc i v):=ke xF ..
theorem pM (n n' o m:Nat) (acc aw:Nat->KV):au nQ n (aA o m (fun j=>wG ((au nQ n' acc).get j)) aw)=au nQ n (aA o m acc aw):=kO xF ..
theorem pN (n n' o m:Nat) (acc aw:Nat->KV):au nQ n (aA o m acc (fun j=>wG ((au nQ n' aw).get j)))=au nQ n (aA o m acc aw):=kP xF ..
structure Color where
 e0:Int
 e1:Int
 e2:Int
 e3:Int
instance:Inhabited Color:=⟨⟨default,default,default,default⟩⟩
def am1 (x:Color):List KV:=[.int .u8 x.e0,.int .u8 x.e1,.int .u8 x.e2,.int .u8 x.e3]
def uU (x:Color):KV:=.agg (am1 x)
def am2 (c:Nat->KV):Color:=⟨ax (c 0),ax (c 1),ax (c 2),ax (c 3)⟩
def mo (v:KV):Color:=am2 fun k=>v.cells.getD k .bf
theorem xG (x:Color):mo (uU x)=x:=rfl
theorem acQ:mo .bf=default:=rfl
theorem ns (s:Sl Color) (v:Color):s.push v=au mo (s.n+1) (av s.n (fun i=>uU (s.get i)) (cZ [uU v])):=(fP xG acQ s v).symm
theorem nt (s t:Sl Color):s.join t=au mo (s.n+t.n) (av s.n (fun i=>uU (s.get i)) (fun i=>uU (t.get i))):=(gM xG s t).symm
theorem pO (l:List Color):Sl.lit l=au mo l.length (cZ (l.map uU)):=(jO xG acQ l).symm
theorem pP (s:Sl Color) (i:Nat) (v:Color):s.set i v=au mo s.n (bO (fun j=>uU (s.get j)) i (uU v)):=(jP xG s i v).symm
theorem lh (s t:Sl Color) (o m:Nat):s.qN o m t=au mo s.n (aA o m (fun j=>uU (s.get j)) (fun j=>uU (t.get j))):=(fM xG s t o m).symm
theorem pQ (m n n' : Nat) (acc aw:Nat->KV):au mo m (av n (fun i=>uU ((au mo n' acc).get i)) aw)=au mo m (av n acc aw):=kb xG ..
theorem pR (m n n' : Nat) (acc aw:Nat->KV):au mo m (av n acc (fun i=>uU ((au mo n' aw).get i)))=au mo m (av n acc aw):=kd xG ..
theorem pS (m n' i:Nat) (acc:Nat->KV) (v:KV):au mo m (bO (fun j=>uU ((au mo n' acc).get j)) i v)=au mo m (bO acc i v):=ke xG ..
theorem pT (n n' o m:Nat) (acc aw:Nat->KV):au mo n (aA o m (fun j=>uU ((au mo n' acc).get j)) aw)=au mo n (aA o m acc aw):=kO xG ..
theorem pU (n n' o m:Nat) (acc aw:Nat->KV):au mo n (aA o m acc (fun j=>uU ((au mo n' aw).get j)))=au mo n (aA o m acc aw):=kP xG ..
structure kf where
 color:Color
 dI:Int
 oQ:Int
 nT:Int
 ku:Bool
 bin:Int
instance:Inhabited kf:=⟨by constructor<;>exact default⟩
def ahH (x:kf):List KV:=[.int .u8 x.color.e0,.int .u8 x.color.e1,.int .u8 x.color.e2,.int .u8 x.color.e3,.int .i64 x.dI,.int .u8 x.oQ,.int .i64 x.nT,.bool x.ku,.int .i64 x.bin]
def xV (x:kf):KV:=.agg (ahH x)
def ahI (c:Nat->KV):kf:=⟨⟨ax (c 0),ax (c 1),ax (c 2),ax (c 3)⟩,ax (c 4),ax (c 5),ax (c 6),eH (c 7),ax (c 8)⟩
def qO (v:KV):kf:=ahI fun k=>v.cells.getD k .bf
theorem AX (x:kf):qO (xV x)=x:=rfl
theorem af2:qO .bf=default:=rfl
theorem pV (s:Sl kf) (v:kf):s.push v=au qO (s.n+1) (av s.n (fun i=>xV (s.get i)) (cZ [xV v])):=(fP AX af2 s v).symm
theorem pW (s t:Sl kf):s.join t=au qO (s.n+t.n) (av s.n (fun i=>xV (s.get i)) (fun i=>xV (t.get i))):=(gM AX s t).symm
theorem sN (l:List kf):Sl.lit l=au qO l.length (cZ (l.map xV)):=(jO AX af2 l).symm
theorem sP (s:Sl kf) (i:Nat) (v:kf):s.set i v=au qO s.n (bO (fun j=>xV (s.get j)) i (xV v)):=(jP AX s i v).symm
theorem nu (s t:Sl kf) (o m:Nat):s.qN o m t=au qO s.n (aA o m (fun j=>xV (s.get j)) (fun j=>xV (t.get j))):=(fM AX s t o m).symm
theorem sQ (m n n' : Nat) (acc aw:Nat->KV):au qO m (av n (fun i=>xV ((au qO n' acc).get i)) aw)=au qO m (av n acc aw):=kb AX ..
theorem sR (m n n' : Nat) (acc aw:Nat->KV):au qO m (av n acc (fun i=>xV ((au qO n' aw).get i)))=au qO m (av n acc aw):=kd AX ..
theorem sS (m n' i:Nat) (acc:Nat->KV) (v:KV):au qO m (bO (fun j=>xV ((au qO n' acc).get j)) i v)=au qO m (bO acc i v):=ke AX ..
theorem sT (n n' o m:Nat) (acc aw:Nat->KV):au qO n (aA o m (fun j=>xV ((au qO n' acc).get j)) aw)=au qO n (aA o m acc aw):=kO AX ..
theorem sU (n n' o m:Nat) (acc aw:Nat->KV):au qO n (aA o m acc (fun j=>xV ((au qO n' aw).get j)))=au qO n (aA o m acc aw):=kP AX ..
structure dt where
 cp:Db
 look:kf
instance:Inhabited dt:=⟨⟨default,default⟩⟩
def ad8 (x:dt):List KV:=[.int .u8 x.cp.e0,.int .u8 x.cp.e1,.int .u8 x.cp.e2,.int .u8 x.cp.e3,.int .u8 x.cp.e4,.int .u8 x.look.color.e0,.int .u8 x.look.color.e1,.int .u8 x.look.color.e2,.int .u8 x.look.color.e3,.int .i64 x.look.dI,.int .u8 x.look.oQ,.int .i64 x.look.nT,.bool x.look.ku,.int .i64 x.look.bin]
def oy (x:dt):KV:=.agg (ad8 x)
def ad9 (c:Nat->KV):dt:=⟨⟨ax (c 0),ax (c 1),ax (c 2),ax (c 3),ax (c 4)⟩,⟨⟨ax (c 5),ax (c 6),ax (c 7),ax (c 8)⟩,ax (c 9),ax (c 10),ax (c 11),eH (c 12),ax (c 13)⟩⟩
def iv (v:KV):dt:=ad9 fun k=>v.cells.getD k .bf
theorem xH (x:dt):iv (oy x)=x:=rfl
theorem acR:iv .bf=default:=rfl
theorem lL (s:Sl dt) (v:dt):s.push v=au iv (s.n+1) (av s.n (fun i=>oy (s.get i)) (cZ [oy v])):=(fP xH acR s v).symm
theorem nv (s t:Sl dt):s.join t=au iv (s.n+t.n) (av s.n (fun i=>oy (s.get i)) (fun i=>oy (t.get i))):=(gM xH s t).symm
theorem pX (l:List dt):Sl.lit l=au iv l.length (cZ (l.map oy)):=(jO xH acR l).symm
theorem pY (s:Sl dt) (i:Nat) (v:dt):s.set i v=au iv s.n (bO (fun j=>oy (s.get j)) i (oy v)):=(jP xH s i v).symm
theorem lj (s t:Sl dt) (o m:Nat):s.qN o m t=au iv s.n (aA o m (fun j=>oy (s.get j)) (fun j=>oy (t.get j))):=(fM xH s t o m).symm
theorem pZ (m n n' : Nat) (acc aw:Nat->KV):au iv m (av n (fun i=>oy ((au iv n' acc).get i)) aw)=au iv m (av n acc aw):=kb xH ..
theorem p0 (m n n' : Nat) (acc aw:Nat->KV):au iv m (av n acc (fun i=>oy ((au iv n' aw).get i)))=au iv m (av n acc aw):=kd xH ..
theorem p8 (m n' i:Nat) (acc:Nat->KV) (v:KV):au iv m (bO (fun j=>oy ((au iv n' acc).get j)) i v)=au iv m (bO acc i v):=ke xH ..
theorem p9 (n n' o m:Nat) (acc aw:Nat->KV):au iv n (aA o m (fun j=>oy ((au iv n' acc).get j)) aw)=au iv n (aA o m acc aw):=kO xH ..
theorem qa (n n' o m:Nat) (acc aw:Nat->KV):au iv n (aA o m acc (fun j=>oy ((au iv n' aw).get j)))=au iv n (aA o m acc aw):=kP xH ..
structure Node where
 kind:Int
 oz:hD
 sh:Int
 eZ:fp
 fo:(Sl Int)
 fB:Int
 bF:dt
instance:Inhabited Node:=⟨by constructor<;>exact default⟩
def al1 (x:Node):List KV:=[.int .u8 x.kind,.int .i64 x.oz.m.e0.e0,.int .i64 x.oz.m.e0.e1,.int .i64 x.oz.m.e0.e2,.int .i64 x.oz.m.e1.e0,.int .i64 x.oz.m.e1.e1,.int .i64 x.oz.m.e1.e2,.int .i64 x.oz.m.e2.e0,.int .i64 x.oz.m.e2.e1,.int .i64 x.oz.m.e2.e2,.int .i64 x.oz.t.x,.int .i64 x.oz.t.y,.int .i64 x.oz.t.z,.int .u16 x.sh,.int .i64 x.eZ.x,.int .i64 x.eZ.y,.int .i64 x.eZ.z,dG 3 (kI .i64) x.fo,.int .i64 x.fB,.int .u8 x.bF.cp.e0,.int .u8 x.bF.cp.e1,.int .u8 x.bF.cp.e2,.int .u8 x.bF.cp.e3,.int .u8 x.bF.cp.e4,.int .u8 x.bF.look.color.e0,.int .u8 x.bF.look.color.e1,.int .u8 x.bF.look.color.e2,.int .u8 x.bF.look.color.e3,.int .i64 x.bF.look.dI,.int .u8 x.bF.look.oQ,.int .i64 x.bF.look.nT,.bool x.bF.look.ku,.int .i64 x.bF.look.bin]
def rI (x:Node):KV:=.agg (al1 x)
def al2 (c:Nat->KV):Node:=⟨ax (c 0),⟨⟨⟨ax (c 1),ax (c 2),ax (c 3)⟩,⟨ax (c 4),ax (c 5),ax (c 6)⟩,⟨ax (c 7),ax (c 8),ax (c 9)⟩⟩,⟨ax (c 10),ax (c 11),ax (c 12)⟩⟩,ax (c 13),⟨ax (c 14),ax (c 15),ax (c 16)⟩,eF ax (c 17),ax (c 18),⟨⟨ax (c 19),ax (c 20),ax (c 21),ax (c 22),ax (c 23)⟩,⟨⟨ax (c 24),ax (c 25),ax (c 26),ax (c 27)⟩,ax (c 28),ax (c 29),ax (c 30),eH (c 31),ax (c 32)⟩⟩⟩
def kR (v:KV):Node:=al2 fun k=>v.cells.getD k .bf
theorem AY (x:Node):kR (rI x)=x:=rfl
theorem af3:kR .bf=default:=rfl
theorem qb (s:Sl Node) (v:Node):s.push v=au kR (s.n+1) (av s.n (fun i=>rI (s.get i)) (cZ [rI v])):=(fP AY af3 s v).symm
theorem qc (s t:Sl Node):s.join t=au kR (s.n+t.n) (av s.n (fun i=>rI (s.get i)) (fun i=>rI (t.get i))):=(gM AY s t).symm
theorem sX (l:List Node):Sl.lit l=au kR l.length (cZ (l.map rI)):=(jO AY af3 l).symm
theorem sZ (s:Sl Node) (i:Nat) (v:Node):s.set i v=au kR s.n (bO (fun j=>rI (s.get j)) i (rI v)):=(jP AY s i v).symm
theorem nw (s t:Sl Node) (o m:Nat):s.qN o m t=au kR s.n (aA o m (fun j=>rI (s.get j)) (fun j=>rI (t.get j))):=(fM AY s t o m).symm
theorem s0 (m n n' : Nat) (acc aw:Nat->KV):au kR m (av n (fun i=>rI ((au kR n' acc).get i)) aw)=au kR m (av n acc aw):=kb AY ..
theorem s5 (m n n' : Nat) (acc aw:Nat->KV):au kR m (av n acc (fun i=>rI ((au kR n' aw).get i)))=au kR m (av n acc aw):=kd AY ..
theorem s9 (m n' i:Nat) (acc:Nat->KV) (v:KV):au kR m (bO (fun j=>rI ((au kR n' acc).get j)) i v)=au kR m (bO acc i v):=ke AY ..
theorem ta (n n' o m:Nat) (acc aw:Nat->KV):au kR n (aA o m (fun j=>rI ((au kR n' acc).get j)) aw)=au kR n (aA o m acc aw):=kO AY ..
theorem tf (n n' o m:Nat) (acc aw:Nat->KV):au kR n (aA o m acc (fun j=>rI ((au kR n' aw).get j)))=au kR n (aA o m acc aw):=kP AY ..
structure kA where
 e0:Int
 e1:Int
instance:Inhabited kA:=⟨⟨default,default⟩⟩
def al3 (x:kA):List KV:=[.int .i64 x.e0,.int .i64 x.e1]
def ju (x:kA):KV:=.agg (al3 x)
def al4 (c:Nat->KV):kA:=⟨ax (c 0),ax (c 1)⟩
def fC (v:KV):kA:=al4 fun k=>v.cells.getD k .bf
theorem uD (x:kA):fC (ju x)=x:=rfl
theorem aaI:fC .bf=default:=rfl
theorem lk (s:Sl kA) (v:kA):s.push v=au fC (s.n+1) (av s.n (fun i=>ju (s.get i)) (cZ [ju v])):=(fP uD aaI s v).symm
theorem j5 (s t:Sl kA):s.join t=au fC (s.n+t.n) (av s.n (fun i=>ju (s.get i)) (fun i=>ju (t.get i))):=(gM uD s t).symm
theorem lM (l:List kA):Sl.lit l=au fC l.length (cZ (l.map ju)):=(jO uD aaI l).symm
theorem ny (s:Sl kA) (i:Nat) (v:kA):s.set i v=au fC s.n (bO (fun j=>ju (s.get j)) i (ju v)):=(jP uD s i v).symm
theorem jU (s t:Sl kA) (o m:Nat):s.qN o m t=au fC s.n (aA o m (fun j=>ju (s.get j)) (fun j=>ju (t.get j))):=(fM uD s t o m).symm
theorem lN (m n n' : Nat) (acc aw:Nat->KV):au fC m (av n (fun i=>ju ((au fC n' acc).get i)) aw)=au fC m (av n acc aw):=kb uD ..
theorem nz (m n n' : Nat) (acc aw:Nat->KV):au fC m (av n acc (fun i=>ju ((au fC n' aw).get i)))=au fC m (av n acc aw):=kd uD ..
theorem nA (m n' i:Nat) (acc:Nat->KV) (v:KV):au fC m (bO (fun j=>ju ((au fC n' acc).get j)) i v)=au fC m (bO acc i v):=ke uD ..
theorem nB (n n' o m:Nat) (acc aw:Nat->KV):au fC n (aA o m (fun j=>ju ((au fC n' acc).get j)) aw)=au fC n (aA o m acc aw):=kO uD ..
theorem nC (n n' o m:Nat) (acc aw:Nat->KV):au fC n (aA o m acc (fun j=>ju ((au fC n' aw).get j)))=au fC n (aA o m acc aw):=kP uD ..
structure Prim where
 kind:Int
 index:(Sl Int)
instance:Inhabited Prim:=⟨⟨default,default⟩⟩
def al5 (x:Prim):List KV:=[.int .u8 x.kind,dG 3 (kI .i64) x.index]
def vH (x:Prim):KV:=.agg (al5 x)
def al6 (c:Nat->KV):Prim:=⟨ax (c 0),eF ax (c 1)⟩
def mq (v:KV):Prim:=al6 fun k=>v.cells.getD k .bf
theorem AZ (x:Prim):mq (vH x)=x:=rfl
theorem af4:mq .bf=default:=rfl
theorem qd (s:Sl Prim) (v:Prim):s.push v=au mq (s.n+1) (av s.n (fun i=>vH (s.get i)) (cZ [vH v])):=(fP AZ af4 s v).symm
theorem qe (s t:Sl Prim):s.join t=au mq (s.n+t.n) (av s.n (fun i=>vH (s.get i)) (fun i=>vH (t.get i))):=(gM AZ s t).symm
theorem tg (l:List Prim):Sl.lit l=au mq l.length (cZ (l.map vH)):=(jO AZ af4 l).symm
theorem th (s:Sl Prim) (i:Nat) (v:Prim):s.set i v=au mq s.n (bO (fun j=>vH (s.get j)) i (vH v)):=(jP AZ s i v).symm
theorem nD (s t:Sl Prim) (o m:Nat):s.qN o m t=au mq s.n (aA o m (fun j=>vH (s.get j)) (fun j=>vH (t.get j))):=(fM AZ s t o m).symm
theorem ti (m n n' : Nat) (acc aw:Nat->KV):au mq m (av n (fun i=>vH ((au mq n' acc).get i)) aw)=au mq m (av n acc aw):=kb AZ ..
theorem tj (m n n' : Nat) (acc aw:Nat->KV):au mq m (av n acc (fun i=>vH ((au mq n' aw).get i)))=au mq m (av n acc aw):=kd AZ ..
theorem tl (m n' i:Nat) (acc:Nat->KV) (v:KV):au mq m (bO (fun j=>vH ((au mq n' acc).get j)) i v)=au mq m (bO acc i v):=ke AZ ..
theorem tq (n n' o m:Nat) (acc aw:Nat->KV):au mq n (aA o m (fun j=>vH ((au mq n' acc).get j)) aw)=au mq n (aA o m acc aw):=kO AZ ..
theorem tt (n n' o m:Nat) (acc aw:Nat->KV):au mq n (aA o m acc (fun j=>vH ((au mq n' aw).get j)))=au mq n (aA o m acc aw):=kP AZ ..
structure gu where
 ay:(Sl fp)
 uV:(Sl kA)
 fY:(Sl Prim)
instance:Inhabited gu:=⟨⟨default,default,default⟩⟩
def Wg (x:gu):List KV:=[dG 36 oP x.ay,dG 125 ju x.uV,dG 120 vH x.fY]
def uE (x:gu):KV:=.agg (Wg x)
def Wh (c:Nat->KV):gu:=⟨eF kQ (c 0),eF fC (c 1),eF mq (c 2)⟩
def kS (v:KV):gu:=Wh fun k=>v.cells.getD k .bf
theorem A5 (x:gu):kS (uE x)=x:=rfl
theorem af5:kS .bf=default:=rfl
theorem qf (s:Sl gu) (v:gu):s.push v=au kS (s.n+1) (av s.n (fun i=>uE (s.get i)) (cZ [uE v])):=(fP A5 af5 s v).symm
theorem qg (s t:Sl gu):s.join t=au kS (s.n+t.n) (av s.n (fun i=>uE (s.get i)) (fun i=>uE (t.get i))):=(gM A5 s t).symm
theorem tu (l:List gu):Sl.lit l=au kS l.length (cZ (l.map uE)):=(jO A5 af5 l).symm
theorem tv (s:Sl gu) (i:Nat) (v:gu):s.set i v=au kS s.n (bO (fun j=>uE (s.get j)) i (uE v)):=(jP A5 s i v).symm
theorem nE (s t:Sl gu) (o m:Nat):s.qN o m t=au kS s.n (aA o m (fun j=>uE (s.get j)) (fun j=>uE (t.get j))):=(fM A5 s t o m).symm
theorem tw (m n n' : Nat) (acc aw:Nat->KV):au kS m (av n (fun i=>uE ((au kS n' acc).get i)) aw)=au kS m (av n acc aw):=kb A5 ..
theorem tz (m n n' : Nat) (acc aw:Nat->KV):au kS m (av n acc (fun i=>uE ((au kS n' aw).get i)))=au kS m (av n acc aw):=kd A5 ..
theorem tA (m n' i:Nat) (acc:Nat->KV) (v:KV):au kS m (bO (fun j=>uE ((au kS n' acc).get j)) i v)=au kS m (bO acc i v):=ke A5 ..
theorem tB (n n' o m:Nat) (acc aw:Nat->KV):au kS n (aA o m (fun j=>uE ((au kS n' acc).get j)) aw)=au kS n (aA o m acc aw):=kO A5 ..
theorem tC (n n' o m:Nat) (acc aw:Nat->KV):au kS n (aA o m acc (fun j=>uE ((au kS n' aw).get j)))=au kS n (aA o m acc aw):=kP A5 ..
structure gP where
 w:Int
 h:Int
 Ux:(Sl Color)
instance:Inhabited gP:=⟨⟨default,default,default⟩⟩
def akd (x:gP):List KV:=[.int .i64 x.w,.int .i64 x.h,dG 58 uU x.Ux]
def jF (x:gP):KV:=.agg (akd x)
def ake (c:Nat->KV):gP:=⟨ax (c 0),ax (c 1),eF mo (c 2)⟩
def eN (v:KV):gP:=ake fun k=>v.cells.getD k .bf
theorem ri (x:gP):eN (jF x)=x:=rfl
theorem XI:eN .bf=default:=rfl
theorem jV (s:Sl gP) (v:gP):s.push v=au eN (s.n+1) (av s.n (fun i=>jF (s.get i)) (cZ [jF v])):=(fP ri XI s v).symm
theorem jW (s t:Sl gP):s.join t=au eN (s.n+t.n) (av s.n (fun i=>jF (s.get i)) (fun i=>jF (t.get i))):=(gM ri s t).symm
theorem ll (l:List gP):Sl.lit l=au eN l.length (cZ (l.map jF)):=(jO ri XI l).symm
theorem ln (s:Sl gP) (i:Nat) (v:gP):s.set i v=au eN s.n (bO (fun j=>jF (s.get j)) i (jF v)):=(jP ri s i v).symm
theorem iR (s t:Sl gP) (o m:Nat):s.qN o m t=au eN s.n (aA o m (fun j=>jF (s.get j)) (fun j=>jF (t.get j))):=(fM ri s t o m).symm
theorem lq (m n n' : Nat) (acc aw:Nat->KV):au eN m (av n (fun i=>jF ((au eN n' acc).get i)) aw)=au eN m (av n acc aw):=kb ri ..
theorem lr (m n n' : Nat) (acc aw:Nat->KV):au eN m (av n acc (fun i=>jF ((au eN n' aw).get i)))=au eN m (av n acc aw):=kd ri ..
theorem lu (m n' i:Nat) (acc:Nat->KV) (v:KV):au eN m (bO (fun j=>jF ((au eN n' acc).get j)) i v)=au eN m (bO acc i v):=ke ri ..
theorem lx (n n' o m:Nat) (acc aw:Nat->KV):au eN n (aA o m (fun j=>jF ((au eN n' acc).get j)) aw)=au eN n (aA o m acc aw):=kO ri ..
theorem ly (n n' o m:Nat) (acc aw:Nat->KV):au eN n (aA o m acc (fun j=>jF ((au eN n' aw).get j)))=au eN n (aA o m acc aw):=kP ri ..
structure aC where
 graph:fA
 nodes:(Sl Node)
 eO:(Sl gu)
 j6:(Sl gP)
 root:Handle
instance:Inhabited aC:=⟨⟨default,default,default,default,default⟩⟩
def zt (x:aC):List KV:=[dG 139 vC x.graph.cD.cN,dG 47 (dG 32 gN) x.graph.kids,dG 64 rI x.nodes,dG 79 uE x.eO,dG 118 jF x.j6,.int .i64 x.root.slot,.int .i64 x.root.gen]
def kC (x:aC):KV:=.agg (zt x)
def zu (c:Nat->KV):aC:=⟨⟨⟨eF nL (c 0)⟩,eF (eF fK) (c 1)⟩,eF kR (c 2),eF kS (c 3),eF eN (c 4),⟨ax (c 5),ax (c 6)⟩⟩
def eP (v:KV):aC:=zu fun k=>v.cells.getD k .bf
theorem xI (x:aC):eP (kC x)=x:=rfl
theorem acS:eP .bf=default:=rfl
theorem nF (s:Sl aC) (v:aC):s.push v=au eP (s.n+1) (av s.n (fun i=>kC (s.get i)) (cZ [kC v])):=(fP xI acS s v).symm
theorem nG (s t:Sl aC):s.join t=au eP (s.n+t.n) (av s.n (fun i=>kC (s.get i)) (fun i=>kC (t.get i))):=(gM xI s t).symm
theorem qh (l:List aC):Sl.lit l=au eP l.length (cZ (l.map kC)):=(jO xI acS l).symm
theorem qi (s:Sl aC) (i:Nat) (v:aC):s.set i v=au eP s.n (bO (fun j=>kC (s.get j)) i (kC v)):=(jP xI s i v).symm
theorem lz (s t:Sl aC) (o m:Nat):s.qN o m t=au eP s.n (aA o m (fun j=>kC (s.get j)) (fun j=>kC (t.get j))):=(fM xI s t o m).symm
theorem qj (m n n' : Nat) (acc aw:Nat->KV):au eP m (av n (fun i=>kC ((au eP n' acc).get i)) aw)=au eP m (av n acc aw):=kb xI ..
theorem qk (m n n' : Nat) (acc aw:Nat->KV):au eP m (av n acc (fun i=>kC ((au eP n' aw).get i)))=au eP m (av n acc aw):=kd xI ..
theorem ql (m n' i:Nat) (acc:Nat->KV) (v:KV):au eP m (bO (fun j=>kC ((au eP n' acc).get j)) i v)=au eP m (bO acc i v):=ke xI ..
theorem qm (n n' o m:Nat) (acc aw:Nat->KV):au eP n (aA o m (fun j=>kC ((au eP n' acc).get j)) aw)=au eP n (aA o m acc aw):=kO xI ..
theorem qo (n n' o m:Nat) (acc aw:Nat->KV):au eP n (aA o m acc (fun j=>kC ((au eP n' aw).get j)))=au eP n (aA o m acc aw):=kP xI ..
structure nH where
 t2:Bool
 n:Int
 many:(Sl Int)
 step:Int
 s:aC
instance:Inhabited nH:=⟨⟨default,default,default,default,default⟩⟩
def Eo (x:nH):List KV:=[.bool x.t2,.int .i64 x.n,dG 3 (kI .i64) x.many,.int .i64 x.step]
def Ep (x:nH):List (List KV):=[zt x.s]
def LI (vs:List KV) (rs:List (List KV)):nH:=⟨eH (v9 vs 0),ax (v9 vs 1),eF ax (v9 vs 2),ax (v9 vs 3),zu (r9 rs 0)⟩
def NH:aJ:=⟨[(2,w9 b9),(3,w9 i9),(4,⟨false,[.arr 3]⟩),(5,w9 i9)],[(1,[n9 139,n9 47,n9 64,n9 79,n9 118,i9,i9],1)],[(1,0,0)]⟩
structure gY where
 t2:Bool
 n:Int
 many:(Sl Int)
 step:Int
 fa:(Sl Int)
 i:Int
 s:aC
instance:Inhabited gY:=⟨by constructor<;>exact default⟩
def BR (x:gY):List KV:=[.bool x.t2,.int .i64 x.n,dG 3 (kI .i64) x.many,.int .i64 x.step,dG 3 (kI .i64) x.fa,.int .i64 x.i]
def BS (x:gY):List (List KV):=[zt x.s]
def Iw (vs:List KV) (rs:List (List KV)):gY:=⟨eH (v9 vs 0),ax (v9 vs 1),eF ax (v9 vs 2),ax (v9 vs 3),eF ax (v9 vs 4),ax (v9 vs 5),zu (r9 rs 0)⟩
def JR:aJ:=⟨[(2,w9 b9),(3,w9 i9),(4,⟨false,[.arr 3]⟩),(5,w9 i9),(6,⟨false,[.arr 3]⟩),(7,w9 i9)],[(1,[n9 139,n9 47,n9 64,n9 79,n9 118,i9,i9],1)],[(1,0,0)]⟩
structure fq where
 t2:Bool
 n:Int
 many:(Sl Int)
 step:Int
 fa:(Sl Int)
 i:Int
 k:Int
 s:aC
instance:Inhabited fq:=⟨by constructor<;>exact default⟩
def xW (x:fq):List KV:=[.bool x.t2,.int .i64 x.n,dG 3 (kI .i64) x.many,.int .i64 x.step,dG 3 (kI .i64) x.fa,.int .i64 x.i,.int .i64 x.k]
def xX (x:fq):List (List KV):=[zt x.s]
def DW (vs:List KV) (rs:List (List KV)):fq:=⟨eH (v9 vs 0),ax (v9 vs 1),eF ax (v9 vs 2),ax (v9 vs 3),eF ax (v9 vs 4),ax (v9 vs 5),ax (v9 vs 6),zu (r9 rs 0)⟩
def Fp:aJ:=⟨[(2,w9 b9),(3,w9 i9),(4,⟨false,[.arr 3]⟩),(5,w9 i9),(6,⟨false,[.arr 3]⟩),(7,w9 i9),(8,w9 i9)],[(1,[n9 139,n9 47,n9 64,n9 79,n9 118,i9,i9],1)],[(1,0,0)]⟩
def N8:=Cv [] [] 17 16403018 Fp
def mr (x:fq):aX fq:=(cond (cond (ai x.fa.n x.fa.n) (ai x.many.n x.many.n) false) (.next ⟨x.t2,x.n,x.many,x.step,x.fa,x.i,(aP (x.k+1)),x.s⟩) .fail)
def gQ (x:fq):aX fq:=(cond ((decide (0<=x.i))&&(decide (x.i < (x.s.graph.kids.n:Int)))) (cond (decide (x.k < ((x.s.graph.kids.get (Int.toNat x.i)).n:Int))) (cond (decide (x.k < 1000)) (cond ((decide (0<=x.i))&&(decide (x.i < (x.s.graph.kids.n:Int)))) (cond ((decide (0<=x.k))&&(decide (x.k < ((x.s.graph.kids.get (Int.toNat x.i)).n:Int)))) (cond (decide (((x.s.graph.kids.get (Int.toNat x.i)).get (Int.toNat x.k)).slot >= 0)) (cond (decide (((x.s.graph.kids.get (Int.toNat x.i)).get (Int.toNat x.k)).slot < x.n)) (cond ((decide (0<=x.i))&&(decide (x.i < (x.fa.n:Int)))) (cond ((decide (0<=((x.s.graph.kids.get (Int.toNat x.i)).get (Int.toNat x.k)).slot))&&(decide (((x.s.graph.kids.get (Int.toNat x.i)).get (Int.toNat x.k)).slot < (x.many.n:Int)))) (cond ((decide (0<=x.i))&&(decide (x.i < (x.fa.n:Int)))) (cond (cond (ai x.fa.n x.fa.n) (ai x.many.n x.many.n) false) (.next ⟨x.t2,x.n,x.many,x.step,(x.fa.set (0+(Int.toNat x.i)) (min (aP ((x.fa.get (0+(Int.toNat x.i)))+(x.many.get (0+(Int.toNat ((x.s.graph.kids.get (Int.toNat x.i)).get (Int.toNat x.k)).slot))))) 100000)),x.i,(aP (x.k+1)),x.s⟩) .fail) .fail) .fail) .fail)
     (mr x))
    (mr x)) .fail) .fail) (cond (cond (ai x.fa.n x.fa.n) (ai x.many.n x.many.n) false) (.out (aI.ah.exit 4) x) .fail)) (cond (cond (ai x.fa.n x.fa.n) (ai x.many.n x.many.n) false) (.out (aI.ah.exit 4) x) .fail)) .fail)
theorem LJ (x:fq):N8 (xW x) (xX x)=aX.enc xW xX (gQ x):=by
 unfold gQ mr
 try simp only [aX.cJ,ub]
 kernel_rfl
def ud:Lp:=⟨17,16403018,Fp,fun vs rs=>dU xW xX (goN gQ (DW vs rs)) [aI.ah.exit 4],false⟩
theorem xY:ud.Ok PG:=C8 ak.nil bu.nil (pa:=DW) LJ
def SL:=Cv [] [ud] 17 64074 JR
def aY (x:gY):=goN gQ ⟨x.t2,x.n,x.many,x.step,(x.fa.set (0+(Int.toNat x.i)) 1),x.i,0,x.s⟩
def hZ (x:gY):aX gY:=(cond (decide (x.i < x.n)) (cond ((decide (0<=x.i))&&(decide (x.i < (x.fa.n:Int)))) (cond (cond (ai x.fa.n x.fa.n) (ai x.many.n x.many.n) false) (cond ((aY x).by (aI.ah.exit 4)) (cond ((decide (0<=(aY x).st.i))&&(decide ((aY x).st.i < ((aY x).st.fa.n:Int)))) (cond (decide (((aY x).st.fa.get (0+(Int.toNat (aY x).st.i))) > 10000)) (cond (cond (ai (aY x).st.fa.n (aY x).st.fa.n) (ai (aY x).st.many.n (aY x).st.many.n) false) (.out aI.ah.ret ⟨true,(aY x).st.n,(aY x).st.many,(aY x).st.step,(aY x).st.fa,(aY x).st.i,(aY x).st.s⟩) .fail) (cond (cond (ai (aY x).st.fa.n (aY x).st.fa.n) (ai (aY x).st.many.n (aY x).st.many.n) false) (.next ⟨(aY x).st.t2,(aY x).st.n,(aY x).st.many,(aY x).st.step,(aY x).st.fa,(aP ((aY x).st.i+1)),(aY x).st.s⟩) .fail)) .fail) .fail) .fail) .fail) (cond (cond (ai x.fa.n x.fa.n) (ai x.many.n x.many.n) false) (.out (aI.ah.exit 2) x) .fail))
theorem Pl (x:gY):SL (BR x) (BS x)=aX.enc BR BS (hZ x):=by
 unfold hZ
 try simp only [aX.cJ,aY,ub]
 kernel_rfl
def Dc:Lp:=⟨17,64074,JR,fun vs rs=>dU BR BS (goN hZ (Iw vs rs)) [aI.ah.exit 2,aI.ah.ret],false⟩
theorem Ix:Dc.Ok PG:=C8 ak.nil (rH xY bu.nil) (pa:=Iw) Pl
def Wi:=Cv [] [ud,Dc] 17 250 NH
def dn (x:nH):=goN hZ ⟨x.t2,x.n,x.many,x.step,⟨(Int.toNat x.n),(fun i=>0)⟩,0,x.s⟩
def oa (x:nH):aX nH:=(cond (decide (x.step < 18)) (cond (((decide (0<=x.n))&&(decide (x.n<=x.n)))&&(Nat.ble (8 * (Int.toNat x.n)) 281474976710656)) (cond (cond (ai (Int.toNat x.n) (Int.toNat x.n)) (ai x.many.n x.many.n) false) (cond ((dn x).by (aI.ah.exit 2)) (cond (ai (dn x).st.fa.n (dn x).st.fa.n) (.next ⟨(dn x).st.t2,(dn x).st.n,(dn x).st.fa,(aP ((dn x).st.step+1)),(dn x).st.s⟩) .fail) (cond ((dn x).by aI.ah.ret) (cond (ai (dn x).st.many.n (dn x).st.many.n) (.out aI.ah.ret ⟨(dn x).st.t2,(dn x).st.n,(dn x).st.many,(dn x).st.step,(dn x).st.s⟩) .fail) .fail)) .fail) .fail) (cond (ai x.many.n x.many.n) (.out (aI.ah.exit 0) x) .fail))
theorem SM (x:nH):Wi (Eo x) (Ep x)=aX.enc Eo Ep (oa x):=by
 unfold oa
 try simp only [aX.cJ]
 kernel_rfl
def NI:Lp:=⟨17,250,NH,fun vs rs=>dU Eo Ep (goN oa (LI vs rs)) [aI.ah.exit 0,aI.ah.ret],false⟩
theorem Wj:NI.Ok PG:=C8 ak.nil (rH xY (rH Ix bu.nil)) (pa:=LI) SM
def E4 (s:aC):=goN oa ⟨false,(s.graph.kids.n:Int),⟨(Int.toNat (s.graph.kids.n:Int)),(fun i=>0)⟩,0,s⟩
def Cm (s:aC):Option (Bool):=(cond (decide ((s.graph.kids.n:Int) > 300)) (some (true)) (cond ((decide ((s.graph.kids.n:Int)<=(s.graph.kids.n:Int)))&&(Nat.ble (8 * (Int.toNat (s.graph.kids.n:Int))) 281474976710656)) (cond (ai (Int.toNat (s.graph.kids.n:Int)) (Int.toNat (s.graph.kids.n:Int))) (cond ((E4 s).by (aI.ah.exit 0)) (some (false)) (cond ((E4 s).by aI.ah.ret) (some ((E4 s).st.t2)) none)) none) none))
theorem abQ (s:aC):rv [] [ud,Dc,NI] 17 [kC s] = (Cm s).map kB:=by
 unfold Cm
 try simp only [cf]
 kernel_rfl
def JS:List KV->KR KV:=b5 PG 17 (cg kB fun vs=>Cm (eP (v9 vs 0)))
theorem Iy:bZ PG 17 JS:=ee ak.nil (rH xY (rH Ix (rH Wj bu.nil))) fun w=>abQ (eP (g0 34 (w 0)))
structure ob where
 t2:Bool
 n:Int
 i:Int
 g:fA
instance:Inhabited ob:=⟨⟨default,default,default,default⟩⟩
def Dd (x:ob):List KV:=[.bool x.t2,.int .i64 x.n,.int .i64 x.i]
def De (x:ob):List (List KV):=[ajg x.g]
def JT (vs:List KV) (rs:List (List KV)):ob:=⟨eH (v9 vs 0),ax (v9 vs 1),ax (v9 vs 2),ajh (r9 rs 0)⟩
def LK:aJ:=⟨[(2,w9 b9),(3,w9 i9),(4,w9 i9)],[(1,[n9 139,n9 47],1)],[(1,0,0)]⟩
def Uy:=Cv [] [] 18 122 LK
def mB (x:ob):aX ob:=(cond (decide (x.i < (x.g.kids.n:Int))) (cond ((decide (0<=x.i))&&(decide (x.i < (x.g.kids.n:Int)))) (cond (decide ((aP (x.n+((x.g.kids.get (Int.toNat x.i)).n:Int))) > 400)) (.out aI.ah.ret ⟨true,(aP (x.n+((x.g.kids.get (Int.toNat x.i)).n:Int))),x.i,x.g⟩) (.next ⟨x.t2,(aP (x.n+((x.g.kids.get (Int.toNat x.i)).n:Int))),(aP (x.i+1)),x.g⟩)) .fail) (.out (aI.ah.exit 0) x))
theorem QL (x:ob):Uy (Dd x) (De x)=aX.enc Dd De (mB x):=by
 unfold mB
 try simp only [aX.cJ]
 kernel_rfl
def LL:Lp:=⟨18,122,LK,fun vs rs=>dU Dd De (goN mB (JT vs rs)) [aI.ah.exit 0,aI.ah.ret],false⟩
theorem Uz:LL.Ok PG:=C8 ak.nil bu.nil (pa:=JT) QL
def Df (g:fA):=goN mB ⟨false,0,0,g⟩
def ue (g:fA):Option (Bool):=(cond (decide ((g.cD.cN.n:Int) > 200)) (some (true)) (cond (decide ((g.kids.n:Int) > 200)) (some (true)) (cond ((Df g).by (aI.ah.exit 0)) (some (false)) (cond ((Df g).by aI.ah.ret) (some ((Df g).st.t2)) none))))
theorem aaJ (g:fA):rv [] [LL] 18 [rT g] = (ue g).map kB:=by
 unfold ue
 try simp only [cf]
 kernel_rfl
def Hd:List KV->KR KV:=b5 PG 18 (cg kB fun vs=>ue (jL (v9 vs 0)))
theorem F4:bZ PG 18 Hd:=ee ak.nil (rH Uz bu.nil) fun w=>aaJ (jL (g0 27 (w 0)))
structure qp where
 l:(Sl gP)
 t2:Bool
 n:Int
 i:Int
instance:Inhabited qp:=⟨⟨default,default,default,default⟩⟩
def Er (x:qp):List KV:=[dG 118 jF x.l,.bool x.t2,.int .i64 x.n,.int .i64 x.i]
def Es (x:qp):List (List KV):=[]
def LM (vs:List KV) (rs:List (List KV)):qp:=⟨eF eN (v9 vs 0),eH (v9 vs 1),ax (v9 vs 2),ax (v9 vs 3)⟩
def NJ:aJ:=⟨[(0,w9 (n9 118)),(2,w9 b9),(3,w9 i9),(4,w9 i9)],[],[]⟩
def Wk:=Cv [] [] 19 58 NJ
def od (x:qp):aX qp:=(cond (decide (x.i < (x.l.n:Int))) (cond (decide (x.i < 100)) (cond ((decide (0<=x.i))&&(decide (x.i < (x.l.n:Int)))) (.next ⟨x.l,x.t2,(aP (x.n+(min ((x.l.get (Int.toNat x.i)).Ux.n:Int) 100000))),(aP (x.i+1))⟩) .fail) (.out (aI.ah.exit 0) x)) (.out (aI.ah.exit 0) x))
theorem SN (x:qp):Wk (Er x) (Es x)=aX.enc Er Es (od x):=by
 unfold od
 try simp only [aX.cJ]
 kernel_rfl
def NK:Lp:=⟨19,58,NJ,fun vs rs=>dU Er Es (goN od (LM vs rs)) [aI.ah.exit 0],false⟩
theorem Wl:NK.Ok PG:=C8 ak.nil bu.nil (pa:=LM) SN
def Dg (l:(Sl gP)):=goN od ⟨l,false,0,0⟩
def uf (l:(Sl gP)):Option (Bool):=(cond ((Dg l).by (aI.ah.exit 0)) (cond (decide (((Dg l).st.l.n:Int) > 40)) (some (true)) (some ((decide ((Dg l).st.n > 20000))))) none)
theorem aaK (l:(Sl gP)):rv [] [NK] 19 [(dG 118 jF) l] = (uf l).map kB:=by
 unfold uf
 try simp only [cf]
 kernel_rfl
def Hf:List KV->KR KV:=b5 PG 19 (cg kB fun vs=>uf ((eF eN) (v9 vs 0)))
theorem F5:bZ PG 19 Hf:=ee ak.nil (rH Wl bu.nil) fun w=>aaK ((eF eN) (g0 30 (w 0)))
structure nI where
 t2:Bool
 i:Int
 m:gu
instance:Inhabited nI:=⟨⟨default,default,default⟩⟩
def Et (x:nI):List KV:=[.bool x.t2,.int .i64 x.i]
def Eu (x:nI):List (List KV):=[Wg x.m]
def LN (vs:List KV) (rs:List (List KV)):nI:=⟨eH (v9 vs 0),ax (v9 vs 1),Wh (r9 rs 0)⟩
def NL:aJ:=⟨[(2,w9 b9),(3,w9 i9)],[(1,[n9 36,n9 125,n9 120],1)],[(1,0,0)]⟩
def Wm:=Cv [] [] 20 58 NL
def iw (x:nI):aX nI:=(cond (decide (x.i < (x.m.fY.n:Int))) (cond ((decide (0<=x.i))&&(decide (x.i < (x.m.fY.n:Int)))) (cond (decide (((x.m.fY.get (Int.toNat x.i)).index.n:Int) > 1000)) (.out aI.ah.ret ⟨true,x.i,x.m⟩) (.next ⟨x.t2,(aP (x.i+1)),x.m⟩)) .fail) (.out (aI.ah.exit 0) x))
theorem SP (x:nI):Wm (Et x) (Eu x)=aX.enc Et Eu (iw x):=by
 unfold iw
 try simp only [aX.cJ]
 kernel_rfl
def NM:Lp:=⟨20,58,NL,fun vs rs=>dU Et Eu (goN iw (LN vs rs)) [aI.ah.exit 0,aI.ah.ret],false⟩
theorem Wn:NM.Ok PG:=C8 ak.nil bu.nil (pa:=LN) SP
def Dh (m:gu):=goN iw ⟨false,0,m⟩
def wH (m:gu):Option (Bool):=(cond (decide ((m.ay.n:Int) > 1000)) (some (true)) (cond (decide ((m.uV.n:Int) > 1000)) (some (true)) (cond (decide ((m.fY.n:Int) > 100)) (some (true)) (cond ((Dh m).by (aI.ah.exit 0)) (some (false)) (cond ((Dh m).by aI.ah.ret) (some ((Dh m).st.t2)) none)))))
theorem aaL (m:gu):rv [] [NM] 20 [uE m] = (wH m).map kB:=by
 unfold wH
 try simp only [cf]
 kernel_rfl
def Hg:List KV->KR KV:=b5 PG 20 (cg kB fun vs=>wH (kS (v9 vs 0)))
theorem F6:bZ PG 20 Hg:=ee ak.nil (rH Wn bu.nil) fun w=>aaL (kS (g0 79 (w 0)))
structure lO where
 t2:Bool
 i:Int
 s:aC
instance:Inhabited lO:=⟨⟨default,default,default⟩⟩
def Di (x:lO):List KV:=[.bool x.t2,.int .i64 x.i]
def Dj (x:lO):List (List KV):=[zt x.s]
def JU (vs:List KV) (rs:List (List KV)):lO:=⟨eH (v9 vs 0),ax (v9 vs 1),zu (r9 rs 0)⟩
def LO:aJ:=⟨[(2,w9 b9),(3,w9 i9)],[(1,[n9 139,n9 47,n9 64,n9 79,n9 118,i9,i9],1)],[(1,0,0)]⟩
def UA:=Cv [(20,Hg),(19,Hf),(18,Hd),(17,JS)] [] 7 122 LO
def gF (x:lO):aX lO:=(cond (decide (x.i < (x.s.nodes.n:Int))) (cond ((decide (0<=x.i))&&(decide (x.i < (x.s.nodes.n:Int)))) (cond (decide (((x.s.nodes.get (Int.toNat x.i)).fo.n:Int) > 200)) (.out aI.ah.ret ⟨true,x.i,x.s⟩) (.next ⟨x.t2,(aP (x.i+1)),x.s⟩)) .fail) (.out (aI.ah.exit 0) x))
theorem QM (x:lO):UA (Di x) (Dj x)=aX.enc Di Dj (gF x):=by
 unfold gF
 try simp only [aX.cJ]
 kernel_rfl
def Ew:Lp:=⟨7,122,LO,fun vs rs=>dU Di Dj (goN gF (JU vs rs)) [aI.ah.exit 0,aI.ah.ret],false⟩
theorem JV:Ew.Ok PG:=C8 (ak.cons F6 (ak.cons F5 (ak.cons F4 (ak.cons Iy ak.nil)))) bu.nil (pa:=JU) QM
structure j7 where
 t2:Bool
 i:Int
 s:aC
instance:Inhabited j7:=⟨⟨default,default,default⟩⟩
def Dk (x:j7):List KV:=[.bool x.t2,.int .i64 x.i]
def Dl (x:j7):List (List KV):=[zt x.s]
def JW (vs:List KV) (rs:List (List KV)):j7:=⟨eH (v9 vs 0),ax (v9 vs 1),zu (r9 rs 0)⟩
def LQ:aJ:=⟨[(2,w9 b9),(4,w9 i9)],[(1,[n9 139,n9 47,n9 64,n9 79,n9 118,i9,i9],1)],[(1,0,0)]⟩
def UB:=Cv [(20,Hg),(19,Hf),(18,Hd),(17,JS)] [Ew] 7 250 LQ
def BT (x:j7):=wH (x.s.eO.get (Int.toNat x.i))
def gG (x:j7):aX j7:=(cond (decide (x.i < (x.s.eO.n:Int))) (cond ((decide (0<=x.i))&&(decide (x.i < (x.s.eO.n:Int)))) (cond (BT x).isSome (cond ((BT x).getD default) (.out aI.ah.ret ⟨true,x.i,x.s⟩) (.next ⟨x.t2,(aP (x.i+1)),x.s⟩)) .fail) .fail) (.out (aI.ah.exit 2) x))
theorem QN (x:j7):UB (Dk x) (Dl x)=aX.enc Dk Dl (gG x):=by
 unfold gG
 try simp only [aX.cJ]
 kernel_rfl
def LR:Lp:=⟨7,250,LQ,fun vs rs=>dU Dk Dl (goN gG (JW vs rs)) [aI.ah.exit 2,aI.ah.ret],false⟩
theorem UC:LR.Ok PG:=C8 (ak.cons F6 (ak.cons F5 (ak.cons F4 (ak.cons Iy ak.nil)))) (rH JV bu.nil) (pa:=JW) QN
def Iz (s:aC):=Cm s
def IA (s:aC):=ue s.graph
def IB (s:aC):=uf s.j6
def vI (s:aC):=goN gF ⟨false,0,s⟩
def Dm (s:aC):=goN gG ⟨(vI s).st.t2,0,(vI s).st.s⟩
def zv (s:aC):Option (Bool):=(cond (Iz s).isSome (cond ((Iz s).getD default) (some (true)) (cond (IA s).isSome (cond ((IA s).getD default) (some (true)) (cond (decide ((s.nodes.n:Int) > 200)) (some (true)) (cond (decide ((s.eO.n:Int) > 60)) (some (true)) (cond (decide ((s.j6.n:Int) > 60)) (some (true)) (cond (IB s).isSome (cond ((IB s).getD default) (some (true)) (cond ((vI s).by (aI.ah.exit 0)) (cond ((Dm s).by (aI.ah.exit 2)) (some (false)) (cond ((Dm s).by aI.ah.ret) (some ((Dm s).st.t2)) none)) (cond ((vI s).by aI.ah.ret) (some ((vI s).st.t2)) none))) none))))) none)) none)
theorem aaM (s:aC):rv [(20,Hg),(19,Hf),(18,Hd),(17,JS)] [Ew,LR] 7 [kC s] = (zv s).map kB:=by
 unfold zv
 try simp only [cf]
 kernel_rfl
def Dn:List KV->KR KV:=b5 PG 7 (cg kB fun vs=>zv (eP (v9 vs 0)))
theorem Br:bZ PG 7 Dn:=ee (ak.cons F6 (ak.cons F5 (ak.cons F4 (ak.cons Iy ak.nil)))) (rH JV (rH UC bu.nil)) fun w=>aaM (eP (g0 34 (w 0)))
end
end Go.Proofs.Ytckbdndhmcoihaa.b
end
section
namespace Go.K
open Go Go.aI
variable {P:Program} {E:Env}
theorem VC.ajk {ρ:Ren} {cs:List KV} {u:Value} (h:VC P E ρ (.agg cs) u):∃ l,u = .agg ⟨l⟩/\rE P E ρ cs l:=by
 obtain ⟨u',h1,h2⟩:=h;obtain ⟨l,rfl,q⟩:=h1.kK;obtain ⟨l',e,h3⟩:=h2.kK;exact ⟨l'.toList,e,l,q,h3⟩
theorem Hx {A:ae} {B:St} {ρ:Ren} {base:Nat} {w:World} (hj:KJ P E A B ρ base w) {T:TypeId} {m:Mk} {n:Nat} {es:List KV} {acc:Nat->KV} {u:Value} (h:VC P E ρ (.ts T m n es acc) u) :
  ∃ a c,u = .slice a n c/\∀ i,i < n->∃ b off,a=some ⟨b,off,none⟩/\b < w.heap.size/\∀ k c',(acc i).cells[k]? = some c'->∃ z,w.cell? ⟨b,off+i * aU P T+k,none⟩=some z/\VC P E ρ c' z:=by
 obtain ⟨u',hk,hr⟩:=h;obtain ⟨ht,bh,Sg,a,cap,rfl,aiq,ML,_⟩:=hk.kY;cases a with
 | none=>
  have:=hr.fV;subst this;refine ⟨none,cap,rfl,fun i hi=>?_⟩;rcases ML with ⟨_,h0⟩ | ⟨b,off,r,e,_⟩
  ·omega
  ·simp at e
 | some a=>
  obtain ⟨FJ,GV,lc,a',c',hl,vf,Kj,mG,rfl⟩:=hr.lE;refine ⟨some a',c',rfl,fun i hi=>?_⟩;rcases ML with ⟨e,_⟩ | ⟨b,off,r,e,hz,dP,apv⟩
  ·simp at e
  ·simp only [bN] at e
   subst e;have fk:=hj.k.z b r hz;obtain ⟨l,uN,ok⟩:=hj.s.rel.row _ _ _ _ _ fk;rw [hl] at uN;have:=GK uN;subst this;have Vd:i < es.length:=by have:=ht.len; omega
   refine ⟨lc.cb,lc.dv+off,by rw [Kj (by omega)],ok.lH,fun k c1 hc1=>?_⟩;have hg:es[i]? = some (acc i):=by
    rw [ht.acc i (by omega),fD,cK Vd];rfl
   obtain ⟨y,hy,hvy⟩:=Sg.get hg;have hkn:=(gf (gE ht.typed hg)).2;obtain ⟨hys,hyc⟩:=apv i y hy;obtain ⟨z,Kh,Cu⟩:=(hvy.cells hkn).get hc1;have:=hyc k z (by simpa using Kh);obtain ⟨z',q1,q2,_⟩:=ok.cells _ z this;exact ⟨z',by rw [show lc.dv+off+i * aU P T+k=lc.dv+(off+i * aU P T+k) by omega]; exact q1,z,Cu,q2⟩
end Go.K
end
section
namespace Go.K
open Go Go.aI
variable {P:Program} {E:Env}
def Trie.af6 {α β:Type} (f:α->β):Trie α->Trie β
 | .leaf=>.leaf
 | .node v l r=>.node (v.map f) (Trie.af6 f l) (Trie.af6 f r)
theorem Trie.Wo {α β:Type} (f:α->β):∀ (t:Trie α) (n:Nat),(Trie.af6 f t).get n=(t.get n).map f
 | .leaf,n=>rfl
 | .node v l r,n=>by
  rw [Trie.get_eq,Trie.get_eq];cases n with
  | zero=>rfl
  | succ m=>
   have hl:=Trie.Wo f l (Nat.div m 2);have hr:=Trie.Wo f r (Nat.div m 2);rw [Trie.get_eq,Trie.get_eq] at hl hr;simp only [Trie.af6,Trie.CB];cases Nat.beq (Nat.mod m 2) 0 with
   | true=>exact hl
   | false=>exact hr
def ct.still:ct->ct
 | .row cs bm _ _=>.row cs bm false none
 | _=>.dead
def St.still (B:St):St:=⟨Trie.af6 ct.still B.heap,B.next,0,.leaf⟩
theorem St.aaN (B:St) (b:Nat):(St.still B).get b=(B.get b).map ct.still:=Trie.Wo _ _ _
theorem St.ahJ (B:St) (g:Nat):(St.still B).members g = []:=rfl
def Env.still (E:Env):Env:={ κ:=fun _=>Option.none,z:=fun b=>(E.z b).map fun r=>{ r with own:=false,bL:=Option.none },φ:=fun _=>Option.none,α:=fun _=>Option.none }
theorem Env.akf (E:Env):X6 E E.still:=fun b r e=>⟨{ r with own:=false,bL:=Option.none },by simp [Env.still,e],rfl,rfl⟩
theorem St.SQ {B:St} {b:Nat} {o:ct} (h:(St.still B).get b=some o) (hd:o≠.dead):∃ cs bm own bL,B.get b=some (.row cs bm own bL)/\o = .row cs bm false none:=by
 rw [St.aaN] at h;cases hb:B.get b with
 | none=>rw [hb] at h; simp at h
 | some x=>
  rw [hb] at h;have h:some (ct.still x)=some o:=h;have h:=GK h;cases x <;> first
   | exact ⟨_,_,_,_,rfl,h.symm⟩
   | exact absurd h.symm hd
theorem St.XJ {B:St} {b:Nat} {o:ct} (h:(St.still B).get b=some o):o.eC=false:=by
 by_cases hd:o = .dead
 ·subst hd; rfl
 ·obtain ⟨_,_,_,_,_,rfl⟩:=St.SQ h hd
  rfl
theorem St.ahK {B:St} {b:Nat} {o:ct} (h:(St.still B).get b=some o):o.lG=none:=by
 by_cases hd:o = .dead
 ·subst hd; rfl
 ·obtain ⟨_,_,_,_,_,rfl⟩:=St.SQ h hd
  rfl
theorem vc.still {ρ:Ren} {B:St} {base:Nat} {w:World} (h:vc ρ B base w):vc ρ (St.still B) w.heap.size w:=by
 refine ⟨.EN (fun b o hg hd=>?_) (fun b1 b2 o1 o2 l1 l2 _ h1 _ hm=>?_) (fun b o aO f hg hk=>?_),h.jM,aB _,h.HK⟩
 ·obtain ⟨cs,bm,own,bL,e,rfl⟩:=St.SQ hg hd
  obtain ⟨l,e2,ok⟩:=h.rel.row _ _ _ _ _ e;refine ⟨l,e2,?_⟩;exact ⟨ok.cells,fun _=>ok.lH,fun e=>by simp at e,fun e=>by simp at e,ok.fits,fun e=>by simp at e,ok.bm,ok.lH,fun e=>by simp at e⟩
 ·rw [St.XJ h1] at hm; simp at hm
 ·rw [St.ahK hg] at hk; simp at hk
theorem dr.still {A:ae} {B:St} (h:dr P E A B):dr P E.still .empty (St.still B) where
 row b cs bm hb:=by simp [ae.empty,ae.get] at hb
 aO b top sz hb:=by simp [ae.empty,ae.get] at hb
 z b r e:=by
  simp only [Env.still,ck] at e;obtain ⟨r0,e,rfl⟩:=e;rw [St.aaN,h.z b r0 e];rfl
 apart b x e:=by simp [Env.still] at e
 inj b c x e:=by simp [Env.still] at e
 gD b c g _ _ _ _ _ _ e:=by simp [Env.still] at e
 jM b x e:=by simp [Env.still] at e
 kL b g e:=by simp [Env.still] at e
 live b o hb:=by simp [ae.empty,ae.get] at hb
 eS b x e:=by simp [Env.still] at e
 lD b r e:=by
  simp only [Env.still,ck] at e;obtain ⟨r0,e,rfl⟩:=e;exact h.lD b r0 e
 il b g e:=by simp [Env.still] at e
 fresh g _:=rfl
 mem g x hx:=by rw [St.ahJ] at hx; simp at hx
 ar:=by
  have hn:∀ b v,¬ ae.empty.get b=some (.arr v):=fun b v hb=>by simp [ae.empty,ae.get] at hb
  exact ⟨fun b v hb=>(hn b v hb).elim,fun b v hb=>by simp [ae.empty,ae.get] at hb,fun x ⟨b,v,_,_,hb,_⟩=>(hn b v hb).elim,fun b c v u x L N L' N' hb=>(hn b v hb).elim,fun b c v u x y L N L' N' cs e own g k bM e' rb k' hb=>(hn b v hb).elim,fun b x e=>by simp [Env.still] at e,fun b p e=>by simp [Env.still] at e,fun b x L N e=>by simp [Env.still] at e,fun b v x L N cs e own g k hb=>(hn b v hb).elim,fun b v hb=>(hn b v hb).elim⟩
theorem XK {A:ae} {B:St} {ρ:Ren} {base:Nat} {w W:World} (hj:KJ P E A B ρ base w) (hw:RowKit.Below w.heap.size w W) {g:FuncId} {F:List KV->KR KV} (hpu:bZ P g F) {args:List KV} {v:KV} {dV:List Value}
  (hF:aH (F (normArgs P (bS P g) (normArgs P (bS P g) args))) v) (hlen:args.length=(bS P g).length) (hv:rE P E ρ args dV) :
  Calls P g dV.toArray W fun e W'=>∃ v' E' aF,e = .returned v'/\VC P E' aF v v'/\RowKit.Below W.heap.size W W':=by
 have hs:=vc.still (iX.below hj.s hw).fT;obtain ⟨m,h1,h2⟩:=hv;have CJ:rE P E.still ρ (normArgs P (bS P g) args) dV:=⟨m,aV.MV (Env.akf E) h1 hlen,h2⟩
 obtain ⟨_,lC⟩:=hpu _ v hF (LB hlen);refine (lC E.still .empty (St.still B) ρ W.heap.size W dV CJ ⟨hj.k.still,hs⟩).mono ?_;rintro e W' ⟨v',E',B',aF,rfl,q1,q2⟩;refine ⟨v',E',aF,rfl,q1,?_⟩;have k:=q2.eE.kept;refine ⟨k.os,k.tape,k.output,k.size,fun j hj=>k.block j hj ?_⟩;rintro ⟨b,o,l,ho,hm,_⟩;rw [St.XJ ho] at hm;simp at hm
theorem UD {g:FuncId} {R:Type} [Inhabited R] {k:R->KV} {r:List KV->Option R} {aqd:List KV} {x:R} (ha:lV P (bS P g) aqd=true) (hr:r aqd=some x):aH (b5 P g (cg k r) aqd) (k x):=by
 unfold b5 cg;rw [ha,hr];exact ⟨rfl,rfl⟩
theorem VC.cj {ρ:Ren} {k:IntKind} {n:Int} {v:Value} (h:VC P E ρ (.int k n) v):v = .int k n:=by
 obtain ⟨u,h1,h2⟩:=h;have h1:u = .int k n:=by simpa [VK] using h1
 subst h1;exact h2.cj
theorem rE.xx {ρ:Ren} {c:KV} {cs:List KV} {l:List Value} (h:rE P E ρ (c::cs) l):∃ x xs,l=x::xs/\VC P E ρ c x/\rE P E ρ cs xs:=by
 obtain ⟨m,h1,h2⟩:=h;obtain ⟨y,ys,rfl,h3,h4⟩:=h1.cons_inv;obtain ⟨z,zs,rfl,h5,h6⟩:=h2.cons_inv;exact ⟨z,zs,rfl,⟨y,h3,h5⟩,⟨ys,h4,h6⟩⟩
theorem rE.UE {ρ:Ren} {l:List Value} (h:rE P E ρ [] l):l = []:=by
 obtain ⟨m,h1,h2⟩:=h;rw [h1.bX] at h2;exact h2.bX
theorem rE.Fq {ρ:Ren} {c:KV} {cs:List KV} {x:Value} {xs:List Value} (h:VC P E ρ c x) (h' : rE P E ρ cs xs):rE P E ρ (c::cs) (x::xs):=by
 obtain ⟨y,h1,h2⟩:=h;obtain ⟨ys,h3,h4⟩:=h';exact ⟨y::ys,.cons h1 h3,.cons h2 h4⟩
theorem rE.YK {ρ:Ren} : rE P E ρ [] []:=⟨[],.nil,.nil⟩
theorem VC.ajl {ρ:Ren} {cs:List KV} {xs:List Value} (h:rE P E ρ cs xs):VC P E ρ (.agg cs) (.agg ⟨xs⟩):=by
 obtain ⟨ys,h3,h4⟩:=h;exact ⟨.agg ⟨ys⟩,by simp only [VK]; exact ⟨ys,rfl,h3⟩,by simp only [VR]; exact ⟨⟨xs⟩,by simpa [uM] using h4,rfl⟩⟩
end Go.K
end
section
set_option maxRecDepth 20000
namespace Go.Proofs.Ytckbdndhmcoihaa.nodes
open Go Go.RowKit Go.Lib Go.Shelf Go.K
abbrev hp (h:b.Handle):Int×Int:=(h.slot,h.gen)
structure aaO (q:G) (B:Nat) (W:World):Prop where
 kids:∀ i,i < q.kn->∃ b off,q.ka=some ⟨b,off,none⟩/\b < B/\W.cell? ⟨b,off+i,none⟩=some (.slice (q.ia i) (q.im i) (q.ic i))
 row:∀ i,i < q.kn->∀ k,k < q.im i->∃ b off,q.ia i=some ⟨b,off,none⟩/\b < B/\W.cell? ⟨b,off+k * 2,none⟩=some (.int .i64 (q.dS i k).1)/\W.cell? ⟨b,off+k * 2+1,none⟩=some (.int .i64 (q.dS i k).2)
theorem aaO.with {q:G} {B:Nat} {W:World} (h:aaO q B W) (hs:∀ i,i < q.kn->q.im i<=1000000):GAt q B W:=⟨h.kids,hs,h.row⟩
theorem aaO.dL {q:G} {B mb:Nat} {W W' : World} (h:aaO q B W) (k:Kp mb W W') (hB:B<=W.heap.size) (hm:B<=mb):aaO q B W':=by
 refine ⟨fun i hi=>?_,fun i hi j hj=>?_⟩
 ·obtain ⟨b,off,h1,h2,h3⟩:=h.kids i hi
  exact ⟨b,off,h1,h2,by rw [k.cell (by omega) (by omega)]; exact h3⟩
 ·obtain ⟨b,off,h1,h2,h3,h4⟩:=h.row i hi j hj
  exact ⟨b,off,h1,h2,by rw [k.cell (by omega) (by omega)]; exact h3,by rw [k.cell (by omega) (by omega)]; exact h4⟩
structure Of (q:G) (g:b.fA) (B:Nat) (W:World):Prop where
 sn:q.sn=g.cD.cN.n
 kn:q.kn=g.kids.n
 im:∀ i,q.im i=(g.kids.get i).n
 dS:∀ i k,q.dS i k=hp ((g.kids.get i).get k)
 slot:∀ i,i < q.sn->∃ b off,q.sa=some ⟨b,off,none⟩/\b < B/\W.cell? ⟨b,off+i * 2,none⟩=some (.int .i64 (g.cD.cN.get i).gen)/\W.cell? ⟨b,off+i * 2+1,none⟩=some (.bool (g.cD.cN.get i).live)
theorem Of.dL {q:G} {g:b.fA} {B mb:Nat} {W W' : World} (h:Of q g B W) (k:Kp mb W W') (hB:B<=W.heap.size) (hm:B<=mb):Of q g B W':=by
 refine ⟨h.sn,h.kn,h.im,h.dS,fun i hi=>?_⟩;obtain ⟨b,off,h1,h2,h3,h4⟩:=h.slot i hi;exact ⟨b,off,h1,h2,by rw [k.cell (by omega) (by omega)]; exact h3,by rw [k.cell (by omega) (by omega)]; exact h4⟩
theorem apx:aU Try.prog 47=1:=by kernel_rfl
theorem al7:aU Try.prog 32=2:=by kernel_rfl
theorem aou:aU Try.prog 139=2:=by kernel_rfl
theorem akg {E:Env} {A:ae} {B:aI.St} {ρ:aI.Ren} {base:Nat} {w:World} {g:b.fA} {u:Value} (hj:KJ Try.prog E A B ρ base w) (h:VC Try.prog E ρ (b.rT g) u) :
  ∃ q:G,u=gv q/\aaO q w.heap.size w/\Of q g w.heap.size w/\VC Try.prog E ρ (b.jt g.cD) (.agg #[.slice q.sa q.sn q.sc]):=by
 obtain ⟨l,rfl,hl⟩:=h.ajk;obtain ⟨x,xs,rfl,h1,kV⟩:=hl.xx;obtain ⟨y,ys,rfl,h2,hl3⟩:=kV.xx;obtain rfl:=hl3.UE;obtain ⟨sa,sc,rfl,H1⟩:=Hx hj h1;obtain ⟨ka,kc,rfl,H2⟩:=Hx hj h2;have H3:∀ i,∃ p:Option Addr×Nat,i < g.kids.n->(∃ b off,ka=some ⟨b,off,none⟩/\b < w.heap.size/\w.cell? ⟨b,off+i,none⟩=some (.slice p.1 (g.kids.get i).n p.2))/\
   ∀ k,k < (g.kids.get i).n->∃ b off,p.1=some ⟨b,off,none⟩/\b < w.heap.size/\w.cell? ⟨b,off+k * 2,none⟩=some (.int .i64 ((g.kids.get i).get k).slot)/\w.cell? ⟨b,off+k * 2+1,none⟩=some (.int .i64 ((g.kids.get i).get k).gen):=by
  intro i;by_cases hi:i < g.kids.n
  ·obtain ⟨bb,off,e1,e2,e3⟩:=H2 i hi
   obtain ⟨z,z1,z2⟩:=e3 0 (dG 32 b.gN (g.kids.get i)) rfl;obtain ⟨a,c,rfl,H⟩:=Hx hj z2;rw [apx] at z1;refine ⟨(a,c),fun _=>⟨⟨bb,off,e1,e2,by rw [show off+i=off+i * 1+0 by omega]; exact z1⟩,fun k hk=>?_⟩⟩;obtain ⟨bc,al8,r1,r2,r3⟩:=H k hk;obtain ⟨z,s1,s2⟩:=r3 0 (.int .i64 ((g.kids.get i).get k).slot) rfl;obtain ⟨z',t1,t2⟩:=r3 1 (.int .i64 ((g.kids.get i).get k).gen) rfl;rw [al7] at s1 t1;rw [s2.cj] at s1;rw [t2.cj] at t1;exact ⟨bc,al8,r1,r2,s1,t1⟩
  ·exact ⟨(none,0),fun h=>absurd h hi⟩
 obtain ⟨f,hf⟩:=Classical.axiomOfChoice H3;refine ⟨⟨sa,g.cD.cN.n,sc,ka,g.kids.n,kc,fun i=>(f i).1,fun i=>(g.kids.get i).n,fun i=>(f i).2,fun i k=>hp ((g.kids.get i).get k)⟩,rfl,⟨fun i hi=>(hf i hi).1,fun i hi k hk=>(hf i hi).2 k hk⟩,⟨rfl,rfl,fun _=>rfl,fun _ _=>rfl,fun i hi=>?_⟩,.ajl (.Fq h1 .YK)⟩;obtain ⟨bb,off,e1,e2,e3⟩:=H1 i hi;obtain ⟨z,s1,s2⟩:=e3 0 (.int .i64 (g.cD.cN.get i).gen) rfl;obtain ⟨z',t1,t2⟩:=e3 1 (.bool (g.cD.cN.get i).live) rfl;rw [aou] at s1 t1;rw [s2.cj] at s1;rw [t2.eG] at t1;exact ⟨bb,off,e1,e2,s1,t1⟩
theorem af7 {E:Env} {A:ae} {B:aI.St} {ρ:aI.Ren} {base:Nat} {w W:World} (hj:KJ Try.prog E A B ρ base w) (hw:Below w.heap.size w W) {a:b.jZ} {x:Value} (hx:VC Try.prog E ρ (b.jt a) x) {n:Int} (hn:b.dR a=some n) :
  Calls Try.prog 70 #[x] W fun e W'=>e = .returned (.int .i64 n)/\Below W.heap.size W W':=by
 have ep:bS Try.prog 70 = [24]:=by kernel_rfl
 have en:normArgs Try.prog (bS Try.prog 70) (normArgs Try.prog (bS Try.prog 70) [b.jt a]) = [b.jt a]:=by rw [ep]; kernel_rfl
 refine (XK hj hw b.JQ (args:=[b.jt a]) (v:=kI .i64 n) (by rw [en]; exact UD (by rw [ep]; kernel_rfl) hn) (by rw [ep]; rfl) (.Fq hx .YK)).mono ?_;rintro e W' ⟨v',E',aF,rfl,q1,q2⟩;exact ⟨by rw [q1.cj],q2⟩
theorem af8 {E:Env} {A:ae} {B:aI.St} {ρ:aI.Ren} {base:Nat} {w W:World} (hj:KJ Try.prog E A B ρ base w) (hw:Below w.heap.size w W) {a:b.jZ} {x:Value} (hx:VC Try.prog E ρ (b.jt a) x) {h:Int×Int} {r:Bool} (hn:b.dy a ⟨h.1,h.2⟩=some r) :
  Calls Try.prog 49 #[x,hv h] W fun e W'=>e = .returned (.bool r)/\Below W.heap.size W W':=by
 have ep:bS Try.prog 49 = [24,32]:=by kernel_rfl
 have en:normArgs Try.prog (bS Try.prog 49) (normArgs Try.prog (bS Try.prog 49) [b.jt a,b.gN ⟨h.1,h.2⟩]) = [b.jt a,b.gN ⟨h.1,h.2⟩]:=by rw [ep]; kernel_rfl
 have hh:VC Try.prog E ρ (b.gN ⟨h.1,h.2⟩) (hv h):=.ajl (.Fq ⟨_,.mkInt,by simp [aI.VR]⟩ (.Fq ⟨_,.mkInt,by simp [aI.VR]⟩ .YK));refine (XK hj hw b.uc (args:=[b.jt a,b.gN ⟨h.1,h.2⟩]) (v:=kB r) (by rw [en]; exact UD (by rw [ep]; kernel_rfl) hn) (by rw [ep]; rfl) (.Fq hx (.Fq hh .YK))).mono ?_;rintro e W' ⟨v',E',aF,rfl,q1,q2⟩;exact ⟨by rw [q1.eG],q2⟩
set_option maxHeartbeats 4000000 in
theorem rB {E:Env} {A:ae} {B:aI.St} {ρ:aI.Ren} {base:Nat} {w W:World} (hj:KJ Try.prog E A B ρ base w) (hw:Below w.heap.size w W) {a:b.jZ} {q:G} (hx:VC Try.prog E ρ (b.jt a) (.agg #[.slice q.sa q.sn q.sc])) (h:Int×Int) {r:Bool} (hn:b.dy a ⟨h.1,h.2⟩=some r)
  {bg:Nat} (hbg:bg < W.heap.size) (c0:W.cell? ⟨bg,0,none⟩=some (.slice q.sa q.sn q.sc)) :
  Calls Try.prog 71 #[hv h,.pointer (some ⟨bg,0,none⟩)] W fun e W'=>e = .returned (.bool (!r))/\Below W.heap.size W W':=by
 have mixed:=Bp;have t32:=Try.underlying32; have a32:=Try.isAgg32; have z32:=Try.sizeOf32; have v32:=Try.zeroValue32; have u32:=run_underlying Try.underlying32;have t27:=Try.underlying27; have a27:=Try.isAgg27; have z27:=Try.sizeOf27; have v27:=Try.zeroValue27; have u27:=run_underlying Try.underlying27;have t24:=Try.underlying24; have a24:=Try.isAgg24; have z24:=Try.sizeOf24; have v24:=Try.zeroValue24; have u24:=run_underlying Try.underlying24;have t22:=Try.underlying22; have a22:=Try.isAgg22; have z22:=Try.sizeOf22; have v22:=Try.zeroValue22; have u22:=run_underlying Try.underlying22;have t4:=Try.underlying4; have a4:=Try.isAgg4; have z4:=Try.sizeOf4; have v4:=Try.zeroValue4; have u4:=run_underlying Try.underlying4;have hc:=af8 hj (W:=W.alloc (.cells #[.int .i64 h.1,.int .i64 h.2] 32)) (hw.alloc hw.size _) hx hn;have c1:(W.alloc (.cells #[.int .i64 h.1,.int .i64 h.2] 32)).cell? ⟨bg,0,none⟩=some (.slice q.sa q.sn q.sc):=((Kp.alloc (mb:=W.heap.size) W _).cell hbg (by omega)).trans c0
 go_enter Try.func71,Try.ntmps71
 go_wp2_with (go_at_call 49; refine hc.mono ?_; rintro e w' ⟨rfl,hk⟩)
 go_wp2
 go_ret
 exact ⟨rfl,(Below.refl _ _ |>.alloc (aB _) _).trans (hk.mono (by simp))⟩
set_option maxHeartbeats 4000000 in
theorem under (q:G) (B mb:Nat) (C7 to:Int×Int) (U:List (Int×Int)) (hU:∀ u∈U,(0<=u.1/\u.1 < (q.kn:Int))/\∀ k,k < q.im u.1.toNat->q.dS u.1.toNat k∈U) (S:List (Int×Int)) (W:World)
  (hf:C7∈U) (hg:GAt q B W) (hB:B<=W.heap.size) (hm:B<=mb) (hM:MapAt mb W S) (ht:to ∉ S) {bg bs bt:Nat} (lg:bg < W.heap.size/\bg≠mb) (ls:bs < W.heap.size/\bs≠mb) (lt:bt < W.heap.size/\bt≠mb)
  (c0:W.cell? ⟨bg,0,none⟩=some (.slice q.sa q.sn q.sc)) (c1:W.cell? ⟨bg,1,none⟩=some (.slice q.ka q.kn q.kc)) (c2:W.cell? ⟨bs,0,none⟩=some (.map (some mb))) (c3:W.cell? ⟨bt,0,none⟩=some (.int .i64 to.1)) (c4:W.cell? ⟨bt,1,none⟩=some (.int .i64 to.2)) :
  Calls Try.prog 73 #[hv C7,.pointer (some ⟨bg,0,none⟩),.pointer (some ⟨bs,0,none⟩),.pointer (some ⟨bt,0,none⟩)] W fun e W'=>∃ S' r,e = .returned (.bool r)/\MapAt mb W' S'/\Kp mb W W'/\(r=true/\Reach q to C7\/r=false/\Grow q S C7 S'/\to ∉ S'):=by
 have mixed:=Bp;have t32:=Try.underlying32; have a32:=Try.isAgg32; have z32:=Try.sizeOf32; have v32:=Try.zeroValue32; have u32:=run_underlying Try.underlying32;have t27:=Try.underlying27; have a27:=Try.isAgg27; have z27:=Try.sizeOf27; have v27:=Try.zeroValue27; have u27:=run_underlying Try.underlying27;have t202:=Try.underlying172; have alV:=Try.isAgg172; have alW:=Try.sizeOf172; have alX:=Try.zeroValue172; have Rs:=run_underlying Try.underlying172;have t4:=Try.underlying4; have a4:=Try.isAgg4; have z4:=Try.sizeOf4; have v4:=Try.zeroValue4; have u4:=run_underlying Try.underlying4;have Vo:mb < W.heap.size:=by obtain ⟨es,c,h,_⟩:=hM; exact (rS.1 h).1
 have KA:=Kp.alloc (mb:=mb) W (.cells #[.int .i64 C7.1,.int .i64 C7.2] 32);have hM1:MapAt mb (W.alloc (.cells #[.int .i64 C7.1,.int .i64 C7.2] 32)) S:=by
  obtain ⟨es,c,h1,h2⟩:=hM;exact ⟨es,c,by rw [Below.heap_alloc _ _ _ Vo]; exact h1,h2⟩
 have hc:=below q B mb C7 to U hU S (W.alloc (.cells #[.int .i64 C7.1,.int .i64 C7.2] 32)) hf (hg.dL KA hB hm) (gS hB KA.size) hm hM1 ht;have d0:=(KA.cell lg.1 lg.2).trans c0;have d1:=(KA.cell lg.1 lg.2).trans c1;have d2:=(KA.cell ls.1 ls.2).trans c2;have d3:=(KA.cell lt.1 lt.2).trans c3;have d4:=(KA.cell lt.1 lt.2).trans c4;obtain ⟨f1,f2⟩:=C7;obtain ⟨t1,t2⟩:=to
 go_enter Try.func73,Try.ntmps73
 go_wp2_with (go_at_call 74; refine hc.mono ?_; rintro e w' ⟨S',r,rfl,hr⟩)
 go_wp2
 go_ret
 exact ⟨S',r,rfl,hr.1,KA.trans hr.2.1,hr.2.2⟩
theorem XL {q:G} {to:Int×Int} {S:List (Int×Int)} (hS:∀ x∈S,∀ k,k < q.im x.1.toNat->q.dS x.1.toNat k∈S) (ht:to ∉ S):∀ {x:Int×Int},Reach q to x->x ∉ S
 | _,.here=>ht
 | _,.dS h k hk r=>fun hm=>XL hS ht r (hS h hm k hk)
theorem Grow.closed {q:G} {S S' : List (Int×Int)} {h:Int×Int} (g:Grow q S h S') (hS:∀ x∈S,∀ k,k < q.im x.1.toNat->q.dS x.1.toNat k∈S):∀ x∈S',∀ k,k < q.im x.1.toNat->q.dS x.1.toNat k∈S':=fun x hx k hk=>
 (g.new x hx).elim (fun h1=>g.sub _ (hS x h1 k hk)) fun h1=>h1 k hk
theorem ahL {W:World} {mb:Nat} {es:Array MapEntry} {clock:Nat} (hm:W.heap[mb]? = some (.map es clock)) :
  (Builtin.clear_ #[172] 0 #[.map (some mb)]).run Try.prog W = .ok (.tuple #[]) (put W mb (.map #[] clock)):=by
 have Rs:=run_underlying Try.underlying172;simp [Builtin.clear_,Rs,MapKept.run_getObj_map hm,MapKept.run_setObj_map _ hm,Result.andThen];rfl
theorem run_make (W:World):(Instr.makeMap 172 none).run Try.prog W = .ok (.map (some W.heap.size)) (W.alloc (.map #[] 0)):=by
 have Rs:=run_underlying Try.underlying172;simp [Instr.makeMap,Result.andThen,newObj,Sem.run]
 try rfl
def qOf (g:b.fA):G:=⟨none,0,0,none,g.kids.n,0,fun _=>none,fun i=>(g.kids.get i).n,fun _=>0,fun i k=>hp ((g.kids.get i).get k)⟩
theorem Of.reach {q:G} {g:b.fA} {B:Nat} {W:World} (h:Of q g B W) {to x:Int×Int} : Reach q to x↔Reach (qOf g) to x:=by
 constructor
 ·intro r
  induction r with
  | here=>exact .here
  | dS h' k hk _ ih=>
   rw [h.im] at hk;rw [h.dS] at ih;exact .dS (q:=qOf g) h' k hk ih
 ·intro r
  induction r with
  | here=>exact .here
  | dS h' k hk _ ih=>exact .dS h' k (by rw [h.im]; exact hk) (by rw [h.dS]; exact ih)
def r5 (g:b.fA) (i:Nat):Prop:=(g.kids.get i).n<=16/\(0 < (g.kids.get i).n->(g.cD.cN.get i).live=true)/\∀ k,k < (g.kids.get i).n->b.dy g.cD ((g.kids.get i).get k)=some true
def Gv (g:b.fA) (i:Nat):Prop:=∀ k,k < (g.kids.get i).n->¬ Reach (qOf g) ((i:Int),(g.cD.cN.get i).gen) (hp ((g.kids.get i).get k))
structure qC (g:b.fA):Prop where
 cN:b.dR g.cD=some 0
 len:g.kids.n=g.cD.cN.n
 row:∀ i,i < g.kids.n->r5 g i
 free:∀ i,i < g.kids.n->Gv g i
theorem af9 {W W' : World} (h:Below W.heap.size W W') (mb:Nat):Kp mb W W':=⟨h.os,h.tape,h.output,h.size,fun k hk _=>h.block k hk⟩
theorem ahM (a:b.jZ) (h:b.Handle) {n:Int} (hn:b.dR a=some n):∃ r,b.dy a h=some r:=by
 unfold b.dy b.vF b.vG;rw [hn];simp only [iG,aj,fv];cases n==0 with
 | false=>exact ⟨_,rfl⟩
 | true=>
  have:∃ r,b.l9 a h=some r:=by
   unfold b.l9;by_cases h1:h.slot >= 0
   ·by_cases h2:h.slot < (a.cN.n:Int)
    ·simp [h1,h2]
    ·simp [h1,h2]
   ·simp [h1]
  obtain ⟨r,hr⟩:=this;rw [hr];exact ⟨r,rfl⟩
theorem aea {a:b.jZ} (hn:b.dR a=some 0):a.cN.n<=128:=by
 unfold b.dR at hn;by_cases h:((a.cN.n:Nat):Int) > 128
 ·rw [az h,aj] at hn
  simp at hn
 ·omega
theorem al9 {a:b.jZ} {h:b.Handle} (hn:b.dy a h=some true):0<=h.slot/\h.slot < (a.cN.n:Int):=by
 unfold b.dy b.vF b.vG at hn;by_cases h1:h.slot >= 0
 ·by_cases h2:h.slot < (a.cN.n:Int)
  ·exact ⟨h1,h2⟩
  ·exfalso
   revert hn
   cases (b.dR a).isSome with
   | false=>simp
   | true=>
    cases ((b.dR a).getD default==0) with
    | false=>simp
    | true=>simp [b.l9,h1,h2]
 ·exfalso
  revert hn
  cases (b.dR a).isSome with
  | false=>simp
  | true=>
   cases ((b.dR a).getD default==0) with
   | false=>simp
   | true=>simp [b.l9,h1]
set_option maxHeartbeats 8000000 in
theorem check {E:Env} {A:ae} {B:aI.St} {ρ:aI.Ren} {base:Nat} {w:World} (hj:KJ Try.prog E A B ρ base w) {g:b.fA} {q:G} (hg:aaO q w.heap.size w) (ho:Of q g w.heap.size w) (hx:VC Try.prog E ρ (b.jt g.cD) (.agg #[.slice q.sa q.sn q.sc])) {n:Int} (hn:b.dR g.cD=some n) :
  Calls Try.prog 44 #[gv q] w fun e w'=>∃ n,e = .returned (.int .i64 n)/\Below w.heap.size w w'/\(n=0/\qC g\/n=8/\¬ qC g):=by
 have mixed:=Bp;have t46:=Try.underlying40; have a46:=Try.isAgg40; have z46:=Try.sizeOf40; have v46:=Try.zeroValue40; have u46:=run_underlying Try.underlying40;have t32:=Try.underlying32; have a32:=Try.isAgg32; have z32:=Try.sizeOf32; have v32:=Try.zeroValue32; have u32:=run_underlying Try.underlying32;have t27:=Try.underlying27; have a27:=Try.isAgg27; have z27:=Try.sizeOf27; have v27:=Try.zeroValue27; have u27:=run_underlying Try.underlying27;have t24:=Try.underlying24; have a24:=Try.isAgg24; have z24:=Try.sizeOf24; have v24:=Try.zeroValue24; have u24:=run_underlying Try.underlying24;have t22:=Try.underlying22; have a22:=Try.isAgg22; have z22:=Try.sizeOf22; have v22:=Try.zeroValue22; have u22:=run_underlying Try.underlying22;have t25:=Try.underlying25; have a25:=Try.isAgg25; have z25:=Try.sizeOf25; have v25:=Try.zeroValue25; have u25:=run_underlying Try.underlying25;have t35:=Try.underlying47; have a35:=Try.isAgg47; have z35:=Try.sizeOf47; have v35:=Try.zeroValue47; have u35:=run_underlying Try.underlying47;have t111:=Try.underlying139; have a111:=Try.isAgg139; have z111:=Try.sizeOf139; have v111:=Try.zeroValue139; have u111:=run_underlying Try.underlying139;have t202:=Try.underlying172; have alV:=Try.isAgg172; have alW:=Try.sizeOf172; have alX:=Try.zeroValue172; have Rs:=run_underlying Try.underlying172;have t200:=Try.underlying170; have anP:=Try.isAgg170; have anQ:=Try.sizeOf170; have anR:=Try.zeroValue170; have anS:=run_underlying Try.underlying170;have t3:=Try.underlying3; have a3:=Try.isAgg3; have z3:=Try.sizeOf3; have v3:=Try.zeroValue3; have u3:=run_underlying Try.underlying3;have t4:=Try.underlying4; have a4:=Try.isAgg4; have z4:=Try.sizeOf4; have v4:=Try.zeroValue4; have u4:=run_underlying Try.underlying4;have bg0:Below w.heap.size w (w.alloc (.cells #[.slice q.sa q.sn q.sc,.slice q.ka q.kn q.kc] 27)):=(Below.refl _ _).alloc (aB _) _;have hac:=af7 hj bg0 hx hn;have cg0:(w.alloc (.cells #[.slice q.sa q.sn q.sc,.slice q.ka q.kn q.kc] 27)).cell? ⟨w.heap.size,0,none⟩=some (.slice q.sa q.sn q.sc):=by simp
 have cg1:(w.alloc (.cells #[.slice q.sa q.sn q.sc,.slice q.ka q.kn q.kc] 27)).cell? ⟨w.heap.size,1,none⟩=some (.slice q.ka q.kn q.kc):=by simp
 have sg:(w.alloc (.cells #[.slice q.sa q.sn q.sc,.slice q.ka q.kn q.kc] 27)).heap.size=w.heap.size+1:=by simp
 generalize hW1:w.alloc (.cells #[.slice q.sa q.sn q.sc,.slice q.ka q.kn q.kc] 27)=W1 at hac bg0 cg0 cg1 sg
 go_enter Try.func44,Try.ntmps44
 by_cases hn0:n=0
 ·subst hn0
  have hsm:q.sn<=128:=by rw [ho.sn]; exact aea hn
  by_cases hlen:q.kn=q.sn
  ·have Sh:((q.kn:Int)==(q.sn:Int))=true:=by rw [hlen]; exact beq_self_eq_true _
   have aov:((q.kn:Int) != (q.sn:Int))=false:=by rw [hlen]; exact bne_self_eq_false _
   have hlen2:q.kn<=q.sn/\q.sn<=q.kn:=by omega
   clear hlen
   go_wp2_with (go_at_call 70; refine hac.mono ?_; rintro e w2 ⟨rfl,hk⟩; have c0:=(hk.cell (p:=⟨w.heap.size,0,none⟩) (by show w.heap.size < _; omega)).trans cg0; have c1:=(hk.cell (p:=⟨w.heap.size,1,none⟩) (by show w.heap.size < _; omega)).trans cg1)
   have bW:Below W1.heap.size W1 w2:=hk
   go_wp2
   go_loopg [27] q.kn (fun gg s27 wr=>∃ kk:Nat,kk<=q.kn/\q.kn - kk<=gg/\s27 = .int .i64 kk/\Aside (Below W1.heap.size W1 wr/\∀ i,i < kk->r5 g i))
   case atStart=>exact ⟨0,rQ _,by omega,rfl,bW,fun i hi=>absurd hi (oX _)⟩
   case round=>
    obtain ⟨kk,hkk,hgg,rfl,BW⟩:=hrel;clear Sh aov;by_cases bj:kk < q.kn
    ·have afV:(kk:Int) < (q.kn:Int):=by omega
     have hltz2:(kk:Int) < (q.sn:Int):=by omega
     have BWw:Below w.heap.size w wr:=bg0.trans (BW.out.1.mono (by omega));have HM:=hg.dL (af9 BWw w.heap.size) (aB _) (aB _);have hoo:=ho.dL (af9 BWw w.heap.size) (aB _) (aB _);have e0:=(BW.out.1.cell (p:=⟨w.heap.size,0,none⟩) (by show w.heap.size < _; omega)).trans cg0;have e1:=(BW.out.1.cell (p:=⟨w.heap.size,1,none⟩) (by show w.heap.size < _; omega)).trans cg1;obtain ⟨bk,ok,hka,hbk,fk⟩:=HM.kids kk bj;obtain ⟨bl,ol,hsa,hbl,anV,ama⟩:=hoo.slot kk (by omega);have him:q.im kk<=(g.kids.get kk).n/\(g.kids.get kk).n<=q.im kk:=by rw [ho.im]; exact ⟨aB _,aB _⟩
     have Pj:q.im kk<=16->∀ V,Below W1.heap.size W1 V->Calls Try.prog 72 #[.slice (q.ia kk) (q.im kk) (q.ic kk),.func (.func 71) #[] #[.pointer (some ⟨w.heap.size,0,none⟩)]] V fun e W'=>∃ r,e = .returned (.bool r)/\Below W1.heap.size W1 W'/\(r=true/\¬ r5 g kk\/r=false/\∀ k,k < q.im kk->b.dy g.cD ((g.kids.get kk).get k)=some true):=by
      intro h16 V hV;refine (SK 71 #[.pointer (some ⟨w.heap.size,0,none⟩)] (enters_of Try.func71 (by kernel_rfl) rfl) (q.ia kk) (q.im kk) (q.ic kk) (q.dS kk)
       (fun j W'=>Below W1.heap.size W1 W'/\∀ k,k < j->b.dy g.cD ((g.kids.get kk).get k)=some true)
       (fun W'=>Below W1.heap.size W1 W'/\¬ r5 g kk) (by omega) (fun W' j Ab hI=>?_) (fun j W' Ab hI=>?_) V ⟨hV,fun k hk=>absurd hk (oX _)⟩).mono ?_
      ·have BW' : Below w.heap.size w W':=bg0.trans (hI.1.mono (by omega))
       obtain ⟨bb,off,r1,_,r2,r3⟩:=(hg.dL (af9 BW' w.heap.size) (aB _) (aB _)).row kk bj j Ab;exact ⟨bb,off,r1,r2,r3⟩
      ·have BW' : Below w.heap.size w W':=bg0.trans (hI.1.mono (by omega))
       obtain ⟨r,hr⟩:=ahM g.cD ((g.kids.get kk).get j) hn;have aaP:=ho.dS kk j;refine (rB hj BW' hx (q.dS kk j) (r:=r) (by rw [aaP]; exact hr) (bg:=w.heap.size) (by have:=hI.1.size; omega) ((hI.1.cell (p:=⟨w.heap.size,0,none⟩) (by show w.heap.size < _; omega)).trans cg0)).mono ?_;rintro e W2 ⟨rfl,hb⟩;have Uf:Below W1.heap.size W1 W2:=hI.1.trans (hb.mono hI.1.size);cases r with
       | true=>
        refine .inr ⟨rfl,Uf,fun k hk=>?_⟩;by_cases ek:k=j
        ·subst ek; exact hr
        ·exact hI.2 k (by omega)
       | false=>exact .inl ⟨rfl,Uf,fun h=>by have:=h.2.2 j (by omega); rw [hr] at this; simp at this⟩
      ·rintro e W' ⟨r,rfl,⟨rfl,h1⟩ | ⟨rfl,h1⟩⟩
       ·exact ⟨true,rfl,h1.1,.inl ⟨rfl,h1.2⟩⟩
       ·exact ⟨false,rfl,h1.1,.inr ⟨rfl,h1.2⟩⟩
     have eg:∀ args w,(callFunc 72 args).run Try.prog w = .ok (.enter 72 args) w:=enters_of Try.func72 (by kernel_rfl) rfl;have ajn:∀ W',Below W1.heap.size W1 W'->¬ r5 g kk->∃ n,Ending.returned (.int .i64 8) = .returned (.int .i64 n)/\Below w.heap.size w W'/\(n=0/\qC g\/n=8/\¬ qC g):=fun W' hb hr=>
      ⟨8,rfl,bg0.trans (hb.mono (by omega)),.inr ⟨rfl,fun h=>hr (h.row kk (by rw [<- ho.kn]; exact bj))⟩⟩
     have hBW:=BW.out;have Rv:∀ W',Below W1.heap.size W1 W'->r5 g kk->Below W1.heap.size W1 W'/\∀ i,i < kk+1->r5 g i:=fun W' hb hr=>⟨hb,fun i hi=>by
      by_cases e:i=kk
      ·subst e; exact hr
      ·exact hBW.2 i (by omega)⟩
     clear hg ho hj hac BW;generalize hlv:(g.cD.cN.get kk).live=lv at ama;by_cases h16:q.im kk<=16
     ·have apz : ¬ (q.im kk:Int) > 16:=by omega
      have amb:=Pj h16;have amc:=amb wr hBW.1;clear Pj amb;have aab:∀ W' r,Below W1.heap.size W1 W'->(r=true/\¬ r5 g kk\/r=false/\∀ k,k < q.im kk->b.dy g.cD ((g.kids.get kk).get k)=some true)->(0 < q.im kk->lv=true)->r=true/\(Below W1.heap.size W1 W'/\¬ r5 g kk)\/r=false/\(Below W1.heap.size W1 W'/\∀ i,i < kk+1->r5 g i):=by
       rintro W' r hb (⟨rfl,hr⟩ | ⟨rfl,hr⟩) hl
       ·exact .inl ⟨rfl,hb,hr⟩
       ·exact .inr ⟨rfl,Rv _ hb ⟨by omega,fun Gs=>by rw [hlv]; exact hl (by omega),fun k hk=>hr k (by omega)⟩⟩
      by_cases h0:0 < q.im kk
      ·have h0z:(q.im kk:Int) > 0:=by omega
       cases lv with
       | true=>
        go_wp2_with (go_at_call 72; refine amc.mono ?_; rintro e w3 ⟨r,rfl,hb,hr⟩; rcases aab _ _ hb hr (fun _=>rfl) with ⟨rfl,hd⟩ | ⟨rfl,hd⟩)
        ·go_wp2
         go_ret
         exact ajn _ hd.1 hd.2
        ·go_wp2
         simp only [<- hka,<- hsa]
         go_roundg (q.kn - (kk+1))
         case measure=>omega
         case rel=>exact ⟨kk+1,by omega,by omega,by go_num,hd⟩
       | false=>
        go_wp2
        go_ret
        exact ajn _ hBW.1 fun h=>by have:=h.2.1 (by omega); rw [hlv] at this; simp at this
      ·have h0z : ¬ (q.im kk:Int) > 0:=by omega
       go_wp2_with (go_at_call 72; refine amc.mono ?_; rintro e w3 ⟨r,rfl,hb,hr⟩; rcases aab _ _ hb hr (fun h=>absurd h h0) with ⟨rfl,hd⟩ | ⟨rfl,hd⟩)
       ·go_wp2
        go_ret
        exact ajn _ hd.1 hd.2
       ·go_wp2
        simp only [<- hka,<- hsa]
        go_roundg (q.kn - (kk+1))
        case measure=>omega
        case rel=>exact ⟨kk+1,by omega,by omega,by go_num,hd⟩
     ·have apz:(q.im kk:Int) > 16:=by omega
      go_wp2
      go_ret
      exact ajn _ hBW.1 fun h=>h16 (by have:=h.1; omega)
    ·rename World=>V0
     have afV : ¬ (kk:Int) < (q.kn:Int):=by omega
     have qy:∀ i,i < q.kn->r5 g i:=fun i hi=>BW.out.2 i (by omega);have hB1:=BW.out.1;have BWw:Below w.heap.size w V0:=bg0.trans (hB1.mono (by omega));have HM:=(hg.dL (af9 BWw w.heap.size) (aB _) (aB _)).with fun i hi=>by have:=(qy i hi).1; rw [ho.im]; omega
     have hoo:=ho.dL (af9 BWw w.heap.size) (aB _) (aB _);have e0:=(hB1.cell (p:=⟨w.heap.size,0,none⟩) (by show w.heap.size < _; omega)).trans cg0;have e1:=(hB1.cell (p:=⟨w.heap.size,1,none⟩) (by show w.heap.size < _; omega)).trans cg1;have Se:=run_make;have sW:w.heap.size < V0.heap.size:=by have:=hB1.size; omega
     have K2:∀ mb,Kp mb V0 ((V0.alloc (.map #[] 0)).alloc (.cells #[.map (some V0.heap.size)] 172)):=fun mb=>(Kp.alloc V0 _).trans (Kp.alloc _ _);have hM2:MapAt V0.heap.size ((V0.alloc (.map #[] 0)).alloc (.cells #[.map (some V0.heap.size)] 172)) []:=⟨#[],0,by rw [Below.heap_alloc _ _ _ (by simp)]; exact zr _ _ _ rfl,acM⟩
     have jI:((V0.alloc (.map #[] 0)).alloc (.cells #[.map (some V0.heap.size)] 172)).cell? ⟨V0.heap.size+1,0,none⟩=some (.map (some V0.heap.size)):=by
      rw [mm (zr _ _ _ (by simp))]; rfl
     have Cu:((V0.alloc (.map #[] 0)).alloc (.cells #[.map (some V0.heap.size)] 172)).heap.size=V0.heap.size+2:=by simp
     have f0:=((K2 V0.heap.size).cell (b:=w.heap.size) (j:=0) sW (by omega)).trans e0;have f1:=((K2 V0.heap.size).cell (b:=w.heap.size) (j:=1) sW (by omega)).trans e1;generalize hW2:(V0.alloc (.map #[] 0)).alloc (.cells #[.map (some V0.heap.size)] 172)=W2 at K2 hM2 jI Cu f0 f1;have N6:=HM.dL (K2 V0.heap.size) (Nat.le_of_lt sW) (Nat.le_of_lt sW);have ho2:=hoo.dL (K2 V0.heap.size) (Nat.le_of_lt sW) (Nat.le_of_lt sW);have anW:∀ W',Kp V0.heap.size W2 W'->Below w.heap.size w W':=fun W' k=>BWw.trans (((K2 V0.heap.size).trans k).below (Nat.le_of_lt sW) (Nat.le_of_lt sW));clear hac hg HM ho hoo BW
     go_wp2
     go_loopg [61] q.kn (fun gg s61 wr2=>∃ jj:Nat,jj<=q.kn/\q.kn - jj<=gg/\s61 = .int .i64 jj/\Aside (Kp V0.heap.size W2 wr2/\(∃ S,MapAt V0.heap.size wr2 S)/\∀ i,i < jj->Gv g i))
     case atStart=>exact ⟨0,rQ _,by omega,rfl,Kp.refl _ _,⟨_,hM2⟩,fun i hi=>absurd hi (oX _)⟩
     case round=>
      obtain ⟨jj,hjj,hgg2,rfl,BJ⟩:=hrel;obtain ⟨kj,⟨S0,es0,XM,hm0,_⟩,ahN⟩:=BJ.out;clear BJ;by_cases aga:jj < q.kn
      ·have hjz:(jj:Int) < (q.kn:Int):=by omega
       have hjz2:(jj:Int) < (q.sn:Int):=by omega
       have hgj:=N6.dL kj (by omega) (by omega);have hoj:=ho2.dL kj (by omega) (by omega);have sj:=kj.size;have j0:=(kj.cell (b:=w.heap.size) (j:=0) (by omega) (by omega)).trans f0;have j1:=(kj.cell (b:=w.heap.size) (j:=1) (by omega) (by omega)).trans f1;have js:=(kj.cell (b:=V0.heap.size+1) (j:=0) (by omega) (by omega)).trans jI;obtain ⟨bk,ok,hka,hbk,fk⟩:=hgj.kids jj aga;obtain ⟨bl,ol,hsa,hbl,anV,ama⟩:=hoj.slot jj (by omega);have aaP:=hoj.dS jj;have him:q.im jj<=(g.kids.get jj).n/\(g.kids.get jj).n<=q.im jj:=by rw [hoj.im]; exact ⟨aB _,aB _⟩
       generalize aat:(g.cD.cN.get jj).gen=gj at anV;have KA:=Kp.alloc (mb:=V0.heap.size) wr (.cells #[.int .i64 jj,.int .i64 gj] 32);have hmA:(wr.alloc (.cells #[.int .i64 jj,.int .i64 gj] 32)).heap[V0.heap.size]? = some (.map es0 XM):=by rw [Below.heap_alloc _ _ _ (by omega)]; exact hm0
       have apA:=ahL hmA;have KP:=Kp.put (mb:=V0.heap.size) (wr.alloc (.cells #[.int .i64 jj,.int .i64 gj] 32)) (.map #[] XM);have jA:=(KA.cell (b:=V0.heap.size+1) (j:=0) (by omega) (by omega)).trans js;have K4:=KA.trans KP;have hM4:MapAt V0.heap.size (put (wr.alloc (.cells #[.int .i64 jj,.int .i64 gj] 32)) V0.heap.size (.map #[] XM)) []:=⟨#[],XM,YC hmA,acM⟩
       have js4:=(KP.cell (b:=V0.heap.size+1) (j:=0) (by have:=KA.size; omega) (by omega)).trans jA;have jt0:(put (wr.alloc (.cells #[.int .i64 jj,.int .i64 gj] 32)) V0.heap.size (.map #[] XM)).cell? ⟨wr.heap.size,0,none⟩=some (.int .i64 jj):=by
        rw [KP.cell (by simp) (by omega)]; simp
       have jt1:(put (wr.alloc (.cells #[.int .i64 jj,.int .i64 gj] 32)) V0.heap.size (.map #[] XM)).cell? ⟨wr.heap.size,1,none⟩=some (.int .i64 gj):=by
        rw [KP.cell (by simp) (by omega)]; simp
       have hz4:wr.heap.size < (put (wr.alloc (.cells #[.int .i64 jj,.int .i64 gj] 32)) V0.heap.size (.map #[] XM)).heap.size:=by rw [Wb]; simp
       generalize hW4:put (wr.alloc (.cells #[.int .i64 jj,.int .i64 gj] 32)) V0.heap.size (.map #[] XM)=W4 at apA KP K4 hM4 js4 jt0 jt1 hz4;have hU:∀ u∈(List.range q.kn).flatMap (fun i=>(List.range (q.im i)).map fun k=>q.dS i k),(0<=u.1/\u.1 < (q.kn:Int))/\∀ k,k < q.im u.1.toNat->q.dS u.1.toNat k∈(List.range q.kn).flatMap (fun i=>(List.range (q.im i)).map fun k=>q.dS i k):=by
        intro u hu;obtain ⟨i,hi,hu⟩:=List.mem_flatMap.1 hu;obtain ⟨k,hk,rfl⟩:=GL.1 hu;rw [GP] at hi hk;have hr:=al9 ((qy i hi).2.2 k (by rw [<- hoj.im]; exact hk));rw [<- hoj.sn] at hr;have hh:0<=(q.dS i k).1/\(q.dS i k).1 < (q.kn:Int):=by rw [hoj.dS]; exact ⟨hr.1,by have:=hr.2; show ((g.kids.get i).get k).slot < _; omega⟩
        exact ⟨hh,fun k' mD=>List.mem_flatMap.2 ⟨(q.dS i k).1.toNat,GP.2 (by omega),GL.2 ⟨k',GP.2 mD,rfl⟩⟩⟩
       have Pj:Calls Try.prog 72 #[.slice (q.ia jj) (q.im jj) (q.ic jj),.func (.func 73) #[] #[.pointer (some ⟨w.heap.size,0,none⟩),.pointer (some ⟨V0.heap.size+1,0,none⟩),.pointer (some ⟨wr.heap.size,0,none⟩)]] W4 fun e W'=>∃ r,e = .returned (.bool r)/\Kp V0.heap.size W4 W'/\(∃ S,MapAt V0.heap.size W' S)/\(r=true/\¬ Gv g jj\/r=false/\Gv g jj):=by
        refine (SK 73 #[.pointer (some ⟨w.heap.size,0,none⟩),.pointer (some ⟨V0.heap.size+1,0,none⟩),.pointer (some ⟨wr.heap.size,0,none⟩)] (enters_of Try.func73 (by kernel_rfl) rfl) (q.ia jj) (q.im jj) (q.ic jj) (q.dS jj)
         (fun j W'=>Kp V0.heap.size W4 W'/\∃ S,MapAt V0.heap.size W' S/\((jj:Int),gj) ∉ S/\(∀ x∈S,∀ k,k < q.im x.1.toNat->q.dS x.1.toNat k∈S)/\∀ k,k < j->q.dS jj k∈S)
         (fun W'=>Kp V0.heap.size W4 W'/\(∃ S,MapAt V0.heap.size W' S)/\¬ Gv g jj) (N6.small jj aga) (fun W' j Ab hI=>?_) (fun j W' Ab hI=>?_) W4 ⟨Kp.refl _ _,[],hM4,by simp,by simp,fun k hk=>absurd hk (oX _)⟩).mono ?_
        ·obtain ⟨bb,off,r1,_,r2,r3⟩:=(hgj.dL (K4.trans hI.1) (by omega) (by omega)).row jj aga j Ab
         exact ⟨bb,off,r1,r2,r3⟩
        ·obtain ⟨tN,S,hS,Ze,hcl,qx⟩:=hI
         have kk4:=K4.trans tN;have dP:=tN.size;refine (under q w.heap.size V0.heap.size (q.dS jj j) ((jj:Int),gj) _ hU S W' (List.mem_flatMap.2 ⟨jj,GP.2 aga,GL.2 ⟨j,GP.2 Ab,rfl⟩⟩) (hgj.dL kk4 (by omega) (by omega)) (by omega) (by omega) hS Ze
          (bg:=w.heap.size) (bs:=V0.heap.size+1) (bt:=wr.heap.size) (by omega) (by omega) (by omega)
          ((kk4.cell (b:=w.heap.size) (j:=0) (by omega) (by omega)).trans j0) ((kk4.cell (b:=w.heap.size) (j:=1) (by omega) (by omega)).trans j1) ((tN.cell (b:=V0.heap.size+1) (j:=0) (by omega) (by omega)).trans js4)
          ((tN.cell (b:=wr.heap.size) (j:=0) hz4 (by omega)).trans jt0) ((tN.cell (b:=wr.heap.size) (j:=1) hz4 (by omega)).trans jt1)).mono ?_
         rintro e W5 ⟨S',r,rfl,m5,k5,⟨rfl,hr⟩ | ⟨rfl,G6,hn5⟩⟩
         ·refine .inl ⟨rfl,tN.trans k5,⟨S',m5⟩,fun hf=>hf j (by omega) ?_⟩
          rw [aat,<- aaP j];exact hoj.reach.1 hr
         ·refine .inr ⟨rfl,tN.trans k5,S',m5,hn5,G6.closed hcl,fun k hk=>?_⟩
          by_cases ek:k=j
          ·subst ek; exact G6.is
          ·exact G6.sub _ (qx k (by omega))
        ·rintro e W' ⟨r,rfl,⟨rfl,h1⟩ | ⟨rfl,h1,S,h2,h3,h4,h5⟩⟩
         ·exact ⟨true,rfl,h1.1,h1.2.1,.inl ⟨rfl,h1.2.2⟩⟩
         ·refine ⟨false,rfl,h1,⟨S,h2⟩,.inr ⟨rfl,fun k hk hr=>?_⟩⟩
          rw [aat,<- aaP k] at hr;exact XL h4 h3 (hoj.reach.2 hr) (h5 k (by omega))
       have aow:∀ W',Kp V0.heap.size W4 W'->¬ Gv g jj->∃ n,Ending.returned (.int .i64 8) = .returned (.int .i64 n)/\Below w.heap.size w W'/\(n=0/\qC g\/n=8/\¬ qC g):=fun W' hk hf=>
        ⟨8,rfl,anW _ (kj.trans (K4.trans hk)),.inr ⟨rfl,fun h=>hf (h.free jj (by rw [<- hoj.kn]; exact aga))⟩⟩
       have fU:∀ W',Kp V0.heap.size W4 W'->(∃ S,MapAt V0.heap.size W' S)->Gv g jj->Kp V0.heap.size W2 W'/\(∃ S,MapAt V0.heap.size W' S)/\∀ i,i < jj+1->Gv g i:=fun W' hk hm hf=>⟨kj.trans (K4.trans hk),hm,fun i hi=>by
        by_cases e:i=jj
        ·subst e; exact hf
        ·exact ahN i (by omega)⟩
       clear hU aaP N6 ho2 hgj hoj qy hW2 aat ahN hm0
       go_wp2_with (go_at_call 72; go_loud (refine Pj.mono ?_; rintro e w3 ⟨r,rfl,hb,hm,⟨rfl,hr⟩ | ⟨rfl,hr⟩⟩))
       ·go_wp2
        go_ret
        exact aow _ hb hr
       ·go_wp2
        simp only [<- hka,<- hsa]
        go_roundg (q.kn - (jj+1))
        case measure=>omega
        case rel=>exact ⟨jj+1,by omega,by omega,by go_num,fU _ hb hm hr⟩
      ·have hjz : ¬ (jj:Int) < (q.kn:Int):=by omega
       have hf:qC g:=⟨hn,by rw [<- ho2.kn,<- ho2.sn]; omega,fun i hi=>qy i (by rw [ho2.kn]; exact hi),fun i hi=>ahN i (by have:=ho2.kn; omega)⟩
       have hb:=anW _ kj;have R8:∀ W',Below w.heap.size w W'->∃ n,Ending.returned (.int .i64 0) = .returned (.int .i64 n)/\Below w.heap.size w W'/\(n=0/\qC g\/n=8/\¬ qC g):=fun W' hb=>⟨0,rfl,hb,.inl ⟨rfl,hf⟩⟩
       clear hm0 N6 ho2 qy
       go_wp2
       go_ret
       first | exact R8 _ hb | exact ⟨rfl,hb⟩
  ·have Sh:((q.kn:Int)==(q.sn:Int))=false:=beq_eq_false_iff_ne.2 fun h=>hlen (by exact_mod_cast h)
   have hlen3 : ¬ (q.kn:Int)=(q.sn:Int):=fun h=>hlen (by exact_mod_cast h)
   go_wp2_with (go_at_call 70; refine hac.mono ?_; rintro e w2 ⟨rfl,hk⟩; have c0:=(hk.cell (p:=⟨w.heap.size,0,none⟩) (by show w.heap.size < _; omega)).trans cg0; have c1:=(hk.cell (p:=⟨w.heap.size,1,none⟩) (by show w.heap.size < _; omega)).trans cg1)
   go_wp2
   go_ret
   exact ⟨8,rfl,bg0.trans (hk.mono (by omega)),.inr ⟨rfl,fun h=>hlen (by rw [ho.kn,ho.sn,h.len])⟩⟩
 ·have hn0' : (n==0)=false:=by simpa using hn0
  go_wp2_with (go_at_call 70; refine hac.mono ?_; rintro e w2 ⟨rfl,hk⟩)
  go_wp2
  go_ret
  exact ⟨8,rfl,bg0.trans (hk.mono (by omega)),.inr ⟨rfl,fun h=>by rw [h.cN] at hn; simp only [bN] at hn; omega⟩⟩
end Go.Proofs.Ytckbdndhmcoihaa.nodes
end
section
namespace Go.Proofs.Ytckbdndhmcoihaa.nodes
open Go Go.RowKit Go.K
open Classical in
noncomputable def Fs (g:b.fA):Option Int:=(b.dR g.cD).map fun _=>if qC g then 0 else 8
noncomputable def agb:List KV->KR KV:=b5 Try.prog 44 (cg (kI .i64) fun vs=>Fs (b.jL (vs.getD 0 .bf)))
theorem call73:xC Try.prog 44:=by
 refine ⟨by kernel_rfl,_,Try.func44,rfl,by kernel_rfl⟩
theorem am3 (w:Nat->KV):vA Try.prog [27] w 0 = [b.rT (b.jL (ik Try.prog (ca Try.prog dB) 27 (w 0)))]:=by kernel_rfl
theorem agc:bZ Try.prog 44 agb:=by
 refine afS call73 fun args v E A B ρ base w dV hF hlen hv hj=>?_;have ep:bS Try.prog 44 = [27]:=by kernel_rfl
 unfold agb b5 at hF;obtain ⟨hb,hF⟩:=aH.cond hF;obtain ⟨ww,hw⟩:=Iv 0 hb;have CJ:rE Try.prog E ρ (normArgs Try.prog (bS Try.prog 44) args) dV:=by
  obtain ⟨m,h1,h2⟩:=hv;exact ⟨m,aV.MV (.of rfl) h1 hlen,h2⟩
 rw [hw,ep,am3] at hF CJ;generalize b.jL (ik Try.prog (ca Try.prog dB) 27 (ww 0))=g at hF CJ;obtain ⟨u,us,rfl,hu,Lf⟩:=CJ.xx;obtain rfl:=Lf.UE;obtain ⟨q,rfl,hg,ho,hx⟩:=akg hj hu;unfold cg at hF;obtain ⟨h1,h2⟩:=aH.jN hF;have h1:(Fs g).isSome=true:=h1;have h2:kI .i64 ((Fs g).getD default)=v:=h2;cases hn:b.dR g.cD with
 | none=>simp [Fs,hn] at h1
 | some n=>
  refine (check hj hg ho hx hn).mono ?_;rintro e w' ⟨m,rfl,hb,hm⟩;refine ⟨.int .i64 m,rfl,?_,hb⟩;have:v=kI .i64 m:=by
   rw [<- h2];simp only [Fs,hn,Option.map_some,fv];rcases hm with ⟨rfl,h⟩ | ⟨rfl,h⟩
   ·rw [aE h]
   ·rw [aa h]
  rw [this];exact ⟨_,.mkInt,by simp [aI.VR]⟩
end Go.Proofs.Ytckbdndhmcoihaa.nodes
end
section
namespace Go.Proofs.Ytckbdndhmcoihaa.b
open Go.K
noncomputable section
def IC (g:fA):Option Int:=nodes.Fs g
def yN:List KV->KR KV:=b5 Try.prog 44 (cg (kI .i64) fun vs=>IC (jL (vs.getD 0 .bf)))
theorem ym:bZ Try.prog 44 yN:=nodes.agc
def mC (l:kf):Option (Int):=(cond (decide (l.dI < (-(1:Int)))) (some (8)) (cond (decide (l.dI >= 16)) (some (8)) (cond (decide (l.oQ > 2)) (some (8)) (cond (decide (l.nT < (-(1024:Int)))) (some (8)) (cond (decide (l.nT > 1024)) (some (8)) (cond (decide (l.bin < 0)) (some (8)) (cond (decide (l.bin > 15)) (some (8)) (some (0)))))))))
theorem N9 (l:kf):rv [] [] 85 [xV l] = (mC l).map (kI .i64):=by
 unfold mC
 try simp only [cf]
 kernel_rfl
def Ai:List KV->KR KV:=b5 PG 85 (cg (kI .i64) fun vs=>mC (qO (v9 vs 0)))
theorem Dp:bZ PG 85 Ai:=ee ak.nil bu.nil fun w=>N9 (qO (g0 60 (w 0)))
structure cu where
 t2:Int
 t7:Int
 s:dt
 said:kf
instance:Inhabited cu:=⟨⟨default,default,default,default⟩⟩
def uW (x:cu):List KV:=[.int .i64 x.t2,.agg [.fn (.func 96) [] [],.fn (.func 97) [] [],.fn (.func 98) [] [],.fn (.func 99) [] [],.fn (.func 100) [] []],.int .i64 x.t7]
def uX (x:cu):List (List KV):=[ad8 x.s,ahH x.said]
def Gw (vs:List KV) (rs:List (List KV)):cu:=⟨ax (v9 vs 0),ax (v9 vs 2),ad9 (r9 rs 0),ahI (r9 rs 1)⟩
def ID:aJ:=⟨[(2,w9 i9),(6,⟨true,[.lit (.fn (.func 96) [] []),.lit (.fn (.func 97) [] []),.lit (.fn (.func 98) [] []),.lit (.fn (.func 99) [] []),.lit (.fn (.func 100) [] [])]⟩),(7,w9 i9)],[(1,[u9,u9,u9,u9,u9,u9,u9,u9,u9,i9,u9,i9,b9,i9],1),(3,[u9,u9,u9,u9,i9,u9,i9,b9,i9],1)],[(1,0,0),(3,1,0)]⟩
def QO:=Cv [(85,Ai)] [] 60 58 ID
def ef (x:cu):aX cu:=(.next ⟨x.t2,(aP (0+1)),x.s,⟨x.s.look.color,x.said.dI,x.said.oQ,x.said.nT,x.said.ku,x.said.bin⟩⟩)
def eh (x:cu):aX cu:=(.next ⟨x.t2,(aP (1+1)),x.s,⟨x.said.color,x.s.look.dI,x.said.oQ,x.said.nT,x.said.ku,x.said.bin⟩⟩)
def eo (x:cu):aX cu:=(.next ⟨x.t2,(aP (2+1)),x.s,⟨x.said.color,x.said.dI,x.s.look.oQ,x.said.nT,x.said.ku,x.said.bin⟩⟩)
def ew (x:cu):aX cu:=(.next ⟨x.t2,(aP (3+1)),x.s,⟨x.said.color,x.said.dI,x.said.oQ,x.s.look.nT,x.said.ku,x.said.bin⟩⟩)
def eA (x:cu):aX cu:=(.next ⟨x.t2,(aP (4+1)),x.s,⟨x.said.color,x.said.dI,x.said.oQ,x.said.nT,x.s.look.ku,x.s.look.bin⟩⟩)
def bp (x:cu):aX cu:=(cond (x.t7==0) (cond (x.s.cp.e0==0) (.next ⟨x.t2,(aP (0+1)),x.s,x.said⟩) (cond (x.s.cp.e0==1)
   (ef x) (cond (x.s.cp.e0==3)
   (ef x) (cond (x.s.cp.e0==5)
    (ef x) (cond (x.s.cp.e0==7)
    (ef x) (.out aI.ah.ret ⟨8,0,x.s,x.said⟩)))))) (cond (x.t7==1) (cond (x.s.cp.e1==0) (.next ⟨x.t2,(aP (1+1)),x.s,x.said⟩) (cond (x.s.cp.e1==1)
   (eh x) (cond (x.s.cp.e1==3)
    (eh x) (cond (x.s.cp.e1==5)
    (eh x) (cond (x.s.cp.e1==7)
     (eh x) (.out aI.ah.ret ⟨8,1,x.s,x.said⟩)))))) (cond (x.t7==2) (cond (x.s.cp.e2==0) (.next ⟨x.t2,(aP (2+1)),x.s,x.said⟩) (cond (x.s.cp.e2==1)
    (eo x) (cond (x.s.cp.e2==3)
    (eo x) (cond (x.s.cp.e2==5)
     (eo x) (cond (x.s.cp.e2==7)
     (eo x) (.out aI.ah.ret ⟨8,2,x.s,x.said⟩)))))) (cond (x.t7==3) (cond (x.s.cp.e3==0) (.next ⟨x.t2,(aP (3+1)),x.s,x.said⟩) (cond (x.s.cp.e3==1)
    (ew x) (cond (x.s.cp.e3==3)
     (ew x) (cond (x.s.cp.e3==5)
     (ew x) (cond (x.s.cp.e3==7)
      (ew x) (.out aI.ah.ret ⟨8,3,x.s,x.said⟩)))))) (cond (x.t7==4) (cond (x.s.cp.e4==0) (.next ⟨x.t2,(aP (4+1)),x.s,x.said⟩) (cond (x.s.cp.e4==1)
     (eA x) (cond (x.s.cp.e4==3)
     (eA x) (cond (x.s.cp.e4==5)
      (eA x) (cond (x.s.cp.e4==7)
      (eA x) (.out aI.ah.ret ⟨8,4,x.s,x.said⟩)))))) (cond (x.t7==5) (.out (aI.ah.exit 0) ⟨x.t2,5,x.s,x.said⟩) .fail))))))
theorem Oa (x:cu):bp x = .fail\/QO (uW x) (uX x)=aX.enc uW uX (bp x):=by
 obtain ⟨t2,t7,s,said⟩:=x
 exact (aX.lit (fun h=>by subst h; (try simp only [aX.cJ,j2,k7,mP,mR,mS,mT,mU,mV,mQ,jS,mL,mM,pn,pq,pr,pt,pw,px,po,kZ,pj,pk,sD,sF,sG,sH,sI,sJ,sE,mK,nF,nG,qh,qj,qk,ql,qm,qo,qi,lz,jV,jW,ll,lq,lr,lu,lx,ly,ln,iR,qf,qg,tu,tw,tz,tA,tB,tC,tv,nE,qd,qe,tg,ti,tj,tl,tq,tt,th,nD,lk,j5,lM,lN,nz,nA,nB,nC,ny,jU,qb,qc,sX,s0,s5,s9,ta,tf,sZ,nw,lL,nv,pX,pZ,p0,p8,p9,qa,pY,lj,pV,pW,sN,sQ,sR,sS,sT,sU,sP,nu,ns,nt,pO,pQ,pR,pS,pT,pU,pP,lh,nm,np,pH,pJ,pK,pL,pM,pN,pI,la,sL,sM,xo,xr,xt,xu,xv,xw,xq,pG,rz,sK,xf,xh,xj,xk,xm,xn,xg,pF,gK,gL,iI,iK,iL,iM,iP,iQ,iJ,fQ,j3,j4,mZ,nf,ng,nh,ni,nj,nb,jT,mW,mX,py,pA,pB,pC,pD,pE,pz,k8,ru,sB,vB,w6,w7,xa,xc,xd,pg,ph,sC,ub,sA,pf,mJ]); kernel_rfl) (aX.lit (fun h=>by subst h; (try simp only [aX.cJ,j2,k7,mP,mR,mS,mT,mU,mV,mQ,jS,mL,mM,pn,pq,pr,pt,pw,px,po,kZ,pj,pk,sD,sF,sG,sH,sI,sJ,sE,mK,nF,nG,qh,qj,qk,ql,qm,qo,qi,lz,jV,jW,ll,lq,lr,lu,lx,ly,ln,iR,qf,qg,tu,tw,tz,tA,tB,tC,tv,nE,qd,qe,tg,ti,tj,tl,tq,tt,th,nD,lk,j5,lM,lN,nz,nA,nB,nC,ny,jU,qb,qc,sX,s0,s5,s9,ta,tf,sZ,nw,lL,nv,pX,pZ,p0,p8,p9,qa,pY,lj,pV,pW,sN,sQ,sR,sS,sT,sU,sP,nu,ns,nt,pO,pQ,pR,pS,pT,pU,pP,lh,nm,np,pH,pJ,pK,pL,pM,pN,pI,la,sL,sM,xo,xr,xt,xu,xv,xw,xq,pG,rz,sK,xf,xh,xj,xk,xm,xn,xg,pF,gK,gL,iI,iK,iL,iM,iP,iQ,iJ,fQ,j3,j4,mZ,nf,ng,nh,ni,nj,nb,jT,mW,mX,py,pA,pB,pC,pD,pE,pz,k8,ru,sB,vB,w6,w7,xa,xc,xd,pg,ph,sC,ub,sA,pf,mJ]); kernel_rfl) (aX.lit (fun h=>by subst h; (try simp only [aX.cJ,j2,k7,mP,mR,mS,mT,mU,mV,mQ,jS,mL,mM,pn,pq,pr,pt,pw,px,po,kZ,pj,pk,sD,sF,sG,sH,sI,sJ,sE,mK,nF,nG,qh,qj,qk,ql,qm,qo,qi,lz,jV,jW,ll,lq,lr,lu,lx,ly,ln,iR,qf,qg,tu,tw,tz,tA,tB,tC,tv,nE,qd,qe,tg,ti,tj,tl,tq,tt,th,nD,lk,j5,lM,lN,nz,nA,nB,nC,ny,jU,qb,qc,sX,s0,s5,s9,ta,tf,sZ,nw,lL,nv,pX,pZ,p0,p8,p9,qa,pY,lj,pV,pW,sN,sQ,sR,sS,sT,sU,sP,nu,ns,nt,pO,pQ,pR,pS,pT,pU,pP,lh,nm,np,pH,pJ,pK,pL,pM,pN,pI,la,sL,sM,xo,xr,xt,xu,xv,xw,xq,pG,rz,sK,xf,xh,xj,xk,xm,xn,xg,pF,gK,gL,iI,iK,iL,iM,iP,iQ,iJ,fQ,j3,j4,mZ,nf,ng,nh,ni,nj,nb,jT,mW,mX,py,pA,pB,pC,pD,pE,pz,k8,ru,sB,vB,w6,w7,xa,xc,xd,pg,ph,sC,ub,sA,pf,mJ]); kernel_rfl) (aX.lit (fun h=>by subst h; (try simp only [aX.cJ,j2,k7,mP,mR,mS,mT,mU,mV,mQ,jS,mL,mM,pn,pq,pr,pt,pw,px,po,kZ,pj,pk,sD,sF,sG,sH,sI,sJ,sE,mK,nF,nG,qh,qj,qk,ql,qm,qo,qi,lz,jV,jW,ll,lq,lr,lu,lx,ly,ln,iR,qf,qg,tu,tw,tz,tA,tB,tC,tv,nE,qd,qe,tg,ti,tj,tl,tq,tt,th,nD,lk,j5,lM,lN,nz,nA,nB,nC,ny,jU,qb,qc,sX,s0,s5,s9,ta,tf,sZ,nw,lL,nv,pX,pZ,p0,p8,p9,qa,pY,lj,pV,pW,sN,sQ,sR,sS,sT,sU,sP,nu,ns,nt,pO,pQ,pR,pS,pT,pU,pP,lh,nm,np,pH,pJ,pK,pL,pM,pN,pI,la,sL,sM,xo,xr,xt,xu,xv,xw,xq,pG,rz,sK,xf,xh,xj,xk,xm,xn,xg,pF,gK,gL,iI,iK,iL,iM,iP,iQ,iJ,fQ,j3,j4,mZ,nf,ng,nh,ni,nj,nb,jT,mW,mX,py,pA,pB,pC,pD,pE,pz,k8,ru,sB,vB,w6,w7,xa,xc,xd,pg,ph,sC,ub,sA,pf,mJ]); kernel_rfl) (aX.lit (fun h=>by subst h; (try simp only [aX.cJ,j2,k7,mP,mR,mS,mT,mU,mV,mQ,jS,mL,mM,pn,pq,pr,pt,pw,px,po,kZ,pj,pk,sD,sF,sG,sH,sI,sJ,sE,mK,nF,nG,qh,qj,qk,ql,qm,qo,qi,lz,jV,jW,ll,lq,lr,lu,lx,ly,ln,iR,qf,qg,tu,tw,tz,tA,tB,tC,tv,nE,qd,qe,tg,ti,tj,tl,tq,tt,th,nD,lk,j5,lM,lN,nz,nA,nB,nC,ny,jU,qb,qc,sX,s0,s5,s9,ta,tf,sZ,nw,lL,nv,pX,pZ,p0,p8,p9,qa,pY,lj,pV,pW,sN,sQ,sR,sS,sT,sU,sP,nu,ns,nt,pO,pQ,pR,pS,pT,pU,pP,lh,nm,np,pH,pJ,pK,pL,pM,pN,pI,la,sL,sM,xo,xr,xt,xu,xv,xw,xq,pG,rz,sK,xf,xh,xj,xk,xm,xn,xg,pF,gK,gL,iI,iK,iL,iM,iP,iQ,iJ,fQ,j3,j4,mZ,nf,ng,nh,ni,nj,nb,jT,mW,mX,py,pA,pB,pC,pD,pE,pz,k8,ru,sB,vB,w6,w7,xa,xc,xd,pg,ph,sC,ub,sA,pf,mJ]); kernel_rfl) (aX.lit (fun h=>by subst h; (try simp only [aX.cJ,j2,k7,mP,mR,mS,mT,mU,mV,mQ,jS,mL,mM,pn,pq,pr,pt,pw,px,po,kZ,pj,pk,sD,sF,sG,sH,sI,sJ,sE,mK,nF,nG,qh,qj,qk,ql,qm,qo,qi,lz,jV,jW,ll,lq,lr,lu,lx,ly,ln,iR,qf,qg,tu,tw,tz,tA,tB,tC,tv,nE,qd,qe,tg,ti,tj,tl,tq,tt,th,nD,lk,j5,lM,lN,nz,nA,nB,nC,ny,jU,qb,qc,sX,s0,s5,s9,ta,tf,sZ,nw,lL,nv,pX,pZ,p0,p8,p9,qa,pY,lj,pV,pW,sN,sQ,sR,sS,sT,sU,sP,nu,ns,nt,pO,pQ,pR,pS,pT,pU,pP,lh,nm,np,pH,pJ,pK,pL,pM,pN,pI,la,sL,sM,xo,xr,xt,xu,xv,xw,xq,pG,rz,sK,xf,xh,xj,xk,xm,xn,xg,pF,gK,gL,iI,iK,iL,iM,iP,iQ,iJ,fQ,j3,j4,mZ,nf,ng,nh,ni,nj,nb,jT,mW,mX,py,pA,pB,pC,pD,pE,pz,k8,ru,sB,vB,w6,w7,xa,xc,xd,pg,ph,sC,ub,sA,pf,mJ]); kernel_rfl) (.inl rfl)))))))
def IE:Lp:=⟨60,58,ID,fun vs rs=>dU uW uX (goN bp (Gw vs rs)) [aI.ah.exit 0,aI.ah.ret],false⟩
theorem QP:IE.Ok PG:=Uu funcs mixed (ak.cons Dp ak.nil) bu.nil (L:=9) (n:=9) (step:=bp) (ev:=uW) (er:=uX) (pa:=Gw) rfl (fun wv wr=>⟨by kernel_rfl,by kernel_rfl⟩) Oa
def b7 (s:dt):=goN bp ⟨0,0,s,⟨⟨0,0,0,0⟩,0,0,0,false,0⟩⟩
def Dq (s:dt):=mC (b7 s).st.s.look
def qq (s:dt):Option (Int):=(cond ((b7 s).by (aI.ah.exit 0)) (cond (!(((b7 s).st.said.color.e0==(b7 s).st.s.look.color.e0)&&(((b7 s).st.said.color.e1==(b7 s).st.s.look.color.e1)&&(((b7 s).st.said.color.e2==(b7 s).st.s.look.color.e2)&&(((b7 s).st.said.color.e3==(b7 s).st.s.look.color.e3)&&(((b7 s).st.said.dI==(b7 s).st.s.look.dI)&&(((b7 s).st.said.oQ==(b7 s).st.s.look.oQ)&&(((b7 s).st.said.nT==(b7 s).st.s.look.nT)&&(((b7 s).st.said.ku==(b7 s).st.s.look.ku)&&(((b7 s).st.said.bin==(b7 s).st.s.look.bin)&&true)))))))))) (some (8)) (cond (Dq s).isSome (some (((Dq s).getD default))) none)) (cond ((b7 s).by aI.ah.ret) (some ((b7 s).st.t2)) none))
theorem UF (s:dt):rv [(85,Ai)] [IE] 60 [oy s] = (qq s).map (kI .i64):=by
 unfold qq
 try simp only [cf]
 kernel_rfl
def Bs:List KV->KR KV:=b5 PG 60 (cg (kI .i64) fun vs=>qq (iv (v9 vs 0)))
theorem BU:bZ PG 60 Bs:=ee (ak.cons Dp ak.nil) (rH QP bu.nil) fun w=>UF (iv (g0 62 (w 0)))
structure rJ where
 e0:Bool
 e1:Bool
 e2:Bool
 e3:Bool
 e4:Bool
instance:Inhabited rJ:=⟨⟨default,default,default,default,default⟩⟩
def akh (x:rJ):List KV:=[.bool x.e0,.bool x.e1,.bool x.e2,.bool x.e3,.bool x.e4]
def oe (x:rJ):KV:=.agg (akh x)
def aki (c:Nat->KV):rJ:=⟨eH (c 0),eH (c 1),eH (c 2),eH (c 3),eH (c 4)⟩
def ie (v:KV):rJ:=aki fun k=>v.cells.getD k .bf
theorem rj (x:rJ):ie (oe x)=x:=rfl
theorem XN:ie .bf=default:=rfl
theorem xJ (s:Sl rJ) (v:rJ):s.push v=au ie (s.n+1) (av s.n (fun i=>oe (s.get i)) (cZ [oe v])):=(fP rj XN s v).symm
theorem xK (s t:Sl rJ):s.join t=au ie (s.n+t.n) (av s.n (fun i=>oe (s.get i)) (fun i=>oe (t.get i))):=(gM rj s t).symm
theorem zw (l:List rJ):Sl.lit l=au ie l.length (cZ (l.map oe)):=(jO rj XN l).symm
theorem zx (s:Sl rJ) (i:Nat) (v:rJ):s.set i v=au ie s.n (bO (fun j=>oe (s.get j)) i (oe v)):=(jP rj s i v).symm
theorem vJ (s t:Sl rJ) (o m:Nat):s.qN o m t=au ie s.n (aA o m (fun j=>oe (s.get j)) (fun j=>oe (t.get j))):=(fM rj s t o m).symm
theorem zy (m n n' : Nat) (acc aw:Nat->KV):au ie m (av n (fun i=>oe ((au ie n' acc).get i)) aw)=au ie m (av n acc aw):=kb rj ..
theorem zA (m n n' : Nat) (acc aw:Nat->KV):au ie m (av n acc (fun i=>oe ((au ie n' aw).get i)))=au ie m (av n acc aw):=kd rj ..
theorem zB (m n' i:Nat) (acc:Nat->KV) (v:KV):au ie m (bO (fun j=>oe ((au ie n' acc).get j)) i v)=au ie m (bO acc i v):=ke rj ..
theorem zC (n n' o m:Nat) (acc aw:Nat->KV):au ie n (aA o m (fun j=>oe ((au ie n' acc).get j)) aw)=au ie n (aA o m acc aw):=kO rj ..
theorem zD (n n' o m:Nat) (acc aw:Nat->KV):au ie n (aA o m acc (fun j=>oe ((au ie n' aw).get j)))=au ie n (aA o m acc aw):=kP rj ..
structure cR where
 look:kf
 kept:rJ
instance:Inhabited cR:=⟨⟨default,default⟩⟩
def Qu (x:cR):List KV:=[.int .u8 x.look.color.e0,.int .u8 x.look.color.e1,.int .u8 x.look.color.e2,.int .u8 x.look.color.e3,.int .i64 x.look.dI,.int .u8 x.look.oQ,.int .i64 x.look.nT,.bool x.look.ku,.int .i64 x.look.bin,.bool x.kept.e0,.bool x.kept.e1,.bool x.kept.e2,.bool x.kept.e3,.bool x.kept.e4]
def jG (x:cR):KV:=.agg (Qu x)
def Qv (c:Nat->KV):cR:=⟨⟨⟨ax (c 0),ax (c 1),ax (c 2),ax (c 3)⟩,ax (c 4),ax (c 5),ax (c 6),eH (c 7),ax (c 8)⟩,⟨eH (c 9),eH (c 10),eH (c 11),eH (c 12),eH (c 13)⟩⟩
def gm (v:KV):cR:=Qv fun k=>v.cells.getD k .bf
theorem rl (x:cR):gm (jG x)=x:=rfl
theorem XO:gm .bf=default:=rfl
theorem xL (s:Sl cR) (v:cR):s.push v=au gm (s.n+1) (av s.n (fun i=>jG (s.get i)) (cZ [jG v])):=(fP rl XO s v).symm
theorem xM (s t:Sl cR):s.join t=au gm (s.n+t.n) (av s.n (fun i=>jG (s.get i)) (fun i=>jG (t.get i))):=(gM rl s t).symm
theorem zF (l:List cR):Sl.lit l=au gm l.length (cZ (l.map jG)):=(jO rl XO l).symm
theorem zG (s:Sl cR) (i:Nat) (v:cR):s.set i v=au gm s.n (bO (fun j=>jG (s.get j)) i (jG v)):=(jP rl s i v).symm
theorem vK (s t:Sl cR) (o m:Nat):s.qN o m t=au gm s.n (aA o m (fun j=>jG (s.get j)) (fun j=>jG (t.get j))):=(fM rl s t o m).symm
theorem zH (m n n' : Nat) (acc aw:Nat->KV):au gm m (av n (fun i=>jG ((au gm n' acc).get i)) aw)=au gm m (av n acc aw):=kb rl ..
theorem zI (m n n' : Nat) (acc aw:Nat->KV):au gm m (av n acc (fun i=>jG ((au gm n' aw).get i)))=au gm m (av n acc aw):=kd rl ..
theorem zJ (m n' i:Nat) (acc:Nat->KV) (v:KV):au gm m (bO (fun j=>jG ((au gm n' acc).get j)) i v)=au gm m (bO acc i v):=ke rl ..
theorem zL (n n' o m:Nat) (acc aw:Nat->KV):au gm n (aA o m (fun j=>jG ((au gm n' acc).get j)) aw)=au gm n (aA o m acc aw):=kO rl ..
theorem zM (n n' o m:Nat) (acc aw:Nat->KV):au gm n (aA o m acc (fun j=>jG ((au gm n' aw).get j)))=au gm n (aA o m acc aw):=kP rl ..
structure cS where
 t14:Int
 i:cR
 s:dt
 t4:cR
instance:Inhabited cS:=⟨⟨default,default,default,default⟩⟩
def uY (x:cS):List KV:=[.agg [.fn (.func 96) [] [],.fn (.func 97) [] [],.fn (.func 98) [] [],.fn (.func 99) [] [],.fn (.func 100) [] []],.int .i64 x.t14]
def uZ (x:cS):List (List KV):=[Qu x.i,ad8 x.s,Qu x.t4]
def Gx (vs:List KV) (rs:List (List KV)):cS:=⟨ax (v9 vs 1),Qv (r9 rs 0),ad9 (r9 rs 1),Qv (r9 rs 2)⟩
def IG:aJ:=⟨[(13,⟨true,[.lit (.fn (.func 96) [] []),.lit (.fn (.func 97) [] []),.lit (.fn (.func 98) [] []),.lit (.fn (.func 99) [] []),.lit (.fn (.func 100) [] [])]⟩),(14,w9 i9)],[(2,[u9,u9,u9,u9,i9,u9,i9,b9,i9,b9,b9,b9,b9,b9],1),(3,[u9,u9,u9,u9,u9,u9,u9,u9,u9,i9,u9,i9,b9,i9],1),(4,[u9,u9,u9,u9,i9,u9,i9,b9,i9,b9,b9,b9,b9,b9],1)],[(2,0,0),(3,1,0),(4,2,0)]⟩
def QQ:=Cv [] [] 61 58 IG
def A6 (x:cS):aX cS:=(.next ⟨(aP (0+1)),⟨⟨x.s.look.color,x.i.look.dI,x.i.look.oQ,x.i.look.nT,x.i.look.ku,x.i.look.bin⟩,⟨((w8 (((Fe IntKind.u8 x.s.cp.e0 2):Nat):Int)) != 0),x.i.kept.e1,x.i.kept.e2,x.i.kept.e3,x.i.kept.e4⟩⟩,x.s,x.t4⟩)
def A7 (x:cS):aX cS:=(.next ⟨(aP (1+1)),⟨⟨x.i.look.color,x.s.look.dI,x.i.look.oQ,x.i.look.nT,x.i.look.ku,x.i.look.bin⟩,⟨x.i.kept.e0,((w8 (((Fe IntKind.u8 x.s.cp.e1 2):Nat):Int)) != 0),x.i.kept.e2,x.i.kept.e3,x.i.kept.e4⟩⟩,x.s,x.t4⟩)
def A8 (x:cS):aX cS:=(.next ⟨(aP (2+1)),⟨⟨x.i.look.color,x.i.look.dI,x.s.look.oQ,x.i.look.nT,x.i.look.ku,x.i.look.bin⟩,⟨x.i.kept.e0,x.i.kept.e1,((w8 (((Fe IntKind.u8 x.s.cp.e2 2):Nat):Int)) != 0),x.i.kept.e3,x.i.kept.e4⟩⟩,x.s,x.t4⟩)
def A9 (x:cS):aX cS:=(.next ⟨(aP (3+1)),⟨⟨x.i.look.color,x.i.look.dI,x.i.look.oQ,x.s.look.nT,x.i.look.ku,x.i.look.bin⟩,⟨x.i.kept.e0,x.i.kept.e1,x.i.kept.e2,((w8 (((Fe IntKind.u8 x.s.cp.e3 2):Nat):Int)) != 0),x.i.kept.e4⟩⟩,x.s,x.t4⟩)
def Ba (x:cS):aX cS:=(.next ⟨(aP (4+1)),⟨⟨x.i.look.color,x.i.look.dI,x.i.look.oQ,x.i.look.nT,x.s.look.ku,x.s.look.bin⟩,⟨x.i.kept.e0,x.i.kept.e1,x.i.kept.e2,x.i.kept.e3,((w8 (((Fe IntKind.u8 x.s.cp.e4 2):Nat):Int)) != 0)⟩⟩,x.s,x.t4⟩)
def eR (x:cS):aX cS:=(cond (x.t14==0) (cond (x.s.cp.e0==0) (.next ⟨(aP (0+1)),x.i,x.s,x.t4⟩) (cond x.i.kept.e0 (cond ((w8 (((Fe IntKind.u8 x.s.cp.e0 4):Nat):Int))==0) (.next ⟨(aP (0+1)),x.i,x.s,x.t4⟩)
   (A6 x))
   (A6 x))) (cond (x.t14==1) (cond (x.s.cp.e1==0) (.next ⟨(aP (1+1)),x.i,x.s,x.t4⟩) (cond x.i.kept.e1 (cond ((w8 (((Fe IntKind.u8 x.s.cp.e1 4):Nat):Int))==0) (.next ⟨(aP (1+1)),x.i,x.s,x.t4⟩)
    (A7 x))
   (A7 x))) (cond (x.t14==2) (cond (x.s.cp.e2==0) (.next ⟨(aP (2+1)),x.i,x.s,x.t4⟩) (cond x.i.kept.e2 (cond ((w8 (((Fe IntKind.u8 x.s.cp.e2 4):Nat):Int))==0) (.next ⟨(aP (2+1)),x.i,x.s,x.t4⟩)
    (A8 x))
    (A8 x))) (cond (x.t14==3) (cond (x.s.cp.e3==0) (.next ⟨(aP (3+1)),x.i,x.s,x.t4⟩) (cond x.i.kept.e3 (cond ((w8 (((Fe IntKind.u8 x.s.cp.e3 4):Nat):Int))==0) (.next ⟨(aP (3+1)),x.i,x.s,x.t4⟩)
     (A9 x))
    (A9 x))) (cond (x.t14==4) (cond (x.s.cp.e4==0) (.next ⟨(aP (4+1)),x.i,x.s,x.t4⟩) (cond x.i.kept.e4 (cond ((w8 (((Fe IntKind.u8 x.s.cp.e4 4):Nat):Int))==0) (.next ⟨(aP (4+1)),x.i,x.s,x.t4⟩)
     (Ba x))
     (Ba x))) (cond (x.t14==5) (.out (aI.ah.exit 0) ⟨5,x.i,x.s,x.t4⟩) .fail))))))
theorem Ob (x:cS):eR x = .fail\/QQ (uY x) (uZ x)=aX.enc uY uZ (eR x):=by
 obtain ⟨t14,i,s,t4⟩:=x
 exact (aX.lit (fun h=>by subst h; (try simp only [aX.cJ,xL,xM,zF,zH,zI,zJ,zL,zM,zG,vK,xJ,xK,zw,zy,zA,zB,zC,zD,zx,vJ,j2,k7,mP,mR,mS,mT,mU,mV,mQ,jS,mL,mM,pn,pq,pr,pt,pw,px,po,kZ,pj,pk,sD,sF,sG,sH,sI,sJ,sE,mK,nF,nG,qh,qj,qk,ql,qm,qo,qi,lz,jV,jW,ll,lq,lr,lu,lx,ly,ln,iR,qf,qg,tu,tw,tz,tA,tB,tC,tv,nE,qd,qe,tg,ti,tj,tl,tq,tt,th,nD,lk,j5,lM,lN,nz,nA,nB,nC,ny,jU,qb,qc,sX,s0,s5,s9,ta,tf,sZ,nw,lL,nv,pX,pZ,p0,p8,p9,qa,pY,lj,pV,pW,sN,sQ,sR,sS,sT,sU,sP,nu,ns,nt,pO,pQ,pR,pS,pT,pU,pP,lh,nm,np,pH,pJ,pK,pL,pM,pN,pI,la,sL,sM,xo,xr,xt,xu,xv,xw,xq,pG,rz,sK,xf,xh,xj,xk,xm,xn,xg,pF,gK,gL,iI,iK,iL,iM,iP,iQ,iJ,fQ,j3,j4,mZ,nf,ng,nh,ni,nj,nb,jT,mW,mX,py,pA,pB,pC,pD,pE,pz,k8,ru,sB,vB,w6,w7,xa,xc,xd,pg,ph,sC,ub,sA,pf,mJ]); kernel_rfl) (aX.lit (fun h=>by subst h; (try simp only [aX.cJ,xL,xM,zF,zH,zI,zJ,zL,zM,zG,vK,xJ,xK,zw,zy,zA,zB,zC,zD,zx,vJ,j2,k7,mP,mR,mS,mT,mU,mV,mQ,jS,mL,mM,pn,pq,pr,pt,pw,px,po,kZ,pj,pk,sD,sF,sG,sH,sI,sJ,sE,mK,nF,nG,qh,qj,qk,ql,qm,qo,qi,lz,jV,jW,ll,lq,lr,lu,lx,ly,ln,iR,qf,qg,tu,tw,tz,tA,tB,tC,tv,nE,qd,qe,tg,ti,tj,tl,tq,tt,th,nD,lk,j5,lM,lN,nz,nA,nB,nC,ny,jU,qb,qc,sX,s0,s5,s9,ta,tf,sZ,nw,lL,nv,pX,pZ,p0,p8,p9,qa,pY,lj,pV,pW,sN,sQ,sR,sS,sT,sU,sP,nu,ns,nt,pO,pQ,pR,pS,pT,pU,pP,lh,nm,np,pH,pJ,pK,pL,pM,pN,pI,la,sL,sM,xo,xr,xt,xu,xv,xw,xq,pG,rz,sK,xf,xh,xj,xk,xm,xn,xg,pF,gK,gL,iI,iK,iL,iM,iP,iQ,iJ,fQ,j3,j4,mZ,nf,ng,nh,ni,nj,nb,jT,mW,mX,py,pA,pB,pC,pD,pE,pz,k8,ru,sB,vB,w6,w7,xa,xc,xd,pg,ph,sC,ub,sA,pf,mJ]); kernel_rfl) (aX.lit (fun h=>by subst h; (try simp only [aX.cJ,xL,xM,zF,zH,zI,zJ,zL,zM,zG,vK,xJ,xK,zw,zy,zA,zB,zC,zD,zx,vJ,j2,k7,mP,mR,mS,mT,mU,mV,mQ,jS,mL,mM,pn,pq,pr,pt,pw,px,po,kZ,pj,pk,sD,sF,sG,sH,sI,sJ,sE,mK,nF,nG,qh,qj,qk,ql,qm,qo,qi,lz,jV,jW,ll,lq,lr,lu,lx,ly,ln,iR,qf,qg,tu,tw,tz,tA,tB,tC,tv,nE,qd,qe,tg,ti,tj,tl,tq,tt,th,nD,lk,j5,lM,lN,nz,nA,nB,nC,ny,jU,qb,qc,sX,s0,s5,s9,ta,tf,sZ,nw,lL,nv,pX,pZ,p0,p8,p9,qa,pY,lj,pV,pW,sN,sQ,sR,sS,sT,sU,sP,nu,ns,nt,pO,pQ,pR,pS,pT,pU,pP,lh,nm,np,pH,pJ,pK,pL,pM,pN,pI,la,sL,sM,xo,xr,xt,xu,xv,xw,xq,pG,rz,sK,xf,xh,xj,xk,xm,xn,xg,pF,gK,gL,iI,iK,iL,iM,iP,iQ,iJ,fQ,j3,j4,mZ,nf,ng,nh,ni,nj,nb,jT,mW,mX,py,pA,pB,pC,pD,pE,pz,k8,ru,sB,vB,w6,w7,xa,xc,xd,pg,ph,sC,ub,sA,pf,mJ]); kernel_rfl) (aX.lit (fun h=>by subst h; (try simp only [aX.cJ,xL,xM,zF,zH,zI,zJ,zL,zM,zG,vK,xJ,xK,zw,zy,zA,zB,zC,zD,zx,vJ,j2,k7,mP,mR,mS,mT,mU,mV,mQ,jS,mL,mM,pn,pq,pr,pt,pw,px,po,kZ,pj,pk,sD,sF,sG,sH,sI,sJ,sE,mK,nF,nG,qh,qj,qk,ql,qm,qo,qi,lz,jV,jW,ll,lq,lr,lu,lx,ly,ln,iR,qf,qg,tu,tw,tz,tA,tB,tC,tv,nE,qd,qe,tg,ti,tj,tl,tq,tt,th,nD,lk,j5,lM,lN,nz,nA,nB,nC,ny,jU,qb,qc,sX,s0,s5,s9,ta,tf,sZ,nw,lL,nv,pX,pZ,p0,p8,p9,qa,pY,lj,pV,pW,sN,sQ,sR,sS,sT,sU,sP,nu,ns,nt,pO,pQ,pR,pS,pT,pU,pP,lh,nm,np,pH,pJ,pK,pL,pM,pN,pI,la,sL,sM,xo,xr,xt,xu,xv,xw,xq,pG,rz,sK,xf,xh,xj,xk,xm,xn,xg,pF,gK,gL,iI,iK,iL,iM,iP,iQ,iJ,fQ,j3,j4,mZ,nf,ng,nh,ni,nj,nb,jT,mW,mX,py,pA,pB,pC,pD,pE,pz,k8,ru,sB,vB,w6,w7,xa,xc,xd,pg,ph,sC,ub,sA,pf,mJ]); kernel_rfl) (aX.lit (fun h=>by subst h; (try simp only [aX.cJ,xL,xM,zF,zH,zI,zJ,zL,zM,zG,vK,xJ,xK,zw,zy,zA,zB,zC,zD,zx,vJ,j2,k7,mP,mR,mS,mT,mU,mV,mQ,jS,mL,mM,pn,pq,pr,pt,pw,px,po,kZ,pj,pk,sD,sF,sG,sH,sI,sJ,sE,mK,nF,nG,qh,qj,qk,ql,qm,qo,qi,lz,jV,jW,ll,lq,lr,lu,lx,ly,ln,iR,qf,qg,tu,tw,tz,tA,tB,tC,tv,nE,qd,qe,tg,ti,tj,tl,tq,tt,th,nD,lk,j5,lM,lN,nz,nA,nB,nC,ny,jU,qb,qc,sX,s0,s5,s9,ta,tf,sZ,nw,lL,nv,pX,pZ,p0,p8,p9,qa,pY,lj,pV,pW,sN,sQ,sR,sS,sT,sU,sP,nu,ns,nt,pO,pQ,pR,pS,pT,pU,pP,lh,nm,np,pH,pJ,pK,pL,pM,pN,pI,la,sL,sM,xo,xr,xt,xu,xv,xw,xq,pG,rz,sK,xf,xh,xj,xk,xm,xn,xg,pF,gK,gL,iI,iK,iL,iM,iP,iQ,iJ,fQ,j3,j4,mZ,nf,ng,nh,ni,nj,nb,jT,mW,mX,py,pA,pB,pC,pD,pE,pz,k8,ru,sB,vB,w6,w7,xa,xc,xd,pg,ph,sC,ub,sA,pf,mJ]); kernel_rfl) (aX.lit (fun h=>by subst h; (try simp only [aX.cJ,xL,xM,zF,zH,zI,zJ,zL,zM,zG,vK,xJ,xK,zw,zy,zA,zB,zC,zD,zx,vJ,j2,k7,mP,mR,mS,mT,mU,mV,mQ,jS,mL,mM,pn,pq,pr,pt,pw,px,po,kZ,pj,pk,sD,sF,sG,sH,sI,sJ,sE,mK,nF,nG,qh,qj,qk,ql,qm,qo,qi,lz,jV,jW,ll,lq,lr,lu,lx,ly,ln,iR,qf,qg,tu,tw,tz,tA,tB,tC,tv,nE,qd,qe,tg,ti,tj,tl,tq,tt,th,nD,lk,j5,lM,lN,nz,nA,nB,nC,ny,jU,qb,qc,sX,s0,s5,s9,ta,tf,sZ,nw,lL,nv,pX,pZ,p0,p8,p9,qa,pY,lj,pV,pW,sN,sQ,sR,sS,sT,sU,sP,nu,ns,nt,pO,pQ,pR,pS,pT,pU,pP,lh,nm,np,pH,pJ,pK,pL,pM,pN,pI,la,sL,sM,xo,xr,xt,xu,xv,xw,xq,pG,rz,sK,xf,xh,xj,xk,xm,xn,xg,pF,gK,gL,iI,iK,iL,iM,iP,iQ,iJ,fQ,j3,j4,mZ,nf,ng,nh,ni,nj,nb,jT,mW,mX,py,pA,pB,pC,pD,pE,pz,k8,ru,sB,vB,w6,w7,xa,xc,xd,pg,ph,sC,ub,sA,pf,mJ]); kernel_rfl) (.inl rfl)))))))
def II:Lp:=⟨61,58,IG,fun vs rs=>dU uY uZ (goN eR (Gx vs rs)) [aI.ah.exit 0],false⟩
theorem QR:II.Ok PG:=Uu funcs mixed ak.nil bu.nil (L:=9) (n:=9) (step:=eR) (ev:=uY) (er:=uZ) (pa:=Gx) rfl (fun wv wr=>⟨by kernel_rfl,by kernel_rfl⟩) Ob
def Dr (i:cR) (s:dt):=goN eR ⟨0,i,s,⟨⟨⟨0,0,0,0⟩,0,0,0,false,0⟩,⟨false,false,false,false,false⟩⟩⟩
def tD (i:cR) (s:dt):Option (cR):=(cond ((s.cp.e0==0)&&((s.cp.e1==0)&&((s.cp.e2==0)&&((s.cp.e3==0)&&((s.cp.e4==0)&&true))))) (some (i)) (cond ((Dr i s).by (aI.ah.exit 0)) (some ((Dr i s).st.i)) none))
theorem UG (i:cR) (s:dt):rv [] [II] 61 [jG i,oy s] = (tD i s).map jG:=by
 unfold tD
 try simp only [cf]
 kernel_rfl
def F7:List KV->KR KV:=b5 PG 61 (cg jG fun vs=>tD (gm (v9 vs 0)) (iv (v9 vs 1)))
theorem IJ:bZ PG 61 F7:=ee ak.nil (rH QR bu.nil) fun w=>UG (gm (g0 158 (w 0))) (iv (g0 62 (w 1)))
def vL (n:Int) (lP:Int):Option (Bool):=(cond (decide (n >= (aP (0 - lP)))) (some ((decide (n<=lP)))) (some (false)))
theorem Wp (n:Int) (lP:Int):rv [] [] 65 [(kI .i64) n,(kI .i64) lP] = (vL n lP).map kB:=by
 unfold vL
 try simp only [cf]
 kernel_rfl
def Pm:List KV->KR KV:=b5 PG 65 (cg kB fun vs=>vL (ax (v9 vs 0)) (ax (v9 vs 1)))
theorem UH:bZ PG 65 Pm:=ee ak.nil bu.nil fun w=>Wp (ax (g0 3 (w 0))) (ax (g0 3 (w 1)))
def IK (v:fp):=vL v.x 1024
def IL (v:fp):=vL v.y 1024
def IM (v:fp):=vL v.z 1024
def Ex (v:fp):Option (Bool):=(cond (IK v).isSome (cond (!((IK v).getD default)) (some (true)) (cond (IL v).isSome (cond (!((IL v).getD default)) (some (true)) (cond (IM v).isSome (some ((!((IM v).getD default)))) none)) none)) none)
theorem SR (v:fp):rv [(65,Pm)] [] 64 [oP v] = (Ex v).map kB:=by
 unfold Ex
 try simp only [cf]
 kernel_rfl
def zN:List KV->KR KV:=b5 PG 64 (cg kB fun vs=>Ex (kQ (v9 vs 0)))
theorem Aj:bZ PG 64 zN:=ee (ak.cons UH ak.nil) bu.nil fun w=>SR (kQ (g0 36 (w 0)))
def Ey (p:kA):Option (Bool):=(cond (decide (p.e0 < 0)) (some (true)) (cond (decide (p.e0 > 255)) (some (true)) (cond (decide (p.e1 < 0)) (some (true)) (some ((decide (p.e1 > 255)))))))
theorem SS (p:kA):rv [] [] 66 [ju p] = (Ey p).map kB:=by
 unfold Ey
 try simp only [cf]
 kernel_rfl
def zO:List KV->KR KV:=b5 PG 66 (cg kB fun vs=>Ey (fC (v9 vs 0)))
theorem Ak:bZ PG 66 zO:=ee ak.nil bu.nil fun w=>SS (fC (g0 125 (w 0)))
def Bt (p:Prim):Option (Bool):=(cond ((p.index.n:Int)==0) (some (true)) (some ((decide ((p.index.n:Int) >= 3)))))
def zP (p:Prim):Option (Bool):=(cond (p.kind==0) (some (((Int.tmod (p.index.n:Int) 3)==0))) (cond (p.kind==1)
  (Bt p) (cond (p.kind==2)
   (Bt p) (some (false)))))
theorem aaQ (p:Prim):rv [] [] 95 [vH p] = (zP p).map kB:=by
 unfold zP Bt
 try simp only [cf]
 kernel_rfl
def M7:List KV->KR KV:=b5 PG 95 (cg kB fun vs=>zP (mq (v9 vs 0)))
theorem NN:bZ PG 95 M7:=ee ak.nil bu.nil fun w=>aaQ (mq (g0 120 (w 0)))
structure dW where
 t2:(Sl dm)
 t3:Int
 out:(Sl dm)
 l:(Sl Int)
 i:Int
 p:Prim
instance:Inhabited dW:=⟨by constructor<;>exact default⟩
def Ds (x:dW):List KV:=[dG 51 eM x.t2,.int .i64 x.t3,dG 51 eM x.out,dG 3 (kI .i64) x.l,.int .i64 x.i]
def Dt (x:dW):List (List KV):=[al5 x.p]
def JX (vs:List KV) (rs:List (List KV)):dW:=⟨eF e8 (v9 vs 0),ax (v9 vs 1),eF e8 (v9 vs 2),eF ax (v9 vs 3),ax (v9 vs 4),al6 (r9 rs 0)⟩
def LS:aJ:=⟨[(2,w9 (n9 51)),(3,w9 i9),(4,⟨false,[.aO 51]⟩),(5,w9 (n9 3)),(6,w9 i9)],[(1,[u9,n9 3],1)],[(1,0,0)]⟩
def UI:=Cv [(95,M7)] [] 83 250 LS
def qP (x:dW):aX dW:=(cond ((decide (0<=x.i))&&(decide (x.i < (x.l.n:Int)))) (cond ((decide (0<=(aP (x.i+1))))&&(decide ((aP (x.i+1)) < (x.l.n:Int)))) (cond ((decide (0<=(aP (x.i+2))))&&(decide ((aP (x.i+2)) < (x.l.n:Int)))) (cond ((ai x.out.n x.out.n)&&(dQ 24 x.out.n 1)) (cond (ai (x.out.n+1) (x.out.n+1)) (.next ⟨x.t2,x.t3,(x.out.push ⟨(x.l.get (Int.toNat x.i)),(x.l.get (Int.toNat (aP (x.i+1)))),(x.l.get (Int.toNat (aP (x.i+2))))⟩),x.l,(aP (x.i+1)),x.p⟩) .fail) .fail) .fail) .fail) .fail)
def qQ (x:dW):aX dW:=(cond (x.p.kind==1) (cond ((decide (0<=(aP (x.i+1))))&&(decide ((aP (x.i+1)) < (x.l.n:Int)))) (cond ((decide (0<=x.i))&&(decide (x.i < (x.l.n:Int)))) (cond ((decide (0<=(aP (x.i+2))))&&(decide ((aP (x.i+2)) < (x.l.n:Int)))) (cond ((ai x.out.n x.out.n)&&(dQ 24 x.out.n 1)) (cond (ai (x.out.n+1) (x.out.n+1)) (.next ⟨x.t2,x.t3,(x.out.push ⟨(x.l.get (Int.toNat (aP (x.i+1)))),(x.l.get (Int.toNat x.i)),(x.l.get (Int.toNat (aP (x.i+2))))⟩),x.l,(aP (x.i+1)),x.p⟩) .fail) .fail) .fail) .fail) .fail) (cond (x.p.kind==2) (cond (decide (0 < (x.l.n:Int))) (cond ((decide (0<=(aP (x.i+1))))&&(decide ((aP (x.i+1)) < (x.l.n:Int)))) (cond ((decide (0<=(aP (x.i+2))))&&(decide ((aP (x.i+2)) < (x.l.n:Int)))) (cond ((ai x.out.n x.out.n)&&(dQ 24 x.out.n 1)) (cond (ai (x.out.n+1) (x.out.n+1)) (.next ⟨x.t2,x.t3,(x.out.push ⟨(x.l.get 0),(x.l.get (Int.toNat (aP (x.i+1)))),(x.l.get (Int.toNat (aP (x.i+2))))⟩),x.l,(aP (x.i+1)),x.p⟩) .fail) .fail) .fail) .fail) .fail) (cond (ai x.out.n x.out.n) (.next ⟨x.t2,x.t3,x.out,x.l,(aP (x.i+1)),x.p⟩) .fail)))
def qR (x:dW):aX dW:=(cond (x.p.kind==1) (cond ((Int.tmod x.i 2)==0)
  (qP x)
  (qQ x))
  (qQ x))
def kv (x:dW):aX dW:=(cond (decide ((aP (x.i+2)) < (x.l.n:Int))) (cond (x.p.kind==0) (cond ((Int.tmod x.i 3)==0)
   (qP x)
   (qR x))
  (qR x)) (cond (ai x.out.n x.out.n) (.out (aI.ah.exit 1) x) .fail))
theorem QS (x:dW):UI (Ds x) (Dt x)=aX.enc Ds Dt (kv x):=by
 unfold kv qR qQ qP
 try simp only [aX.cJ,j3]
 kernel_rfl
def LU:Lp:=⟨83,250,LS,fun vs rs=>dU Ds Dt (goN kv (JX vs rs)) [aI.ah.exit 1],false⟩
theorem UJ:LU.Ok PG:=C8 (ak.cons NN ak.nil) bu.nil (pa:=JX) QS
def IP (p:Prim):=zP p
def IQ (p:Prim):=goN kv ⟨⟨0,(fun i=>⟨0,0,0⟩)⟩,0,⟨0,(fun i=>⟨0,0,0⟩)⟩,p.index,0,p⟩
def zQ (p:Prim):Option ((Sl dm)×Int):=(cond (decide (p.kind > 2)) (some (⟨0,(fun i=>⟨0,0,0⟩)⟩,2)) (cond (decide ((p.index.n:Int) > 200)) (some (⟨0,(fun i=>⟨0,0,0⟩)⟩,4)) (cond (IP p).isSome (cond (!((IP p).getD default)) (some (⟨0,(fun i=>⟨0,0,0⟩)⟩,40)) (cond ((IQ p).by (aI.ah.exit 1)) (some ((IQ p).st.out,0)) none)) none)))
theorem aaR (p:Prim):rv [(95,M7)] [LU] 83 [vH p] = (zQ p).map (fun (r:(Sl dm)×Int)=>KV.l8 [(dG 51 eM) r.1,(kI .i64) r.2]):=by
 unfold zQ
 try simp only [cf]
 kernel_rfl
def Hh:List KV->KR KV:=b5 PG 83 (cg (fun (r:(Sl dm)×Int)=>KV.l8 [(dG 51 eM) r.1,(kI .i64) r.2]) fun vs=>zQ (mq (v9 vs 0)))
theorem F8:bZ PG 83 Hh:=ee (ak.cons NN ak.nil) (rH UJ bu.nil) fun w=>aaR (mq (g0 120 (w 0)))
structure fR where
 t2:(Sl dm)
 t3:Bool
 out:(Sl dm)
 t12:(Sl Prim)
 t13:Int
 t14:Int
 m:gu
instance:Inhabited fR:=⟨by constructor<;>exact default⟩
def Ez (x:fR):List KV:=[dG 51 eM x.t2,.bool x.t3,dG 51 eM x.out,dG 120 vH x.t12,.int .i64 x.t13,.int .i64 x.t14]
def EA (x:fR):List (List KV):=[Wg x.m]
def LV (vs:List KV) (rs:List (List KV)):fR:=⟨eF e8 (v9 vs 0),eH (v9 vs 1),eF e8 (v9 vs 2),eF mq (v9 vs 3),ax (v9 vs 4),ax (v9 vs 5),Wh (r9 rs 0)⟩
def NP:aJ:=⟨[(2,w9 (n9 51)),(3,w9 b9),(4,⟨false,[.aO 51]⟩),(12,w9 (n9 120)),(13,w9 i9),(14,w9 i9)],[(1,[n9 36,n9 125,n9 120],1)],[(1,0,0)]⟩
structure fc where
 t2:(Sl dm)
 t3:Bool
 out:(Sl dm)
 t12:(Sl Prim)
 t13:Int
 t14:Int
 t34:(Sl Int)
 t35:Int
 t36:Int
 m:gu
instance:Inhabited fc:=⟨by constructor<;>exact default⟩
def yO (x:fc):List KV:=[dG 51 eM x.t2,.bool x.t3,dG 51 eM x.out,dG 120 vH x.t12,.int .i64 x.t13,.int .i64 x.t14,dG 3 (kI .i64) x.t34,.int .i64 x.t35,.int .i64 x.t36]
def yP (x:fc):List (List KV):=[Wg x.m]
def Ft (vs:List KV) (rs:List (List KV)):fc:=⟨eF e8 (v9 vs 0),eH (v9 vs 1),eF e8 (v9 vs 2),eF mq (v9 vs 3),ax (v9 vs 4),ax (v9 vs 5),eF ax (v9 vs 6),ax (v9 vs 7),ax (v9 vs 8),Wh (r9 rs 0)⟩
def Gy:aJ:=⟨[(2,w9 (n9 51)),(3,w9 b9),(4,⟨false,[.aO 51]⟩),(12,w9 (n9 120)),(13,w9 i9),(14,w9 i9),(34,w9 (n9 3)),(35,w9 i9),(36,w9 i9)],[(1,[n9 36,n9 125,n9 120],1)],[(1,0,0)]⟩
def Pn:=Cv [(83,Hh)] [] 58 119614 Gy
def kh (x:fc):aX fc:=(cond (ai x.out.n x.out.n) (.out aI.ah.ret ⟨⟨0,(fun i=>⟨0,0,0⟩)⟩,false,x.out,x.t12,x.t13,x.t14,x.t34,x.t35,x.t36,x.m⟩) .fail)
def ff (x:fc):aX fc:=(cond (decide (x.t36 < x.t35)) (cond ((decide (0<=x.t36))&&(decide (x.t36 < (x.t34.n:Int)))) (cond (decide ((x.t34.get (Int.toNat x.t36)) < 0))
   (kh x) (cond (decide ((x.t34.get (Int.toNat x.t36)) >= (x.m.ay.n:Int)))
   (kh x) (cond (ai x.out.n x.out.n) (.next ⟨x.t2,x.t3,x.out,x.t12,x.t13,x.t14,x.t34,x.t35,(aP (x.t36+1)),x.m⟩) .fail))) .fail) (cond (ai x.out.n x.out.n) (.out (aI.ah.exit 2) x) .fail))
theorem M8 (x:fc):Pn (yO x) (yP x)=aX.enc yO yP (ff x):=by
 unfold ff kh
 try simp only [aX.cJ]
 kernel_rfl
def Al:Lp:=⟨58,119614,Gy,fun vs rs=>dU yO yP (goN ff (Ft vs rs)) [aI.ah.exit 2,aI.ah.ret],false⟩
theorem Fu:Al.Ok PG:=C8 (ak.cons F8 ak.nil) bu.nil (pa:=Ft) M8
def Wq:=Cv [(83,Hh)] [Al] 58 58 NP
def fZ (x:fR):=zQ (x.t12.get (Int.toNat x.t14))
def cl (x:fR):=goN ff ⟨x.t2,x.t3,(x.out.join ((fZ x).getD default).fst),x.t12,x.t13,x.t14,(x.t12.get (Int.toNat x.t14)).index,((x.t12.get (Int.toNat x.t14)).index.n:Int),0,x.m⟩
def rU (x:fR):aX fR:=(cond (ai (x.out.n+((fZ x).getD default).fst.n) (x.out.n+((fZ x).getD default).fst.n)) (.out aI.ah.ret ⟨⟨0,(fun i=>⟨0,0,0⟩)⟩,false,(x.out.join ((fZ x).getD default).fst),x.t12,x.t13,x.t14,x.m⟩) .fail)
def og (x:fR):aX fR:=(cond (decide (x.t14 < x.t13)) (cond ((decide (0<=x.t14))&&(decide (x.t14 < (x.t12.n:Int)))) (cond (fZ x).isSome (cond ((ai x.out.n x.out.n)&&(dQ 24 x.out.n ((fZ x).getD default).fst.n)) (cond (((fZ x).getD default).snd != 0)
    (rU x) (cond (decide ((((x.out.n+((fZ x).getD default).fst.n):Nat):Int) > 64))
    (rU x) (cond (ai (x.out.n+((fZ x).getD default).fst.n) (x.out.n+((fZ x).getD default).fst.n)) (cond ((cl x).by (aI.ah.exit 2)) (cond (ai (cl x).st.out.n (cl x).st.out.n) (.next ⟨(cl x).st.t2,(cl x).st.t3,(cl x).st.out,(cl x).st.t12,(cl x).st.t13,(aP ((cl x).st.t14+1)),(cl x).st.m⟩) .fail) (cond ((cl x).by aI.ah.ret) (cond (ai (cl x).st.out.n (cl x).st.out.n) (.out aI.ah.ret ⟨(cl x).st.t2,(cl x).st.t3,(cl x).st.out,(cl x).st.t12,(cl x).st.t13,(cl x).st.t14,(cl x).st.m⟩) .fail) .fail)) .fail))) .fail) .fail) .fail) (cond (ai x.out.n x.out.n) (.out (aI.ah.exit 0) x) .fail))
theorem SU (x:fR):Wq (Ez x) (EA x)=aX.enc Ez EA (og x):=by
 unfold og rU
 try simp only [aX.cJ,cl,j4]
 kernel_rfl
def NQ:Lp:=⟨58,58,NP,fun vs rs=>dU Ez EA (goN og (LV vs rs)) [aI.ah.exit 0,aI.ah.ret],false⟩
theorem Wr:NQ.Ok PG:=C8 (ak.cons F8 ak.nil) (rH Fu bu.nil) (pa:=LV) SU
def vM (m:gu):=goN og ⟨⟨0,(fun i=>⟨0,0,0⟩)⟩,false,⟨0,(fun i=>⟨0,0,0⟩)⟩,m.fY,(m.fY.n:Int),0,m⟩
def wI (m:gu):Option ((Sl dm)×Bool):=(cond ((vM m).by (aI.ah.exit 0)) (some ((vM m).st.out,true)) (cond ((vM m).by aI.ah.ret) (some ((vM m).st.t2,(vM m).st.t3)) none))
theorem aaS (m:gu):rv [(83,Hh)] [Al,NQ] 58 [uE m] = (wI m).map (fun (r:(Sl dm)×Bool)=>KV.l8 [(dG 51 eM) r.1,kB r.2]):=by
 unfold wI
 try simp only [cf]
 kernel_rfl
def Du:List KV->KR KV:=b5 PG 58 (cg (fun (r:(Sl dm)×Bool)=>KV.l8 [(dG 51 eM) r.1,kB r.2]) fun vs=>wI (kS (v9 vs 0)))
theorem Bu:bZ PG 58 Du:=ee (ak.cons F8 ak.nil) (rH Fu (rH Wr bu.nil)) fun w=>aaS (kS (g0 79 (w 0)))
structure bT where
 s:(Sl fp)
 t4:Int
 t7:Int
 t8:Int
instance:Inhabited bT:=⟨⟨default,default,default,default⟩⟩
def jb (x:bT):List KV:=[dG 36 oP x.s,.fn (.func 64) [] [],.int .i64 x.t4,.int .i64 x.t7,.int .i64 x.t8]
def jc (x:bT):List (List KV):=[]
def nU (vs:List KV) (rs:List (List KV)):bT:=⟨eF kQ (v9 vs 0),ax (v9 vs 2),ax (v9 vs 3),ax (v9 vs 4)⟩
def om:aJ:=⟨[(0,w9 (n9 36)),(1,⟨false,[.lit (.fn (.func 64) [] [])]⟩),(4,w9 i9),(7,w9 i9),(8,w9 i9)],[],[]⟩
def xZ:=Cv [(58,Du),(66,zO),(64,zN)] [] 87 26 om
def bH (x:bT):aX bT:=(cond (decide (x.t8 < x.t7)) (cond ((decide (0<=x.t8))&&(decide (x.t8 < (x.s.n:Int)))) (cond (decide ((x.s.get (Int.toNat x.t8)).x >= (-(1024:Int)))) (cond (!(decide ((x.s.get (Int.toNat x.t8)).x<=1024))) (.out aI.ah.ret ⟨x.s,x.t8,x.t7,x.t8⟩) (cond (decide ((x.s.get (Int.toNat x.t8)).y >= (-(1024:Int)))) (cond (!(decide ((x.s.get (Int.toNat x.t8)).y<=1024))) (.out aI.ah.ret ⟨x.s,x.t8,x.t7,x.t8⟩) (cond (decide ((x.s.get (Int.toNat x.t8)).z >= (-(1024:Int)))) (cond (!(decide ((x.s.get (Int.toNat x.t8)).z<=1024))) (.out aI.ah.ret ⟨x.s,x.t8,x.t7,x.t8⟩) (.next ⟨x.s,x.t4,x.t7,(aP (x.t8+1))⟩)) (.out aI.ah.ret ⟨x.s,x.t8,x.t7,x.t8⟩))) (.out aI.ah.ret ⟨x.s,x.t8,x.t7,x.t8⟩))) (.out aI.ah.ret ⟨x.s,x.t8,x.t7,x.t8⟩)) .fail) (.out (aI.ah.exit 0) x))
theorem wJ (x:bT):xZ (jb x) (jc x)=aX.enc jb jc (bH x):=by
 unfold bH
 try simp only [aX.cJ]
 kernel_rfl
def jC:Lp:=⟨87,26,om,fun vs rs=>dU jb jc (goN bH (nU vs rs)) [aI.ah.exit 0,aI.ah.ret],false⟩
theorem nV:jC.Ok PG:=C8 (ak.cons Bu (ak.cons Ak (ak.cons Aj ak.nil))) bu.nil (pa:=nU) wJ
structure bU where
 s:(Sl kA)
 t4:Int
 t7:Int
 t8:Int
instance:Inhabited bU:=⟨⟨default,default,default,default⟩⟩
def jd (x:bU):List KV:=[dG 125 ju x.s,.fn (.func 66) [] [],.int .i64 x.t4,.int .i64 x.t7,.int .i64 x.t8]
def je (x:bU):List (List KV):=[]
def nW (vs:List KV) (rs:List (List KV)):bU:=⟨eF fC (v9 vs 0),ax (v9 vs 2),ax (v9 vs 3),ax (v9 vs 4)⟩
def oo:aJ:=⟨[(0,w9 (n9 125)),(1,⟨false,[.lit (.fn (.func 66) [] [])]⟩),(4,w9 i9),(7,w9 i9),(8,w9 i9)],[],[]⟩
def x7:=Cv [(58,Du),(66,zO),(64,zN)] [jC] 88 26 oo
def bI (x:bU):aX bU:=(cond (decide (x.t8 < x.t7)) (cond ((decide (0<=x.t8))&&(decide (x.t8 < (x.s.n:Int)))) (cond (decide ((x.s.get (Int.toNat x.t8)).e0 < 0)) (.out aI.ah.ret ⟨x.s,x.t8,x.t7,x.t8⟩) (cond (decide ((x.s.get (Int.toNat x.t8)).e0 > 255)) (.out aI.ah.ret ⟨x.s,x.t8,x.t7,x.t8⟩) (cond (decide ((x.s.get (Int.toNat x.t8)).e1 < 0)) (.out aI.ah.ret ⟨x.s,x.t8,x.t7,x.t8⟩) (cond (decide ((x.s.get (Int.toNat x.t8)).e1 > 255)) (.out aI.ah.ret ⟨x.s,x.t8,x.t7,x.t8⟩) (.next ⟨x.s,x.t4,x.t7,(aP (x.t8+1))⟩))))) .fail) (.out (aI.ah.exit 0) x))
theorem wK (x:bU):x7 (jd x) (je x)=aX.enc jd je (bI x):=by
 unfold bI
 try simp only [aX.cJ]
 kernel_rfl
def oq:Lp:=⟨88,26,oo,fun vs rs=>dU jd je (goN bI (nW vs rs)) [aI.ah.exit 0,aI.ah.ret],false⟩
theorem x8:oq.Ok PG:=C8 (ak.cons Bu (ak.cons Ak (ak.cons Aj ak.nil))) (rH nV bu.nil) (pa:=nW) wK
def Bv (m:gu):=goN bH ⟨m.ay,0,(m.ay.n:Int),0⟩
def Bw (m:gu):=goN bI ⟨m.uV,0,(m.uV.n:Int),0⟩
def F9 (m:gu):=wI m
def zR (m:gu):Option (Int):=(cond (F9 m).isSome (cond (!((F9 m).getD default).snd) (some (40)) (some (0))) none)
def zS (m:gu):Option (Int):=(cond ((Bw m).by (aI.ah.exit 0))
  (zR m) (cond ((Bw m).by aI.ah.ret) (cond (decide ((Bw m).st.t4 >= 0)) (some (40))
   (zR m)) none))
def uF (m:gu):Option (Int):=(cond (decide ((m.ay.n:Int) > 64)) (some (4)) (cond (decide ((m.uV.n:Int) > 64)) (some (4)) (cond (decide ((m.fY.n:Int) > 16)) (some (4)) (cond ((m.uV.n:Int) != (m.ay.n:Int)) (some (40)) (cond ((Bv m).by (aI.ah.exit 0))
    (zS m) (cond ((Bv m).by aI.ah.ret) (cond (decide ((Bv m).st.t4 >= 0)) (some (40))
     (zS m)) none))))))
theorem X9 (m:gu):rv [(58,Du),(66,zO),(64,zN)] [jC,oq] 41 [uE m] = (uF m).map (kI .i64):=by
 unfold uF zS zR
 try simp only [cf]
 kernel_rfl
def xN:List KV->KR KV:=b5 PG 41 (cg (kI .i64) fun vs=>uF (kS (v9 vs 0)))
theorem vN:bZ PG 41 xN:=ee (ak.cons Bu (ak.cons Ak (ak.cons Aj ak.nil))) (rH nV (rH x8 bu.nil)) fun w=>X9 (kS (g0 79 (w 0)))
def qt (n:Int):Option (Bool):=(cond (decide (n > 0)) (some ((decide (n<=16)))) (some (false)))
theorem UK (n:Int):rv [] [] 69 [(kI .i64) n] = (qt n).map kB:=by
 unfold qt
 try simp only [cf]
 kernel_rfl
def NR:List KV->KR KV:=b5 PG 69 (cg kB fun vs=>qt (ax (v9 vs 0)))
theorem SV:bZ PG 69 NR:=ee ak.nil bu.nil fun w=>UK (ax (g0 3 (w 0)))
def BV (t:gP):=qt t.w
def BX (t:gP):=qt t.h
def rA (t:gP):Option (Int):=(cond (BV t).isSome (cond (!((BV t).getD default)) (some (8)) (cond (BX t).isSome (cond (!((BX t).getD default)) (some (8)) (cond ((t.Ux.n:Int) != (aP (t.w * t.h))) (some (8)) (some (0)))) none)) none)
theorem SW (t:gP):rv [(69,NR)] [] 43 [jF t] = (rA t).map (kI .i64):=by
 unfold rA
 try simp only [cf]
 kernel_rfl
def vO:List KV->KR KV:=b5 PG 43 (cg (kI .i64) fun vs=>rA (eN (v9 vs 0)))
theorem u6:bZ PG 43 vO:=ee (ak.cons SV ak.nil) bu.nil fun w=>SW (eN (g0 118 (w 0)))
structure qS where
 lP:Int
 t4:Bool
 t7:(Sl Int)
 t8:Int
 t9:Int
instance:Inhabited qS:=⟨⟨default,default,default,default,default⟩⟩
def KK (x:qS):List KV:=[.int .i64 x.lP,.bool x.t4,dG 3 (kI .i64) x.t7,.int .i64 x.t8,.int .i64 x.t9]
def KL (x:qS):List (List KV):=[]
def Rw (vs:List KV) (rs:List (List KV)):qS:=⟨ax (v9 vs 0),eH (v9 vs 1),eF ax (v9 vs 2),ax (v9 vs 3),ax (v9 vs 4)⟩
def UL:aJ:=⟨[(0,w9 i9),(4,w9 b9),(7,w9 (n9 3)),(8,w9 i9),(9,w9 i9)],[],[]⟩
def abR:=Cv [] [] 30 26 UL
def tE (x:qS):aX qS:=(cond (decide (x.t9 < x.t8)) (cond ((decide (0<=x.t9))&&(decide (x.t9 < (x.t7.n:Int)))) (cond (decide ((x.t7.get (Int.toNat x.t9)) < (aP (0 - x.lP)))) (.out aI.ah.ret ⟨x.lP,false,x.t7,x.t8,x.t9⟩) (cond (decide ((x.t7.get (Int.toNat x.t9)) > x.lP)) (.out aI.ah.ret ⟨x.lP,false,x.t7,x.t8,x.t9⟩) (.next ⟨x.lP,x.t4,x.t7,x.t8,(aP (x.t9+1))⟩))) .fail) (.out (aI.ah.exit 0) x))
theorem Ya (x:qS):abR (KK x) (KL x)=aX.enc KK KL (tE x):=by
 unfold tE
 try simp only [aX.cJ]
 kernel_rfl
def UM:Lp:=⟨30,26,UL,fun vs rs=>dU KK KL (goN tE (Rw vs rs)) [aI.ah.exit 0,aI.ah.ret],false⟩
theorem abS:UM.Ok PG:=C8 ak.nil bu.nil (pa:=Rw) Ya
def JY (lP:Int) (l:(Sl Int)):=goN tE ⟨lP,false,l,(l.n:Int),0⟩
def Hy (lP:Int) (l:(Sl Int)):Option (Bool):=(cond ((JY lP l).by (aI.ah.exit 0)) (some (true)) (cond ((JY lP l).by aI.ah.ret) (some ((JY lP l).st.t4)) none))
theorem agd (lP:Int) (l:(Sl Int)):rv [] [UM] 30 [(kI .i64) lP,(dG 3 (kI .i64)) l] = (Hy lP l).map kB:=by
 unfold Hy
 try simp only [cf]
 kernel_rfl
def acT:List KV->KR KV:=b5 PG 30 (cg kB fun vs=>Hy (ax (v9 vs 0)) ((eF ax) (v9 vs 1)))
theorem aeb:bZ PG 30 acT:=ee ak.nil (rH abS bu.nil) fun w=>agd (ax (g0 3 (w 0))) ((eF ax) (g0 48 (w 1)))
def Cn (m:eU):Option (Bool):=(cond (decide (m.e0.e0 < (-(1024:Int)))) (some (false)) (cond (decide (m.e0.e0 > 1024)) (some (false)) (cond (decide (m.e0.e1 < (-(1024:Int)))) (some (false)) (cond (decide (m.e0.e1 > 1024)) (some (false)) (cond (decide (m.e0.e2 < (-(1024:Int)))) (some (false)) (cond (decide (m.e0.e2 > 1024)) (some (false)) (cond (decide (m.e1.e0 < (-(1024:Int)))) (some (false)) (cond (decide (m.e1.e0 > 1024)) (some (false)) (cond (decide (m.e1.e1 < (-(1024:Int)))) (some (false)) (cond (decide (m.e1.e1 > 1024)) (some (false)) (cond (decide (m.e1.e2 < (-(1024:Int)))) (some (false)) (cond (decide (m.e1.e2 > 1024)) (some (false)) (cond (decide (m.e2.e0 < (-(1024:Int)))) (some (false)) (cond (decide (m.e2.e0 > 1024)) (some (false)) (cond (decide (m.e2.e1 < (-(1024:Int)))) (some (false)) (cond (decide (m.e2.e1 > 1024)) (some (false)) (cond (decide (m.e2.e2 < (-(1024:Int)))) (some (false)) (cond (decide (m.e2.e2 > 1024)) (some (false)) (some (true))))))))))))))))))))
theorem abT (m:eU):rv [] [] 53 [hX m] = (Cn m).map kB:=by
 unfold Cn
 try simp only [cf]
 kernel_rfl
def XP:List KV->KR KV:=b5 PG 53 (cg kB fun vs=>Cn (dF (v9 vs 0)))
theorem aaT:bZ PG 53 XP:=ee ak.nil bu.nil fun w=>abT (dF (g0 52 (w 0)))
def Dv (v:fp):=Hy 4096 (Sl.lit [v.x,v.y,v.z])
def qT (v:fp):Option (Int):=(cond (Dv v).isSome (cond (!((Dv v).getD default)) (some (20)) (some (0))) none)
theorem aaU (v:fp):rv [(30,acT)] [] 14 [oP v] = (qT v).map (kI .i64):=by
 unfold qT
 try simp only [cf,Dv,vB]
 kernel_rfl
def Hi:List KV->KR KV:=b5 PG 14 (cg (kI .i64) fun vs=>qT (kQ (v9 vs 0)))
theorem Ga:bZ PG 14 Hi:=ee (ak.cons aeb ak.nil) bu.nil fun w=>aaU (kQ (g0 36 (w 0)))
def Dw (m:hD):=Cn m.m
def Dx (m:hD):=qT m.t
def jX (m:hD):Option (Int):=(cond (Dw m).isSome (cond (!((Dw m).getD default)) (some (20)) (cond (Dx m).isSome (some (((Dx m).getD default))) none)) none)
theorem UN (m:hD):rv [(14,Hi),(53,XP)] [] 28 [yl m] = (jX m).map (kI .i64):=by
 unfold jX
 try simp only [cf]
 kernel_rfl
def Bx:List KV->KR KV:=b5 PG 28 (cg (kI .i64) fun vs=>jX (rh (v9 vs 0)))
theorem BZ:bZ PG 28 Bx:=ee (ak.cons Ga (ak.cons aaT ak.nil)) bu.nil fun w=>UN (rh (g0 54 (w 0)))
structure oS where
 l:(Sl Int)
 t2:Bool
 last:Int
 t6:(Sl Int)
 t7:Int
 t8:Int
instance:Inhabited oS:=⟨by constructor<;>exact default⟩
def Gb (x:oS):List KV:=[dG 3 (kI .i64) x.l,.bool x.t2,.int .i64 x.last,dG 3 (kI .i64) x.t6,.int .i64 x.t7,.int .i64 x.t8]
def Gc (x:oS):List (List KV):=[]
def NS (vs:List KV) (rs:List (List KV)):oS:=⟨eF ax (v9 vs 0),eH (v9 vs 1),ax (v9 vs 2),eF ax (v9 vs 3),ax (v9 vs 4),ax (v9 vs 5)⟩
def Po:aJ:=⟨[(0,w9 (n9 3)),(2,w9 b9),(3,w9 i9),(6,w9 (n9 3)),(7,w9 i9),(8,w9 i9)],[],[]⟩
def Yb:=Cv [] [] 93 58 Po
def jv (x:oS):aX oS:=(cond (decide (x.t8 < x.t7)) (cond ((decide (0<=x.t8))&&(decide (x.t8 < (x.t6.n:Int)))) (cond (decide ((x.t6.get (Int.toNat x.t8)) < x.last)) (.out aI.ah.ret ⟨x.l,false,x.last,x.t6,x.t7,x.t8⟩) (cond (decide ((x.t6.get (Int.toNat x.t8)) > 8192)) (.out aI.ah.ret ⟨x.l,false,x.last,x.t6,x.t7,x.t8⟩) (.next ⟨x.l,x.t2,(x.t6.get (Int.toNat x.t8)),x.t6,x.t7,(aP (x.t8+1))⟩))) .fail) (.out (aI.ah.exit 0) x))
theorem UO (x:oS):Yb (Gb x) (Gc x)=aX.enc Gb Gc (jv x):=by
 unfold jv
 try simp only [aX.cJ]
 kernel_rfl
def Pp:Lp:=⟨93,58,Po,fun vs rs=>dU Gb Gc (goN jv (NS vs rs)) [aI.ah.exit 0,aI.ah.ret],false⟩
theorem Yc:Pp.Ok PG:=C8 ak.nil bu.nil (pa:=NS) UO
def Bb (l:(Sl Int)):=goN jv ⟨l,false,0,l,(l.n:Int),0⟩
def Cp (l:(Sl Int)):Option (Bool):=(cond ((Bb l).by (aI.ah.exit 0)) (some ((decide (((Bb l).st.l.n:Int)<=16)))) (cond ((Bb l).by aI.ah.ret) (some ((Bb l).st.t2)) none))
theorem abU (l:(Sl Int)):rv [] [Pp] 93 [(dG 3 (kI .i64)) l] = (Cp l).map kB:=by
 unfold Cp
 try simp only [cf]
 kernel_rfl
def XQ:List KV->KR KV:=b5 PG 93 (cg kB fun vs=>Cp ((eF ax) (v9 vs 0)))
theorem aaV:bZ PG 93 XQ:=ee ak.nil (rH Yc bu.nil) fun w=>abU ((eF ax) (g0 48 (w 0)))
def Gd (n:Node):=jX n.oz
def Ge (n:Node):=qT n.eZ
def Gf (n:Node):=Cp n.fo
def xO (n:Node):Option (Node×Bool):=(cond (n.kind==1) (some (⟨n.kind,⟨⟨⟨0,0,0⟩,⟨0,0,0⟩,⟨0,0,0⟩⟩,⟨0,0,0⟩⟩,0,⟨0,0,0⟩,⟨0,(fun i=>0)⟩,0,n.bF⟩,true)) (cond (n.kind==2) (cond (Gd n).isSome (some (⟨n.kind,n.oz,0,⟨0,0,0⟩,⟨0,(fun i=>0)⟩,0,n.bF⟩,(((Gd n).getD default)==0))) none) (cond (n.kind==3) (some (⟨n.kind,⟨⟨⟨0,0,0⟩,⟨0,0,0⟩,⟨0,0,0⟩⟩,⟨0,0,0⟩⟩,n.sh,⟨0,0,0⟩,⟨0,(fun i=>0)⟩,0,n.bF⟩,true)) (cond (n.kind==4) (cond (Ge n).isSome (cond (((Ge n).getD default)==0) (cond (Gf n).isSome (some (⟨n.kind,⟨⟨⟨0,0,0⟩,⟨0,0,0⟩,⟨0,0,0⟩⟩,⟨0,0,0⟩⟩,0,n.eZ,n.fo,0,n.bF⟩,((Gf n).getD default))) none) (some (⟨n.kind,⟨⟨⟨0,0,0⟩,⟨0,0,0⟩,⟨0,0,0⟩⟩,⟨0,0,0⟩⟩,0,n.eZ,n.fo,0,n.bF⟩,false))) none) (cond (n.kind==5) (some (⟨n.kind,⟨⟨⟨0,0,0⟩,⟨0,0,0⟩,⟨0,0,0⟩⟩,⟨0,0,0⟩⟩,0,⟨0,0,0⟩,⟨0,(fun i=>0)⟩,n.fB,n.bF⟩,true)) (some (⟨n.kind,⟨⟨⟨0,0,0⟩,⟨0,0,0⟩,⟨0,0,0⟩⟩,⟨0,0,0⟩⟩,0,⟨0,0,0⟩,⟨0,(fun i=>0)⟩,0,n.bF⟩,false)))))))
theorem Yd (n:Node):rv [(93,XQ),(14,Hi),(28,Bx)] [] 78 [rI n] = (xO n).map (fun (r:Node×Bool)=>KV.l8 [rI r.1,kB r.2]):=by
 unfold xO
 try simp only [cf]
 kernel_rfl
def Rx:List KV->KR KV:=b5 PG 78 (cg (fun (r:Node×Bool)=>KV.l8 [rI r.1,kB r.2]) fun vs=>xO (kR (v9 vs 0)))
theorem Ws:bZ PG 78 Rx:=ee (ak.cons aaV (ak.cons Ga (ak.cons BZ ak.nil))) bu.nil fun w=>Yd (kR (g0 64 (w 0)))
structure gw where
 s1:(Sl Int)
 s2:(Sl Int)
 t4:Bool
 t12:Int
 t13:Int
instance:Inhabited gw:=⟨⟨default,default,default,default,default⟩⟩
def wL (x:gw):List KV:=[dG 3 (kI .i64) x.s1,dG 3 (kI .i64) x.s2,.bool x.t4,.int .i64 x.t12,.int .i64 x.t13]
def wM (x:gw):List (List KV):=[]
def Dy (vs:List KV) (rs:List (List KV)):gw:=⟨eF ax (v9 vs 0),eF ax (v9 vs 1),eH (v9 vs 2),ax (v9 vs 3),ax (v9 vs 4)⟩
def DX:aJ:=⟨[(0,w9 (n9 3)),(1,w9 (n9 3)),(4,w9 b9),(12,w9 i9),(13,w9 i9)],[],[]⟩
def M9:=Cv [] [] 77 58 DX
def eB (x:gw):aX gw:=(cond (decide (x.t13 < x.t12)) (cond ((decide (0<=x.t13))&&(decide (x.t13 < (x.s1.n:Int)))) (cond ((decide (0<=x.t13))&&(decide (x.t13 < (x.s2.n:Int)))) (cond ((x.s1.get (Int.toNat x.t13)) != (x.s2.get (Int.toNat x.t13))) (.out aI.ah.ret ⟨x.s1,x.s2,false,x.t12,x.t13⟩) (.next ⟨x.s1,x.s2,x.t4,x.t12,(aP (x.t13+1))⟩)) .fail) .fail) (.out (aI.ah.exit 0) x))
theorem KM (x:gw):M9 (wL x) (wM x)=aX.enc wL wM (eB x):=by
 unfold eB
 try simp only [aX.cJ]
 kernel_rfl
def DY:Lp:=⟨77,58,DX,fun vs rs=>dU wL wM (goN eB (Dy vs rs)) [aI.ah.exit 0,aI.ah.ret],false⟩
theorem Na:DY.Ok PG:=C8 ak.nil bu.nil (pa:=Dy) KM
def ug (s1:(Sl Int)) (s2:(Sl Int)):=goN eB ⟨s1,s2,false,(s1.n:Int),0⟩
def oh (s1:(Sl Int)) (s2:(Sl Int)):Option (Bool):=(cond ((s1.n:Int) != (s2.n:Int)) (some (false)) (cond ((ug s1 s2).by (aI.ah.exit 0)) (some (true)) (cond ((ug s1 s2).by aI.ah.ret) (some ((ug s1 s2).st.t4)) none)))
theorem Pq (s1:(Sl Int)) (s2:(Sl Int)):rv [] [DY] 77 [(dG 3 (kI .i64)) s1,(dG 3 (kI .i64)) s2] = (oh s1 s2).map kB:=by
 unfold oh
 try simp only [cf]
 kernel_rfl
def IU:List KV->KR KV:=b5 PG 77 (cg kB fun vs=>oh ((eF ax) (v9 vs 0)) ((eF ax) (v9 vs 1)))
theorem Oc:bZ PG 77 IU:=ee ak.nil (rH Na bu.nil) fun w=>Pq ((eF ax) (g0 48 (w 0))) ((eF ax) (g0 48 (w 1)))
def IV (a:Node) (b:Node):=oh a.fo b.fo
def wN (a:Node) (b:Node):Option (Bool):=(cond (a.kind==b.kind) (cond ((a.oz.m.e0.e0==b.oz.m.e0.e0)&&((a.oz.m.e0.e1==b.oz.m.e0.e1)&&((a.oz.m.e0.e2==b.oz.m.e0.e2)&&((a.oz.m.e1.e0==b.oz.m.e1.e0)&&((a.oz.m.e1.e1==b.oz.m.e1.e1)&&((a.oz.m.e1.e2==b.oz.m.e1.e2)&&((a.oz.m.e2.e0==b.oz.m.e2.e0)&&((a.oz.m.e2.e1==b.oz.m.e2.e1)&&((a.oz.m.e2.e2==b.oz.m.e2.e2)&&((a.oz.t.x==b.oz.t.x)&&((a.oz.t.y==b.oz.t.y)&&((a.oz.t.z==b.oz.t.z)&&true)))))))))))) (cond (a.sh==b.sh) (cond ((a.eZ.x==b.eZ.x)&&((a.eZ.y==b.eZ.y)&&((a.eZ.z==b.eZ.z)&&true))) (cond (IV a b).isSome (cond ((IV a b).getD default) (cond (a.fB==b.fB) (some (((a.bF.cp.e0==b.bF.cp.e0)&&((a.bF.cp.e1==b.bF.cp.e1)&&((a.bF.cp.e2==b.bF.cp.e2)&&((a.bF.cp.e3==b.bF.cp.e3)&&((a.bF.cp.e4==b.bF.cp.e4)&&((a.bF.look.color.e0==b.bF.look.color.e0)&&((a.bF.look.color.e1==b.bF.look.color.e1)&&((a.bF.look.color.e2==b.bF.look.color.e2)&&((a.bF.look.color.e3==b.bF.look.color.e3)&&((a.bF.look.dI==b.bF.look.dI)&&((a.bF.look.oQ==b.bF.look.oQ)&&((a.bF.look.nT==b.bF.look.nT)&&((a.bF.look.ku==b.bF.look.ku)&&((a.bF.look.bin==b.bF.look.bin)&&true)))))))))))))))) (some (false))) (some (false))) none) (some (false))) (some (false))) (some (false))) (some (false)))
theorem aaW (a:Node) (b:Node):rv [(77,IU)] [] 47 [rI a,rI b] = (wN a b).map kB:=by
 unfold wN
 try simp only [cf]
 kernel_rfl
def zT:List KV->KR KV:=b5 PG 47 (cg kB fun vs=>wN (kR (v9 vs 0)) (kR (v9 vs 1)))
theorem xy:bZ PG 47 zT:=ee (ak.cons Oc ak.nil) bu.nil fun w=>aaW (kR (g0 64 (w 0))) (kR (g0 64 (w 1)))
def u7 (s:aC) (n:Node):=xO n
def Ao (s:aC) (n:Node):=wN ((u7 s n).getD default).fst n
def Ap (s:aC) (n:Node):=qq n.bF
def uh (s:aC) (n:Node):Option (Int):=(cond (n.bF.cp.e1 != 0) (cond (decide (n.bF.look.dI >= (s.j6.n:Int))) (some (8)) (some (0))) (some (0)))
def o6 (s:aC) (n:Node):Option (Int):=(cond (u7 s n).isSome (cond (!((u7 s n).getD default).snd) (some (8)) (cond (Ao s n).isSome (cond (!((Ao s n).getD default)) (some (8)) (cond (Ap s n).isSome (cond (((Ap s n).getD default) != 0) (some (8)) (cond (n.kind==5) (cond (decide (n.fB < 0)) (some (8)) (cond (decide (n.fB >= (s.eO.n:Int))) (some (8))
      (uh s n)))
     (uh s n))) none)) none)) none)
theorem QT (s:aC) (n:Node):rv [(60,Bs),(47,zT),(78,Rx)] [] 48 [kC s,rI n] = (o6 s n).map (kI .i64):=by
 unfold o6 uh
 try simp only [cf]
 kernel_rfl
def ui:List KV->KR KV:=b5 PG 48 (cg (kI .i64) fun vs=>o6 (eP (v9 vs 0)) (kR (v9 vs 1)))
theorem uj:bZ PG 48 ui:=ee (ak.cons BU (ak.cons xy (ak.cons Ws ak.nil))) bu.nil fun w=>QT (eP (g0 34 (w 0))) (kR (g0 64 (w 1)))
end
end Go.Proofs.Ytckbdndhmcoihaa.b
end
