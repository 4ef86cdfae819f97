/- Part of the proof of PathsWhole: the machine, shown to be the model's, and plain models. No conditions. -/
import Derived.Test.YtckbdndhmcoihaaGreatBq
import Derived.Laws.IdiomStrings
import Derived.OrdersIn
set_option linter.unusedSimpArgs false
set_option linter.unusedVariables false
section
namespace Go.aA
open Go
section
variable {P:Program} {o:Oper}
theorem YU {l:List UInt8} : ∀ {cs:List Value},CW cs=some l->cs=jn l:=by
 intro cs
 induction cs generalizing l with
 | nil=>intro h; simp [CW] at h; subst h; rfl
 | cons c cs ih=>
  intro h;cases c with
  | int k n=>
   cases k <;> cases n <;> simp only [CW] at h <;> try (simp at h; done)
   rename_i m;cases hb:Nat.blt m 256 with
   | false=>rw [hb] at h; simp at h
   | true=>
    rw [hb,ah] at h;obtain ⟨r,hr,rfl⟩:=aU.1 h;rw [b8] at hb;rw [ih hr];simp only [jn,List.map_cons,List.cons.injEq,and_true];have:(UInt8.ofNat m).toNat=m:=by simp; omega
    rw [this];rfl
  | _=>simp [CW] at h
theorem WI {ρ:Ren} (l:List UInt8):cD ρ (jn l) (jn l):=by
 induction l with
 | nil=>exact .nil
 | cons x l ih=>exact .cons (by simp [VR]) ih
theorem Ii:∀ (l:List UInt8),nL (jn l)=true
 | []=>rfl
 | x::l=>by show (true&&nL (jn l))=true; rw [Ii l]; rfl
theorem T3 {e:TypeId} (h:isByte P e=true):P.underlying e=some (.int .u8):=by
 unfold isByte at h;split at h
 ·rename_i h'; exact h'
 ·simp at h
theorem SP {ρ:Ren} {A:St} {base:Nat} {w:World} {cs b5:List Value} {c:Array Value} {n aF f:Nat} {fr:Nat×Nat} (T:TypeId) (Qd:n=1) (hs:iv ρ A base w) (hc:cD ρ cs b5) (h1:∀ v∈cs,scalar v=true)
  (Lf:∀ (j:Nat) (v:Value),b5[j]? = some v->c[j]? = some v) (cS:cs.length<=c.size) (x8:c.size<=fr.1) :
  cq base ρ A w (ρ.set A.next ⟨w.heap.size,0,c.size,n⟩) (A.grow aF f cs n) (w.alloc (.cells c T fr)):=by
 refine x9 (o:=.row cs n true (some (aF,f))) hs (fun x=>ET _ _ _ _ _ _) (fun g x h=>?_) (fun g f' h=>?_) (by simp [St.grow]) (by simp [St.grow]) (fun x hx _=>by rw [ET,ae (by omega)]) rfl ?_
 ·rw [ub]; split
  ·rename_i e; subst e; simp [h]
  ·exact h
 ·simp [aY.hO] at h; rw [ub,h.1]; simp
 ·refine ⟨fun i v hi=>?_,fun h=>by simp at h,fun _=>hs.size,fun _ j hj=>?_,by simpa using cS,fun _ h=>by simp at h,rfl,by simp,fun _ h=>absurd Qd h⟩
  ·obtain ⟨v',h2,h3⟩:=hc.get hi
   refine ⟨v',?_,h3.mono (hs.uy _),h1 v (eW hi)⟩;rw [bF,World.cell?_alloc_mark];exact Lf i v' h2
  ·simp only at hj ⊢
   rw [World.cell?_alloc_mark];refine ⟨?_,?_⟩
   ·rw [Array.getElem?_eq_getElem (by omega)]
    rfl
   ·have:(w.alloc (.cells c T fr)).heap[w.heap.size]? = some (.cells c T fr):=by
     show (w.heap.push (.cells c T fr))[w.heap.size]? = _;simp
    simp only [World.frozen?,this];have N8 : ¬ (fr.1<=j):=by omega
    simp [N8]
theorem Qj {ρ:Ren} {A:St} {base:Nat} {w:World} {src dst e:TypeId} {x x' v:Value} (hs:Rel ρ A.get A.members base w) (h1:P.underlying src=some (.slice e)) (h2:P.underlying dst=some .string) (he:P.underlying e=some (.int .u8))
  (hx:VR ρ x x') (h:BB A [x] = some v):VR ρ v v/\(convert src dst x').run P w = .ok v w:=by
 unfold BB at h;split at h
 ·rename_i n c e1
  simp at e1; subst e1;simp at h; subst h;have:=hx.ff;subst this;refine ⟨VR.of_flat rfl,?_⟩;rw [run_convert_bytes_string w src dst e none n c h1 he h2];rfl
 ·rename_i a n c e1
  simp at e1; subst e1;obtain ⟨l,hl,rfl⟩:=aU.1 h;obtain ⟨cs,AJ,hb⟩:=aO.1 hl;have:=YU hb;subst this;obtain ⟨ua,AK,lc,a',c',iZ,ri,BF,jI,rfl⟩:=hx.iG;obtain ⟨b5,q1,q2,q3,q4⟩:=sM (P:=P) hs AJ iZ;have aid:b5=jn l:=q1.jZ (Ii l);subst aid;have hlen:l.length=n:=by simpa [jn] using q2
  refine ⟨VR.of_flat rfl,?_⟩;rw [run_convert_bytes_string w src dst e (some a') n c' h1 he h2];have zO:(loadCells a' n).run P w = .ok (jn l).toArray w:=by
   by_cases hc:c' = 0
   ·have WH:n=0:=by omega
    subst WH;have:l = []:=List.eq_nil_of_length_eq_zero hlen;subst this;exact run_loadCells_list w a' [] (by simp)
   ·rw [BF hc]; exact q4
  have qg:jn l=(l.map (fun b=>(b.toNat:Int))).map (Value.int .u8):=by simp [jn]
  rw [qg] at zO;rw [run_bytesToString w a' n c' _ zO,foldl_push_byteCells];have he0:ByteArray.empty.data = #[]:=rfl;rw [he0];simp
 ·simp at h
theorem Qk {ρ:Ren} {A B:St} {base:Nat} {w:World} {src dst e:TypeId} {x x' v:Value} (hs:iv ρ A base w) (h1:P.underlying src=some .string) (h2:P.underlying dst=some (.slice e)) (he:P.underlying e=some (.int .u8))
  (hx:VR ρ x x') (h:FX A [x] = some (v,B)):∃ ak v' w',(convert src dst x').run P w = .ok v' w'/\VR ak v v'/\cq base ρ A w ak B w':=by
 unfold FX at h;split at h
 ·rename_i s e1
  simp at e1; subst e1;simp at h;obtain ⟨rfl,rfl⟩:=h;have:=hx.nb;subst this;have hr:=run_bytes_of_string (P:=P) w src dst e s h1 h2 he;have Md:=grownCap_ge w s.size 0 e;have hds:s.data.size=s.size:=rfl;have zN:(bytesRow s (grownCap w s.size 0 e)).size=grownCap w s.size 0 e:=by
   unfold bytesRow;simp [hds];omega
  have SN:=cq.drew (w:=w) hs;have ze:=SP (w:=w.drew) (n:=1) (aF:=A.next) (f:=0) (c:=bytesRow s (grownCap w s.size 0 e)) (fr:=((bytesRow s (grownCap w s.size 0 e)).size,(bytesRow s (grownCap w s.size 0 e)).size+1)) e rfl SN.dI
   (WI s.data.toList) (fun v hv=>by
    obtain ⟨b,_,rfl⟩:=ur.1 hv;rfl) (fun j v hj=>by
    unfold bytesRow;have aI:j < s.data.size:=by
     have:=(cp.1 hj).1;simpa [jn] using this
    rw [Array.getElem?_append_left (by simpa using aI)];simpa [jn] using hj) (by rw [zN]; simp [jn,hds]; exact Md) (ao _)
  refine ⟨_,_,_,hr,?_,SN.trans ze⟩;simp only [VR];refine ⟨trivial,ao _,_,⟨w.heap.size,0,none⟩,grownCap w s.size 0 e,Ren.dj _ _ _,Md,fun _=>rfl,?_,rfl⟩;rw [zN];show 0+0+grownCap w s.size 0 e * 1<=grownCap w s.size 0 e;omega
 ·simp at h
theorem aie {src dst:TypeId} {x:Operand} (ho:o.op = .convert src dst x):fv P o (y6 P src dst x):=by
 unfold y6;split
 ·rename_i e h1 h2
  cases hb:isByte P e with
  | false=>exact True.intro
  | true=>
   rw [ah];intro ρ A base w ev ck v hs he hf;obtain ⟨h3,h4⟩:=Qj hs h1 h2 (T3 hb) (he x (by simp)) hf;exact ⟨v,h3,by simp [execOp,ho,h4]⟩
 ·rename_i e h1 h2
  cases hb:isByte P e with
  | false=>exact True.intro
  | true=>
   rw [ah];intro ρ A B base w ev ck v hs he hf;obtain ⟨ak,v',w',h3,h4,h5⟩:=Qk hs h1 h2 (T3 hb) (he x (by simp)) hf;exact ⟨ak,v',.value v',w',by simp [execOp,ho,h3],rfl,h4,h5⟩
 ·rename_i h1 h2
  intro ρ ev ck v he hf;simp only [List.map] at hf;unfold TG at hf;split at hf
  ·rename_i s e
   simp at e hf;subst hf;have hx:=he x (by simp);rw [e] at hx;refine ⟨_,VR.of_flat rfl,fun w=>?_⟩;simp [execOp,ho,convert,aV h1,aV h2,hx.nb]
  ·simp at hf
 ·exact aaT ho
theorem WJ {ρ:Ren} {A:St} {base:Nat} {w:World} {r:Nat} {s:List UInt8} {pos N9:Nat} {l:Loc} (hs:iv ρ A base w) (hg:A.get r=some (.iter s pos)) (iZ:ρ r=some l) :
  cq base ρ A w ρ (A.put r (.iter s N9)) { w with heap:=w.heap.setIfInBounds l.cb (.stringIter ⟨⟨s⟩⟩ N9) }:=by
 obtain ⟨l',iL,ok⟩:=hs.rel.iter _ _ _ hg;rw [iZ] at iL; simp at iL; subst iL;obtain ⟨Hg,lN⟩:=ok.gF;have aI:l.cb < w.heap.size:=(jh.1 lN).1;have wz:aY.ct (.iter s pos)=true:=rfl;have hold:∀ k,k≠l.cb->(w.heap.setIfInBounds l.cb (.stringIter ⟨⟨s⟩⟩ N9))[k]? = w.heap[k]?:=fun k hk=>by
  rw [Array.getElem?_setIfInBounds_ne (Ne.symm hk)]
 have cS:(w.heap.setIfInBounds l.cb (.stringIter ⟨⟨s⟩⟩ N9)).size=w.heap.size:=by simp
 have hB:∀ x,(A.put r (.iter s N9)).get x=if x=r then some (.iter s N9) else A.get x:=fun x=>St.b6 _ _ _ _;have hmd:∀ o:aY,o.ct=true->o≠.dead:=by intro o h e; subst e; simp [aY.ct] at h
 have C0:∀ x o l2,x≠r->A.get x=some o->o≠.dead->ρ x=some l2->o9 ρ base w l2 o->l2.cb≠l.cb:=by
  intro x o l2 hx eV hd pR fP e;cases Ig:o.ct with
  | true=>
   obtain ⟨_,_,_,_,e1,_⟩:=hs.rel.apart x r o _ l2 l hx eV hg Ig wz pR iZ e;simp [aY.hO] at e1
  | false=>
   cases o with
   | row cs aQ own aZ=>
    have fP:lL ρ base w l2 cs aQ own aZ:=fP;have h1:own=false:=Ig;have:=fP.nu h1;have:=ok.ct;omega
   | map _=>simp [aY.ct] at Ig
   | iter _ _=>simp [aY.ct] at Ig
   | dead=>exact hd rfl
   | loop _ _ _ _ _ _=>simp [aY.ct] at Ig
 refine ⟨⟨.qe ?_ ?_ ?_,fun b l2 h=>hs.fZ b l2 h,by simpa using hs.size,hs.lK⟩,fun _ _=>rfl,⟨rfl,rfl,rfl,Nat.le_of_eq cS.symm,fun k hk hn=>hold k (fun e=>hn ⟨r,_,l,hg,wz,iZ,e.symm⟩)⟩,ao _,Nat.min_le_left _ _,fun x hx hxl=>?_,?_⟩
 ·intro x o eV hd
  rw [hB] at eV;split at eV
  ·rename_i e; subst e; simp at eV; subst eV
   refine ⟨l,iZ,ok.ct,Hg,?_⟩;show (w.heap.setIfInBounds l.cb (.stringIter ⟨⟨s⟩⟩ N9))[l.cb]? = _;rw [Array.getElem?_setIfInBounds_self_of_lt aI]
  ·rename_i e
   obtain ⟨l2,pR,fP⟩:=hs.rel.obj eV hd;exact ⟨l2,pR,fP.di (Ren.le_refl _) (hold _ (C0 x o l2 e eV hd pR fP)) (Nat.le_of_eq cS.symm)⟩
 ·have DJ:∀ x o,(A.put r (.iter s N9)).get x=some o->o.ct=true->∃ o',A.get x=some o'/\o'.ct=true/\o'.hO=o.hO:=by
   intro x o hx hm;rw [hB] at hx;split at hx
   ·rename_i e; subst e; simp at hx; subst hx; exact ⟨_,hg,rfl,rfl⟩
   ·exact ⟨o,hx,hm,rfl⟩
  intro b1 b2 o1 o2 l1 l2 bA g1 g2 m1 m2 r1 r2 vW;obtain ⟨p1,q1,n1,k1⟩:=DJ _ _ g1 m1;obtain ⟨p2,q2,n2,k2⟩:=DJ _ _ g2 m2;rw [<- k1,<- k2];exact hs.rel.apart b1 b2 p1 p2 l1 l2 bA q1 q2 n1 n2 r1 r2 vW
 ·intro x o aF f eV hk
  rw [hB] at eV;split at eV
  ·rename_i e; subst e; simp at eV; subst eV; simp [aY.hO] at hk
  ·exact hs.rel.aX x o aF f eV hk
 ·rw [St.NS] at hxl
  have:Nat.min A.low r<=r:=Nat.min_le_right _ _;rw [hB,ae (by omega)]
 ·rintro k hk ⟨x,o,l2,eV,hm,pR,rfl⟩
  rw [hB] at eV;split at eV
  ·rename_i e; subst e
   rw [iZ] at pR; simp at pR; subst pR;exact ⟨x,_,l,hg,wz,iZ,rfl⟩
  ·exact ⟨x,o,l2,eV,hm,pR,rfl⟩
theorem agJ {t:TypeId} {x:Operand} (ho:o.op = .range t x):fv P o (P3 P t x):=by
 unfold P3;split
 ·rename_i hu
  intro ρ ev ck obj mk he hf;simp only [List.map] at hf;unfold aeI at hf;split at hf
  ·rename_i s e
   simp at e;have hx:=he x (by simp);rw [e] at hx;have hx:=hx.nb;simp at hf;obtain ⟨rfl,rfl⟩:=hf;refine ⟨.stringIter s 0,fun n=>.pointer (some ⟨n,0,none⟩),?_,fun w=>?_,fun ak n cb h=>VR.wx (a:=⟨n,0,none⟩) rfl h⟩
   ·show Obj.stringIter s 0 = .stringIter ⟨⟨s.data.toList⟩⟩ 0
    rfl
   ·simp [execOp,ho,Instr.range,aV hu,hx]
  ·simp at hf
 ·trivial
theorem EW {w:World} {r:Nat} {s:ByteArray} {pos:Nat} (hb:w.heap[r]? = some (.stringIter s pos)):(getObj r).run P w = .ok (.stringIter s pos) w:=by
 simp [getObj,Sem.run,hb]
theorem Ql {w:World} {r:Nat} {s:ByteArray} {pos:Nat} (o:Obj) (hb:w.heap[r]? = some (.stringIter s pos)):(setObj r o).run P w = .ok () { w with heap:=w.heap.setIfInBounds r o }:=by
 simp [setObj,Sem.run,hb]
theorem aif {it:Operand} {b:Bool} (ho:o.op = .next it b):fv P o (cond b (.act ac1 [it]) .bad):=by
 cases b with
 | false=>trivial
 | true=>
  rw [ah];intro ρ A B base w ev ck v hs he hf;simp only [List.map] at hf;unfold ac1 at hf;split at hf
  ·rename_i a e
   simp at e;have hx:=he it (by simp);rw [e] at hx;obtain ⟨ua,l,hl,hx⟩:=hx.gh;cases ha0:Nat.beq a.off 0 with
   | false=>rw [ha0] at hf; simp at hf
   | true=>
    rw [ha0,ah] at hf;have ha0:=aE ha0;split at hf
    ·rename_i s pos hg
     obtain ⟨l2,iM,ok⟩:=hs.rel.iter _ _ _ hg;rw [hl] at iM; simp at iM; subst iM;obtain ⟨Hg,lN⟩:=ok.gF;have cS:(⟨⟨s⟩⟩:ByteArray).size=s.length:=rfl;rw [Hg,ha0] at hx;cases aI:Nat.blt pos s.length with
     | true=>
      rw [aI,ah] at hf;rw [b8] at aI;split at hf;rename_i c width amR;simp at hf;obtain ⟨rfl,rfl⟩:=hf;refine ⟨ρ,.tuple #[.bool true,.int .i64 (Int.ofNat pos),.int .i32 c],.value _,_,?_,rfl,VR.of_flat rfl,WJ (N9:=pos+width) hs hg hl⟩;simp [execOp,ho,Instr.next,hx,EW lN,cS,aI,amR,Ql _ lN,goInt]
     | false=>
      rw [aI,ay] at hf;have Md : ¬ pos < s.length:=fun h=>by rw [<- b8] at h; rw [h] at aI; simp at aI
      simp at hf;obtain ⟨rfl,rfl⟩:=hf;refine ⟨ρ,.tuple #[.bool false],.value _,w,?_,rfl,VR.of_flat rfl,.refl hs⟩;simp [execOp,ho,Instr.next,hx,EW lN,cS,Md]
    ·simp at hf
  ·simp at hf
theorem nf (P:Program) (o:Oper):fv P o (compile P o.op):=by
 cases ho:o.op with
 | move x=>exact ah6 ho
 | assign x=>exact adk ho
 | pick c a b=>exact ah7 ho
 | alloc t=>exact agz ho
 | box t x=>exact akf ho
 | build t parts=>exact agE ho
 | buildSlice t len parts=>exact TX ho
 | load t a=>exact ah8 ho
 | store t a x=>exact agA ho
 | nilCheck x=>exact YN ho
 | binOp op t x y yt=>exact akg ho
 | unOp op t x=>exact alZ ho
 | convert src dst x=>exact aie ho
 | makeFunc fn first cap=>exact YO ho
 | fieldAddr s x f=>exact WB ho
 | field t x f=>exact agB ho
 | indexAddr t x ix=>exact WC ho
 | index t x ix=>exact agC ho
 | extract t i=>exact aaU ho
 | slice t x lo hi mx=>exact ok_slice ho
 | makeSlice t l c=>exact WG ho
 | makeInterface t x=>exact agG ho
 | range t x=>exact agJ ho
 | next it b=>exact aif ho
 | makeMap t r=>exact aaW ho
 | lookup t x ix ok=>exact adq ho
 | mapUpdate t m k x=>exact Lg (.inl ho)
 | insert t m k x=>exact Lg (.inr ho)
 | call c=>
  show fv P o (tV P c);unfold tV;split
  ·rename_i f hf; exact aia ho hf
  ·rename_i b hb
   obtain ⟨callee,args,argTypes⟩:=c;simp only at hb;subst hb;unfold y7;split
   ·exact akj ho
   ·exact akh ho
   ·exact aki ho
   ·exact adp ho
   ·exact aic ho
   ·exact adr ho
   ·exact agI ho
   ·trivial
  ·trivial
 | _=>trivial
end
end Go.aA
end
section
namespace Go.aA
noncomputable section
open Go
abbrev Fr (r:Option Nat):Fence:={ Fence.wide with round:=r }
mutual
theorem Qm:∀ {v w:Value},mP v w=true->v=w
 | .bool a,w,h=>by cases w <;> simp_all [mP]
 | .int k a,w,h=>by cases w <;> simp_all [mP]
 | .float k a,w,h=>by cases w <;> simp_all [mP]
 | .complex k a b,w,h=>by cases w <;> simp_all [mP]
 | .string a,w,h=>by
  cases w with
  | string b=>
   simp only [mP,jR] at h;obtain ⟨⟨a⟩⟩:=a;obtain ⟨⟨b⟩⟩:=b
   simp_all
  | _=>simp [mP] at h
 | .pointer a,w,h=>by cases w <;> simp_all [mP]
 | .slice a n c,w,h=>by cases w <;> simp_all [mP]
 | .map a,w,h=>by cases w <;> simp_all [mP]
 | .chan a,w,h=>by cases w <;> simp [mP] at h
 | .func fn f c,w,h=>by
  cases w with
  | func gn g d=>
   simp only [mP,aj,jR] at h;rw [h.1.1,JY h.1.2,JY h.2]
  | _=>simp [mP] at h
 | .nilFunc,w,h=>by cases w <;> simp_all [mP]
 | .iface t v,w,h=>by
  cases w with
  | iface u x=>
   simp only [mP,aj,rB] at h;rw [h.1,Qm h.2]
  | _=>simp [mP] at h
 | .nilIface,w,h=>by cases w <;> simp_all [mP]
 | .agg a,w,h=>by
  cases w with
  | agg b=>simp only [mP] at h; rw [JY h]
  | _=>simp [mP] at h
 | .tuple a,w,h=>by
  cases w with
  | tuple b=>simp only [mP] at h; rw [JY h]
  | _=>simp [mP] at h
theorem JY:∀ {v w:Array Value},P6 v w=true->v=w
 | ⟨l⟩,⟨m⟩,h=>by simp only [P6] at h; rw [XB h]
theorem XB:∀ {v w:List Value},P7 v w=true->v=w
 | [],w,h=>by cases w <;> simp_all [P7]
 | x::l,w,h=>by
  cases w with
  | nil=>simp [P7] at h
  | cons y m=>
   simp only [P7,aj] at h;rw [Qm h.1,XB h.2]
end
def Ren.res (ρ:Ren) (n:Nat):Ren:=fun b=>if b < n then ρ b else none
theorem Ren.YV (ρ:Ren) (n:Nat):(ρ.res n).le ρ:=fun b l h=>by unfold Ren.res at h; split at h <;> simp_all
theorem Ren.sQ (ρ:Ren) {n m:Nat} (h:n<=m):(ρ.res n).le (ρ.res m):=fun b l e=>by
 unfold Ren.res at e ⊢;split at e
 ·rw [ax (by omega)]; exact e
 ·simp at e
theorem Ren.zg {ρ ak:Ren} (h:ρ.le ak) (n:Nat):(ρ.res n).le (ak.res n):=fun b l e=>by
 unfold Ren.res at e ⊢;split at e
 ·rename_i hb; rw [ax hb]; exact h _ _ e
 ·simp at e
theorem Ren.Oa {ρ:Ren} {n b:Nat} {l:Loc} (h:ρ.res n b=some l):b < n/\ρ b=some l:=by
 unfold Ren.res at h;split at h
 ·exact ⟨‹_›,h⟩
 ·simp at h
theorem Ren.uB {ρ:Ren} {n b:Nat} (h:b < n):ρ.res n b=ρ b:=by unfold Ren.res; rw [ax h]
theorem L6.under {ρ:Ren} {n:Nat} {fn tY:Fn} (hu:YB n fn=true) (h:L6 ρ fn tY):L6 (ρ.res n) fn tY:=by
 cases fn with
 | yield r=>
  obtain ⟨l,h1,h2⟩:=h;simp only [YB] at hu;rw [b8] at hu;exact ⟨l,by rw [Ren.uB hu]; exact h1,h2⟩
 | _=>exact h
mutual
theorem VR.under {ρ:Ren} {n:Nat} : ∀ {v v' : Value},aA.under n v=true->VR ρ v v'->VR (ρ.res n) v v'
 | .bool b,v,_,hv=>by simpa [VR] using hv
 | .int k n,v,_,hv=>by simpa [VR] using hv
 | .float k x,v,_,hv=>by simpa [VR] using hv
 | .complex k x y,v,_,hv=>by simpa [VR] using hv
 | .string s,v,_,hv=>by simpa [VR] using hv
 | .pointer none,v,_,hv=>by simpa [VR] using hv
 | .pointer (some a),v,hu,hv=>by
  simp only [aA.under] at hu;rw [b8] at hu;simp only [VR] at hv ⊢;rw [Ren.uB hu];exact hv
 | .slice none n c,v,_,hv=>by simpa [VR] using hv
 | .slice (some a) n c,v,hu,hv=>by
  simp only [aA.under] at hu;rw [b8] at hu;simp only [VR] at hv ⊢;rw [Ren.uB hu];exact hv
 | .map none,v,_,hv=>by simpa [VR] using hv
 | .map (some r),v,hu,hv=>by
  simp only [aA.under] at hu;rw [b8] at hu;simp only [VR] at hv ⊢;rw [Ren.uB hu];exact hv
 | .chan _,_,_,_=>by simp [VR]
 | .func fn f c,v,hu,hv=>by
  simp only [aA.under,aj] at hu;simp only [VR] at hv ⊢;obtain ⟨f',c',h2,h3,tY,h4,h5⟩:=hv;exact ⟨f',c',oh.under hu.1.2 h2,oh.under hu.2 h3,tY,L6.under hu.1.1 h4,h5⟩
 | .nilFunc,v,_,hv=>by simpa [VR] using hv
 | .iface t x,v,hu,hv=>by
  simp only [aA.under] at hu;simp only [VR] at hv ⊢;obtain ⟨x',h2,h3⟩:=hv;exact ⟨x',VR.under hu h2,h3⟩
 | .nilIface,v,_,hv=>by simpa [VR] using hv
 | .agg cs,v,hu,hv=>by
  simp only [aA.under] at hu;simp only [VR] at hv ⊢;obtain ⟨x',h2,h3⟩:=hv;exact ⟨x',oh.under hu h2,h3⟩
 | .tuple cs,v,hu,hv=>by
  simp only [aA.under] at hu;simp only [VR] at hv ⊢;obtain ⟨x',h2,h3⟩:=hv;exact ⟨x',oh.under hu h2,h3⟩
theorem oh.under {ρ:Ren} {n:Nat} : ∀ {v v' : Array Value},aA.JS n v=true->oh ρ v v'->oh (ρ.res n) v v'
 | ⟨l⟩,a,hu,hv=>by simp only [aA.JS] at hu; simp only [oh] at hv ⊢; exact cD.under hu hv
theorem cD.under {ρ:Ren} {n:Nat} : ∀ {v v' : List Value},aA.Tb n v=true->cD ρ v v'->cD (ρ.res n) v v'
 | [],l,_,hv=>by simpa [cD] using hv
 | x::xs,l,hu,hv=>by
  simp only [aA.Tb,aj] at hu;simp only [cD] at hv ⊢;obtain ⟨y,ys,e,h1,h2⟩:=hv;exact ⟨y,ys,e,VR.under hu.1 h1,cD.under hu.2 h2⟩
end
theorem Gc {acc:List Nat} {j:Nat} : ∀ {es:List Edge},Nat.testBit (jx acc es) j=true->∃ e∈es,binds e=true/\(j=e.on\/eY acc e.on j=true)
 | [],h=>by simp [jx] at h
 | e::es,h=>by
  simp only [jx] at h;cases hb:binds e with
  | false=>
   rw [hb,ay] at h;obtain ⟨e',h1,h2⟩:=Gc h;exact ⟨e',by simp [h1],h2⟩
  | true=>
   rw [hb,ah] at h;have e1:∀ a b:Nat,Nat.lor a b=a ||| b:=fun _ _=>rfl;have e2:Nat.shiftLeft 1 e.on=1 <<< e.on:=rfl;rw [e1,e1,e2,Nat.testBit_or,Nat.testBit_or,oa,oa] at h;rcases h with (h | h) | h
   ·refine ⟨e,by simp,hb,.inl ?_⟩
    rw [Nat.one_shiftLeft,Nat.testBit_two_pow] at h;exact (JN h).symm
   ·exact ⟨e,by simp,hb,.inr h⟩
   ·obtain ⟨e',h1,h2⟩:=Gc h
    exact ⟨e',by simp [h1],h2⟩
theorem C5:∀ (os:List Oper) (acc:List Nat),∃ r,aC acc os=acc++r/\r.length=os.length
 | [],acc=>⟨[],by simp [aC]⟩
 | o::os,acc=>by
  obtain ⟨r,h1,h2⟩:=C5 os (acc++[jx acc o.after.toList]);exact ⟨jx acc o.after.toList::r,by simp [aC,h1],by simp [h2]⟩
theorem JZ:∀ (os:List Oper) (acc:List Nat) (i j:Nat) (o:Oper),os[i]? = some o->(∀ e∈o.after.toList,binds e=true->e.on < acc.length+i)->
  eY (aC acc os) (acc.length+i) j=true->∃ e∈o.after.toList,binds e=true/\(j=e.on\/eY (aC acc os) e.on j=true)
 | [],acc,i,j,o,ho,_,_=>by simp at ho
 | o0::os,acc,0,j,o,ho,hf,h=>by
  simp at ho;subst ho;obtain ⟨r,h1,_⟩:=C5 os (acc++[jx acc o0.after.toList]);have e0:aC acc (o0::os)=acc++[jx acc o0.after.toList]++r:=by simp only [aC]; exact h1
  rw [e0] at h ⊢;have e1:(acc++[jx acc o0.after.toList]++r).getD (acc.length+0) 0=jx acc o0.after.toList:=by simp [List.getD]
  unfold eY at h;rw [e1] at h;obtain ⟨e,h2,h3,h4⟩:=Gc h;refine ⟨e,h2,h3,h4.imp id fun h5=>?_⟩;have aI:=hf e h2 h3;unfold eY at h5 ⊢;have:(acc++[jx acc o0.after.toList]++r).getD e.on 0=acc.getD e.on 0:=by
   simp only [List.getD,JO];rw [mL (by simpa using aI)]
  rw [this];exact h5
 | o0::os,acc,i+1,j,o,ho,hf,h=>by
  have hlen:(acc++[jx acc o0.after.toList]).length+i=acc.length+(i+1):=by simp; omega
  have:=JZ os (acc++[jx acc o0.after.toList]) i j o (by simpa using ho) (by rw [hlen]; exact hf) (by rw [hlen]; exact h);simpa only [aC] using this
theorem Ob {acc:List Nat} {e:Edge} : ∀ {es:List Edge},e∈es->binds e=true->Nat.testBit (jx acc es) e.on=true/\∀ k,eY acc e.on k=true->Nat.testBit (jx acc es) k=true
 | [],h,_=>by simp at h
 | x::es,h,hb=>by
  have e1:∀ a b:Nat,Nat.lor a b=a ||| b:=fun _ _=>rfl;have e2:∀ n,Nat.shiftLeft 1 n=1 <<< n:=fun _=>rfl;simp only [jx];rcases bd.1 h with rfl | h
  ·rw [hb,ah]
   simp only [e1,e2,Nat.testBit_or,oa];refine ⟨.inl (.inl ?_),fun k hk=>.inl (.inr hk)⟩;rw [Nat.one_shiftLeft,Nat.testBit_two_pow];simp
  ·obtain ⟨h1,h2⟩:=Ob h hb
   cases hx:binds x with
   | false=>rw [ay]; exact ⟨h1,h2⟩
   | true=>
    rw [ah];simp only [e1,e2,Nat.testBit_or,oa];exact ⟨.inr h1,fun k hk=>.inr (h2 k hk)⟩
theorem XC:∀ (os:List Oper) (acc:List Nat) (i:Nat) (o:Oper),os[i]? = some o->∀ e∈o.after.toList,binds e=true->e.on < acc.length+i->
  eY (aC acc os) (acc.length+i) e.on=true/\∀ k,eY (aC acc os) e.on k=true->eY (aC acc os) (acc.length+i) k=true
 | [],acc,i,o,ho,_,_,_,_=>by simp at ho
 | o0::os,acc,0,o,ho,e,he,hb,aI=>by
  simp at ho;subst ho;obtain ⟨r,h1,_⟩:=C5 os (acc++[jx acc o0.after.toList]);have e0:aC acc (o0::os)=acc++[jx acc o0.after.toList]++r:=by simp only [aC]; exact h1
  rw [e0];have e1:(acc++[jx acc o0.after.toList]++r).getD (acc.length+0) 0=jx acc o0.after.toList:=by simp [List.getD]
  have e2:(acc++[jx acc o0.after.toList]++r).getD e.on 0=acc.getD e.on 0:=by
   simp only [List.getD,JO];rw [mL (by simpa using aI)]
  obtain ⟨h2,h3⟩:=Ob (acc:=acc) he hb;unfold eY;rw [e1,e2];exact ⟨h2,fun k hk=>h3 k hk⟩
 | o0::os,acc,i+1,o,ho,e,he,hb,aI=>by
  have hlen:(acc++[jx acc o0.after.toList]).length+i=acc.length+(i+1):=by simp; omega
  have:=XC os (acc++[jx acc o0.after.toList]) i o (by simpa using ho) e he hb (by rw [hlen]; exact aI);rw [hlen] at this;simpa only [aC] using this
structure iR (P:Program) (all:List Oper):Prop where
 back:∀ i o,all[i]? = some o->∀ e∈o.after.toList,binds e=true->e.on < i
 apart:∀ i j x y,all[i]? = some y->all[j]? = some x->j < i->xX P all x y=true->eY (aC [] all) i j=true
theorem Lh {P:Program} {all:List Oper} {b:List Nat} {i:Nat} {y:Oper} : ∀ (xs:List Oper) (k:Nat),ED P all b i y xs k=true->∀ (j:Nat) (x:Oper),xs[j]? = some x->k+j < i->xX P all x y=true->eY b i (k+j)=true
 | [],k,_,j,x,hx,_,_=>by simp at hx
 | x0::xs,k,h,0,x,hx,aI,hc=>by
  simp at hx;subst hx;simp only [ED,aj,oa,iA] at h;rcases h.1 with (h1 | h1) | h1
  ·have:=cL h1; omega
  ·rw [hc] at h1; simp at h1
  ·exact h1
 | x0::xs,k,h,j+1,x,hx,aI,hc=>by
  simp only [ED,aj] at h;have:=Lh xs (k+1) h.2 j x (by simpa using hx) (by omega) hc;rwa [show k+1+j=k+(j+1) by omega] at this
theorem u7 {P:Program} {all:List Oper} {b:List Nat} : ∀ (os:List Oper) (k:Nat),tX P all b os k=true->∀ (i:Nat) (o:Oper),os[i]? = some o->
  (∀ e∈o.after.toList,binds e=true->e.on < k+i)/\ED P all b (k+i) o all 0=true
 | [],k,_,i,o,ho=>by simp at ho
 | o0::os,k,h,0,o,ho=>by
  simp at ho;subst ho;simp only [tX,aj,dS] at h;refine ⟨fun e he hb=>?_,h.1.2⟩;have:=h.1.1 e he;rw [hb] at this;simp at this;exact this
 | o0::os,k,h,i+1,o,ho=>by
  simp only [tX,aj] at h;have:=u7 os (k+1) h.2 i o (by simpa using ho);rwa [show k+1+i=k+(i+1) by omega] at this
theorem zP {P:Program} {all:List Oper} (h:sK P all=true):iR P all:=by
 unfold sK at h;refine ⟨fun i o ho=>?_,fun i j x y hy hx aI hc=>?_⟩
 ·have:=(u7 all 0 h i o ho).1
  simpa using this
 ·have:=Lh all 0 (u7 all 0 h i y hy).2 j x hx (by simpa using aI) hc
  simpa using this
theorem XD {all:List Oper} {i j:Nat} (h:all[i]? = none):eY (aC [] all) i j=false:=by
 obtain ⟨r,h1,h2⟩:=C5 all [];rw [List.nil_append] at h1;unfold eY;rw [h1];have:r[i]? = none:=by
  rw [NA] at h ⊢;omega
 simp [List.getD,this]
theorem Oc {P:Program} {all:List Oper} (hf:iR P all):∀ {i j:Nat},eY (aC [] all) i j=true->j < i:=by
 intro i
 induction i using Nat.strongRecOn with
 | _ i ih=>
  intro j h;cases ho:all[i]? with
  | none=>rw [XD ho] at h; simp at h
  | some o=>
   obtain ⟨e,h1,h2,h3⟩:=JZ all [] i j o ho (by simpa using hf.back i o ho) (by simpa using h);have aI:=hf.back i o ho e h1 h2;rcases h3 with rfl | h3
   ·exact aI
   ·have:=ih e.on aI h3; omega
theorem T4 {P:Program} {all:List Oper} (hf:iR P all):∀ {i j k:Nat},eY (aC [] all) i j=true->eY (aC [] all) j k=true->eY (aC [] all) i k=true:=by
 intro i
 induction i using Nat.strongRecOn with
 | _ i ih=>
  intro j k h hk;cases ho:all[i]? with
  | none=>rw [XD ho] at h; simp at h
  | some o=>
   obtain ⟨e,h1,h2,h3⟩:=JZ all [] i j o ho (by simpa using hf.back i o ho) (by simpa using h);have aI:=hf.back i o ho e h1 h2;have ads:=(XC all [] i o ho e h1 h2 (by simpa using aI)).2 k;simp only [FL,bF] at ads;rcases h3 with rfl | h3
   ·exact ads hk
   ·exact ads (ih e.on aI h3 hk)
def ji (all:List Oper) (S:Nat->Bool):Prop:=∀ i j,S i=true->eY (aC [] all) i j=true->S j=true
def lh (all:List Oper) (S:Nat->Bool) (i:Nat):Prop:=∀ o,all[i]? = some o->∀ e∈o.after.toList,binds e=true->S e.on=true
theorem ji.ready {P:Program} {all:List Oper} (hf:iR P all) {S:Nat->Bool} (hc:ji all S) {i:Nat} {o:Oper} (ho:all[i]? = some o) (hr:lh all S i):∀ j,eY (aC [] all) i j=true->S j=true:=by
 intro j hj;obtain ⟨e,h1,h2,h3⟩:=JZ all [] i j o ho (by simpa using hf.back i o ho) (by simpa using hj);have hs:=hr o ho e h1 h2;rcases h3 with rfl | h3
 ·exact hs
 ·exact hc _ _ hs h3
def ca (S:Nat->Bool) (i:Nat):Nat->Bool:=fun j=>S j||Nat.beq j i
theorem ji.insert {P:Program} {all:List Oper} (hf:iR P all) {S:Nat->Bool} (hc:ji all S) {i:Nat} {o:Oper} (ho:all[i]? = some o) (hr:lh all S i):ji all (ca S i):=by
 intro a b h1 h2;simp only [ca,oa] at h1 ⊢;rcases h1 with h1 | h1
 ·exact .inl (hc a b h1 h2)
 ·have:=aE h1
  subst this;exact .inl (hc.ready hf ho hr b h2)
theorem XE (e:Edge):Region.binds .any e=binds e:=by
 unfold Region.binds binds;cases e.ground <;> rfl
theorem C6 {all:List Oper} {aX:Array Bool} {i:Nat} (h:i∈Region.ready .any ⟨all⟩ aX):i < all.length/\aX.getD i true=false/\lh all (fun j=>aX.getD j false) i:=by
 unfold Region.ready at h;rw [List.mem_filter,wb] at h;obtain ⟨h1,h2⟩:=h;simp only [aj,iA] at h2;refine ⟨by simpa using h1,h2.1,fun o ho e he hb=>?_⟩;have e1:(⟨all⟩:Array Oper)[i]? = some o:=by simpa using ho
 rw [e1] at h2;simp only [Option.map_some,iD] at h2;have:=Array.all_eq_true'.1 h2.2 e (by simpa using he);rw [XE,hb] at this;simpa using this
theorem T5 {P:Program} {all:List Oper} (hf:iR P all) {aX:Array Bool} (hl:aX.size=all.length) (h:Region.ready .any ⟨all⟩ aX = []):∀ i,i < all.length->aX.getD i false=true:=by
 intro i
 induction i using Nat.strongRecOn with
 | _ i ih=>
  intro hi;cases hc:aX.getD i false with
  | true=>rfl
  | false=>
   exfalso;obtain ⟨o,ho⟩:∃ o,all[i]? = some o:=⟨_,cl hi⟩
   have hm:i∈Region.ready .any ⟨all⟩ aX:=by
    unfold Region.ready;rw [List.mem_filter,wb];refine ⟨by simpa using hi,?_⟩;have e1:(⟨all⟩:Array Oper)[i]? = some o:=by simpa using ho
    rw [e1];have e2:aX.getD i true=false:=by
     have:i < aX.size:=by omega
     simpa [dF,this] using hc
    simp only [e2,Bool.not_false,uu,Option.map_some,iD];rw [Array.all_eq_true'];intro e he;cases hb:binds e with
    | false=>rw [XE,hb]; rfl
    | true=>
     have aI:=hf.back i o ho e (by simpa using he) hb;rw [ih e.on aI (by omega)];simp
   rw [h] at hm;simp at hm
theorem count_set:∀ (l:List Bool) (i:Nat),l[i]? = some false->((l.set i true).filter (!·)).length+1=(l.filter (!·)).length
 | [],i,h=>by simp at h
 | x::l,0,h=>by
  simp at h;subst h;simp
 | x::l,i+1,h=>by
  have:=count_set l i (by simpa using h);cases x <;> simp at this ⊢ <;> omega
theorem RI {P:Program} {all:List Oper} {r:Option Nat} (hf:iR P all) {Q:Exit->Act->World->Prop} (I:(Nat->Bool)->Act->World->Prop) (hI:∀ S S' a w,(∀ i,i < all.length->S i=S' i)->I S a w->I S' a w)
  (step:∀ S a w i o,I S a w->ji all S->all[i]? = some o->S i=false->lh all S i->(∀ j,S j=true->j < all.length)->wpOpIn (Fr r) 0 P ⟨all⟩ Q i (I (ca S i)) a w)
  (fin:∀ S a w,(∀ i,i < all.length->S i=true)->I S a w->Q .normal a w) :
  ∀ (fuel:Nat) (aX:Array Bool) (a:Act) (w:World),aX.size=all.length->(aX.toList.filter (!·)).length=fuel->ji all (fun j=>aX.getD j false)->I (fun j=>aX.getD j false) a w->wpAnyIn (Fr r) 0 P .any ⟨all⟩ Q fuel aX a w
 | 0,aX,a,w,hs,hn,hc,h=>by
  have gV:∀ i,i < all.length->aX.getD i false=true:=by
   intro i hi;have:i < aX.size:=by omega
   cases hb:aX.getD i false with
   | true=>rfl
   | false=>
    exfalso;have hg:aX[i] = false:=by simpa [dF,this] using hb
    have hm:aX[i]∈aX.toList.filter (!·):=by
     rw [List.mem_filter];exact ⟨by simp,by simp [hg]⟩
    rw [lD.1 hn] at hm;simp at hm
  refine ⟨?_,fin _ a w gV h⟩;cases hr:Region.ready .any ⟨all⟩ aX with
  | nil=>rfl
  | cons i r=>
   have:=C6 (all:=all) (aX:=aX) (i:=i) (by rw [hr]; simp);have h1:=gV i this.1;have h2:aX.getD i true=true:=by
    have aI:i < aX.size:=by omega
    simpa [dF,aI] using h1
   rw [h2] at this;simp at this
 | fuel+1,aX,a,w,hs,hn,hc,h=>by
  refine ⟨fun hr=>fin _ a w (T5 hf hs hr) h,fun i hi=>?_⟩;obtain ⟨aI,hl,j5⟩:=C6 hi;obtain ⟨o,ho⟩:∃ o,all[i]? = some o:=⟨_,cl aI⟩
  have EX:i < aX.size:=by omega
  have jF:aX.getD i false=false:=by simpa [dF,EX] using hl
  have BG:∀ j,j < all.length->ca (fun j=>aX.getD j false) i j=(aX.setIfInBounds i true).getD j false:=by
   intro j hj;by_cases e:j=i
   ·subst e
    simp [ca,dF,EX]
   ·have:Nat.beq j i=false:=by
     cases hb:Nat.beq j i with
     | false=>rfl
     | true=>exact absurd (aE hb) e
    simp [ca,this,dF,Array.getElem?_setIfInBounds_ne (Ne.symm e)]
  refine wpOpIn_mono (fun a' w' h'=>?_) (step _ a w i o h hc ho jF j5 (fun j hj=>by
   rcases Nat.lt_or_ge j all.length with h1 | h1
   ·exact h1
   ·have:aX.getD j false=false:=by
     rw [dF,Array.getElem?_eq_none (by omega)];rfl
    rw [this] at hj; simp at hj))
  refine RI hf I hI step fin fuel _ a' w' (by simpa using hs) ?_ ?_ (hI _ _ a' w' BG h')
  ·rw [Array.toList_setIfInBounds]
   have:=count_set aX.toList i (by simpa [dF,EX] using jF);omega
  ·intro x y hx hy
   have hb:∀ z,(aX.setIfInBounds i true).getD z false=true↔ca (fun j=>aX.getD j false) i z=true:=by
    intro z;rcases Nat.lt_or_ge z all.length with h1 | h1
    ·rw [BG z h1]
    ·have e1:(aX.setIfInBounds i true).getD z false=false:=by
      rw [dF,Array.getElem?_eq_none (by simp; omega)];rfl
     have e2:aX.getD z false=false:=by
      rw [dF,Array.getElem?_eq_none (by omega)];rfl
     have e3:Nat.beq z i=false:=by
      cases hb:Nat.beq z i with
      | false=>rfl
      | true=>have:=aE hb; omega
     simp [ca,e1,e2,e3]
   rw [hb] at hx ⊢;exact hc.insert hf ho j5 x y hx hy
theorem Od {P:Program} {all:List Oper} (hf:iR P all) {Q:Exit->Act->World->Prop} (I:(Nat->Bool)->Act->World->Prop) (hI:∀ S S' a w,(∀ i,i < all.length->S i=S' i)->I S a w->I S' a w)
  (step:∀ S a w i o,I S a w->ji all S->all[i]? = some o->S i=false->lh all S i->(∀ j,S j=true->j < all.length)->wpOp P ⟨all⟩ Q i (I (ca S i)) a w)
  (fin:∀ S a w,(∀ i,i < all.length->S i=true)->I S a w->Q .normal a w) :
  ∀ (fuel:Nat) (aX:Array Bool) (a:Act) (w:World),aX.size=all.length->(aX.toList.filter (!·)).length=fuel->ji all (fun j=>aX.getD j false)->I (fun j=>aX.getD j false) a w->wpAny P .any ⟨all⟩ Q fuel aX a w
 | 0,aX,a,w,hs,hn,hc,h=>by
  have gV:∀ i,i < all.length->aX.getD i false=true:=by
   intro i hi;have:i < aX.size:=by omega
   cases hb:aX.getD i false with
   | true=>rfl
   | false=>
    exfalso;have hg:aX[i] = false:=by simpa [dF,this] using hb
    have hm:aX[i]∈aX.toList.filter (!·):=by
     rw [List.mem_filter];exact ⟨by simp,by simp [hg]⟩
    rw [lD.1 hn] at hm;simp at hm
  refine ⟨?_,fin _ a w gV h⟩;cases hr:Region.ready .any ⟨all⟩ aX with
  | nil=>rfl
  | cons i r=>
   have:=C6 (all:=all) (aX:=aX) (i:=i) (by rw [hr]; simp);have h1:=gV i this.1;have h2:aX.getD i true=true:=by
    have aI:i < aX.size:=by omega
    simpa [dF,aI] using h1
   rw [h2] at this;simp at this
 | fuel+1,aX,a,w,hs,hn,hc,h=>by
  refine ⟨fun hr=>fin _ a w (T5 hf hs hr) h,fun i hi=>?_⟩;obtain ⟨aI,hl,j5⟩:=C6 hi;obtain ⟨o,ho⟩:∃ o,all[i]? = some o:=⟨_,cl aI⟩
  have EX:i < aX.size:=by omega
  have jF:aX.getD i false=false:=by simpa [dF,EX] using hl
  have BG:∀ j,j < all.length->ca (fun j=>aX.getD j false) i j=(aX.setIfInBounds i true).getD j false:=by
   intro j hj;by_cases e:j=i
   ·subst e
    simp [ca,dF,EX]
   ·have:Nat.beq j i=false:=by
     cases hb:Nat.beq j i with
     | false=>rfl
     | true=>exact absurd (aE hb) e
    simp [ca,this,dF,Array.getElem?_setIfInBounds_ne (Ne.symm e)]
  refine wpOp_mono (fun a' w' h'=>?_) (step _ a w i o h hc ho jF j5 (fun j hj=>by
   rcases Nat.lt_or_ge j all.length with h1 | h1
   ·exact h1
   ·have:aX.getD j false=false:=by
     rw [dF,Array.getElem?_eq_none (by omega)];rfl
    rw [this] at hj; simp at hj))
  refine Od hf I hI step fin fuel _ a' w' (by simpa using hs) ?_ ?_ (hI _ _ a' w' BG h')
  ·rw [Array.toList_setIfInBounds]
   have:=count_set aX.toList i (by simpa [dF,EX] using jF);omega
  ·intro x y hx hy
   have hb:∀ z,(aX.setIfInBounds i true).getD z false=true↔ca (fun j=>aX.getD j false) i z=true:=by
    intro z;rcases Nat.lt_or_ge z all.length with h1 | h1
    ·rw [BG z h1]
    ·have e1:(aX.setIfInBounds i true).getD z false=false:=by
      rw [dF,Array.getElem?_eq_none (by simp; omega)];rfl
     have e2:aX.getD z false=false:=by
      rw [dF,Array.getElem?_eq_none (by omega)];rfl
     have e3:Nat.beq z i=false:=by
      cases hb:Nat.beq z i with
      | false=>rfl
      | true=>have:=aE hb; omega
     simp [ca,e1,e2,e3]
   rw [hb] at hx ⊢;exact hc.insert hf ho j5 x y hx hy
def lO (all:List Oper) (i:Nat):Option Tmp:=(all[i]?).bind (·.dst)
def rY (all:List Oper) (t0:Tm):List Rec->Tm
 | []=>t0
 | r::R=>wj (rY all t0 R) (lO all r.i) r.v
def Valid (P:Program) (call:cZ) (all:List Oper) (A0:St) (t0:Tm):List Rec->Prop
 | []=>True
 | r::R=>Valid P call all A0 t0 R/\r.i=R.length/\∃ o,all[R.length]? = some o/\wm P call (aC [] all) all A0 R R.length (rY all t0 R) o=some r
theorem agK {call:cZ} {b:List Nat} {A0:St} {R:List Rec} {i:Nat} {t:Tm} {ins:Ins} {r:Rec} (h:iQ call b A0 R i t ins=some r):r.i=i:=by
 cases ins with
 | pure f xs=>simp only [iQ] at h; obtain ⟨v,_,rfl⟩:=aU.1 h; rfl
 | read f xs=>simp only [iQ] at h; obtain ⟨v,_,rfl⟩:=aU.1 h; rfl
 | make f xs=>simp only [iQ] at h; obtain ⟨v,_,rfl⟩:=aU.1 h; rfl
 | act f xs=>
  simp only [iQ] at h;obtain ⟨v,_,h⟩:=aO.1 h;cases hb:Nat.ble (fy A0 R) v.2.next <;> rw [hb] at h <;> simp at h;subst h; rfl
 | call f xs=>
  simp only [iQ] at h;obtain ⟨p,_,h⟩:=aO.1 h;obtain ⟨v,_,h⟩:=aO.1 h;cases hb:Nat.ble (fy A0 R) v.2.next <;> rw [hb] at h <;> simp at h;subst h; rfl
 | bad=>simp [iQ] at h
theorem akk {P:Program} {call:cZ} {b:List Nat} {all:List Oper} {A0:St} {R:List Rec} {i:Nat} {t:Tm} {o:Oper} {r:Rec} (h:wm P call b all A0 R i t o=some r):r.i=i:=by
 unfold wm at h;obtain ⟨wd,_,h⟩:=aO.1 h;cases wd with
 | true=>exact agK h
 | false=>simp at h; subst h; rfl
theorem Oe {P:Program} {call:cZ} {all:List Oper} {A0:St} {t0:Tm} : ∀ (os:List Oper) (R R' : List Rec) (t' : Tm),all.drop R.length=os->Valid P call all A0 t0 R->
  ux P call (aC [] all) all A0 os R.length R (rY all t0 R)=some (R',t')->Valid P call all A0 t0 R'/\t' = rY all t0 R'/\R'.length=R.length+os.length
 | [],R,R',t',_,hv,h=>by
  simp only [ux,aR,bG] at h;obtain ⟨rfl,rfl⟩:=h;exact ⟨hv,rfl,by simp⟩
 | o::os,R,R',t',hd,hv,h=>by
  simp only [ux] at h;obtain ⟨r,hr,h⟩:=aO.1 h;have ho:all[R.length]? = some o:=by
   have:(all.drop R.length)[0]? = some o:=by rw [hd]; rfl
   rw [lE] at this;simpa using this
  have hi:=akk hr;have CP:all.drop (R.length+1)=os:=by rw [<- List.drop_drop,hd]; rfl
  have:=Oe os (r::R) R' t' (by simpa using CP) ⟨hv,hi,o,ho,hr⟩ (by
   have e:rY all t0 (r::R)=wj (rY all t0 R) o.dst r.v:=by simp [rY,lO,hi,ho]
   rw [e];exact h)
  refine ⟨this.1,this.2.1,?_⟩;rw [this.2.2];simp;omega
theorem Valid.at {P:Program} {call:cZ} {all:List Oper} {A0:St} {t0:Tm} : ∀ {R:List Rec} {r:Rec},Valid P call all A0 t0 R->r∈R->
  ∃ R0 R1,R=R1++r::R0/\Valid P call all A0 t0 R0/\r.i=R0.length/\∃ o,all[r.i]? = some o/\wm P call (aC [] all) all A0 R0 r.i (rY all t0 R0) o=some r
 | [],r,_,h=>by simp at h
 | x::R,r,hv,h=>by
  obtain ⟨h1,h2,o,h3,h4⟩:=hv;rcases bd.1 h with rfl | h
  ·exact ⟨R,[],rfl,h1,h2,o,by rw [h2]; exact h3,by rw [h2]; exact h4⟩
  ·obtain ⟨R0,R1,e,h5,h6,h7⟩:=Valid.at h1 h
   exact ⟨R0,x::R1,by rw [e]; rfl,h5,h6,h7⟩
theorem Valid.lt {P:Program} {call:cZ} {all:List Oper} {A0:St} {t0:Tm} {R:List Rec} (hv:Valid P call all A0 t0 R):∀ {r:Rec},r∈R->r.i < R.length:=by
 intro r hr;obtain ⟨R0,R1,e,_,h,_⟩:=hv.at hr;rw [e,h];simp;omega
theorem Valid.get {P:Program} {call:cZ} {all:List Oper} {A0:St} {t0:Tm} : ∀ {R:List Rec},Valid P call all A0 t0 R->∀ {i:Nat},i < R.length->∃ r∈R,r.i=i
 | [],_,i,h=>by simp at h
 | x::R,hv,i,h=>by
  obtain ⟨h1,h2,_⟩:=hv;by_cases e:i=R.length
  ·exact ⟨x,by simp,by rw [h2,e]⟩
  ·obtain ⟨r,hr,he⟩:=Valid.get h1 (i:=i) (by simp at h; omega)
   exact ⟨r,by simp [hr],he⟩
theorem Valid.inj {P:Program} {call:cZ} {all:List Oper} {A0:St} {t0:Tm} : ∀ {R:List Rec},Valid P call all A0 t0 R->∀ {r s:Rec},r∈R->s∈R->r.i=s.i->r=s
 | [],_,r,s,h,_,_=>by simp at h
 | x::R,hv,r,s,hr,hs,e=>by
  obtain ⟨h1,h2,_⟩:=hv;rcases bd.1 hr with hr | hr1
  ·rcases bd.1 hs with hs | hs1
   ·rw [hr,hs]
   ·have:=Valid.lt h1 hs1; rw [hr] at e; omega
  ·rcases bd.1 hs with hs | hs1
   ·have:=Valid.lt h1 hr1; rw [hs] at e; omega
   ·exact Valid.inj h1 hr1 hs1 e
theorem Ij {P:Program} {call:cZ} {b:List Nat} {all:List Oper} {A0:St} {R:List Rec} {i:Nat} {t:Tm} {o:Oper} {r:Rec} (h:wm P call b all A0 R i t o=some r) :
  fy A0 R<=r.nx/\(∀ id ob,r.jq = .make id ob->id=fy A0 R/\r.nx=id+1)/\(∀ B,r.jq = .act B->r.nx=B.next)/\((∀ B,r.jq≠.act B)->(∀ id ob,r.jq≠.make id ob)->r.nx=fy A0 R):=by
 unfold wm at h;obtain ⟨wd,_,h⟩:=aO.1 h;cases wd with
 | false=>simp at h; subst h; simp
 | true=>
  rw [ah] at h;generalize compile P o.op=ins at h;cases ins with
  | pure f xs=>simp only [iQ] at h; obtain ⟨v,_,rfl⟩:=aU.1 h; simp
  | read f xs=>simp only [iQ] at h; obtain ⟨v,_,rfl⟩:=aU.1 h; simp
  | make f xs=>simp only [iQ] at h; obtain ⟨v,_,rfl⟩:=aU.1 h; simp
  | act f xs=>
   simp only [iQ] at h;obtain ⟨v,_,h⟩:=aO.1 h;cases hb:Nat.ble (fy A0 R) v.2.next <;> rw [hb] at h <;> simp at h;subst h;simpa using cL hb
  | call f xs=>
   simp only [iQ] at h;obtain ⟨p,_,h⟩:=aO.1 h;obtain ⟨v,_,h⟩:=aO.1 h;cases hb:Nat.ble (fy A0 R) v.2.next <;> rw [hb] at h <;> simp at h;subst h;simpa using cL hb
  | bad=>simp [iQ] at h
theorem Valid.zh {P:Program} {call:cZ} {all:List Oper} {A0:St} {t0:Tm} : ∀ {R:List Rec},Valid P call all A0 t0 R->A0.next<=fy A0 R
 | [],_=>ao _
 | x::R,hv=>by
  obtain ⟨h1,h2,o,h3,h4⟩:=hv;have:=(Ij h4).1;exact dx (Valid.zh h1) this
theorem Valid.qL {P:Program} {call:cZ} {all:List Oper} {A0:St} {t0:Tm} : ∀ {R:List Rec},Valid P call all A0 t0 R->∀ {r:Rec},r∈R->r.nx<=fy A0 R
 | [],_,r,h=>by simp at h
 | x::R,hv,r,hr=>by
  obtain ⟨h1,h2,o,h3,h4⟩:=hv;rcases bd.1 hr with rfl | hr
  ·exact ao _
  ·exact dx (Valid.qL h1 hr) (Ij h4).1
theorem Valid.order {P:Program} {call:cZ} {all:List Oper} {A0:St} {t0:Tm} {R:List Rec} (hv:Valid P call all A0 t0 R) {r s:Rec} (hr:r∈R) (hs:s∈R) (aI:r.i < s.i) :
  ∃ R0,(∃ o,wm P call (aC [] all) all A0 R0 s.i (rY all t0 R0) o=some s)/\r.nx<=fy A0 R0:=by
 obtain ⟨R0,R1,e,h5,h6,o,h7,h8⟩:=hv.at hs;refine ⟨R0,⟨o,h8⟩,?_⟩;have hm:r∈R0:=by
  obtain ⟨r',vZ,he'⟩:=h5.get (i:=r.i) (by omega);have:r=r':=hv.inj hr (by rw [e]; simp [vZ]) he'.symm;rw [this]; exact vZ
 exact h5.qL hm
end
end Go.aA
end
section
namespace Go.aA
noncomputable section
open Go
def jv (r:Rec):Prop:=∃ B,r.jq = .act B
theorem vG:∀ {R:List Rec} {e:Nat},R.Pairwise (fun x y=>y.i < x.i)->eL R=some e->∃ r∈R,r.i=e/\jv r/\∀ s∈R,jv s->s.i<=e
 | [],e,_,h=>by simp [eL] at h
 | r::R,e,hp,h=>by
  rw [List.pairwise_cons] at hp;simp only [eL] at h;split at h
  ·rename_i B hB
   simp at h; subst h;refine ⟨r,by simp,rfl,⟨B,hB⟩,fun s hs _=>?_⟩;rcases bd.1 hs with rfl | hs
   ·exact ao _
   ·exact CT (hp.1 s hs)
  ·rename_i hn
   obtain ⟨x,hx,h1,h2,h3⟩:=vG hp.2 h;refine ⟨x,by simp [hx],h1,h2,fun s hs ha=>?_⟩;rcases bd.1 hs with rfl | hs
   ·obtain ⟨B,hB⟩:=ha; exact absurd hB (hn B)
   ·exact h3 s hs ha
theorem Ik:∀ {R:List Rec},eL R=none->∀ s∈R,¬ jv s
 | [],_,s,hs,_=>by simp at hs
 | r::R,h,s,hs,ha=>by
  simp only [eL] at h;split at h
  ·simp at h
  ·rename_i hn
   rcases bd.1 hs with rfl | hs
   ·obtain ⟨B,hB⟩:=ha; exact hn B hB
   ·exact Ik h s hs ha
theorem BH {A0:St} {e:Nat} : ∀ {R:List Rec} {r:Rec} {B:St},(∀ s∈R,s.i=e->s=r)->r∈R->r.i=e->r.jq = .act B->FZ A0 e R=B
 | [],r,B,_,h,_,_=>by simp at h
 | x::R,r,B,hu,hr,he,hB=>by
  simp only [FZ];by_cases hx:x.i=e
  ·have:=hu x (by simp) hx
   subst this;rw [hB];simp [hx]
  ·have vZ:r∈R:=by
    rcases bd.1 hr with rfl | h
    ·exact absurd he hx
    ·exact h
   have ih:=BH (A0:=A0) (fun s hs=>hu s (by simp [hs])) vZ he hB;have hb:Nat.beq x.i e=false:=by
    cases hb:Nat.beq x.i e with
    | false=>rfl
    | true=>exact absurd (aE hb) hx
   split
   ·rw [hb,ay]; exact ih
   ·exact ih
theorem zi {jH:Nat->Bool} {A:St} {x:Nat} {o:aY} : ∀ {R:List Rec},(mO jH A R).get x=some o->(∃ r∈R,jH r.i=true/\r.jq = .make x o)\/(A.get x=some o/\∀ r∈R,jH r.i=true->∀ o',r.jq≠.make x o')
 | [],h=>.inr ⟨h,by simp⟩
 | r::R,h=>by
  simp only [mO] at h;split at h
  ·rename_i id ob hd
   cases hs:jH r.i with
   | true=>
    rw [hs,ah] at h;simp only [St.lay,St.get,Trie.iY] at h;by_cases hx:x=id
    ·rw [ax hx] at h
     simp at h; subst h; subst hx;exact .inl ⟨r,by simp,hs,hd⟩
    ·rw [ae hx] at h
     rcases zi (R:=R) h with ⟨r',h1,h2,h3⟩ | ⟨h1,h2⟩
     ·exact .inl ⟨r',by simp [h1],h2,h3⟩
     ·refine .inr ⟨h1,fun r' vZ NX o'=>?_⟩
      rcases bd.1 vZ with rfl | vZ
      ·rw [hd]; intro e; simp at e; exact hx e.1.symm
      ·exact h2 r' vZ NX o'
   | false=>
    rw [hs,ay] at h;rcases zi (R:=R) h with ⟨r',h1,h2,h3⟩ | ⟨h1,h2⟩
    ·exact .inl ⟨r',by simp [h1],h2,h3⟩
    ·refine .inr ⟨h1,fun r' vZ NX o'=>?_⟩
     rcases bd.1 vZ with rfl | vZ
     ·rw [hs] at NX; simp at NX
     ·exact h2 r' vZ NX o'
  ·rename_i hn
   rcases zi (R:=R) h with ⟨r',h1,h2,h3⟩ | ⟨h1,h2⟩
   ·exact .inl ⟨r',by simp [h1],h2,h3⟩
   ·refine .inr ⟨h1,fun r' vZ NX o'=>?_⟩
    rcases bd.1 vZ with rfl | vZ
    ·exact hn x o'
    ·exact h2 r' vZ NX o'
theorem Li {jH:Nat->Bool} {A:St} {x:Nat} : ∀ {R:List Rec},(∀ r∈R,jH r.i=true->∀ o',r.jq≠.make x o')->(mO jH A R).get x=A.get x
 | [],_=>rfl
 | r::R,h=>by
  have ih:=Li (jH:=jH) (A:=A) (x:=x) (R:=R) fun r' vZ=>h r' (by simp [vZ]);simp only [mO];split
  ·rename_i id ob hd
   cases hs:jH r.i with
   | true=>
    rw [ah];simp only [St.lay,St.get,Trie.iY];rw [ae (fun e=>by subst e; exact h r (by simp) hs ob hd)];exact ih
   | false=>rw [ay]; exact ih
  ·exact ih
theorem Og {jH:Nat->Bool} {A:St} : ∀ {R:List Rec},(mO jH A R).members=A.members/\(mO jH A R).low=A.low/\(mO jH A R).next=A.next
 | []=>⟨rfl,rfl,rfl⟩
 | r::R=>by
  have ih:=Og (jH:=jH) (A:=A) (R:=R);simp only [mO];split
  ·cases jH r.i with
   | true=>exact ih
   | false=>exact ih
  ·exact ih
def Quiet (A0:St) (R:List Rec):Prop:=∀ r∈R,r.nx=A0.next/\(r.jq = .val\/∃ f vs,r.jq = .read f vs)
def Still (b:List Nat) (A0:St) (R:List Rec) (r:Rec):Prop:=(∀ s∈R,∀ id o,s.jq≠.make id o)/\∀ e,e∈jY R->H0 b r.i e R=true->(qb A0 R e).next<=r.nx
def Mg (b:List Nat) (A0:St) (R:List Rec):Prop:=∀ r∈R,∀ f vs,r.jq = .read f vs->(under r.nx r.v=true\/Still b A0 R r)/\∀ e,e∈jY R->H0 b r.i e R=true->f (jE b A0 R e (eY b r.i)) vs=some r.v
structure Setup (P:Program) (call:cZ) (all:List Oper) (A0:St) (t0:Tm) (R:List Rec):Prop where
 facts:iR P all
 valid:Valid P call all A0 t0 R
 len:R.length=all.length
 chain:qJ (aC [] all) R=true
 reads:Mg (aC [] all) A0 R
theorem Valid.sorted {P:Program} {call:cZ} {all:List Oper} {A0:St} {t0:Tm} : ∀ {R:List Rec},Valid P call all A0 t0 R->R.Pairwise (fun x y=>y.i < x.i)
 | [],_=>.nil
 | r::R,h=>by
  rw [List.pairwise_cons];exact ⟨fun s hs=>by have:=h.1.lt hs; rw [h.2.1]; exact this,Valid.sorted h.1⟩
theorem va {P:Program} {call:cZ} {all:List Oper} {A0:St} {t0:Tm} (hf:iR P all):∀ {R:List Rec},Valid P call all A0 t0 R->qJ (aC [] all) R=true->
  ∀ {r s:Rec},r∈R->s∈R->jv r->jv s->s.i < r.i->eY (aC [] all) r.i s.i=true
 | [],_,_,r,s,h,_,_,_,_=>by simp at h
 | x::R,hv,hc,r,s,hr,hs,ar,aob,aI=>by
  simp only [qJ,aj] at hc;have hsR:s∈R:=by
   rcases bd.1 hs with h | h
   ·rcases bd.1 hr with h' | h'
    ·rw [h,h'] at aI; omega
    ·have:=hv.1.lt h'; have:=hv.2.1; rw [h] at aI; omega
   ·exact h
  rcases bd.1 hr with h | h
  ·subst h
   obtain ⟨B,hB⟩:=ar;rw [hB] at hc;cases he:eL R with
   | none=>exact absurd aob (Ik he s hsR)
   | some e=>
    rw [he] at hc;obtain ⟨y,hy,h1,h2,h3⟩:=vG hv.1.sorted he;have hle:=h3 s hsR aob;by_cases hse:s.i=e
    ·rw [hse]; exact hc.1
    ·have:=va hf hv.1 hc.2 hy hsR h2 aob (by omega)
     rw [h1] at this;exact T4 hf hc.1 this
  ·exact va hf hv.1 hc.2 h hsR ar aob aI
def lS (R:List Rec) (S:Nat->Bool):Option Nat:=eL (R.filter fun r=>S r.i)
def dk (A0:St) (R:List Rec) (S:Nat->Bool):St:=qb A0 R (lS R S)
def writer (all:List Oper) (R:List Rec) (S:Nat->Bool) (x:Nat):Option Rec:=R.find? fun r=>S r.i&&(lO all r.i==some x)
def valOf (all:List Oper) (t0:Tm) (R:List Rec) (S:Nat->Bool) (x:Nat):Value:=
 match writer all R S x with
 | some r=>r.v
 | none=>(t0.get x).getD undef
def T6 (all:List Oper) (A0:St) (R:List Rec) (S:Nat->Bool) (x:Nat):Nat:=
 match writer all R S x with
 | some r=>r.nx
 | none=>A0.next
structure Inv (all:List Oper) (A0:St) (t0:Tm) (R:List Rec) (N:Nat) (d0:List Deferred) (base:Nat) (AQ:Ren) (w0:World) (S:Nat->Bool) (a:Act) (w:World) (ρ:Ren):Prop where
 size:a.tmps.size=N
 defers:a.defers=d0
 tm:∀ x,VR (ρ.res (T6 all A0 R S x)) (valOf all t0 R S x) (a.tmps.getD x undef)
 core:cq base AQ A0 w0 (ρ.res (dk A0 R S).next) (dk A0 R S) w
 news:∀ r∈R,S r.i=true->∀ id o,r.jq = .make id o->Hc (aC [] all) (lS R S) r.i=false->
  ∃ c cb,ρ id=some (qf o cb)/\ya (ρ.res r.nx) o c/\w.heap[cb]? = some c/\w0.heap.size<=cb/\¬ EO (ρ.res (dk A0 R S).next) (dk A0 R S) cb
 yc:∀ r∈R,∀ s∈R,S r.i=true->S s.i=true->∀ id o oY o',r.jq = .make id o->s.jq = .make oY o'->Hc (aC [] all) (lS R S) r.i=false->Hc (aC [] all) (lS R S) s.i=false->
  r.i≠s.i->∀ l l',ρ id=some l->ρ oY=some l'->l.cb≠l'.cb
 Oh:∀ r∈R,S r.i=false->∀ id o,r.jq = .make id o->ρ id=none
 fZ:∀ bl l,ρ bl=some l->bl < (dk A0 R S).next\/∃ r∈R,S r.i=true/\∃ o,r.jq = .make bl o
theorem Bm (o:aY) (cb:Nat):(qf o cb).cb=cb:=by cases o <;> rfl
theorem ya.obj {ρ:Ren} {o:aY} {c:Obj} {base cb:Nat} {w:World} (h:ya ρ o c) (hw:w.heap[cb]? = some c) (hb:base<=cb):o9 ρ base w (qf o cb) o/\o.ct=true/\o.hO=none/\o≠.dead:=by
 have aI:cb < w.heap.size:=(jh.1 hw).1;unfold ya at h;split at h
 ·rename_i cs aQ
  obtain ⟨a,T,rfl,h1,h2⟩:=h;have hlen:a.size=cs.length:=h1.length;have k8:∀ i,w.cell? ⟨cb,i,none⟩=a[i]?:=fun i=>by simp [World.cell?,hw]
  have x8:∀ i,w.frozen? ⟨cb,i,none⟩=false:=fun i=>by simp [World.frozen?,hw]
  refine ⟨⟨fun i v hi=>?_,fun h=>by simp at h,fun _=>hb,fun _ j hj=>?_,by simp [qf],fun _ _=>by simp [qf],rfl,aI,fun _ _ j=>x8 j⟩,rfl,rfl,by simp⟩
  ·obtain ⟨v',h3,h4⟩:=h1.get hi
   exact ⟨v',by simp only [qf,bF]; rw [k8]; simpa using h3,h4,h2 v (eW hi)⟩
  ·simp only [qf] at hj ⊢
   rw [k8,x8,Array.getElem?_eq_getElem (by omega)];exact ⟨rfl,rfl⟩
 ·subst h
  exact ⟨⟨hb,#[],0,hw,rfl⟩,rfl,rfl,by simp⟩
 ·rename_i s
  subst h;exact ⟨⟨hb,rfl,hw⟩,rfl,rfl,by simp⟩
 ·exact h.elim
theorem ya.mono {ρ ak:Ren} (hle:ρ.le ak) {o:aY} {c:Obj} (h:ya ρ o c):ya ak o c:=by
 unfold ya at h ⊢;split at h
 ·obtain ⟨a,T,h1,h2,h3⟩:=h; exact ⟨a,T,h1,h2.mono hle,h3⟩
 ·exact h
 ·exact h
 ·exact h.elim
section
variable {P:Program} {call:cZ} {all:List Oper} {A0:St} {t0:Tm} {R:List Rec} {N:Nat} {d0:List Deferred} {base:Nat} {AQ:Ren} {w0:World}
theorem Setup.zj (hS:Setup P call all A0 t0 R) {r:Rec} {id:Nat} {o:aY} (hr:r∈R) (hd:r.jq = .make id o):A0.next<=id/\r.nx=id+1:=by
 obtain ⟨R0,R1,e,h5,h6,op,h7,h8⟩:=hS.valid.at hr;obtain ⟨h9,qh⟩:=(Ij h8).2.1 id o hd;exact ⟨by rw [h9]; exact h5.zh,qh⟩
theorem Setup.Oi (hS:Setup P call all A0 t0 R) {r s:Rec} {id:Nat} {o:aY} (hr:r∈R) (hs:s∈R) (hd:s.jq = .make id o) (aI:r.i < s.i):r.nx<=id:=by
 obtain ⟨R0,⟨op,h1⟩,h2⟩:=hS.valid.order hr hs aI;rw [((Ij h1).2.1 id o hd).1];exact h2
theorem Setup.XF (hS:Setup P call all A0 t0 R) {r s:Rec} {id:Nat} {o o' : aY} (hr:r∈R) (hs:s∈R) (hd:r.jq = .make id o) (CP:s.jq = .make id o'):r=s:=by
 rcases Nat.lt_trichotomy r.i s.i with h | h | h
 ·have h1:=hS.Oi hr hs CP h
  have h2:=(hS.zj hr hd).2;omega
 ·exact hS.valid.inj hr hs h
 ·have h1:=hS.Oi hs hr hd h
  have h2:=(hS.zj hs CP).2;omega
theorem Setup.last (hS:Setup P call all A0 t0 R) (S:Nat->Bool):(lS R S=none/\dk A0 R S=A0/\∀ s∈R,jv s->S s.i=false)\/
  ∃ e∈R,lS R S=some e.i/\S e.i=true/\e.jq = .act (dk A0 R S)/\e.nx=(dk A0 R S).next/\∀ s∈R,jv s->S s.i=true->s.i<=e.i:=by
 cases h:lS R S with
 | none=>
  refine .inl ⟨rfl,by simp [dk,h,qb],fun s hs ha=>?_⟩;cases HF:S s.i with
  | false=>rfl
  | true=>exact absurd ha (Ik h s (by simp [hs,HF]))
 | some e=>
  obtain ⟨r,hr,h1,⟨B,h2⟩,h3⟩:=vG (hS.valid.sorted.filter _) h;rw [List.mem_filter] at hr;have vd:dk A0 R S=B:=by
   simp only [dk,h,qb];exact BH (fun s hs he=>hS.valid.inj hs hr.1 (by rw [he,h1])) hr.1 h1 h2
  refine .inr ⟨r,hr.1,by rw [h1],hr.2,by rw [vd]; exact h2,?_,fun s hs ha HF=>by rw [h1]; exact h3 s (by simp [hs,HF]) ha⟩;obtain ⟨R0,R1,e',h5,h6,op,h7,h8⟩:=hS.valid.at hr.1;rw [vd];exact (Ij h8).2.2.1 B h2
theorem Inv.view (hS:Setup P call all A0 t0 R) (xH:iv AQ A0 base w0) {S:Nat->Bool} {a:Act} {w:World} {ρ:Ren} (hI:Inv all A0 t0 R N d0 base AQ w0 S a w ρ) (jH:Nat->Bool) (XG:∀ r∈R,∀ id o,r.jq = .make id o->jH r.i=true->S r.i=true)
  (n:Nat) (hn:(dk A0 R S).next<=n) (T7:∀ r∈R,∀ id o,r.jq = .make id o->jH r.i=true->Hc (aC [] all) (lS R S) r.i=false->r.nx<=n) :
  cq base AQ A0 w0 (ρ.res n) ((jE (aC [] all) A0 R (lS R S) jH).at n) w:=by
 have lj:=hI.core;have tz:=lj.dI;have hle:(ρ.res (dk A0 R S).next).le (ρ.res n):=ρ.sQ hn;have fA:∀ x o,(jE (aC [] all) A0 R (lS R S) jH).get x=some o->(∃ r∈R,S r.i=true/\jH r.i=true/\Hc (aC [] all) (lS R S) r.i=false/\r.jq = .make x o)\/
   ((dk A0 R S).get x=some o/\∀ r∈R,jH r.i=true->Hc (aC [] all) (lS R S) r.i=false->∀ o',r.jq≠.make x o'):=by
  intro x o h;rcases zi h with ⟨r,h1,h2,h3⟩ | ⟨h1,h2⟩
  ·simp only [aj,iA] at h2
   exact .inl ⟨r,h1,XG r h1 x o h3 h2.1,h2.1,h2.2,h3⟩
  ·exact .inr ⟨h1,fun r hr hs hb o'=>h2 r hr (by simp [hs,hb]) o'⟩
 obtain ⟨hm,hl,_⟩:=Og (jH:=fun j=>jH j&&!Hc (aC [] all) (lS R S) j) (A:=dk A0 R S) (R:=R);have mi:∀ x o,(∃ r∈R,S r.i=true/\jH r.i=true/\Hc (aC [] all) (lS R S) r.i=false/\r.jq = .make x o)->∃ cb,(ρ.res n) x=some (qf o cb)/\o9 (ρ.res n) base w (qf o cb) o/\o.hO=none/\
   w0.heap.size<=cb/\¬ EO (ρ.res (dk A0 R S).next) (dk A0 R S) cb:=by
  rintro x o ⟨r,h1,h2,h3,h4,h5⟩;obtain ⟨c,cb,h6,h7,h8,h9,qh⟩:=hI.news r h1 h2 x o h5 h4;have hx:x < n:=by have:=(hS.zj h1 h5).2; have:=T7 r h1 x o h5 h3 h4; omega
  have h0:=xH.size;obtain ⟨k1,k2,k3,k4⟩:=(h7.mono (ρ.sQ (T7 r h1 x o h5 h3 h4))).obj (base:=base) h8 (by omega);exact ⟨cb,by rw [Ren.uB hx]; exact h6,k1,k3,h9,qh⟩
 have EY:∀ x o l,(dk A0 R S).get x=some o->o≠.dead->(ρ.res n) x=some l->(ρ.res (dk A0 R S).next) x=some l:=by
  intro x o l hx hd hr;obtain ⟨l',h1,_⟩:=tz.rel.obj hx hd;have:=hle _ _ h1;rw [hr] at this;simp at this; subst this;exact h1
 refine ⟨⟨.qe ?_ ?_ ?_,?_,tz.size,tz.lK.mono hle⟩,?_,lj.kept,dx lj.next hn,?_,?_,?_⟩
 ·intro x o hx hd
  rcases fA x o hx with h | ⟨h,_⟩
  ·obtain ⟨cb,h1,h2,_⟩:=mi x o h
   exact ⟨_,h1,h2⟩
  ·obtain ⟨l,h1,h2⟩:=tz.rel.obj h hd
   exact ⟨l,hle _ _ h1,h2.di hle rfl (ao _)⟩
 ·intro b1 b2 o1 o2 l1 l2 bA g1 g2 m1 m2 r1 r2 vW
  have hd1:o1≠.dead:=by intro e; subst e; simp [aY.ct] at m1
  have hd2:o2≠.dead:=by intro e; subst e; simp [aY.ct] at m2
  rcases fA b1 o1 g1 with h1 | ⟨h1,_⟩ <;> rcases fA b2 o2 g2 with h2 | ⟨h2,_⟩
  ·obtain ⟨r,a1,a2,a3,a4,a5⟩:=h1
   obtain ⟨s,c1,c2,c3,c4,c5⟩:=h2;have hri:r.i≠s.i:=fun e=>by
    have:=hS.valid.inj a1 c1 e;subst this;rw [a5] at c5; simp at c5;exact bA c5.1
   exact absurd vW (hI.yc r a1 s c1 a2 c2 b1 o1 b2 o2 a5 c5 a4 c4 hri l1 l2 (ρ.YV n _ _ r1) (ρ.YV n _ _ r2))
  ·obtain ⟨cb,e1,_,_,_,e5⟩:=mi b1 o1 h1
   rw [r1] at e1; simp at e1;have amS:l1.cb=cb:=by rw [e1,Bm]
   exact absurd ⟨b2,o2,l2,h2,m2,EY b2 o2 l2 h2 hd2 r2,by rw [<- vW,amS]⟩ e5
  ·obtain ⟨cb,e1,_,_,_,e5⟩:=mi b2 o2 h2
   rw [r2] at e1; simp at e1;have amT:l2.cb=cb:=by rw [e1,Bm]
   exact absurd ⟨b1,o1,l1,h1,m1,EY b1 o1 l1 h1 hd1 r1,by rw [vW,amT]⟩ e5
  ·exact tz.rel.apart b1 b2 o1 o2 l1 l2 bA h1 h2 m1 m2 (EY b1 o1 l1 h1 hd1 r1) (EY b2 o2 l2 h2 hd2 r2) vW
 ·intro x o aF f hx hk
  rcases fA x o hx with h | ⟨h,_⟩
  ·obtain ⟨cb,_,_,h3,_⟩:=mi x o h
   rw [hk] at h3; simp at h3
  ·show x∈(jE (aC [] all) A0 R (lS R S) jH).members aF
   rw [show (jE (aC [] all) A0 R (lS R S) jH).members=(dk A0 R S).members from hm];exact tz.rel.aX x o aF f h hk
 ·intro b l h; exact (Ren.Oa h).1
 ·intro b hb
  have h1:=lj.ext b hb;have:b < (dk A0 R S).next:=dG hb lj.next;rw [Ren.uB this] at h1;rw [Ren.uB (by omega)];exact h1
 ·show (jE (aC [] all) A0 R (lS R S) jH).low<=A0.low
  rw [show (jE (aC [] all) A0 R (lS R S) jH).low=(dk A0 R S).low from hl];exact lj.low
 ·intro b hb YM
  show (jE (aC [] all) A0 R (lS R S) jH).get b=A0.get b;have amU:b < (dk A0 R S).low:=by
   rw [<- show (jE (aC [] all) A0 R (lS R S) jH).low=(dk A0 R S).low from hl]; exact YM
  rw [<- lj.same b hb amU];refine Li fun r hr _ o' e=>?_;have:=(hS.zj hr e).1;omega
 ·rintro k hk ⟨b,o,l,hg,AI,hr,rfl⟩
  have hd:o≠.dead:=by intro e; subst e; simp [aY.ct] at AI
  rcases fA b o hg with h | ⟨h,_⟩
  ·obtain ⟨cb,e1,_,_,e4,_⟩:=mi b o h
   rw [hr] at e1; simp at e1;rw [e1,Bm] at hk;omega
  ·exact lj.SF _ hk ⟨b,o,l,h,AI,EY b o l h hd hr,rfl⟩
theorem pX {x:Nat} : ∀ {xs:List Operand},Operand.tmp x∈xs->x∈qa xs
 | [],h=>by simp at h
 | .tmp t::xs,h=>by
  rcases bd.1 h with h | h
  ·simp at h; subst h; simp [qa]
  ·simp [qa,pX h]
 | .const _::xs,h=>by
  rcases bd.1 h with h | h
  ·simp at h
  ·simpa [qa] using pX h
 | .global _::xs,h=>by
  rcases bd.1 h with h | h
  ·simp at h
  ·simpa [qa] using pX h
 | .func _::xs,h=>by
  rcases bd.1 h with h | h
  ·simp at h
  ·simpa [qa] using pX h
theorem BI:∀ (R0:List Rec) (x:Nat),(rY all t0 R0).get x=match R0.find? (fun r=>lO all r.i==some x) with | some r=>some r.v | none=>t0.get x
 | [],x=>rfl
 | r::R0,x=>by
  simp only [rY,List.find?_cons];cases hd:lO all r.i with
  | none=>simp only [wj]; rw [BI R0 x]; rfl
  | some d=>
   simp only [wj,Trie.iY];by_cases h:x=d
   ·subst h; simp
   ·rw [ae h,BI R0 x]
    have:(some d==some x)=false:=by simp; exact fun e=>h e.symm
    rw [this]
theorem WK (hS:Setup P call all A0 t0 R) {S:Nat->Bool} (hc:ji all S) {r:Rec} (hr:r∈R) {o:Oper} (ho:all[r.i]? = some o) (jF:S r.i=false) (j5:lh all S r.i)
  {x:Nat} (hx:x∈looks P all o):∃ R0,(∀ R1 R2,R=R1++r::R2->R2=R0)/\writer all R S x=R0.find? (fun r=>lO all r.i==some x):=by
 obtain ⟨R0,R1,e,h5,h6,o',h7,h8⟩:=hS.valid.at hr;refine ⟨R0,fun R1' R2' e'=>?_,?_⟩
 ·have hl:R2'.length=R0.length:=by
   have hv:=hS.valid;rw [e'] at hv;have key:∀ (X:List Rec),Valid P call all A0 t0 (X++r::R2')->r.i=R2'.length:=by
    intro X
    induction X with
    | nil=>intro h; exact h.2.1
    | cons y X ih=>intro h; exact ih h.1
   rw [<- key R1' hv,h6]
  have:=congrArg (fun l=>l.drop (l.length - R0.length)) (e.symm.trans e');simp only [fE,lF,hl] at this;have e1:(R1++r::R0).drop (R1.length+(R0.length+1) - R0.length)=R0:=by
   rw [show R1.length+(R0.length+1) - R0.length=R1.length+1 by omega,<- List.drop_drop,List.drop_left];rfl
  have e2:(R1'++r::R2').drop (R1'.length+(R0.length+1) - R0.length)=R2':=by
   rw [show R1'.length+(R0.length+1) - R0.length=R1'.length+1 by omega,<- List.drop_drop,List.drop_left];rfl
  rw [e1,e2] at this;exact this.symm
 ·have XH:∀ s∈R,s.i≠r.i->lO all s.i=some x->(S s.i=true↔s.i < r.i):=by
   intro s hs bA hd;obtain ⟨os,hos⟩:∃ os,all[s.i]? = some os:=by
    cases h:all[s.i]? with
    | none=>simp [lO,h] at hd
    | some os=>exact ⟨os,rfl⟩
   have pY:os.dst=some x:=by simpa [lO,hos] using hd
   have BL:xX P all os o=true:=by
    unfold xX;have:NM os.dst (looks P all o)=true:=by
     rw [pY];simp only [NM,List.any_eq_true];exact ⟨x,hx,by simp⟩
    rw [this]; rfl
   have amV:xX P all o os=true:=by
    unfold xX at BL ⊢;simp only [oa] at BL ⊢;have amW:∀ d e,y9 d e=y9 e d:=by
     intro d e;cases d <;> cases e <;> simp [y9];rename_i p q;rw [Bool.eq_iff_iff]; simp; exact eq_comm
    rw [amW o.dst os.dst];rcases BL with (h | h) | h
    ·exact .inl (.inr h)
    ·exact .inl (.inl h)
    ·exact .inr h
   constructor
   ·intro HF
    rcases Nat.lt_or_ge s.i r.i with h | h
    ·exact h
    ·have aI:r.i < s.i:=by omega
     have:=hS.facts.apart s.i r.i o os hos ho aI amV;have:=hc _ _ HF this;rw [jF] at this; simp at this
   ·intro aI
    exact hc.ready hS.facts ho j5 _ (hS.facts.apart r.i s.i os o ho hos aI BL)
  unfold writer;rw [e,List.find?_append];have hv:=hS.valid;have h1:R1.find? (fun r=>S r.i&&(lO all r.i==some x))=none:=by
   rw [List.find?_eq_none];intro s hs qM;simp only [aj,rB] at qM;have hsR:s∈R:=by rw [e]; simp [hs]
   have CM:r.i < s.i:=by
    have hp:=hv.sorted;rw [e,List.pairwise_append] at hp;exact hp.2.2 s hs r (by simp)
   have:=(XH s hsR (by omega) qM.2).1 qM.1;omega
  rw [h1];simp only [Option.none_or,List.find?_cons,jF,Bool.false_and];have h2:∀ (l:List Rec),(∀ s∈l,s∈R0)->l.find? (fun r=>S r.i&&(lO all r.i==some x))=l.find? (fun r=>lO all r.i==some x):=by
   intro l
   induction l with
   | nil=>intro _; rfl
   | cons s l ih=>
    intro hl;simp only [List.find?_cons];have xH:s∈R0:=hl s (by simp);have hsR:s∈R:=by rw [e]; simp [xH]
    have aI:s.i < r.i:=by rw [h6]; exact h5.lt xH
    cases hd:(lO all s.i==some x) with
    | false=>simp only [Bool.and_false]; exact ih (fun y hy=>hl y (by simp [hy]))
    | true=>
     have:=(XH s hsR (by omega) (by simpa using hd)).2 aI;simp [this]
  exact h2 R0 (fun s hs=>hs)
end
end
end Go.aA
end
section
namespace Go.aA
noncomputable section
open Go
theorem wA {p q:Rec->Bool} : ∀ (l:List Rec),(∀ s∈l,jv s->p s=q s)->eL (l.filter p)=eL (l.filter q)
 | [],_=>rfl
 | s::l,h=>by
  have ih:=wA l fun x hx=>h x (by simp [hx]);cases hd:s.jq with
  | act B=>
   have:=h s (by simp) ⟨B,hd⟩;rw [List.filter_cons,List.filter_cons,this];split
   ·simp only [eL,hd]
   ·exact ih
  | _=>
   rw [List.filter_cons,List.filter_cons];split <;> split <;> first | exact ih | (simp only [eL,hd]; exact ih)
theorem Lj:∀ (l m:List Rec),(∀ s∈l,¬ jv s)->eL (l++m)=eL m
 | [],m,_=>rfl
 | s::l,m,h=>by
  have ih:=Lj l m fun x hx=>h x (by simp [hx]);have hs:=h s (by simp);simp only [List.cons_append,eL];split
  ·rename_i B hB; exact absurd ⟨B,hB⟩ hs
  ·exact ih
theorem Oj {jH:Nat->Bool} {A:St} : ∀ (l m:List Rec),(∀ s∈l,jH s.i=false)->mO jH A (l++m)=mO jH A m
 | [],m,_=>rfl
 | s::l,m,h=>by
  have ih:=Oj (A:=A) l m fun x hx=>h x (by simp [hx]);simp only [List.cons_append,mO];split
  ·rw [h s (by simp),ay]; exact ih
  ·exact ih
theorem find_congr {p q:Rec->Bool} : ∀ (l:List Rec),(∀ s∈l,p s=q s)->l.find? p=l.find? q
 | [],_=>rfl
 | s::l,h=>by
  simp only [List.find?_cons,h s (by simp),find_congr l fun x hx=>h x (by simp [hx])]
theorem oL (S:Nat->Bool) (i:Nat):ca S i i=true:=by simp [ca]
theorem iH {S:Nat->Bool} {i j:Nat} (h:j≠i):ca S i j=S j:=by
 have:Nat.beq j i=false:=by
  cases hb:Nat.beq j i with
  | false=>rfl
  | true=>exact absurd (aE hb) h
 simp [ca,this]
theorem iv.di {ρ ak:Ren} {A:St} {base:Nat} {w w' : World} (hs:iv ρ A base w) (hle:ρ.le ak) (amX:∀ b l,ak b=some l->b < A.next) (hw:∀ k,k < w.heap.size->w'.heap[k]? = w.heap[k]?) (cS:w.heap.size<=w'.heap.size):iv ak A base w':=by
 have Qn:∀ b o l,A.get b=some o->o≠.dead->ak b=some l->ρ b=some l:=by
  intro b o l hg hd hr;obtain ⟨l',h1,_⟩:=hs.rel.obj hg hd;have:=hle _ _ h1;rw [hr] at this; simp at this; subst this;exact h1
 refine ⟨.qe (fun b o hg hd=>?_) ?_ hs.rel.aX,amX,dx hs.size cS,hs.lK.mono hle⟩
 ·obtain ⟨l,h1,h2⟩:=hs.rel.obj hg hd
  exact ⟨l,hle _ _ h1,h2.di hle (hw _ (h2.lt hd)) cS⟩
 ·intro b1 b2 o1 o2 l1 l2 bA g1 g2 m1 m2 r1 r2 vW
  exact hs.rel.apart b1 b2 o1 o2 l1 l2 bA g1 g2 m1 m2 (Qn b1 o1 l1 g1 (by intro e; subst e; simp [aY.ct] at m1) r1) (Qn b2 o2 l2 g2 (by intro e; subst e; simp [aY.ct] at m2) r2) vW
theorem EO.di {ρ ak:Ren} {A:St} {base:Nat} {w:World} {k:Nat} (hs:iv ρ A base w) (hle:ρ.le ak) (h:EO ak A k):EO ρ A k:=by
 obtain ⟨b,o,l,hg,hm,hr,rfl⟩:=h;obtain ⟨l',h1,_⟩:=hs.rel.obj hg (by intro e; subst e; simp [aY.ct] at hm);have:=hle _ _ h1;rw [hr] at this; simp at this; subst this;exact ⟨b,o,l,hg,hm,h1,rfl⟩
theorem EO.lt {ρ:Ren} {A:St} {base:Nat} {w:World} {k:Nat} (hs:iv ρ A base w) (h:EO ρ A k):k < w.heap.size:=by
 obtain ⟨b,o,l,hg,hm,hr,rfl⟩:=h;have hd:o≠.dead:=by intro e; subst e; simp [aY.ct] at hm
 obtain ⟨l',h1,h2⟩:=hs.rel.obj hg hd;rw [hr] at h1; simp at h1; subst h1;exact h2.lt hd
section
variable {P:Program} {call:cZ} {all:List Oper} {A0:St} {t0:Tm} {R:List Rec} {N:Nat} {d0:List Deferred} {base:Nat} {AQ:Ren} {w0:World}
theorem T8 (hS:Setup P call all A0 t0 R) {S:Nat->Bool} (hc:ji all S) {r:Rec} (hr:r∈R) {o:Oper} (ho:all[r.i]? = some o) (jF:S r.i=false) (x:Nat) :
  writer all R (ca S r.i) x=if o.dst=some x then some r else writer all R S x:=by
 have hd:lO all r.i=o.dst:=by simp [lO,ho]
 by_cases h:o.dst=some x
 ·rw [ax h]
  obtain ⟨R0,R1,e,_⟩:=hS.valid.at hr;unfold writer;rw [e,List.find?_append];have h1:R1.find? (fun s=>ca S r.i s.i&&(lO all s.i==some x))=none:=by
   rw [List.find?_eq_none];intro s hs qM;simp only [aj,rB] at qM;have CM:r.i < s.i:=by
    have hp:=hS.valid.sorted;rw [e,List.pairwise_append] at hp;exact hp.2.2 s hs r (by simp)
   rw [iH (by omega)] at qM;obtain ⟨os,hos⟩:∃ os,all[s.i]? = some os:=by
    cases h' : all[s.i]? with
    | none=>simp [lO,h'] at qM
    | some os=>exact ⟨os,rfl⟩
   have hds:os.dst=some x:=by simpa [lO,hos] using qM.2
   have BL:xX P all o os=true:=by
    unfold xX;have:y9 o.dst os.dst=true:=by rw [h,hds]; simp [y9]
    rw [this]; simp
   have:=hc _ _ qM.1 (hS.facts.apart s.i r.i o os hos ho CM BL);rw [jF] at this; simp at this
  rw [h1];simp [oL,hd,h]
 ·rw [ae h]
  refine find_congr R fun s hs=>?_;by_cases e:s.i=r.i
  ·have:(lO all s.i==some x)=false:=by rw [e,hd]; simpa using h
   simp [this]
  ·rw [iH e]
theorem agL (hS:Setup P call all A0 t0 R) {S:Nat->Bool} {a:Act} {w:World} {ρ:Ren} (hI:Inv all A0 t0 R N d0 base AQ w0 S a w ρ) (hc:ji all S) {r:Rec} {o:Oper} {R0 R1:List Rec} (hr:r∈R) (e:R=R1++r::R0) (hv:Valid P call all A0 t0 R0)
  (ho:all[r.i]? = some o) (jF:S r.i=false) (j5:lh all S r.i) {x:Nat} (hx:x∈looks P all o) :
  VR (ρ.res (fy A0 R0)) (((rY all t0 R0).get x).getD undef) (a.tmps.getD x undef):=by
 obtain ⟨R0',h1,h2⟩:=WK hS hc hr ho jF j5 hx;have:=h1 R1 R0 e;subst this;have ht:=hI.tm x;unfold T6 valOf at ht;rw [h2] at ht;rw [BI];cases hf:R0.find? (fun r=>lO all r.i==some x) with
 | none=>rw [hf] at ht; exact ht.mono (ρ.sQ hv.zh)
 | some s=>rw [hf] at ht; exact ht.mono (ρ.sQ (hv.qL (List.mem_of_find?_eq_some hf)))
theorem YW {ρ:Ren} {t:Tm} {a:Act} {o:Oper} {wd:Bool} (h:∀ d∈vD all o,VR ρ ((t.get d).getD undef) (a.tmps.getD d undef)/\(t.get d≠none->d < a.tmps.size)) (hw:wk all t o.guard=some wd) :
  Region.wanted o (yielded ⟨all⟩ a.tmps)=wd:=by
 unfold wk at hw;unfold Region.wanted;split at hw
 ·rename_i hg; simp at hw; rw [hg]; exact hw.symm
 ·rename_i j want hg
  rw [hg];simp only;unfold yielded;have e:(⟨all⟩:Array Oper)[j]? = all[j]?:=by simp
  rw [e];cases hd:(all[j]?).bind (·.dst) with
  | none=>rw [hd] at hw; simp [jo] at hw; subst hw; simp
  | some d=>
   rw [hd] at hw;simp only [cA] at hw ⊢;obtain ⟨hv,aI⟩:=h d (by simp [vD,hg,hd]);cases ht:t.get d with
   | none=>
    rw [ht] at hw hv;simp [jo] at hw; subst hw;simp only [Option.getD_none] at hv;have hu:a.tmps.getD d undef=undef:=hv.jZ (by simp [undef,flat,wh,nL]);cases hc:a.tmps[d]? with
    | none=>simp
    | some u=>
     have:a.tmps.getD d undef=u:=by simp [dF,hc]
     rw [hu] at this;subst this;simp [undef]
   | some v=>
    have aI:=aI (by rw [ht]; simp);rw [ht] at hw hv;simp only [iD] at hv;have hc:a.tmps[d]? = some (a.tmps.getD d undef):=by simp [dF,aI]
    rw [hc];generalize a.tmps.getD d undef=u at hv;cases v with
    | bool b=>
     simp [jo] at hw;have:=hv.dq;subst this;subst hw;cases b <;> cases want <;> rfl
    | tuple cs=>
     simp [jo] at hw;obtain ⟨b5,rfl,_⟩:=hv.BD;subst hw;rfl
    | _=>simp [jo] at hw
theorem agM {a:Act} {dst:Option Tmp} {v' : Value} {x:Nat} (hd:∀ d,dst=some d->d < a.tmps.size):(a.put dst v').tmps.getD x undef=if dst=some x then v' else a.tmps.getD x undef:=by
 cases dst with
 | none=>simp [Act.put]
 | some d=>
  have:=hd d rfl;simp only [Act.put];by_cases h:x=d
  ·subst h; simp [dF,this]
  ·rw [ae (by simpa using fun e=>h e.symm)]
   simp [dF,Array.getElem?_setIfInBounds_ne (Ne.symm h)]
theorem Mh (hS:Setup P call all A0 t0 R) {S:Nat->Bool} {a:Act} {w:World} {ρ ak:Ren} (hI:Inv all A0 t0 R N d0 base AQ w0 S a w ρ) (hc:ji all S) {r:Rec} {o:Oper} (hr:r∈R) (ho:all[r.i]? = some o) (jF:S r.i=false)
  (pY:∀ d,o.dst=some d->d < N) (hle:ρ.le ak) {v' : Value} (hv:VR (ak.res r.nx) r.v v') :
  ∀ x,VR (ak.res (T6 all A0 R (ca S r.i) x)) (valOf all t0 R (ca S r.i) x) ((a.put o.dst v').tmps.getD x undef):=by
 intro x;rw [agM (by rw [hI.size]; exact pY)];unfold T6 valOf;rw [T8 hS hc hr ho jF];by_cases h:o.dst=some x
 ·simp only [ax h]; exact hv
 ·simp only [ae h]
  exact (hI.tm x).mono (Ren.zg hle _)
theorem T9 {S:Nat->Bool} {r:Rec} (hS:Setup P call all A0 t0 R) (hr:r∈R) (zQ : ¬ jv r):lS R (ca S r.i)=lS R S:=by
 refine wA R fun s hs ha=>?_;by_cases e:s.i=r.i
 ·exact absurd (hS.valid.inj hs hr e ▸ ha) zQ
 ·exact iH e
theorem Inv.plain (hS:Setup P call all A0 t0 R) {S:Nat->Bool} {a:Act} {w:World} {ρ:Ren} (hI:Inv all A0 t0 R N d0 base AQ w0 S a w ρ) (hc:ji all S) {r:Rec} {o:Oper} (hr:r∈R) (ho:all[r.i]? = some o) (jF:S r.i=false)
  (pY:∀ d,o.dst=some d->d < N) (zQ : ¬ jv r) (hnm:∀ id ob,r.jq≠.make id ob) {v' : Value} (hv:VR (ρ.res r.nx) r.v v'):Inv all A0 t0 R N d0 base AQ w0 (ca S r.i) (a.put o.dst v') w ρ:=by
 have hl:=T9 (S:=S) hS hr zQ;have vd:dk A0 R (ca S r.i)=dk A0 R S:=by simp only [dk,hl]
 have mr:∀ s∈R,ca S r.i s.i=true->∀ id ob,s.jq = .make id ob->S s.i=true:=by
  intro s hs h id ob hd;by_cases e:s.i=r.i
  ·have:=hS.valid.inj hs hr e
   subst this;exact absurd hd (hnm id ob)
  ·rwa [iH e] at h
 refine ⟨?_,?_,Mh hS hI hc hr ho jF pY (Ren.le_refl _) hv,?_,?_,?_,?_,?_⟩
 ·rw [<- hI.size]; cases o.dst <;> simp [Act.put]
 ·rw [<- hI.defers]; cases o.dst <;> rfl
 ·rw [vd]; exact hI.core
 ·rw [vd,hl]; intro s hs h id ob hd hb; exact hI.news s hs (mr s hs h id ob hd) id ob hd hb
 ·rw [hl]; intro s hs u hu h1 h2 id ob oY WL d1 d2; exact hI.yc s hs u hu (mr s hs h1 id ob d1) (mr u hu h2 oY WL d2) id ob oY WL d1 d2
 ·intro s hs h id ob hd
  have bA:s.i≠r.i:=fun e=>by rw [e,oL] at h; simp at h
  rw [iH bA] at h;exact hI.Oh s hs h id ob hd
 ·rw [vd]
  intro b l h;rcases hI.fZ b l h with h | ⟨s,hs,h1,h2⟩
  ·exact .inl h
  ·exact .inr ⟨s,hs,by unfold ca; rw [h1]; rfl,h2⟩
theorem Inv.made (hS:Setup P call all A0 t0 R) {S:Nat->Bool} {a:Act} {w:World} {ρ:Ren} (hI:Inv all A0 t0 R N d0 base AQ w0 S a w ρ) (hc:ji all S) {r:Rec} {o:Oper} (hr:r∈R) (ho:all[r.i]? = some o) (jF:S r.i=false)
  (pY:∀ d,o.dst=some d->d < N) {id:Nat} {ob:aY} (hd:r.jq = .make id ob) {c:Obj} {n:Nat} (mi:ya (ρ.res n) ob c) (hn:n<=r.nx) {v' : Value} (hv:∀ ak:Ren,ak id=some (qf ob w.heap.size)->VR ak r.v v') :
  Inv all A0 t0 R N d0 base AQ w0 (ca S r.i) (a.put o.dst v') (w.alloc c) (ρ.set id (qf ob w.heap.size)):=by
 have zQ : ¬ jv r:=by rintro ⟨B,hB⟩; rw [hd] at hB; simp at hB
 have hl:=T9 (S:=S) hS hr zQ;have vd:dk A0 R (ca S r.i)=dk A0 R S:=by simp only [dk,hl]
 have hun:=hI.Oh r hr jF id ob hd;have hle:ρ.le (ρ.set id (qf ob w.heap.size)):=by
  intro b l h;rw [Ren.cX]
  ·exact h
  ·intro e; subst e; rw [hun] at h; simp at h
 obtain ⟨hid,KF⟩:=hS.zj hr hd;have hold:∀ k,k < w.heap.size->(w.alloc c).heap[k]? = w.heap[k]?:=fun k hk=>RowKit.Below.heap_alloc _ _ _ hk;have cS:w.heap.size<=(w.alloc c).heap.size:=by simp
 have tz:=hI.core.dI;have alc:=Ren.zg hle (dk A0 R S).next;have aeU:∀ k,EO ((ρ.set id (qf ob w.heap.size)).res (dk A0 R S).next) (dk A0 R S) k->EO (ρ.res (dk A0 R S).next) (dk A0 R S) k:=fun k h=>h.di tz alc;refine ⟨?_,?_,Mh hS hI hc hr ho jF pY hle (hv _ (by rw [Ren.uB (by omega),Ren.dj])),?_,?_,?_,?_,?_⟩
 ·rw [<- hI.size]; cases o.dst <;> simp [Act.put]
 ·rw [<- hI.defers]; cases o.dst <;> rfl
 ·rw [vd]
  have lj:=hI.core;refine ⟨tz.di alc (fun b l h=>(Ren.Oa h).1) hold cS,fun b hb=>?_,⟨lj.kept.os,lj.kept.tape,lj.kept.output,dx lj.kept.size cS,fun k hk hn=>?_⟩,lj.next,lj.low,lj.same,fun k hk h=>lj.SF k hk (aeU k h)⟩
  ·have h1:=lj.ext b hb
   have:b < (dk A0 R S).next:=dG hb lj.next;rw [Ren.uB this] at h1 ⊢;rw [Ren.cX _ _ (by omega)];exact h1
  ·rw [hold k (dG hk lj.kept.size)]; exact lj.kept.block k hk hn
 ·rw [vd,hl]
  intro s hs h oY WL CP hb;by_cases e:s.i=r.i
  ·have:=hS.valid.inj hs hr e
   subst this;rw [hd] at CP; simp at CP;obtain ⟨rfl,rfl⟩:=CP;refine ⟨c,w.heap.size,Ren.dj _ _ _,mi.mono (Ren.le_trans (ρ.sQ hn) (Ren.zg hle _)),(MapKept.heap_alloc w c).1,hI.core.kept.size,fun h=>?_⟩;have:=(aeU _ h).lt tz;omega
  ·rw [iH e] at h
   obtain ⟨c',cb,h1,h2,h3,h4,h5⟩:=hI.news s hs h oY WL CP hb;exact ⟨c',cb,hle _ _ h1,h2.mono (Ren.zg hle _),by rw [hold cb (jh.1 h3).1]; exact h3,h4,fun h=>h5 (aeU _ h)⟩
 ·rw [hl]
  have aeV:∀ s∈R,ca S r.i s.i=true->∀ oY WL,s.jq = .make oY WL->Hc (aC [] all) (lS R S) s.i=false->∀ l,(ρ.set id (qf ob w.heap.size)) oY=some l->
    (s.i=r.i/\l.cb=w.heap.size)\/(s.i≠r.i/\S s.i=true/\ρ oY=some l/\l.cb < w.heap.size):=by
   intro s hs h oY WL CP hb l iL;by_cases e:s.i=r.i
   ·have:=hS.valid.inj hs hr e
    subst this;rw [hd] at CP; simp at CP;rw [<- CP.1,Ren.dj] at iL;simp at iL;exact .inl ⟨rfl,by rw [<- iL,Bm]⟩
   ·rw [iH e] at h
    have bA:oY≠id:=fun e'=>by
     subst e';exact e (by rw [hS.XF hs hr CP hd])
    rw [Ren.cX _ _ bA] at iL;obtain ⟨c',cb,h1,_,h3,_⟩:=hI.news s hs h oY WL CP hb;rw [h1] at iL; simp at iL;exact .inr ⟨e,h,by rw [h1,iL],by rw [<- iL,Bm]; exact (jh.1 h3).1⟩
  intro s hs u hu h1 h2 id1 ob1 id2 ob2 d1 d2 b1 b2 bA l1 l2 e1 e2;rcases aeV s hs h1 id1 ob1 d1 b1 l1 e1 with ⟨p1,p2⟩ | ⟨p1,p2,p3,p4⟩ <;> rcases aeV u hu h2 id2 ob2 d2 b2 l2 e2 with ⟨q1,q2⟩ | ⟨q1,q2,q3,q4⟩
  ·omega
  ·omega
  ·omega
  ·exact hI.yc s hs u hu p2 q2 id1 ob1 id2 ob2 d1 d2 b1 b2 bA l1 l2 p3 q3
 ·intro s hs h oY WL CP
  have bA:s.i≠r.i:=fun e=>by rw [e,oL] at h; simp at h
  rw [iH bA] at h;have Ua:oY≠id:=fun e'=>by
   subst e';exact bA (by rw [hS.XF hs hr CP hd])
  rw [Ren.cX _ _ Ua];exact hI.Oh s hs h oY WL CP
 ·rw [vd]
  intro b l h;by_cases e:b=id
  ·subst e; exact .inr ⟨r,hr,oL _ _,ob,hd⟩
  ·rw [Ren.cX _ _ e] at h
   rcases hI.fZ b l h with h | ⟨s,hs,h1,h2⟩
   ·exact .inl h
   ·exact .inr ⟨s,hs,by unfold ca; rw [h1]; rfl,h2⟩
theorem akl (hS:Setup P call all A0 t0 R) {S:Nat->Bool} (hc:ji all S) {r:Rec} {R0 R1:List Rec} (hr:r∈R) (e:R=R1++r::R0) (hv:Valid P call all A0 t0 R0) (hi:r.i=R0.length) (ha:jv r) (jF:S r.i=false)
  {o:Oper} (ho:all[r.i]? = some o) (j5:lh all S r.i) :
  lS R S=eL R0/\jE (aC [] all) A0 R0 (eL R0) (eY (aC [] all) r.i)=jE (aC [] all) A0 R (lS R S) (eY (aC [] all) r.i):=by
 have hp:=hS.valid.sorted;have hR1:∀ s∈R1,r.i < s.i:=fun s hs=>by
  rw [e,List.pairwise_append] at hp;exact hp.2.2 s hs r (by simp)
 have hR0:∀ s∈R0,s.i < r.i:=fun s hs=>by rw [hi]; exact hv.lt hs
 have al2:∀ s∈R0,jv s->S s.i=true:=fun s hs h=>
  hc.ready hS.facts ho j5 _ (va hS.facts hS.valid hS.chain hr (by rw [e]; simp [hs]) ha h (hR0 s hs))
 have al3:∀ s∈R1,jv s->S s.i=false:=fun s hs h=>by
  cases HF:S s.i with
  | false=>rfl
  | true=>
   have:=hc _ _ HF (va hS.facts hS.valid hS.chain (by rw [e]; simp [hs]) hr h ha (hR1 s hs));rw [jF] at this; simp at this
 have h1:lS R S=eL R0:=by
  unfold lS;rw [e,List.filter_append,Lj]
  ·have aeW : ¬ (S r.i=true):=by rw [jF]; simp
   rw [List.filter_cons,ae aeW];have:R0=R0.filter (fun _=>true):=(List.filter_eq_self.2 fun _ _=>rfl).symm
   conv=>rhs; rw [this]
   exact wA R0 fun s hs h=>al2 s hs h
  ·intro s hs h
   rw [List.mem_filter] at hs;rw [al3 s hs.1 h] at hs;exact absurd hs.2 (by simp)
 refine ⟨h1,?_⟩;rw [h1];unfold jE;have h2:qb A0 R (eL R0)=qb A0 R0 (eL R0):=by
  cases hl:eL R0 with
  | none=>rfl
  | some k=>
   obtain ⟨y,hy,h3,⟨B,h4⟩,_⟩:=vG hv.sorted hl;simp only [qb];rw [BH (fun s hs he=>hS.valid.inj hs (by rw [e]; simp [hy]) (by rw [he,h3])) (by rw [e]; simp [hy]) h3 h4,BH (fun s hs he=>hv.inj hs hy (by rw [he,h3])) hy h3 h4]
 rw [h2]
 conv=>rhs; rw [e,show R1++r::R0=(R1++[r])++R0 by simp]
 refine (Oj (R1++[r]) R0 fun s hs=>?_).symm;have Md:r.i<=s.i:=by
  rcases eP.1 hs with h | h
  ·exact CT (hR1 s h)
  ·simp at h; rw [h]; exact ao _
 cases hb:eY (aC [] all) r.i s.i with
 | false=>rfl
 | true=>have:=Oc hS.facts hb; omega
theorem Inv.aih (hS:Setup P call all A0 t0 R) (xH:iv AQ A0 base w0) {S:Nat->Bool} {a:Act} {w:World} {ρ:Ren} (hI:Inv all A0 t0 R N d0 base AQ w0 S a w ρ) (hc:ji all S) {r:Rec} {o:Oper} {R0 R1:List Rec} (hr:r∈R) (e:R=R1++r::R0)
  (hv:Valid P call all A0 t0 R0) (hi:r.i=R0.length) (ho:all[r.i]? = some o) (jF:S r.i=false) (j5:lh all S r.i) (pY:∀ d,o.dst=some d->d < N) {B:St} (hd:r.jq = .act B) (KF:fy A0 R0<=r.nx) (hB:r.nx=B.next) :
  cq base AQ A0 w0 (ρ.res (fy A0 R0)) ((jE (aC [] all) A0 R0 (eL R0) (eY (aC [] all) r.i)).at (fy A0 R0)) w/\
  ∀ nv v' w',cq base (ρ.res (fy A0 R0)) ((jE (aC [] all) A0 R0 (eL R0) (eY (aC [] all) r.i)).at (fy A0 R0)) w nv B w'->VR nv r.v v'->
   ∃ ak,Inv all A0 t0 R N d0 base AQ w0 (ca S r.i) (a.put o.dst v') w' ak:=by
 have ha:jv r:=⟨B,hd⟩
 obtain ⟨hlS,Lf⟩:=akl hS hc hr e hv hi ha jF ho j5;have hp:=hS.valid.sorted;have hR1:∀ s∈R1,r.i < s.i:=fun s hs=>by
  rw [e,List.pairwise_append] at hp;exact hp.2.2 s hs r (by simp)
 have aeX:∀ s∈R,s.i < r.i->s∈R0:=fun s hs aI=>by
  rw [e] at hs;rcases eP.1 hs with h | h
  ·have:=hR1 s h; omega
  ·rcases bd.1 h with h | h
   ·rw [h] at aI; omega
   ·exact h
 have hcn:(dk A0 R S).next<=fy A0 R0:=by
  rcases hS.last S with ⟨_,h2,_⟩ | ⟨y,hy,h1,h2,h3,h4,h5⟩
  ·rw [h2]; exact hv.zh
  ·rw [<- h4]
   refine hv.qL (aeX y hy ?_);rw [hlS] at h1;obtain ⟨z,hz,h6,_⟩:=vG hv.sorted h1;rw [<- h6,hi]; exact hv.lt hz
 have akm:∀ s∈R,eY (aC [] all) r.i s.i=true->s∈R0:=fun s hs h=>aeX s hs (Oc hS.facts h);have qi:=hI.view hS xH (eY (aC [] all) r.i) (fun s hs id ob _ h=>hc.ready hS.facts ho j5 _ h) (fy A0 R0) hcn (fun s hs id ob _ h _=>hv.qL (akm s hs h));rw [<- Lf] at qi;refine ⟨qi,fun nv v' w' hg hvr=>?_⟩;have al4:∀ s∈R,S s.i=true->∀ id ob,s.jq = .make id ob->id < fy A0 R0\/B.next<=id:=by
  intro s hs HF id ob hm;rcases Nat.lt_trichotomy s.i r.i with h | h | h
  ·have:=hv.qL (aeX s hs h)
   have:=(hS.zj hs hm).2;left; omega
  ·rw [h,jF] at HF; simp at HF
  ·have:=hS.Oi hr hs hm h
   right; omega
 have ER:∀ b,b < fy A0 R0->nv b=ρ b:=fun b hb=>by
  have:=hg.ext b hb;rw [Ren.uB hb] at this;exact this
 have amY:∀ b l,nv b=some l->b < B.next:=hg.dI.fZ
 let ak:Ren:=fun b=>if b < B.next then nv b else ρ b
 have hle:ρ.le ak:=by
  intro b l h;show (if b < B.next then nv b else ρ b)=some l;split
  ·rename_i hb
   by_cases hb0:b < fy A0 R0
   ·rw [ER b hb0]; exact h
   ·rcases hI.fZ b l h with h1 | ⟨s,hs,h1,ob,h2⟩
    ·omega
    ·rcases al4 s hs h1 b ob h2 with h3 | h3 <;> omega
  ·exact h
 have C7:ak.res B.next=nv:=by
  funext b;unfold Ren.res;by_cases hb:b < B.next
  ·rw [ax hb]; show (if b < B.next then nv b else ρ b)=nv b; rw [ax hb]
  ·rw [ae hb]
   cases h:nv b with
   | none=>rfl
   | some l=>exact absurd (amY b l h) hb
 have iL:lS R (ca S r.i)=some r.i:=by
  have amZ:∀ s∈R,jv s->S s.i=true->s.i < r.i:=by
   intro s hs h HF;rcases Nat.lt_trichotomy s.i r.i with h1 | h1 | h1
   ·exact h1
   ·rw [h1,jF] at HF; simp at HF
   ·have:=hc _ _ HF (va hS.facts hS.valid hS.chain hs hr h ha h1)
    rw [jF] at this; simp at this
  rcases hS.last (ca S r.i) with ⟨_,_,h3⟩ | ⟨y,hy,h1,h2,h3,_,h5⟩
  ·have:=h3 r hr ha
   rw [oL] at this; simp at this
  ·have h6:=h5 r hr ha (oL _ _)
   rw [h1];by_cases hyr:y.i=r.i
   ·rw [hyr]
   ·rw [iH hyr] at h2
    have:=amZ y hy ⟨_,h3⟩ h2;omega
 have YX:dk A0 R (ca S r.i)=B:=by
  simp only [dk,iL,qb];exact BH (fun s hs he=>hS.valid.inj hs hr he) hr rfl hd
 have hold:∀ s∈R,ca S r.i s.i=true->∀ id ob,s.jq = .make id ob->eY (aC [] all) r.i s.i=false->S s.i=true/\Hc (aC [] all) (lS R S) s.i=false:=by
  intro s hs h id ob hm hb;have bA:s.i≠r.i:=fun e'=>by
   have:=hS.valid.inj hs hr e';subst this;rw [hd] at hm; simp at hm
  rw [iH bA] at h;refine ⟨h,?_⟩;cases hl:lS R S with
  | none=>rfl
  | some k=>
   cases hk:eY (aC [] all) k s.i with
   | false=>exact hk
   | true=>
    exfalso;rw [hlS] at hl;obtain ⟨z,hz,h6,h7,_⟩:=vG hv.sorted hl;have h8:=va hS.facts hS.valid hS.chain hr (by rw [e]; simp [hz]) ha h7 (by rw [hi]; exact hv.lt hz);rw [h6] at h8;rw [T4 hS.facts h8 hk] at hb;simp at hb
 have al5:∀ s∈R,S s.i=true->∀ id ob,s.jq = .make id ob->Hc (aC [] all) (lS R S) s.i=false->eY (aC [] all) r.i s.i=false->∀ c cb,ρ id=some (qf ob cb)->w.heap[cb]? = some c->¬ EO (ρ.res (dk A0 R S).next) (dk A0 R S) cb->
   ¬ EO (ρ.res (fy A0 R0)) ((jE (aC [] all) A0 R0 (eL R0) (eY (aC [] all) r.i)).at (fy A0 R0)) cb:=by
  rintro s hs HF id ob hm hbe hb c cb iZ hw hni ⟨x,ox,lx,hx,SI,hrx,rfl⟩;have hdx:ox≠.dead:=by intro e'; subst e'; simp [aY.ct] at SI
  rw [Lf] at hx;rcases zi hx with ⟨u,hu,XG,hmu⟩ | ⟨hcx,_⟩
  ·simp only [aj,iA] at XG
   have hus:=hc.ready hS.facts ho j5 _ XG.1;have bA:s.i≠u.i:=fun e'=>by rw [e',XG.1] at hb; simp at hb
   exact hI.yc s hs u hu HF hus id ob x ox hm hmu hbe XG.2 bA _ _ iZ (ρ.YV _ _ _ hrx) (by rw [Bm])
  ·obtain ⟨l',h1,_⟩:=hI.core.dI.rel.obj hcx hdx
   have:=ρ.sQ hcn _ _ h1;rw [hrx] at this; simp at this; subst this;exact hni ⟨x,ox,lx,hcx,SI,h1,rfl⟩
 refine ⟨ak,?_,?_,Mh hS hI hc hr ho jF pY hle (by rw [hB,C7]; exact hvr),?_,?_,?_,?_,?_⟩
 ·rw [<- hI.size]; cases o.dst <;> simp [Act.put]
 ·rw [<- hI.defers]; cases o.dst <;> rfl
 ·rw [YX,C7]; exact qi.trans hg
 ·rw [YX,iL,C7]
  intro s hs h id ob hm hb;obtain ⟨h1,h2⟩:=hold s hs h id ob hm hb;obtain ⟨c,cb,h3,h4,h5,h6,h7⟩:=hI.news s hs h1 id ob hm h2;have hn:=al5 s hs h1 id ob hm h2 hb c cb h3 h5 h7;have aI:=(jh.1 h5).1;exact ⟨c,cb,hle _ _ h3,h4.mono (Ren.zg hle _),by rw [hg.kept.block cb aI hn]; exact h5,h6,fun hk=>hn (hg.SF cb aI hk)⟩
 ·rw [iL]
  intro s hs u hu h1 h2 id1 ob1 id2 ob2 d1 d2 b1 b2 bA l1 l2 e1 e2;obtain ⟨p1,p2⟩:=hold s hs h1 id1 ob1 d1 b1;obtain ⟨q1,q2⟩:=hold u hu h2 id2 ob2 d2 b2;obtain ⟨_,cb,p3,_⟩:=hI.news s hs p1 id1 ob1 d1 p2;obtain ⟨_,cb',q3,_⟩:=hI.news u hu q1 id2 ob2 d2 q2;rw [hle _ _ p3] at e1;rw [hle _ _ q3] at e2;simp at e1 e2;subst e1 e2;exact hI.yc s hs u hu p1 q1 id1 ob1 id2 ob2 d1 d2 p2 q2 bA _ _ p3 q3
 ·intro s hs h id ob hm
  have bA:s.i≠r.i:=fun e'=>by rw [e',oL] at h; simp at h
  rw [iH bA] at h;have h0:=hI.Oh s hs h id ob hm;show (if id < B.next then nv id else ρ id)=none;split
  ·rename_i hb
   rcases Nat.lt_or_ge s.i r.i with h1 | h1
   ·have:=hv.qL (aeX s hs h1)
    have:=(hS.zj hs hm).2;rw [ER id (by omega)]; exact h0
   ·have:=hS.Oi hr hs hm (by omega)
    omega
  ·exact h0
 ·rw [YX]
  intro b l h;have h:(if b < B.next then nv b else ρ b)=some l:=h;split at h
  ·exact .inl ‹_›
  ·rename_i hb
   rcases hI.fZ b l h with h1 | ⟨s,hs,h1,h2⟩
   ·omega
   ·exact .inr ⟨s,hs,by unfold ca; rw [h1]; rfl,h2⟩
end
end
end Go.aA
end
section
namespace Go.aA
noncomputable section
open Go
structure TR (ρ:Ren) (t:Tm) (N:Nat) (a:Act):Prop where
 size:a.tmps.size=N
 val:∀ i,VR ρ ((t.get i).getD undef) (a.tmps.getD i undef)
 none:∀ i,N<=i->t.get i=Option.none
 lK:NR ρ
theorem VR.undef {ρ:Ren} : VR ρ undef undef:=VR.of_flat (by simp [Go.undef,flat,wh,nL])
def Round (P:Program) (l:Nat) (args:Array Value) (w:World) (R:Ending->World->Prop):Prop:=
 ∃ f tmps assign body,(Instr.yield l args).run P w = .ok (.round l f tmps assign body) w/\RoundIn Fence.wide 0 P l f tmps assign body w R
def rE (P:Program) (call:cZ):Prop:=
 ∀ f args A v B,call f args A=some (v,B)->
  (Nat.blt f yB = true → ∃ fn, P.funcs[f]? = some fn ∧ fn.body.isSome = true ∧ (fn.name == "runtime.NumGoroutine") = false) ∧
  ∀ (ρ:Ren) (bM:List Value) (base:Nat) (w:World),cD ρ args bM->iv ρ A base w->
   (Nat.blt f yB=true->Calls P f bM.toArray w fun e w'=>∃ ak v',e = .returned v'/\VR ak v v'/\cq base ρ A w ak B w')/\
   (Nat.blt f yB=false->∀ loc,ρ (Nat.sub f yB)=some loc->Round P loc.cb bM.toArray w fun e w'=>∃ ak v',e = .returned v'/\VR ak v v'/\cq base ρ A w ak B w')
theorem aaX {P:Program} {o:Oper} {r:Option Nat} {a:Act} {w:World} {next:Act->World->Prop} {Q:Exit->Act->World->Prop} (hnd:∀ c,o.op≠.defer c)
  (h:o.uponIn (Fr r) 0 P a next Q ((execOp a.eval o).run P w)):o.wpIn (Fr r) 0 P a w next Q:=by
 refine ⟨fun _ _=>trivial,?_⟩;rw [Oper.semAt_eq _ _ _ hnd];exact h
theorem Ub {args:List Value} {v:Value} {g:FuncId} {vs:List Value} (h:jd args v=some (g,vs)) (hg:Nat.blt g yB=false):∃ l,v = .func (.yield l) ⟨[]⟩ ⟨[]⟩/\Nat.sub g yB=l/\vs=args:=by
 unfold jd at h;split at h
 ·rename_i g' first cap
  cases hb:Nat.blt g' yB with
  | false=>rw [hb] at h; simp at h
  | true=>
   rw [hb] at h;simp only [ah,aR,bG] at h;rw [h.1,hg] at hb;simp at hb
 ·rename_i l
  simp only [aR,bG] at h;exact ⟨l,rfl,by rw [<- h.1]; exact Nat.add_sub_cancel_left ..,h.2.symm⟩
 ·simp at h
theorem aaY {P:Program} {call:cZ} {o:Oper} {r:Option Nat} {f:Operand} {xs:List Operand} {g:FuncId} {vs:List Value} {A B:St} {v:Value} {ρ:Ren} {ev:Operand->Value} {a:Act} {base:Nat} {w:World} {next:Act->World->Prop} {Q:Exit->Act->World->Prop}
  (bL:fv P o (.call f xs)) (dR:rE P call) (ma:qK ρ ev a.eval (f::xs)) (Hd:jd (xs.map ev) (ev f)=some (g,vs)) (h:call g vs A=some (v,B)) (hs:iv ρ A base w)
  (hk:∀ ak v' w',VR ak v v'->cq base ρ A w ak B w'->next (a.put o.dst v') w'):o.uponIn (Fr r) 0 P a next Q ((execOp a.eval o).run P w):=by
 obtain ⟨Qa,hc⟩:=dR _ _ _ _ _ h;cases hb:Nat.blt g yB with
 | true=>
  obtain ⟨bw,h1,h2⟩:=bL.2 ρ _ _ _ _ ma hb Hd (Qa hb);rw [h2 w];refine ⟨fun h=>by simp [Fence.wide] at h,?_⟩;have h3:=(callsIn_wide (n:=0)).2 ((hc ρ bw base w h1 hs).1 hb);refine CallsIn.mono (F:=Fr r) (n:=0) (R:=fun e w'=>∃ ak v',e = .returned v'/\VR ak v v'/\cq base ρ A w ak B w') h3 ?_;rintro e w' ⟨ak,v',rfl,h4,h5⟩;exact hk ak v' w' h4 h5
 | false=>
  obtain ⟨l,e1,e2,rfl⟩:=Ub Hd hb;obtain ⟨loc,bw,h0,h1,h2⟩:=bL.1 ρ _ _ l ma e1;obtain ⟨f',tmps,assign,body,h3,h4⟩:=(hc ρ bw base w h1 hs).2 hb loc (by rw [e2]; exact h0);rw [h2 w,h3];refine ⟨fun h=>by simp [Fence.wide] at h,?_⟩;refine RoundIn.mono (F:=Fr r) (n:=0) (R:=fun e w'=>∃ ak v',e = .returned v'/\VR ak v v'/\cq base ρ A w ak B w') h4 ?_;rintro e w' ⟨ak,v',rfl,h4,h5⟩;exact hk ak v' w' h4 h5
section
variable {P:Program} {call:cZ} {all:List Oper} {A0:St} {t0:Tm} {R:List Rec} {N:Nat} {d0:List Deferred} {base:Nat} {AQ:Ren} {w0:World}
theorem Inv.congr (hS:Setup P call all A0 t0 R) {S S' : Nat->Bool} {a:Act} {w:World} {ρ:Ren} (h:∀ i,i < all.length->S i=S' i) (hI:Inv all A0 t0 R N d0 base AQ w0 S a w ρ):Inv all A0 t0 R N d0 base AQ w0 S' a w ρ:=by
 have hR:∀ r∈R,S r.i=S' r.i:=fun r hr=>h _ (by rw [<- hS.len]; exact hS.valid.lt hr);have hl:lS R S' = lS R S:=(wA R fun s hs _=>hR s hs).symm;have hw:∀ x,writer all R S' x=writer all R S x:=fun x=>(find_congr R fun s hs=>by rw [hR s hs]).symm;have hc:dk A0 R S' = dk A0 R S:=by simp only [dk,hl]
 refine ⟨hI.size,hI.defers,fun x=>?_,by rw [hc]; exact hI.core,?_,?_,?_,?_⟩
 ·unfold T6 valOf; rw [hw]; exact hI.tm x
 ·rw [hc,hl]; intro r hr h1; exact hI.news r hr (by rw [hR r hr]; exact h1)
 ·rw [hl]; intro r hr s hs h1 h2; exact hI.yc r hr s hs (by rw [hR r hr]; exact h1) (by rw [hR s hs]; exact h2)
 ·intro r hr h1; exact hI.Oh r hr (by rw [hR r hr]; exact h1)
 ·rw [hc]
  intro b l h1;rcases hI.fZ b l h1 with h2 | ⟨s,hs,h2,h3⟩
  ·exact .inl h2
  ·exact .inr ⟨s,hs,by rw [<- hR s hs]; exact h2,h3⟩
theorem YY {o:Oper} {d:Tmp} (h:d∈vD all o):d∈looks P all o:=by unfold looks; simp [h]
theorem agN {o:Oper} {x:Tmp} (h:Operand.tmp x∈ac8 (compile P o.op)):x∈looks P all o:=by unfold looks; simp [pX h]
theorem Ll {b:List Nat} {es:List (Option Nat)} : ∀ {rs:List Rec},EE b A0 R es rs=true->∀ r∈rs,∀ f vs,r.jq = .read f vs->under r.nx r.v=true/\NN b A0 R r f vs es=true
 | [],_,r,h,_,_,_=>by simp at h
 | x::rs,h,r,hr,f,vs,hd=>by
  simp only [EE,aj] at h;rcases bd.1 hr with e | hr
  ·subst e
   rw [hd] at h;simpa using h.1
  ·exact Ll h.2 r hr f vs hd
theorem Ol {b:List Nat} {r:Rec} {f:St->List Value->Option Value} {vs:List Value} {e:Option Nat} : ∀ {es:List (Option Nat)},NN b A0 R r f vs es=true->e∈es->H0 b r.i e R=true->f (jE b A0 R e (eY b r.i)) vs=some r.v
 | [],_,h,_=>by simp at h
 | x::es,h,he,hm=>by
  simp only [NN,aj] at h;rcases bd.1 he with rfl | he
  ·have h1:=h.1
   rw [hm,ah] at h1;unfold ah0 at h1;split at h1
   ·rename_i u hu; rw [hu,Qm h1]
   ·simp at h1
  ·exact Ol h.2 he hm
theorem WM {b:List Nat} {R:List Rec} (h:EE b A0 R (jY R) R=true):Mg b A0 R:=fun r hr f vs hd=>by
 obtain ⟨h1,h2⟩:=Ll h r hr f vs hd;exact ⟨.inl h1,fun e he hm=>Ol h2 he hm⟩
theorem Om:∀ {R:List Rec} {r:Rec},r∈R->jv r->some r.i∈jY R
 | [],r,h,_=>by simp at h
 | x::R,r,h,ha=>by
  simp only [jY];rcases bd.1 h with rfl | h
  ·obtain ⟨B,hB⟩:=ha; rw [hB]; simp
  ·have:=Om h ha
   split
   ·simp [this]
   ·exact this
theorem Lm:∀ (R:List Rec),none∈jY R
 | []=>by simp [jY]
 | x::R=>by
  simp only [jY];have:=Lm R;split
  ·simp [this]
  ·exact this
theorem Uc {b:List Nat} {i:Nat} {e:Option Nat} : ∀ {R:List Rec},(∀ r∈R,jv r->match e with | some e=>(eY b i r.i=true->r.i<=e)/\(eY b r.i i=true->e < r.i) | none=>eY b i r.i=false)->H0 b i e R=true
 | [],_=>rfl
 | r::R,h=>by
  simp only [H0,aj];refine ⟨?_,Uc fun s hs=>h s (by simp [hs])⟩;split
  ·rename_i B hB
   have:=h r (by simp) ⟨B,hB⟩;cases e with
   | none=>simp only at this ⊢; simp [this]
   | some e=>
    simp only at this ⊢;simp only [aj,oa,iA];refine ⟨?_,?_⟩
    ·cases hb:eY b i r.i with
     | false=>exact .inl rfl
     | true=>exact .inr (by rw [Nat.ble_eq]; exact this.1 hb)
    ·cases hb:eY b r.i i with
     | false=>exact .inl rfl
     | true=>exact .inr (by rw [b8]; exact this.2 hb)
  ·rfl
theorem adt (hS:Setup P call all A0 t0 R) {S:Nat->Bool} (hc:ji all S) {r:Rec} {o:Oper} (ho:all[r.i]? = some o) (jF:S r.i=false) (j5:lh all S r.i) :
  lS R S∈jY R/\H0 (aC [] all) r.i (lS R S) R=true:=by
 rcases hS.last S with ⟨h1,_,h3⟩ | ⟨y,hy,h1,h2,h3,_,h5⟩
 ·rw [h1]
  refine ⟨Lm R,Uc fun s hs ha=>?_⟩;cases hb:eY (aC [] all) r.i s.i with
  | false=>rfl
  | true=>
   have:=hc.ready hS.facts ho j5 _ hb;rw [h3 s hs ha] at this; simp at this
 ·rw [h1]
  refine ⟨Om hy ⟨_,h3⟩,Uc fun s hs ha=>⟨fun hb=>h5 s hs ha (hc.ready hS.facts ho j5 _ hb),fun hb=>?_⟩⟩;have hns:S s.i=false:=by
   cases HF:S s.i with
   | false=>rfl
   | true=>
    have:=hc _ _ HF hb;rw [jF] at this; simp at this
  rcases Nat.lt_trichotomy y.i s.i with h | h | h
  ·exact h
  ·rw [<- h,h2] at hns; simp at hns
  ·have:=hc _ _ h2 (va hS.facts hS.valid hS.chain hy hs ⟨_,h3⟩ ha h)
   rw [hns] at this; simp at this
theorem VR.aii {ρ:Ren} {n m:Nat} {v v' : Value} (hv:VR ((ρ.res n).res m) v v'):VR (ρ.res m) v v':=by
 refine hv.mono fun b l e=>?_;obtain ⟨h1,h2⟩:=Ren.Oa e;obtain ⟨_,h3⟩:=Ren.Oa h2;rw [Ren.uB h1]; exact h3
theorem Inv.lK {S:Nat->Bool} {a:Act} {w:World} {ρ:Ren} (hI:Inv all A0 t0 R N d0 base AQ w0 S a w ρ) (xH:iv AQ A0 base w0) {n:Nat} (hn:A0.next<=n):NR (ρ.res n):=fun g hg=>by
 obtain ⟨l,e,h⟩:=xH.lK g hg;have h1:=xH.fZ g l e;have h2:=hI.core.ext g h1;rw [e] at h2;obtain ⟨_,h3⟩:=Ren.Oa h2;exact ⟨l,by rw [Ren.uB (by omega)]; exact h3,h⟩
theorem aaZ (dR:rE P call) (hS:Setup P call all A0 t0 R) (xH:iv AQ A0 base w0) (Qo:all.all (tF N)=true) (ht0:∀ x,N<=x->t0.get x=none) {Q:Exit->Act->World->Prop} {S:Nat->Bool} {a:Act} {w:World} {i:Nat} {o:Oper}
  (hI:∃ ρ,Inv all A0 t0 R N d0 base AQ w0 S a w ρ) (hc:ji all S) (ho:all[i]? = some o) (jF:S i=false) (j5:lh all S i) {rd:Option Nat} :
  wpOpIn (Fr rd) 0 P ⟨all⟩ Q i (fun a' w'=>∃ ρ,Inv all A0 t0 R N d0 base AQ w0 (ca S i) a' w' ρ) a w:=by
 obtain ⟨ρ,hI⟩:=hI;have aI:i < all.length:=(cp.1 ho).1;obtain ⟨r,hr,rfl⟩:=hS.valid.get (i:=i) (by rw [hS.len]; exact aI);obtain ⟨R0,R1,e,hv,hi,o',ho',fR⟩:=hS.valid.at hr;rw [ho] at ho';simp at ho';subst ho';have pY:∀ d,o.dst=some d->d < N:=by
  intro d ed;have:=dS.1 Qo o (eW ho);unfold tF at this;rw [ed] at this;simp only at this;rw [b8] at this;exact this
 have hoA:(⟨all⟩:Array Oper)[r.i]? = some o:=by simpa using ho
 have ald:∀ x∈looks P all o,VR (ρ.res (fy A0 R0)) (((rY all t0 R0).get x).getD undef) (a.tmps.getD x undef):=fun x hx=>agL hS hI hc hr e hv ho jF j5 hx;have htN:∀ (R0:List Rec) (x:Nat),N<=x->(rY all t0 R0).get x=none:=by
  intro R0 x hx
  induction R0 with
  | nil=>exact ht0 x hx
  | cons s R0 ih=>
   simp only [rY];cases hds:lO all s.i with
   | none=>exact ih
   | some d=>
    simp only [wj,Trie.iY];have hd:d < N:=by
     unfold lO at hds;obtain ⟨os,h1,h2⟩:=aO.1 hds;have:=dS.1 Qo os (eW h1);unfold tF at this;rw [h2] at this;simp only at this;rw [b8] at this;exact this
    rw [ae (fun e=>by rw [e] at hx; exact absurd hd (Nat.not_lt_of_le hx))];exact ih
 unfold wm at fR;obtain ⟨wd,HG,fR⟩:=aO.1 fR;have adu:Region.wanted o (yielded ⟨all⟩ a.tmps)=wd:=YW (fun d hd=>⟨ald d (YY hd),fun bA=>by
  rw [hI.size];rcases Nat.lt_or_ge d N with h | h
  ·exact h
  ·exact absurd (htN R0 d h) bA⟩) HG
 unfold wpOpIn;rw [hoA];simp only [adu];cases wd with
 | false=>
  simp only [ay,aR] at fR;have zk:r.jq = .val:=by rw [<- fR]
  have YZ:r.v=undef:=by rw [<- fR]
  simp only [CU,if_false];exact ⟨fun _ _=>trivial,ρ,hI.plain hS hc hr ho jF pY (by rintro ⟨B,hB⟩; rw [zk] at hB; simp at hB) (fun id ob h=>by rw [zk] at h; simp at h) (by rw [YZ]; exact VR.undef)⟩
 | true=>
  simp only [ah] at fR;simp only [if_true];refine aaX (fun c e=>by rw [e] at fR; simp [compile,iQ] at fR) ?_;have bL:=nf P o;have ma:qK (ρ.res (fy A0 R0)) (lJ (rY all t0 R0)) a.eval (ac8 (compile P o.op)):=by
   intro x hx;cases x with
   | tmp x=>exact ald x (agN hx)
   | const v=>
    simp only [lJ,Act.eval];cases hf:flat v with
    | true=>exact VR.of_flat hf
    | false=>simp [VR]
   | global g=>exact (hI.lK xH hv.zh).ev g
   | func f=>exact VR.JW (l:=[]) (m:=[]) (.func f) rfl .nil .nil
  generalize compile P o.op=ins at fR bL ma;cases ins with
  | pure f xs=>
   simp only [iQ] at fR;obtain ⟨v,zL,fR⟩:=aU.1 fR;have zk:r.jq = .val:=by rw [<- fR]
   have YZ:r.v=v:=by rw [<- fR]
   have KF:r.nx=fy A0 R0:=by rw [<- fR]
   obtain ⟨v',h1,h2⟩:=bL _ _ _ _ ma zL;rw [h2 w];exact ⟨ρ,hI.plain hS hc hr ho jF pY (by rintro ⟨B,hB⟩; rw [zk] at hB; simp at hB) (fun id ob h=>by rw [zk] at h; simp at h) (by rw [YZ,KF]; exact h1)⟩
  | read f xs=>
   simp only [iQ] at fR;obtain ⟨v,zL,fR⟩:=aU.1 fR;have zk:r.jq = .read f (xs.map (lJ (rY all t0 R0))):=by rw [<- fR]
   obtain ⟨hun,WN⟩:=hS.reads r hr _ _ zk;obtain ⟨hm1,hm2⟩:=adt hS hc ho jF j5;have uc:=WN _ hm1 hm2;rcases hun with hun | aeY
   rotate_left
   ·
    have Oo:=aeY.1;have vd:(dk A0 R S).next<=r.nx:=aeY.2 _ hm1 hm2;have qi:=hI.view hS xH (eY (aC [] all) r.i) (fun s hs id ob h=>(Oo s hs id ob h).elim) r.nx vd (fun s hs id ob h=>(Oo s hs id ob h).elim);have hrel:Rel (ρ.res r.nx) (jE (aC [] all) A0 R (lS R S) (eY (aC [] all) r.i)).get (jE (aC [] all) A0 R (lS R S) (eY (aC [] all) r.i)).members base w:=qi.dI.rel;have am0:r.nx=fy A0 R0:=by rw [<- fR]
    obtain ⟨v',h1,h2⟩:=bL _ _ _ _ _ _ _ hrel (fun x hx=>by have:=ma x hx; rwa [<- am0] at this) uc;rw [h2];exact ⟨ρ,hI.plain hS hc hr ho jF pY (by rintro ⟨B,hB⟩; rw [zk] at hB; simp at hB) (fun id ob h=>by rw [zk] at h; simp at h) h1⟩
   have KF:r.nx=fy A0 R0:=by rw [<- fR]
   let n:=(dk A0 R S).next+fy A0 R
   have qi:=hI.view hS xH (eY (aC [] all) r.i) (fun s hs id ob _ h=>hc.ready hS.facts ho j5 _ h) n (Nat.le_add_right _ _) (fun s hs id ob _ _ _=>dx (hS.valid.qL hs) (Nat.le_add_left _ _));have WH:fy A0 R0<=n:=by
    have:=hS.valid.qL hr;rw [<- KF];exact dx this (Nat.le_add_left _ _)
   have hrel:Rel (ρ.res n) (jE (aC [] all) A0 R (lS R S) (eY (aC [] all) r.i)).get (jE (aC [] all) A0 R (lS R S) (eY (aC [] all) r.i)).members base w:=qi.dI.rel;obtain ⟨v',h1,h2⟩:=bL _ _ _ _ _ _ _ hrel (fun x hx=>(ma x hx).mono (ρ.sQ WH)) uc;rw [h2];refine ⟨ρ,hI.plain hS hc hr ho jF pY (by rintro ⟨B,hB⟩; rw [zk] at hB; simp at hB) (fun id ob h=>by rw [zk] at h; simp at h) ?_⟩;exact VR.aii (VR.under hun h1)
  | make f xs=>
   simp only [iQ] at fR;obtain ⟨⟨ob,mk⟩,zL,fR⟩:=aU.1 fR;have zk:r.jq = .make (fy A0 R0) ob:=by rw [<- fR]
   have YZ:r.v=mk (fy A0 R0):=by rw [<- fR]
   have KF:r.nx=fy A0 R0+1:=by rw [<- fR]
   obtain ⟨c,mk',h1,h2,h3⟩:=bL _ _ _ _ _ ma zL;rw [h2 w];exact ⟨_,hI.made hS hc hr ho jF pY zk h1 (by omega) (fun ak h=>by rw [YZ]; exact h3 _ _ _ h)⟩
  | act f xs=>
   simp only [iQ] at fR;obtain ⟨⟨v,B⟩,zL,fR⟩:=aO.1 fR;cases hb:Nat.ble (fy A0 R0) B.next with
   | false=>rw [hb] at fR; simp at fR
   | true=>
    rw [hb] at fR;simp only [ah,aR] at fR;have zk:r.jq = .act B:=by rw [<- fR]
    have YZ:r.v=v:=by rw [<- fR]
    have KF:r.nx=B.next:=by rw [<- fR]
    obtain ⟨qi,C8⟩:=hI.aih hS xH hc hr e hv hi ho jF j5 pY zk (by rw [KF]; exact cL hb) KF;obtain ⟨nv,v',nx,w',h1,h2,h3,h4⟩:=bL _ _ _ _ w _ _ _ qi.dI ma zL;rw [h1];have Ud:=C8 nv v' w' h4 (by rw [YZ]; exact h3);cases nx with
    | value u=>
     have:u=v':=h2;subst this;exact Ud
    | skip=>
     have:v' = undef:=h2;subst this;exact Ud
    | _=>exact h2.elim
  | call f args=>
   simp only [iQ] at fR;obtain ⟨⟨g,vs⟩,Hd,fR⟩:=aO.1 fR;obtain ⟨⟨v,B⟩,zL,fR⟩:=aO.1 fR;cases hb:Nat.ble (fy A0 R0) B.next with
   | false=>rw [hb] at fR; simp at fR
   | true=>
    rw [hb] at fR;simp only [ah,aR] at fR;have zk:r.jq = .act B:=by rw [<- fR]
    have YZ:r.v=v:=by rw [<- fR]
    have KF:r.nx=B.next:=by rw [<- fR]
    obtain ⟨qi,C8⟩:=hI.aih hS xH hc hr e hv hi ho jF j5 pY zk (by rw [KF]; exact cL hb) KF;exact aaY bL dR ma Hd zL qi.dI fun nv v' w' h3 h4=>C8 nv v' w' h4 (by rw [YZ]; exact h3)
  | bad=>simp [iQ] at fR
theorem Il {P:Program} {call:cZ} {rd:Option Nat} (dR:rE P call) (hm:P.follows .mixedOrders=true) {id:Nat} {all:List Oper} {N base:Nat} (Qo:all.all (tF N)=true) {t t1:Tm} {A:St} {R:List Rec} {ρ:Ren} {a:Act} {w:World} {Q:Exit->Act->World->Prop}
  (bL:sK P all=true) (Y0:ux P call (aC [] all) all A all 0 [] t=some (R,t1)) (aij:qJ (aC [] all) R=true) (akn:Mg (aC [] all) A R) (ht:TR ρ t N a) (hs:iv ρ A base w)
  (hq:∀ ak a' w',TR ak t1 N a'->a'.defers=a.defers->cq base ρ A w ak ((jE (aC [] all) A R (eL R) (fun _=>true)).at (fy A R)) w'->Q .normal a' w'):(Code.region id ⟨all⟩ true).wpIn (Fr rd) 0 P Q a w:=by
   obtain ⟨hv,rfl,hlen⟩:=Oe (P:=P) (call:=call) (all:=all) (A0:=A) (t0:=t) all [] R t1 (by simp) trivial Y0;have hS:Setup P call all A t R:=⟨zP bL,hv,by simpa using hlen,aij,akn⟩
   have hsd:iv ρ A base w.drew:=(cq.drew hs).dI;refine wpIn_region_any hm ?_;show wpAnyIn (Fr rd) 0 P .any ⟨all⟩ Q all.length (Array.replicate all.length false) a w.drew;have Im:∀ i,(Array.replicate all.length false).getD i false=false:=by
    intro i;rw [dF,Array.getElem?_replicate];split <;> rfl
   have Oo:∀ i,(fun j=>(Array.replicate all.length false).getD j false) i=true->False:=fun i h=>by
    have h2:(Array.replicate all.length false).getD i false=true:=h;rw [Im] at h2;simp at h2
   refine RI hS.facts (fun S a' w'=>∃ ak,Inv all A t R N a.defers base ρ w.drew S a' w' ak) (fun S S' a' w' hSS ⟨ak,hI⟩=>⟨ak,hI.congr hS hSS⟩)
    (fun S a' w' i o hI hc ho jF j5 _=>aaZ dR hS hsd Qo ht.none hI hc ho jF j5) ?_ all.length _ a w.drew (by simp) ?_ (fun i j hi _=>(Oo i hi).elim) ⟨ρ,?_⟩
   ·rintro S a' w' gV ⟨ak,hI⟩
    have qi:=hI.view hS hsd (fun _=>true) (fun r hr _ _ _ _=>gV _ (by rw [<- hS.len]; exact hS.valid.lt hr)) (fy A R) ?_ (fun r hr _ _ _ _ _=>hS.valid.qL hr)
    ·have hlS:lS R S=eL R:=by
      have:R=R.filter (fun _=>true):=(List.filter_eq_self.2 fun _ _=>rfl).symm
      conv=>rhs; rw [this]
      exact wA R fun s hs _=>gV _ (by rw [<- hS.len]; exact hS.valid.lt hs)
     rw [hlS] at qi;refine hq (ak.res (fy A R)) a' w' ⟨hI.size,fun x=>?_,fun x hx=>?_,hI.lK hsd hS.valid.zh⟩ hI.defers ((cq.drew hs).trans qi)
     ·have h1:=hI.tm x
      have hw:writer all R S x=R.find? (fun r=>lO all r.i==some x):=find_congr R fun s hs=>by rw [gV _ (by rw [<- hS.len]; exact hS.valid.lt hs)]; simp
      unfold T6 valOf at h1;rw [hw] at h1;rw [BI];cases hf:R.find? (fun r=>lO all r.i==some x) with
      | none=>rw [hf] at h1; exact h1.mono (ak.sQ hS.valid.zh)
      | some s=>rw [hf] at h1; exact h1.mono (ak.sQ (hS.valid.qL (List.mem_of_find?_eq_some hf)))
     ·rw [BI]
      cases hf:R.find? (fun r=>lO all r.i==some x) with
      | none=>exact ht.none x hx
      | some s=>
       exfalso;have h1:=List.find?_some hf;simp only [rB] at h1;unfold lO at h1;obtain ⟨os,h2,h3⟩:=aO.1 h1;have:=dS.1 Qo os (eW h2);unfold tF at this;rw [h3] at this;simp only at this;rw [b8] at this;omega
    ·rcases hS.last S with ⟨_,h2,_⟩ | ⟨y,hy,h1,h2,h3,h4,h5⟩
     ·rw [h2]; exact hS.valid.zh
     ·rw [<- h4]; exact hS.valid.qL hy
   ·simp
   ·have ako:∀ i,(fun j=>(Array.replicate all.length false).getD j false) i=false:=Im
    have hl:lS R (fun j=>(Array.replicate all.length false).getD j false)=none:=by
     have:R.filter (fun r=>(fun j=>(Array.replicate all.length false).getD j false) r.i) = []:=by
      rw [List.filter_eq_nil_iff];intro r _;rw [ako]; simp
     unfold lS;rw [this];rfl
    have hw:∀ x,writer all R (fun j=>(Array.replicate all.length false).getD j false) x=none:=by
     intro x;unfold writer;rw [List.find?_eq_none];intro r _ qM;exact Oo r.i (Bool.and_eq_true_iff.1 qM).1
    have vd:dk A R (fun j=>(Array.replicate all.length false).getD j false)=A:=by unfold dk; rw [hl]; rfl
    have C7:ρ.res A.next=ρ:=by
     funext b;unfold Ren.res;split
     ·rfl
     ·rename_i hb
      cases iZ:ρ b with
      | none=>rfl
      | some l=>exact absurd (hs.fZ b l iZ) hb
    refine ⟨ht.size,rfl,fun x=>?_,?_,?_,?_,?_,?_⟩
    ·unfold T6 valOf
     rw [hw];show VR (ρ.res A.next) _ _;rw [C7];exact ht.val x
    ·rw [vd,C7]; exact cq.refl hsd
    ·intro r hr h1; exact (Oo r.i h1).elim
    ·intro r hr s NX h1; exact (Oo r.i h1).elim
    ·intro r hr _ idn ob hd
     cases iZ:ρ idn with
     | none=>rfl
     | some l=>
      have h1:=hs.fZ idn l iZ;have h2:=(hS.zj hr hd).1;omega
    ·rw [vd]; intro b l h1; exact .inl (hs.fZ b l h1)
end
theorem Y1 {P:Program} {call:cZ} {rd:Option Nat} (dR:rE P call) (hm:P.follows .mixedOrders=true) {id:Nat} {all:List Oper} {N base:Nat} (Qo:all.all (tF N)=true) {t t' : Tm} {A B:St} {ρ:Ren} {a:Act} {w:World} {Q:Exit->Act->World->Prop}
  (h:NP P call all t A=some (t',B)) (ht:TR ρ t N a) (hs:iv ρ A base w) (hq:∀ ak a' w',TR ak t' N a'->a'.defers=a.defers->cq base ρ A w ak B w'->Q .normal a' w'):(Code.region id ⟨all⟩ true).wpIn (Fr rd) 0 P Q a w:=by
 unfold NP at h;cases bL:sK P all with
 | false=>rw [bL] at h; simp at h
 | true=>
  rw [bL,ah] at h;obtain ⟨⟨R,t1⟩,Y0,h⟩:=aO.1 h;cases H7:(qJ (aC [] all) R&&EE (aC [] all) A R (jY R) R) with
  | false=>simp only [H7] at h; simp at h
  | true=>
   simp only [H7,ah,aR,bG] at h;obtain ⟨rfl,rfl⟩:=h;obtain ⟨aij,am1⟩:=Bool.and_eq_true_iff.1 H7;exact Il dR hm Qo bL Y0 aij (WM am1) ht hs hq
theorem zl {A0:St} : ∀ {R:List Rec},Quiet A0 R->eL R=none/\fy A0 R=A0.next/\jY R = [none]/\∀ jH A,mO jH A R=A
 | [],_=>⟨rfl,rfl,rfl,fun _ _=>rfl⟩
 | r::R,h=>by
  obtain ⟨h1,h2,h3,h4⟩:=zl (R:=R) fun s hs=>h s (by simp [hs]);obtain ⟨h5,h6⟩:=h r (by simp);rcases h6 with h6 | ⟨f,vs,h6⟩ <;> exact ⟨by simp [eL,h6,h1],h5,by simp [jY,h6,h3],fun jH A=>by simp [mO,h6,h4]⟩
theorem Ip {A0:St} {R:List Rec} (h:Quiet A0 R) (b:List Nat) (jH:Nat->Bool):jE b A0 R none jH=A0:=by
 unfold jE;rw [(zl h).2.2.2];rfl
theorem Oq {A0:St} (b:List Nat):∀ {R:List Rec},Quiet A0 R->qJ b R=true
 | [],_=>rfl
 | r::R,h=>by
  have ih:=Oq b (R:=R) fun s hs=>h s (by simp [hs]);rcases (h r (by simp)).2 with h6 | ⟨f,vs,h6⟩ <;> simp [qJ,h6,ih]
theorem Y2 {A0:St} {R:List Rec} {b:List Nat} {r:Rec} (h:Quiet A0 R) (hr:r∈R):Still b A0 R r:=
 ⟨fun s hs id ob e=>by rcases (h s hs).2 with h1 | ⟨f,vs,h1⟩ <;> rw [h1] at e <;> simp at e,fun e he _=>by
  rw [(zl h).2.2.1] at he;simp at he;subst he;exact Nat.le_of_eq (h r hr).1.symm⟩
def Ue (A0:St) (R:List Rec):Prop:=∀ r∈R,∀ f vs,r.jq = .read f vs->f A0 vs=some r.v
theorem Ot {P:Program} {call:cZ} {b:List Nat} {all:List Oper} {A0:St} : ∀ (os:List Oper) (i:Nat) (R:List Rec) (t t' : Tm) (B:St),(os.all fun o=>EJ (compile P o.op))=true->Quiet A0 R->Ue A0 R->
  opsV P call all os t A0=some (t',B)->B=A0/\∃ R',ux P call b all A0 os i R t=some (R',t')/\Quiet A0 R'/\Ue A0 R'
 | [],i,R,t,t',B,_,hq,hr,h=>by
  simp only [Xv,aR,bG] at h;obtain ⟨rfl,rfl⟩:=h;exact ⟨rfl,R,rfl,hq,hr⟩
 | o::os,i,R,t,t',B,hl,hq,hr,h=>by
  rw [List.all_cons,aj] at hl;obtain ⟨AL,iM⟩:=hl;simp only [TK] at h;obtain ⟨wd,HG,h⟩:=aO.1 h;obtain ⟨q1,q2,q3,q4⟩:=zl hq;have qi:=Ip hq b (eY b i);have step:∀ r:Rec,wm P call b all A0 R i t o=some r->r.nx=A0.next->(r.jq = .val\/∃ f vs,r.jq = .read f vs)->(∀ f vs,r.jq = .read f vs->f A0 vs=some r.v)->opsV P call all os (wj t o.dst r.v) A0=some (t',B)->
    B=A0/\∃ R',ux P call b all A0 (o::os) i R t=some (R',t')/\Quiet A0 R'/\Ue A0 R':=by
   intro r h1 h2 h3 h4 h5;obtain ⟨e,R',h6,h7,h8⟩:=Ot os (Nat.succ i) (r::R) _ t' B iM (fun s hs=>by
    rcases bd.1 hs with rfl | hs
    ·exact ⟨h2,h3⟩
    ·exact hq s hs) (fun s hs=>by
    rcases bd.1 hs with rfl | hs
    ·exact h4
    ·exact hr s hs) h5
   exact ⟨e,R',by simp only [ux,h1,cA]; exact h6,h7,h8⟩
  cases wd with
  | false=>
   rw [ay] at h;exact step ⟨i,undef,fy A0 R,.val⟩ (by simp [wm,HG]) q2 (.inl rfl) (fun f vs hd=>by simp at hd) h
  | true=>
   rw [ah] at h;obtain ⟨⟨v,C⟩,h1,h2⟩:=aO.1 h;cases hc:compile P o.op with
   | pure f xs=>
    rw [hc] at h1;simp only [og] at h1;obtain ⟨u,hu,he⟩:=aU.1 h1;simp at he;obtain ⟨rfl,rfl⟩:=he;exact step ⟨i,u,fy A0 R,.val⟩ (by simp [wm,HG,hc,iQ,hu]) q2 (.inl rfl) (fun f vs hd=>by simp at hd) h2
   | read f xs=>
    rw [hc] at h1;simp only [og] at h1;obtain ⟨u,hu,he⟩:=aU.1 h1;simp at he;obtain ⟨rfl,rfl⟩:=he;exact step ⟨i,u,fy A0 R,.read f (xs.map (lJ t))⟩ (by simp [wm,HG,hc,iQ,q1,qi,hu]) q2 (.inr ⟨_,_,rfl⟩) (fun f' vs hd=>by simp at hd; obtain ⟨rfl,rfl⟩:=hd; exact hu) h2
   | make f xs=>rw [hc] at AL; simp [EJ] at AL
   | act f xs=>rw [hc] at AL; simp [EJ] at AL
   | call f xs=>rw [hc] at AL; simp [EJ] at AL
   | bad=>rw [hc] at AL; simp [EJ] at AL
theorem Y3 {P:Program} {call:cZ} {rd:Option Nat} (dR:rE P call) (hm:P.follows .mixedOrders=true) {id:Nat} {all:List Oper} {N base:Nat} (Qo:all.all (tF N)=true) {t t' : Tm} {A B:St} {ρ:Ren} {a:Act} {w:World} {Q:Exit->Act->World->Prop}
  (hqv:JT P all=true) (h:opsV P call all all t A=some (t',B)) (ht:TR ρ t N a) (hs:iv ρ A base w) (hq:∀ ak a' w',TR ak t' N a'->a'.defers=a.defers->cq base ρ A w ak B w'->Q .normal a' w'):(Code.region id ⟨all⟩ true).wpIn (Fr rd) 0 P Q a w:=by
 obtain ⟨bL,hl⟩:=Bool.and_eq_true_iff.1 hqv;obtain ⟨rfl,R,Y0,h1,h2⟩:=Ot (b:=aC [] all) all 0 [] t t' B hl (fun r hr=>by simp at hr) (fun r hr=>by simp at hr) h;obtain ⟨q1,q2,q3,q4⟩:=zl h1;refine Il dR hm Qo bL Y0 (Oq _ h1) (fun r hr f vs hd=>⟨.inr (Y2 h1 hr),fun e he _=>?_⟩) ht hs fun ak a' w' wB xI hg=>?_
 ·rw [q3] at he
  simp at he;subst he;rw [Ip h1];exact h2 r hr f vs hd
 ·rw [q1,Ip h1,q2] at hg
  exact hq ak a' w' wB xI hg
end
end Go.aA
end
section
namespace Go.aA
noncomputable section
open Go
variable {P:Program} {call:cZ} {all:List Oper} {A0:St}
theorem Ou {b:List Nat} {i:Nat} : ∀ (ys:List Oper) (k:Nat),JU P b i ys k=true->∀ (j:Nat) (y:Oper),ys[j]? = some y->i≠k+j->zJ (compile P y.op)≠0->eY b i (k+j)=true\/eY b (k+j) i=true
 | [],k,_,j,y,hy,_,_=>by simp at hy
 | y0::ys,k,h,0,y,hy,bA,hk=>by
  simp at hy;subst hy;simp only [JU,aj,oa] at h;rcases h.1 with ((h1 | h1) | h1) | h1
  ·exact absurd (aE h1) bA
  ·exact absurd (aE h1) hk
  ·exact .inl h1
  ·exact .inr h1
 | y0::ys,k,h,j+1,y,hy,bA,hk=>by
  simp only [JU,aj] at h;have:=Ou ys (Nat.succ k) h.2 j y (by simpa using hy) (by rw [Nat.succ_add]; exact bA) hk;rwa [Nat.succ_add] at this
theorem Ln {b:List Nat} : ∀ (os:List Oper) (k:Nat),H4 P b all os k=true->∀ (j:Nat) (o:Oper),os[j]? = some o->zJ (compile P o.op)=3->JU P b (k+j) all 0=true
 | [],k,_,j,o,ho,_=>by simp at ho
 | o0::os,k,h,0,o,ho,hk=>by
  simp at ho;subst ho;simp only [H4,aj,oa,iA] at h;rcases h.1 with h1 | h1
  ·rw [hk] at h1; simp at h1
  ·exact h1
 | o0::os,k,h,j+1,o,ho,hk=>by
  simp only [H4,aj] at h;have:=Ln os (Nat.succ k) h.2 j o (by simpa using ho) hk;rwa [Nat.succ_add] at this
structure J0 (P:Program) (all:List Oper):Prop where
 Uf:iR P all
 wC:∀ (i:Nat) (o:Oper),all[i]? = some o->zJ (compile P o.op)≠2
 order:∀ (i j:Nat) (o y:Oper),all[i]? = some o->all[j]? = some y->zJ (compile P o.op)=3->zJ (compile P y.op)≠0->i≠j->eY (aC [] all) i j=true\/eY (aC [] all) j i=true
theorem agO (h:vE P all=true):sK P all=true/\J0 P all:=by
 simp only [vE,aj] at h;obtain ⟨⟨h1,h2⟩,h3⟩:=h;refine ⟨h1,zP h1,fun i o ho=>?_,fun i j o y ho hy hk pb bA=>?_⟩
 ·have:=dS.1 h2 o (eW ho)
  intro e;rw [e] at this;simp at this
 ·have h4:=Ln all 0 h3 i o ho hk
  rw [bF] at h4;have:=Ou all 0 h4 j y hy (by rw [bF]; exact bA) pb;rwa [bF] at this
structure wD (P:Program) (all:List Oper) (A0:St) (i:Nat) (R:List Rec) (A:St):Prop where
 post:qb A0 R (eL R)=A
 nx:fy A0 R=A.next
 below:∀ s∈R,s.i < i
 wC:∀ s∈R,∀ id o,s.jq≠.make id o
 kind:∀ s∈R,∃ o,all[s.i]? = some o/\(jv s->zJ (compile P o.op)=3)/\∀ f vs,s.jq = .read f vs->zJ (compile P o.op)=1
 last:match eL R with
  | none=>∀ s∈R,¬ jv s
  | some y=>(∃ s∈R,jv s/\s.i=y)/\∀ s∈R,jv s->s.i<=y
 reads:∀ s∈R,∀ f vs,s.jq = .read f vs->∃ e,f (qb A0 R e) vs=some s.v/\(qb A0 R e).next=s.nx/\
  match e with
  | none=>∀ x∈R,jv x->s.i < x.i
  | some y=>y < s.i/\(∃ x∈R,jv x/\x.i=y)/\∀ x∈R,jv x->x.i < s.i->x.i<=y
 chain:qJ (aC [] all) R=true
theorem rZ {r:Rec} {R:List Rec} {e:Option Nat} (h:∀ y,e=some y->r.i≠y):qb A0 (r::R) e=qb A0 R e:=by
 cases e with
 | none=>rfl
 | some y=>
  have bA:=h y rfl;simp only [qb,FZ];split
  ·have:Nat.beq r.i y=false:=by
    cases hb:Nat.beq r.i y with
    | false=>rfl
    | true=>exact absurd (aE hb) bA
   rw [this,ay]
  ·rfl
theorem yQ {b:List Nat} {R:List Rec} (h:∀ s∈R,∀ id o,s.jq≠.make id o) (e:Option Nat) (jH:Nat->Bool):jE b A0 R e jH=qb A0 R e:=by
 have key:∀ (R:List Rec),(∀ s∈R,∀ id o,s.jq≠.make id o)->∀ jH A,mO jH A R=A:=by
  intro R
  induction R with
  | nil=>intro _ jH A; rfl
  | cons r R ih=>
   intro h jH A;have ih:=ih (fun s hs=>h s (by simp [hs])) jH A;simp only [mO];split
   ·rename_i id o hd; exact absurd hd (h r (by simp) id o)
   ·exact ih
 exact key R h _ _
theorem wD.plain {i:Nat} {R:List Rec} {A:St} (h:wD P all A0 i R A) {r:Rec} {o:Oper} (hi:r.i=i) (hn:r.nx=A.next) (ho:all[i]? = some o) (hd:r.jq = .val\/∃ f vs,r.jq = .read f vs/\f A vs=some r.v/\zJ (compile P o.op)=1) :
  wD P all A0 (i+1) (r::R) A:=by
 have zQ : ¬ jv r:=by rintro ⟨B,hB⟩; rcases hd with h1 | ⟨f,vs,h1,_⟩ <;> rw [h1] at hB <;> simp at hB
 have hnm:∀ id o,r.jq≠.make id o:=by intro id o e; rcases hd with h1 | ⟨f,vs,h1,_⟩ <;> rw [h1] at e <;> simp at e
 have hl:eL (r::R)=eL R:=by rcases hd with h1 | ⟨f,vs,h1,_⟩ <;> simp [eL,h1]
 have yd:=h.last;have bA:∀ y,eL R=some y->r.i≠y:=by
  intro y e;rw [e] at yd;obtain ⟨⟨s,hs,_,h2⟩,_⟩:=yd;have:=h.below s hs;omega
 refine ⟨by rw [hl,rZ bA]; exact h.post,hn,fun s hs=>?_,fun s hs=>?_,fun s hs=>?_,?_,fun s hs f vs hf=>?_,?_⟩
 ·rcases bd.1 hs with rfl | hs
  ·omega
  ·have:=h.below s hs; omega
 ·rcases bd.1 hs with rfl | hs
  ·exact hnm
  ·exact h.wC s hs
 ·rcases bd.1 hs with rfl | hs
  ·refine ⟨o,by rw [hi]; exact ho,fun ha=>absurd ha zQ,fun f vs hf=>?_⟩
   rcases hd with h1 | ⟨f',bw,h1,_,h3⟩
   ·rw [h1] at hf; simp at hf
   ·exact h3
  ·exact h.kind s hs
 ·rw [hl]
  cases hle:eL R with
  | none=>
   rw [hle] at yd;intro s hs;rcases bd.1 hs with rfl | hs
   ·exact zQ
   ·exact yd s hs
  | some y=>
   rw [hle] at yd;obtain ⟨⟨s,hs,h1,h2⟩,h3⟩:=yd;exact ⟨⟨s,by simp [hs],h1,h2⟩,fun x hx DP=>by
    rcases bd.1 hx with rfl | hx
    ·exact absurd DP zQ
    ·exact h3 x hx DP⟩
 ·rcases bd.1 hs with rfl | hs
  ·rcases hd with h1 | ⟨f',bw,h1,h2,_⟩
   ·rw [h1] at hf; simp at hf
   ·rw [h1] at hf
    simp at hf;obtain ⟨rfl,rfl⟩:=hf;refine ⟨eL R,by rw [rZ bA,h.post]; exact h2,by rw [rZ bA,h.post,hn],?_⟩;cases hle:eL R with
    | none=>
     rw [hle] at yd;intro x hx DP;rcases bd.1 hx with rfl | hx
     ·exact absurd DP zQ
     ·exact absurd DP (yd x hx)
    | some y=>
     rw [hle] at yd;obtain ⟨⟨x,hx,h4,h5⟩,h6⟩:=yd;refine ⟨by have:=h.below x hx; omega,⟨x,by simp [hx],h4,h5⟩,fun z hz haz _=>?_⟩;rcases bd.1 hz with rfl | hz
     ·exact absurd haz zQ
     ·exact h6 z hz haz
  ·obtain ⟨e,h1,h2,h3⟩:=h.reads s hs f vs hf
   have NX:=h.below s hs;have Ua:∀ y,e=some y->r.i≠y:=by
    intro y he;subst he;have:=h3.1;omega
   refine ⟨e,by rw [rZ Ua]; exact h1,by rw [rZ Ua]; exact h2,?_⟩;cases e with
   | none=>
    intro x hx DP;rcases bd.1 hx with rfl | hx
    ·exact absurd DP zQ
    ·exact h3 x hx DP
   | some y=>
    obtain ⟨h4,⟨x,hx,h5,h6⟩,h7⟩:=h3;refine ⟨h4,⟨x,by simp [hx],h5,h6⟩,fun z hz haz=>?_⟩;rcases bd.1 hz with rfl | hz
    ·exact absurd haz zQ
    ·exact h7 z hz haz
 ·have:=h.chain
  rcases hd with h1 | ⟨f,vs,h1,_⟩ <;> simp [qJ,h1,this]
theorem wD.act {i:Nat} {R:List Rec} {A B:St} (hf:J0 P all) (h:wD P all A0 i R A) {r:Rec} {o:Oper} (hi:r.i=i) (hn:r.nx=B.next) (ho:all[i]? = some o) (hd:r.jq = .act B) (hk:zJ (compile P o.op)=3) :
  wD P all A0 (i+1) (r::R) B:=by
 have ha:jv r:=⟨B,hd⟩
 have hl:eL (r::R)=some r.i:=by simp [eL,hd]
 refine ⟨by rw [hl]; simp only [qb,FZ,hd]; rw [show Nat.beq r.i r.i=true from by simp,ah],hn,fun s hs=>?_,fun s hs=>?_,fun s hs=>?_,?_,fun s hs f vs x8=>?_,?_⟩
 ·rcases bd.1 hs with rfl | hs
  ·omega
  ·have:=h.below s hs; omega
 ·rcases bd.1 hs with rfl | hs
  ·intro id o e; rw [hd] at e; simp at e
  ·exact h.wC s hs
 ·rcases bd.1 hs with rfl | hs
  ·exact ⟨o,by rw [hi]; exact ho,fun _=>hk,fun f vs e=>by rw [hd] at e; simp at e⟩
  ·exact h.kind s hs
 ·rw [hl]
  refine ⟨⟨r,by simp,ha,rfl⟩,fun s hs _=>?_⟩;rcases bd.1 hs with rfl | hs
  ·exact ao _
  ·have:=h.below s hs; omega
 ·rcases bd.1 hs with rfl | hs
  ·rw [hd] at x8; simp at x8
  ·obtain ⟨e,h1,h2,h3⟩:=h.reads s hs f vs x8
   have NX:=h.below s hs;have Ua:∀ y,e=some y->r.i≠y:=by
    intro y he;subst he;have:=h3.1;omega
   refine ⟨e,by rw [rZ Ua]; exact h1,by rw [rZ Ua]; exact h2,?_⟩;cases e with
   | none=>
    intro x hx DP;rcases bd.1 hx with rfl | hx
    ·omega
    ·exact h3 x hx DP
   | some y=>
    obtain ⟨h4,⟨x,hx,h5,h6⟩,h7⟩:=h3;refine ⟨h4,⟨x,by simp [hx],h5,h6⟩,fun z hz haz aI=>?_⟩;rcases bd.1 hz with rfl | hz
    ·omega
    ·exact h7 z hz haz aI
 ·have hc:=h.chain
  have yd:=h.last;simp only [qJ,hd,aj];refine ⟨?_,hc⟩;cases hle:eL R with
  | none=>rfl
  | some y=>
   rw [hle] at yd;obtain ⟨⟨s,hs,h1,h2⟩,_⟩:=yd;obtain ⟨os,h3,h4,_⟩:=h.kind s hs;have aI:=h.below s hs;subst h2;rw [<- hi] at ho;rcases hf.order r.i s.i o os ho h3 hk (by rw [h4 h1]; simp) (by omega) with h5 | h5
   ·exact h5
   ·have:=Oc hf.Uf h5; omega
theorem Ug {A B:St} {r:Option (Tm×St)} {q:Tm×St} (h:Xx A B r=some q):Nat.ble A.next B.next=true/\r=some q:=by
 unfold Xx at h;cases hb:Nat.ble A.next B.next with
 | false=>rw [hb] at h; exact absurd h (by simp)
 | true=>rw [hb] at h; exact ⟨rfl,h⟩
theorem Uh (hf:J0 P all):∀ (os:List Oper) (i:Nat) (R:List Rec) (t t' : Tm) (A B:St),all.drop i=os->wD P all A0 i R A->H5 P call all os t A=some (t',B)->
  ∃ R',ux P call (aC [] all) all A0 os i R t=some (R',t')/\wD P all A0 all.length R' B
 | [],i,R,t,t',A,B,hd,hI,h=>by
  simp only [agu,aR,bG] at h;obtain ⟨rfl,rfl⟩:=h;have hlen:all.length<=i:=List.drop_eq_nil_iff.1 hd;refine ⟨R,rfl,⟨hI.post,hI.nx,fun s hs=>?_,hI.wC,hI.kind,hI.last,hI.reads,hI.chain⟩⟩;obtain ⟨o,h1,_⟩:=hI.kind s hs;exact (cp.1 h1).1
 | o::os,i,R,t,t',A,B,hd,hI,h=>by
  have ho:all[i]? = some o:=by
   have:(all.drop i)[0]? = some o:=by rw [hd]; rfl
   rw [lE] at this;simpa using this
  have CP:all.drop (i+1)=os:=by rw [<- List.drop_drop,hd]; rfl
  simp only [ac9] at h;obtain ⟨wd,HG,h⟩:=aO.1 h;have qi:∀ jH,(jE (aC [] all) A0 R (eL R) jH).at A.next=A:=by
   intro jH;rw [yQ hI.wC,hI.post];rfl
  have akp:∀ jH,jE (aC [] all) A0 R (eL R) jH=A:=by
   intro jH;rw [yQ hI.wC,hI.post]
  have step:∀ (r:Rec) (C:St),wm P call (aC [] all) all A0 R i t o=some r->wD P all A0 (i+1) (r::R) C->H5 P call all os (wj t o.dst r.v) C=some (t',B)->
    ∃ R',ux P call (aC [] all) all A0 (o::os) i R t=some (R',t')/\wD P all A0 all.length R' B:=by
   intro r C h1 h2 h3;obtain ⟨R',h4,h5⟩:=Uh hf os (i+1) (r::R) _ t' C B CP h2 h3;exact ⟨R',by simp only [ux,h1,cA]; exact h4,h5⟩
  cases wd with
  | false=>
   rw [ay] at h;obtain ⟨_,h⟩:=Ug h;exact step ⟨i,undef,fy A0 R,.val⟩ A (by simp [wm,HG]) (hI.plain rfl hI.nx ho (.inl rfl)) h
  | true=>
   rw [ah] at h;obtain ⟨⟨v,C⟩,h1,h2⟩:=aO.1 h;obtain ⟨aeZ,h2⟩:=Ug h2;have aeZ:Nat.ble A.next C.next=true:=aeZ;cases hc:compile P o.op with
   | pure f xs=>
    rw [hc] at h1;simp only [og] at h1;obtain ⟨u,hu,he⟩:=aU.1 h1;simp at he;obtain ⟨rfl,rfl⟩:=he;exact step ⟨i,u,fy A0 R,.val⟩ A (by simp [wm,HG,hc,iQ,hu]) (hI.plain rfl hI.nx ho (.inl rfl)) h2
   | read f xs=>
    rw [hc] at h1;simp only [og] at h1;obtain ⟨u,hu,he⟩:=aU.1 h1;simp at he;obtain ⟨rfl,rfl⟩:=he;exact step ⟨i,u,fy A0 R,.read f (xs.map (lJ t))⟩ A (by simp [wm,HG,hc,iQ,akp,hu]) (hI.plain rfl hI.nx ho (.inr ⟨_,_,rfl,hu,by rw [hc]; rfl⟩)) h2
   | make f xs=>exact absurd (by rw [hc]; rfl) (hf.wC i o ho)
   | act f xs=>
    rw [hc] at h1;simp only [og] at h1;exact step ⟨i,v,C.next,.act C⟩ C (by simp [wm,HG,hc,iQ,qi,h1,hI.nx,aeZ]) (hI.act hf rfl rfl ho rfl (by rw [hc]; rfl)) h2
   | call f xs=>
    rw [hc] at h1;simp only [og] at h1;obtain ⟨p,hp,h1⟩:=aO.1 h1;exact step ⟨i,v,C.next,.act C⟩ C (by simp [wm,HG,hc,iQ,qi,hp,h1,hI.nx,aeZ]) (hI.act hf rfl rfl ho rfl (by rw [hc]; rfl)) h2
   | bad=>exact absurd (by rw [hc]; rfl) (hf.wC i o ho)
theorem Ui {b:List Nat} {i:Nat} {e:Option Nat} : ∀ {R:List Rec},H0 b i e R=true->∀ r∈R,jv r->match e with
  | some e=>(eY b i r.i=true->r.i<=e)/\(eY b r.i i=true->e < r.i)
  | none=>eY b i r.i=false
 | [],_,r,hr,_=>by simp at hr
 | x::R,h,r,hr,ha=>by
  simp only [H0,aj] at h;rcases bd.1 hr with rfl | hr
  ·obtain ⟨B,hB⟩:=ha
   have h1:=h.1;rw [hB] at h1;cases e with
   | none=>simpa using h1
   | some e=>
    simp only [aj,oa,iA] at h1;obtain ⟨h2,h3⟩:=h1;refine ⟨fun hb=>?_,fun hb=>?_⟩
    ·rcases h2 with h2 | h2
     ·rw [hb] at h2; simp at h2
     ·exact cL h2
    ·rcases h3 with h3 | h3
     ·rw [hb] at h3; simp at h3
     ·rw [b8] at h3; exact h3
  ·exact Ui h.2 r hr ha
theorem Iq:∀ {R:List Rec} {e:Option Nat},e∈jY R->e=none\/∃ r∈R,jv r/\e=some r.i
 | [],e,h=>by simp [jY] at h; exact .inl h
 | x::R,e,h=>by
  simp only [jY] at h;split at h
  ·rename_i B hB
   rcases bd.1 h with rfl | h
   ·exact .inr ⟨x,by simp,⟨B,hB⟩,rfl⟩
   ·rcases Iq h with h | ⟨r,hr,h1,h2⟩
    ·exact .inl h
    ·exact .inr ⟨r,by simp [hr],h1,h2⟩
  ·rcases Iq h with h | ⟨r,hr,h1,h2⟩
   ·exact .inl h
   ·exact .inr ⟨r,by simp [hr],h1,h2⟩
theorem aa0 (hf:J0 P all) {R:List Rec} {B:St} (hI:wD P all A0 all.length R B) {r:Rec} (hr:r∈R) {f:St->List Value->Option Value} {vs:List Value} (hd:r.jq = .read f vs) {e:Option Nat} (he:e∈jY R) (hm:H0 (aC [] all) r.i e R=true) :
  f (qb A0 R e) vs=some r.v/\(qb A0 R e).next=r.nx:=by
 obtain ⟨e',h1,h2,h3⟩:=hI.reads r hr f vs hd;obtain ⟨o,ho,_,hk⟩:=hI.kind r hr;have hk:=hk f vs hd;have ua:=Ui hm;have bA:∀ x∈R,jv x->x.i≠r.i:=by
  intro x hx DP e2;obtain ⟨ox,hox,Y4,_⟩:=hI.kind x hx;rw [e2,ho] at hox;simp at hox; subst hox;rw [Y4 DP] at hk;simp at hk
 have Ov:∀ x∈R,jv x->(x.i < r.i->eY (aC [] all) r.i x.i=true)/\(r.i < x.i->eY (aC [] all) x.i r.i=true):=by
  intro x hx DP;obtain ⟨ox,hox,Y4,_⟩:=hI.kind x hx;have h4:=hf.order x.i r.i ox o hox ho (Y4 DP) (by rw [hk]; simp) (bA x hx DP);refine ⟨fun aI=>?_,fun aI=>?_⟩
  ·rcases h4 with h4 | h4
   ·have:=Oc hf.Uf h4; omega
   ·exact h4
  ·rcases h4 with h4 | h4
   ·exact h4
   ·have:=Oc hf.Uf h4; omega
 have hee:e=e':=by
  rcases Iq he with rfl | ⟨x,hx,DP,rfl⟩
  ·cases e' with
   | none=>rfl
   | some y=>
    obtain ⟨h4,⟨x,hx,h5,h6⟩,_⟩:=h3;have h7:=ua x hx h5;have h8:=(Ov x hx h5).1 (by omega);simp only at h7;rw [h7] at h8;simp at h8
  ·have hxr:x.i < r.i:=by
    have h5:=bA x hx DP;rcases Nat.lt_or_ge x.i r.i with h6 | h6
    ·exact h6
    ·have h7:=(ua x hx DP).2 ((Ov x hx DP).2 (by omega))
     omega
   cases e' with
   | none=>have:=h3 x hx DP; omega
   | some y=>
    obtain ⟨h4,⟨z,hz,h5,h6⟩,h7⟩:=h3;have h8:=h7 x hx DP hxr;have h9:=(ua z hz h5).1 ((Ov z hz h5).1 (by omega));have:x.i=y:=by omega
    rw [this]
 rw [hee];exact ⟨h1,h2⟩
theorem Uj {rd:Option Nat} (dR:rE P call) (hm:P.follows .mixedOrders=true) {id:Nat} {N base:Nat} (Qo:all.all (tF N)=true) {t t' : Tm} {A B:St} {ρ:Go.aA.Ren} {a:Act} {w:World} {Q:Exit->Act->World->Prop}
  (hov:vE P all=true) (h:H5 P call all all t A=some (t',B)) (ht:TR ρ t N a) (hs:iv ρ A base w) (hq:∀ ak a' w',TR ak t' N a'->a'.defers=a.defers->cq base ρ A w ak B w'->Q .normal a' w'):(Code.region id ⟨all⟩ true).wpIn (Fr rd) 0 P Q a w:=by
 obtain ⟨bL,hf⟩:=agO hov;obtain ⟨R,Y0,hI⟩:=Uh (A0:=A) hf all 0 [] t t' A B (by simp) ⟨rfl,rfl,fun s hs=>by simp at hs,fun s hs=>by simp at hs,fun s hs=>by simp at hs,fun s hs=>by simp at hs,fun s hs=>by simp at hs,rfl⟩ h;refine Il dR hm Qo bL Y0 hI.chain (fun r hr f vs hd=>⟨.inr ⟨hI.wC,fun e he hme=>Nat.le_of_eq (aa0 hf hI hr hd he hme).2⟩,fun e he hme=>?_⟩) ht hs fun ak a' w' wB xI hg=>?_
 ·rw [yQ hI.wC]
  exact (aa0 hf hI hr hd he hme).1
 ·rw [yQ hI.wC,hI.post,hI.nx] at hg
  exact hq ak a' w' wB xI hg
end
end Go.aA
end
