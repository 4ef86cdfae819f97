/- Part of the proof of PathsRight: the machine, shown to be the model's, and plain models. No conditions. -/
import Derived.Test.YtckbdndhmcoihaaGreatBp
import Derived.Laws.IdiomStrings
import Derived.OrdersIn
set_option linter.unusedSimpArgs false
set_option linter.unusedVariables false
section
namespace Go.az
open Go
section
variable {P:Program} {o:Oper}
theorem Zc {l:List UInt8} : ∀ {cs:List Value},CP cs=some l->cs=jl l:=by
 intro cs
 induction cs generalizing l with
 | nil=>intro h; simp [CP] at h; subst h; rfl
 | cons c cs ih=>
  intro h;cases c with
  | int k n=>
   cases k <;> cases n <;> simp only [CP] at h <;> try (simp at h; done)
   rename_i m;cases hb:Nat.blt m 256 with
   | false=>rw [hb] at h; simp at h
   | true=>
    rw [hb,ah] at h;obtain ⟨r,hr,rfl⟩:=aU.1 h;rw [b7] at hb;rw [ih hr];simp only [jl,List.map_cons,List.cons.injEq,and_true];have:(UInt8.ofNat m).toNat=m:=by simp; omega
    rw [this];rfl
  | _=>simp [CP] at h
theorem W6 {ρ:Ren} (l:List UInt8):cz ρ (jl l) (jl l):=by
 induction l with
 | nil=>exact .nil
 | cons x l ih=>exact .cons (by simp [VR]) ih
theorem Ii:∀ (l:List UInt8),nQ (jl l)=true
 | []=>rfl
 | x::l=>by show (true&&nQ (jl l))=true; rw [Ii l]; rfl
theorem Uo {e:TypeId} (h:isByte P e=true):P.underlying e=some (.int .u8):=by
 unfold isByte at h;split at h
 ·rename_i h'; exact h'
 ·simp at h
theorem Te {ρ:Ren} {A:St} {base:Nat} {w:World} {cs bX:List Value} {c:Array Value} {n aF f:Nat} {fr:Nat×Nat} (T:TypeId) (Qz:n=1) (hs:iu ρ A base w) (hc:cz ρ cs bX) (h1:∀ v∈cs,scalar v=true)
  (Ll:∀ (j:Nat) (v:Value),bX[j]? = some v->c[j]? = some v) (cT:cs.length<=c.size) (xR:c.size<=fr.1) :
  cp base ρ A w (ρ.set A.next ⟨w.heap.size,0,c.size,n⟩) (A.grow aF f cs n) (w.alloc (.cells c T fr)):=by
 refine xS (o:=.row cs n true (some (aF,f))) hs (fun x=>EB _ _ _ _ _ _) (fun g x h=>?_) (fun g f' h=>?_) (by simp [St.grow]) (by simp [St.grow]) (fun x hx _=>by rw [EB,ae (by omega)]) rfl ?_
 ·rw [tW]; split
  ·rename_i e; subst e; simp [h]
  ·exact h
 ·simp [aY.hO] at h; rw [tW,h.1]; simp
 ·refine ⟨fun i v hi=>?_,fun h=>by simp at h,fun _=>hs.size,fun _ j hj=>?_,by simpa using cT,fun _ h=>by simp at h,rfl,by simp,fun _ h=>absurd Qz h⟩
  ·obtain ⟨v',h2,h3⟩:=hc.get hi
   refine ⟨v',?_,h3.mono (hs.um _),h1 v (eS hi)⟩;rw [bG,World.cell?_alloc_mark];exact Ll i v' h2
  ·simp only at hj ⊢
   rw [World.cell?_alloc_mark];refine ⟨?_,?_⟩
   ·rw [Array.getElem?_eq_getElem (by omega)]
    rfl
   ·have:(w.alloc (.cells c T fr)).heap[w.heap.size]? = some (.cells c T fr):=by
     show (w.heap.push (.cells c T fr))[w.heap.size]? = _;simp
    simp only [World.frozen?,this];have Uq : ¬ (fr.1<=j):=by omega
    simp [Uq]
theorem QF {ρ:Ren} {A:St} {base:Nat} {w:World} {src dst e:TypeId} {x x' v:Value} (hs:Rel ρ A.get A.members base w) (h1:P.underlying src=some (.slice e)) (h2:P.underlying dst=some .string) (he:P.underlying e=some (.int .u8))
  (hx:VR ρ x x') (h:Bs A [x] = some v):VR ρ v v/\(convert src dst x').run P w = .ok v w:=by
 unfold Bs at h;split at h
 ·rename_i n c e1
  simp at e1; subst e1;simp at h; subst h;have:=hx.e8;subst this;refine ⟨VR.of_flat rfl,?_⟩;rw [run_convert_bytes_string w src dst e none n c h1 he h2];rfl
 ·rename_i a n c e1
  simp at e1; subst e1;obtain ⟨l,hl,rfl⟩:=aU.1 h;obtain ⟨cs,AD,hb⟩:=aO.1 hl;have:=Zc hb;subst this;obtain ⟨tV,AE,lc,a',c',iY,ri,Bv,jG,rfl⟩:=hx.iD;obtain ⟨bX,q1,q2,q3,q4⟩:=sL (P:=P) hs AD iY;have aiw:bX=jl l:=q1.jW (Ii l);subst aiw;have hlen:l.length=n:=by simpa [jl] using q2
  refine ⟨VR.of_flat rfl,?_⟩;rw [run_convert_bytes_string w src dst e (some a') n c' h1 he h2];have zH:(loadCells a' n).run P w = .ok (jl l).toArray w:=by
   by_cases hc:c' = 0
   ·have W0:n=0:=by omega
    subst W0;have:l = []:=List.eq_nil_of_length_eq_zero hlen;subst this;exact run_loadCells_list w a' [] (by simp)
   ·rw [Bv hc]; exact q4
  have qf:jl l=(l.map (fun b=>(b.toNat:Int))).map (Value.int .u8):=by simp [jl]
  rw [qf] at zH;rw [run_bytesToString w a' n c' _ zH,foldl_push_byteCells];have he0:ByteArray.empty.data = #[]:=rfl;rw [he0];simp
 ·simp at h
theorem QG {ρ:Ren} {A B:St} {base:Nat} {w:World} {src dst e:TypeId} {x x' v:Value} (hs:iu ρ A base w) (h1:P.underlying src=some .string) (h2:P.underlying dst=some (.slice e)) (he:P.underlying e=some (.int .u8))
  (hx:VR ρ x x') (h:FJ A [x] = some (v,B)):∃ ak v' w',(convert src dst x').run P w = .ok v' w'/\VR ak v v'/\cp base ρ A w ak B w':=by
 unfold FJ at h;split at h
 ·rename_i s e1
  simp at e1; subst e1;simp at h;obtain ⟨rfl,rfl⟩:=h;have:=hx.mZ;subst this;have hr:=run_bytes_of_string (P:=P) w src dst e s h1 h2 he;have Mt:=grownCap_ge w s.size 0 e;have hds:s.data.size=s.size:=rfl;have zG:(bytesRow s (grownCap w s.size 0 e)).size=grownCap w s.size 0 e:=by
   unfold bytesRow;simp [hds];omega
  have Td:=cp.drew (w:=w) hs;have y7:=Te (w:=w.drew) (n:=1) (aF:=A.next) (f:=0) (c:=bytesRow s (grownCap w s.size 0 e)) (fr:=((bytesRow s (grownCap w s.size 0 e)).size,(bytesRow s (grownCap w s.size 0 e)).size+1)) e rfl Td.dI
   (W6 s.data.toList) (fun v hv=>by
    obtain ⟨b,_,rfl⟩:=vR.1 hv;rfl) (fun j v hj=>by
    unfold bytesRow;have aJ:j < s.data.size:=by
     have:=(cw.1 hj).1;simpa [jl] using this
    rw [Array.getElem?_append_left (by simpa using aJ)];simpa [jl] using hj) (by rw [zG]; simp [jl,hds]; exact Mt) (ao _)
  refine ⟨_,_,_,hr,?_,Td.trans y7⟩;simp only [VR];refine ⟨trivial,ao _,_,⟨w.heap.size,0,none⟩,grownCap w s.size 0 e,Ren.dk _ _ _,Mt,fun _=>rfl,?_,rfl⟩;rw [zG];show 0+0+grownCap w s.size 0 e * 1<=grownCap w s.size 0 e;omega
 ·simp at h
theorem aix {src dst:TypeId} {x:Operand} (ho:o.op = .convert src dst x):fk P o (yW P src dst x):=by
 unfold yW;split
 ·rename_i e h1 h2
  cases hb:isByte P e with
  | false=>exact True.intro
  | true=>
   rw [ah];intro ρ A base w ev cj v hs he hf;obtain ⟨h3,h4⟩:=QF hs h1 h2 (Uo hb) (he x (by simp)) hf;exact ⟨v,h3,by simp [execOp,ho,h4]⟩
 ·rename_i e h1 h2
  cases hb:isByte P e with
  | false=>exact True.intro
  | true=>
   rw [ah];intro ρ A B base w ev cj v hs he hf;obtain ⟨ak,v',w',h3,h4,h5⟩:=QG hs h1 h2 (Uo hb) (he x (by simp)) hf;exact ⟨ak,v',.value v',w',by simp [execOp,ho,h3],rfl,h4,h5⟩
 ·rename_i h1 h2
  intro ρ ev cj v he hf;simp only [List.map] at hf;unfold T4 at hf;split at hf
  ·rename_i s e
   simp at e hf;subst hf;have hx:=he x (by simp);rw [e] at hx;refine ⟨_,VR.of_flat rfl,fun w=>?_⟩;simp [execOp,ho,convert,aV h1,aV h2,hx.mZ]
  ·simp at hf
 ·exact aa7 ho
theorem W7 {ρ:Ren} {A:St} {base:Nat} {w:World} {r:Nat} {s:List UInt8} {pos Ov:Nat} {l:Loc} (hs:iu ρ A base w) (hg:A.get r=some (.iter s pos)) (iY:ρ r=some l) :
  cp base ρ A w ρ (A.put r (.iter s Ov)) { w with heap:=w.heap.setIfInBounds l.cb (.stringIter ⟨⟨s⟩⟩ Ov) }:=by
 obtain ⟨l',iJ,ok⟩:=hs.rel.iter _ _ _ hg;rw [iY] at iJ; simp at iJ; subst iJ;obtain ⟨Hb,lO⟩:=ok.gC;have aJ:l.cb < w.heap.size:=(jg.1 lO).1;have wb:aY.cr (.iter s pos)=true:=rfl;have hold:∀ k,k≠l.cb->(w.heap.setIfInBounds l.cb (.stringIter ⟨⟨s⟩⟩ Ov))[k]? = w.heap[k]?:=fun k hk=>by
  rw [Array.getElem?_setIfInBounds_ne (Ne.symm hk)]
 have cT:(w.heap.setIfInBounds l.cb (.stringIter ⟨⟨s⟩⟩ Ov)).size=w.heap.size:=by simp
 have hB:∀ x,(A.put r (.iter s Ov)).get x=if x=r then some (.iter s Ov) else A.get x:=fun x=>St.bZ _ _ _ _;have hmd:∀ o:aY,o.cr=true->o≠.dead:=by intro o h e; subst e; simp [aY.cr] at h
 have CT:∀ x o l2,x≠r->A.get x=some o->o≠.dead->ρ x=some l2->pb ρ base w l2 o->l2.cb≠l.cb:=by
  intro x o l2 hx eR hd pQ fJ e;cases Ig:o.cr with
  | true=>
   obtain ⟨_,_,_,_,e1,_⟩:=hs.rel.apart x r o _ l2 l hx eR hg Ig wb pQ iY e;simp [aY.hO] at e1
  | false=>
   cases o with
   | row cs aQ own aZ=>
    have fJ:lM ρ base w l2 cs aQ own aZ:=fJ;have h1:own=false:=Ig;have:=fJ.nt h1;have:=ok.cr;omega
   | map _=>simp [aY.cr] at Ig
   | iter _ _=>simp [aY.cr] at Ig
   | dead=>exact hd rfl
   | loop _ _ _ _ _ _=>simp [aY.cr] at Ig
 refine ⟨⟨.qd ?_ ?_ ?_,fun b l2 h=>hs.fT b l2 h,by simpa using hs.size,hs.lL⟩,fun _ _=>rfl,⟨rfl,rfl,rfl,Nat.le_of_eq cT.symm,fun k hk hn=>hold k (fun e=>hn ⟨r,_,l,hg,wb,iY,e.symm⟩)⟩,ao _,Nat.min_le_left _ _,fun x hx hxl=>?_,?_⟩
 ·intro x o eR hd
  rw [hB] at eR;split at eR
  ·rename_i e; subst e; simp at eR; subst eR
   refine ⟨l,iY,ok.cr,Hb,?_⟩;show (w.heap.setIfInBounds l.cb (.stringIter ⟨⟨s⟩⟩ Ov))[l.cb]? = _;rw [Array.getElem?_setIfInBounds_self_of_lt aJ]
  ·rename_i e
   obtain ⟨l2,pQ,fJ⟩:=hs.rel.obj eR hd;exact ⟨l2,pQ,fJ.dj (Ren.le_refl _) (hold _ (CT x o l2 e eR hd pQ fJ)) (Nat.le_of_eq cT.symm)⟩
 ·have DD:∀ x o,(A.put r (.iter s Ov)).get x=some o->o.cr=true->∃ o',A.get x=some o'/\o'.cr=true/\o'.hO=o.hO:=by
   intro x o hx hm;rw [hB] at hx;split at hx
   ·rename_i e; subst e; simp at hx; subst hx; exact ⟨_,hg,rfl,rfl⟩
   ·exact ⟨o,hx,hm,rfl⟩
  intro b1 b2 o1 o2 l1 l2 bx g1 g2 m1 m2 r1 r2 vM;obtain ⟨p1,q1,n1,k1⟩:=DD _ _ g1 m1;obtain ⟨p2,q2,n2,k2⟩:=DD _ _ g2 m2;rw [<- k1,<- k2];exact hs.rel.apart b1 b2 p1 p2 l1 l2 bx q1 q2 n1 n2 r1 r2 vM
 ·intro x o aF f eR hk
  rw [hB] at eR;split at eR
  ·rename_i e; subst e; simp at eR; subst eR; simp [aY.hO] at hk
  ·exact hs.rel.aX x o aF f eR hk
 ·rw [St.Od] at hxl
  have:Nat.min A.low r<=r:=Nat.min_le_right _ _;rw [hB,ae (by omega)]
 ·rintro k hk ⟨x,o,l2,eR,hm,pQ,rfl⟩
  rw [hB] at eR;split at eR
  ·rename_i e; subst e
   rw [iY] at pQ; simp at pQ; subst pQ;exact ⟨x,_,l,hg,wb,iY,rfl⟩
  ·exact ⟨x,o,l2,eR,hm,pQ,rfl⟩
theorem ag1 {t:TypeId} {x:Operand} (ho:o.op = .range t x):fk P o (Qp P t x):=by
 unfold Qp;split
 ·rename_i hu
  intro ρ ev cj obj mk he hf;simp only [List.map] at hf;unfold ae3 at hf;split at hf
  ·rename_i s e
   simp at e;have hx:=he x (by simp);rw [e] at hx;have hx:=hx.mZ;simp at hf;obtain ⟨rfl,rfl⟩:=hf;refine ⟨.stringIter s 0,fun n=>.pointer (some ⟨n,0,none⟩),?_,fun w=>?_,fun ak n cb h=>VR.v8 (a:=⟨n,0,none⟩) rfl h⟩
   ·show Obj.stringIter s 0 = .stringIter ⟨⟨s.data.toList⟩⟩ 0
    rfl
   ·simp [execOp,ho,Instr.range,aV hu,hx]
  ·simp at hf
 ·trivial
theorem EJ {w:World} {r:Nat} {s:ByteArray} {pos:Nat} (hb:w.heap[r]? = some (.stringIter s pos)):(getObj r).run P w = .ok (.stringIter s pos) w:=by
 simp [getObj,Sem.run,hb]
theorem QH {w:World} {r:Nat} {s:ByteArray} {pos:Nat} (o:Obj) (hb:w.heap[r]? = some (.stringIter s pos)):(setObj r o).run P w = .ok () { w with heap:=w.heap.setIfInBounds r o }:=by
 simp [setObj,Sem.run,hb]
theorem aiy {it:Operand} {b:Bool} (ho:o.op = .next it b):fk P o (cond b (.act adm [it]) .bad):=by
 cases b with
 | false=>trivial
 | true=>
  rw [ah];intro ρ A B base w ev cj v hs he hf;simp only [List.map] at hf;unfold adm at hf;split at hf
  ·rename_i a e
   simp at e;have hx:=he it (by simp);rw [e] at hx;obtain ⟨tV,l,hl,hx⟩:=hx.fX;cases ha0:Nat.beq a.off 0 with
   | false=>rw [ha0] at hf; simp at hf
   | true=>
    rw [ha0,ah] at hf;have ha0:=aD ha0;split at hf
    ·rename_i s pos hg
     obtain ⟨l2,iK,ok⟩:=hs.rel.iter _ _ _ hg;rw [hl] at iK; simp at iK; subst iK;obtain ⟨Hb,lO⟩:=ok.gC;have cT:(⟨⟨s⟩⟩:ByteArray).size=s.length:=rfl;rw [Hb,ha0] at hx;cases aJ:Nat.blt pos s.length with
     | true=>
      rw [aJ,ah] at hf;rw [b7] at aJ;split at hf;rename_i c width anb;simp at hf;obtain ⟨rfl,rfl⟩:=hf;refine ⟨ρ,.tuple #[.bool true,.int .i64 (Int.ofNat pos),.int .i32 c],.value _,_,?_,rfl,VR.of_flat rfl,W7 (Ov:=pos+width) hs hg hl⟩;simp [execOp,ho,Instr.next,hx,EJ lO,cT,aJ,anb,QH _ lO,goInt]
     | false=>
      rw [aJ,ay] at hf;have Mt : ¬ pos < s.length:=fun h=>by rw [<- b7] at h; rw [h] at aJ; simp at aJ
      simp at hf;obtain ⟨rfl,rfl⟩:=hf;refine ⟨ρ,.tuple #[.bool false],.value _,w,?_,rfl,VR.of_flat rfl,.refl hs⟩;simp [execOp,ho,Instr.next,hx,EJ lO,cT,Mt]
    ·simp at hf
  ·simp at hf
theorem nb (P:Program) (o:Oper):fk P o (compile P o.op):=by
 cases ho:o.op with
 | move x=>exact aip ho
 | assign x=>exact adD ho
 | pick c a b=>exact aiq ho
 | alloc t=>exact agR ho
 | box t x=>exact akw ho
 | build t parts=>exact agW ho
 | buildSlice t len parts=>exact Uj ho
 | load t a=>exact air ho
 | store t a x=>exact agS ho
 | nilCheck x=>exact Y5 ho
 | binOp op t x y yt=>exact akx ho
 | unOp op t x=>exact amh ho
 | convert src dst x=>exact aix ho
 | makeFunc fn first cap=>exact Y6 ho
 | fieldAddr s x f=>exact WW ho
 | field t x f=>exact agT ho
 | indexAddr t x ix=>exact WX ho
 | index t x ix=>exact agU ho
 | extract t i=>exact aa8 ho
 | slice t x lo hi mx=>exact ok_slice ho
 | makeSlice t l c=>exact WZ ho
 | makeInterface t x=>exact agY ho
 | range t x=>exact ag1 ho
 | next it b=>exact aiy ho
 | makeMap t r=>exact aba ho
 | lookup t x ix ok=>exact adJ ho
 | mapUpdate t m k x=>exact Lm (.inl ho)
 | insert t m k x=>exact Lm (.inr ho)
 | call c=>
  show fk P o (tQ P c);unfold tQ;split
  ·rename_i f hf; exact ait ho hf
  ·rename_i b hb
   obtain ⟨callee,args,argTypes⟩:=c;simp only at hb;subst hb;unfold yX;split
   ·exact akA ho
   ·exact aky ho
   ·exact akz ho
   ·exact adI ho
   ·exact aiv ho
   ·exact adK ho
   ·exact ag0 ho
   ·trivial
  ·trivial
 | _=>trivial
end
end Go.az
end
section
namespace Go.az
noncomputable section
open Go
abbrev Fr (r:Option Nat):Fence:={ Fence.wide with round:=r }
mutual
theorem QI:∀ {v w:Value},mO v w=true->v=w
 | .bool a,w,h=>by cases w <;> simp_all [mO]
 | .int k a,w,h=>by cases w <;> simp_all [mO]
 | .float k a,w,h=>by cases w <;> simp_all [mO]
 | .complex k a b,w,h=>by cases w <;> simp_all [mO]
 | .string a,w,h=>by
  cases w with
  | string b=>
   simp only [mO,jP] at h;obtain ⟨⟨a⟩⟩:=a;obtain ⟨⟨b⟩⟩:=b
   simp_all
  | _=>simp [mO] at h
 | .pointer a,w,h=>by cases w <;> simp_all [mO]
 | .slice a n c,w,h=>by cases w <;> simp_all [mO]
 | .map a,w,h=>by cases w <;> simp_all [mO]
 | .chan a,w,h=>by cases w <;> simp [mO] at h
 | .func fn f c,w,h=>by
  cases w with
  | func gn g d=>
   simp only [mO,aj,jP] at h;rw [h.1.1,J4 h.1.2,J4 h.2]
  | _=>simp [mO] at h
 | .nilFunc,w,h=>by cases w <;> simp_all [mO]
 | .iface t v,w,h=>by
  cases w with
  | iface u x=>
   simp only [mO,aj,rC] at h;rw [h.1,QI h.2]
  | _=>simp [mO] at h
 | .nilIface,w,h=>by cases w <;> simp_all [mO]
 | .agg a,w,h=>by
  cases w with
  | agg b=>simp only [mO] at h; rw [J4 h]
  | _=>simp [mO] at h
 | .tuple a,w,h=>by
  cases w with
  | tuple b=>simp only [mO] at h; rw [J4 h]
  | _=>simp [mO] at h
theorem J4:∀ {v w:Array Value},Qs v w=true->v=w
 | ⟨l⟩,⟨m⟩,h=>by simp only [Qs] at h; rw [XV h]
theorem XV:∀ {v w:List Value},Qt v w=true->v=w
 | [],w,h=>by cases w <;> simp_all [Qt]
 | x::l,w,h=>by
  cases w with
  | nil=>simp [Qt] at h
  | cons y m=>
   simp only [Qt,aj] at h;rw [QI h.1,XV h.2]
end
def Ren.res (ρ:Ren) (n:Nat):Ren:=fun b=>if b < n then ρ b else none
theorem Ren.Zd (ρ:Ren) (n:Nat):(ρ.res n).le ρ:=fun b l h=>by unfold Ren.res at h; split at h <;> simp_all
theorem Ren.sP (ρ:Ren) {n m:Nat} (h:n<=m):(ρ.res n).le (ρ.res m):=fun b l e=>by
 unfold Ren.res at e ⊢;split at e
 ·rw [ax (by omega)]; exact e
 ·simp at e
theorem Ren.y9 {ρ ak:Ren} (h:ρ.le ak) (n:Nat):(ρ.res n).le (ak.res n):=fun b l e=>by
 unfold Ren.res at e ⊢;split at e
 ·rename_i hb; rw [ax hb]; exact h _ _ e
 ·simp at e
theorem Ren.Ow {ρ:Ren} {n b:Nat} {l:Loc} (h:ρ.res n b=some l):b < n/\ρ b=some l:=by
 unfold Ren.res at h;split at h
 ·exact ⟨‹_›,h⟩
 ·simp at h
theorem Ren.ur {ρ:Ren} {n b:Nat} (h:b < n):ρ.res n b=ρ b:=by unfold Ren.res; rw [ax h]
theorem Mm.under {ρ:Ren} {n:Nat} {fn tT:Fn} (hu:YT n fn=true) (h:Mm ρ fn tT):Mm (ρ.res n) fn tT:=by
 cases fn with
 | yield r=>
  obtain ⟨l,h1,h2⟩:=h;simp only [YT] at hu;rw [b7] at hu;exact ⟨l,by rw [Ren.ur hu]; exact h1,h2⟩
 | _=>exact h
mutual
theorem VR.under {ρ:Ren} {n:Nat} : ∀ {v v' : Value},az.under n v=true->VR ρ v v'->VR (ρ.res n) v v'
 | .bool b,v,_,hv=>by simpa [VR] using hv
 | .int k n,v,_,hv=>by simpa [VR] using hv
 | .float k x,v,_,hv=>by simpa [VR] using hv
 | .complex k x y,v,_,hv=>by simpa [VR] using hv
 | .string s,v,_,hv=>by simpa [VR] using hv
 | .pointer none,v,_,hv=>by simpa [VR] using hv
 | .pointer (some a),v,hu,hv=>by
  simp only [az.under] at hu;rw [b7] at hu;simp only [VR] at hv ⊢;rw [Ren.ur hu];exact hv
 | .slice none n c,v,_,hv=>by simpa [VR] using hv
 | .slice (some a) n c,v,hu,hv=>by
  simp only [az.under] at hu;rw [b7] at hu;simp only [VR] at hv ⊢;rw [Ren.ur hu];exact hv
 | .map none,v,_,hv=>by simpa [VR] using hv
 | .map (some r),v,hu,hv=>by
  simp only [az.under] at hu;rw [b7] at hu;simp only [VR] at hv ⊢;rw [Ren.ur hu];exact hv
 | .chan _,_,_,_=>by simp [VR]
 | .func fn f c,v,hu,hv=>by
  simp only [az.under,aj] at hu;simp only [VR] at hv ⊢;obtain ⟨f',c',h2,h3,tT,h4,h5⟩:=hv;exact ⟨f',c',oo.under hu.1.2 h2,oo.under hu.2 h3,tT,Mm.under hu.1.1 h4,h5⟩
 | .nilFunc,v,_,hv=>by simpa [VR] using hv
 | .iface t x,v,hu,hv=>by
  simp only [az.under] at hu;simp only [VR] at hv ⊢;obtain ⟨x',h2,h3⟩:=hv;exact ⟨x',VR.under hu h2,h3⟩
 | .nilIface,v,_,hv=>by simpa [VR] using hv
 | .agg cs,v,hu,hv=>by
  simp only [az.under] at hu;simp only [VR] at hv ⊢;obtain ⟨x',h2,h3⟩:=hv;exact ⟨x',oo.under hu h2,h3⟩
 | .tuple cs,v,hu,hv=>by
  simp only [az.under] at hu;simp only [VR] at hv ⊢;obtain ⟨x',h2,h3⟩:=hv;exact ⟨x',oo.under hu h2,h3⟩
theorem oo.under {ρ:Ren} {n:Nat} : ∀ {v v' : Array Value},az.JY n v=true->oo ρ v v'->oo (ρ.res n) v v'
 | ⟨l⟩,a,hu,hv=>by simp only [az.JY] at hu; simp only [oo] at hv ⊢; exact cz.under hu hv
theorem cz.under {ρ:Ren} {n:Nat} : ∀ {v v' : List Value},az.Tz n v=true->cz ρ v v'->cz (ρ.res n) v v'
 | [],l,_,hv=>by simpa [cz] using hv
 | x::xs,l,hu,hv=>by
  simp only [az.Tz,aj] at hu;simp only [cz] at hv ⊢;obtain ⟨y,ys,e,h1,h2⟩:=hv;exact ⟨y,ys,e,VR.under hu.1 h1,cz.under hu.2 h2⟩
end
theorem F1 {acc:List Nat} {j:Nat} : ∀ {es:List Edge},Nat.testBit (jv acc es) j=true->∃ e∈es,binds e=true/\(j=e.on\/eT acc e.on j=true)
 | [],h=>by simp [jv] at h
 | e::es,h=>by
  simp only [jv] at h;cases hb:binds e with
  | false=>
   rw [hb,ay] at h;obtain ⟨e',h1,h2⟩:=F1 h;exact ⟨e',by simp [h1],h2⟩
  | true=>
   rw [hb,ah] at h;have e1:∀ a b:Nat,Nat.lor a b=a ||| b:=fun _ _=>rfl;have e2:Nat.shiftLeft 1 e.on=1 <<< e.on:=rfl;rw [e1,e1,e2,Nat.testBit_or,Nat.testBit_or,oh,oh] at h;rcases h with (h | h) | h
   ·refine ⟨e,by simp,hb,.inl ?_⟩
    rw [Nat.one_shiftLeft,Nat.testBit_two_pow] at h;exact (JS h).symm
   ·exact ⟨e,by simp,hb,.inr h⟩
   ·obtain ⟨e',h1,h2⟩:=F1 h
    exact ⟨e',by simp [h1],h2⟩
theorem CY:∀ (os:List Oper) (acc:List Nat),∃ r,aC acc os=acc++r/\r.length=os.length
 | [],acc=>⟨[],by simp [aC]⟩
 | o::os,acc=>by
  obtain ⟨r,h1,h2⟩:=CY os (acc++[jv acc o.after.toList]);exact ⟨jv acc o.after.toList::r,by simp [aC,h1],by simp [h2]⟩
theorem J5:∀ (os:List Oper) (acc:List Nat) (i j:Nat) (o:Oper),os[i]? = some o->(∀ e∈o.after.toList,binds e=true->e.on < acc.length+i)->
  eT (aC acc os) (acc.length+i) j=true->∃ e∈o.after.toList,binds e=true/\(j=e.on\/eT (aC acc os) e.on j=true)
 | [],acc,i,j,o,ho,_,_=>by simp at ho
 | o0::os,acc,0,j,o,ho,hf,h=>by
  simp at ho;subst ho;obtain ⟨r,h1,_⟩:=CY os (acc++[jv acc o0.after.toList]);have e0:aC acc (o0::os)=acc++[jv acc o0.after.toList]++r:=by simp only [aC]; exact h1
  rw [e0] at h ⊢;have e1:(acc++[jv acc o0.after.toList]++r).getD (acc.length+0) 0=jv acc o0.after.toList:=by simp [List.getD]
  unfold eT at h;rw [e1] at h;obtain ⟨e,h2,h3,h4⟩:=F1 h;refine ⟨e,h2,h3,h4.imp id fun h5=>?_⟩;have aJ:=hf e h2 h3;unfold eT at h5 ⊢;have:(acc++[jv acc o0.after.toList]++r).getD e.on 0=acc.getD e.on 0:=by
   simp only [List.getD,JT];rw [nE (by simpa using aJ)]
  rw [this];exact h5
 | o0::os,acc,i+1,j,o,ho,hf,h=>by
  have hlen:(acc++[jv acc o0.after.toList]).length+i=acc.length+(i+1):=by simp; omega
  have:=J5 os (acc++[jv acc o0.after.toList]) i j o (by simpa using ho) (by rw [hlen]; exact hf) (by rw [hlen]; exact h);simpa only [aC] using this
theorem Ox {acc:List Nat} {e:Edge} : ∀ {es:List Edge},e∈es->binds e=true->Nat.testBit (jv acc es) e.on=true/\∀ k,eT acc e.on k=true->Nat.testBit (jv acc es) k=true
 | [],h,_=>by simp at h
 | x::es,h,hb=>by
  have e1:∀ a b:Nat,Nat.lor a b=a ||| b:=fun _ _=>rfl;have e2:∀ n,Nat.shiftLeft 1 n=1 <<< n:=fun _=>rfl;simp only [jv];rcases bd.1 h with rfl | h
  ·rw [hb,ah]
   simp only [e1,e2,Nat.testBit_or,oh];refine ⟨.inl (.inl ?_),fun k hk=>.inl (.inr hk)⟩;rw [Nat.one_shiftLeft,Nat.testBit_two_pow];simp
  ·obtain ⟨h1,h2⟩:=Ox h hb
   cases hx:binds x with
   | false=>rw [ay]; exact ⟨h1,h2⟩
   | true=>
    rw [ah];simp only [e1,e2,Nat.testBit_or,oh];exact ⟨.inr h1,fun k hk=>.inr (h2 k hk)⟩
theorem XW:∀ (os:List Oper) (acc:List Nat) (i:Nat) (o:Oper),os[i]? = some o->∀ e∈o.after.toList,binds e=true->e.on < acc.length+i->
  eT (aC acc os) (acc.length+i) e.on=true/\∀ k,eT (aC acc os) e.on k=true->eT (aC acc os) (acc.length+i) k=true
 | [],acc,i,o,ho,_,_,_,_=>by simp at ho
 | o0::os,acc,0,o,ho,e,he,hb,aJ=>by
  simp at ho;subst ho;obtain ⟨r,h1,_⟩:=CY os (acc++[jv acc o0.after.toList]);have e0:aC acc (o0::os)=acc++[jv acc o0.after.toList]++r:=by simp only [aC]; exact h1
  rw [e0];have e1:(acc++[jv acc o0.after.toList]++r).getD (acc.length+0) 0=jv acc o0.after.toList:=by simp [List.getD]
  have e2:(acc++[jv acc o0.after.toList]++r).getD e.on 0=acc.getD e.on 0:=by
   simp only [List.getD,JT];rw [nE (by simpa using aJ)]
  obtain ⟨h2,h3⟩:=Ox (acc:=acc) he hb;unfold eT;rw [e1,e2];exact ⟨h2,fun k hk=>h3 k hk⟩
 | o0::os,acc,i+1,o,ho,e,he,hb,aJ=>by
  have hlen:(acc++[jv acc o0.after.toList]).length+i=acc.length+(i+1):=by simp; omega
  have:=XW os (acc++[jv acc o0.after.toList]) i o (by simpa using ho) e he hb (by rw [hlen]; exact aJ);rw [hlen] at this;simpa only [aC] using this
structure iP (P:Program) (all:List Oper):Prop where
 back:∀ i o,all[i]? = some o->∀ e∈o.after.toList,binds e=true->e.on < i
 apart:∀ i j x y,all[i]? = some y->all[j]? = some x->j < i->xN P all x y=true->eT (aC [] all) i j=true
theorem Ln {P:Program} {all:List Oper} {b:List Nat} {i:Nat} {y:Oper} : ∀ (xs:List Oper) (k:Nat),Eo P all b i y xs k=true->∀ (j:Nat) (x:Oper),xs[j]? = some x->k+j < i->xN P all x y=true->eT b i (k+j)=true
 | [],k,_,j,x,hx,_,_=>by simp at hx
 | x0::xs,k,h,0,x,hx,aJ,hc=>by
  simp at hx;subst hx;simp only [Eo,aj,oh,iy] at h;rcases h.1 with (h1 | h1) | h1
  ·have:=cM h1; omega
  ·rw [hc] at h1; simp at h1
  ·exact h1
 | x0::xs,k,h,j+1,x,hx,aJ,hc=>by
  simp only [Eo,aj] at h;have:=Ln xs (k+1) h.2 j x (by simpa using hx) (by omega) hc;rwa [show k+1+j=k+(j+1) by omega] at this
theorem uO {P:Program} {all:List Oper} {b:List Nat} : ∀ (os:List Oper) (k:Nat),tS P all b os k=true->∀ (i:Nat) (o:Oper),os[i]? = some o->
  (∀ e∈o.after.toList,binds e=true->e.on < k+i)/\Eo P all b (k+i) o all 0=true
 | [],k,_,i,o,ho=>by simp at ho
 | o0::os,k,h,0,o,ho=>by
  simp at ho;subst ho;simp only [tS,aj,dU] at h;refine ⟨fun e he hb=>?_,h.1.2⟩;have:=h.1.1 e he;rw [hb] at this;simp at this;exact this
 | o0::os,k,h,i+1,o,ho=>by
  simp only [tS,aj] at h;have:=uO os (k+1) h.2 i o (by simpa using ho);rwa [show k+1+i=k+(i+1) by omega] at this
theorem zI {P:Program} {all:List Oper} (h:sJ P all=true):iP P all:=by
 unfold sJ at h;refine ⟨fun i o ho=>?_,fun i j x y hy hx aJ hc=>?_⟩
 ·have:=(uO all 0 h i o ho).1
  simpa using this
 ·have:=Ln all 0 (uO all 0 h i y hy).2 j x hx (by simpa using aJ) hc
  simpa using this
theorem XX {all:List Oper} {i j:Nat} (h:all[i]? = none):eT (aC [] all) i j=false:=by
 obtain ⟨r,h1,h2⟩:=CY all [];rw [List.nil_append] at h1;unfold eT;rw [h1];have:r[i]? = none:=by
  rw [NS] at h ⊢;omega
 simp [List.getD,this]
theorem Oy {P:Program} {all:List Oper} (hf:iP P all):∀ {i j:Nat},eT (aC [] all) i j=true->j < i:=by
 intro i
 induction i using Nat.strongRecOn with
 | _ i ih=>
  intro j h;cases ho:all[i]? with
  | none=>rw [XX ho] at h; simp at h
  | some o=>
   obtain ⟨e,h1,h2,h3⟩:=J5 all [] i j o ho (by simpa using hf.back i o ho) (by simpa using h);have aJ:=hf.back i o ho e h1 h2;rcases h3 with rfl | h3
   ·exact aJ
   ·have:=ih e.on aJ h3; omega
theorem Ur {P:Program} {all:List Oper} (hf:iP P all):∀ {i j k:Nat},eT (aC [] all) i j=true->eT (aC [] all) j k=true->eT (aC [] all) i k=true:=by
 intro i
 induction i using Nat.strongRecOn with
 | _ i ih=>
  intro j k h hk;cases ho:all[i]? with
  | none=>rw [XX ho] at h; simp at h
  | some o=>
   obtain ⟨e,h1,h2,h3⟩:=J5 all [] i j o ho (by simpa using hf.back i o ho) (by simpa using h);have aJ:=hf.back i o ho e h1 h2;have adL:=(XW all [] i o ho e h1 h2 (by simpa using aJ)).2 k;simp only [Fz,bG] at adL;rcases h3 with rfl | h3
   ·exact adL hk
   ·exact adL (ih e.on aJ h3 hk)
def jh (all:List Oper) (S:Nat->Bool):Prop:=∀ i j,S i=true->eT (aC [] all) i j=true->S j=true
def lj (all:List Oper) (S:Nat->Bool) (i:Nat):Prop:=∀ o,all[i]? = some o->∀ e∈o.after.toList,binds e=true->S e.on=true
theorem jh.ready {P:Program} {all:List Oper} (hf:iP P all) {S:Nat->Bool} (hc:jh all S) {i:Nat} {o:Oper} (ho:all[i]? = some o) (hr:lj all S i):∀ j,eT (aC [] all) i j=true->S j=true:=by
 intro j hj;obtain ⟨e,h1,h2,h3⟩:=J5 all [] i j o ho (by simpa using hf.back i o ho) (by simpa using hj);have hs:=hr o ho e h1 h2;rcases h3 with rfl | h3
 ·exact hs
 ·exact hc _ _ hs h3
def b8 (S:Nat->Bool) (i:Nat):Nat->Bool:=fun j=>S j||Nat.beq j i
theorem jh.insert {P:Program} {all:List Oper} (hf:iP P all) {S:Nat->Bool} (hc:jh all S) {i:Nat} {o:Oper} (ho:all[i]? = some o) (hr:lj all S i):jh all (b8 S i):=by
 intro a b h1 h2;simp only [b8,oh] at h1 ⊢;rcases h1 with h1 | h1
 ·exact .inl (hc a b h1 h2)
 ·have:=aD h1
  subst this;exact .inl (hc.ready hf ho hr b h2)
theorem XY (e:Edge):Region.binds .any e=binds e:=by
 unfold Region.binds binds;cases e.ground <;> rfl
theorem CZ {all:List Oper} {aX:Array Bool} {i:Nat} (h:i∈Region.ready .any ⟨all⟩ aX):i < all.length/\aX.getD i true=false/\lj all (fun j=>aX.getD j false) i:=by
 unfold Region.ready at h;rw [List.mem_filter,yC] at h;obtain ⟨h1,h2⟩:=h;simp only [aj,iy] at h2;refine ⟨by simpa using h1,h2.1,fun o ho e he hb=>?_⟩;have e1:(⟨all⟩:Array Oper)[i]? = some o:=by simpa using ho
 rw [e1] at h2;simp only [Option.map_some,iB] at h2;have:=Array.all_eq_true'.1 h2.2 e (by simpa using he);rw [XY,hb] at this;simpa using this
theorem Ut {P:Program} {all:List Oper} (hf:iP P all) {aX:Array Bool} (hl:aX.size=all.length) (h:Region.ready .any ⟨all⟩ aX = []):∀ i,i < all.length->aX.getD i false=true:=by
 intro i
 induction i using Nat.strongRecOn with
 | _ i ih=>
  intro hi;cases hc:aX.getD i false with
  | true=>rfl
  | false=>
   exfalso;obtain ⟨o,ho⟩:∃ o,all[i]? = some o:=⟨_,cl hi⟩
   have hm:i∈Region.ready .any ⟨all⟩ aX:=by
    unfold Region.ready;rw [List.mem_filter,yC];refine ⟨by simpa using hi,?_⟩;have e1:(⟨all⟩:Array Oper)[i]? = some o:=by simpa using ho
    rw [e1];have e2:aX.getD i true=false:=by
     have:i < aX.size:=by omega
     simpa [dF,this] using hc
    simp only [e2,Bool.not_false,uh,Option.map_some,iB];rw [Array.all_eq_true'];intro e he;cases hb:binds e with
    | false=>rw [XY,hb]; rfl
    | true=>
     have aJ:=hf.back i o ho e (by simpa using he) hb;rw [ih e.on aJ (by omega)];simp
   rw [h] at hm;simp at hm
theorem count_set:∀ (l:List Bool) (i:Nat),l[i]? = some false->((l.set i true).filter (!·)).length+1=(l.filter (!·)).length
 | [],i,h=>by simp at h
 | x::l,0,h=>by
  simp at h;subst h;simp
 | x::l,i+1,h=>by
  have:=count_set l i (by simpa using h);cases x <;> simp at this ⊢ <;> omega
theorem R7 {P:Program} {all:List Oper} {r:Option Nat} (hf:iP P all) {Q:Exit->Act->World->Prop} (I:(Nat->Bool)->Act->World->Prop) (hI:∀ S S' a w,(∀ i,i < all.length->S i=S' i)->I S a w->I S' a w)
  (step:∀ S a w i o,I S a w->jh all S->all[i]? = some o->S i=false->lj all S i->(∀ j,S j=true->j < all.length)->wpOpIn (Fr r) 0 P ⟨all⟩ Q i (I (b8 S i)) a w)
  (fin:∀ S a w,(∀ i,i < all.length->S i=true)->I S a w->Q .normal a w) :
  ∀ (fuel:Nat) (aX:Array Bool) (a:Act) (w:World),aX.size=all.length->(aX.toList.filter (!·)).length=fuel->jh all (fun j=>aX.getD j false)->I (fun j=>aX.getD j false) a w->wpAnyIn (Fr r) 0 P .any ⟨all⟩ Q fuel aX a w
 | 0,aX,a,w,hs,hn,hc,h=>by
  have gU:∀ i,i < all.length->aX.getD i false=true:=by
   intro i hi;have:i < aX.size:=by omega
   cases hb:aX.getD i false with
   | true=>rfl
   | false=>
    exfalso;have hg:aX[i] = false:=by simpa [dF,this] using hb
    have hm:aX[i]∈aX.toList.filter (!·):=by
     rw [List.mem_filter];exact ⟨by simp,by simp [hg]⟩
    rw [lE.1 hn] at hm;simp at hm
  refine ⟨?_,fin _ a w gU h⟩;cases hr:Region.ready .any ⟨all⟩ aX with
  | nil=>rfl
  | cons i r=>
   have:=CZ (all:=all) (aX:=aX) (i:=i) (by rw [hr]; simp);have h1:=gU i this.1;have h2:aX.getD i true=true:=by
    have aJ:i < aX.size:=by omega
    simpa [dF,aJ] using h1
   rw [h2] at this;simp at this
 | fuel+1,aX,a,w,hs,hn,hc,h=>by
  refine ⟨fun hr=>fin _ a w (Ut hf hs hr) h,fun i hi=>?_⟩;obtain ⟨aJ,hl,jZ⟩:=CZ hi;obtain ⟨o,ho⟩:∃ o,all[i]? = some o:=⟨_,cl aJ⟩
  have EL:i < aX.size:=by omega
  have jD:aX.getD i false=false:=by simpa [dF,EL] using hl
  have Bw:∀ j,j < all.length->b8 (fun j=>aX.getD j false) i j=(aX.setIfInBounds i true).getD j false:=by
   intro j hj;by_cases e:j=i
   ·subst e
    simp [b8,dF,EL]
   ·have:Nat.beq j i=false:=by
     cases hb:Nat.beq j i with
     | false=>rfl
     | true=>exact absurd (aD hb) e
    simp [b8,this,dF,Array.getElem?_setIfInBounds_ne (Ne.symm e)]
  refine wpOpIn_mono (fun a' w' h'=>?_) (step _ a w i o h hc ho jD jZ (fun j hj=>by
   rcases Nat.lt_or_ge j all.length with h1 | h1
   ·exact h1
   ·have:aX.getD j false=false:=by
     rw [dF,Array.getElem?_eq_none (by omega)];rfl
    rw [this] at hj; simp at hj))
  refine R7 hf I hI step fin fuel _ a' w' (by simpa using hs) ?_ ?_ (hI _ _ a' w' Bw h')
  ·rw [Array.toList_setIfInBounds]
   have:=count_set aX.toList i (by simpa [dF,EL] using jD);omega
  ·intro x y hx hy
   have hb:∀ z,(aX.setIfInBounds i true).getD z false=true↔b8 (fun j=>aX.getD j false) i z=true:=by
    intro z;rcases Nat.lt_or_ge z all.length with h1 | h1
    ·rw [Bw z h1]
    ·have e1:(aX.setIfInBounds i true).getD z false=false:=by
      rw [dF,Array.getElem?_eq_none (by simp; omega)];rfl
     have e2:aX.getD z false=false:=by
      rw [dF,Array.getElem?_eq_none (by omega)];rfl
     have e3:Nat.beq z i=false:=by
      cases hb:Nat.beq z i with
      | false=>rfl
      | true=>have:=aD hb; omega
     simp [b8,e1,e2,e3]
   rw [hb] at hx ⊢;exact hc.insert hf ho jZ x y hx hy
theorem Oz {P:Program} {all:List Oper} (hf:iP P all) {Q:Exit->Act->World->Prop} (I:(Nat->Bool)->Act->World->Prop) (hI:∀ S S' a w,(∀ i,i < all.length->S i=S' i)->I S a w->I S' a w)
  (step:∀ S a w i o,I S a w->jh all S->all[i]? = some o->S i=false->lj all S i->(∀ j,S j=true->j < all.length)->wpOp P ⟨all⟩ Q i (I (b8 S i)) a w)
  (fin:∀ S a w,(∀ i,i < all.length->S i=true)->I S a w->Q .normal a w) :
  ∀ (fuel:Nat) (aX:Array Bool) (a:Act) (w:World),aX.size=all.length->(aX.toList.filter (!·)).length=fuel->jh all (fun j=>aX.getD j false)->I (fun j=>aX.getD j false) a w->wpAny P .any ⟨all⟩ Q fuel aX a w
 | 0,aX,a,w,hs,hn,hc,h=>by
  have gU:∀ i,i < all.length->aX.getD i false=true:=by
   intro i hi;have:i < aX.size:=by omega
   cases hb:aX.getD i false with
   | true=>rfl
   | false=>
    exfalso;have hg:aX[i] = false:=by simpa [dF,this] using hb
    have hm:aX[i]∈aX.toList.filter (!·):=by
     rw [List.mem_filter];exact ⟨by simp,by simp [hg]⟩
    rw [lE.1 hn] at hm;simp at hm
  refine ⟨?_,fin _ a w gU h⟩;cases hr:Region.ready .any ⟨all⟩ aX with
  | nil=>rfl
  | cons i r=>
   have:=CZ (all:=all) (aX:=aX) (i:=i) (by rw [hr]; simp);have h1:=gU i this.1;have h2:aX.getD i true=true:=by
    have aJ:i < aX.size:=by omega
    simpa [dF,aJ] using h1
   rw [h2] at this;simp at this
 | fuel+1,aX,a,w,hs,hn,hc,h=>by
  refine ⟨fun hr=>fin _ a w (Ut hf hs hr) h,fun i hi=>?_⟩;obtain ⟨aJ,hl,jZ⟩:=CZ hi;obtain ⟨o,ho⟩:∃ o,all[i]? = some o:=⟨_,cl aJ⟩
  have EL:i < aX.size:=by omega
  have jD:aX.getD i false=false:=by simpa [dF,EL] using hl
  have Bw:∀ j,j < all.length->b8 (fun j=>aX.getD j false) i j=(aX.setIfInBounds i true).getD j false:=by
   intro j hj;by_cases e:j=i
   ·subst e
    simp [b8,dF,EL]
   ·have:Nat.beq j i=false:=by
     cases hb:Nat.beq j i with
     | false=>rfl
     | true=>exact absurd (aD hb) e
    simp [b8,this,dF,Array.getElem?_setIfInBounds_ne (Ne.symm e)]
  refine wpOp_mono (fun a' w' h'=>?_) (step _ a w i o h hc ho jD jZ (fun j hj=>by
   rcases Nat.lt_or_ge j all.length with h1 | h1
   ·exact h1
   ·have:aX.getD j false=false:=by
     rw [dF,Array.getElem?_eq_none (by omega)];rfl
    rw [this] at hj; simp at hj))
  refine Oz hf I hI step fin fuel _ a' w' (by simpa using hs) ?_ ?_ (hI _ _ a' w' Bw h')
  ·rw [Array.toList_setIfInBounds]
   have:=count_set aX.toList i (by simpa [dF,EL] using jD);omega
  ·intro x y hx hy
   have hb:∀ z,(aX.setIfInBounds i true).getD z false=true↔b8 (fun j=>aX.getD j false) i z=true:=by
    intro z;rcases Nat.lt_or_ge z all.length with h1 | h1
    ·rw [Bw z h1]
    ·have e1:(aX.setIfInBounds i true).getD z false=false:=by
      rw [dF,Array.getElem?_eq_none (by simp; omega)];rfl
     have e2:aX.getD z false=false:=by
      rw [dF,Array.getElem?_eq_none (by omega)];rfl
     have e3:Nat.beq z i=false:=by
      cases hb:Nat.beq z i with
      | false=>rfl
      | true=>have:=aD hb; omega
     simp [b8,e1,e2,e3]
   rw [hb] at hx ⊢;exact hc.insert hf ho jZ x y hx hy
def lP (all:List Oper) (i:Nat):Option Tmp:=(all[i]?).bind (·.dst)
def rZ (all:List Oper) (t0:Tm):List Rec->Tm
 | []=>t0
 | r::R=>vV (rZ all t0 R) (lP all r.i) r.v
def Valid (P:Program) (call:cZ) (all:List Oper) (A0:St) (t0:Tm):List Rec->Prop
 | []=>True
 | r::R=>Valid P call all A0 t0 R/\r.i=R.length/\∃ o,all[R.length]? = some o/\vX P call (aC [] all) all A0 R R.length (rZ all t0 R) o=some r
theorem ag2 {call:cZ} {b:List Nat} {A0:St} {R:List Rec} {i:Nat} {t:Tm} {ins:Ins} {r:Rec} (h:iM call b A0 R i t ins=some r):r.i=i:=by
 cases ins with
 | pure f xs=>simp only [iM] at h; obtain ⟨v,_,rfl⟩:=aU.1 h; rfl
 | read f xs=>simp only [iM] at h; obtain ⟨v,_,rfl⟩:=aU.1 h; rfl
 | make f xs=>simp only [iM] at h; obtain ⟨v,_,rfl⟩:=aU.1 h; rfl
 | act f xs=>
  simp only [iM] at h;obtain ⟨v,_,h⟩:=aO.1 h;cases hb:Nat.ble (fq A0 R) v.2.next <;> rw [hb] at h <;> simp at h;subst h; rfl
 | call f xs=>
  simp only [iM] at h;obtain ⟨p,_,h⟩:=aO.1 h;obtain ⟨v,_,h⟩:=aO.1 h;cases hb:Nat.ble (fq A0 R) v.2.next <;> rw [hb] at h <;> simp at h;subst h; rfl
 | bad=>simp [iM] at h
theorem akB {P:Program} {call:cZ} {b:List Nat} {all:List Oper} {A0:St} {R:List Rec} {i:Nat} {t:Tm} {o:Oper} {r:Rec} (h:vX P call b all A0 R i t o=some r):r.i=i:=by
 unfold vX at h;obtain ⟨wd,_,h⟩:=aO.1 h;cases wd with
 | true=>exact ag2 h
 | false=>simp at h; subst h; rfl
theorem OA {P:Program} {call:cZ} {all:List Oper} {A0:St} {t0:Tm} : ∀ (os:List Oper) (R R' : List Rec) (t' : Tm),all.drop R.length=os->Valid P call all A0 t0 R->
  uk P call (aC [] all) all A0 os R.length R (rZ all t0 R)=some (R',t')->Valid P call all A0 t0 R'/\t' = rZ all t0 R'/\R'.length=R.length+os.length
 | [],R,R',t',_,hv,h=>by
  simp only [uk,aR,bH] at h;obtain ⟨rfl,rfl⟩:=h;exact ⟨hv,rfl,by simp⟩
 | o::os,R,R',t',hd,hv,h=>by
  simp only [uk] at h;obtain ⟨r,hr,h⟩:=aO.1 h;have ho:all[R.length]? = some o:=by
   have:(all.drop R.length)[0]? = some o:=by rw [hd]; rfl
   rw [lF] at this;simpa using this
  have hi:=akB hr;have CH:all.drop (R.length+1)=os:=by rw [<- List.drop_drop,hd]; rfl
  have:=OA os (r::R) R' t' (by simpa using CH) ⟨hv,hi,o,ho,hr⟩ (by
   have e:rZ all t0 (r::R)=vV (rZ all t0 R) o.dst r.v:=by simp [rZ,lP,hi,ho]
   rw [e];exact h)
  refine ⟨this.1,this.2.1,?_⟩;rw [this.2.2];simp;omega
theorem Valid.at {P:Program} {call:cZ} {all:List Oper} {A0:St} {t0:Tm} : ∀ {R:List Rec} {r:Rec},Valid P call all A0 t0 R->r∈R->
  ∃ R0 R1,R=R1++r::R0/\Valid P call all A0 t0 R0/\r.i=R0.length/\∃ o,all[r.i]? = some o/\vX P call (aC [] all) all A0 R0 r.i (rZ all t0 R0) o=some r
 | [],r,_,h=>by simp at h
 | x::R,r,hv,h=>by
  obtain ⟨h1,h2,o,h3,h4⟩:=hv;rcases bd.1 h with rfl | h
  ·exact ⟨R,[],rfl,h1,h2,o,by rw [h2]; exact h3,by rw [h2]; exact h4⟩
  ·obtain ⟨R0,R1,e,h5,h6,h7⟩:=Valid.at h1 h
   exact ⟨R0,x::R1,by rw [e]; rfl,h5,h6,h7⟩
theorem Valid.lt {P:Program} {call:cZ} {all:List Oper} {A0:St} {t0:Tm} {R:List Rec} (hv:Valid P call all A0 t0 R):∀ {r:Rec},r∈R->r.i < R.length:=by
 intro r hr;obtain ⟨R0,R1,e,_,h,_⟩:=hv.at hr;rw [e,h];simp;omega
theorem Valid.get {P:Program} {call:cZ} {all:List Oper} {A0:St} {t0:Tm} : ∀ {R:List Rec},Valid P call all A0 t0 R->∀ {i:Nat},i < R.length->∃ r∈R,r.i=i
 | [],_,i,h=>by simp at h
 | x::R,hv,i,h=>by
  obtain ⟨h1,h2,_⟩:=hv;by_cases e:i=R.length
  ·exact ⟨x,by simp,by rw [h2,e]⟩
  ·obtain ⟨r,hr,he⟩:=Valid.get h1 (i:=i) (by simp at h; omega)
   exact ⟨r,by simp [hr],he⟩
theorem Valid.inj {P:Program} {call:cZ} {all:List Oper} {A0:St} {t0:Tm} : ∀ {R:List Rec},Valid P call all A0 t0 R->∀ {r s:Rec},r∈R->s∈R->r.i=s.i->r=s
 | [],_,r,s,h,_,_=>by simp at h
 | x::R,hv,r,s,hr,hs,e=>by
  obtain ⟨h1,h2,_⟩:=hv;rcases bd.1 hr with hr | hr1
  ·rcases bd.1 hs with hs | hs1
   ·rw [hr,hs]
   ·have:=Valid.lt h1 hs1; rw [hr] at e; omega
  ·rcases bd.1 hs with hs | hs1
   ·have:=Valid.lt h1 hr1; rw [hs] at e; omega
   ·exact Valid.inj h1 hr1 hs1 e
theorem Ij {P:Program} {call:cZ} {b:List Nat} {all:List Oper} {A0:St} {R:List Rec} {i:Nat} {t:Tm} {o:Oper} {r:Rec} (h:vX P call b all A0 R i t o=some r) :
  fq A0 R<=r.nx/\(∀ id ob,r.jn = .make id ob->id=fq A0 R/\r.nx=id+1)/\(∀ B,r.jn = .act B->r.nx=B.next)/\((∀ B,r.jn≠.act B)->(∀ id ob,r.jn≠.make id ob)->r.nx=fq A0 R):=by
 unfold vX at h;obtain ⟨wd,_,h⟩:=aO.1 h;cases wd with
 | false=>simp at h; subst h; simp
 | true=>
  rw [ah] at h;generalize compile P o.op=ins at h;cases ins with
  | pure f xs=>simp only [iM] at h; obtain ⟨v,_,rfl⟩:=aU.1 h; simp
  | read f xs=>simp only [iM] at h; obtain ⟨v,_,rfl⟩:=aU.1 h; simp
  | make f xs=>simp only [iM] at h; obtain ⟨v,_,rfl⟩:=aU.1 h; simp
  | act f xs=>
   simp only [iM] at h;obtain ⟨v,_,h⟩:=aO.1 h;cases hb:Nat.ble (fq A0 R) v.2.next <;> rw [hb] at h <;> simp at h;subst h;simpa using cM hb
  | call f xs=>
   simp only [iM] at h;obtain ⟨p,_,h⟩:=aO.1 h;obtain ⟨v,_,h⟩:=aO.1 h;cases hb:Nat.ble (fq A0 R) v.2.next <;> rw [hb] at h <;> simp at h;subst h;simpa using cM hb
  | bad=>simp [iM] at h
theorem Valid.za {P:Program} {call:cZ} {all:List Oper} {A0:St} {t0:Tm} : ∀ {R:List Rec},Valid P call all A0 t0 R->A0.next<=fq A0 R
 | [],_=>ao _
 | x::R,hv=>by
  obtain ⟨h1,h2,o,h3,h4⟩:=hv;have:=(Ij h4).1;exact dA (Valid.za h1) this
theorem Valid.qL {P:Program} {call:cZ} {all:List Oper} {A0:St} {t0:Tm} : ∀ {R:List Rec},Valid P call all A0 t0 R->∀ {r:Rec},r∈R->r.nx<=fq A0 R
 | [],_,r,h=>by simp at h
 | x::R,hv,r,hr=>by
  obtain ⟨h1,h2,o,h3,h4⟩:=hv;rcases bd.1 hr with rfl | hr
  ·exact ao _
  ·exact dA (Valid.qL h1 hr) (Ij h4).1
theorem Valid.order {P:Program} {call:cZ} {all:List Oper} {A0:St} {t0:Tm} {R:List Rec} (hv:Valid P call all A0 t0 R) {r s:Rec} (hr:r∈R) (hs:s∈R) (aJ:r.i < s.i) :
  ∃ R0,(∃ o,vX P call (aC [] all) all A0 R0 s.i (rZ all t0 R0) o=some s)/\r.nx<=fq A0 R0:=by
 obtain ⟨R0,R1,e,h5,h6,o,h7,h8⟩:=hv.at hs;refine ⟨R0,⟨o,h8⟩,?_⟩;have hm:r∈R0:=by
  obtain ⟨r',vP,he'⟩:=h5.get (i:=r.i) (by omega);have:r=r':=hv.inj hr (by rw [e]; simp [vP]) he'.symm;rw [this]; exact vP
 exact h5.qL hm
end
end Go.az
end
section
namespace Go.az
noncomputable section
open Go
def jt (r:Rec):Prop:=∃ B,r.jn = .act B
theorem vz:∀ {R:List Rec} {e:Nat},R.Pairwise (fun x y=>y.i < x.i)->eL R=some e->∃ r∈R,r.i=e/\jt r/\∀ s∈R,jt s->s.i<=e
 | [],e,_,h=>by simp [eL] at h
 | r::R,e,hp,h=>by
  rw [List.pairwise_cons] at hp;simp only [eL] at h;split at h
  ·rename_i B hB
   simp at h; subst h;refine ⟨r,by simp,rfl,⟨B,hB⟩,fun s hs _=>?_⟩;rcases bd.1 hs with rfl | hs
   ·exact ao _
   ·exact CM (hp.1 s hs)
  ·rename_i hn
   obtain ⟨x,hx,h1,h2,h3⟩:=vz hp.2 h;refine ⟨x,by simp [hx],h1,h2,fun s hs ha=>?_⟩;rcases bd.1 hs with rfl | hs
   ·obtain ⟨B,hB⟩:=ha; exact absurd hB (hn B)
   ·exact h3 s hs ha
theorem Ik:∀ {R:List Rec},eL R=none->∀ s∈R,¬ jt s
 | [],_,s,hs,_=>by simp at hs
 | r::R,h,s,hs,ha=>by
  simp only [eL] at h;split at h
  ·simp at h
  ·rename_i hn
   rcases bd.1 hs with rfl | hs
   ·obtain ⟨B,hB⟩:=ha; exact hn B hB
   ·exact Ik h s hs ha
theorem Bx {A0:St} {e:Nat} : ∀ {R:List Rec} {r:Rec} {B:St},(∀ s∈R,s.i=e->s=r)->r∈R->r.i=e->r.jn = .act B->FL A0 e R=B
 | [],r,B,_,h,_,_=>by simp at h
 | x::R,r,B,hu,hr,he,hB=>by
  simp only [FL];by_cases hx:x.i=e
  ·have:=hu x (by simp) hx
   subst this;rw [hB];simp [hx]
  ·have vP:r∈R:=by
    rcases bd.1 hr with rfl | h
    ·exact absurd he hx
    ·exact h
   have ih:=Bx (A0:=A0) (fun s hs=>hu s (by simp [hs])) vP he hB;have hb:Nat.beq x.i e=false:=by
    cases hb:Nat.beq x.i e with
    | false=>rfl
    | true=>exact absurd (aD hb) hx
   split
   ·rw [hb,ay]; exact ih
   ·exact ih
theorem zb {jF:Nat->Bool} {A:St} {x:Nat} {o:aY} : ∀ {R:List Rec},(mN jF A R).get x=some o->(∃ r∈R,jF r.i=true/\r.jn = .make x o)\/(A.get x=some o/\∀ r∈R,jF r.i=true->∀ o',r.jn≠.make x o')
 | [],h=>.inr ⟨h,by simp⟩
 | r::R,h=>by
  simp only [mN] at h;split at h
  ·rename_i id ob hd
   cases hs:jF r.i with
   | true=>
    rw [hs,ah] at h;simp only [St.lay,St.get,Trie.iX] at h;by_cases hx:x=id
    ·rw [ax hx] at h
     simp at h; subst h; subst hx;exact .inl ⟨r,by simp,hs,hd⟩
    ·rw [ae hx] at h
     rcases zb (R:=R) h with ⟨r',h1,h2,h3⟩ | ⟨h1,h2⟩
     ·exact .inl ⟨r',by simp [h1],h2,h3⟩
     ·refine .inr ⟨h1,fun r' vP Oj o'=>?_⟩
      rcases bd.1 vP with rfl | vP
      ·rw [hd]; intro e; simp at e; exact hx e.1.symm
      ·exact h2 r' vP Oj o'
   | false=>
    rw [hs,ay] at h;rcases zb (R:=R) h with ⟨r',h1,h2,h3⟩ | ⟨h1,h2⟩
    ·exact .inl ⟨r',by simp [h1],h2,h3⟩
    ·refine .inr ⟨h1,fun r' vP Oj o'=>?_⟩
     rcases bd.1 vP with rfl | vP
     ·rw [hs] at Oj; simp at Oj
     ·exact h2 r' vP Oj o'
  ·rename_i hn
   rcases zb (R:=R) h with ⟨r',h1,h2,h3⟩ | ⟨h1,h2⟩
   ·exact .inl ⟨r',by simp [h1],h2,h3⟩
   ·refine .inr ⟨h1,fun r' vP Oj o'=>?_⟩
    rcases bd.1 vP with rfl | vP
    ·exact hn x o'
    ·exact h2 r' vP Oj o'
theorem Lo {jF:Nat->Bool} {A:St} {x:Nat} : ∀ {R:List Rec},(∀ r∈R,jF r.i=true->∀ o',r.jn≠.make x o')->(mN jF A R).get x=A.get x
 | [],_=>rfl
 | r::R,h=>by
  have ih:=Lo (jF:=jF) (A:=A) (x:=x) (R:=R) fun r' vP=>h r' (by simp [vP]);simp only [mN];split
  ·rename_i id ob hd
   cases hs:jF r.i with
   | true=>
    rw [ah];simp only [St.lay,St.get,Trie.iX];rw [ae (fun e=>by subst e; exact h r (by simp) hs ob hd)];exact ih
   | false=>rw [ay]; exact ih
  ·exact ih
theorem OB {jF:Nat->Bool} {A:St} : ∀ {R:List Rec},(mN jF A R).members=A.members/\(mN jF A R).low=A.low/\(mN jF A R).next=A.next
 | []=>⟨rfl,rfl,rfl⟩
 | r::R=>by
  have ih:=OB (jF:=jF) (A:=A) (R:=R);simp only [mN];split
  ·cases jF r.i with
   | true=>exact ih
   | false=>exact ih
  ·exact ih
def Quiet (A0:St) (R:List Rec):Prop:=∀ r∈R,r.nx=A0.next/\(r.jn = .val\/∃ f vs,r.jn = .read f vs)
def Still (b:List Nat) (A0:St) (R:List Rec) (r:Rec):Prop:=(∀ s∈R,∀ id o,s.jn≠.make id o)/\∀ e,e∈jV R->H0 b r.i e R=true->(qa A0 R e).next<=r.nx
def Mv (b:List Nat) (A0:St) (R:List Rec):Prop:=∀ r∈R,∀ f vs,r.jn = .read f vs->(under r.nx r.v=true\/Still b A0 R r)/\∀ e,e∈jV R->H0 b r.i e R=true->f (jC b A0 R e (eT b r.i)) vs=some r.v
structure Setup (P:Program) (call:cZ) (all:List Oper) (A0:St) (t0:Tm) (R:List Rec):Prop where
 facts:iP P all
 valid:Valid P call all A0 t0 R
 len:R.length=all.length
 chain:qJ (aC [] all) R=true
 reads:Mv (aC [] all) A0 R
theorem Valid.sorted {P:Program} {call:cZ} {all:List Oper} {A0:St} {t0:Tm} : ∀ {R:List Rec},Valid P call all A0 t0 R->R.Pairwise (fun x y=>y.i < x.i)
 | [],_=>.nil
 | r::R,h=>by
  rw [List.pairwise_cons];exact ⟨fun s hs=>by have:=h.1.lt hs; rw [h.2.1]; exact this,Valid.sorted h.1⟩
theorem uQ {P:Program} {call:cZ} {all:List Oper} {A0:St} {t0:Tm} (hf:iP P all):∀ {R:List Rec},Valid P call all A0 t0 R->qJ (aC [] all) R=true->
  ∀ {r s:Rec},r∈R->s∈R->jt r->jt s->s.i < r.i->eT (aC [] all) r.i s.i=true
 | [],_,_,r,s,h,_,_,_,_=>by simp at h
 | x::R,hv,hc,r,s,hr,hs,ar,aow,aJ=>by
  simp only [qJ,aj] at hc;have hsR:s∈R:=by
   rcases bd.1 hs with h | h
   ·rcases bd.1 hr with h' | h'
    ·rw [h,h'] at aJ; omega
    ·have:=hv.1.lt h'; have:=hv.2.1; rw [h] at aJ; omega
   ·exact h
  rcases bd.1 hr with h | h
  ·subst h
   obtain ⟨B,hB⟩:=ar;rw [hB] at hc;cases he:eL R with
   | none=>exact absurd aow (Ik he s hsR)
   | some e=>
    rw [he] at hc;obtain ⟨y,hy,h1,h2,h3⟩:=vz hv.1.sorted he;have hle:=h3 s hsR aow;by_cases hse:s.i=e
    ·rw [hse]; exact hc.1
    ·have:=uQ hf hv.1 hc.2 hy hsR h2 aow (by omega)
     rw [h1] at this;exact Ur hf hc.1 this
  ·exact uQ hf hv.1 hc.2 h hsR ar aow aJ
def lS (R:List Rec) (S:Nat->Bool):Option Nat:=eL (R.filter fun r=>S r.i)
def dm (A0:St) (R:List Rec) (S:Nat->Bool):St:=qa A0 R (lS R S)
def writer (all:List Oper) (R:List Rec) (S:Nat->Bool) (x:Nat):Option Rec:=R.find? fun r=>S r.i&&(lP all r.i==some x)
def valOf (all:List Oper) (t0:Tm) (R:List Rec) (S:Nat->Bool) (x:Nat):Value:=
 match writer all R S x with
 | some r=>r.v
 | none=>(t0.get x).getD undef
def Uu (all:List Oper) (A0:St) (R:List Rec) (S:Nat->Bool) (x:Nat):Nat:=
 match writer all R S x with
 | some r=>r.nx
 | none=>A0.next
structure Inv (all:List Oper) (A0:St) (t0:Tm) (R:List Rec) (N:Nat) (d0:List Deferred) (base:Nat) (AJ:Ren) (w0:World) (S:Nat->Bool) (a:Act) (w:World) (ρ:Ren):Prop where
 size:a.tmps.size=N
 defers:a.defers=d0
 tm:∀ x,VR (ρ.res (Uu all A0 R S x)) (valOf all t0 R S x) (a.tmps.getD x undef)
 core:cp base AJ A0 w0 (ρ.res (dm A0 R S).next) (dm A0 R S) w
 news:∀ r∈R,S r.i=true->∀ id o,r.jn = .make id o->G7 (aC [] all) (lS R S) r.i=false->
  ∃ c cb,ρ id=some (qe o cb)/\xT (ρ.res r.nx) o c/\w.heap[cb]? = some c/\w0.heap.size<=cb/\¬ Ew (ρ.res (dm A0 R S).next) (dm A0 R S) cb
 xV:∀ r∈R,∀ s∈R,S r.i=true->S s.i=true->∀ id o oZ o',r.jn = .make id o->s.jn = .make oZ o'->G7 (aC [] all) (lS R S) r.i=false->G7 (aC [] all) (lS R S) s.i=false->
  r.i≠s.i->∀ l l',ρ id=some l->ρ oZ=some l'->l.cb≠l'.cb
 OC:∀ r∈R,S r.i=false->∀ id o,r.jn = .make id o->ρ id=none
 fT:∀ bl l,ρ bl=some l->bl < (dm A0 R S).next\/∃ r∈R,S r.i=true/\∃ o,r.jn = .make bl o
theorem Bf (o:aY) (cb:Nat):(qe o cb).cb=cb:=by cases o <;> rfl
theorem xT.obj {ρ:Ren} {o:aY} {c:Obj} {base cb:Nat} {w:World} (h:xT ρ o c) (hw:w.heap[cb]? = some c) (hb:base<=cb):pb ρ base w (qe o cb) o/\o.cr=true/\o.hO=none/\o≠.dead:=by
 have aJ:cb < w.heap.size:=(jg.1 hw).1;unfold xT at h;split at h
 ·rename_i cs aQ
  obtain ⟨a,T,rfl,h1,h2⟩:=h;have hlen:a.size=cs.length:=h1.length;have la:∀ i,w.cell? ⟨cb,i,none⟩=a[i]?:=fun i=>by simp [World.cell?,hw]
  have xR:∀ i,w.frozen? ⟨cb,i,none⟩=false:=fun i=>by simp [World.frozen?,hw]
  refine ⟨⟨fun i v hi=>?_,fun h=>by simp at h,fun _=>hb,fun _ j hj=>?_,by simp [qe],fun _ _=>by simp [qe],rfl,aJ,fun _ _ j=>xR j⟩,rfl,rfl,by simp⟩
  ·obtain ⟨v',h3,h4⟩:=h1.get hi
   exact ⟨v',by simp only [qe,bG]; rw [la]; simpa using h3,h4,h2 v (eS hi)⟩
  ·simp only [qe] at hj ⊢
   rw [la,xR,Array.getElem?_eq_getElem (by omega)];exact ⟨rfl,rfl⟩
 ·subst h
  exact ⟨⟨hb,#[],0,hw,rfl⟩,rfl,rfl,by simp⟩
 ·rename_i s
  subst h;exact ⟨⟨hb,rfl,hw⟩,rfl,rfl,by simp⟩
 ·exact h.elim
theorem xT.mono {ρ ak:Ren} (hle:ρ.le ak) {o:aY} {c:Obj} (h:xT ρ o c):xT ak o c:=by
 unfold xT at h ⊢;split at h
 ·obtain ⟨a,T,h1,h2,h3⟩:=h; exact ⟨a,T,h1,h2.mono hle,h3⟩
 ·exact h
 ·exact h
 ·exact h.elim
section
variable {P:Program} {call:cZ} {all:List Oper} {A0:St} {t0:Tm} {R:List Rec} {N:Nat} {d0:List Deferred} {base:Nat} {AJ:Ren} {w0:World}
theorem Setup.ze (hS:Setup P call all A0 t0 R) {r:Rec} {id:Nat} {o:aY} (hr:r∈R) (hd:r.jn = .make id o):A0.next<=id/\r.nx=id+1:=by
 obtain ⟨R0,R1,e,h5,h6,op,h7,h8⟩:=hS.valid.at hr;obtain ⟨h9,qg⟩:=(Ij h8).2.1 id o hd;exact ⟨by rw [h9]; exact h5.za,qg⟩
theorem Setup.OD (hS:Setup P call all A0 t0 R) {r s:Rec} {id:Nat} {o:aY} (hr:r∈R) (hs:s∈R) (hd:s.jn = .make id o) (aJ:r.i < s.i):r.nx<=id:=by
 obtain ⟨R0,⟨op,h1⟩,h2⟩:=hS.valid.order hr hs aJ;rw [((Ij h1).2.1 id o hd).1];exact h2
theorem Setup.XZ (hS:Setup P call all A0 t0 R) {r s:Rec} {id:Nat} {o o' : aY} (hr:r∈R) (hs:s∈R) (hd:r.jn = .make id o) (CH:s.jn = .make id o'):r=s:=by
 rcases Nat.lt_trichotomy r.i s.i with h | h | h
 ·have h1:=hS.OD hr hs CH h
  have h2:=(hS.ze hr hd).2;omega
 ·exact hS.valid.inj hr hs h
 ·have h1:=hS.OD hs hr hd h
  have h2:=(hS.ze hs CH).2;omega
theorem Setup.last (hS:Setup P call all A0 t0 R) (S:Nat->Bool):(lS R S=none/\dm A0 R S=A0/\∀ s∈R,jt s->S s.i=false)\/
  ∃ e∈R,lS R S=some e.i/\S e.i=true/\e.jn = .act (dm A0 R S)/\e.nx=(dm A0 R S).next/\∀ s∈R,jt s->S s.i=true->s.i<=e.i:=by
 cases h:lS R S with
 | none=>
  refine .inl ⟨rfl,by simp [dm,h,qa],fun s hs ha=>?_⟩;cases HD:S s.i with
  | false=>rfl
  | true=>exact absurd ha (Ik h s (by simp [hs,HD]))
 | some e=>
  obtain ⟨r,hr,h1,⟨B,h2⟩,h3⟩:=vz (hS.valid.sorted.filter _) h;rw [List.mem_filter] at hr;have uR:dm A0 R S=B:=by
   simp only [dm,h,qa];exact Bx (fun s hs he=>hS.valid.inj hs hr.1 (by rw [he,h1])) hr.1 h1 h2
  refine .inr ⟨r,hr.1,by rw [h1],hr.2,by rw [uR]; exact h2,?_,fun s hs ha HD=>by rw [h1]; exact h3 s (by simp [hs,HD]) ha⟩;obtain ⟨R0,R1,e',h5,h6,op,h7,h8⟩:=hS.valid.at hr.1;rw [uR];exact (Ij h8).2.2.1 B h2
theorem Inv.view (hS:Setup P call all A0 t0 R) (xu:iu AJ A0 base w0) {S:Nat->Bool} {a:Act} {w:World} {ρ:Ren} (hI:Inv all A0 t0 R N d0 base AJ w0 S a w ρ) (jF:Nat->Bool) (X0:∀ r∈R,∀ id o,r.jn = .make id o->jF r.i=true->S r.i=true)
  (n:Nat) (hn:(dm A0 R S).next<=n) (Uv:∀ r∈R,∀ id o,r.jn = .make id o->jF r.i=true->G7 (aC [] all) (lS R S) r.i=false->r.nx<=n) :
  cp base AJ A0 w0 (ρ.res n) ((jC (aC [] all) A0 R (lS R S) jF).at n) w:=by
 have lk:=hI.core;have tw:=lk.dI;have hle:(ρ.res (dm A0 R S).next).le (ρ.res n):=ρ.sP hn;have fv:∀ x o,(jC (aC [] all) A0 R (lS R S) jF).get x=some o->(∃ r∈R,S r.i=true/\jF r.i=true/\G7 (aC [] all) (lS R S) r.i=false/\r.jn = .make x o)\/
   ((dm A0 R S).get x=some o/\∀ r∈R,jF r.i=true->G7 (aC [] all) (lS R S) r.i=false->∀ o',r.jn≠.make x o'):=by
  intro x o h;rcases zb h with ⟨r,h1,h2,h3⟩ | ⟨h1,h2⟩
  ·simp only [aj,iy] at h2
   exact .inl ⟨r,h1,X0 r h1 x o h3 h2.1,h2.1,h2.2,h3⟩
  ·exact .inr ⟨h1,fun r hr hs hb o'=>h2 r hr (by simp [hs,hb]) o'⟩
 obtain ⟨hm,hl,_⟩:=OB (jF:=fun j=>jF j&&!G7 (aC [] all) (lS R S) j) (A:=dm A0 R S) (R:=R);have mh:∀ x o,(∃ r∈R,S r.i=true/\jF r.i=true/\G7 (aC [] all) (lS R S) r.i=false/\r.jn = .make x o)->∃ cb,(ρ.res n) x=some (qe o cb)/\pb (ρ.res n) base w (qe o cb) o/\o.hO=none/\
   w0.heap.size<=cb/\¬ Ew (ρ.res (dm A0 R S).next) (dm A0 R S) cb:=by
  rintro x o ⟨r,h1,h2,h3,h4,h5⟩;obtain ⟨c,cb,h6,h7,h8,h9,qg⟩:=hI.news r h1 h2 x o h5 h4;have hx:x < n:=by have:=(hS.ze h1 h5).2; have:=Uv r h1 x o h5 h3 h4; omega
  have h0:=xu.size;obtain ⟨k1,k2,k3,k4⟩:=(h7.mono (ρ.sP (Uv r h1 x o h5 h3 h4))).obj (base:=base) h8 (by omega);exact ⟨cb,by rw [Ren.ur hx]; exact h6,k1,k3,h9,qg⟩
 have EM:∀ x o l,(dm A0 R S).get x=some o->o≠.dead->(ρ.res n) x=some l->(ρ.res (dm A0 R S).next) x=some l:=by
  intro x o l hx hd hr;obtain ⟨l',h1,_⟩:=tw.rel.obj hx hd;have:=hle _ _ h1;rw [hr] at this;simp at this; subst this;exact h1
 refine ⟨⟨.qd ?_ ?_ ?_,?_,tw.size,tw.lL.mono hle⟩,?_,lk.kept,dA lk.next hn,?_,?_,?_⟩
 ·intro x o hx hd
  rcases fv x o hx with h | ⟨h,_⟩
  ·obtain ⟨cb,h1,h2,_⟩:=mh x o h
   exact ⟨_,h1,h2⟩
  ·obtain ⟨l,h1,h2⟩:=tw.rel.obj h hd
   exact ⟨l,hle _ _ h1,h2.dj hle rfl (ao _)⟩
 ·intro b1 b2 o1 o2 l1 l2 bx g1 g2 m1 m2 r1 r2 vM
  have hd1:o1≠.dead:=by intro e; subst e; simp [aY.cr] at m1
  have hd2:o2≠.dead:=by intro e; subst e; simp [aY.cr] at m2
  rcases fv b1 o1 g1 with h1 | ⟨h1,_⟩ <;> rcases fv b2 o2 g2 with h2 | ⟨h2,_⟩
  ·obtain ⟨r,a1,a2,a3,a4,a5⟩:=h1
   obtain ⟨s,c1,c2,c3,c4,c5⟩:=h2;have hri:r.i≠s.i:=fun e=>by
    have:=hS.valid.inj a1 c1 e;subst this;rw [a5] at c5; simp at c5;exact bx c5.1
   exact absurd vM (hI.xV r a1 s c1 a2 c2 b1 o1 b2 o2 a5 c5 a4 c4 hri l1 l2 (ρ.Zd n _ _ r1) (ρ.Zd n _ _ r2))
  ·obtain ⟨cb,e1,_,_,_,e5⟩:=mh b1 o1 h1
   rw [r1] at e1; simp at e1;have anc:l1.cb=cb:=by rw [e1,Bf]
   exact absurd ⟨b2,o2,l2,h2,m2,EM b2 o2 l2 h2 hd2 r2,by rw [<- vM,anc]⟩ e5
  ·obtain ⟨cb,e1,_,_,_,e5⟩:=mh b2 o2 h2
   rw [r2] at e1; simp at e1;have ane:l2.cb=cb:=by rw [e1,Bf]
   exact absurd ⟨b1,o1,l1,h1,m1,EM b1 o1 l1 h1 hd1 r1,by rw [vM,ane]⟩ e5
  ·exact tw.rel.apart b1 b2 o1 o2 l1 l2 bx h1 h2 m1 m2 (EM b1 o1 l1 h1 hd1 r1) (EM b2 o2 l2 h2 hd2 r2) vM
 ·intro x o aF f hx hk
  rcases fv x o hx with h | ⟨h,_⟩
  ·obtain ⟨cb,_,_,h3,_⟩:=mh x o h
   rw [hk] at h3; simp at h3
  ·show x∈(jC (aC [] all) A0 R (lS R S) jF).members aF
   rw [show (jC (aC [] all) A0 R (lS R S) jF).members=(dm A0 R S).members from hm];exact tw.rel.aX x o aF f h hk
 ·intro b l h; exact (Ren.Ow h).1
 ·intro b hb
  have h1:=lk.ext b hb;have:b < (dm A0 R S).next:=dG hb lk.next;rw [Ren.ur this] at h1;rw [Ren.ur (by omega)];exact h1
 ·show (jC (aC [] all) A0 R (lS R S) jF).low<=A0.low
  rw [show (jC (aC [] all) A0 R (lS R S) jF).low=(dm A0 R S).low from hl];exact lk.low
 ·intro b hb Y4
  show (jC (aC [] all) A0 R (lS R S) jF).get b=A0.get b;have anf:b < (dm A0 R S).low:=by
   rw [<- show (jC (aC [] all) A0 R (lS R S) jF).low=(dm A0 R S).low from hl]; exact Y4
  rw [<- lk.same b hb anf];refine Lo fun r hr _ o' e=>?_;have:=(hS.ze hr e).1;omega
 ·rintro k hk ⟨b,o,l,hg,Ey,hr,rfl⟩
  have hd:o≠.dead:=by intro e; subst e; simp [aY.cr] at Ey
  rcases fv b o hg with h | ⟨h,_⟩
  ·obtain ⟨cb,e1,_,_,e4,_⟩:=mh b o h
   rw [hr] at e1; simp at e1;rw [e1,Bf] at hk;omega
  ·exact lk.S4 _ hk ⟨b,o,l,h,Ey,EM b o l h hd hr,rfl⟩
theorem pW {x:Nat} : ∀ {xs:List Operand},Operand.tmp x∈xs->x∈p9 xs
 | [],h=>by simp at h
 | .tmp t::xs,h=>by
  rcases bd.1 h with h | h
  ·simp at h; subst h; simp [p9]
  ·simp [p9,pW h]
 | .const _::xs,h=>by
  rcases bd.1 h with h | h
  ·simp at h
  ·simpa [p9] using pW h
 | .global _::xs,h=>by
  rcases bd.1 h with h | h
  ·simp at h
  ·simpa [p9] using pW h
 | .func _::xs,h=>by
  rcases bd.1 h with h | h
  ·simp at h
  ·simpa [p9] using pW h
theorem Bz:∀ (R0:List Rec) (x:Nat),(rZ all t0 R0).get x=match R0.find? (fun r=>lP all r.i==some x) with | some r=>some r.v | none=>t0.get x
 | [],x=>rfl
 | r::R0,x=>by
  simp only [rZ,List.find?_cons];cases hd:lP all r.i with
  | none=>simp only [vV]; rw [Bz R0 x]; rfl
  | some d=>
   simp only [vV,Trie.iX];by_cases h:x=d
   ·subst h; simp
   ·rw [ae h,Bz R0 x]
    have:(some d==some x)=false:=by simp; exact fun e=>h e.symm
    rw [this]
theorem W8 (hS:Setup P call all A0 t0 R) {S:Nat->Bool} (hc:jh all S) {r:Rec} (hr:r∈R) {o:Oper} (ho:all[r.i]? = some o) (jD:S r.i=false) (jZ:lj all S r.i)
  {x:Nat} (hx:x∈looks P all o):∃ R0,(∀ R1 R2,R=R1++r::R2->R2=R0)/\writer all R S x=R0.find? (fun r=>lP all r.i==some x):=by
 obtain ⟨R0,R1,e,h5,h6,o',h7,h8⟩:=hS.valid.at hr;refine ⟨R0,fun R1' R2' e'=>?_,?_⟩
 ·have hl:R2'.length=R0.length:=by
   have hv:=hS.valid;rw [e'] at hv;have key:∀ (X:List Rec),Valid P call all A0 t0 (X++r::R2')->r.i=R2'.length:=by
    intro X
    induction X with
    | nil=>intro h; exact h.2.1
    | cons y X ih=>intro h; exact ih h.1
   rw [<- key R1' hv,h6]
  have:=congrArg (fun l=>l.drop (l.length - R0.length)) (e.symm.trans e');simp only [gd,lG,hl] at this;have e1:(R1++r::R0).drop (R1.length+(R0.length+1) - R0.length)=R0:=by
   rw [show R1.length+(R0.length+1) - R0.length=R1.length+1 by omega,<- List.drop_drop,List.drop_left];rfl
  have e2:(R1'++r::R2').drop (R1'.length+(R0.length+1) - R0.length)=R2':=by
   rw [show R1'.length+(R0.length+1) - R0.length=R1'.length+1 by omega,<- List.drop_drop,List.drop_left];rfl
  rw [e1,e2] at this;exact this.symm
 ·have alv:∀ s∈R,s.i≠r.i->lP all s.i=some x->(S s.i=true↔s.i < r.i):=by
   intro s hs bx hd;obtain ⟨os,hos⟩:∃ os,all[s.i]? = some os:=by
    cases h:all[s.i]? with
    | none=>simp [lP,h] at hd
    | some os=>exact ⟨os,rfl⟩
   have pX:os.dst=some x:=by simpa [lP,hos] using hd
   have BA:xN P all os o=true:=by
    unfold xN;have:N7 os.dst (looks P all o)=true:=by
     rw [pX];simp only [N7,List.any_eq_true];exact ⟨x,hx,by simp⟩
    rw [this]; rfl
   have ang:xN P all o os=true:=by
    unfold xN at BA ⊢;simp only [oh] at BA ⊢;have anh:∀ d e,yZ d e=yZ e d:=by
     intro d e;cases d <;> cases e <;> simp [yZ];rename_i p q;rw [Bool.eq_iff_iff]; simp; exact eq_comm
    rw [anh o.dst os.dst];rcases BA with (h | h) | h
    ·exact .inl (.inr h)
    ·exact .inl (.inl h)
    ·exact .inr h
   constructor
   ·intro HD
    rcases Nat.lt_or_ge s.i r.i with h | h
    ·exact h
    ·have aJ:r.i < s.i:=by omega
     have:=hS.facts.apart s.i r.i o os hos ho aJ ang;have:=hc _ _ HD this;rw [jD] at this; simp at this
   ·intro aJ
    exact hc.ready hS.facts ho jZ _ (hS.facts.apart r.i s.i os o ho hos aJ BA)
  unfold writer;rw [e,List.find?_append];have hv:=hS.valid;have h1:R1.find? (fun r=>S r.i&&(lP all r.i==some x))=none:=by
   rw [List.find?_eq_none];intro s hs qM;simp only [aj,rC] at qM;have hsR:s∈R:=by rw [e]; simp [hs]
   have CE:r.i < s.i:=by
    have hp:=hv.sorted;rw [e,List.pairwise_append] at hp;exact hp.2.2 s hs r (by simp)
   have:=(alv s hsR (by omega) qM.2).1 qM.1;omega
  rw [h1];simp only [Option.none_or,List.find?_cons,jD,Bool.false_and];have h2:∀ (l:List Rec),(∀ s∈l,s∈R0)->l.find? (fun r=>S r.i&&(lP all r.i==some x))=l.find? (fun r=>lP all r.i==some x):=by
   intro l
   induction l with
   | nil=>intro _; rfl
   | cons s l ih=>
    intro hl;simp only [List.find?_cons];have xu:s∈R0:=hl s (by simp);have hsR:s∈R:=by rw [e]; simp [xu]
    have aJ:s.i < r.i:=by rw [h6]; exact h5.lt xu
    cases hd:(lP all s.i==some x) with
    | false=>simp only [Bool.and_false]; exact ih (fun y hy=>hl y (by simp [hy]))
    | true=>
     have:=(alv s hsR (by omega) (by simpa using hd)).2 aJ;simp [this]
  exact h2 R0 (fun s hs=>hs)
end
end
end Go.az
end
section
namespace Go.az
noncomputable section
open Go
theorem wg {p q:Rec->Bool} : ∀ (l:List Rec),(∀ s∈l,jt s->p s=q s)->eL (l.filter p)=eL (l.filter q)
 | [],_=>rfl
 | s::l,h=>by
  have ih:=wg l fun x hx=>h x (by simp [hx]);cases hd:s.jn with
  | act B=>
   have:=h s (by simp) ⟨B,hd⟩;rw [List.filter_cons,List.filter_cons,this];split
   ·simp only [eL,hd]
   ·exact ih
  | _=>
   rw [List.filter_cons,List.filter_cons];split <;> split <;> first | exact ih | (simp only [eL,hd]; exact ih)
theorem Lq:∀ (l m:List Rec),(∀ s∈l,¬ jt s)->eL (l++m)=eL m
 | [],m,_=>rfl
 | s::l,m,h=>by
  have ih:=Lq l m fun x hx=>h x (by simp [hx]);have hs:=h s (by simp);simp only [List.cons_append,eL];split
  ·rename_i B hB; exact absurd ⟨B,hB⟩ hs
  ·exact ih
theorem OE {jF:Nat->Bool} {A:St} : ∀ (l m:List Rec),(∀ s∈l,jF s.i=false)->mN jF A (l++m)=mN jF A m
 | [],m,_=>rfl
 | s::l,m,h=>by
  have ih:=OE (A:=A) l m fun x hx=>h x (by simp [hx]);simp only [List.cons_append,mN];split
  ·rw [h s (by simp),ay]; exact ih
  ·exact ih
theorem find_congr {p q:Rec->Bool} : ∀ (l:List Rec),(∀ s∈l,p s=q s)->l.find? p=l.find? q
 | [],_=>rfl
 | s::l,h=>by
  simp only [List.find?_cons,h s (by simp),find_congr l fun x hx=>h x (by simp [hx])]
theorem oQ (S:Nat->Bool) (i:Nat):b8 S i i=true:=by simp [b8]
theorem iE {S:Nat->Bool} {i j:Nat} (h:j≠i):b8 S i j=S j:=by
 have:Nat.beq j i=false:=by
  cases hb:Nat.beq j i with
  | false=>rfl
  | true=>exact absurd (aD hb) h
 simp [b8,this]
theorem iu.dj {ρ ak:Ren} {A:St} {base:Nat} {w w' : World} (hs:iu ρ A base w) (hle:ρ.le ak) (ani:∀ b l,ak b=some l->b < A.next) (hw:∀ k,k < w.heap.size->w'.heap[k]? = w.heap[k]?) (cT:w.heap.size<=w'.heap.size):iu ak A base w':=by
 have QJ:∀ b o l,A.get b=some o->o≠.dead->ak b=some l->ρ b=some l:=by
  intro b o l hg hd hr;obtain ⟨l',h1,_⟩:=hs.rel.obj hg hd;have:=hle _ _ h1;rw [hr] at this; simp at this; subst this;exact h1
 refine ⟨.qd (fun b o hg hd=>?_) ?_ hs.rel.aX,ani,dA hs.size cT,hs.lL.mono hle⟩
 ·obtain ⟨l,h1,h2⟩:=hs.rel.obj hg hd
  exact ⟨l,hle _ _ h1,h2.dj hle (hw _ (h2.lt hd)) cT⟩
 ·intro b1 b2 o1 o2 l1 l2 bx g1 g2 m1 m2 r1 r2 vM
  exact hs.rel.apart b1 b2 o1 o2 l1 l2 bx g1 g2 m1 m2 (QJ b1 o1 l1 g1 (by intro e; subst e; simp [aY.cr] at m1) r1) (QJ b2 o2 l2 g2 (by intro e; subst e; simp [aY.cr] at m2) r2) vM
theorem Ew.dj {ρ ak:Ren} {A:St} {base:Nat} {w:World} {k:Nat} (hs:iu ρ A base w) (hle:ρ.le ak) (h:Ew ak A k):Ew ρ A k:=by
 obtain ⟨b,o,l,hg,hm,hr,rfl⟩:=h;obtain ⟨l',h1,_⟩:=hs.rel.obj hg (by intro e; subst e; simp [aY.cr] at hm);have:=hle _ _ h1;rw [hr] at this; simp at this; subst this;exact ⟨b,o,l,hg,hm,h1,rfl⟩
theorem Ew.lt {ρ:Ren} {A:St} {base:Nat} {w:World} {k:Nat} (hs:iu ρ A base w) (h:Ew ρ A k):k < w.heap.size:=by
 obtain ⟨b,o,l,hg,hm,hr,rfl⟩:=h;have hd:o≠.dead:=by intro e; subst e; simp [aY.cr] at hm
 obtain ⟨l',h1,h2⟩:=hs.rel.obj hg hd;rw [hr] at h1; simp at h1; subst h1;exact h2.lt hd
section
variable {P:Program} {call:cZ} {all:List Oper} {A0:St} {t0:Tm} {R:List Rec} {N:Nat} {d0:List Deferred} {base:Nat} {AJ:Ren} {w0:World}
theorem Uw (hS:Setup P call all A0 t0 R) {S:Nat->Bool} (hc:jh all S) {r:Rec} (hr:r∈R) {o:Oper} (ho:all[r.i]? = some o) (jD:S r.i=false) (x:Nat) :
  writer all R (b8 S r.i) x=if o.dst=some x then some r else writer all R S x:=by
 have hd:lP all r.i=o.dst:=by simp [lP,ho]
 by_cases h:o.dst=some x
 ·rw [ax h]
  obtain ⟨R0,R1,e,_⟩:=hS.valid.at hr;unfold writer;rw [e,List.find?_append];have h1:R1.find? (fun s=>b8 S r.i s.i&&(lP all s.i==some x))=none:=by
   rw [List.find?_eq_none];intro s hs qM;simp only [aj,rC] at qM;have CE:r.i < s.i:=by
    have hp:=hS.valid.sorted;rw [e,List.pairwise_append] at hp;exact hp.2.2 s hs r (by simp)
   rw [iE (by omega)] at qM;obtain ⟨os,hos⟩:∃ os,all[s.i]? = some os:=by
    cases h' : all[s.i]? with
    | none=>simp [lP,h'] at qM
    | some os=>exact ⟨os,rfl⟩
   have hds:os.dst=some x:=by simpa [lP,hos] using qM.2
   have BA:xN P all o os=true:=by
    unfold xN;have:yZ o.dst os.dst=true:=by rw [h,hds]; simp [yZ]
    rw [this]; simp
   have:=hc _ _ qM.1 (hS.facts.apart s.i r.i o os hos ho CE BA);rw [jD] at this; simp at this
  rw [h1];simp [oQ,hd,h]
 ·rw [ae h]
  refine find_congr R fun s hs=>?_;by_cases e:s.i=r.i
  ·have:(lP all s.i==some x)=false:=by rw [e,hd]; simpa using h
   simp [this]
  ·rw [iE e]
theorem ag3 (hS:Setup P call all A0 t0 R) {S:Nat->Bool} {a:Act} {w:World} {ρ:Ren} (hI:Inv all A0 t0 R N d0 base AJ w0 S a w ρ) (hc:jh all S) {r:Rec} {o:Oper} {R0 R1:List Rec} (hr:r∈R) (e:R=R1++r::R0) (hv:Valid P call all A0 t0 R0)
  (ho:all[r.i]? = some o) (jD:S r.i=false) (jZ:lj all S r.i) {x:Nat} (hx:x∈looks P all o) :
  VR (ρ.res (fq A0 R0)) (((rZ all t0 R0).get x).getD undef) (a.tmps.getD x undef):=by
 obtain ⟨R0',h1,h2⟩:=W8 hS hc hr ho jD jZ hx;have:=h1 R1 R0 e;subst this;have ht:=hI.tm x;unfold Uu valOf at ht;rw [h2] at ht;rw [Bz];cases hf:R0.find? (fun r=>lP all r.i==some x) with
 | none=>rw [hf] at ht; exact ht.mono (ρ.sP hv.za)
 | some s=>rw [hf] at ht; exact ht.mono (ρ.sP (hv.qL (List.mem_of_find?_eq_some hf)))
theorem Ze {ρ:Ren} {t:Tm} {a:Act} {o:Oper} {wd:Bool} (h:∀ d∈vw all o,VR ρ ((t.get d).getD undef) (a.tmps.getD d undef)/\(t.get d≠none->d < a.tmps.size)) (hw:vW all t o.guard=some wd) :
  Region.wanted o (yielded ⟨all⟩ a.tmps)=wd:=by
 unfold vW at hw;unfold Region.wanted;split at hw
 ·rename_i hg; simp at hw; rw [hg]; exact hw.symm
 ·rename_i j want hg
  rw [hg];simp only;unfold yielded;have e:(⟨all⟩:Array Oper)[j]? = all[j]?:=by simp
  rw [e];cases hd:(all[j]?).bind (·.dst) with
  | none=>rw [hd] at hw; simp [jm] at hw; subst hw; simp
  | some d=>
   rw [hd] at hw;simp only [cD] at hw ⊢;obtain ⟨hv,aJ⟩:=h d (by simp [vw,hg,hd]);cases ht:t.get d with
   | none=>
    rw [ht] at hw hv;simp [jm] at hw; subst hw;simp only [Option.getD_none] at hv;have hu:a.tmps.getD d undef=undef:=hv.jW (by simp [undef,flat,vT,nQ]);cases hc:a.tmps[d]? with
    | none=>simp
    | some u=>
     have:a.tmps.getD d undef=u:=by simp [dF,hc]
     rw [hu] at this;subst this;simp [undef]
   | some v=>
    have aJ:=aJ (by rw [ht]; simp);rw [ht] at hw hv;simp only [iB] at hv;have hc:a.tmps[d]? = some (a.tmps.getD d undef):=by simp [dF,aJ]
    rw [hc];generalize a.tmps.getD d undef=u at hv;cases v with
    | bool b=>
     simp [jm] at hw;have:=hv.dr;subst this;subst hw;cases b <;> cases want <;> rfl
    | tuple cs=>
     simp [jm] at hw;obtain ⟨bX,rfl,_⟩:=hv.Bu;subst hw;rfl
    | _=>simp [jm] at hw
theorem ag4 {a:Act} {dst:Option Tmp} {v' : Value} {x:Nat} (hd:∀ d,dst=some d->d < a.tmps.size):(a.put dst v').tmps.getD x undef=if dst=some x then v' else a.tmps.getD x undef:=by
 cases dst with
 | none=>simp [Act.put]
 | some d=>
  have:=hd d rfl;simp only [Act.put];by_cases h:x=d
  ·subst h; simp [dF,this]
  ·rw [ae (by simpa using fun e=>h e.symm)]
   simp [dF,Array.getElem?_setIfInBounds_ne (Ne.symm h)]
theorem Mw (hS:Setup P call all A0 t0 R) {S:Nat->Bool} {a:Act} {w:World} {ρ ak:Ren} (hI:Inv all A0 t0 R N d0 base AJ w0 S a w ρ) (hc:jh all S) {r:Rec} {o:Oper} (hr:r∈R) (ho:all[r.i]? = some o) (jD:S r.i=false)
  (pX:∀ d,o.dst=some d->d < N) (hle:ρ.le ak) {v' : Value} (hv:VR (ak.res r.nx) r.v v') :
  ∀ x,VR (ak.res (Uu all A0 R (b8 S r.i) x)) (valOf all t0 R (b8 S r.i) x) ((a.put o.dst v').tmps.getD x undef):=by
 intro x;rw [ag4 (by rw [hI.size]; exact pX)];unfold Uu valOf;rw [Uw hS hc hr ho jD];by_cases h:o.dst=some x
 ·simp only [ax h]; exact hv
 ·simp only [ae h]
  exact (hI.tm x).mono (Ren.y9 hle _)
theorem Ux {S:Nat->Bool} {r:Rec} (hS:Setup P call all A0 t0 R) (hr:r∈R) (zJ : ¬ jt r):lS R (b8 S r.i)=lS R S:=by
 refine wg R fun s hs ha=>?_;by_cases e:s.i=r.i
 ·exact absurd (hS.valid.inj hs hr e ▸ ha) zJ
 ·exact iE e
theorem Inv.plain (hS:Setup P call all A0 t0 R) {S:Nat->Bool} {a:Act} {w:World} {ρ:Ren} (hI:Inv all A0 t0 R N d0 base AJ w0 S a w ρ) (hc:jh all S) {r:Rec} {o:Oper} (hr:r∈R) (ho:all[r.i]? = some o) (jD:S r.i=false)
  (pX:∀ d,o.dst=some d->d < N) (zJ : ¬ jt r) (hnm:∀ id ob,r.jn≠.make id ob) {v' : Value} (hv:VR (ρ.res r.nx) r.v v'):Inv all A0 t0 R N d0 base AJ w0 (b8 S r.i) (a.put o.dst v') w ρ:=by
 have hl:=Ux (S:=S) hS hr zJ;have uR:dm A0 R (b8 S r.i)=dm A0 R S:=by simp only [dm,hl]
 have mr:∀ s∈R,b8 S r.i s.i=true->∀ id ob,s.jn = .make id ob->S s.i=true:=by
  intro s hs h id ob hd;by_cases e:s.i=r.i
  ·have:=hS.valid.inj hs hr e
   subst this;exact absurd hd (hnm id ob)
  ·rwa [iE e] at h
 refine ⟨?_,?_,Mw hS hI hc hr ho jD pX (Ren.le_refl _) hv,?_,?_,?_,?_,?_⟩
 ·rw [<- hI.size]; cases o.dst <;> simp [Act.put]
 ·rw [<- hI.defers]; cases o.dst <;> rfl
 ·rw [uR]; exact hI.core
 ·rw [uR,hl]; intro s hs h id ob hd hb; exact hI.news s hs (mr s hs h id ob hd) id ob hd hb
 ·rw [hl]; intro s hs u hu h1 h2 id ob oZ W9 d1 d2; exact hI.xV s hs u hu (mr s hs h1 id ob d1) (mr u hu h2 oZ W9 d2) id ob oZ W9 d1 d2
 ·intro s hs h id ob hd
  have bx:s.i≠r.i:=fun e=>by rw [e,oQ] at h; simp at h
  rw [iE bx] at h;exact hI.OC s hs h id ob hd
 ·rw [uR]
  intro b l h;rcases hI.fT b l h with h | ⟨s,hs,h1,h2⟩
  ·exact .inl h
  ·exact .inr ⟨s,hs,by unfold b8; rw [h1]; rfl,h2⟩
theorem Inv.made (hS:Setup P call all A0 t0 R) {S:Nat->Bool} {a:Act} {w:World} {ρ:Ren} (hI:Inv all A0 t0 R N d0 base AJ w0 S a w ρ) (hc:jh all S) {r:Rec} {o:Oper} (hr:r∈R) (ho:all[r.i]? = some o) (jD:S r.i=false)
  (pX:∀ d,o.dst=some d->d < N) {id:Nat} {ob:aY} (hd:r.jn = .make id ob) {c:Obj} {n:Nat} (mh:xT (ρ.res n) ob c) (hn:n<=r.nx) {v' : Value} (hv:∀ ak:Ren,ak id=some (qe ob w.heap.size)->VR ak r.v v') :
  Inv all A0 t0 R N d0 base AJ w0 (b8 S r.i) (a.put o.dst v') (w.alloc c) (ρ.set id (qe ob w.heap.size)):=by
 have zJ : ¬ jt r:=by rintro ⟨B,hB⟩; rw [hd] at hB; simp at hB
 have hl:=Ux (S:=S) hS hr zJ;have uR:dm A0 R (b8 S r.i)=dm A0 R S:=by simp only [dm,hl]
 have hun:=hI.OC r hr jD id ob hd;have hle:ρ.le (ρ.set id (qe ob w.heap.size)):=by
  intro b l h;rw [Ren.cX]
  ·exact h
  ·intro e; subst e; rw [hun] at h; simp at h
 obtain ⟨hid,KM⟩:=hS.ze hr hd;have hold:∀ k,k < w.heap.size->(w.alloc c).heap[k]? = w.heap[k]?:=fun k hk=>RowKit.Below.heap_alloc _ _ _ hk;have cT:w.heap.size<=(w.alloc c).heap.size:=by simp
 have tw:=hI.core.dI;have alw:=Ren.y9 hle (dm A0 R S).next;have aff:∀ k,Ew ((ρ.set id (qe ob w.heap.size)).res (dm A0 R S).next) (dm A0 R S) k->Ew (ρ.res (dm A0 R S).next) (dm A0 R S) k:=fun k h=>h.dj tw alw;refine ⟨?_,?_,Mw hS hI hc hr ho jD pX hle (hv _ (by rw [Ren.ur (by omega),Ren.dk])),?_,?_,?_,?_,?_⟩
 ·rw [<- hI.size]; cases o.dst <;> simp [Act.put]
 ·rw [<- hI.defers]; cases o.dst <;> rfl
 ·rw [uR]
  have lk:=hI.core;refine ⟨tw.dj alw (fun b l h=>(Ren.Ow h).1) hold cT,fun b hb=>?_,⟨lk.kept.os,lk.kept.tape,lk.kept.output,dA lk.kept.size cT,fun k hk hn=>?_⟩,lk.next,lk.low,lk.same,fun k hk h=>lk.S4 k hk (aff k h)⟩
  ·have h1:=lk.ext b hb
   have:b < (dm A0 R S).next:=dG hb lk.next;rw [Ren.ur this] at h1 ⊢;rw [Ren.cX _ _ (by omega)];exact h1
  ·rw [hold k (dG hk lk.kept.size)]; exact lk.kept.block k hk hn
 ·rw [uR,hl]
  intro s hs h oZ W9 CH hb;by_cases e:s.i=r.i
  ·have:=hS.valid.inj hs hr e
   subst this;rw [hd] at CH; simp at CH;obtain ⟨rfl,rfl⟩:=CH;refine ⟨c,w.heap.size,Ren.dk _ _ _,mh.mono (Ren.le_trans (ρ.sP hn) (Ren.y9 hle _)),(MapKept.heap_alloc w c).1,hI.core.kept.size,fun h=>?_⟩;have:=(aff _ h).lt tw;omega
  ·rw [iE e] at h
   obtain ⟨c',cb,h1,h2,h3,h4,h5⟩:=hI.news s hs h oZ W9 CH hb;exact ⟨c',cb,hle _ _ h1,h2.mono (Ren.y9 hle _),by rw [hold cb (jg.1 h3).1]; exact h3,h4,fun h=>h5 (aff _ h)⟩
 ·rw [hl]
  have afg:∀ s∈R,b8 S r.i s.i=true->∀ oZ W9,s.jn = .make oZ W9->G7 (aC [] all) (lS R S) s.i=false->∀ l,(ρ.set id (qe ob w.heap.size)) oZ=some l->
    (s.i=r.i/\l.cb=w.heap.size)\/(s.i≠r.i/\S s.i=true/\ρ oZ=some l/\l.cb < w.heap.size):=by
   intro s hs h oZ W9 CH hb l iJ;by_cases e:s.i=r.i
   ·have:=hS.valid.inj hs hr e
    subst this;rw [hd] at CH; simp at CH;rw [<- CH.1,Ren.dk] at iJ;simp at iJ;exact .inl ⟨rfl,by rw [<- iJ,Bf]⟩
   ·rw [iE e] at h
    have bx:oZ≠id:=fun e'=>by
     subst e';exact e (by rw [hS.XZ hs hr CH hd])
    rw [Ren.cX _ _ bx] at iJ;obtain ⟨c',cb,h1,_,h3,_⟩:=hI.news s hs h oZ W9 CH hb;rw [h1] at iJ; simp at iJ;exact .inr ⟨e,h,by rw [h1,iJ],by rw [<- iJ,Bf]; exact (jg.1 h3).1⟩
  intro s hs u hu h1 h2 id1 ob1 id2 ob2 d1 d2 b1 b2 bx l1 l2 e1 e2;rcases afg s hs h1 id1 ob1 d1 b1 l1 e1 with ⟨p1,p2⟩ | ⟨p1,p2,p3,p4⟩ <;> rcases afg u hu h2 id2 ob2 d2 b2 l2 e2 with ⟨q1,q2⟩ | ⟨q1,q2,q3,q4⟩
  ·omega
  ·omega
  ·omega
  ·exact hI.xV s hs u hu p2 q2 id1 ob1 id2 ob2 d1 d2 b1 b2 bx l1 l2 p3 q3
 ·intro s hs h oZ W9 CH
  have bx:s.i≠r.i:=fun e=>by rw [e,oQ] at h; simp at h
  rw [iE bx] at h;have Uy:oZ≠id:=fun e'=>by
   subst e';exact bx (by rw [hS.XZ hs hr CH hd])
  rw [Ren.cX _ _ Uy];exact hI.OC s hs h oZ W9 CH
 ·rw [uR]
  intro b l h;by_cases e:b=id
  ·subst e; exact .inr ⟨r,hr,oQ _ _,ob,hd⟩
  ·rw [Ren.cX _ _ e] at h
   rcases hI.fT b l h with h | ⟨s,hs,h1,h2⟩
   ·exact .inl h
   ·exact .inr ⟨s,hs,by unfold b8; rw [h1]; rfl,h2⟩
theorem akC (hS:Setup P call all A0 t0 R) {S:Nat->Bool} (hc:jh all S) {r:Rec} {R0 R1:List Rec} (hr:r∈R) (e:R=R1++r::R0) (hv:Valid P call all A0 t0 R0) (hi:r.i=R0.length) (ha:jt r) (jD:S r.i=false)
  {o:Oper} (ho:all[r.i]? = some o) (jZ:lj all S r.i) :
  lS R S=eL R0/\jC (aC [] all) A0 R0 (eL R0) (eT (aC [] all) r.i)=jC (aC [] all) A0 R (lS R S) (eT (aC [] all) r.i):=by
 have hp:=hS.valid.sorted;have hR1:∀ s∈R1,r.i < s.i:=fun s hs=>by
  rw [e,List.pairwise_append] at hp;exact hp.2.2 s hs r (by simp)
 have hR0:∀ s∈R0,s.i < r.i:=fun s hs=>by rw [hi]; exact hv.lt hs
 have amk:∀ s∈R0,jt s->S s.i=true:=fun s hs h=>
  hc.ready hS.facts ho jZ _ (uQ hS.facts hS.valid hS.chain hr (by rw [e]; simp [hs]) ha h (hR0 s hs))
 have aml:∀ s∈R1,jt s->S s.i=false:=fun s hs h=>by
  cases HD:S s.i with
  | false=>rfl
  | true=>
   have:=hc _ _ HD (uQ hS.facts hS.valid hS.chain (by rw [e]; simp [hs]) hr h ha (hR1 s hs));rw [jD] at this; simp at this
 have h1:lS R S=eL R0:=by
  unfold lS;rw [e,List.filter_append,Lq]
  ·have anj : ¬ (S r.i=true):=by rw [jD]; simp
   rw [List.filter_cons,ae anj];have:R0=R0.filter (fun _=>true):=(List.filter_eq_self.2 fun _ _=>rfl).symm
   conv=>rhs; rw [this]
   exact wg R0 fun s hs h=>amk s hs h
  ·intro s hs h
   rw [List.mem_filter] at hs;rw [aml s hs.1 h] at hs;exact absurd hs.2 (by simp)
 refine ⟨h1,?_⟩;rw [h1];unfold jC;have h2:qa A0 R (eL R0)=qa A0 R0 (eL R0):=by
  cases hl:eL R0 with
  | none=>rfl
  | some k=>
   obtain ⟨y,hy,h3,⟨B,h4⟩,_⟩:=vz hv.sorted hl;simp only [qa];rw [Bx (fun s hs he=>hS.valid.inj hs (by rw [e]; simp [hy]) (by rw [he,h3])) (by rw [e]; simp [hy]) h3 h4,Bx (fun s hs he=>hv.inj hs hy (by rw [he,h3])) hy h3 h4]
 rw [h2]
 conv=>rhs; rw [e,show R1++r::R0=(R1++[r])++R0 by simp]
 refine (OE (R1++[r]) R0 fun s hs=>?_).symm;have Mt:r.i<=s.i:=by
  rcases eX.1 hs with h | h
  ·exact CM (hR1 s h)
  ·simp at h; rw [h]; exact ao _
 cases hb:eT (aC [] all) r.i s.i with
 | false=>rfl
 | true=>have:=Oy hS.facts hb; omega
theorem Inv.aiz (hS:Setup P call all A0 t0 R) (xu:iu AJ A0 base w0) {S:Nat->Bool} {a:Act} {w:World} {ρ:Ren} (hI:Inv all A0 t0 R N d0 base AJ w0 S a w ρ) (hc:jh all S) {r:Rec} {o:Oper} {R0 R1:List Rec} (hr:r∈R) (e:R=R1++r::R0)
  (hv:Valid P call all A0 t0 R0) (hi:r.i=R0.length) (ho:all[r.i]? = some o) (jD:S r.i=false) (jZ:lj all S r.i) (pX:∀ d,o.dst=some d->d < N) {B:St} (hd:r.jn = .act B) (KM:fq A0 R0<=r.nx) (hB:r.nx=B.next) :
  cp base AJ A0 w0 (ρ.res (fq A0 R0)) ((jC (aC [] all) A0 R0 (eL R0) (eT (aC [] all) r.i)).at (fq A0 R0)) w/\
  ∀ nv v' w',cp base (ρ.res (fq A0 R0)) ((jC (aC [] all) A0 R0 (eL R0) (eT (aC [] all) r.i)).at (fq A0 R0)) w nv B w'->VR nv r.v v'->
   ∃ ak,Inv all A0 t0 R N d0 base AJ w0 (b8 S r.i) (a.put o.dst v') w' ak:=by
 have ha:jt r:=⟨B,hd⟩
 obtain ⟨hlS,Ll⟩:=akC hS hc hr e hv hi ha jD ho jZ;have hp:=hS.valid.sorted;have hR1:∀ s∈R1,r.i < s.i:=fun s hs=>by
  rw [e,List.pairwise_append] at hp;exact hp.2.2 s hs r (by simp)
 have afh:∀ s∈R,s.i < r.i->s∈R0:=fun s hs aJ=>by
  rw [e] at hs;rcases eX.1 hs with h | h
  ·have:=hR1 s h; omega
  ·rcases bd.1 h with h | h
   ·rw [h] at aJ; omega
   ·exact h
 have hcn:(dm A0 R S).next<=fq A0 R0:=by
  rcases hS.last S with ⟨_,h2,_⟩ | ⟨y,hy,h1,h2,h3,h4,h5⟩
  ·rw [h2]; exact hv.za
  ·rw [<- h4]
   refine hv.qL (afh y hy ?_);rw [hlS] at h1;obtain ⟨z,hz,h6,_⟩:=vz hv.sorted h1;rw [<- h6,hi]; exact hv.lt hz
 have akD:∀ s∈R,eT (aC [] all) r.i s.i=true->s∈R0:=fun s hs h=>afh s hs (Oy hS.facts h);have qh:=hI.view hS xu (eT (aC [] all) r.i) (fun s hs id ob _ h=>hc.ready hS.facts ho jZ _ h) (fq A0 R0) hcn (fun s hs id ob _ h _=>hv.qL (akD s hs h));rw [<- Ll] at qh;refine ⟨qh,fun nv v' w' hg hvr=>?_⟩;have amm:∀ s∈R,S s.i=true->∀ id ob,s.jn = .make id ob->id < fq A0 R0\/B.next<=id:=by
  intro s hs HD id ob hm;rcases Nat.lt_trichotomy s.i r.i with h | h | h
  ·have:=hv.qL (afh s hs h)
   have:=(hS.ze hs hm).2;left; omega
  ·rw [h,jD] at HD; simp at HD
  ·have:=hS.OD hr hs hm h
   right; omega
 have G8:∀ b,b < fq A0 R0->nv b=ρ b:=fun b hb=>by
  have:=hg.ext b hb;rw [Ren.ur hb] at this;exact this
 have ank:∀ b l,nv b=some l->b < B.next:=hg.dI.fT
 let ak:Ren:=fun b=>if b < B.next then nv b else ρ b
 have hle:ρ.le ak:=by
  intro b l h;show (if b < B.next then nv b else ρ b)=some l;split
  ·rename_i hb
   by_cases hb0:b < fq A0 R0
   ·rw [G8 b hb0]; exact h
   ·rcases hI.fT b l h with h1 | ⟨s,hs,h1,ob,h2⟩
    ·omega
    ·rcases amm s hs h1 b ob h2 with h3 | h3 <;> omega
  ·exact h
 have C0:ak.res B.next=nv:=by
  funext b;unfold Ren.res;by_cases hb:b < B.next
  ·rw [ax hb]; show (if b < B.next then nv b else ρ b)=nv b; rw [ax hb]
  ·rw [ae hb]
   cases h:nv b with
   | none=>rfl
   | some l=>exact absurd (ank b l h) hb
 have iJ:lS R (b8 S r.i)=some r.i:=by
  have anl:∀ s∈R,jt s->S s.i=true->s.i < r.i:=by
   intro s hs h HD;rcases Nat.lt_trichotomy s.i r.i with h1 | h1 | h1
   ·exact h1
   ·rw [h1,jD] at HD; simp at HD
   ·have:=hc _ _ HD (uQ hS.facts hS.valid hS.chain hs hr h ha h1)
    rw [jD] at this; simp at this
  rcases hS.last (b8 S r.i) with ⟨_,_,h3⟩ | ⟨y,hy,h1,h2,h3,_,h5⟩
  ·have:=h3 r hr ha
   rw [oQ] at this; simp at this
  ·have h6:=h5 r hr ha (oQ _ _)
   rw [h1];by_cases hyr:y.i=r.i
   ·rw [hyr]
   ·rw [iE hyr] at h2
    have:=anl y hy ⟨_,h3⟩ h2;omega
 have Zf:dm A0 R (b8 S r.i)=B:=by
  simp only [dm,iJ,qa];exact Bx (fun s hs he=>hS.valid.inj hs hr he) hr rfl hd
 have hold:∀ s∈R,b8 S r.i s.i=true->∀ id ob,s.jn = .make id ob->eT (aC [] all) r.i s.i=false->S s.i=true/\G7 (aC [] all) (lS R S) s.i=false:=by
  intro s hs h id ob hm hb;have bx:s.i≠r.i:=fun e'=>by
   have:=hS.valid.inj hs hr e';subst this;rw [hd] at hm; simp at hm
  rw [iE bx] at h;refine ⟨h,?_⟩;cases hl:lS R S with
  | none=>rfl
  | some k=>
   cases hk:eT (aC [] all) k s.i with
   | false=>exact hk
   | true=>
    exfalso;rw [hlS] at hl;obtain ⟨z,hz,h6,h7,_⟩:=vz hv.sorted hl;have h8:=uQ hS.facts hS.valid hS.chain hr (by rw [e]; simp [hz]) ha h7 (by rw [hi]; exact hv.lt hz);rw [h6] at h8;rw [Ur hS.facts h8 hk] at hb;simp at hb
 have amn:∀ s∈R,S s.i=true->∀ id ob,s.jn = .make id ob->G7 (aC [] all) (lS R S) s.i=false->eT (aC [] all) r.i s.i=false->∀ c cb,ρ id=some (qe ob cb)->w.heap[cb]? = some c->¬ Ew (ρ.res (dm A0 R S).next) (dm A0 R S) cb->
   ¬ Ew (ρ.res (fq A0 R0)) ((jC (aC [] all) A0 R0 (eL R0) (eT (aC [] all) r.i)).at (fq A0 R0)) cb:=by
  rintro s hs HD id ob hm hbe hb c cb iY hw hni ⟨x,ox,lx,hx,S7,hrx,rfl⟩;have hdx:ox≠.dead:=by intro e'; subst e'; simp [aY.cr] at S7
  rw [Ll] at hx;rcases zb hx with ⟨u,hu,X0,hmu⟩ | ⟨hcx,_⟩
  ·simp only [aj,iy] at X0
   have hus:=hc.ready hS.facts ho jZ _ X0.1;have bx:s.i≠u.i:=fun e'=>by rw [e',X0.1] at hb; simp at hb
   exact hI.xV s hs u hu HD hus id ob x ox hm hmu hbe X0.2 bx _ _ iY (ρ.Zd _ _ _ hrx) (by rw [Bf])
  ·obtain ⟨l',h1,_⟩:=hI.core.dI.rel.obj hcx hdx
   have:=ρ.sP hcn _ _ h1;rw [hrx] at this; simp at this; subst this;exact hni ⟨x,ox,lx,hcx,S7,h1,rfl⟩
 refine ⟨ak,?_,?_,Mw hS hI hc hr ho jD pX hle (by rw [hB,C0]; exact hvr),?_,?_,?_,?_,?_⟩
 ·rw [<- hI.size]; cases o.dst <;> simp [Act.put]
 ·rw [<- hI.defers]; cases o.dst <;> rfl
 ·rw [Zf,C0]; exact qh.trans hg
 ·rw [Zf,iJ,C0]
  intro s hs h id ob hm hb;obtain ⟨h1,h2⟩:=hold s hs h id ob hm hb;obtain ⟨c,cb,h3,h4,h5,h6,h7⟩:=hI.news s hs h1 id ob hm h2;have hn:=amn s hs h1 id ob hm h2 hb c cb h3 h5 h7;have aJ:=(jg.1 h5).1;exact ⟨c,cb,hle _ _ h3,h4.mono (Ren.y9 hle _),by rw [hg.kept.block cb aJ hn]; exact h5,h6,fun hk=>hn (hg.S4 cb aJ hk)⟩
 ·rw [iJ]
  intro s hs u hu h1 h2 id1 ob1 id2 ob2 d1 d2 b1 b2 bx l1 l2 e1 e2;obtain ⟨p1,p2⟩:=hold s hs h1 id1 ob1 d1 b1;obtain ⟨q1,q2⟩:=hold u hu h2 id2 ob2 d2 b2;obtain ⟨_,cb,p3,_⟩:=hI.news s hs p1 id1 ob1 d1 p2;obtain ⟨_,cb',q3,_⟩:=hI.news u hu q1 id2 ob2 d2 q2;rw [hle _ _ p3] at e1;rw [hle _ _ q3] at e2;simp at e1 e2;subst e1 e2;exact hI.xV s hs u hu p1 q1 id1 ob1 id2 ob2 d1 d2 p2 q2 bx _ _ p3 q3
 ·intro s hs h id ob hm
  have bx:s.i≠r.i:=fun e'=>by rw [e',oQ] at h; simp at h
  rw [iE bx] at h;have h0:=hI.OC s hs h id ob hm;show (if id < B.next then nv id else ρ id)=none;split
  ·rename_i hb
   rcases Nat.lt_or_ge s.i r.i with h1 | h1
   ·have:=hv.qL (afh s hs h1)
    have:=(hS.ze hs hm).2;rw [G8 id (by omega)]; exact h0
   ·have:=hS.OD hr hs hm (by omega)
    omega
  ·exact h0
 ·rw [Zf]
  intro b l h;have h:(if b < B.next then nv b else ρ b)=some l:=h;split at h
  ·exact .inl ‹_›
  ·rename_i hb
   rcases hI.fT b l h with h1 | ⟨s,hs,h1,h2⟩
   ·omega
   ·exact .inr ⟨s,hs,by unfold b8; rw [h1]; rfl,h2⟩
end
end
end Go.az
end
section
namespace Go.az
noncomputable section
open Go
structure TR (ρ:Ren) (t:Tm) (N:Nat) (a:Act):Prop where
 size:a.tmps.size=N
 val:∀ i,VR ρ ((t.get i).getD undef) (a.tmps.getD i undef)
 none:∀ i,N<=i->t.get i=Option.none
 lL:Oc ρ
theorem VR.undef {ρ:Ren} : VR ρ undef undef:=VR.of_flat (by simp [Go.undef,flat,vT,nQ])
def Round (P:Program) (l:Nat) (args:Array Value) (w:World) (R:Ending->World->Prop):Prop:=
 ∃ f tmps assign body,(Instr.yield l args).run P w = .ok (.round l f tmps assign body) w/\RoundIn Fence.wide 0 P l f tmps assign body w R
def rF (P:Program) (call:cZ):Prop:=
 ∀ f args A v B,call f args A=some (v,B)->
  (Nat.blt f yB = true → ∃ fn, P.funcs[f]? = some fn ∧ fn.body.isSome = true ∧ (fn.name == "runtime.NumGoroutine") = false) ∧
  ∀ (ρ:Ren) (bN:List Value) (base:Nat) (w:World),cz ρ args bN->iu ρ A base w->
   (Nat.blt f yB=true->Calls P f bN.toArray w fun e w'=>∃ ak v',e = .returned v'/\VR ak v v'/\cp base ρ A w ak B w')/\
   (Nat.blt f yB=false->∀ loc,ρ (Nat.sub f yB)=some loc->Round P loc.cb bN.toArray w fun e w'=>∃ ak v',e = .returned v'/\VR ak v v'/\cp base ρ A w ak B w')
theorem abb {P:Program} {o:Oper} {r:Option Nat} {a:Act} {w:World} {next:Act->World->Prop} {Q:Exit->Act->World->Prop} (hnd:∀ c,o.op≠.defer c)
  (h:o.uponIn (Fr r) 0 P a next Q ((execOp a.eval o).run P w)):o.wpIn (Fr r) 0 P a w next Q:=by
 refine ⟨fun _ _=>trivial,?_⟩;rw [Oper.semAt_eq _ _ _ hnd];exact h
theorem Uz {args:List Value} {v:Value} {g:FuncId} {vs:List Value} (h:jc args v=some (g,vs)) (hg:Nat.blt g yB=false):∃ l,v = .func (.yield l) ⟨[]⟩ ⟨[]⟩/\Nat.sub g yB=l/\vs=args:=by
 unfold jc at h;split at h
 ·rename_i g' first cap
  cases hb:Nat.blt g' yB with
  | false=>rw [hb] at h; simp at h
  | true=>
   rw [hb] at h;simp only [ah,aR,bH] at h;rw [h.1,hg] at hb;simp at hb
 ·rename_i l
  simp only [aR,bH] at h;exact ⟨l,rfl,by rw [<- h.1]; exact Nat.add_sub_cancel_left ..,h.2.symm⟩
 ·simp at h
theorem abc {P:Program} {call:cZ} {o:Oper} {r:Option Nat} {f:Operand} {xs:List Operand} {g:FuncId} {vs:List Value} {A B:St} {v:Value} {ρ:Ren} {ev:Operand->Value} {a:Act} {base:Nat} {w:World} {next:Act->World->Prop} {Q:Exit->Act->World->Prop}
  (bM:fk P o (.call f xs)) (dR:rF P call) (l9:qK ρ ev a.eval (f::xs)) (G9:jc (xs.map ev) (ev f)=some (g,vs)) (h:call g vs A=some (v,B)) (hs:iu ρ A base w)
  (hk:∀ ak v' w',VR ak v v'->cp base ρ A w ak B w'->next (a.put o.dst v') w'):o.uponIn (Fr r) 0 P a next Q ((execOp a.eval o).run P w):=by
 obtain ⟨Qw,hc⟩:=dR _ _ _ _ _ h;cases hb:Nat.blt g yB with
 | true=>
  obtain ⟨bw,h1,h2⟩:=bM.2 ρ _ _ _ _ l9 hb G9 (Qw hb);rw [h2 w];refine ⟨fun h=>by simp [Fence.wide] at h,?_⟩;have h3:=(callsIn_wide (n:=0)).2 ((hc ρ bw base w h1 hs).1 hb);refine CallsIn.mono (F:=Fr r) (n:=0) (R:=fun e w'=>∃ ak v',e = .returned v'/\VR ak v v'/\cp base ρ A w ak B w') h3 ?_;rintro e w' ⟨ak,v',rfl,h4,h5⟩;exact hk ak v' w' h4 h5
 | false=>
  obtain ⟨l,e1,e2,rfl⟩:=Uz G9 hb;obtain ⟨loc,bw,h0,h1,h2⟩:=bM.1 ρ _ _ l l9 e1;obtain ⟨f',tmps,assign,body,h3,h4⟩:=(hc ρ bw base w h1 hs).2 hb loc (by rw [e2]; exact h0);rw [h2 w,h3];refine ⟨fun h=>by simp [Fence.wide] at h,?_⟩;refine RoundIn.mono (F:=Fr r) (n:=0) (R:=fun e w'=>∃ ak v',e = .returned v'/\VR ak v v'/\cp base ρ A w ak B w') h4 ?_;rintro e w' ⟨ak,v',rfl,h4,h5⟩;exact hk ak v' w' h4 h5
section
variable {P:Program} {call:cZ} {all:List Oper} {A0:St} {t0:Tm} {R:List Rec} {N:Nat} {d0:List Deferred} {base:Nat} {AJ:Ren} {w0:World}
theorem Inv.congr (hS:Setup P call all A0 t0 R) {S S' : Nat->Bool} {a:Act} {w:World} {ρ:Ren} (h:∀ i,i < all.length->S i=S' i) (hI:Inv all A0 t0 R N d0 base AJ w0 S a w ρ):Inv all A0 t0 R N d0 base AJ w0 S' a w ρ:=by
 have hR:∀ r∈R,S r.i=S' r.i:=fun r hr=>h _ (by rw [<- hS.len]; exact hS.valid.lt hr);have hl:lS R S' = lS R S:=(wg R fun s hs _=>hR s hs).symm;have hw:∀ x,writer all R S' x=writer all R S x:=fun x=>(find_congr R fun s hs=>by rw [hR s hs]).symm;have hc:dm A0 R S' = dm A0 R S:=by simp only [dm,hl]
 refine ⟨hI.size,hI.defers,fun x=>?_,by rw [hc]; exact hI.core,?_,?_,?_,?_⟩
 ·unfold Uu valOf; rw [hw]; exact hI.tm x
 ·rw [hc,hl]; intro r hr h1; exact hI.news r hr (by rw [hR r hr]; exact h1)
 ·rw [hl]; intro r hr s hs h1 h2; exact hI.xV r hr s hs (by rw [hR r hr]; exact h1) (by rw [hR s hs]; exact h2)
 ·intro r hr h1; exact hI.OC r hr (by rw [hR r hr]; exact h1)
 ·rw [hc]
  intro b l h1;rcases hI.fT b l h1 with h2 | ⟨s,hs,h2,h3⟩
  ·exact .inl h2
  ·exact .inr ⟨s,hs,by rw [<- hR s hs]; exact h2,h3⟩
theorem Zg {o:Oper} {d:Tmp} (h:d∈vw all o):d∈looks P all o:=by unfold looks; simp [h]
theorem ag5 {o:Oper} {x:Tmp} (h:Operand.tmp x∈adt (compile P o.op)):x∈looks P all o:=by unfold looks; simp [pW h]
theorem Lr {b:List Nat} {es:List (Option Nat)} : ∀ {rs:List Rec},Ep b A0 R es rs=true->∀ r∈rs,∀ f vs,r.jn = .read f vs->under r.nx r.v=true/\N8 b A0 R r f vs es=true
 | [],_,r,h,_,_,_=>by simp at h
 | x::rs,h,r,hr,f,vs,hd=>by
  simp only [Ep,aj] at h;rcases bd.1 hr with e | hr
  ·subst e
   rw [hd] at h;simpa using h.1
  ·exact Lr h.2 r hr f vs hd
theorem OG {b:List Nat} {r:Rec} {f:St->List Value->Option Value} {vs:List Value} {e:Option Nat} : ∀ {es:List (Option Nat)},N8 b A0 R r f vs es=true->e∈es->H0 b r.i e R=true->f (jC b A0 R e (eT b r.i)) vs=some r.v
 | [],_,h,_=>by simp at h
 | x::es,h,he,hm=>by
  simp only [N8,aj] at h;rcases bd.1 he with rfl | he
  ·have h1:=h.1
   rw [hm,ah] at h1;unfold aij at h1;split at h1
   ·rename_i u hu; rw [hu,QI h1]
   ·simp at h1
  ·exact OG h.2 he hm
theorem Xa {b:List Nat} {R:List Rec} (h:Ep b A0 R (jV R) R=true):Mv b A0 R:=fun r hr f vs hd=>by
 obtain ⟨h1,h2⟩:=Lr h r hr f vs hd;exact ⟨.inl h1,fun e he hm=>OG h2 he hm⟩
theorem OH:∀ {R:List Rec} {r:Rec},r∈R->jt r->some r.i∈jV R
 | [],r,h,_=>by simp at h
 | x::R,r,h,ha=>by
  simp only [jV];rcases bd.1 h with rfl | h
  ·obtain ⟨B,hB⟩:=ha; rw [hB]; simp
  ·have:=OH h ha
   split
   ·simp [this]
   ·exact this
theorem Ls:∀ (R:List Rec),none∈jV R
 | []=>by simp [jV]
 | x::R=>by
  simp only [jV];have:=Ls R;split
  ·simp [this]
  ·exact this
theorem UA {b:List Nat} {i:Nat} {e:Option Nat} : ∀ {R:List Rec},(∀ r∈R,jt r->match e with | some e=>(eT b i r.i=true->r.i<=e)/\(eT b r.i i=true->e < r.i) | none=>eT b i r.i=false)->H0 b i e R=true
 | [],_=>rfl
 | r::R,h=>by
  simp only [H0,aj];refine ⟨?_,UA fun s hs=>h s (by simp [hs])⟩;split
  ·rename_i B hB
   have:=h r (by simp) ⟨B,hB⟩;cases e with
   | none=>simp only at this ⊢; simp [this]
   | some e=>
    simp only at this ⊢;simp only [aj,oh,iy];refine ⟨?_,?_⟩
    ·cases hb:eT b i r.i with
     | false=>exact .inl rfl
     | true=>exact .inr (by rw [Nat.ble_eq]; exact this.1 hb)
    ·cases hb:eT b r.i i with
     | false=>exact .inl rfl
     | true=>exact .inr (by rw [b7]; exact this.2 hb)
  ·rfl
theorem adM (hS:Setup P call all A0 t0 R) {S:Nat->Bool} (hc:jh all S) {r:Rec} {o:Oper} (ho:all[r.i]? = some o) (jD:S r.i=false) (jZ:lj all S r.i) :
  lS R S∈jV R/\H0 (aC [] all) r.i (lS R S) R=true:=by
 rcases hS.last S with ⟨h1,_,h3⟩ | ⟨y,hy,h1,h2,h3,_,h5⟩
 ·rw [h1]
  refine ⟨Ls R,UA fun s hs ha=>?_⟩;cases hb:eT (aC [] all) r.i s.i with
  | false=>rfl
  | true=>
   have:=hc.ready hS.facts ho jZ _ hb;rw [h3 s hs ha] at this; simp at this
 ·rw [h1]
  refine ⟨OH hy ⟨_,h3⟩,UA fun s hs ha=>⟨fun hb=>h5 s hs ha (hc.ready hS.facts ho jZ _ hb),fun hb=>?_⟩⟩;have hns:S s.i=false:=by
   cases HD:S s.i with
   | false=>rfl
   | true=>
    have:=hc _ _ HD hb;rw [jD] at this; simp at this
  rcases Nat.lt_trichotomy y.i s.i with h | h | h
  ·exact h
  ·rw [<- h,h2] at hns; simp at hns
  ·have:=hc _ _ h2 (uQ hS.facts hS.valid hS.chain hy hs ⟨_,h3⟩ ha h)
   rw [hns] at this; simp at this
theorem VR.aiA {ρ:Ren} {n m:Nat} {v v' : Value} (hv:VR ((ρ.res n).res m) v v'):VR (ρ.res m) v v':=by
 refine hv.mono fun b l e=>?_;obtain ⟨h1,h2⟩:=Ren.Ow e;obtain ⟨_,h3⟩:=Ren.Ow h2;rw [Ren.ur h1]; exact h3
theorem Inv.lL {S:Nat->Bool} {a:Act} {w:World} {ρ:Ren} (hI:Inv all A0 t0 R N d0 base AJ w0 S a w ρ) (xu:iu AJ A0 base w0) {n:Nat} (hn:A0.next<=n):Oc (ρ.res n):=fun g hg=>by
 obtain ⟨l,e,h⟩:=xu.lL g hg;have h1:=xu.fT g l e;have h2:=hI.core.ext g h1;rw [e] at h2;obtain ⟨_,h3⟩:=Ren.Ow h2;exact ⟨l,by rw [Ren.ur (by omega)]; exact h3,h⟩
theorem abd (dR:rF P call) (hS:Setup P call all A0 t0 R) (xu:iu AJ A0 base w0) (QK:all.all (tC N)=true) (ht0:∀ x,N<=x->t0.get x=none) {Q:Exit->Act->World->Prop} {S:Nat->Bool} {a:Act} {w:World} {i:Nat} {o:Oper}
  (hI:∃ ρ,Inv all A0 t0 R N d0 base AJ w0 S a w ρ) (hc:jh all S) (ho:all[i]? = some o) (jD:S i=false) (jZ:lj all S i) {rd:Option Nat} :
  wpOpIn (Fr rd) 0 P ⟨all⟩ Q i (fun a' w'=>∃ ρ,Inv all A0 t0 R N d0 base AJ w0 (b8 S i) a' w' ρ) a w:=by
 obtain ⟨ρ,hI⟩:=hI;have aJ:i < all.length:=(cw.1 ho).1;obtain ⟨r,hr,rfl⟩:=hS.valid.get (i:=i) (by rw [hS.len]; exact aJ);obtain ⟨R0,R1,e,hv,hi,o',ho',fL⟩:=hS.valid.at hr;rw [ho] at ho';simp at ho';subst ho';have pX:∀ d,o.dst=some d->d < N:=by
  intro d ed;have:=dU.1 QK o (eS ho);unfold tC at this;rw [ed] at this;simp only at this;rw [b7] at this;exact this
 have hoA:(⟨all⟩:Array Oper)[r.i]? = some o:=by simpa using ho
 have alx:∀ x∈looks P all o,VR (ρ.res (fq A0 R0)) (((rZ all t0 R0).get x).getD undef) (a.tmps.getD x undef):=fun x hx=>ag3 hS hI hc hr e hv ho jD jZ hx;have htN:∀ (R0:List Rec) (x:Nat),N<=x->(rZ all t0 R0).get x=none:=by
  intro R0 x hx
  induction R0 with
  | nil=>exact ht0 x hx
  | cons s R0 ih=>
   simp only [rZ];cases hds:lP all s.i with
   | none=>exact ih
   | some d=>
    simp only [vV,Trie.iX];have hd:d < N:=by
     unfold lP at hds;obtain ⟨os,h1,h2⟩:=aO.1 hds;have:=dU.1 QK os (eS h1);unfold tC at this;rw [h2] at this;simp only at this;rw [b7] at this;exact this
    rw [ae (fun e=>by rw [e] at hx; exact absurd hd (Nat.not_lt_of_le hx))];exact ih
 unfold vX at fL;obtain ⟨wd,HF,fL⟩:=aO.1 fL;have adN:Region.wanted o (yielded ⟨all⟩ a.tmps)=wd:=Ze (fun d hd=>⟨alx d (Zg hd),fun bx=>by
  rw [hI.size];rcases Nat.lt_or_ge d N with h | h
  ·exact h
  ·exact absurd (htN R0 d h) bx⟩) HF
 unfold wpOpIn;rw [hoA];simp only [adN];cases wd with
 | false=>
  simp only [ay,aR] at fL;have zf:r.jn = .val:=by rw [<- fL]
  have Zh:r.v=undef:=by rw [<- fL]
  simp only [CN,if_false];exact ⟨fun _ _=>trivial,ρ,hI.plain hS hc hr ho jD pX (by rintro ⟨B,hB⟩; rw [zf] at hB; simp at hB) (fun id ob h=>by rw [zf] at h; simp at h) (by rw [Zh]; exact VR.undef)⟩
 | true=>
  simp only [ah] at fL;simp only [if_true];refine abb (fun c e=>by rw [e] at fL; simp [compile,iM] at fL) ?_;have bM:=nb P o;have l9:qK (ρ.res (fq A0 R0)) (lK (rZ all t0 R0)) a.eval (adt (compile P o.op)):=by
   intro x hx;cases x with
   | tmp x=>exact alx x (ag5 hx)
   | const v=>
    simp only [lK,Act.eval];cases hf:flat v with
    | true=>exact VR.of_flat hf
    | false=>simp [VR]
   | global g=>exact (hI.lL xu hv.za).ev g
   | func f=>exact VR.J2 (l:=[]) (m:=[]) (.func f) rfl .nil .nil
  generalize compile P o.op=ins at fL bM l9;cases ins with
  | pure f xs=>
   simp only [iM] at fL;obtain ⟨v,zD,fL⟩:=aU.1 fL;have zf:r.jn = .val:=by rw [<- fL]
   have Zh:r.v=v:=by rw [<- fL]
   have KM:r.nx=fq A0 R0:=by rw [<- fL]
   obtain ⟨v',h1,h2⟩:=bM _ _ _ _ l9 zD;rw [h2 w];exact ⟨ρ,hI.plain hS hc hr ho jD pX (by rintro ⟨B,hB⟩; rw [zf] at hB; simp at hB) (fun id ob h=>by rw [zf] at h; simp at h) (by rw [Zh,KM]; exact h1)⟩
  | read f xs=>
   simp only [iM] at fL;obtain ⟨v,zD,fL⟩:=aU.1 fL;have zf:r.jn = .read f (xs.map (lK (rZ all t0 R0))):=by rw [<- fL]
   obtain ⟨hun,Xb⟩:=hS.reads r hr _ _ zf;obtain ⟨hm1,hm2⟩:=adM hS hc ho jD jZ;have tX:=Xb _ hm1 hm2;rcases hun with hun | afi
   rotate_left
   ·
    have OI:=afi.1;have uR:(dm A0 R S).next<=r.nx:=afi.2 _ hm1 hm2;have qh:=hI.view hS xu (eT (aC [] all) r.i) (fun s hs id ob h=>(OI s hs id ob h).elim) r.nx uR (fun s hs id ob h=>(OI s hs id ob h).elim);have hrel:Rel (ρ.res r.nx) (jC (aC [] all) A0 R (lS R S) (eT (aC [] all) r.i)).get (jC (aC [] all) A0 R (lS R S) (eT (aC [] all) r.i)).members base w:=qh.dI.rel;have anm:r.nx=fq A0 R0:=by rw [<- fL]
    obtain ⟨v',h1,h2⟩:=bM _ _ _ _ _ _ _ hrel (fun x hx=>by have:=l9 x hx; rwa [<- anm] at this) tX;rw [h2];exact ⟨ρ,hI.plain hS hc hr ho jD pX (by rintro ⟨B,hB⟩; rw [zf] at hB; simp at hB) (fun id ob h=>by rw [zf] at h; simp at h) h1⟩
   have KM:r.nx=fq A0 R0:=by rw [<- fL]
   let n:=(dm A0 R S).next+fq A0 R
   have qh:=hI.view hS xu (eT (aC [] all) r.i) (fun s hs id ob _ h=>hc.ready hS.facts ho jZ _ h) n (Nat.le_add_right _ _) (fun s hs id ob _ _ _=>dA (hS.valid.qL hs) (Nat.le_add_left _ _));have W0:fq A0 R0<=n:=by
    have:=hS.valid.qL hr;rw [<- KM];exact dA this (Nat.le_add_left _ _)
   have hrel:Rel (ρ.res n) (jC (aC [] all) A0 R (lS R S) (eT (aC [] all) r.i)).get (jC (aC [] all) A0 R (lS R S) (eT (aC [] all) r.i)).members base w:=qh.dI.rel;obtain ⟨v',h1,h2⟩:=bM _ _ _ _ _ _ _ hrel (fun x hx=>(l9 x hx).mono (ρ.sP W0)) tX;rw [h2];refine ⟨ρ,hI.plain hS hc hr ho jD pX (by rintro ⟨B,hB⟩; rw [zf] at hB; simp at hB) (fun id ob h=>by rw [zf] at h; simp at h) ?_⟩;exact VR.aiA (VR.under hun h1)
  | make f xs=>
   simp only [iM] at fL;obtain ⟨⟨ob,mk⟩,zD,fL⟩:=aU.1 fL;have zf:r.jn = .make (fq A0 R0) ob:=by rw [<- fL]
   have Zh:r.v=mk (fq A0 R0):=by rw [<- fL]
   have KM:r.nx=fq A0 R0+1:=by rw [<- fL]
   obtain ⟨c,mk',h1,h2,h3⟩:=bM _ _ _ _ _ l9 zD;rw [h2 w];exact ⟨_,hI.made hS hc hr ho jD pX zf h1 (by omega) (fun ak h=>by rw [Zh]; exact h3 _ _ _ h)⟩
  | act f xs=>
   simp only [iM] at fL;obtain ⟨⟨v,B⟩,zD,fL⟩:=aO.1 fL;cases hb:Nat.ble (fq A0 R0) B.next with
   | false=>rw [hb] at fL; simp at fL
   | true=>
    rw [hb] at fL;simp only [ah,aR] at fL;have zf:r.jn = .act B:=by rw [<- fL]
    have Zh:r.v=v:=by rw [<- fL]
    have KM:r.nx=B.next:=by rw [<- fL]
    obtain ⟨qh,Ak⟩:=hI.aiz hS xu hc hr e hv hi ho jD jZ pX zf (by rw [KM]; exact cM hb) KM;obtain ⟨nv,v',nx,w',h1,h2,h3,h4⟩:=bM _ _ _ _ w _ _ _ qh.dI l9 zD;rw [h1];have UB:=Ak nv v' w' h4 (by rw [Zh]; exact h3);cases nx with
    | value u=>
     have:u=v':=h2;subst this;exact UB
    | skip=>
     have:v' = undef:=h2;subst this;exact UB
    | _=>exact h2.elim
  | call f args=>
   simp only [iM] at fL;obtain ⟨⟨g,vs⟩,G9,fL⟩:=aO.1 fL;obtain ⟨⟨v,B⟩,zD,fL⟩:=aO.1 fL;cases hb:Nat.ble (fq A0 R0) B.next with
   | false=>rw [hb] at fL; simp at fL
   | true=>
    rw [hb] at fL;simp only [ah,aR] at fL;have zf:r.jn = .act B:=by rw [<- fL]
    have Zh:r.v=v:=by rw [<- fL]
    have KM:r.nx=B.next:=by rw [<- fL]
    obtain ⟨qh,Ak⟩:=hI.aiz hS xu hc hr e hv hi ho jD jZ pX zf (by rw [KM]; exact cM hb) KM;exact abc bM dR l9 G9 zD qh.dI fun nv v' w' h3 h4=>Ak nv v' w' h4 (by rw [Zh]; exact h3)
  | bad=>simp [iM] at fL
theorem Il {P:Program} {call:cZ} {rd:Option Nat} (dR:rF P call) (hm:P.follows .mixedOrders=true) {id:Nat} {all:List Oper} {N base:Nat} (QK:all.all (tC N)=true) {t t1:Tm} {A:St} {R:List Rec} {ρ:Ren} {a:Act} {w:World} {Q:Exit->Act->World->Prop}
  (bM:sJ P all=true) (Zi:uk P call (aC [] all) all A all 0 [] t=some (R,t1)) (aiB:qJ (aC [] all) R=true) (akE:Mv (aC [] all) A R) (ht:TR ρ t N a) (hs:iu ρ A base w)
  (hq:∀ ak a' w',TR ak t1 N a'->a'.defers=a.defers->cp base ρ A w ak ((jC (aC [] all) A R (eL R) (fun _=>true)).at (fq A R)) w'->Q .normal a' w'):(Code.region id ⟨all⟩ true).wpIn (Fr rd) 0 P Q a w:=by
   obtain ⟨hv,rfl,hlen⟩:=OA (P:=P) (call:=call) (all:=all) (A0:=A) (t0:=t) all [] R t1 (by simp) trivial Zi;have hS:Setup P call all A t R:=⟨zI bM,hv,by simpa using hlen,aiB,akE⟩
   have hsd:iu ρ A base w.drew:=(cp.drew hs).dI;refine wpIn_region_any hm ?_;show wpAnyIn (Fr rd) 0 P .any ⟨all⟩ Q all.length (Array.replicate all.length false) a w.drew;have Im:∀ i,(Array.replicate all.length false).getD i false=false:=by
    intro i;rw [dF,Array.getElem?_replicate];split <;> rfl
   have OI:∀ i,(fun j=>(Array.replicate all.length false).getD j false) i=true->False:=fun i h=>by
    have h2:(Array.replicate all.length false).getD i false=true:=h;rw [Im] at h2;simp at h2
   refine R7 hS.facts (fun S a' w'=>∃ ak,Inv all A t R N a.defers base ρ w.drew S a' w' ak) (fun S S' a' w' hSS ⟨ak,hI⟩=>⟨ak,hI.congr hS hSS⟩)
    (fun S a' w' i o hI hc ho jD jZ _=>abd dR hS hsd QK ht.none hI hc ho jD jZ) ?_ all.length _ a w.drew (by simp) ?_ (fun i j hi _=>(OI i hi).elim) ⟨ρ,?_⟩
   ·rintro S a' w' gU ⟨ak,hI⟩
    have qh:=hI.view hS hsd (fun _=>true) (fun r hr _ _ _ _=>gU _ (by rw [<- hS.len]; exact hS.valid.lt hr)) (fq A R) ?_ (fun r hr _ _ _ _ _=>hS.valid.qL hr)
    ·have hlS:lS R S=eL R:=by
      have:R=R.filter (fun _=>true):=(List.filter_eq_self.2 fun _ _=>rfl).symm
      conv=>rhs; rw [this]
      exact wg R fun s hs _=>gU _ (by rw [<- hS.len]; exact hS.valid.lt hs)
     rw [hlS] at qh;refine hq (ak.res (fq A R)) a' w' ⟨hI.size,fun x=>?_,fun x hx=>?_,hI.lL hsd hS.valid.za⟩ hI.defers ((cp.drew hs).trans qh)
     ·have h1:=hI.tm x
      have hw:writer all R S x=R.find? (fun r=>lP all r.i==some x):=find_congr R fun s hs=>by rw [gU _ (by rw [<- hS.len]; exact hS.valid.lt hs)]; simp
      unfold Uu valOf at h1;rw [hw] at h1;rw [Bz];cases hf:R.find? (fun r=>lP all r.i==some x) with
      | none=>rw [hf] at h1; exact h1.mono (ak.sP hS.valid.za)
      | some s=>rw [hf] at h1; exact h1.mono (ak.sP (hS.valid.qL (List.mem_of_find?_eq_some hf)))
     ·rw [Bz]
      cases hf:R.find? (fun r=>lP all r.i==some x) with
      | none=>exact ht.none x hx
      | some s=>
       exfalso;have h1:=List.find?_some hf;simp only [rC] at h1;unfold lP at h1;obtain ⟨os,h2,h3⟩:=aO.1 h1;have:=dU.1 QK os (eS h2);unfold tC at this;rw [h3] at this;simp only at this;rw [b7] at this;omega
    ·rcases hS.last S with ⟨_,h2,_⟩ | ⟨y,hy,h1,h2,h3,h4,h5⟩
     ·rw [h2]; exact hS.valid.za
     ·rw [<- h4]; exact hS.valid.qL hy
   ·simp
   ·have akF:∀ i,(fun j=>(Array.replicate all.length false).getD j false) i=false:=Im
    have hl:lS R (fun j=>(Array.replicate all.length false).getD j false)=none:=by
     have:R.filter (fun r=>(fun j=>(Array.replicate all.length false).getD j false) r.i) = []:=by
      rw [List.filter_eq_nil_iff];intro r _;rw [akF]; simp
     unfold lS;rw [this];rfl
    have hw:∀ x,writer all R (fun j=>(Array.replicate all.length false).getD j false) x=none:=by
     intro x;unfold writer;rw [List.find?_eq_none];intro r _ qM;exact OI r.i (Bool.and_eq_true_iff.1 qM).1
    have uR:dm A R (fun j=>(Array.replicate all.length false).getD j false)=A:=by unfold dm; rw [hl]; rfl
    have C0:ρ.res A.next=ρ:=by
     funext b;unfold Ren.res;split
     ·rfl
     ·rename_i hb
      cases iY:ρ b with
      | none=>rfl
      | some l=>exact absurd (hs.fT b l iY) hb
    refine ⟨ht.size,rfl,fun x=>?_,?_,?_,?_,?_,?_⟩
    ·unfold Uu valOf
     rw [hw];show VR (ρ.res A.next) _ _;rw [C0];exact ht.val x
    ·rw [uR,C0]; exact cp.refl hsd
    ·intro r hr h1; exact (OI r.i h1).elim
    ·intro r hr s Oj h1; exact (OI r.i h1).elim
    ·intro r hr _ idn ob hd
     cases iY:ρ idn with
     | none=>rfl
     | some l=>
      have h1:=hs.fT idn l iY;have h2:=(hS.ze hr hd).1;omega
    ·rw [uR]; intro b l h1; exact .inl (hs.fT b l h1)
end
theorem Zj {P:Program} {call:cZ} {rd:Option Nat} (dR:rF P call) (hm:P.follows .mixedOrders=true) {id:Nat} {all:List Oper} {N base:Nat} (QK:all.all (tC N)=true) {t t' : Tm} {A B:St} {ρ:Ren} {a:Act} {w:World} {Q:Exit->Act->World->Prop}
  (h:N9 P call all t A=some (t',B)) (ht:TR ρ t N a) (hs:iu ρ A base w) (hq:∀ ak a' w',TR ak t' N a'->a'.defers=a.defers->cp base ρ A w ak B w'->Q .normal a' w'):(Code.region id ⟨all⟩ true).wpIn (Fr rd) 0 P Q a w:=by
 unfold N9 at h;cases bM:sJ P all with
 | false=>rw [bM] at h; simp at h
 | true=>
  rw [bM,ah] at h;obtain ⟨⟨R,t1⟩,Zi,h⟩:=aO.1 h;cases H7:(qJ (aC [] all) R&&Ep (aC [] all) A R (jV R) R) with
  | false=>simp only [H7] at h; simp at h
  | true=>
   simp only [H7,ah,aR,bH] at h;obtain ⟨rfl,rfl⟩:=h;obtain ⟨aiB,ann⟩:=Bool.and_eq_true_iff.1 H7;exact Il dR hm QK bM Zi aiB (Xa ann) ht hs hq
theorem zg {A0:St} : ∀ {R:List Rec},Quiet A0 R->eL R=none/\fq A0 R=A0.next/\jV R = [none]/\∀ jF A,mN jF A R=A
 | [],_=>⟨rfl,rfl,rfl,fun _ _=>rfl⟩
 | r::R,h=>by
  obtain ⟨h1,h2,h3,h4⟩:=zg (R:=R) fun s hs=>h s (by simp [hs]);obtain ⟨h5,h6⟩:=h r (by simp);rcases h6 with h6 | ⟨f,vs,h6⟩ <;> exact ⟨by simp [eL,h6,h1],h5,by simp [jV,h6,h3],fun jF A=>by simp [mN,h6,h4]⟩
theorem Ip {A0:St} {R:List Rec} (h:Quiet A0 R) (b:List Nat) (jF:Nat->Bool):jC b A0 R none jF=A0:=by
 unfold jC;rw [(zg h).2.2.2];rfl
theorem OJ {A0:St} (b:List Nat):∀ {R:List Rec},Quiet A0 R->qJ b R=true
 | [],_=>rfl
 | r::R,h=>by
  have ih:=OJ b (R:=R) fun s hs=>h s (by simp [hs]);rcases (h r (by simp)).2 with h6 | ⟨f,vs,h6⟩ <;> simp [qJ,h6,ih]
theorem Zk {A0:St} {R:List Rec} {b:List Nat} {r:Rec} (h:Quiet A0 R) (hr:r∈R):Still b A0 R r:=
 ⟨fun s hs id ob e=>by rcases (h s hs).2 with h1 | ⟨f,vs,h1⟩ <;> rw [h1] at e <;> simp at e,fun e he _=>by
  rw [(zg h).2.2.1] at he;simp at he;subst he;exact Nat.le_of_eq (h r hr).1.symm⟩
def UC (A0:St) (R:List Rec):Prop:=∀ r∈R,∀ f vs,r.jn = .read f vs->f A0 vs=some r.v
theorem OK {P:Program} {call:cZ} {b:List Nat} {all:List Oper} {A0:St} : ∀ (os:List Oper) (i:Nat) (R:List Rec) (t t' : Tm) (B:St),(os.all fun o=>Er (compile P o.op))=true->Quiet A0 R->UC A0 R->
  opsV P call all os t A0=some (t',B)->B=A0/\∃ R',uk P call b all A0 os i R t=some (R',t')/\Quiet A0 R'/\UC A0 R'
 | [],i,R,t,t',B,_,hq,hr,h=>by
  simp only [XP,aR,bH] at h;obtain ⟨rfl,rfl⟩:=h;exact ⟨rfl,R,rfl,hq,hr⟩
 | o::os,i,R,t,t',B,hl,hq,hr,h=>by
  rw [List.all_cons,aj] at hl;obtain ⟨AG,iK⟩:=hl;simp only [T8] at h;obtain ⟨wd,HF,h⟩:=aO.1 h;obtain ⟨q1,q2,q3,q4⟩:=zg hq;have qh:=Ip hq b (eT b i);have step:∀ r:Rec,vX P call b all A0 R i t o=some r->r.nx=A0.next->(r.jn = .val\/∃ f vs,r.jn = .read f vs)->(∀ f vs,r.jn = .read f vs->f A0 vs=some r.v)->opsV P call all os (vV t o.dst r.v) A0=some (t',B)->
    B=A0/\∃ R',uk P call b all A0 (o::os) i R t=some (R',t')/\Quiet A0 R'/\UC A0 R':=by
   intro r h1 h2 h3 h4 h5;obtain ⟨e,R',h6,h7,h8⟩:=OK os (Nat.succ i) (r::R) _ t' B iK (fun s hs=>by
    rcases bd.1 hs with rfl | hs
    ·exact ⟨h2,h3⟩
    ·exact hq s hs) (fun s hs=>by
    rcases bd.1 hs with rfl | hs
    ·exact h4
    ·exact hr s hs) h5
   exact ⟨e,R',by simp only [uk,h1,cD]; exact h6,h7,h8⟩
  cases wd with
  | false=>
   rw [ay] at h;exact step ⟨i,undef,fq A0 R,.val⟩ (by simp [vX,HF]) q2 (.inl rfl) (fun f vs hd=>by simp at hd) h
  | true=>
   rw [ah] at h;obtain ⟨⟨v,C⟩,h1,h2⟩:=aO.1 h;cases hc:compile P o.op with
   | pure f xs=>
    rw [hc] at h1;simp only [om] at h1;obtain ⟨u,hu,he⟩:=aU.1 h1;simp at he;obtain ⟨rfl,rfl⟩:=he;exact step ⟨i,u,fq A0 R,.val⟩ (by simp [vX,HF,hc,iM,hu]) q2 (.inl rfl) (fun f vs hd=>by simp at hd) h2
   | read f xs=>
    rw [hc] at h1;simp only [om] at h1;obtain ⟨u,hu,he⟩:=aU.1 h1;simp at he;obtain ⟨rfl,rfl⟩:=he;exact step ⟨i,u,fq A0 R,.read f (xs.map (lK t))⟩ (by simp [vX,HF,hc,iM,q1,qh,hu]) q2 (.inr ⟨_,_,rfl⟩) (fun f' vs hd=>by simp at hd; obtain ⟨rfl,rfl⟩:=hd; exact hu) h2
   | make f xs=>rw [hc] at AG; simp [Er] at AG
   | act f xs=>rw [hc] at AG; simp [Er] at AG
   | call f xs=>rw [hc] at AG; simp [Er] at AG
   | bad=>rw [hc] at AG; simp [Er] at AG
theorem Zl {P:Program} {call:cZ} {rd:Option Nat} (dR:rF P call) (hm:P.follows .mixedOrders=true) {id:Nat} {all:List Oper} {N base:Nat} (QK:all.all (tC N)=true) {t t' : Tm} {A B:St} {ρ:Ren} {a:Act} {w:World} {Q:Exit->Act->World->Prop}
  (hqv:JZ P all=true) (h:opsV P call all all t A=some (t',B)) (ht:TR ρ t N a) (hs:iu ρ A base w) (hq:∀ ak a' w',TR ak t' N a'->a'.defers=a.defers->cp base ρ A w ak B w'->Q .normal a' w'):(Code.region id ⟨all⟩ true).wpIn (Fr rd) 0 P Q a w:=by
 obtain ⟨bM,hl⟩:=Bool.and_eq_true_iff.1 hqv;obtain ⟨rfl,R,Zi,h1,h2⟩:=OK (b:=aC [] all) all 0 [] t t' B hl (fun r hr=>by simp at hr) (fun r hr=>by simp at hr) h;obtain ⟨q1,q2,q3,q4⟩:=zg h1;refine Il dR hm QK bM Zi (OJ _ h1) (fun r hr f vs hd=>⟨.inr (Zk h1 hr),fun e he _=>?_⟩) ht hs fun ak a' w' wh xv hg=>?_
 ·rw [q3] at he
  simp at he;subst he;rw [Ip h1];exact h2 r hr f vs hd
 ·rw [q1,Ip h1,q2] at hg
  exact hq ak a' w' wh xv hg
end
end Go.az
end
section
namespace Go.az
noncomputable section
open Go
variable {P:Program} {call:cZ} {all:List Oper} {A0:St}
theorem OL {b:List Nat} {i:Nat} : ∀ (ys:List Oper) (k:Nat),J0 P b i ys k=true->∀ (j:Nat) (y:Oper),ys[j]? = some y->i≠k+j->zC (compile P y.op)≠0->eT b i (k+j)=true\/eT b (k+j) i=true
 | [],k,_,j,y,hy,_,_=>by simp at hy
 | y0::ys,k,h,0,y,hy,bx,hk=>by
  simp at hy;subst hy;simp only [J0,aj,oh] at h;rcases h.1 with ((h1 | h1) | h1) | h1
  ·exact absurd (aD h1) bx
  ·exact absurd (aD h1) hk
  ·exact .inl h1
  ·exact .inr h1
 | y0::ys,k,h,j+1,y,hy,bx,hk=>by
  simp only [J0,aj] at h;have:=OL ys (Nat.succ k) h.2 j y (by simpa using hy) (by rw [Nat.succ_add]; exact bx) hk;rwa [Nat.succ_add] at this
theorem Lt {b:List Nat} : ∀ (os:List Oper) (k:Nat),H4 P b all os k=true->∀ (j:Nat) (o:Oper),os[j]? = some o->zC (compile P o.op)=3->J0 P b (k+j) all 0=true
 | [],k,_,j,o,ho,_=>by simp at ho
 | o0::os,k,h,0,o,ho,hk=>by
  simp at ho;subst ho;simp only [H4,aj,oh,iy] at h;rcases h.1 with h1 | h1
  ·rw [hk] at h1; simp at h1
  ·exact h1
 | o0::os,k,h,j+1,o,ho,hk=>by
  simp only [H4,aj] at h;have:=Lt os (Nat.succ k) h.2 j o (by simpa using ho) hk;rwa [Nat.succ_add] at this
structure J6 (P:Program) (all:List Oper):Prop where
 UD:iP P all
 wi:∀ (i:Nat) (o:Oper),all[i]? = some o->zC (compile P o.op)≠2
 order:∀ (i j:Nat) (o y:Oper),all[i]? = some o->all[j]? = some y->zC (compile P o.op)=3->zC (compile P y.op)≠0->i≠j->eT (aC [] all) i j=true\/eT (aC [] all) j i=true
theorem ag6 (h:vx P all=true):sJ P all=true/\J6 P all:=by
 simp only [vx,aj] at h;obtain ⟨⟨h1,h2⟩,h3⟩:=h;refine ⟨h1,zI h1,fun i o ho=>?_,fun i j o y ho hy hk pd bx=>?_⟩
 ·have:=dU.1 h2 o (eS ho)
  intro e;rw [e] at this;simp at this
 ·have h4:=Lt all 0 h3 i o ho hk
  rw [bG] at h4;have:=OL all 0 h4 j y hy (by rw [bG]; exact bx) pd;rwa [bG] at this
structure wj (P:Program) (all:List Oper) (A0:St) (i:Nat) (R:List Rec) (A:St):Prop where
 post:qa A0 R (eL R)=A
 nx:fq A0 R=A.next
 below:∀ s∈R,s.i < i
 wi:∀ s∈R,∀ id o,s.jn≠.make id o
 kind:∀ s∈R,∃ o,all[s.i]? = some o/\(jt s->zC (compile P o.op)=3)/\∀ f vs,s.jn = .read f vs->zC (compile P o.op)=1
 last:match eL R with
  | none=>∀ s∈R,¬ jt s
  | some y=>(∃ s∈R,jt s/\s.i=y)/\∀ s∈R,jt s->s.i<=y
 reads:∀ s∈R,∀ f vs,s.jn = .read f vs->∃ e,f (qa A0 R e) vs=some s.v/\(qa A0 R e).next=s.nx/\
  match e with
  | none=>∀ x∈R,jt x->s.i < x.i
  | some y=>y < s.i/\(∃ x∈R,jt x/\x.i=y)/\∀ x∈R,jt x->x.i < s.i->x.i<=y
 chain:qJ (aC [] all) R=true
theorem r5 {r:Rec} {R:List Rec} {e:Option Nat} (h:∀ y,e=some y->r.i≠y):qa A0 (r::R) e=qa A0 R e:=by
 cases e with
 | none=>rfl
 | some y=>
  have bx:=h y rfl;simp only [qa,FL];split
  ·have:Nat.beq r.i y=false:=by
    cases hb:Nat.beq r.i y with
    | false=>rfl
    | true=>exact absurd (aD hb) bx
   rw [this,ay]
  ·rfl
theorem yK {b:List Nat} {R:List Rec} (h:∀ s∈R,∀ id o,s.jn≠.make id o) (e:Option Nat) (jF:Nat->Bool):jC b A0 R e jF=qa A0 R e:=by
 have key:∀ (R:List Rec),(∀ s∈R,∀ id o,s.jn≠.make id o)->∀ jF A,mN jF A R=A:=by
  intro R
  induction R with
  | nil=>intro _ jF A; rfl
  | cons r R ih=>
   intro h jF A;have ih:=ih (fun s hs=>h s (by simp [hs])) jF A;simp only [mN];split
   ·rename_i id o hd; exact absurd hd (h r (by simp) id o)
   ·exact ih
 exact key R h _ _
theorem wj.plain {i:Nat} {R:List Rec} {A:St} (h:wj P all A0 i R A) {r:Rec} {o:Oper} (hi:r.i=i) (hn:r.nx=A.next) (ho:all[i]? = some o) (hd:r.jn = .val\/∃ f vs,r.jn = .read f vs/\f A vs=some r.v/\zC (compile P o.op)=1) :
  wj P all A0 (i+1) (r::R) A:=by
 have zJ : ¬ jt r:=by rintro ⟨B,hB⟩; rcases hd with h1 | ⟨f,vs,h1,_⟩ <;> rw [h1] at hB <;> simp at hB
 have hnm:∀ id o,r.jn≠.make id o:=by intro id o e; rcases hd with h1 | ⟨f,vs,h1,_⟩ <;> rw [h1] at e <;> simp at e
 have hl:eL (r::R)=eL R:=by rcases hd with h1 | ⟨f,vs,h1,_⟩ <;> simp [eL,h1]
 have xW:=h.last;have bx:∀ y,eL R=some y->r.i≠y:=by
  intro y e;rw [e] at xW;obtain ⟨⟨s,hs,_,h2⟩,_⟩:=xW;have:=h.below s hs;omega
 refine ⟨by rw [hl,r5 bx]; exact h.post,hn,fun s hs=>?_,fun s hs=>?_,fun s hs=>?_,?_,fun s hs f vs hf=>?_,?_⟩
 ·rcases bd.1 hs with rfl | hs
  ·omega
  ·have:=h.below s hs; omega
 ·rcases bd.1 hs with rfl | hs
  ·exact hnm
  ·exact h.wi s hs
 ·rcases bd.1 hs with rfl | hs
  ·refine ⟨o,by rw [hi]; exact ho,fun ha=>absurd ha zJ,fun f vs hf=>?_⟩
   rcases hd with h1 | ⟨f',bw,h1,_,h3⟩
   ·rw [h1] at hf; simp at hf
   ·exact h3
  ·exact h.kind s hs
 ·rw [hl]
  cases hle:eL R with
  | none=>
   rw [hle] at xW;intro s hs;rcases bd.1 hs with rfl | hs
   ·exact zJ
   ·exact xW s hs
  | some y=>
   rw [hle] at xW;obtain ⟨⟨s,hs,h1,h2⟩,h3⟩:=xW;exact ⟨⟨s,by simp [hs],h1,h2⟩,fun x hx DH=>by
    rcases bd.1 hx with rfl | hx
    ·exact absurd DH zJ
    ·exact h3 x hx DH⟩
 ·rcases bd.1 hs with rfl | hs
  ·rcases hd with h1 | ⟨f',bw,h1,h2,_⟩
   ·rw [h1] at hf; simp at hf
   ·rw [h1] at hf
    simp at hf;obtain ⟨rfl,rfl⟩:=hf;refine ⟨eL R,by rw [r5 bx,h.post]; exact h2,by rw [r5 bx,h.post,hn],?_⟩;cases hle:eL R with
    | none=>
     rw [hle] at xW;intro x hx DH;rcases bd.1 hx with rfl | hx
     ·exact absurd DH zJ
     ·exact absurd DH (xW x hx)
    | some y=>
     rw [hle] at xW;obtain ⟨⟨x,hx,h4,h5⟩,h6⟩:=xW;refine ⟨by have:=h.below x hx; omega,⟨x,by simp [hx],h4,h5⟩,fun z hz haz _=>?_⟩;rcases bd.1 hz with rfl | hz
     ·exact absurd haz zJ
     ·exact h6 z hz haz
  ·obtain ⟨e,h1,h2,h3⟩:=h.reads s hs f vs hf
   have Oj:=h.below s hs;have Uy:∀ y,e=some y->r.i≠y:=by
    intro y he;subst he;have:=h3.1;omega
   refine ⟨e,by rw [r5 Uy]; exact h1,by rw [r5 Uy]; exact h2,?_⟩;cases e with
   | none=>
    intro x hx DH;rcases bd.1 hx with rfl | hx
    ·exact absurd DH zJ
    ·exact h3 x hx DH
   | some y=>
    obtain ⟨h4,⟨x,hx,h5,h6⟩,h7⟩:=h3;refine ⟨h4,⟨x,by simp [hx],h5,h6⟩,fun z hz haz=>?_⟩;rcases bd.1 hz with rfl | hz
    ·exact absurd haz zJ
    ·exact h7 z hz haz
 ·have:=h.chain
  rcases hd with h1 | ⟨f,vs,h1,_⟩ <;> simp [qJ,h1,this]
theorem wj.act {i:Nat} {R:List Rec} {A B:St} (hf:J6 P all) (h:wj P all A0 i R A) {r:Rec} {o:Oper} (hi:r.i=i) (hn:r.nx=B.next) (ho:all[i]? = some o) (hd:r.jn = .act B) (hk:zC (compile P o.op)=3) :
  wj P all A0 (i+1) (r::R) B:=by
 have ha:jt r:=⟨B,hd⟩
 have hl:eL (r::R)=some r.i:=by simp [eL,hd]
 refine ⟨by rw [hl]; simp only [qa,FL,hd]; rw [show Nat.beq r.i r.i=true from by simp,ah],hn,fun s hs=>?_,fun s hs=>?_,fun s hs=>?_,?_,fun s hs f vs xR=>?_,?_⟩
 ·rcases bd.1 hs with rfl | hs
  ·omega
  ·have:=h.below s hs; omega
 ·rcases bd.1 hs with rfl | hs
  ·intro id o e; rw [hd] at e; simp at e
  ·exact h.wi s hs
 ·rcases bd.1 hs with rfl | hs
  ·exact ⟨o,by rw [hi]; exact ho,fun _=>hk,fun f vs e=>by rw [hd] at e; simp at e⟩
  ·exact h.kind s hs
 ·rw [hl]
  refine ⟨⟨r,by simp,ha,rfl⟩,fun s hs _=>?_⟩;rcases bd.1 hs with rfl | hs
  ·exact ao _
  ·have:=h.below s hs; omega
 ·rcases bd.1 hs with rfl | hs
  ·rw [hd] at xR; simp at xR
  ·obtain ⟨e,h1,h2,h3⟩:=h.reads s hs f vs xR
   have Oj:=h.below s hs;have Uy:∀ y,e=some y->r.i≠y:=by
    intro y he;subst he;have:=h3.1;omega
   refine ⟨e,by rw [r5 Uy]; exact h1,by rw [r5 Uy]; exact h2,?_⟩;cases e with
   | none=>
    intro x hx DH;rcases bd.1 hx with rfl | hx
    ·omega
    ·exact h3 x hx DH
   | some y=>
    obtain ⟨h4,⟨x,hx,h5,h6⟩,h7⟩:=h3;refine ⟨h4,⟨x,by simp [hx],h5,h6⟩,fun z hz haz aJ=>?_⟩;rcases bd.1 hz with rfl | hz
    ·omega
    ·exact h7 z hz haz aJ
 ·have hc:=h.chain
  have xW:=h.last;simp only [qJ,hd,aj];refine ⟨?_,hc⟩;cases hle:eL R with
  | none=>rfl
  | some y=>
   rw [hle] at xW;obtain ⟨⟨s,hs,h1,h2⟩,_⟩:=xW;obtain ⟨os,h3,h4,_⟩:=h.kind s hs;have aJ:=h.below s hs;subst h2;rw [<- hi] at ho;rcases hf.order r.i s.i o os ho h3 hk (by rw [h4 h1]; simp) (by omega) with h5 | h5
   ·exact h5
   ·have:=Oy hf.UD h5; omega
theorem UE {A B:St} {r:Option (Tm×St)} {q:Tm×St} (h:XR A B r=some q):Nat.ble A.next B.next=true/\r=some q:=by
 unfold XR at h;cases hb:Nat.ble A.next B.next with
 | false=>rw [hb] at h; exact absurd h (by simp)
 | true=>rw [hb] at h; exact ⟨rfl,h⟩
theorem UF (hf:J6 P all):∀ (os:List Oper) (i:Nat) (R:List Rec) (t t' : Tm) (A B:St),all.drop i=os->wj P all A0 i R A->H5 P call all os t A=some (t',B)->
  ∃ R',uk P call (aC [] all) all A0 os i R t=some (R',t')/\wj P all A0 all.length R' B
 | [],i,R,t,t',A,B,hd,hI,h=>by
  simp only [agM,aR,bH] at h;obtain ⟨rfl,rfl⟩:=h;have hlen:all.length<=i:=List.drop_eq_nil_iff.1 hd;refine ⟨R,rfl,⟨hI.post,hI.nx,fun s hs=>?_,hI.wi,hI.kind,hI.last,hI.reads,hI.chain⟩⟩;obtain ⟨o,h1,_⟩:=hI.kind s hs;exact (cw.1 h1).1
 | o::os,i,R,t,t',A,B,hd,hI,h=>by
  have ho:all[i]? = some o:=by
   have:(all.drop i)[0]? = some o:=by rw [hd]; rfl
   rw [lF] at this;simpa using this
  have CH:all.drop (i+1)=os:=by rw [<- List.drop_drop,hd]; rfl
  simp only [adu] at h;obtain ⟨wd,HF,h⟩:=aO.1 h;have qh:∀ jF,(jC (aC [] all) A0 R (eL R) jF).at A.next=A:=by
   intro jF;rw [yK hI.wi,hI.post];rfl
  have akG:∀ jF,jC (aC [] all) A0 R (eL R) jF=A:=by
   intro jF;rw [yK hI.wi,hI.post]
  have step:∀ (r:Rec) (C:St),vX P call (aC [] all) all A0 R i t o=some r->wj P all A0 (i+1) (r::R) C->H5 P call all os (vV t o.dst r.v) C=some (t',B)->
    ∃ R',uk P call (aC [] all) all A0 (o::os) i R t=some (R',t')/\wj P all A0 all.length R' B:=by
   intro r C h1 h2 h3;obtain ⟨R',h4,h5⟩:=UF hf os (i+1) (r::R) _ t' C B CH h2 h3;exact ⟨R',by simp only [uk,h1,cD]; exact h4,h5⟩
  cases wd with
  | false=>
   rw [ay] at h;obtain ⟨_,h⟩:=UE h;exact step ⟨i,undef,fq A0 R,.val⟩ A (by simp [vX,HF]) (hI.plain rfl hI.nx ho (.inl rfl)) h
  | true=>
   rw [ah] at h;obtain ⟨⟨v,C⟩,h1,h2⟩:=aO.1 h;obtain ⟨afj,h2⟩:=UE h2;have afj:Nat.ble A.next C.next=true:=afj;cases hc:compile P o.op with
   | pure f xs=>
    rw [hc] at h1;simp only [om] at h1;obtain ⟨u,hu,he⟩:=aU.1 h1;simp at he;obtain ⟨rfl,rfl⟩:=he;exact step ⟨i,u,fq A0 R,.val⟩ A (by simp [vX,HF,hc,iM,hu]) (hI.plain rfl hI.nx ho (.inl rfl)) h2
   | read f xs=>
    rw [hc] at h1;simp only [om] at h1;obtain ⟨u,hu,he⟩:=aU.1 h1;simp at he;obtain ⟨rfl,rfl⟩:=he;exact step ⟨i,u,fq A0 R,.read f (xs.map (lK t))⟩ A (by simp [vX,HF,hc,iM,akG,hu]) (hI.plain rfl hI.nx ho (.inr ⟨_,_,rfl,hu,by rw [hc]; rfl⟩)) h2
   | make f xs=>exact absurd (by rw [hc]; rfl) (hf.wi i o ho)
   | act f xs=>
    rw [hc] at h1;simp only [om] at h1;exact step ⟨i,v,C.next,.act C⟩ C (by simp [vX,HF,hc,iM,qh,h1,hI.nx,afj]) (hI.act hf rfl rfl ho rfl (by rw [hc]; rfl)) h2
   | call f xs=>
    rw [hc] at h1;simp only [om] at h1;obtain ⟨p,hp,h1⟩:=aO.1 h1;exact step ⟨i,v,C.next,.act C⟩ C (by simp [vX,HF,hc,iM,qh,hp,h1,hI.nx,afj]) (hI.act hf rfl rfl ho rfl (by rw [hc]; rfl)) h2
   | bad=>exact absurd (by rw [hc]; rfl) (hf.wi i o ho)
theorem UG {b:List Nat} {i:Nat} {e:Option Nat} : ∀ {R:List Rec},H0 b i e R=true->∀ r∈R,jt r->match e with
  | some e=>(eT b i r.i=true->r.i<=e)/\(eT b r.i i=true->e < r.i)
  | none=>eT b i r.i=false
 | [],_,r,hr,_=>by simp at hr
 | x::R,h,r,hr,ha=>by
  simp only [H0,aj] at h;rcases bd.1 hr with rfl | hr
  ·obtain ⟨B,hB⟩:=ha
   have h1:=h.1;rw [hB] at h1;cases e with
   | none=>simpa using h1
   | some e=>
    simp only [aj,oh,iy] at h1;obtain ⟨h2,h3⟩:=h1;refine ⟨fun hb=>?_,fun hb=>?_⟩
    ·rcases h2 with h2 | h2
     ·rw [hb] at h2; simp at h2
     ·exact cM h2
    ·rcases h3 with h3 | h3
     ·rw [hb] at h3; simp at h3
     ·rw [b7] at h3; exact h3
  ·exact UG h.2 r hr ha
theorem Iq:∀ {R:List Rec} {e:Option Nat},e∈jV R->e=none\/∃ r∈R,jt r/\e=some r.i
 | [],e,h=>by simp [jV] at h; exact .inl h
 | x::R,e,h=>by
  simp only [jV] at h;split at h
  ·rename_i B hB
   rcases bd.1 h with rfl | h
   ·exact .inr ⟨x,by simp,⟨B,hB⟩,rfl⟩
   ·rcases Iq h with h | ⟨r,hr,h1,h2⟩
    ·exact .inl h
    ·exact .inr ⟨r,by simp [hr],h1,h2⟩
  ·rcases Iq h with h | ⟨r,hr,h1,h2⟩
   ·exact .inl h
   ·exact .inr ⟨r,by simp [hr],h1,h2⟩
theorem abe (hf:J6 P all) {R:List Rec} {B:St} (hI:wj P all A0 all.length R B) {r:Rec} (hr:r∈R) {f:St->List Value->Option Value} {vs:List Value} (hd:r.jn = .read f vs) {e:Option Nat} (he:e∈jV R) (hm:H0 (aC [] all) r.i e R=true) :
  f (qa A0 R e) vs=some r.v/\(qa A0 R e).next=r.nx:=by
 obtain ⟨e',h1,h2,h3⟩:=hI.reads r hr f vs hd;obtain ⟨o,ho,_,hk⟩:=hI.kind r hr;have hk:=hk f vs hd;have tV:=UG hm;have bx:∀ x∈R,jt x->x.i≠r.i:=by
  intro x hx DH e2;obtain ⟨ox,hox,Zm,_⟩:=hI.kind x hx;rw [e2,ho] at hox;simp at hox; subst hox;rw [Zm DH] at hk;simp at hk
 have OM:∀ x∈R,jt x->(x.i < r.i->eT (aC [] all) r.i x.i=true)/\(r.i < x.i->eT (aC [] all) x.i r.i=true):=by
  intro x hx DH;obtain ⟨ox,hox,Zm,_⟩:=hI.kind x hx;have h4:=hf.order x.i r.i ox o hox ho (Zm DH) (by rw [hk]; simp) (bx x hx DH);refine ⟨fun aJ=>?_,fun aJ=>?_⟩
  ·rcases h4 with h4 | h4
   ·have:=Oy hf.UD h4; omega
   ·exact h4
  ·rcases h4 with h4 | h4
   ·exact h4
   ·have:=Oy hf.UD h4; omega
 have hee:e=e':=by
  rcases Iq he with rfl | ⟨x,hx,DH,rfl⟩
  ·cases e' with
   | none=>rfl
   | some y=>
    obtain ⟨h4,⟨x,hx,h5,h6⟩,_⟩:=h3;have h7:=tV x hx h5;have h8:=(OM x hx h5).1 (by omega);simp only at h7;rw [h7] at h8;simp at h8
  ·have hxr:x.i < r.i:=by
    have h5:=bx x hx DH;rcases Nat.lt_or_ge x.i r.i with h6 | h6
    ·exact h6
    ·have h7:=(tV x hx DH).2 ((OM x hx DH).2 (by omega))
     omega
   cases e' with
   | none=>have:=h3 x hx DH; omega
   | some y=>
    obtain ⟨h4,⟨z,hz,h5,h6⟩,h7⟩:=h3;have h8:=h7 x hx DH hxr;have h9:=(tV z hz h5).1 ((OM z hz h5).1 (by omega));have:x.i=y:=by omega
    rw [this]
 rw [hee];exact ⟨h1,h2⟩
theorem UH {rd:Option Nat} (dR:rF P call) (hm:P.follows .mixedOrders=true) {id:Nat} {N base:Nat} (QK:all.all (tC N)=true) {t t' : Tm} {A B:St} {ρ:Go.az.Ren} {a:Act} {w:World} {Q:Exit->Act->World->Prop}
  (hov:vx P all=true) (h:H5 P call all all t A=some (t',B)) (ht:TR ρ t N a) (hs:iu ρ A base w) (hq:∀ ak a' w',TR ak t' N a'->a'.defers=a.defers->cp base ρ A w ak B w'->Q .normal a' w'):(Code.region id ⟨all⟩ true).wpIn (Fr rd) 0 P Q a w:=by
 obtain ⟨bM,hf⟩:=ag6 hov;obtain ⟨R,Zi,hI⟩:=UF (A0:=A) hf all 0 [] t t' A B (by simp) ⟨rfl,rfl,fun s hs=>by simp at hs,fun s hs=>by simp at hs,fun s hs=>by simp at hs,fun s hs=>by simp at hs,fun s hs=>by simp at hs,rfl⟩ h;refine Il dR hm QK bM Zi hI.chain (fun r hr f vs hd=>⟨.inr ⟨hI.wi,fun e he hme=>Nat.le_of_eq (abe hf hI hr hd he hme).2⟩,fun e he hme=>?_⟩) ht hs fun ak a' w' wh xv hg=>?_
 ·rw [yK hI.wi]
  exact (abe hf hI hr hd he hme).1
 ·rw [yK hI.wi,hI.post,hI.nx] at hg
  exact hq ak a' w' wh xv hg
end
end Go.az
end
