/- Part of the proof of PathsWhole: the machine, shown to be the model's, and plain models. No conditions. -/
import Derived.Test.YtckbdndhmcoihaaGreatAq
import Derived.Below
import Derived.Laws.Slices
import Derived.Laws.MakeOwn
import Derived.Laws.AppendOwn
import Derived.MapKept
set_option linter.unusedSimpArgs false
set_option linter.unusedVariables false
section
namespace Go.aA
open Go
def aY.ct:aY->Bool
 | .row _ _ own _=>own
 | .map _=>true
 | .iter _ _=>true
 | .dead=>false
 | .loop _ _ _ _ _ _=>true
def aY.hO:aY->Option (Nat×Nat)
 | .row _ _ _ aZ=>aZ
 | _=>none
def fe (ρ:Ren):List (Value×Value)->List MapEntry->Prop
 | [],l=>l = []
 | (k,v)::es,l=>∃ e r,l=e::r/\VR ρ k e.key/\VR ρ v e.val/\fe ρ es r
structure lL (ρ:Ren) (base:Nat) (w:World) (l:Loc) (cs:List Value) (aQ:Nat) (own:Bool) (aZ:Option (Nat×Nat)):Prop where
 cells:∀ (i:Nat) (v:Value),cs[i]? = some v->∃ v',w.cell? ⟨l.cb,l.cg+i,none⟩=some v'/\VR ρ v v'/\scalar v=true
 nu:own=false->l.cb < base
 ct:own=true->base<=l.cb
 there:own=true->∀ j,j < l.rV->(w.cell? ⟨l.cb,j,none⟩).isSome=true/\w.frozen? ⟨l.cb,j,none⟩=false
 fits:l.cg+cs.length<=l.rV
 ends:own=true->aZ=none->l.cg+cs.length=l.rV
 aQ:l.aQ=aQ
 gF:l.cb < w.heap.size
 mark:own=true->l.aQ≠1->∀ j,w.frozen? ⟨l.cb,j,none⟩=false
structure L7 (ρ:Ren) (base:Nat) (w:World) (l:Loc) (es:List (Value×Value)):Prop where
 ct:base<=l.cb
 gF:∃ aP clock,w.heap[l.cb]? = some (.map aP clock)/\fe ρ es aP.toList
structure NQ (base:Nat) (w:World) (l:Loc) (s:List UInt8) (pos:Nat):Prop where
 ct:base<=l.cb
 gF:l.cg=0/\w.heap[l.cb]? = some (.stringIter ⟨⟨s⟩⟩ pos)
def aa.code:aa->Option Code
 | .normal=>none
 | .exit id=>some (.exit id)
 | .goto l=>some (.goto l)
 | .ret=>some .ret
def F3:Nat->LoopState
 | 0=>.ready
 | 1=>.busy
 | _=>.done
structure TmR (ρ:Ren) (t:Trie Value) (N:Nat) (tmps:Array Value) (ps:List Nat) (assign body:Code):Prop where
 size:tmps.size=N
 val:∀ i,VR ρ ((t.get i).getD undef) (tmps.getD i undef)
 none:∀ i,N<=i->t.get i=Option.none
 adi:ps.all (fun p=>Nat.blt p N)=true/\codeOk N assign=true/\codeOk N body=true/\eM assign=true/\eM body=true
theorem TmR.mono {ρ ak:Ren} (h:ρ.le ak) {t:Trie Value} {N:Nat} {tmps:Array Value} {ps:List Nat} {a b:Code} (k:TmR ρ t N tmps ps a b):TmR ak t N tmps ps a b:=⟨k.size,fun i=>(k.val i).mono h,k.none,k.adi⟩
structure CZ (ρ:Ren) (base:Nat) (w:World) (l:Loc) (st:Nat) (e:aa) (t:Trie Value) (ps:List Nat) (assign body:Code):Prop where
 ct:base<=l.cb
 gF:∃ fn tmps D N,w.heap[l.cb]? = some (.loop { state:=F3 st,pending:=e.code,fn:=fn,tmps:=tmps,params:=ps.toArray,assign:=assign,body:=body,defers:=D })/\TmR ρ t N tmps ps assign body
structure Rel (ρ:Ren) (get:Nat->Option aY) (mem:Nat->List Nat) (base:Nat) (w:World):Prop where
 row:∀ b cs aQ own aZ,get b=some (.row cs aQ own aZ)->∃ l,ρ b=some l/\lL ρ base w l cs aQ own aZ
 map:∀ b es,get b=some (.map es)->∃ l,ρ b=some l/\L7 ρ base w l es
 iter:∀ b s pos,get b=some (.iter s pos)->∃ l,ρ b=some l/\NQ base w l s pos
 loop:∀ b st e t ps a c,get b=some (.loop st e t ps a c)->∃ l,ρ b=some l/\CZ ρ base w l st e t ps a c
 apart:∀ b1 b2 o1 o2 l1 l2,b1≠b2->get b1=some o1->get b2=some o2->o1.ct=true->o2.ct=true->ρ b1=some l1->ρ b2=some l2->l1.cb=l2.cb->
  ∃ aF f1 f2,o1.hO=some (aF,f1)/\o2.hO=some (aF,f2)/\l1.cg+f2=l2.cg+f1
 aX:∀ b o aF f,get b=some o->o.hO=some (aF,f)->b∈mem aF
def NR (ρ:Ren):Prop:=∀ g,g < gB->∃ l,ρ g=some l/\l.cb=g/\l.cg=0
theorem NR.mono {ρ ak:Ren} (h:NR ρ) (k:ρ.le ak):NR ak:=fun g hg=>by
 obtain ⟨l,e,h2⟩:=h g hg;exact ⟨l,k g l e,h2⟩
theorem NR.ev {ρ:Ren} (h:NR ρ) (g:Nat):VR ρ (ac2 g) (.pointer (some ⟨g,0,none⟩)):=by
 unfold ac2;cases hb:Nat.blt g gB with
 | false=>simp [VR]
 | true=>
  obtain ⟨⟨cb,co,cs,es⟩,e,h1,h2⟩:=h g (cL hb);simp only at h1 h2;subst h1; subst h2;exact ⟨rfl,_,e,rfl⟩
structure iv (ρ:Ren) (A:St) (base:Nat) (w:World):Prop where
 rel:Rel ρ A.get A.members base w
 fZ:∀ b l,ρ b=some l->b < A.next
 size:base<=w.heap.size
 lK:NR ρ
def EO (ρ:Ren) (A:St) (k:Nat):Prop:=∃ b o l,A.get b=some o/\o.ct=true/\ρ b=some l/\l.cb=k
structure Kept (ρ:Ren) (A:St) (w w' : World):Prop where
 os:w'.os=w.os
 tape:w'.tape=w.tape
 output:w'.output=w.output
 size:w.heap.size<=w'.heap.size
 block:∀ k,k < w.heap.size->¬ EO ρ A k->w'.heap[k]? = w.heap[k]?
structure cq (base:Nat) (ρ:Ren) (A:St) (w:World) (ak:Ren) (B:St) (w' : World):Prop where
 dI:iv ak B base w'
 ext:∀ b,b < A.next->ak b=ρ b
 kept:Kept ρ A w w'
 next:A.next<=B.next
 low:B.low<=A.low
 same:∀ b,b < A.next->b < B.low->B.get b=A.get b
 SF:∀ k,k < w.heap.size->EO ak B k->EO ρ A k
theorem Kept.refl (ρ:Ren) (A:St) (w:World):Kept ρ A w w:=⟨rfl,rfl,rfl,ao _,fun _ _ _=>rfl⟩
theorem cq.refl {base:Nat} {ρ:Ren} {A:St} {w:World} (h:iv ρ A base w):cq base ρ A w ρ A w:=
 ⟨h,fun _ _=>rfl,.refl _ _ _,ao _,ao _,fun _ _ _=>rfl,fun _ _ h=>h⟩
theorem cq.trans {base:Nat} {ρ ak mF:Ren} {A B C:St} {w w' xZ:World} (h:cq base ρ A w ak B w') (k:cq base ak B w' mF C xZ):cq base ρ A w mF C xZ where
 dI:=k.dI
 ext b hb:=(k.ext b (dG hb h.next)).trans (h.ext b hb)
 kept:={
  os:=k.kept.os.trans h.kept.os
  tape:=k.kept.tape.trans h.kept.tape
  output:=k.kept.output.trans h.kept.output
  size:=dx h.kept.size k.kept.size
  block:=fun i hi hn=>(k.kept.block i (dG hi h.kept.size) (fun hk=>hn (h.SF i hi hk))).trans (h.kept.block i hi hn) }
 next:=dx h.next k.next
 low:=dx k.low h.low
 same b hb hl:=(k.same b (dG hb h.next) hl).trans (h.same b hb (dG hl k.low))
 SF i hi hk:=h.SF i hi (k.SF i (dG hi h.kept.size) hk)
theorem cq.le {base:Nat} {ρ ak:Ren} {A B:St} {w w' : World} (h:cq base ρ A w ak B w') (hs:iv ρ A base w):ρ.le ak:=
 fun b l e=>by rw [h.ext b (hs.fZ b l e)]; exact e
@[simp] theorem St.b6 (A:St) (b:Nat) (o:aY) (x:Nat):(A.put b o).get x=if x=b then some o else A.get x:=by
 simp [St.put,St.get,Trie.iY]
@[simp] theorem St.F4 (A:St) (b:Nat) (o:aY):(A.put b o).members=A.members:=rfl
@[simp] theorem St.o8 (A:St) (b:Nat) (o:aY):(A.put b o).next=A.next:=rfl
theorem St.NS (A:St) (b:Nat) (o:aY):(A.put b o).low=Nat.min A.low b:=rfl
@[simp] theorem St.cV (A:St) (o:aY) (x:Nat):(A.new o).get x=if x=A.next then some o else A.get x:=by
 simp [St.new,St.get,Trie.iY]
@[simp] theorem St.j3 (A:St) (o:aY):(A.new o).members=A.members:=rfl
@[simp] theorem St.cw (A:St) (o:aY):(A.new o).next=A.next+1:=rfl
@[simp] theorem St.low_new (A:St) (o:aY):(A.new o).low=A.low:=rfl
@[simp] theorem St.get_join (A:St) (f b x:Nat):(A.join f b).get x=A.get x:=rfl
@[simp] theorem St.next_join (A:St) (f b:Nat):(A.join f b).next=A.next:=rfl
@[simp] theorem St.low_join (A:St) (f b:Nat):(A.join f b).low=A.low:=rfl
theorem St.yM (A:St) (f b x:Nat):(A.join f b).members x=if x=f then b::A.members f else A.members x:=by
 simp only [St.join,St.members,Trie.iY];split <;> rfl
theorem aaS (lo hi:Nat):np (some .dead) lo hi=false:=rfl
theorem x7 (b lo hi x:Nat):∀ (L:List Nat) (A:St),(A.kill b lo hi L).get x=if x∈L/\x≠b/\np (A.get x) lo hi=true then some .dead else A.get x
 | [],A=>by simp [St.kill]
 | y::L,A=>by
  simp only [St.kill];cases hc:(!(Nat.beq y b)&&np (A.get y) lo hi) with
  | true=>
   simp only [aj,iA] at hc;have hyb:y≠b:=Nat.ne_of_beq_eq_false hc.1;rw [ah,x7 b lo hi x L];by_cases wu:x=y
   ·subst wu
    simp [aaS,hyb,hc.2]
   ·simp [wu]
  | false=>
   rw [ay,x7 b lo hi x L];by_cases wu:x=y
   ·subst wu
    have : ¬(x≠b/\np (A.get x) lo hi=true):=by
     rintro ⟨h1,h2⟩;rw [h2,yI,Bool.not_eq_false'] at hc;exact h1 (aE hc)
    rw [ae (fun h=>this ⟨h.2.1,h.2.2⟩),ae (fun h=>this ⟨h.2.1,h.2.2⟩)]
   ·simp [wu]
@[simp] theorem DI (b lo hi:Nat):∀ (L:List Nat) (A:St),(A.kill b lo hi L).members=A.members
 | [],A=>rfl
 | y::L,A=>by simp only [St.kill]; cases (!(Nat.beq y b)&&np (A.get y) lo hi) <;> simp [DI b lo hi L]
@[simp] theorem F5 (b lo hi:Nat):∀ (L:List Nat) (A:St),(A.kill b lo hi L).next=A.next
 | [],A=>rfl
 | y::L,A=>by simp only [St.kill]; cases (!(Nat.beq y b)&&np (A.get y) lo hi) <;> simp [F5 b lo hi L]
theorem EP (b lo hi:Nat):∀ (L:List Nat) (A:St),(A.kill b lo hi L).low<=A.low/\∀ x,(A.kill b lo hi L).get x≠A.get x->(A.kill b lo hi L).low<=x
 | [],A=>⟨ao _,fun x h=>absurd rfl h⟩
 | y::L,A=>by
  simp only [St.kill];cases hc:(!(Nat.beq y b)&&np (A.get y) lo hi) with
  | true=>
   rw [ah];obtain ⟨h1,h2⟩:=EP b lo hi L (A.put y .dead);rw [St.NS] at h1;have hle:Nat.min A.low y<=A.low:=Nat.min_le_left _ _;refine ⟨dx h1 hle,fun x hx=>?_⟩;by_cases wu:x=y
   ·subst wu
    exact dx h1 (Nat.min_le_right _ _)
   ·exact h2 x (by simpa [wu] using hx)
  | false=>
   rw [ay];exact EP b lo hi L A
theorem BC (b:Nat):∀ (vs:List Value) (o:Nat) (w:World),(w.setCells b o vs).heap.size=w.heap.size
 | [],_,_=>rfl
 | v::r,o,w=>by rw [World.setCells,BC b r]; simp
theorem qd (b:Nat):∀ (vs:List Value) (o:Nat) (w:World),(w.setCells b o vs).os=w.os/\(w.setCells b o vs).tape=w.tape/\(w.setCells b o vs).output=w.output
 | [],_,_=>⟨rfl,rfl,rfl⟩
 | v::r,o,w=>by rw [World.setCells]; exact qd b r (o+1) _
theorem j4 (b:Nat) {k:Nat} (hk:k≠b):∀ (vs:List Value) (o:Nat) (w:World),(w.setCells b o vs).heap[k]? = w.heap[k]?
 | [],_,_=>rfl
 | v::r,o,w=>by rw [World.setCells,j4 b hk r]; exact RowKit.Below.heap_setCell _ _ _ _ hk
theorem SG (w:World) (a x:Addr) (v:Value):((w.setCell a v).cell? x).isSome=(w.cell? x).isSome:=by
 by_cases h:a=x
 ·subst h
  cases hc:w.cell? a with
  | some u=>rw [World.cell?_setCell_same _ _ _ hc]; rfl
  | none=>
   simp only [World.setCell,World.cell?,Array.getElem?_modify,if_true] at hc ⊢;cases hh:w.heap[a.block]? with
   | none=>simp
   | some o=>
    rw [hh] at hc;cases o <;> simp at hc ⊢;intro h1;simpa [h1] using hc h1
 ·rw [World.cell?_setCell_other _ _ _ _ h]
theorem sL (b:Nat) (x:Addr):∀ (vs:List Value) (o:Nat) (w:World),((w.setCells b o vs).cell? x).isSome=(w.cell? x).isSome
 | [],_,_=>rfl
 | v::r,o,w=>by rw [World.setCells,sL b x r,SG]
theorem F6 {ρ:Ren} (F:Nat->Option Value):∀ (cs:List Value) (i:Nat),(∀ j v,cs[j]? = some v->∃ v',F (i+j)=some v'/\VR ρ v v')->
  ∃ b5,cD ρ cs b5/\∀ (j:Nat) (v' : Value),b5[j]? = some v'->F (i+j)=some v'
 | [],_,_=>⟨[],.nil,by simp⟩
 | x::xs,i,h=>by
  obtain ⟨y,hy,hv⟩:=h 0 x rfl;obtain ⟨ys,h1,h2⟩:=F6 F xs (i+1) (fun j v e=>by have:=h (j+1) v (by simpa using e); rwa [show i+(j+1)=i+1+j by omega] at this);refine ⟨y::ys,.cons hv h1,fun j v' e=>?_⟩;cases j with
  | zero=>simp at e; subst e; exact hy
  | succ j=>rw [show i+(j+1)=i+1+j by omega]; exact h2 j v' (by simpa using e)
theorem jt (b o j:Nat):(⟨b,o,none⟩:Addr).add j=⟨b,o+j,none⟩:=by unfold Addr.add; split <;> simp_all
theorem VR.gh {ρ:Ren} {a:Addr} {v:Value} (h:VR ρ (.pointer (some a)) v):a.spot=none/\∃ l,ρ a.block=some l/\v = .pointer (some ⟨l.cb,l.cg+a.off,none⟩):=by simpa only [VR] using h
theorem sM {P:Program} {ρ:Ren} {A:St} {base:Nat} {w:World} {a:Addr} {n:Nat} {cs:List Value} {l:Loc} (hs:Rel ρ A.get A.members base w) (hl:A.nK a n=some cs) (iZ:ρ a.block=some l) :
  ∃ b5,cD ρ cs b5/\cs.length=n/\(∀ v∈cs,scalar v=true)/\(loadCells ⟨l.cb,l.cg+a.off,none⟩ n).run P w = .ok b5.toArray w:=by
 simp only [St.nK] at hl;cases hp:bH a with
 | false=>simp [hp] at hl
 | true=>
  rw [hp,ah] at hl;obtain ⟨mG,h1,h2⟩:=aO.1 hl;simp only [q8] at h1;split at h1
  ·rename_i c e o aZ hg
   simp at h1; subst h1;rw [nS] at h2;obtain ⟨rfl,hlen⟩:=EM h2;obtain ⟨l',iL,ok⟩:=hs.row _ _ _ _ _ hg;rw [iZ] at iL; simp at iL; subst iL;have fA:∀ (j:Nat) (v:Value),((c.drop a.off).take n)[j]? = some v->j < n/\c[a.off+j]? = some v:=by
    intro j v e;rw [kR] at e;split at e
    ·rename_i hj; rw [lE] at e; exact ⟨hj,e⟩
    ·simp at e
   obtain ⟨b5,hr,hc⟩:=F6 (ρ:=ρ) (fun j=>w.cell? ⟨l.cb,l.cg+a.off+j,none⟩) ((c.drop a.off).take n) 0 (fun j v e=>by
    obtain ⟨v',h3,h4,_⟩:=ok.cells _ _ (fA j v e).2;exact ⟨v',by rw [bF,nD]; exact h3,h4⟩)
   have hn:b5.length=n:=by rw [hr.length,jw,Nat.min_eq_left hlen]
   refine ⟨b5,hr,by rw [jw,Nat.min_eq_left hlen],fun v hv=>?_,?_⟩
   ·obtain ⟨j,hj⟩:=List.getElem?_of_mem hv
    exact (ok.cells _ _ (fA j v hj).2).choose_spec.2.2
   ·have:=run_loadCells_list (P:=P) w ⟨l.cb,l.cg+a.off,none⟩ b5 (fun j v e=>by rw [jt]; simpa using hc j v e)
    rwa [hn] at this
  ·simp at h1
theorem NT {o:aY} {cs:List Value} {e:Nat} {own:Bool} {aF f lo hi:Nat} (ho:o = .row cs e own (some (aF,f))) (h:np (some o) lo hi=false) :
  f+cs.length<=lo\/hi<=f:=by
 subst ho;simp only [np,meets,Bool.and_eq_false_iff] at h;rcases h with h | h
 ·left
  have : ¬ lo < f+cs.length:=fun aI=>by rw [show Nat.blt _ _=true from by rw [b8]; exact aI] at h; simp at h
  omega
 ·right
  have : ¬ f < hi:=fun aI=>by rw [show Nat.blt _ _=true from by rw [b8]; exact aI] at h; simp at h
  omega
theorem NU {ρ:Ren} {A:St} {base:Nat} {w:World} {b off aQ:Nat} {cs b5 vs bw:List Value} {aZ:Option (Nat×Nat)} {l:Loc}
  (hs:iv ρ A base w) (hg:A.get b=some (.row cs aQ true aZ)) (hw:fc off cs vs=some b5) (hv:cD ρ vs bw) (h1:∀ v∈vs,scalar v=true) (iZ:ρ b=some l) :
  cq base ρ A w ρ ((A.put b (.row b5 aQ true aZ)).eH b aZ off (off+vs.length)) (w.setCells l.cb (l.cg+off) bw):=by
 obtain ⟨l',iL,ok⟩:=hs.rel.row _ _ _ _ _ hg;rw [iZ] at iL; simp at iL; subst iL;obtain ⟨hlen,jI,fA⟩:=fG hw;have CN:bw.length=vs.length:=hv.length;have hB:∀ x,((A.put b (.row b5 aQ true aZ)).eH b aZ off (off+vs.length)).get x =
   if x=b then some (.row b5 aQ true aZ) else
    (match aZ with
    | none=>A.get x
    | some (aF,f)=>if x∈A.members aF/\np (A.get x) (f+off) (f+(off+vs.length))=true then some .dead else A.get x):=by
  intro x;cases aZ with
  | none=>simp [St.eH]
  | some p=>
   obtain ⟨aF,f⟩:=p;simp only [St.eH,x7,St.F4,St.b6];by_cases hx:x=b
   ·simp [hx]
   ·simp [hx]
 have jV:((A.put b (.row b5 aQ true aZ)).eH b aZ off (off+vs.length)).members=A.members:=by
  cases aZ <;> simp [St.eH]
 have gd:((A.put b (.row b5 aQ true aZ)).eH b aZ off (off+vs.length)).next=A.next:=by
  cases aZ <;> simp [St.eH]
 have ER:((A.put b (.row b5 aQ true aZ)).eH b aZ off (off+vs.length)).low<=Nat.min A.low b/\
   ∀ x,x≠b->((A.put b (.row b5 aQ true aZ)).eH b aZ off (off+vs.length)).get x≠A.get x->((A.put b (.row b5 aQ true aZ)).eH b aZ off (off+vs.length)).low<=x:=by
  cases aZ with
  | none=>exact ⟨ao _,fun x hx h=>absurd (by simp [St.eH,hx]) h⟩
  | some p=>
   obtain ⟨h2,h3⟩:=EP b (p.2+off) (p.2+(off+vs.length)) ((A.put b (.row b5 aQ true (some p))).members p.1) (A.put b (.row b5 aQ true (some p)));exact ⟨h2,fun x hx h=>h3 x (by simpa [St.eH,hx] using h)⟩
 generalize (A.put b (.row b5 aQ true aZ)).eH b aZ off (off+vs.length)=B at hB jV gd ER;have mh:∀ x o,x≠b->B.get x=some o->o≠.dead->A.get x=some o/\∀ aF f,aZ=some (aF,f)->x∈A.members aF->np (some o) (f+off) (f+(off+vs.length))=false:=by
  intro x o hx ho hd;rw [hB,ae hx] at ho;cases aZ with
  | none=>exact ⟨ho,fun _ _ h=>by simp at h⟩
  | some p=>
   obtain ⟨aF,f⟩:=p;simp only at ho;split at ho
   ·simp at ho; exact absurd ho.symm hd
   ·rename_i hc
    refine ⟨ho,fun fam' f' h hm=>?_⟩;simp at h;obtain ⟨rfl,rfl⟩:=h;rw [<- ho];cases eZ:np (A.get x) (f+off) (f+(off+vs.length)) with
    | false=>rfl
    | true=>exact absurd ⟨hm,eZ⟩ hc
 have JV:aY.ct (.row cs aQ true aZ)=true:=rfl;have k8:∀ x:Addr,(x.block=l.cb->x.spot=none->x.off < l.cg+off\/l.cg+off+bw.length<=x.off)->(w.setCells l.cb (l.cg+off) bw).cell? x=w.cell? x:=
  fun x h=>World.cell?_setCells_out _ _ _ _ _ h
 have TS:∀ x,((w.setCells l.cb (l.cg+off) bw).cell? x).isSome=(w.cell? x).isSome:=fun x=>sL _ _ _ _ _;have x8:∀ x,(w.setCells l.cb (l.cg+off) bw).frozen? x=w.frozen? x:=fun x=>World.frozen?_setCells _ _ _ _ _;have cS:(w.setCells l.cb (l.cg+off) bw).heap.size=w.heap.size:=BC _ _ _ _;have C0:∀ x iw e2 C1 oi l2,x≠b->B.get x=some (.row iw e2 C1 oi)->ρ x=some l2->lL ρ base w l2 iw e2 C1 oi->∀ i,i < iw.length->
   (w.setCells l.cb (l.cg+off) bw).cell? ⟨l2.cb,l2.cg+i,none⟩=w.cell? ⟨l2.cb,l2.cg+i,none⟩:=by
  intro x iw e2 C1 oi l2 hx eV ah5 fP i hi;refine k8 _ (fun YM _=>?_);simp only at YM ⊢;obtain ⟨hA,eZ⟩:=mh x _ hx eV (by simp);cases C1 with
  | false=>have h3:=fP.nu rfl; have h4:=ok.ct rfl; omega
  | true=>
   obtain ⟨aF,f1,f2,e1,e2',e3⟩:=hs.rel.apart x b _ _ l2 l hx hA hg rfl JV ah5 iZ YM;simp only [aY.hO] at e1 e2';subst e1 e2';have hm:=hs.rel.aX x _ aF f1 hA rfl;have:=NT rfl (eZ aF f2 rfl hm);rw [CN];omega
 refine ⟨⟨⟨?_,?_,?_,?_,?_,?_⟩,?_,?_,hs.lK⟩,fun _ _=>rfl,⟨(qd _ _ _ _).1,(qd _ _ _ _).2.1,(qd _ _ _ _).2.2,Nat.le_of_eq cS.symm,?_⟩,?_,?_,?_,?_⟩
 ·intro x iw e2 C1 oi eV
  by_cases hx:x=b
  ·subst hx
   rw [hB,ax rfl] at eV;simp at eV;obtain ⟨rfl,rfl,rfl,rfl⟩:=eV;refine ⟨l,iZ,⟨fun i v hi=>?_,ok.nu,ok.ct,fun h j hj=>?_,by rw [hlen]; exact ok.fits,fun h h'=>by rw [hlen]; exact ok.ends h h',ok.aQ,by rw [cS]; exact ok.gF,fun h1 h2 j=>by rw [x8]; exact ok.mark h1 h2 j⟩⟩
   ·rw [fA] at hi
    split at hi
    ·rename_i hc
     obtain ⟨v',zL,L8⟩:=hv.get hi;refine ⟨v',?_,L8,h1 v (eW hi)⟩;have aI:i - off < bw.length:=by rw [CN]; omega
     have:=World.cell?_setCells_in l.cb bw (l.cg+off) w (fun j hj=>by
      have bA:vs≠[]:=by intro e; subst e; simp at CN; rw [CN] at hj; simp at hj
      have h5:=jI bA;have h6:=ok.fits;exact (ok.there rfl (l.cg+off+j) (by rw [CN] at hj; omega)).1) (i - off) aI
     rw [show l.cg+off+(i - off)=l.cg+i by omega] at this;rw [this];rw [<- zL,cl aI]
    ·rename_i hc
     obtain ⟨v',zL,L8,hv3⟩:=ok.cells i v hi;refine ⟨v',?_,L8,hv3⟩;rw [k8]
     ·exact zL
     ·intro _ _
      simp only;rw [CN];omega
   ·rw [TS,x8]; exact ok.there h j hj
  ·obtain ⟨hA,_⟩:=mh x _ hx eV (by simp)
   obtain ⟨l2,iM,fP⟩:=hs.rel.row _ _ _ _ _ hA;refine ⟨l2,iM,⟨fun i v hi=>?_,fP.nu,fP.ct,fun h j hj=>?_,fP.fits,fP.ends,fP.aQ,by rw [cS]; exact fP.gF,fun h1 h2 j=>by rw [x8]; exact fP.mark h1 h2 j⟩⟩
   ·rw [C0 x _ _ _ _ l2 hx eV iM fP i (cp.1 hi).1]; exact fP.cells i v hi
   ·rw [TS,x8]; exact fP.there h j hj
 ·intro x es eV
  have hx:x≠b:=by intro e; subst e; rw [hB,ax rfl] at eV; simp at eV
  obtain ⟨hA,_⟩:=mh x _ hx eV (by simp);obtain ⟨l2,iM,fP⟩:=hs.rel.map _ _ hA;refine ⟨l2,iM,⟨fP.ct,?_⟩⟩;obtain ⟨aP,clock,h3,h4⟩:=fP.gF;refine ⟨aP,clock,?_,h4⟩;rw [j4]
  ·exact h3
  ·intro e
   obtain ⟨_,_,_,e1,_⟩:=hs.rel.apart x b _ _ l2 l hx hA hg rfl JV iM iZ e;simp [aY.hO] at e1
 ·intro x s pos eV
  have hx:x≠b:=by intro e; subst e; rw [hB,ax rfl] at eV; simp at eV
  obtain ⟨hA,_⟩:=mh x _ hx eV (by simp);obtain ⟨l2,iM,fP⟩:=hs.rel.iter _ _ _ hA;refine ⟨l2,iM,⟨fP.ct,fP.gF.1,?_⟩⟩;rw [j4]
  ·exact fP.gF.2
  ·intro e
   obtain ⟨_,_,_,e1,_⟩:=hs.rel.apart x b _ _ l2 l hx hA hg rfl JV iM iZ e;simp [aY.hO] at e1
 ·intro x st e t ps a c eV
  have hx:x≠b:=by intro e; subst e; rw [hB,ax rfl] at eV; simp at eV
  obtain ⟨hA,_⟩:=mh x _ hx eV (by simp);obtain ⟨l2,iM,fP⟩:=hs.rel.loop _ _ _ _ _ _ _ hA;refine ⟨l2,iM,⟨fP.ct,?_⟩⟩;obtain ⟨fn,tmps,D,N,h3,h4⟩:=fP.gF;refine ⟨fn,tmps,D,N,?_,h4⟩;rw [j4]
  ·exact h3
  ·intro e
   obtain ⟨_,_,_,e1,_⟩:=hs.rel.apart x b _ _ l2 l hx hA hg rfl JV iM iZ e;simp [aY.hO] at e1
 ·
  have DJ:∀ x o,B.get x=some o->o.ct=true->∃ o',A.get x=some o'/\o'.ct=true/\o'.hO=o.hO:=by
   intro x o hx hm;by_cases NV:x=b
   ·subst NV
    rw [hB,ax rfl] at hx;simp at hx;subst hx;exact ⟨_,hg,rfl,rfl⟩
   ·exact ⟨o,(mh x o NV hx (by intro e; subst e; simp [aY.ct] at hm)).1,hm,rfl⟩
  intro b1 b2 o1 o2 l1 l2 bA h1' HD m1 m2 r1 r2 vW;obtain ⟨p1,g1,n1,k1⟩:=DJ _ _ h1' m1;obtain ⟨p2,g2,n2,k2⟩:=DJ _ _ HD m2;rw [<- k1,<- k2];exact hs.rel.apart b1 b2 p1 p2 l1 l2 bA g1 g2 n1 n2 r1 r2 vW
 ·
  intro x o aF f hx hk;rw [jV];by_cases NV:x=b
  ·subst NV
   rw [hB,ax rfl] at hx;simp at hx;subst hx;exact hs.rel.aX x _ aF f hg hk
  ·exact hs.rel.aX x o aF f (mh x o NV hx (by intro e; subst e; simp [aY.hO] at hk)).1 hk
 ·intro x l2 hx; rw [gd]; exact hs.fZ x l2 hx
 ·rw [cS]; exact hs.size
 ·intro k hk hn
  refine j4 _ (fun e=>hn ⟨b,_,l,hg,rfl,iZ,e.symm⟩) _ _ _
 ·exact Nat.le_of_eq gd.symm
 ·exact dx ER.1 (Nat.min_le_left _ _)
 ·intro x hx hxl
  by_cases NV:x=b
  ·subst NV
   exact absurd (dx ER.1 (Nat.min_le_right _ _)) (by omega)
  ·cases Classical.em (B.get x=A.get x) with
   | inl h=>exact h
   | inr h=>have:=ER.2 x NV h; omega
 ·rintro k hk ⟨x,o,l2,hx,hm,hr,rfl⟩
  by_cases NV:x=b
  ·subst NV
   rw [iZ] at hr; simp at hr; subst hr;exact ⟨x,_,l,hg,rfl,iZ,rfl⟩
  ·exact ⟨x,o,l2,(mh x o NV hx (by intro e; subst e; simp [aY.ct] at hm)).1,hm,hr,rfl⟩
theorem yN {P:Program} {ρ:Ren} {A B:St} {base:Nat} {w:World} {a:Addr} {vs bw:List Value} {l:Loc} (hs:iv ρ A base w) (hl:A.rD a vs=some B) (iZ:ρ a.block=some l) (hv:cD ρ vs bw) :
  ∃ w',(storeCells ⟨l.cb,l.cg+a.off,none⟩ bw).run P w = .ok () w'/\cq base ρ A w ρ B w':=by
 simp only [St.rD] at hl;cases hp:(bH a&&vs.all scalar) with
 | false=>simp [hp] at hl
 | true=>
  rw [hp,ah] at hl;simp only [aj,dS] at hp;split at hl
  ·rename_i cs aQ aZ hg
   obtain ⟨b5,hw,rfl⟩:=aU.1 hl;have ze:=NU (w:=w) hs hg hw hv hp.2 iZ;refine ⟨_,?_,ze⟩;obtain ⟨l',iL,ok⟩:=hs.rel.row _ _ _ _ _ hg;rw [iZ] at iL; simp at iL; subst iL;obtain ⟨_,jI,_⟩:=fG hw;have CN:bw.length=vs.length:=hv.length;have mr:∀ j,j < bw.length->l.cg+a.off+j < l.rV:=fun j hj=>by
    have bA:vs≠[]:=by intro e; subst e; simp at CN; rw [CN] at hj; simp at hj
    have h5:=jI bA;have h6:=ok.fits;rw [CN] at hj;omega
   have:=run_storeCells_cells (P:=P) l.cb (l.cg+a.off) bw 0 w (fun j hj=>(ok.there rfl _ (mr j hj)).1) (fun j hj=>(ok.there rfl _ (mr j hj)).2) (fun v vX=>by
    obtain ⟨i,hi⟩:=List.getElem?_of_mem vX;have aI:i < vs.length:=by rw [<- CN]; exact (cp.1 hi).1
    obtain ⟨u,hu⟩:∃ u,vs[i]? = some u:=⟨vs[i],cl aI⟩
    obtain ⟨v2,h7,h8⟩:=hv.get hu;rw [hi] at h7; simp at h7; subst h7;exact h8.scalar (hp.2 u (eW hu)))
   exact this
  ·simp at hl
def Ren.set (ρ:Ren) (n:Nat) (l:Loc):Ren:=fun b=>if b=n then some l else ρ b
theorem Ren.dj (ρ:Ren) (n:Nat) (l:Loc):ρ.set n l n=some l:=by simp [Ren.set]
theorem Ren.cX (ρ:Ren) {n b:Nat} (l:Loc) (h:b≠n):ρ.set n l b=ρ b:=by simp [Ren.set,h]
theorem iv.uy {ρ:Ren} {A:St} {base:Nat} {w:World} (hs:iv ρ A base w) (l:Loc):ρ.le (ρ.set A.next l):=by
 intro b l' e;have:=hs.fZ b l' e;rw [Ren.cX ρ l (by omega)];exact e
theorem fe.mono {ρ ak:Ren} (h:ρ.le ak):∀ {es:List (Value×Value)} {l:List MapEntry},fe ρ es l->fe ak es l
 | [],_,k=>k
 | (k,v)::es,l,m=>by
  simp only [fe] at m ⊢;obtain ⟨e,r,e1,e2,e3,e4⟩:=m;exact ⟨e,r,e1,e2.mono h,e3.mono h,fe.mono h e4⟩
theorem fe.back {ρ ak:Ren} (h:ρ.le ak):∀ {es:List (Value×Value)} {u l:List MapEntry},fe ρ es u->fe ak es l->fe ρ es l
 | [],_,_,_,k=>k
 | (k,v)::es,u,l,hu,m=>by
  simp only [fe] at hu m ⊢;obtain ⟨_,_,_,a1,a2,a3⟩:=hu;obtain ⟨e,r,e1,e2,e3,e4⟩:=m;exact ⟨e,r,e1,VR.back h a1 e2,VR.back h a2 e3,fe.back h a3 e4⟩
def o9 (ρ:Ren) (base:Nat) (w:World) (l:Loc):aY->Prop
 | .row cs aQ own aZ=>lL ρ base w l cs aQ own aZ
 | .map es=>L7 ρ base w l es
 | .iter s pos=>NQ base w l s pos
 | .dead=>True
 | .loop st e t ps a c=>CZ ρ base w l st e t ps a c
theorem Rel.obj {ρ:Ren} {get:Nat->Option aY} {mem:Nat->List Nat} {base:Nat} {w:World} (h:Rel ρ get mem base w) {b:Nat} {o:aY} (hg:get b=some o) (hd:o≠.dead) :
  ∃ l,ρ b=some l/\o9 ρ base w l o:=by
 cases o with
 | row cs aQ own aZ=>exact h.row _ _ _ _ _ hg
 | map es=>exact h.map _ _ hg
 | iter s pos=>exact h.iter _ _ _ hg
 | dead=>exact absurd rfl hd
 | loop st e t ps a c=>exact h.loop _ _ _ _ _ _ _ hg
theorem Rel.qe {ρ:Ren} {get:Nat->Option aY} {mem:Nat->List Nat} {base:Nat} {w:World}
  (obj:∀ b o,get b=some o->o≠.dead->∃ l,ρ b=some l/\o9 ρ base w l o)
  (apart:∀ b1 b2 o1 o2 l1 l2,b1≠b2->get b1=some o1->get b2=some o2->o1.ct=true->o2.ct=true->ρ b1=some l1->ρ b2=some l2->l1.cb=l2.cb->
   ∃ aF f1 f2,o1.hO=some (aF,f1)/\o2.hO=some (aF,f2)/\l1.cg+f2=l2.cg+f1)
  (aX:∀ b o aF f,get b=some o->o.hO=some (aF,f)->b∈mem aF):Rel ρ get mem base w:=
 ⟨fun b _ _ _ _ hg=>obj b _ hg (by simp),fun b _ hg=>obj b _ hg (by simp),fun b _ _ hg=>obj b _ hg (by simp),fun b _ _ _ _ _ _ hg=>obj b _ hg (by simp),apart,aX⟩
theorem o9.lt {ρ:Ren} {base:Nat} {w:World} {l:Loc} {o:aY} (h:o9 ρ base w l o) (hd:o≠.dead):l.cb < w.heap.size:=by
 have key:∀ x,w.heap[l.cb]? = some x->l.cb < w.heap.size:=fun x e=>(jh.1 e).1;cases o with
 | row cs aQ own aZ=>exact lL.gF h
 | map es=>obtain ⟨aP,c,e,_⟩:=L7.gF h; exact key _ e
 | iter s pos=>exact key _ (NQ.gF h).2
 | dead=>exact absurd rfl hd
 | loop st e t ps a c=>obtain ⟨_,_,_,_,q,_⟩:=CZ.gF h; exact key _ q
theorem o9.di {ρ ak:Ren} {base:Nat} {w w' : World} {l:Loc} {o:aY} (h:o9 ρ base w l o) (hle:ρ.le ak) (hb:w'.heap[l.cb]? = w.heap[l.cb]?) (cS:w.heap.size<=w'.heap.size):o9 ak base w' l o:=by
 have hc:∀ i,w'.cell? ⟨l.cb,i,none⟩=w.cell? ⟨l.cb,i,none⟩:=fun i=>by simp only [World.cell?,hb]
 have hf:∀ i,w'.frozen? ⟨l.cb,i,none⟩=w.frozen? ⟨l.cb,i,none⟩:=fun i=>by simp only [World.frozen?,hb]
 cases o with
 | row cs aQ own aZ=>
  have ok:lL ρ base w l cs aQ own aZ:=h;exact ⟨fun i v hi=>by obtain ⟨v',h1,h2,h3⟩:=ok.cells i v hi; exact ⟨v',by rw [hc]; exact h1,h2.mono hle,h3⟩,ok.nu,ok.ct,
   fun h j hj=>by rw [hc,hf]; exact ok.there h j hj,ok.fits,ok.ends,ok.aQ,dG ok.gF cS,fun h1 h2 j=>by rw [hf]; exact ok.mark h1 h2 j⟩
 | map es=>
  have ok:L7 ρ base w l es:=h;obtain ⟨aP,c,e,m⟩:=ok.gF;exact ⟨ok.ct,aP,c,by rw [hb]; exact e,m.mono hle⟩
 | iter s pos=>
  have ok:NQ base w l s pos:=h;exact ⟨ok.ct,ok.gF.1,by rw [hb]; exact ok.gF.2⟩
 | dead=>trivial
 | loop st e t ps a c=>
  have ok:CZ ρ base w l st e t ps a c:=h;obtain ⟨fn,tmps,D,N,q,r⟩:=ok.gF;exact ⟨ok.ct,fn,tmps,D,N,by rw [hb]; exact q,r.mono hle⟩
theorem o9.back {ρ ak:Ren} {base:Nat} {w w' : World} {l:Loc} {o:aY} (hle:ρ.le ak) (h:o9 ρ base w l o) (k:o9 ak base w' l o):o9 ρ base w' l o:=by
 cases o with
 | row cs aQ own aZ=>
  have a:lL ρ base w l cs aQ own aZ:=h;have b:lL ak base w' l cs aQ own aZ:=k;refine ⟨fun i v hi=>?_,b.nu,b.ct,b.there,b.fits,b.ends,b.aQ,b.gF,b.mark⟩;obtain ⟨u,_,h2,_⟩:=a.cells i v hi;obtain ⟨v',h3,h4,h5⟩:=b.cells i v hi;exact ⟨v',h3,VR.back hle h2 h4,h5⟩
 | map es=>
  have a:L7 ρ base w l es:=h;have b:L7 ak base w' l es:=k;obtain ⟨u,_,_,m1⟩:=a.gF;obtain ⟨aP,c,e,m2⟩:=b.gF;exact ⟨b.ct,aP,c,e,m1.back hle m2⟩
 | iter s pos=>exact k
 | dead=>trivial
 | loop st e t ps c d=>
  have a:CZ ρ base w l st e t ps c d:=h;have b:CZ ak base w' l st e t ps c d:=k;obtain ⟨_,_,_,_,_,r1⟩:=a.gF;obtain ⟨fn,tmps,D,N,q,r⟩:=b.gF;exact ⟨b.ct,fn,tmps,D,N,q,r.size,fun i=>VR.back hle (r1.val i) (r.val i),r.none,r.adi⟩
theorem x9 {ρ:Ren} {A B:St} {base:Nat} {w:World} {o:aY} {obj:Obj} {l:Loc} (hs:iv ρ A base w)
  (hB:∀ x,B.get x=if x=A.next then some o else A.get x) (hm:∀ f x,x∈A.members f->x∈B.members f) (hk:∀ aF f,o.hO=some (aF,f)->A.next∈B.members aF)
  (hn:B.next=A.next+1) (ER:B.low<=A.low) (zM:∀ x,x < A.next->x < B.low->B.get x=A.get x) (hl:l.cb=w.heap.size) (bL:o9 (ρ.set A.next l) base (w.alloc obj) l o) :
  cq base ρ A w (ρ.set A.next l) B (w.alloc obj):=by
 have hle:=hs.uy l;have hold:∀ k,k < w.heap.size->(w.alloc obj).heap[k]? = w.heap[k]?:=fun k hk=>RowKit.Below.heap_alloc _ _ _ hk;have cS:w.heap.size<=(w.alloc obj).heap.size:=by simp
 have aI:∀ b l',ρ b=some l'->b≠A.next:=fun b l' e=>by have:=hs.fZ b l' e; omega
 have hgl:∀ b o' l',A.get b=some o'->o'≠.dead->ρ b=some l'->l'.cb < w.heap.size:=fun b o' l' hg hd hr=>by
  obtain ⟨l2,e,ok⟩:=hs.rel.obj hg hd;rw [hr] at e; simp at e; subst e;exact ok.lt hd
 refine ⟨⟨.qe ?_ ?_ ?_,?_,dx hs.size cS,hs.lK.mono hle⟩,?_,⟨rfl,rfl,rfl,cS,fun k hk _=>hold k hk⟩,by omega,ER,zM,?_⟩
 ·intro b o' hg hd
  rw [hB] at hg;split at hg
  ·rename_i e; subst e; simp at hg; subst hg; exact ⟨l,Ren.dj _ _ _,bL⟩
  ·rename_i e
   obtain ⟨l',h1,h2⟩:=hs.rel.obj hg hd;exact ⟨l',hle _ _ h1,h2.di hle (hold _ (h2.lt hd)) cS⟩
 ·intro b1 b2 o1 o2 l1 l2 bA g1 g2 m1 m2 r1 r2 vW
  have hd1:o1≠.dead:=by intro e; subst e; simp [aY.ct] at m1
  have hd2:o2≠.dead:=by intro e; subst e; simp [aY.ct] at m2
  rw [hB] at g1 g2;by_cases e1:b1=A.next
  ·have e2:b2≠A.next:=fun e=>bA (e1.trans e.symm)
   rw [ae e2] at g2;rw [e1,Ren.dj] at r1;rw [Ren.cX _ _ e2] at r2;simp at r1; subst r1;have:=hgl b2 o2 l2 g2 hd2 r2;omega
  ·rw [ae e1] at g1
   rw [Ren.cX _ _ e1] at r1;by_cases e2:b2=A.next
   ·rw [e2,Ren.dj] at r2
    simp at r2; subst r2;have:=hgl b1 o1 l1 g1 hd1 r1;omega
   ·rw [ae e2] at g2
    rw [Ren.cX _ _ e2] at r2;exact hs.rel.apart b1 b2 o1 o2 l1 l2 bA g1 g2 m1 m2 r1 r2 vW
 ·intro b o' aF f hg pb
  rw [hB] at hg;split at hg
  ·rename_i e; subst e; simp at hg; subst hg; exact hk aF f pb
  ·exact hm aF b (hs.rel.aX b o' aF f hg pb)
 ·intro b l' h
  rw [hn];by_cases e:b=A.next
  ·omega
  ·rw [Ren.cX _ _ e] at h; have:=hs.fZ b l' h; omega
 ·intro b hb; exact Ren.cX _ _ (by omega)
 ·rintro k hk ⟨b,o',l',hg,AI,hr,rfl⟩
  by_cases e:b=A.next
  ·subst e
   rw [Ren.dj] at hr;simp at hr; subst hr;omega
  ·rw [hB,ae e] at hg
   rw [Ren.cX _ _ e] at hr;exact ⟨b,o',l',hg,AI,hr,rfl⟩
theorem cq.drew {base:Nat} {ρ:Ren} {A:St} {w:World} (hs:iv ρ A base w):cq base ρ A w ρ A w.drew:=
 ⟨⟨.qe (fun b o hg hd=>by obtain ⟨l,h1,h2⟩:=hs.rel.obj hg hd; exact ⟨l,h1,h2.di (Ren.le_refl _) rfl (ao _)⟩) hs.rel.apart hs.rel.aX,hs.fZ,hs.size,hs.lK⟩,
  fun _ _=>rfl,⟨rfl,rfl,rfl,ao _,fun _ _ _=>rfl⟩,ao _,ao _,fun _ _ _=>rfl,fun _ _ h=>h⟩
theorem Lc {ρ:Ren} {A:St} {base:Nat} {w:World} {cs:List Value} {c:Array Value} {aQ:Nat} (T:TypeId) (hs:iv ρ A base w) (hc:cD ρ cs c.toList) (h1:∀ v∈cs,scalar v=true) :
  cq base ρ A w (ρ.set A.next ⟨w.heap.size,0,cs.length,aQ⟩) (A.new (.row cs aQ true none)) (w.alloc (.cells c T)):=by
 have hlen:c.size=cs.length:=hc.length;refine x9 (o:=.row cs aQ true none) hs (fun x=>by simp) (fun f x h=>by simpa using h) (fun aF f h=>by simp [aY.hO] at h) (by simp) (by simp) (fun x hx _=>by simp; omega) rfl ?_;refine ⟨fun i v hi=>?_,fun h=>by simp at h,fun _=>hs.size,fun _ j hj=>?_,by simp,fun _ _=>by simp,rfl,by simp,fun _ _ j=>by simp only; rw [World.frozen?_alloc_new]⟩
 ·obtain ⟨v',h2,h3⟩:=hc.get hi
  refine ⟨v',?_,h3.mono (hs.uy _),h1 v (eW hi)⟩;rw [bF,World.cell?_alloc_new];simpa using h2
 ·simp only at hj ⊢
  rw [World.cell?_alloc_new,World.frozen?_alloc_new];refine ⟨?_,rfl⟩;rw [Array.getElem?_eq_getElem (by omega)];rfl
end Go.aA
end
section
namespace Go.aA
open Go
def qf (o:aY) (cb:Nat):Loc:=
 match o with
 | .row cs aQ _ _=>⟨cb,0,cs.length,aQ⟩
 | _=>⟨cb,0,0,0⟩
def ya (ρ:Ren) (o:aY) (c:Obj):Prop:=
 match o with
 | .row cs _ true none=>∃ a T,c = .cells a T/\cD ρ cs a.toList/\∀ v∈cs,scalar v=true
 | .map []=>c = .map #[] 0
 | .iter s 0=>c = .stringIter ⟨⟨s⟩⟩ 0
 | _=>False
theorem ya.gG {ρ:Ren} {A:St} {base:Nat} {w:World} {o:aY} {c:Obj} (hs:iv ρ A base w) (h:ya ρ o c) :
  cq base ρ A w (ρ.set A.next (qf o w.heap.size)) (A.new o) (w.alloc c):=by
 have mi:(w.alloc c).heap[w.heap.size]? = some c:=(MapKept.heap_alloc w c).1;unfold ya at h;split at h
 ·rename_i cs aQ
  obtain ⟨a,T,rfl,h1,h2⟩:=h;exact Lc T hs h1 h2
 ·subst h
  refine x9 (o:=.map []) hs (fun x=>by simp) (fun f x h=>by simpa using h) (fun aF f h=>by simp [aY.hO] at h) (by simp) (by simp) (fun x hx _=>by simp; omega) rfl ?_;exact ⟨hs.size,#[],0,mi,rfl⟩
 ·rename_i s
  subst h;refine x9 (o:=.iter s 0) hs (fun x=>by simp) (fun f x h=>by simpa using h) (fun aF f h=>by simp [aY.hO] at h) (by simp) (by simp) (fun x hx _=>by simp; omega) rfl ?_;exact ⟨hs.size,rfl,mi⟩
 ·exact h.elim
def qK (ρ:Ren) (ev ck:Operand->Value) (xs:List Operand):Prop:=∀ x∈xs,VR ρ (ev x) (ck x)
theorem qK.map {ρ:Ren} {ev ck:Operand->Value} : ∀ {xs:List Operand},qK ρ ev ck xs->cD ρ (xs.map ev) (xs.map ck)
 | [],_=>.nil
 | x::xs,h=>.cons (h x (by simp)) (qK.map fun y hy=>h y (by simp [hy]))
theorem qK.left {ρ:Ren} {ev ck:Operand->Value} {xs ys:List Operand} (h:qK ρ ev ck (xs++ys)):qK ρ ev ck xs:=fun x hx=>h x (by simp [hx])
theorem qK.right {ρ:Ren} {ev ck:Operand->Value} {xs ys:List Operand} (h:qK ρ ev ck (xs++ys)):qK ρ ev ck ys:=fun x hx=>h x (by simp [hx])
theorem qK.tail {ρ:Ren} {ev ck:Operand->Value} {x:Operand} {ys:List Operand} (h:qK ρ ev ck (x::ys)):qK ρ ev ck ys:=fun y hy=>h y (by simp [hy])
def adj (v' : Value):Next->Prop
 | .value v=>v=v'
 | .skip=>v' = undef
 | _=>False
def fv (P:Program) (o:Oper):Ins->Prop
 | .pure f xs=>∀ (ρ:Ren) (ev ck:Operand->Value) (v:Value),qK ρ ev ck xs->f (xs.map ev)=some v->∃ v',VR ρ v v'/\∀ w,(execOp ck o).run P w = .ok (.value v') w
 | .read f xs=>∀ (ρ:Ren) (A:St) (base:Nat) (w:World) (ev ck:Operand->Value) (v:Value),Rel ρ A.get A.members base w->qK ρ ev ck xs->f A (xs.map ev)=some v->
   ∃ v',VR ρ v v'/\(execOp ck o).run P w = .ok (.value v') w
 | .make f xs=>∀ (ρ:Ren) (ev ck:Operand->Value) (obj:aY) (mk:Nat->Value),qK ρ ev ck xs->f (xs.map ev)=some (obj,mk)->
   ∃ (c:Obj) (mk' : Nat->Value),ya ρ obj c/\(∀ w,(execOp ck o).run P w = .ok (.value (mk' w.heap.size)) (w.alloc c))/\∀ (ak:Ren) (n cb:Nat),ak n=some (qf obj cb)->VR ak (mk n) (mk' cb)
 | .act f xs=>∀ (ρ:Ren) (A B:St) (base:Nat) (w:World) (ev ck:Operand->Value) (v:Value),iv ρ A base w->qK ρ ev ck xs->f A (xs.map ev)=some (v,B)->
   ∃ ak v' nx w',(execOp ck o).run P w = .ok nx w'/\adj v' nx/\VR ak v v'/\cq base ρ A w ak B w'
 | .call f args=>(∀ (ρ:Ren) (ev ck:Operand->Value) (l:Nat),qK ρ ev ck (f::args)->ev f = .func (.yield l) ⟨[]⟩ ⟨[]⟩->
   ∃ loc bw,ρ l=some loc/\cD ρ (args.map ev) bw/\∀ w,(execOp ck o).run P w=(Instr.yield loc.cb bw.toArray).run P w)/\
  ∀ (ρ:Ren) (ev ck:Operand->Value) (g:FuncId) (vs:List Value),qK ρ ev ck (f::args)->Nat.blt g yB=true->jd (args.map ev) (ev f)=some (g,vs)->
   (∃ fn, P.funcs[g]? = some fn ∧ fn.body.isSome = true ∧ (fn.name == "runtime.NumGoroutine") = false) → ∃ bw, cD ρ vs bw ∧ ∀ w, (execOp ck o).run P w = .ok (.enter g bw.toArray) w
 | .bad=>True
section
variable {P:Program} {o:Oper}
theorem one {α:Type} {f:List Value->Option α} {xs:List Value} {r:α} (h:f xs=some r) (h0:f [] = none) (h2:∀ a b l,f (a::b::l)=none):∃ x,xs = [x]:=by
 cases xs with
 | nil=>rw [h0] at h; simp at h
 | cons a l=>
  cases l with
  | nil=>exact ⟨a,rfl⟩
  | cons b l=>rw [h2] at h; simp at h
theorem ah6 {x:Operand} (ho:o.op = .move x):fv P o (.pure FN [x]):=by
 intro ρ ev ck v he hf;simp [FN] at hf;exact ⟨ck x,hf ▸ he x (by simp),fun w=>by simp [execOp,ho]⟩
theorem adk {x:Operand} (ho:o.op = .assign x):fv P o (.pure FN [x]):=by
 intro ρ ev ck v he hf;simp [FN] at hf;exact ⟨ck x,hf ▸ he x (by simp),fun w=>by simp [execOp,ho]⟩
theorem VR.dq {ρ:Ren} {b:Bool} {v:Value} (h:VR ρ (.bool b) v):v = .bool b:=by simpa [VR] using h
theorem VR.bO {ρ:Ren} {k:IntKind} {n:Int} {v:Value} (h:VR ρ (.int k n) v):v = .int k n:=by simpa [VR] using h
theorem VR.nb {ρ:Ren} {s:ByteArray} {v:Value} (h:VR ρ (.string s) v):v = .string s:=by simpa [VR] using h
theorem VR.ju {ρ:Ren} {cs:Array Value} {v:Value} (h:VR ρ (.agg cs) v):∃ b5,v = .agg b5/\cD ρ cs.toList b5.toList:=by
 simp only [VR] at h; obtain ⟨c,h1,rfl⟩:=h; exact ⟨c,rfl,tZ.1 h1⟩
theorem VR.BD {ρ:Ren} {cs:Array Value} {v:Value} (h:VR ρ (.tuple cs) v):∃ b5,v = .tuple b5/\cD ρ cs.toList b5.toList:=by
 simp only [VR] at h; obtain ⟨c,h1,rfl⟩:=h; exact ⟨c,rfl,tZ.1 h1⟩
theorem VR.yb {ρ:Ren} {fn:Fn} {f c:Array Value} {v:Value} (h:VR ρ (.func fn f c) v):∃ f' c' tY,v = .func tY f' c'/\cD ρ f.toList f'.toList/\cD ρ c.toList c'.toList/\L6 ρ fn tY:=by
 simp only [VR] at h; obtain ⟨f',c',h1,h2,tY,h3,rfl⟩:=h; exact ⟨f',c',tY,rfl,tZ.1 h1,tZ.1 h2,h3⟩
theorem VR.iG {ρ:Ren} {a:Addr} {n c:Nat} {v:Value} (h:VR ρ (.slice (some a) n c) v) :
  a.spot=none/\n<=c/\∃ l a' c',ρ a.block=some l/\c<=c'/\(c'≠0->a' = ⟨l.cb,l.cg+a.off,none⟩)/\l.cg+a.off+c' * l.aQ<=l.rV/\v = .slice (some a') n c':=by simpa only [VR] using h
theorem VR.ff {ρ:Ren} {n c:Nat} {v:Value} (h:VR ρ (.slice none n c) v):v = .slice none n c:=by simpa [VR] using h
theorem VR.nt {ρ:Ren} {l l' : List Value} (h:cD ρ l l'):VR ρ (.agg ⟨l⟩) (.agg ⟨l'⟩):=by simp only [VR]; exact ⟨⟨l'⟩,tZ.2 h,rfl⟩
theorem VR.mkTuple {ρ:Ren} {l l' : List Value} (h:cD ρ l l'):VR ρ (.tuple ⟨l⟩) (.tuple ⟨l'⟩):=by simp only [VR]; exact ⟨⟨l'⟩,tZ.2 h,rfl⟩
theorem VR.JW {ρ:Ren} (fn:Fn) (hn:L6 ρ fn fn) {l l' m m' : List Value} (h:cD ρ l l') (k:cD ρ m m'):VR ρ (.func fn ⟨l⟩ ⟨m⟩) (.func fn ⟨l'⟩ ⟨m'⟩):=by simp only [VR]; exact ⟨⟨l'⟩,⟨m'⟩,tZ.2 h,tZ.2 k,fn,hn,rfl⟩
theorem VR.wx {ρ:Ren} {a:Addr} {l:Loc} (h:a.spot=none) (k:ρ a.block=some l):VR ρ (.pointer (some a)) (.pointer (some ⟨l.cb,l.cg+a.off,none⟩)):=by simp only [VR]; exact ⟨h,l,k,rfl⟩
theorem ah7 {c a b:Operand} (ho:o.op = .pick c a b):fv P o (.pure TC [c,a,b]):=by
 intro ρ ev ck v he hf;simp only [List.map,TC] at hf;split at hf
 ·rename_i t x y e
  simp at e hf;obtain ⟨e1,rfl,rfl⟩:=e;have hc:=he c (by simp);rw [e1] at hc;have hc:=hc.dq;subst hf;refine ⟨cond t (ck a) (ck b),by cases t <;> simp [he a (by simp),he b (by simp)],fun w=>?_⟩;cases t <;> simp [execOp,ho,hc,asBool]
 ·simp at hf
theorem Xz {t:TypeId} {i:TypeInfo} (h:P.info? t=some i) (w:World):(typeInfo t).run P w = .ok i w:=by
 unfold typeInfo; simp [h]
theorem JX {t:TypeId} {z:Value} (h:tE P t=some z) (w:World):(zeroValue t).run P w = .ok z w:=by
 unfold tE at h;obtain ⟨i,h1,h2⟩:=aO.1 h;unfold zeroValue; simp [Xz h1,h2]
theorem mj {t:TypeId} {n:Nat} (h:size? P t=some n) (w:World):(sizeOf t).run P w = .ok n w:=by
 unfold size? at h;obtain ⟨i,h1,h2⟩:=aU.1 h;unfold sizeOf; simp [Xz h1,h2]
theorem aV {t:TypeId} {d:TypeDesc} (h:P.underlying t=some d) (w:World):(underlying t).run P w = .ok d w:=by
 unfold underlying; simp [h]
theorem C2 {t:TypeId} {b:Bool} (h:HR P t=some b) (w:World):(isAgg t).run P w = .ok b w:=by
 unfold HR at h;obtain ⟨d,h1,h2⟩:=aU.1 h;unfold isAgg;rw [Sem.run_bind,aV h1,fF];subst h2;cases d <;> rfl
theorem agz {t:TypeId} (ho:o.op = .alloc t):fv P o (.make (ND P t) []):=by
 intro ρ ev ck obj mk he hf;simp only [ND,aO] at hf;obtain ⟨z,hz,hf⟩:=hf;cases CO:(flat z&&z.cells.toList.all scalar) with
 | false=>rw [CO] at hf; simp at hf
 | true=>
  rw [CO,ah] at hf;simp only [aR,bG] at hf;obtain ⟨rfl,rfl⟩:=hf;obtain ⟨F7,vY⟩:=Bool.and_eq_true_iff.1 CO;rw [dS] at vY;have hr:VR ρ z z:=VR.of_flat F7;refine ⟨.cells z.cells t,fun n=>.pointer (some ⟨n,0,none⟩),⟨z.cells,t,rfl,hr.cells (fun r e=>by subst e; simp [flat] at F7),vY⟩,fun w=>?_,fun ak n cb h=>?_⟩
  ·simp [execOp,ho,Instr.alloc,JX hz,newVar,newRow]
  ·exact VR.wx (a:=⟨n,0,none⟩) rfl h
theorem akf {t:TypeId} {x:Operand} (ho:o.op = .box t x):fv P o (.make (Xo (uY P t)) [x]):=by
 intro ρ ev ck obj mk he hf;simp only [List.map,Xo] at hf;cases CO:(ev x).cells.toList.all scalar with
 | false=>rw [CO] at hf; simp at hf
 | true=>
  rw [CO,ah] at hf;simp only [aR,bG] at hf;obtain ⟨rfl,rfl⟩:=hf;have vY:=CO;rw [dS] at vY;refine ⟨.cells (ck x).cells t,fun n=>.pointer (some ⟨n,0,none⟩),⟨_,t,rfl,(he x (by simp)).cells (fun r e=>by rw [e] at CO; simp [Value.cells,scalar] at CO),vY⟩,fun w=>?_,fun ak n cb h=>?_⟩
  ·simp [execOp,ho,Instr.box,newVar,newRow]
  ·exact VR.wx (a:=⟨n,0,none⟩) rfl h
theorem DK {ρ:Ren} {A:St} {base:Nat} {w:World} {t:TypeId} {x x' v:Value} (hs:Rel ρ A.get A.members base w) (hx:VR ρ x x') (hf:loadAt P t A x=some v) :
  ∃ a,x' = .pointer (some a)/\∃ v',VR ρ v v'/\(loadVar t a).run P w = .ok v' w:=by
 unfold loadAt at hf;split at hf
 ·rename_i a
  obtain ⟨ua,l,hl,rfl⟩:=hx.gh;refine ⟨_,rfl,?_⟩;split at hf
  ·rename_i uZ
   obtain ⟨n,hn,hf⟩:=aO.1 hf;obtain ⟨cs,AJ,rfl⟩:=aU.1 hf;obtain ⟨b5,h1,_,_,h3⟩:=sM (P:=P) hs AJ hl;refine ⟨.agg ⟨b5⟩,VR.nt h1,?_⟩;unfold loadVar;simp [C2 uZ,mj hn,h3]
  ·rename_i uZ
   obtain ⟨cs,AJ,hf⟩:=aO.1 hf;obtain ⟨b5,h1,hlen,_,h3⟩:=sM (P:=P) hs AJ hl;cases cs with
   | nil=>simp at hf
   | cons c cs=>
    simp at hf; subst hf;obtain ⟨y,ys,rfl,h4,h5⟩:=h1.cons_inv;refine ⟨y,h4,?_⟩;have hys:ys = []:=by have:=h5.length; simp at hlen; subst hlen; simpa using this
    subst hys;have h0:(load ⟨l.cb,l.cg+a.off,none⟩).run P w = .ok y w:=by
     simp only [loadCells,loadCellsFrom,jt,p8,Sem.run_bind,run_load] at h3 ⊢;cases hc:w.cell? ⟨l.cb,l.cg+a.off,none⟩ with
     | some u=>rw [hc] at h3; simp at h3 ⊢; exact h3
     | none=>
      rw [hc] at h3;simp only at h3 ⊢;cases hff:w.farLoad P ⟨l.cb,l.cg+a.off,none⟩ (Mode.plain==Mode.atomic) with
      | ok p=>rw [hff] at h3; simp at h3 ⊢; exact h3
      | error e=>rw [hff] at h3; simp at h3
    unfold loadVar;simp only [Sem.run_bind,C2 uZ,fF];exact h0
  ·simp at hf
 ·simp at hf
theorem ah8 {t:TypeId} {a:Operand} (ho:o.op = .load t a):fv P o (.read (zI P t) [a]):=by
 intro ρ A base w ev ck v hs he hf;simp only [List.map,zI] at hf;obtain ⟨ad,h1,v',h2,h3⟩:=DK hs (he a (by simp)) hf;refine ⟨v',h2,?_⟩;simp [execOp,ho,Instr.loadAt,Instr.sureAddr,h1,h3]
theorem TT {ρ:Ren} {A B:St} {base:Nat} {w:World} {t:TypeId} {x x' v v' : Value} (hs:iv ρ A base w) (hx:VR ρ x x') (hv:VR ρ v v') (hf:storeAt P t A x v=some B) :
  ∃ a,x' = .pointer (some a)/\∃ w',(storeVar t a v').run P w = .ok () w'/\cq base ρ A w ρ B w':=by
 unfold storeAt at hf;split at hf
 ·rename_i a
  obtain ⟨ua,l,hl,rfl⟩:=hx.gh;refine ⟨_,rfl,?_⟩;cases hd:decide (some v.cells.size=size? P t) with
  | false=>rw [hd] at hf; simp at hf
  | true=>
   rw [hd,ah] at hf;have cS:=JN hd;have H7:∀ r,v≠.chan r:=fun r e=>by subst e; simp [Value.cells,St.rD,scalar] at hf
   have hvc:=hv.cells H7;obtain ⟨w',h1,h2⟩:=yN (P:=P) hs hf hl hvc;refine ⟨w',?_,h2⟩;unfold storeVar;have hlen:v'.cells.size=v.cells.size:=hvc.length;simp [mj cS.symm,hlen,h1]
 ·simp at hf
theorem agA {t:TypeId} {a x:Operand} (ho:o.op = .store t a x):fv P o (.act (FO P t) [a,x]):=by
 intro ρ A B base w ev ck v hs he hf;simp only [List.map,FO] at hf;obtain ⟨B',hB,hf⟩:=aU.1 hf;simp at hf;obtain ⟨rfl,rfl⟩:=hf;obtain ⟨ad,h1,w',h2,h3⟩:=TT hs (he a (by simp)) (he x (by simp)) hB;refine ⟨ρ,undef,.skip,w',?_,rfl,VR.of_flat (by simp [undef,flat,wh,nL]),h3⟩;simp [execOp,ho,Instr.storeAt,Instr.sureAddr,h1,h2]
theorem YN {x:Operand} (ho:o.op = .nilCheck x):fv P o (.pure FQ [x]):=by
 intro ρ ev ck v he hf;simp only [List.map,FQ] at hf;have hx:=he x (by simp);split at hf
 ·rename_i a e
  simp at e hf;rw [e] at hx;obtain ⟨_,l,_,h⟩:=hx.gh;subst hf;refine ⟨_,hx,fun w=>?_⟩;simp [execOp,ho,h]
 ·rename_i f first cap e
  simp at e hf;rw [e] at hx;obtain ⟨f',c',tY,h,_,_,Qa⟩:=hx.yb;have Qa:tY = .func f:=Qa;subst Qa;subst hf;refine ⟨_,hx,fun w=>?_⟩;simp [execOp,ho,h]
 ·simp at hf
theorem alZ {op:UnOp} {t:TypeId} {x:Operand} (ho:o.op = .unOp op t x):fv P o (.pure (fUn P op) [x]):=by
 intro ρ ev ck v he hf;simp only [List.map,fUn] at hf;have hx:=he x (by simp);have ah9:∀ y u:Value,(y = .bool (y matches .bool true)\/∃ k n,y = .int k n)->cv P (Op.unary op y)=some u->flat u=true:=by
  intro y u hy hu;have h:=eQ hu default;rcases hy with hy | ⟨k,n,rfl⟩
  ·rw [hy] at h
   cases op <;> simp [Op.unary] at h;subst h; rfl
  ·cases op <;> simp [Op.unary,Op.intArith,Op.intBits] at h <;> (subst h; rfl)
 split at hf
 ·rename_i b e
  simp at e;rw [e] at hx;have hx:=hx.dq;refine ⟨v,VR.of_flat (ah9 _ _ (.inl (by cases b <;> rfl)) hf),fun w=>?_⟩;simp [execOp,ho,hx,eQ hf w]
 ·rename_i k n e
  simp at e;rw [e] at hx;have hx:=hx.bO;refine ⟨v,VR.of_flat (ah9 _ _ (.inr ⟨k,n,rfl⟩) hf),fun w=>?_⟩;simp [execOp,ho,hx,eQ hf w]
 ·simp at hf
theorem aaT {src dst:TypeId} {x:Operand} (ho:o.op = .convert src dst x):fv P o (.pure (Ep P src dst) [x]):=by
 intro ρ ev ck v he hf;simp only [List.map,Ep] at hf;have hx:=he x (by simp);split at hf
 ·rename_i k n e
  simp at e;rw [e] at hx;have hx:=hx.bO;split at hf
  ·rename_i k' hu
   have h:=eQ hf default;have CO:flat v=true:=by
    unfold convert at h;rw [Sem.run_bind] at h;cases hs:(underlying src).run P default with
    | halt x w=>rw [hs] at h; simp at h
    | ok d w=>
     rw [hs,fF,Sem.run_bind,aV hu,fF] at h;have:∀ w,(Conv.intToInt k' n).run P w = .ok v w->flat v=true:=fun w e=>by
      simp [Conv.intToInt] at e; rw [<- e]; rfl
     cases d <;> simp only at h <;> first | exact this _ h | (simp [Conv.intToInt] at h; rw [<- h.1]; rfl)
   refine ⟨v,VR.of_flat CO,fun w=>?_⟩;simp [execOp,ho,hx,eQ hf w]
  ·simp at hf
 ·simp at hf
theorem lM (ev:Operand->Value) (xs:Array Operand):(xs.map ev)=⟨xs.toList.map ev⟩:=by cases xs; simp
theorem YO {fn:Fn} {first cap:Array Operand} (ho:o.op = .makeFunc fn first cap):fv P o (cond (Bk fn) (.pure (Bw fn first.size) (first.toList++cap.toList)) .bad):=by
 cases hny:Bk fn with
 | false=>trivial
 | true=>
 rw [ah];intro ρ ev ck v he hf;simp only [Bw] at hf;obtain ⟨l,h1,rfl⟩:=aU.1 hf;obtain ⟨rfl,_⟩:=EM h1;rw [nS];refine ⟨.func fn (first.map ck) (cap.map ck),?_,fun w=>by simp [execOp,ho,Instr.makeFunc]⟩;rw [lM,lM];have e1:((first.toList++cap.toList).map ev).take first.size=first.toList.map ev:=by
  rw [yH,List.take_left' (by simp)]
 have e2:((first.toList++cap.toList).map ev).drop first.size=cap.toList.map ev:=by
  rw [yH,List.drop_left' (by simp)]
 rw [e1,e2];exact VR.JW fn (by cases fn <;> first | rfl | simp [Bk] at hny) he.left.map he.right.map
theorem F8 {ρ:Ren} {a:Addr} {n:Nat} {v:Value} {l:Loc} (hl:ρ a.block=some l) (h:LR a n=some v):VR ρ v (.pointer (some ⟨l.cb,l.cg+a.off+n,none⟩)):=by
 simp only [LR] at h;cases hp:bH a with
 | false=>rw [hp] at h; simp at h
 | true=>
  rw [hp] at h;simp at h;subst h;have:=VR.wx (ρ:=ρ) (a:=⟨a.block,a.off+n,none⟩) (l:=l) rfl hl;simpa [nD] using this
theorem Ld {s:TypeId} {f:Nat} {fd:Field} (h:oe P s f=some fd):∃ fields,P.underlying s=some (.struct fields)/\fields[f]? = some fd:=by
 unfold oe at h;split at h
 ·rename_i fields e; exact ⟨fields,e,by simpa using h⟩
 ·simp at h
theorem WB {s:TypeId} {x:Operand} {f:Nat} (ho:o.op = .fieldAddr s x f):fv P o (ra P s x f):=by
 unfold ra;split
 ·rename_i fd h
  split
  ·rename_i n hn
   intro ρ ev ck v he hf;obtain ⟨fields,hu,hfd⟩:=Ld h;simp only [List.map,CV] at hf;have hx:=he x (by simp);split at hf
   ·rename_i a e
    simp at e;rw [e] at hx;obtain ⟨ua,l,hl,h'⟩:=hx.gh;refine ⟨_,F8 hl hf,fun w=>?_⟩;have hfp:(fieldPlace ⟨l.cb,l.cg+a.off,none⟩ fd).run P w = .ok ⟨l.cb,l.cg+a.off+fd.offset,none⟩ w:=by
     unfold fieldPlace;simp [mj hn,jt]
    simp [execOp,ho,Instr.fieldAt,aV hu,hfd,h',Instr.sureAddr,hfp]
   ·simp at hf
  ·trivial
 ·trivial
theorem Le {ρ:Ren} {t:TypeId} {cs:List Value} {b5:Array Value} {off:Nat} {v:Value} (hc:cD ρ cs b5.toList) (h:partOf P t cs off=some v) :
  ∃ v',VR ρ v v'/\∀ w,(part t b5 off).run P w = .ok v' w:=by
 unfold partOf at h;split at h
 ·rename_i uZ
  obtain ⟨n,hn,h⟩:=aO.1 h;obtain ⟨l,hl,rfl⟩:=aU.1 h;rw [nS] at hl;obtain ⟨rfl,hlen⟩:=EM hl;refine ⟨.agg ⟨(b5.toList.drop off).take n⟩,VR.nt ((hc.drop off).take n),fun w=>?_⟩;unfold part;simp only [Sem.run_bind,C2 uZ,fF,if_true,mj hn,Sem.run_pure];congr 2;apply Array.ext';simp [Array.toList_extract,List.extract_eq_take_drop,show off+n - off=n by omega]
 ·rename_i uZ
  rw [nS,List.head?_drop] at h;obtain ⟨v',h1,h2⟩:=hc.get h;refine ⟨v',h2,fun w=>?_⟩;unfold part;have h3:b5[off]? = some v':=by simpa using h1
  simp [C2 uZ,h3]
 ·simp at h
theorem agB {t:TypeId} {x:Operand} {f:Nat} (ho:o.op = .field t x f):fv P o (Ex P t x f):=by
 unfold Ex;split
 ·rename_i fd h
  intro ρ ev ck v he hf;obtain ⟨fields,hu,hfd⟩:=Ld h;simp only [List.map,Yu] at hf;have hx:=he x (by simp);split at hf
  ·rename_i cs e
   simp at e;rw [e] at hx;obtain ⟨b5,h',hc⟩:=hx.ju;obtain ⟨v',h1,h2⟩:=Le hc hf;refine ⟨v',h1,fun w=>?_⟩;simp [execOp,ho,Instr.field,aV hu,hfd,h',asAgg,h2]
  ·simp at hf
 ·trivial
theorem sN {i:Int} {len n:Nat} (h:iu i len=some n):i=n/\n < len:=by
 unfold iu at h;cases i with
 | ofNat m=>
  simp only at h;cases hb:Nat.blt m len with
  | false=>rw [hb] at h; simp at h
  | true=>
   rw [hb] at h;simp at h; subst h;exact ⟨rfl,by rw [b8] at hb; exact hb⟩
 | negSucc m=>simp at h
theorem WC {t:TypeId} {x ix:Operand} (ho:o.op = .indexAddr t x ix):fv P o (rb P t x ix):=by
 unfold rb;split
 ·rename_i len e hu
  split
  ·rename_i n hn
   intro ρ ev ck v he hf;simp only [List.map,LS] at hf;have hx:=he x (by simp);have hi:=he ix (by simp);split at hf
   ·rename_i a k i e'
    simp at e';obtain ⟨e1,e2⟩:=e';rw [e1] at hx;rw [e2] at hi;obtain ⟨ua,l,hl,h'⟩:=hx.gh;have hi:=hi.bO;obtain ⟨j,hj,hg⟩:=aO.1 hf;obtain ⟨rfl,aI⟩:=sN hj;refine ⟨_,F8 hl hg,fun w=>?_⟩;simp [execOp,ho,Instr.indexAt,aV hu,h',hi,Instr.sureAddr,asIntOf,aI,mj hn,jt]
   ·simp at hf
  ·trivial
 ·rename_i e hu
  split
  ·rename_i n hn
   intro ρ ev ck v he hf;simp only [List.map,JQ] at hf;have hx:=he x (by simp);have hi:=he ix (by simp);split at hf
   ·rename_i a len c k i e'
    simp at e';obtain ⟨e1,e2⟩:=e';rw [e1] at hx;rw [e2] at hi;obtain ⟨ua,hnc,l,a',c',hl,ri,BF,jI,h'⟩:=hx.iG;have hi:=hi.bO;obtain ⟨j,hj,hg⟩:=aO.1 hf;obtain ⟨rfl,aI⟩:=sN hj;refine ⟨_,F8 hl hg,fun w=>?_⟩;have:=BF (by omega);subst this;simp [execOp,ho,Instr.indexAt,aV hu,h',hi,asIntOf,aI,mj hn,jt]
   ·simp at hf
  ·trivial
 ·trivial
theorem agC {t:TypeId} {x ix:Operand} (ho:o.op = .index t x ix):fv P o (Ey P t x ix):=by
 unfold Ey;split
 ·rename_i len e hu
  split
  ·rename_i n hn
   intro ρ ev ck v he hf;simp only [List.map,LU] at hf;have hx:=he x (by simp);have hi:=he ix (by simp);split at hf
   ·rename_i cs k i e'
    simp at e';obtain ⟨e1,e2⟩:=e';rw [e1] at hx;rw [e2] at hi;obtain ⟨b5,h',hc⟩:=hx.ju;have hi:=hi.bO;obtain ⟨j,hj,hg⟩:=aO.1 hf;obtain ⟨rfl,aI⟩:=sN hj;obtain ⟨v',h1,h2⟩:=Le hc hg;refine ⟨v',h1,fun w=>?_⟩;simp [execOp,ho,Instr.index,aV hu,h',hi,asIntOf,aI,mj hn,h2]
   ·simp at hf
  ·trivial
 ·rename_i hu
  intro ρ ev ck v he hf;simp only [List.map,LV] at hf;have hx:=he x (by simp);have hi:=he ix (by simp);split at hf
  ·rename_i s k i e'
   simp at e';obtain ⟨e1,e2⟩:=e';rw [e1] at hx;rw [e2] at hi;have hx:=hx.nb;have hi:=hi.bO;obtain ⟨j,hj,hg⟩:=aO.1 hf;obtain ⟨rfl,aI⟩:=sN hj;obtain ⟨b,hb,rfl⟩:=aU.1 hg;refine ⟨_,VR.of_flat rfl,fun w=>?_⟩;have YP:s[j]? = some b:=by
    rw [<- hb];simp only [getElem?_def];have h1:j < s.data.toList.length:=by simpa using aI
    rw [dif_pos aI,dif_pos h1];rfl
   simp [execOp,ho,Instr.index,aV hu,hx,hi,asIntOf,YP]
  ·simp at hf
 ·trivial
theorem aaU {x:Operand} {i:Nat} (ho:o.op = .extract x i):fv P o (.pure (Er i) [x]):=by
 intro ρ ev ck v he hf;simp only [List.map,Er] at hf;have hx:=he x (by simp);split at hf
 ·rename_i vs e
  simp at e;rw [e] at hx;obtain ⟨bw,h',hc⟩:=hx.BD;obtain ⟨v',h1,h2⟩:=hc.get hf;refine ⟨v',h2,fun w=>?_⟩;have h3:bw[i]? = some v':=by simpa using h1
  simp [execOp,ho,Instr.extract,h',h3]
 ·simp at hf
theorem nT {t:TypeId} {x y:Value} {b:Bool} {w:World} (h:∀ d,(Op.equalIn (d+1) t x y).run P w = .ok b w):(Op.equal t x y).run P w = .ok b w:=h 9999
theorem adl {ρ:Ren} {t:TypeId} {x y x' y' : Value} {b:Bool} (hx:VR ρ x x') (hy:VR ρ y y') (h:TB P t x y=some b):∀ w,(Op.equal t x' y').run P w = .ok b w:=by
 have al0:cond (flat x&&flat y) (cv P (Op.equal t x y)) none=some b->∀ w,(Op.equal t x' y').run P w = .ok b w:=by
  intro h w;cases hf:(flat x&&flat y) with
  | false=>rw [hf] at h; simp at h
  | true=>
   rw [hf,ah] at h;simp only [aj] at hf;rw [hx.jZ hf.1,hy.jZ hf.2];exact eQ h w
 intro w;unfold TB at h;split at h
 ·rename_i e c hu
  have hx:x' = .pointer none:=by simpa [VR] using hx
  cases c with
  | none=>
   have hy:y' = .pointer none:=by simpa [VR] using hy
   subst hx hy; simp at h; subst h;exact nT fun d=>by simp [Op.equalIn,aV hu]
  | some a=>
   obtain ⟨_,l,_,hy⟩:=hy.gh;subst hx hy; simp at h; subst h;exact nT fun d=>by simp [Op.equalIn,aV hu]
 ·rename_i e a hu
  obtain ⟨_,l,_,hx⟩:=hx.gh;have hy:y' = .pointer none:=by simpa [VR] using hy
  subst hx hy; simp at h; subst h;exact nT fun d=>by simp [Op.equalIn,aV hu]
 ·rename_i e n c a n' c' hu
  have hx:=hx.ff;cases a with
  | none=>
   have hy:=hy.ff;subst hx hy; simp at h; subst h;exact nT fun d=>by simp [Op.equalIn,aV hu]
  | some a=>
   obtain ⟨_,_,l,a',c2,_,_,_,_,hy⟩:=hy.iG;subst hx hy; simp at h; subst h;exact nT fun d=>by simp [Op.equalIn,aV hu]
 ·rename_i e a n c n' c' hu
  obtain ⟨_,_,l,a',c2,_,_,_,_,hx⟩:=hx.iG;have hy:=hy.ff;subst hx hy; simp at h; subst h;exact nT fun d=>by simp [Op.equalIn,aV hu]
 ·rename_i k e a hu
  have hx:x' = .map none:=by simpa [VR] using hx
  cases a with
  | none=>
   have hy:y' = .map none:=by simpa [VR] using hy
   subst hx hy; simp at h; subst h;exact nT fun d=>by simp [Op.equalIn,aV hu]
  | some a=>
   have hy:∃ l,ρ a=some l/\y' = .map (some l.cb):=by simpa only [VR] using hy
   obtain ⟨l,_,hy⟩:=hy;subst hx hy; simp at h; subst h;exact nT fun d=>by simp [Op.equalIn,aV hu]
 ·rename_i k e a hu
  have hx:∃ l,ρ a=some l/\x' = .map (some l.cb):=by simpa only [VR] using hx
  obtain ⟨l,_,hx⟩:=hx;have hy:y' = .map none:=by simpa [VR] using hy
  subst hx hy; simp at h; subst h;exact nT fun d=>by simp [Op.equalIn,aV hu]
 ·rename_i hu
  have hx:x' = .nilFunc:=by simpa [VR] using hx
  have hy:y' = .nilFunc:=by simpa [VR] using hy
  subst hx hy; simp at h; subst h;exact nT fun d=>by simp [Op.equalIn,aV hu]
 ·rename_i hu
  have hx:x' = .nilFunc:=by simpa [VR] using hx
  obtain ⟨f',c',_,hy,_,_,_⟩:=hy.yb;subst hx hy; simp at h; subst h;exact nT fun d=>by simp [Op.equalIn,aV hu]
 ·rename_i hu
  obtain ⟨f',c',_,hx,_,_,_⟩:=hx.yb;have hy:y' = .nilFunc:=by simpa [VR] using hy
  subst hx hy; simp at h; subst h;exact nT fun d=>by simp [Op.equalIn,aV hu]
 ·exact al0 h w
theorem agD {op:BinOp} {t:TypeId} {j k:IntKind} {a b:Int} {v:Value} (h:cv P (binOp op t (.int j a) (.int k b))=some v):flat v=true:=by
 have h:=eQ h default;cases op <;> simp only [binOp,Op.shift] at h <;> (repeat' split at h) <;>
  first
  | (simp [Op.intArith,Op.intBits,Op.intCmp] at h; subst h; rfl)
  | (simp only [Op.intDiv] at h; split at h <;> first | (simp at h; subst h; rfl) | (simp [runtimePanic,program,Sem.run] at h))
  | (simp at h; subst h; rfl)
  | (simp [runtimePanic,program,Sem.run] at h)
  | (simp at h)
theorem YQ {op:BinOp} {t:TypeId} {a b:ByteArray} {v:Value} (h:cv P (binOp op t (.string a) (.string b))=some v):flat v=true:=by
 have h:=eQ h default;cases op <;> simp only [binOp,Op.stringOp] at h <;> (repeat' split at h) <;>
  first
  | (simp at h; subst h; rfl)
  | (simp at h)
theorem adm (op:BinOp) (t:TypeId) (x y:Operand) (j k:IntKind) (a b:Int) (w:World):(eqGuard op t x y (.int j a) (.int k b)).run P w = .ok () w:=by
 unfold eqGuard;cases op <;> simp
theorem WD (op:BinOp) (t:TypeId) (x y:Operand) (a b:ByteArray) (w:World):(eqGuard op t x y (.string a) (.string b)).run P w = .ok () w:=by
 unfold eqGuard;cases op <;> simp
end
end Go.aA
end
section
namespace Go.aA
open Go
section
variable {P:Program} {o:Oper}
theorem DL {ρ:Ren} {a a' : Value} (he:gp a=true) (h:VR ρ a a') :
  (a' = .nilIface->a = .nilIface)/\(∀ cs,a' = .agg cs->∃ b5,a = .agg b5)/\(∀ k n,a'≠.int k n)/\(∀ k n,a'≠.float k n)/\(∀ k n m,a'≠.complex k n m)/\(∀ s,a'≠.string s):=by
 cases a with
 | int k n=>simp [gp] at he
 | float k n=>simp [gp] at he
 | complex k n m=>simp [gp] at he
 | string s=>simp [gp] at he
 | chan r=>simp [gp] at he
 | tuple cs=>simp [gp] at he
 | bool b=>have:=h.dq; subst this; simp
 | pointer p=>
  cases p with
  | none=>have:a' = .pointer none:=by simpa [VR] using h
          subst this; simp
  | some p=>obtain ⟨_,_,_,rfl⟩:=h.gh; simp
 | slice p n c=>
  cases p with
  | none=>have:=h.ff; subst this; simp
  | some p=>obtain ⟨_,_,_,_,_,_,_,_,_,rfl⟩:=h.iG; simp
 | map r=>
  cases r with
  | none=>have:a' = .map none:=by simpa [VR] using h
          subst this; simp
  | some r=>
   have:∃ l,ρ r=some l/\a' = .map (some l.cb):=by simpa only [VR] using h
   obtain ⟨_,_,rfl⟩:=this; simp
 | func fn f c=>obtain ⟨_,_,_,rfl,_,_⟩:=h.yb; simp
 | nilFunc=>have:a' = .nilFunc:=by simpa [VR] using h
            subst this; simp
 | iface t x=>
  have:∃ x',VR ρ x x'/\a' = .iface t x':=by simpa only [VR] using h
  obtain ⟨_,_,rfl⟩:=this; simp
 | nilIface=>simp
             have:a' = .nilIface:=by simpa [VR] using h
             subst this; simp
 | agg cs=>obtain ⟨_,rfl,_⟩:=h.ju; simp
theorem YR {ρ:Ren} {op:BinOp} {t:TypeId} {x y:Operand} {a b a' b' : Value} (ea:gp a=true) (eb:gp b=true) (ha:VR ρ a a') (hb:VR ρ b b')
  (h:uv P t (isConst x||isConst y) a b=true) (w:World):(eqGuard op t x y a' b').run P w = .ok () w:=by
 obtain ⟨ha1,NW,_⟩:=DL ea ha;obtain ⟨u6,qg,_⟩:=DL eb hb;unfold eqGuard;cases YA:(!(op matches .eql | .neq)) with
 | true=>simp
 | false=>
  simp only [CU,if_false];cases a' with
  | nilIface=>
   cases b' with
   | nilIface=>
    have e1:=ha1 rfl;have e2:=u6 rfl;rw [e1,e2] at h;have hc:(isConst x||isConst y)=true:=h;cases x with
    | const v=>rfl
    | _=>
     cases y with
     | const v=>rfl
     | _=>simp [isConst] at hc
   | _=>rfl
  | agg cs=>
   cases b' with
   | agg ds=>
    obtain ⟨c1,rfl⟩:=NW _ rfl;obtain ⟨c2,rfl⟩:=qg _ rfl;have hg:P.eqGuardType P.depth t=false:=by simpa [uv] using h
    simp [hg]
   | _=>rfl
  | _=>rfl
theorem binOp_eql {ρ:Ren} {t:TypeId} {a a' b' : Value} (ea:gp a=true) (ha:VR ρ a a'):binOp .eql t a' b' = (do pure (.bool (<- Op.equal t a' b')))/\binOp .neq t a' b' = (do pure (.bool (!(<- Op.equal t a' b')))):=by
 obtain ⟨_,_,h1,h2,h3,h4⟩:=DL ea ha;cases a' with
 | int k n=>exact absurd rfl (h1 k n)
 | float k n=>exact absurd rfl (h2 k n)
 | complex k n m=>exact absurd rfl (h3 k n m)
 | string s=>exact absurd rfl (h4 s)
 | _=>constructor <;> rfl
theorem akg {op:BinOp} {t yt:TypeId} {x y:Operand} (ho:o.op = .binOp op t x y yt):fv P o (.pure (nI P op t (isConst x||isConst y)) [x,y]):=by
 intro ρ ev ck v he hf;have hx:=he x (by simp);have hy:=he y (by simp);have full:∀ b,kS P t (isConst x||isConst y) (ev x) (ev y)=some b->∀ w,(eqGuard op t x y (ck x) (ck y)).run P w = .ok () w/\(Op.equal t (ck x) (ck y)).run P w = .ok b w/\gp (ev x)=true:=by
  intro b hb w;unfold kS at hb;cases hc:(gp (ev x)&&gp (ev y)&&uv P t (isConst x||isConst y) (ev x) (ev y)) with
  | false=>rw [hc] at hb; simp at hb
  | true=>
   rw [hc,ah] at hb;simp only [aj] at hc;exact ⟨YR hc.1.1 hc.1.2 hx hy hc.2 w,adl hx hy hb w,hc.1.1⟩
 simp only [List.map,nI] at hf;split at hf
 ·rename_i j a k b e
  simp at e;rw [e.1] at hx;rw [e.2] at hy;refine ⟨v,VR.of_flat (agD hf),fun w=>?_⟩;simp [execOp,ho,hx.bO,hy.bO,adm,eQ hf w]
 ·rename_i a b e
  simp at e;rw [e.1] at hx;rw [e.2] at hy;refine ⟨v,VR.of_flat (YQ hf),fun w=>?_⟩;simp [execOp,ho,hx.nb,hy.nb,WD,eQ hf w]
 ·rename_i a b _ _ e
  simp at e;obtain ⟨rfl,rfl⟩:=e;split at hf
  ·obtain ⟨c,hc,rfl⟩:=aU.1 hf
   refine ⟨.bool c,VR.of_flat rfl,fun w=>?_⟩;obtain ⟨h1,h2,h3⟩:=full c hc w;simp [execOp,ho,h1,(binOp_eql (t:=t) (b':=ck y) h3 hx).1,h2]
  ·obtain ⟨c,hc,rfl⟩:=aU.1 hf
   refine ⟨.bool (!c),VR.of_flat rfl,fun w=>?_⟩;obtain ⟨h1,h2,h3⟩:=full c hc w;simp [execOp,ho,h1,(binOp_eql (t:=t) (b':=ck y) h3 hx).2,h2]
  ·simp at hf
 ·simp at hf
theorem H8:∀ (n:Nat) (l:List Value),fc n l [] = some l
 | 0,l=>uW l
 | n+1,[]=>LQ n
 | n+1,x::l=>by simp [ns,H8 n l]
theorem RE (off:Nat):∀ (l:List Value) (k:Nat) (cs:Array Value),off+k+l.length<=cs.size->
  ∃ r,fc (off+k) cs.toList l=some r/\((l.zipIdx k).foldl (fun cs (p:Value×Nat)=>cs.setIfInBounds (off+p.2) p.1) cs).toList=r
 | [],k,cs,_=>⟨cs.toList,H8 _ _,rfl⟩
 | v::l,k,cs,h=>by
  obtain ⟨r,h1,h2⟩:=RE off l (k+1) (cs.setIfInBounds (off+k) v) (by simp at h ⊢; omega);refine ⟨r,?_,by simpa using h2⟩;have aI:off+k < cs.size:=by simp at h; omega
  have key:∀ (n:Nat) (l0 l1:List Value) (v:Value),n < l0.length->fc (n+1) (l0.set n v) l1=fc n l0 (v::l1):=by
   intro n
   induction n with
   | zero=>intro l0 l1 v hn; cases l0 with
    | nil=>simp at hn
    | cons x xs=>simp [ns,uX]
   | succ n ih=>intro l0 l1 v hn; cases l0 with
    | nil=>simp at hn
    | cons x xs=>simp only [List.set_cons_succ]; rw [ns,ns]; rw [ih xs l1 v (by simpa using hn)]
  rw [<- key (off+k) cs.toList l v (by simpa using aI)];rw [Array.toList_setIfInBounds] at h1;exact h1
theorem H9 {ρ:Ren} {place:Nat->Option (Nat×Nat)} : ∀ {is:List Nat} {vs bw:List Value} {cells:List Value} {uz:Array Value} {r:List Value},cD ρ vs bw->cD ρ cells uz.toList->(∀ v∈vs,∀ c,v≠.chan c)->
  wi place cells (zipIdx is vs)=some r->is.length=vs.length->∃ r',Instr.fill place uz (is.zip bw)=some r'/\cD ρ r r'.toList
 | [],vs,bw,cells,uz,r,hv,hc,_,h,hl=>by
  have:vs = []:=by cases vs <;> simp_all
  subst this;simp [zipIdx,wi] at h;subst h;exact ⟨uz,rfl,hc⟩
 | i::is,[],bw,cells,uz,r,hv,hc,_,h,hl=>by simp at hl
 | i::is,v::vs,bw,cells,uz,r,hv,hc,hn,h,hl=>by
  obtain ⟨y,ys,rfl,hvy,TU⟩:=hv.cons_inv;simp only [zipIdx,wi] at h;cases hp:place i with
  | none=>rw [hp] at h; simp at h
  | some p=>
   obtain ⟨off,size⟩:=p;rw [hp] at h;simp only at h;cases hb:(Nat.beq v.cells.size size&&Nat.ble 1 size) with
   | false=>rw [hb] at h; simp at h
   | true=>
    rw [hb,ah] at h;obtain ⟨cs,h1,h2⟩:=aO.1 h;obtain ⟨u6,qg⟩:=Bool.and_eq_true_iff.1 hb;have cS:v.cells.size=size:=aE u6;have Aq:1<=size:=cL qg;have hvc:=hvy.cells (hn v (by simp));obtain ⟨b5,h3,h4⟩:=cD.write h1 hc hvc;have hys:y.cells.size=size:=by have:=hvc.length; simp at this; omega
    obtain ⟨_,jI,_⟩:=fG h3
    have hle:=jI (by intro e; have:y.cells.size=0:=by rw [<- Array.length_toList,e]; rfl
                     omega)
    simp at hle;obtain ⟨q,h5,h6⟩:=RE off y.cells.toList 0 uz (by simpa using hle);rw [p8] at h5;rw [h3] at h5;simp at h5;subst h5;obtain ⟨r',h7,h8⟩:=H9 (uz:=((y.cells.toList.zipIdx 0).foldl (fun cs (p:Value×Nat)=>cs.setIfInBounds (off+p.2) p.1) uz)) (is:=is) TU (by rw [h6]; exact h4) (fun v hv=>hn v (by simp [hv])) h2 (by simpa using hl);refine ⟨r',?_,h8⟩;simp only [List.zip_cons_cons,Instr.fill,hp,hys];rw [ae (by simp; omega)];have e:y.cells.zipIdx.foldl (fun cs (x:Value×Nat)=>cs.setIfInBounds (off+x.2) x.1) uz=((y.cells.toList.zipIdx 0).foldl (fun cs (p:Value×Nat)=>cs.setIfInBounds (off+p.2) p.1) uz):=by
     rw [<- Array.foldl_toList,Array.toList_zipIdx]
    rw [<- e] at h7;exact h7
theorem parts_eq (parts:Array (Nat×Operand)) (ev:Operand->Value):(parts.map fun (i,x)=>(i,ev x)).toList=(parts.toList.map (·.1)).zip ((parts.toList.map (·.2)).map ev):=by
 rw [Array.toList_map]
 induction parts.toList with
 | nil=>rfl
 | cons p l ih=>obtain ⟨i,x⟩:=p; simpa using ih
theorem TV {vs:List Value} (h:vs.all known=true):∀ v∈vs,∀ c,v≠.chan c:=by
 intro v hv c e;rw [dS] at h;have:=h v hv;subst e;simp [known] at this
theorem TW {t:TypeId} {z:Value} (h:tE P t=some z):∃ i,P.info? t=some i/\i.zero=some z:=by
 unfold tE at h;exact aO.1 h
theorem adn {t:TypeId} {n:Nat} (h:size? P t=some n):∃ i,P.info? t=some i/\i.size=n:=by
 unfold size? at h;exact aU.1 h
theorem C3 {ρ:Ren} {z:Value} (h:flat z=true):cD ρ z.cells.toList z.cells.toList:=
 (VR.of_flat h).cells (fun r e=>by subst e; simp [flat] at h)
theorem SH {ρ:Ren} {place:Nat->Option (Nat×Nat)} {z v:Value} {is:List Nat} {vs bw:List Value} (hv:cD ρ vs bw) (hl:is.length=vs.length) (h:xV place z is vs=some v) :
  ∃ r',Instr.fill place z.cells (is.zip bw)=some r'/\VR ρ v (.agg r'):=by
 unfold xV at h;cases hc:(flat z&&vs.all known) with
 | false=>rw [hc] at h; simp at h
 | true=>
  rw [hc,ah] at h;obtain ⟨h1,h2⟩:=Bool.and_eq_true_iff.1 hc;obtain ⟨r,h3,rfl⟩:=aU.1 h;obtain ⟨r',h4,h5⟩:=H9 hv (C3 h1) (TV h2) h3 hl;exact ⟨r',h4,by simp only [nt,VR]; exact ⟨r',tZ.2 h5,rfl⟩⟩
theorem agE {t:TypeId} {parts:Array (Nat×Operand)} (ho:o.op = .build t parts):fv P o (Eo P t (parts.toList.map (·.1)) (parts.toList.map (·.2))):=by
 have done:∀ (place:Nat->Option (Nat×Nat)) (z:Value),(∀ ps cells,Instr.fill place z.cells ps=some cells->P.built t ps=some cells)->
   fv P o (.pure (xV place z (parts.toList.map (·.1))) (parts.toList.map (·.2))):=by
  intro place z hb ρ ev ck v he hf;obtain ⟨r',h1,h2⟩:=SH he.map (by simp) hf;refine ⟨.agg r',h2,fun w=>?_⟩;have h3:=hb _ _ h1;have:=run_build (P:=P) w t (parts.map fun (i,x)=>(i,ck x)) r' (by rw [parts_eq]; exact h3);simp [execOp,ho,this]
 unfold Eo;split
 ·rename_i z fields hz hu
  split
  ·rename_i l hl
   obtain ⟨i,hi,hiz⟩:=TW hz;refine done _ _ fun ps cells h=>?_;unfold Program.built;unfold placesOf at hl;simp only [hi,hu,hiz,hl];have e:(fun x=>l.toArray[x]?)=NF l:=by funext x; simp [NF]
   rw [e];exact h
  ·trivial
 ·rename_i z n e hz hu
  split
  ·rename_i k hk
   obtain ⟨i,hi,hiz⟩:=TW hz;obtain ⟨j,hj,rfl⟩:=adn hk;refine done _ _ fun ps cells h=>?_;unfold Program.built;simp only [hi,hu,hiz,hj];exact h
  ·trivial
 ·trivial
theorem RF (z:List Value) (hz:1<=z.length):∀ (len i:Nat),(eK z len)[i]? = if i < len * z.length then z[i % z.length]? else none
 | 0,i=>by simp [eK]
 | len+1,i=>by
  simp only [eK,List.getElem?_append];split
  ·rename_i h
   rw [ax (by rw [Nat.succ_mul]; omega),Nat.mod_eq_of_lt h]
  ·rename_i h
   rw [RF z hz len (i - z.length)];rw [Nat.succ_mul];by_cases hc:i - z.length < len * z.length
   ·rw [ax hc,ax (by omega)]
    have:i % z.length=(i - z.length) % z.length:=Nat.mod_eq_sub_mod (by omega);rw [this]
   ·rw [ae hc,ae (by omega)]
theorem L9 (z:Array Value) (len:Nat) (hz:1<=z.size):(Array.range (len * z.size)).map (fun i=>z[i % z.size]!)=⟨eK z.toList len⟩:=by
 apply Array.ext';apply List.ext_getElem?;intro i;rw [RF z.toList (by simpa using hz)];simp only [Array.length_toList];rw [Array.toList_map,Array.toList_range,mg];by_cases h:i < len * z.size
 ·rw [ax h,List.getElem?_range h]
  have hm:i % z.size < z.size:=Nat.mod_lt _ hz;simp [hm]
 ·rw [ae h,List.getElem?_eq_none (by simp; omega)]
  rfl
theorem cD.repeat {ρ:Ren} {z z' : List Value} (h:cD ρ z z'):∀ n,cD ρ (eK z n) (eK z' n)
 | 0=>.nil
 | n+1=>h.append (cD.repeat h n)
theorem TX {t:TypeId} {len:Nat} {parts:Array (Nat×Operand)} (ho:o.op = .buildSlice t len parts):fv P o (rT P t len (parts.toList.map (·.1)) (parts.toList.map (·.2))):=by
 unfold rT;split
 ·rename_i e hu
  split
  ·rename_i n z hn hz
   cases hc:(Nat.ble (len * n) 16777216&&Nat.beq z.cells.size n&&Nat.ble 1 n&&flat z) with
   | false=>exact True.intro
   | true=>
    rw [ah];simp only [aj] at hc;obtain ⟨⟨⟨h1,h2⟩,h3⟩,h4⟩:=hc;have hle:len * n<=16777216:=cL h1;have YS:z.cells.size=n:=aE h2;have Aq:1<=n:=cL h3;intro ρ ev ck obj mk he hf;unfold od at hf;obtain ⟨l,hl,hf⟩:=aO.1 hf;cases hk:(l.all scalar&&((parts.toList.map (·.2)).map ev).all known) with
    | false=>rw [hk] at hf; simp at hf
    | true=>
     rw [hk,ah] at hf;obtain ⟨oj,KD⟩:=Bool.and_eq_true_iff.1 hk;simp only [aR,bG] at hf;obtain ⟨rfl,rfl⟩:=hf;have amL:=cD.repeat (C3 (ρ:=ρ) h4) len
     obtain ⟨r',h5,h6⟩:=H9 (uz:=⟨eK z.cells.toList len⟩) he.map amL (TV KD) hl (by simp);rw [dS] at oj;have hlen:l.length=len * n:=by
      have e1:∀ {is:List Nat} {vs cs r:List Value},wi (vC n) cs (zipIdx is vs)=some r->r.length=cs.length:=by
       intro is
       induction is with
       | nil=>intro vs cs r h; simp [zipIdx,wi] at h; subst h; rfl
       | cons i is ih=>
        intro vs cs r h;cases vs with
        | nil=>simp [zipIdx,wi] at h; subst h; rfl
        | cons v vs=>
         simp only [zipIdx,wi,vC] at h;cases hb:(Nat.beq v.cells.size n&&Nat.ble 1 n) with
         | false=>rw [hb] at h; simp at h
         | true=>
          rw [hb,ah] at h;obtain ⟨q,hq,h⟩:=aO.1 h;rw [ih h,(fG hq).1]
      rw [e1 hl];have e2:∀ (z:List Value) (k:Nat),(eK z k).length=k * z.length:=by
       intro z k
       induction k with
       | zero=>simp [eK]
       | succ k ih=>simp [eK,ih,Nat.succ_mul,Nat.add_comm]
      rw [e2];simp [YS]
     refine ⟨.cells r' e,fun b=>.slice (some ⟨b,0,none⟩) len len,⟨r',e,rfl,h6,oj⟩,fun w=>?_,fun ak m cb iZ=>?_⟩
     ·have e1:(Array.range (len * n)).map (fun i=>z.cells[i % z.cells.size]!)=⟨eK z.cells.toList len⟩:=by
       rw [<- YS]; exact L9 z.cells len (by omega)
      have e2:Instr.fill (fun i=>some (i * n,n)) ((Array.range (len * n)).map (fun i=>z.cells[i % z.cells.size]!)) (parts.map fun (i,x)=>(i,ck x)).toList=some r':=by
       rw [e1,parts_eq]; exact h5
      have amM : ¬ (2 ^ 24 < len * n):=by omega
      simp only [execOp,ho,Instr.buildSlice,Sem.run_bind,aV hu,fF,mj hn,gt_iff_lt];rw [ae amM];by_cases DM:len * n=0
      ·rw [DM] at e2
       have e5:∀ (f g:Nat->Value),(Array.range 0).map f=(Array.range 0).map g:=by intro f g; simp
       have e6:Instr.fill (fun i=>some (i * n,n)) ((Array.range 0).map (fun i=>z.cells[i % z.cells.size]!)) (Array.map (fun x=>(x.fst,ck x.snd)) parts).toList=some r':=e2;simp only [DM,if_true,pure_bind];rw [e5 _ (fun i=>z.cells[i % z.cells.size]!)];simp only [e6];simp [newRow]
      ·have e6:Instr.fill (fun i=>some (i * n,n)) ((Array.range (len * n)).map (fun i=>z.cells[i % z.cells.size]!)) (Array.map (fun x=>(x.fst,ck x.snd)) parts).toList=some r':=e2
       simp only [DM,if_false,bind_pure_comp,Sem.run_bind,JX hz,fF,Sem.run_pure];simp only [e6];simp [newRow]
     ·simp only [VR]
      refine ⟨trivial,ao _,_,⟨cb,0,none⟩,len,iZ,ao _,fun _=>by simp [qf],?_,rfl⟩;simp [qf,hlen]
  ·trivial
 ·trivial
theorem F9 {ρ:Ren} {a:Option Addr} {n c:Nat} {y:Value} (h:VR ρ (.slice a n c) y):∃ a' c',y = .slice a' n c':=by
 cases a with
 | none=>exact ⟨_,_,h.ff⟩
 | some a=>obtain ⟨_,_,_,a',c',_,_,_,_,h⟩:=h.iG; exact ⟨_,_,h⟩
theorem agF {argTypes:Array TypeId} {args:Array Operand} {t e:TypeId} (ho:o.op = .call ⟨.builtin .len,args,argTypes⟩) (pQ:argTypes[0]? = some t) (hu:P.underlying t=some (.slice e)):fv P o (.pure NG args.toList):=by
 intro ρ ev ck v he hf;have hm:=he.map;unfold NG at hf;split at hf
 ·rename_i a n c e1
  rw [e1] at hm;obtain ⟨y,ys,e2,h1,h2⟩:=hm.cons_inv;have h2:=h2.bz;subst h2;simp at hf; subst hf;refine ⟨_,VR.of_flat rfl,fun w=>?_⟩;obtain ⟨a',c',rfl⟩:=F9 h1;have e3:(args.map ck)[0]? = some (.slice a' n c'):=by rw [lM,e2]; rfl
  simp [execOp,ho,resolve,invoke,builtin,Builtin.len_,pQ,e3,aV hu,goInt]
 ·simp at hf
theorem ado {argTypes:Array TypeId} {args:Array Operand} {t:TypeId} (ho:o.op = .call ⟨.builtin .len,args,argTypes⟩) (pQ:argTypes[0]? = some t) (hu:P.underlying t=some .string):fv P o (.pure NH args.toList):=by
 intro ρ ev ck v he hf;have hm:=he.map;unfold NH at hf;split at hf
 ·rename_i s e1
  rw [e1] at hm;obtain ⟨y,ys,e2,h1,h2⟩:=hm.cons_inv;have h2:=h2.bz;subst h2;simp at hf; subst hf;refine ⟨_,VR.of_flat rfl,fun w=>?_⟩;have h1:=h1.nb;subst h1;have e3:(args.map ck)[0]? = some (.string s):=by rw [lM,e2]; rfl
  simp [execOp,ho,resolve,invoke,builtin,Builtin.len_,pQ,e3,aV hu,goInt]
 ·simp at hf
theorem Qb {ρ:Ren} {vs bw:List Value} {x x' : Value} {g:FuncId} {aob:List Value} (hx:VR ρ x x') (hv:cD ρ vs bw) (hg:Nat.blt g yB=true) (h:jd vs x=some (g,aob)) :
  ∃ first cap aoc,x' = .func (.func g) first cap/\aoc=first.toList++bw++cap.toList/\cD ρ aob aoc:=by
 unfold jd at h;split at h
 ·rename_i g' first cap
  cases hb:Nat.blt g' yB with
  | false=>rw [hb] at h; simp at h
  | true=>
   rw [hb,ah] at h;simp at h;obtain ⟨rfl,rfl⟩:=h;obtain ⟨f',c',tY,rfl,h1,h2,h3⟩:=hx.yb;have h3:tY = .func g':=h3;subst h3;exact ⟨f',c',_,rfl,rfl,by simpa using (h1.append hv).append h2⟩
 ·simp at h
  obtain ⟨rfl,_⟩:=h;rw [b8] at hg;exact absurd hg (Nat.not_lt.2 (Nat.le_add_right _ _))
 ·simp at h
theorem aia {c:Call} {f:Operand} (ho:o.op = .call c) (hf:c.callee = .value f):fv P o (.call f c.args.toList):=by
 refine ⟨fun ρ ev ck l he hy=>?_,?_⟩
 ·have hx:=he f (by simp)
  rw [hy] at hx;obtain ⟨f',c',tY,h1,h2,h3,loc,h4,h5⟩:=hx.yb;subst h5;have h2:=h2.bz;have h3:=h3.bz;have e1:f' = #[]:=by cases f'; simpa using h2
  have e2:c' = #[]:=by cases c'; simpa using h3
  subst e1; subst e2;refine ⟨loc,_,h4,he.tail.map,fun w=>?_⟩;have e:c.args.map ck=(c.args.toList.map ck).toArray:=by apply Array.ext'; simp
  simp only [execOp,ho,Sem.run_bind,resolve,hf,Deferred.ofValue,h1,Sem.run_pure,fF,invoke];simp [e]
 intro ρ ev ck g vs he hg Hd Qa;obtain ⟨first,cap,aoc,h1,h2,h3⟩:=Qb (he f (by simp)) he.tail.map hg Hd;obtain ⟨fn,h4,h5,h6⟩:=Qa;refine ⟨aoc,h3,fun w=>?_⟩;have hb:fn.body.isNone=false:=by simpa using h5
 have e:first++c.args.map ck++cap=aoc.toArray:=by
  apply Array.ext';simp [h2]
 have hh : ¬(fn.name = "runtime.NumGoroutine") := by simpa using h6
 simp only [execOp,ho,Sem.run_bind,resolve,hf,Deferred.ofValue,h1,Sem.run_pure,fF,invoke,callFunc,run_program,h4];simp [hh,hb,<- e]
end
end Go.aA
end
section
namespace Go.aA
open Go
section
variable {P:Program} {o:Oper}
theorem gW {ρ:Ren} {y y' : Nat} {v v' : Value} {r:Nat} (hv:VR ρ v v') (h:SD y v=some r) (hy:y<=y') :
  r<=y/\∀ code w,(Instr.sliceBound v' y' code).run P w = .ok r w:=by
 unfold SD at h;split at h
 ·rename_i k i
  obtain ⟨rfl,aI⟩:=sN h;have:=hv.bO;subst this;have hle:r<=y:=by omega
  refine ⟨hle,fun code w=>?_⟩;have:=run_sliceBound (P:=P) w k (r:Int) y' code (by omega) (by omega);simpa using this
 ·simp at h
theorem C4 {ρ:Ren} {ev ck:Operand->Value} {lo hi mx:Option Operand} {len cap TY l h m:Nat} (he:qK ρ ev ck (eh lo++eh hi++eh mx))
  (hb:pW len cap lo.isSome hi.isSome mx.isSome ((eh lo++eh hi++eh mx).map ev)=some (l,h,m)) (hc:cap<=TY) (AK:len<=cap) :
  l<=h/\h<=m/\m<=cap/\m<=(cond mx.isSome m TY)/\(cond mx.isSome m TY)<=TY/\(mx.isSome=false->m=cap)/\∀ b w,(Instr.sliceBounds b len TY (lo.map ck) (hi.map ck) (mx.map ck)).run P w = .ok (l,h,cond mx.isSome m TY) w:=by
 cases lo with
 | none=>
  cases hi with
  | none=>
   cases mx with
   | none=>
    simp [eh,pW] at hb;obtain ⟨rfl,rfl,rfl⟩:=hb;exact ⟨by omega,AK,ao _,hc,ao _,fun _=>rfl,fun b w=>by simp [Instr.sliceBounds]⟩
   | some x=>simp [eh,pW] at hb
  | some y=>
   cases mx with
   | none=>
    simp only [eh,Option.isSome,List.nil_append,n5,List.map,pW,aU] at hb;obtain ⟨r,hr,hb⟩:=hb;simp at hb;obtain ⟨rfl,rfl,rfl⟩:=hb;obtain ⟨h1,h2⟩:=gW (P:=P) (he y (by simp [eh])) hr hc;exact ⟨by omega,h1,ao _,hc,ao _,fun _=>rfl,fun b w=>by simp [Instr.sliceBounds,h2]⟩
   | some z=>
    simp only [eh,Option.isSome,List.nil_append,List.map,List.cons_append,pW,aO,aU] at hb;obtain ⟨r,hr,q,hq,hb⟩:=hb;simp at hb;obtain ⟨rfl,rfl,rfl⟩:=hb;obtain ⟨h1,h2⟩:=gW (P:=P) (he z (by simp [eh])) hr hc;obtain ⟨h3,h4⟩:=gW (P:=P) (he y (by simp [eh])) hq (ao _);exact ⟨by omega,h3,h1,ao _,by simp; omega,fun h=>by simp at h,fun b w=>by simp [Instr.sliceBounds,h2,h4]⟩
 | some x=>
  cases hi with
  | none=>
   cases mx with
   | none=>
    simp only [eh,Option.isSome,n5,List.map,pW,aU] at hb;obtain ⟨r,hr,hb⟩:=hb;simp at hb;obtain ⟨rfl,rfl,rfl⟩:=hb;obtain ⟨h1,h2⟩:=gW (P:=P) (he x (by simp [eh])) hr (ao _);exact ⟨h1,AK,ao _,hc,ao _,fun _=>rfl,fun b w=>by simp [Instr.sliceBounds,h2]⟩
   | some x=>simp [eh,pW] at hb
  | some y=>
   cases mx with
   | none=>
    simp only [eh,Option.isSome,n5,List.map,List.cons_append,List.nil_append,pW,aO,aU] at hb;obtain ⟨r,hr,q,hq,hb⟩:=hb;simp at hb;obtain ⟨rfl,rfl,rfl⟩:=hb;obtain ⟨h1,h2⟩:=gW (P:=P) (he y (by simp [eh])) hr hc;obtain ⟨h3,h4⟩:=gW (P:=P) (he x (by simp [eh])) hq (ao _);exact ⟨h3,h1,ao _,hc,ao _,fun _=>rfl,fun b w=>by simp [Instr.sliceBounds,h2,h4]⟩
   | some z=>
    simp only [eh,Option.isSome,List.map,List.cons_append,List.nil_append,pW,aO,aU] at hb;obtain ⟨r,hr,q,hq,s,hs,hb⟩:=hb;simp at hb;obtain ⟨rfl,rfl,rfl⟩:=hb;obtain ⟨h1,h2⟩:=gW (P:=P) (he z (by simp [eh])) hr hc;obtain ⟨h3,h4⟩:=gW (P:=P) (he y (by simp [eh])) hq (ao _);obtain ⟨h5,h6⟩:=gW (P:=P) (he x (by simp [eh])) hs (ao _);exact ⟨h5,h3,h1,ao _,by simp; omega,fun h=>by simp at h,fun b w=>by simp [Instr.sliceBounds,h2,h4,h6]⟩
theorem Ma {A:St} {b n:Nat} (h:sI A b n=true):∃ cs own aZ,A.get b=some (.row cs n own aZ):=by
 unfold sI at h;split at h
 ·rename_i cs aQ own aZ hg
  have:=aE h;subst this;exact ⟨cs,own,aZ,hg⟩
 ·simp at h
theorem ok_slice {t:TypeId} {x:Operand} {lo hi mx:Option Operand} (ho:o.op = .slice t x lo hi mx):fv P o (Et P t x lo hi mx):=by
 unfold Et;split
 ·rename_i e hu
  split
  ·rename_i n hn
   cases Aq:Nat.ble 1 n with
   | false=>exact True.intro
   | true=>
    rw [ah];have Aq:1<=n:=cL Aq;intro ρ A base w ev ck v hs he hf;have hx:=he x (by simp);have hsl:P.underlying t=some (.slice (P.elem t))->True:=fun _=>trivial;simp only [List.map,o7] at hf;split at hf
    ·rename_i len cap vs e1
     simp only [List.cons.injEq] at e1;obtain ⟨e1,e2⟩:=e1;rw [e1] at hx;have hx:=hx.ff;subst e2;obtain ⟨⟨l,h,m⟩,hb,rfl⟩:=aU.1 hf;by_cases AK:len<=cap
     ·obtain ⟨h1,h2,h3,h4,h5,h6,h7⟩:=C4 (P:=P) he.tail hb (ao _) AK
      have hm:cond mx.isSome m cap=m:=by cases SI:mx.isSome <;> simp; exact (h6 SI).symm
      refine ⟨.slice none (h - l) (m - l),by simp [VR],?_⟩;simp [execOp,ho,Instr.sliceAt,Instr.slice,aV hu,hx,h7,hm,mj hn]
     ·
      have key:∀ b w,(Instr.sliceBounds b len cap (lo.map ck) (hi.map ck) (mx.map ck)).run P w = .ok (l,h,m) w:=by
       intro b w;have aeT:cap<=len:=by omega
       cases lo with
       | none=>
        cases hi with
        | none=>
         cases mx with
         | none=>simp [eh,pW] at hb; obtain ⟨rfl,rfl,rfl⟩:=hb; simp [Instr.sliceBounds]
         | some x=>simp [eh,pW] at hb
        | some y=>
         cases mx with
         | none=>
          simp only [eh,Option.isSome,List.nil_append,n5,List.map,pW,aU] at hb;obtain ⟨r,hr,hb⟩:=hb;simp at hb;obtain ⟨rfl,rfl,rfl⟩:=hb;have:=(gW (P:=P) (he y (by simp [eh])) hr (ao _)).2;simp [Instr.sliceBounds,this]
         | some z=>
          simp only [eh,Option.isSome,List.nil_append,List.map,List.cons_append,pW,aO,aU] at hb;obtain ⟨r,hr,q,hq,hb⟩:=hb;simp at hb;obtain ⟨rfl,rfl,rfl⟩:=hb;have h2:=(gW (P:=P) (he z (by simp [eh])) hr (ao _)).2;have h4:=(gW (P:=P) (he y (by simp [eh])) hq (ao _)).2;simp [Instr.sliceBounds,h2,h4]
       | some x'=>
        cases hi with
        | none=>
         cases mx with
         | none=>
          simp only [eh,Option.isSome,n5,List.map,pW,aU] at hb;obtain ⟨r,hr,hb⟩:=hb;simp at hb;obtain ⟨rfl,rfl,rfl⟩:=hb;have:=(gW (P:=P) (he x' (by simp [eh])) hr (ao _)).2;simp [Instr.sliceBounds,this]
         | some x=>simp [eh,pW] at hb
        | some y=>
         cases mx with
         | none=>
          simp only [eh,Option.isSome,n5,List.map,List.cons_append,List.nil_append,pW,aO,aU] at hb;obtain ⟨r,hr,q,hq,hb⟩:=hb;simp at hb;obtain ⟨rfl,rfl,rfl⟩:=hb;have h2:=(gW (P:=P) (he y (by simp [eh])) hr (ao _)).2;have h4:=(gW (P:=P) (he x' (by simp [eh])) hq (ao _)).2;simp [Instr.sliceBounds,h2,h4]
         | some z=>
          simp only [eh,Option.isSome,List.map,List.cons_append,List.nil_append,pW,aO,aU] at hb;obtain ⟨r,hr,q,hq,s,NX,hb⟩:=hb;simp at hb;obtain ⟨rfl,rfl,rfl⟩:=hb;have h2:=(gW (P:=P) (he z (by simp [eh])) hr (ao _)).2;have h4:=(gW (P:=P) (he y (by simp [eh])) hq (ao _)).2;have h6:=(gW (P:=P) (he x' (by simp [eh])) NX (ao _)).2;simp [Instr.sliceBounds,h2,h4,h6]
      refine ⟨.slice none (h - l) (m - l),by simp [VR],?_⟩;simp [execOp,ho,Instr.sliceAt,Instr.slice,aV hu,hx,key,mj hn]
    ·rename_i a len cap vs e1
     simp only [List.cons.injEq] at e1;obtain ⟨e1,e2⟩:=e1;rw [e1] at hx;subst e2;obtain ⟨ua,AK,lc,a',c',hl,ri,BF,jI,h'⟩:=hx.iG;cases hg:(bH a&&sI A a.block n) with
     | false=>rw [hg] at hf; simp at hf
     | true=>
      rw [hg,ah] at hf;obtain ⟨_,NY⟩:=Bool.and_eq_true_iff.1 hg;obtain ⟨cs,own,aZ,dB⟩:=Ma NY;obtain ⟨l2,iM,ok⟩:=hs.row _ _ _ _ _ dB;rw [hl] at iM; simp at iM; subst iM;have Qc:lc.aQ=n:=ok.aQ;obtain ⟨⟨l,h,m⟩,hb,rfl⟩:=aU.1 hf;obtain ⟨h1,h2,h3,h4,h5,h6,h7⟩:=C4 (P:=P) he.tail hb ri AK;generalize AI:cond mx.isSome m c' = m' at h4 h5 h7;refine ⟨.slice (some (if m' = l then a' else a'.add (l * n))) (h - l) (m' - l),?_,?_⟩
      ·simp only [VR]
       refine ⟨trivial,by omega,lc,_,m' - l,hl,by omega,fun bA=>?_,?_,rfl⟩
       ·rw [ae (by omega),BF (by omega),jt]
        simp only [nD]
       ·rw [Qc]
        rw [Qc] at jI;have e5:l * n+(m' - l) * n=m' * n:=by rw [<- Nat.add_mul]; congr 1; omega
        have e6:m' * n<=c' * n:=Nat.mul_le_mul_right _ h5;omega
      ·simp only [execOp,ho,Instr.sliceAt,Instr.slice,Sem.run_bind,aV hu,fF,h',h7,mj hn]
       by_cases SJ:m' = l <;> simp [SJ]
    ·simp at hf
  ·trivial
 ·rename_i len e hu
  split
  ·rename_i n hn
   cases Aq:Nat.ble 1 n with
   | false=>exact True.intro
   | true=>
    rw [ah];intro ρ A base w ev ck v hs he hf;have hx:=he x (by simp);simp only [List.map,FU] at hf;split at hf
    ·rename_i a vs e1
     simp only [List.cons.injEq] at e1;obtain ⟨e1,e2⟩:=e1;rw [e1] at hx;subst e2;obtain ⟨ua,lc,hl,h'⟩:=hx.gh;cases hg:(bH a&&sI A a.block n&&Nat.ble (a.off+len * n) (rowLen A a.block)) with
     | false=>rw [hg] at hf; simp at hf
     | true=>
      rw [hg,ah] at hf;simp only [aj] at hg;obtain ⟨⟨_,NY⟩,hlen⟩:=hg;obtain ⟨cs,own,aZ,dB⟩:=Ma NY;obtain ⟨l2,iM,ok⟩:=hs.row _ _ _ _ _ dB;rw [hl] at iM; simp at iM; subst iM;have Qc:lc.aQ=n:=ok.aQ;have hlen:=cL hlen;have Ia:rowLen A a.block=cs.length:=by unfold rowLen; rw [dB]
      rw [Ia] at hlen;have hft:=ok.fits;obtain ⟨⟨l,h,m⟩,hb,rfl⟩:=aU.1 hf;obtain ⟨h1,h2,h3,h4,h5,h6,h7⟩:=C4 (P:=P) he.tail hb (ao _) (ao _);have hm:cond mx.isSome m len=m:=by cases SI:mx.isSome <;> simp; exact (h6 SI).symm
      rw [hm] at h7;refine ⟨.slice (some (if m=l then ⟨lc.cb,lc.cg+a.off,none⟩ else (⟨lc.cb,lc.cg+a.off,none⟩:Addr).add (l * n))) (h - l) (m - l),?_,?_⟩
      ·simp only [VR]
       refine ⟨trivial,by omega,lc,_,m - l,hl,ao _,fun bA=>?_,?_,rfl⟩
       ·rw [ae (by omega),jt]
        simp only [nD]
       ·rw [Qc]
        have e5:l * n+(m - l) * n=m * n:=by rw [<- Nat.add_mul]; congr 1; omega
        have e6:m * n<=len * n:=Nat.mul_le_mul_right _ h3;omega
      ·simp only [execOp,ho,Instr.sliceAt,Sem.run_bind,aV hu,fF,h',Instr.sureAddr,Sem.run_pure,h7,mj hn]
    ·simp at hf
  ·trivial
 ·rename_i hu
  cases SI:mx with
  | some z=>exact True.intro
  | none=>
   show fv P o (.pure (Bx lo.isSome hi.isSome) (x::(eh lo++eh hi)));intro ρ ev ck v he hf;have hx:=he x (by simp);simp only [List.map,Bx] at hf;split at hf
   ·rename_i s vs e1
    simp only [List.cons.injEq] at e1;obtain ⟨e1,e2⟩:=e1;rw [e1] at hx;have hx:=hx.nb;subst e2;obtain ⟨⟨l,h,m⟩,hb,rfl⟩:=aU.1 hf;have he' : qK ρ ev ck (eh lo++eh hi++eh (none:Option Operand)):=by simpa [eh] using he.tail
    obtain ⟨h1,h2,h3,h4,h5,h6,h7⟩:=C4 (P:=P) (mx:=none) he' (by simpa [eh] using hb) (ao _) (ao _);simp only [Option.isSome_none,ay,Option.map_none] at h7;refine ⟨.string (s.extract l h),?_,fun w=>?_⟩
    ·have e:(⟨⟨(s.data.toList.drop l).take (h - l)⟩⟩:ByteArray)=s.extract l h:=by
      apply ByteArray.ext;apply Array.ext';simp [ByteArray.data_extract,List.extract_eq_take_drop]
     rw [e];simp [VR]
    ·simp [execOp,ho,Instr.sliceAt,Instr.slice,aV hu,hx,SI,h7]
   ·simp at hf
 ·trivial
theorem WG {t:TypeId} {l c:Operand} (ho:o.op = .makeSlice t l c):fv P o (tU P t l c):=by
 unfold tU;split
 ·rename_i e hu
  split
  ·rename_i i hi
   split
   ·rename_i z hz
    cases hc:(Nat.ble 1 i.size&&Nat.ble 1 i.bytes&&Nat.beq z.cells.size i.size&&flat z&&z.cells.toList.all scalar) with
    | false=>exact True.intro
    | true=>
     rw [ah];simp only [aj] at hc;obtain ⟨⟨⟨⟨h1,h2⟩,h3⟩,h4⟩,h5⟩:=hc;have hn:1<=i.size:=cL h1;have hb:1<=i.bytes:=cL h2;have YS:z.cells.size=i.size:=aE h3;rw [dS] at h5;intro ρ ev ck obj mk he hf;simp only [List.map,y4] at hf;split at hf
     ·rename_i k1 l0 k2 c0 e1
      simp only [List.cons.injEq,and_true] at e1;cases hk:(Nat.ble l0 c0&&Nat.ble (i.bytes * c0) 281474976710656) with
      | false=>rw [hk] at hf; simp at hf
      | true=>
       rw [hk,ah] at hf;obtain ⟨oj,KD⟩:=Bool.and_eq_true_iff.1 hk;have hle:l0<=c0:=cL oj;have SK:i.bytes * c0<=281474976710656:=cL KD;simp only [aR,bG] at hf;obtain ⟨rfl,rfl⟩:=hf;have hl:=he l (by simp);have ri:=he c (by simp);rw [e1.1] at hl;rw [e1.2] at ri;have hl:=hl.bO;have ri:=ri.bO;have e2:madeCells z.cells (c0 * i.size)=⟨eK z.cells.toList c0⟩:=by
        unfold madeCells;rw [<- YS];exact L9 z.cells c0 (by omega)
       have hc0:c0<=i.bytes * c0:=Nat.le_mul_of_pos_left _ hb;have amN:∀ (z:List Value) (k:Nat),(eK z k).length=k * z.length:=by
        intro z k
        induction k with
        | zero=>simp [eK]
        | succ k ih=>simp [eK,ih,Nat.succ_mul,Nat.add_comm]
       have amO:∀ (z:List Value) (k:Nat) (v:Value),v∈eK z k->v∈z:=by
        intro z k v
        induction k with
        | zero=>simp [eK]
        | succ k ih=>simp only [eK,eP]; exact fun h=>h.elim id ih
       refine ⟨.cells ⟨eK z.cells.toList c0⟩ e,fun b=>.slice (some ⟨b,0,none⟩) l0 c0,⟨_,e,rfl,cD.repeat (C3 h4) c0,fun v hv=>h5 v (amO _ _ _ hv)⟩,fun w=>?_,fun ak n cb iZ=>?_⟩
       ·have hr:=run_make (P:=P) w t e i z hu hi hz k1 k2 (l0:Int) (c0:Int) (by omega) (by omega) (by rw [<- Int.natCast_mul]; exact Int.ofNat_le.2 SK) (by omega)
        have iL:ck l = .int k1 (l0:Int):=hl;have TZ:ck c = .int k2 (c0:Int):=ri;simp only [tD,e2] at hr;simp [execOp,ho,iL,TZ,hr]
       ·simp only [VR]
        refine ⟨trivial,hle,_,⟨cb,0,none⟩,c0,iZ,ao _,fun _=>rfl,?_,rfl⟩;show 0+0+c0 * i.size<=(eK z.cells.toList c0).length;rw [amN];simp [YS]
     ·simp at hf
   ·trivial
  ·trivial
 ·trivial
theorem agG {t:TypeId} {x:Operand} (ho:o.op = .makeInterface t x):fv P o (P0 P t x):=by
 unfold P0;split
 ·trivial
 ·rename_i d hu hd
  intro ρ ev ck v he hf;simp [aeH] at hf;subst hf;refine ⟨.iface t (ck x),by simp only [VR]; exact ⟨_,he x (by simp),rfl⟩,fun w=>?_⟩;simp only [execOp,ho,Instr.makeInterface,Sem.run_bind,aV hd,fF];cases d <;> first | rfl | exact absurd rfl (hu _)
 ·trivial
theorem NZ {ρ:Ren} {s:List Value->Sem Value} {vs bw:List Value} {v:Value} (hv:cD ρ vs bw) (h:FT P s vs=some v):VR ρ v v/\∀ w,(s bw).run P w = .ok v w:=by
 unfold FT at h;cases hf:nL vs with
 | false=>rw [hf] at h; simp at h
 | true=>
  rw [hf,ah] at h;obtain ⟨u,hu,h⟩:=aO.1 h;cases hfu:flat u with
  | false=>rw [hfu] at h; simp at h
  | true=>
   rw [hfu] at h;simp at h;subst h;rw [cD.jZ hf hv];exact ⟨VR.of_flat hfu,fun w=>eQ hu w⟩
theorem akh {argTypes:Array TypeId} {args:Array Operand} (ho:o.op = .call ⟨.builtin .min,args,argTypes⟩):fv P o (.pure (FT P fun vs=>Builtin.min_ #[] 0 ⟨vs⟩) args.toList):=by
 intro ρ ev ck v he hf;obtain ⟨h1,h2⟩:=NZ he.map hf;refine ⟨v,h1,fun w=>?_⟩;have h3:=h2 w;simp only [Builtin.min_] at h3;simp only [execOp,ho,resolve,Sem.run_bind,Sem.run_pure,fF,invoke,builtin,Builtin.min_,lM];simp only [h3,fF]
theorem aki {argTypes:Array TypeId} {args:Array Operand} (ho:o.op = .call ⟨.builtin .max,args,argTypes⟩):fv P o (.pure (FT P fun vs=>Builtin.max_ #[] 0 ⟨vs⟩) args.toList):=by
 intro ρ ev ck v he hf;obtain ⟨h1,h2⟩:=NZ he.map hf;refine ⟨v,h1,fun w=>?_⟩;have h3:=h2 w;simp only [Builtin.max_] at h3;simp only [execOp,ho,resolve,Sem.run_bind,Sem.run_pure,fF,invoke,builtin,Builtin.max_,lM];simp only [h3,fF]
theorem RG {ρ:Ren} {x x' : Value} {k:Nat} (hx:VR ρ x x') (h:Rx x=some k):Builtin.lenOf x' = Sem.pure k:=by
 unfold Rx at h;split at h
 ·obtain ⟨a',c',rfl⟩:=F9 hx
  simp at h; subst h; rfl
 ·have:=hx.nb
  subst this;simp at h; subst h; rfl
 ·simp at h
theorem yO {ρ:Ren} {A:St} {base:Nat} {w:World} {n k:Nat} {x x' : Value} {new:List Value} (hs:Rel ρ A.get A.members base w) (hx:VR ρ x x') (h:sJ A n k x=some new)
  (hk:∀ m,Rx x=some m->k<=m) (hn:1<=n):∃ bJ,cD ρ new bJ/\(∀ v∈new,scalar v=true)/\new.length=k * n/\(Builtin.firstCells n k x').run P w = .ok bJ.toArray w:=by
 unfold sJ at h;split at h
 ·rename_i a len cap
  obtain ⟨ua,AK,lc,a',c',hl,ri,BF,jI,rfl⟩:=hx.iG;have hkl:=hk len rfl;obtain ⟨b5,h1,h2,h3,h4⟩:=sM (P:=P) hs h hl;refine ⟨b5,h1,h3,h2,?_⟩;simp only [Builtin.firstCells];by_cases hc:c' = 0
  ·have oJ:k=0:=by omega
   subst oJ;have mi:new = []:=by rw [Nat.zero_mul] at h2; exact List.eq_nil_of_length_eq_zero h2
   subst mi;rw [h1.bz,Nat.zero_mul];exact run_loadCells_list w a' [] (by simp)
  ·rw [BF hc]; exact h4
 ·rename_i len cap
  have:=hx.ff;subst this;cases hb:Nat.beq k 0 with
  | false=>rw [hb] at h; simp at h
  | true=>
   rw [hb] at h;simp at h;subst h;have oJ:=aE hb;subst oJ;exact ⟨[],.nil,by simp,by simp,run_firstCells_none w n 0 len cap⟩
 ·rename_i s
  have:=hx.nb;subst this;cases hb:Nat.beq n 1 with
  | false=>rw [hb] at h; simp at h
  | true=>
   rw [hb] at h;simp at h;have Qd:=aE hb;subst Qd;have oK:=hk s.size rfl;have cS:s.data.size=s.size:=rfl;have fl:∀ l:List UInt8,cD ρ (l.map fun b=>Value.int .u8 b.toNat) (l.map fun b=>Value.int .u8 b.toNat):=by
    intro l
    induction l with
    | nil=>exact .nil
    | cons x l ih=>exact .cons (by simp [VR]) ih
   subst h;refine ⟨((s.data.toList.take k).map fun b=>.int .u8 b.toNat),by simpa using fl (s.data.toList.take k),?_,?_,?_⟩
   ·intro v hv
    obtain ⟨b,_,rfl⟩:=ur.1 (by first | exact hv | exact List.mem_of_mem_take hv);rfl
   ·simp; omega
   ·simp only [Builtin.firstCells]
    rw [Sem.run_pure];congr 1;apply Array.ext';simp [ByteArray.data_extract,List.extract_eq_take_drop]
 ·simp at h
theorem sP (t u ty e:TypeId) (i:TypeInfo) (ht:P.underlying t=some (.slice e)) (hi:P.info? e=some i) (hu:BA P u=true) (base:Option Addr) (cr jU:Nat) (x:Value) (n:Nat) (news:List Value)
  (hlen:Builtin.lenOf x=Sem.pure n) (w:World) (uA:(Builtin.firstCells i.size n x).run P w = .ok news.toArray w) (la:cr+n<=jU) :
  (Builtin.append_ #[t,u] ty #[.slice base cr jU,x]).run P w=(((match base with | some a=>storeCells (a.add (cr * i.size)) news | none=>pure ():Sem Unit).run P w).andThen fun _ w=>.ok (.slice base (cr+n) jU) w):=by
 have hk:(∃ e',P.underlying u=some (.slice e'))\/P.underlying u=some .string:=by
  unfold BA at hu;split at hu
  ·rename_i e' h; exact .inl ⟨_,h⟩
  ·rename_i h; exact .inr h
  ·simp at hu
 rcases hk with ⟨e',hk⟩ | hk <;> cases base <;> simp [Builtin.append_,aV ht,aV hk,sizeOf,typeInfo,hi,hlen,la,uA]
theorem Qe (t u ty e:TypeId) (i:TypeInfo) (z:Value) (ht:P.underlying t=some (.slice e)) (hi:P.info? e=some i) (hz:i.zero=some z) (hu:BA P u=true) (base:Option Addr) (cr jU:Nat)
  (x:Value) (n:Nat) (RH news:List Value) (hlen:Builtin.lenOf x=Sem.pure n) (w:World) (hold:(Builtin.firstCells i.size cr (.slice base cr jU)).run P w.drew = .ok RH.toArray w.drew)
  (uA:(Builtin.firstCells i.size n x).run P w.drew = .ok news.toArray w.drew) (hg:jU < cr+n) (h63:cr+n<=17592186044416) (jI:Builtin.nextslicecap (cr+n) jU * i.bytes<=281474976710656) :
  (Builtin.append_ #[t,u] ty #[.slice base cr jU,x]).run P w =
   .ok (.slice (some ⟨w.heap.size,0,none⟩) (cr+n) (grownCap w (cr+n) jU e))
    (w.drew.alloc (.cells ((RH++news).toArray++Builtin.zeroCells z.cells (grownCap w (cr+n) jU e - (cr+n))) e)):=by
 have hk:(∃ e',P.underlying u=some (.slice e'))\/P.underlying u=some .string:=by
  unfold BA at hu;split at hu
  ·rename_i e' h; exact .inl ⟨_,h⟩
  ·rename_i h; exact .inr h
  ·simp at hu
 have hn : ¬ (cr+n<=jU):=by omega
 have amP : ¬ (9223372036854775807 < ((cr:Int)+(n:Int))):=by omega
 have amQ : ¬ (281474976710656 < Builtin.nextslicecap (cr+n) jU * i.bytes):=by omega
 rcases hk with ⟨e',hk⟩ | hk <;>
  (simp [Builtin.append_,aV ht,aV hk,sizeOf,typeInfo,zeroValue,hi,hz,hlen,hn,amP,amQ,Question.forced,uA,hold,newRow,grownCap]
   congr 2;apply Array.ext';simp [JO])
theorem Mb {ρ:Ren} {A:St} {base:Nat} {w:World} (hs:iv ρ A base w) (b lo hi:Nat) (L:List Nat):cq base ρ A w ρ (A.kill b lo hi L) w:=by
 obtain ⟨AL,iM⟩:=EP b lo hi L A;have DJ:∀ x o,(A.kill b lo hi L).get x=some o->o≠.dead->A.get x=some o:=by
  intro x o hx hd;rw [x7] at hx;split at hx
  ·simp at hx; exact absurd hx.symm hd
  ·exact hx
 have hm:∀ o:aY,o.ct=true->o≠.dead:=by intro o h e; subst e; simp [aY.ct] at h
 refine ⟨⟨.qe (fun x o hx hd=>hs.rel.obj (DJ x o hx hd) hd) (fun b1 b2 o1 o2 l1 l2 bA g1 g2 m1 m2=>hs.rel.apart b1 b2 o1 o2 l1 l2 bA (DJ _ _ g1 (hm _ m1)) (DJ _ _ g2 (hm _ m2)) m1 m2) (fun x o aF f hx hk=>?_),fun x l h=>?_,hs.size,hs.lK⟩,
  fun _ _=>rfl,.refl _ _ _,by simp,AL,fun x _ hx=>?_,fun k _ h=>?_⟩
 ·rw [DI]; exact hs.rel.aX x o aF f (DJ x o hx (by intro e; subst e; simp [aY.hO] at hk)) hk
 ·rw [F5]; exact hs.fZ x l h
 ·cases Classical.em ((A.kill b lo hi L).get x=A.get x) with
  | inl h=>exact h
  | inr h=>have:=iM x h; omega
 ·obtain ⟨x,o,l,hx,AI,hr,e⟩:=h
  exact ⟨x,o,l,DJ x o hx (hm _ AI),AI,hr,e⟩
theorem ET (A:St) (aF f:Nat) (cs:List Value) (n x:Nat):(A.grow aF f cs n).get x=if x=A.next then some (.row cs n true (some (aF,f))) else A.get x:=by
 simp [St.grow]
theorem ub (A:St) (aF f:Nat) (cs:List Value) (n g:Nat):(A.grow aF f cs n).members g=if g=aF then A.next::A.members aF else A.members g:=by
 simp only [St.grow,St.yM,St.j3]
theorem Ib {ρ:Ren} {A:St} {base:Nat} {w:World} {cs b5:List Value} {c:Array Value} {n aF f:Nat} (T:TypeId) (hs:iv ρ A base w) (hc:cD ρ cs b5) (h1:∀ v∈cs,scalar v=true)
  (Lf:∀ (j:Nat) (v:Value),b5[j]? = some v->c[j]? = some v) (cS:cs.length<=c.size) :
  cq base ρ A w (ρ.set A.next ⟨w.heap.size,0,c.size,n⟩) (A.grow aF f cs n) (w.alloc (.cells c T)):=by
 refine x9 (o:=.row cs n true (some (aF,f))) hs (fun x=>ET _ _ _ _ _ _) (fun g x h=>?_) (fun g f' h=>?_) (by simp [St.grow]) (by simp [St.grow]) (fun x hx _=>by rw [ET,ae (by omega)]) rfl ?_
 ·rw [ub]; split
  ·rename_i e; subst e; simp [h]
  ·exact h
 ·simp [aY.hO] at h; rw [ub,h.1]; simp
 ·refine ⟨fun i v hi=>?_,fun h=>by simp at h,fun _=>hs.size,fun _ j hj=>?_,by simpa using cS,fun _ h=>by simp at h,rfl,by simp,fun _ _ j=>by simp only; rw [World.frozen?_alloc_new]⟩
  ·obtain ⟨v',h2,h3⟩:=hc.get hi
   refine ⟨v',?_,h3.mono (hs.uy _),h1 v (eW hi)⟩;rw [bF,World.cell?_alloc_new];exact Lf i v' h2
  ·simp only at hj ⊢
   rw [World.cell?_alloc_new,World.frozen?_alloc_new];refine ⟨?_,rfl⟩;rw [Array.getElem?_eq_getElem (by omega)];rfl
theorem N3 {ρ:Ren} {A:St} {base:Nat} {w:World} {b fQ s aQ aF f:Nat} {cs eD jJ new bJ:List Value} {l:Loc}
  (hs:iv ρ A base w) (hg:A.get b=some (.row cs aQ true (some (aF,f)))) (iZ:ρ b=some l)
  (hold:cD ρ eD jJ) (ho1:∀ v∈eD,scalar v=true) (Mc:eD.length=s) (hoc:∀ j v',jJ[j]? = some v'->w.cell? ⟨l.cb,l.cg+fQ+j,none⟩=some v')
  (mi:cD ρ new bJ) (Qd:∀ v∈new,scalar v=true) (jI:l.cg+fQ+s+new.length<=l.rV) :
  cq base ρ A w (ρ.set A.next ⟨l.cb,l.cg+fQ,l.rV,aQ⟩) ((A.kill A.next (f+(fQ+s)) (f+(fQ+s)+new.length) (A.members aF)).grow aF (f+fQ) (eD++new) aQ) (w.setCells l.cb (l.cg+fQ+s) bJ):=by
 obtain ⟨l',iL,ok⟩:=hs.rel.row _ _ _ _ _ hg;rw [iZ] at iL; simp at iL; subst iL;have CN:bJ.length=new.length:=mi.length;have hovl:jJ.length=s:=by rw [hold.length,Mc]
 have DN:b < A.next:=hs.fZ b l iZ;have JV:aY.ct (.row cs aQ true (some (aF,f)))=true:=rfl;have hB:∀ x,((A.kill A.next (f+(fQ+s)) (f+(fQ+s)+new.length) (A.members aF)).grow aF (f+fQ) (eD++new) aQ).get x =
   if x=A.next then some (.row (eD++new) aQ true (some (aF,f+fQ))) else (A.kill A.next (f+(fQ+s)) (f+(fQ+s)+new.length) (A.members aF)).get x:=by
  intro x; rw [ET,F5]
 have hBm:∀ g,((A.kill A.next (f+(fQ+s)) (f+(fQ+s)+new.length) (A.members aF)).grow aF (f+fQ) (eD++new) aQ).members g=if g=aF then A.next::A.members aF else A.members g:=by
  intro g; rw [ub,F5,DI]
 have hBn:((A.kill A.next (f+(fQ+s)) (f+(fQ+s)+new.length) (A.members aF)).grow aF (f+fQ) (eD++new) aQ).next=A.next+1:=by
  simp [St.grow]
 have hkl:=EP A.next (f+(fQ+s)) (f+(fQ+s)+new.length) (A.members aF) A;have hBl:((A.kill A.next (f+(fQ+s)) (f+(fQ+s)+new.length) (A.members aF)).grow aF (f+fQ) (eD++new) aQ).low=(A.kill A.next (f+(fQ+s)) (f+(fQ+s)+new.length) (A.members aF)).low:=rfl;have hAK:∀ x,x≠A.next->(A.kill A.next (f+(fQ+s)) (f+(fQ+s)+new.length) (A.members aF)).get x=if x∈A.members aF/\np (A.get x) (f+(fQ+s)) (f+(fQ+s)+new.length)=true then some .dead else A.get x:=by
  intro x hx; rw [x7]; simp [hx]
 generalize ((A.kill A.next (f+(fQ+s)) (f+(fQ+s)+new.length) (A.members aF)).grow aF (f+fQ) (eD++new) aQ)=B at hB hBm hBn hBl;generalize (A.kill A.next (f+(fQ+s)) (f+(fQ+s)+new.length) (A.members aF))=K at hB hBl hkl hAK;have hle:=hs.uy (⟨l.cb,l.cg+fQ,l.rV,aQ⟩:Loc);have mh:∀ x o,x≠A.next->B.get x=some o->o≠.dead->A.get x=some o/\(x∈A.members aF->np (some o) (f+(fQ+s)) (f+(fQ+s)+new.length)=false):=by
  intro x o hx ho hd;rw [hB,ae hx,hAK x hx] at ho;split at ho
  ·simp at ho; exact absurd ho.symm hd
  ·rename_i hc
   refine ⟨ho,fun hm=>?_⟩;rw [<- ho];cases eZ:np (A.get x) (f+(fQ+s)) (f+(fQ+s)+new.length) with
   | false=>rfl
   | true=>exact absurd ⟨hm,eZ⟩ hc
 have k8:∀ x:Addr,(x.block=l.cb->x.spot=none->x.off < l.cg+fQ+s\/l.cg+fQ+s+bJ.length<=x.off)->(w.setCells l.cb (l.cg+fQ+s) bJ).cell? x=w.cell? x:=
  fun x h=>World.cell?_setCells_out _ _ _ _ _ h
 have TS:∀ x,((w.setCells l.cb (l.cg+fQ+s) bJ).cell? x).isSome=(w.cell? x).isSome:=fun x=>sL _ _ _ _ _;have x8:∀ x,(w.setCells l.cb (l.cg+fQ+s) bJ).frozen? x=w.frozen? x:=fun x=>World.frozen?_setCells _ _ _ _ _;have cS:(w.setCells l.cb (l.cg+fQ+s) bJ).heap.size=w.heap.size:=BC _ _ _ _;have hmd:∀ o:aY,o.ct=true->o≠.dead:=by intro o h e; subst e; simp [aY.ct] at h
 have rW:∀ x o l2,A.get x=some o->o.ct=true->ρ x=some l2->l2.cb=l.cb->∃ f2,o.hO=some (aF,f2)/\l2.cg+f=l.cg+f2:=by
  intro x o l2 hx hm hr vW;by_cases NV:x=b
  ·subst NV
   rw [hg] at hx; simp at hx; subst hx;rw [iZ] at hr; simp at hr; subst hr;exact ⟨f,rfl,rfl⟩
  ·obtain ⟨g,f1,f2,e1,e2,e3⟩:=hs.rel.apart x b _ _ l2 l NV hx hg hm JV hr iZ vW
   simp [aY.hO] at e2;obtain ⟨rfl,rfl⟩:=e2;exact ⟨f1,e1,e3⟩
 have C0:∀ x iw e2 C1 oi l2,x≠A.next->B.get x=some (.row iw e2 C1 oi)->ρ x=some l2->lL ρ base w l2 iw e2 C1 oi->∀ i,i < iw.length->
   (w.setCells l.cb (l.cg+fQ+s) bJ).cell? ⟨l2.cb,l2.cg+i,none⟩=w.cell? ⟨l2.cb,l2.cg+i,none⟩:=by
  intro x iw e2 C1 oi l2 hx eV ah5 fP i hi;refine k8 _ (fun YM _=>?_);simp only at YM ⊢;obtain ⟨hA,eZ⟩:=mh x _ hx eV (by simp);cases C1 with
  | false=>have h3:=fP.nu rfl; have h4:=ok.ct rfl; omega
  | true=>
   obtain ⟨f2,e1,e3⟩:=rW x _ l2 hA rfl ah5 YM;simp only [aY.hO] at e1;subst e1;have hm:=hs.rel.aX x _ aF f2 hA rfl;have:=NT rfl (eZ hm);rw [CN];omega
 refine ⟨⟨.qe ?_ ?_ ?_,?_,?_,hs.lK.mono (hs.uy _)⟩,?_,⟨(qd _ _ _ _).1,(qd _ _ _ _).2.1,(qd _ _ _ _).2.2,Nat.le_of_eq cS.symm,?_⟩,?_,?_,?_,?_⟩
 ·intro x o eV hd
  by_cases hx:x=A.next
  ·subst hx
   rw [hB,ax rfl] at eV;simp at eV;subst eV;refine ⟨_,Ren.dj _ _ _,fun i v hi=>?_,fun h=>by simp at h,fun _=>ok.ct rfl,fun _ j hj=>?_,?_,fun _ h=>by simp at h,rfl,by rw [cS]; exact ok.gF,fun _ h2 j=>by rw [x8]; exact ok.mark rfl (by rw [ok.aQ]; exact h2) j⟩
   ·have gV:cD ρ (eD++new) (jJ++bJ):=hold.append mi
    obtain ⟨v',h2,h3⟩:=gV.get hi;refine ⟨v',?_,h3.mono hle,?_⟩
    ·rw [List.getElem?_append] at h2
     split at h2
     ·rename_i aI
      rw [k8 _ (fun _ _=>by simp only; omega)];exact hoc i v' h2
     ·rename_i Md
      have aI:i - jJ.length < bJ.length:=(cp.1 h2).1;have:=World.cell?_setCells_in l.cb bJ (l.cg+fQ+s) w (fun j hj=>(ok.there rfl (l.cg+fQ+s+j) (by rw [CN] at hj; omega)).1) (i - jJ.length) aI;have e:l.cg+fQ+s+(i - jJ.length)=l.cg+fQ+i:=by omega
      rw [e] at this;rw [cl aI] at h2;exact this.trans h2
    ·rcases eP.1 (eW hi) with h | h
     ·exact ho1 v h
     ·exact Qd v h
   ·rw [TS,x8]; exact ok.there rfl j hj
   ·simp only [fE,Mc]; omega
  ·obtain ⟨hA,eZ⟩:=mh x o hx eV hd
   obtain ⟨l2,pR,fP⟩:=hs.rel.obj hA hd;refine ⟨l2,hle _ _ pR,?_⟩;cases o with
   | row iw e2 C1 oi=>
    have fP:lL ρ base w l2 iw e2 C1 oi:=fP;refine ⟨fun i v hi=>?_,fP.nu,fP.ct,fun h j hj=>?_,fP.fits,fP.ends,fP.aQ,by rw [cS]; exact fP.gF,fun h1 h2 j=>by rw [x8]; exact fP.mark h1 h2 j⟩
    ·obtain ⟨v',h3,h4,h5⟩:=fP.cells i v hi
     exact ⟨v',by rw [C0 x _ _ _ _ l2 hx eV pR fP i (cp.1 hi).1]; exact h3,h4.mono hle,h5⟩
    ·rw [TS,x8]; exact fP.there h j hj
   | map es=>
    have fP:L7 ρ base w l2 es:=fP;obtain ⟨aP,clock,h3,h4⟩:=fP.gF;refine ⟨fP.ct,aP,clock,?_,h4.mono hle⟩;rw [j4]
    ·exact h3
    ·intro e
     obtain ⟨_,e1,_⟩:=rW x _ l2 hA rfl pR e;simp [aY.hO] at e1
   | iter st pos=>
    have fP:NQ base w l2 st pos:=fP;refine ⟨fP.ct,fP.gF.1,?_⟩;rw [j4]
    ·exact fP.gF.2
    ·intro e
     obtain ⟨_,e1,_⟩:=rW x _ l2 hA rfl pR e;simp [aY.hO] at e1
   | dead=>exact absurd rfl hd
   | loop st0 e0 t0 ps0 a0 c0=>
    have fP:CZ ρ base w l2 st0 e0 t0 ps0 a0 c0:=fP;obtain ⟨fn,tmps,D,N,h3,h4⟩:=fP.gF;refine ⟨fP.ct,fn,tmps,D,N,?_,h4.mono hle⟩;rw [j4]
    ·exact h3
    ·intro e
     obtain ⟨_,e1,_⟩:=rW x _ l2 hA rfl pR e;simp [aY.hO] at e1
 ·intro b1 b2 o1 o2 l1 l2 bA g1 g2 m1 m2 r1 r2 vW
  by_cases e1:b1=A.next
  ·have e2:b2≠A.next:=fun e=>bA (e1.trans e.symm)
   subst e1;rw [hB,ax rfl] at g1;simp at g1; subst g1;rw [Ren.dj] at r1; simp at r1; subst r1;rw [Ren.cX _ _ e2] at r2;obtain ⟨hA,_⟩:=mh b2 o2 e2 g2 (hmd _ m2);obtain ⟨f2,k1,k2⟩:=rW b2 o2 l2 hA m2 r2 vW.symm;exact ⟨aF,f+fQ,f2,rfl,k1,by simp only; omega⟩
  ·rw [Ren.cX _ _ e1] at r1
   obtain ⟨hA1,_⟩:=mh b1 o1 e1 g1 (hmd _ m1);by_cases e2:b2=A.next
   ·subst e2
    rw [hB,ax rfl] at g2;simp at g2; subst g2;rw [Ren.dj] at r2; simp at r2; subst r2;obtain ⟨f2,k1,k2⟩:=rW b1 o1 l1 hA1 m1 r1 vW;exact ⟨aF,f2,f+fQ,k1,rfl,by simp only; omega⟩
   ·rw [Ren.cX _ _ e2] at r2
    obtain ⟨hA2,_⟩:=mh b2 o2 e2 g2 (hmd _ m2);exact hs.rel.apart b1 b2 o1 o2 l1 l2 bA hA1 hA2 m1 m2 r1 r2 vW
 ·intro x o g fx hx hk
  rw [hBm];by_cases e:x=A.next
  ·subst e
   rw [hB,ax rfl] at hx;simp at hx; subst hx;simp [aY.hO] at hk;rw [ax hk.1.symm];simp
  ·have:=hs.rel.aX x o g fx (mh x o e hx (by intro e; subst e; simp [aY.hO] at hk)).1 hk
   split
   ·rename_i e2; subst e2; simp [this]
   ·exact this
 ·intro x l2 h
  rw [hBn];by_cases e:x=A.next
  ·omega
  ·rw [Ren.cX _ _ e] at h; have:=hs.fZ x l2 h; omega
 ·rw [cS]; exact hs.size
 ·intro x hx; exact Ren.cX _ _ (by omega)
 ·intro k hk hn
  exact j4 _ (fun e=>hn ⟨b,_,l,hg,rfl,iZ,e.symm⟩) _ _ _
 ·omega
 ·rw [hBl]; exact hkl.1
 ·intro x hx hxl
  rw [hB,ae (by omega)];cases Classical.em (K.get x=A.get x) with
  | inl h=>exact h
  | inr h=>have:=hkl.2 x h; omega
 ·rintro k hk ⟨x,o,l2,hx,hm,hr,rfl⟩
  by_cases e:x=A.next
  ·subst e
   rw [Ren.dj] at hr; simp at hr; subst hr;exact ⟨b,_,l,hg,rfl,iZ,rfl⟩
  ·rw [Ren.cX _ _ e] at hr
   exact ⟨x,o,l2,(mh x o e hx (hmd _ hm)).1,hm,hr,rfl⟩
theorem Qf {a:Addr} (h:bH a=true):a.spot=none:=by
 unfold bH at h;simpa using h
theorem SL (w:World) (a:Addr) (n:Nat) (cs:List Value) (h:∀ j,j < n->(w.cell? (a.add j)).isSome=true) (hr:(loadCells a n).run P w = .ok cs.toArray w) (j:Nat) (v:Value) (hj:cs[j]? = some v) :
  w.cell? (a.add j)=some v:=by
 have h1:=run_loadCells (P:=P) w a n (fun j=>(w.cell? (a.add j)).getD undef) (fun j hj=>by
  have:=h j hj;cases hc:w.cell? (a.add j) with
  | none=>rw [hc] at this; simp at this
  | some u=>rfl)
 rw [hr] at h1;simp only [Result.ok.injEq,and_true] at h1;have h2:cs=(List.range n).map fun j=>(w.cell? (a.add j)).getD undef:=by
  have:=congrArg Array.toList h1;simpa using this
 rw [h2,mg] at hj;cases hq:(List.range n)[j]? with
 | none=>rw [hq] at hj; simp at hj
 | some m=>
  rw [hq] at hj;have aI:j < n:=by have:=(cp.1 hq).1; simpa using this
  have hm:m=j:=by rw [List.getElem?_range aI] at hq; simpa using hq.symm
  subst hm;simp at hj;have:=h m aI;cases hc:w.cell? (a.add m) with
  | none=>rw [hc] at this; simp at this
  | some u=>rw [hc] at hj; simpa using hj
theorem Ic (z:Array Value) (n:Nat):(Builtin.zeroCells z n).size=n * z.size:=size_zeroCells z n
theorem Ie {ρ:Ren} {A B:St} {base:Nat} {w:World} {t u ty e:TypeId} {i:TypeInfo} {z s x s' x' v:Value} (ht:P.underlying t=some (.slice e)) (hi:P.info? e=some i) (hz:i.zero=some z) (hu:BA P u=true)
  (hn:1<=i.size) (YS:z.cells.size=i.size) (tz:iv ρ A base w) (Mf:VR ρ s s') (Qg:VR ρ x x') (hf:iE i.size i.bytes A [s,x] = some (v,B)) :
  ∃ ak v' w',(Builtin.append_ #[t,u] ty #[s',x']).run P w = .ok v' w'/\VR ak v v'/\cq base ρ A w ak B w':=by
 unfold iE at hf;split at hf
 ·rename_i bs cr jU x0 e0
  simp at e0;obtain ⟨rfl,rfl⟩:=e0;obtain ⟨k,hk,hf⟩:=aO.1 hf;have hlen:=RG Qg hk;have YT:∀ m,Rx x=some m->k<=m:=fun m h=>by rw [hk] at h; simp at h; omega
  cases la:Nat.ble (cr+k) jU with
  | true=>
   rw [la,ah] at hf;have la:=cL la;obtain ⟨new,mi,hf⟩:=aO.1 hf;obtain ⟨bJ,h1,h2,h3,h4⟩:=yO (P:=P) tz.rel Qg mi YT hn;cases bs with
   | none=>
    simp at hf;obtain ⟨rfl,rfl⟩:=hf;have:=Mf.ff;subst this;have hr:=sP (P:=P) t u ty e i ht hi hu none cr jU x' k bJ hlen w h4 la;exact ⟨ρ,_,w,by rw [hr]; rfl,by simp [VR],.refl tz⟩
   | some a=>
    simp only at hf;cases SM:bH a with
    | false=>rw [SM] at hf; simp at hf
    | true=>
     rw [SM,ah] at hf;cases oJ:Nat.beq k 0 with
     | true=>
      rw [oJ,ah] at hf;simp at hf;obtain ⟨rfl,rfl⟩:=hf;have oJ:=aE oJ;obtain ⟨ua,AK,lc,a',c',hl,ri,BF,jI,rfl⟩:=Mf.iG;have hr:=sP (P:=P) t u ty e i ht hi hu (some a') cr c' x' k bJ hlen w h4 (by omega);have EU:bJ = []:=List.eq_nil_of_length_eq_zero (by rw [h1.length,h3,oJ,Nat.zero_mul]);refine ⟨ρ,.slice (some a') (cr+k) c',w,?_,?_,.refl tz⟩
      ·rw [hr,EU]
       rfl
      ·simp only [VR]
       exact ⟨ua,by omega,lc,a',c',hl,ri,BF,jI,rfl⟩
     | false=>
     rw [oJ,ay] at hf;obtain ⟨B',eZ,hf⟩:=aU.1 hf;simp at hf;obtain ⟨rfl,rfl⟩:=hf;obtain ⟨ua,AK,lc,a',c',hl,ri,BF,jI,rfl⟩:=Mf.iG;have hr:=sP (P:=P) t u ty e i ht hi hu (some a') cr c' x' k bJ hlen w h4 (by omega);obtain ⟨w',h5,h6⟩:=yN (P:=P) (a:=⟨a.block,a.off+cr * i.size,none⟩) tz eZ hl h1;have kx:(storeCells (a'.add (cr * i.size)) bJ).run P w = .ok () w':=by
      by_cases hc:c' = 0
      ·have:bJ = []:=by
        apply List.eq_nil_of_length_eq_zero;rw [h1.length,h3];have:k=0:=by omega
        subst this; omega
       subst this;exact h5
      ·rw [BF hc,jt]
       simp only at h5;rw [nD];exact h5
     refine ⟨ρ,.slice (some a') (cr+k) c',w',?_,?_,h6⟩
     ·rw [hr]
      simp only [kx,fF]
     ·simp only [VR]
      exact ⟨ua,la,lc,a',c',hl,ri,BF,jI,rfl⟩
  | false=>
   rw [la,ay] at hf;have la:jU < cr+k:=by
    have : ¬ (cr+k<=jU):=fun h=>by rw [Nat.ble_eq_true_of_le h] at la; simp at la
    omega
   cases hc:(Nat.ble ((cr+k) * i.bytes) 140737488355328&&Nat.ble (cr+k) 17592186044416&&ng A i.size jU bs) with
   | false=>rw [hc] at hf; simp at hf
   | true=>
    rw [hc,ah] at hf;simp only [aj] at hc;obtain ⟨⟨u6,qg⟩,hex⟩:=hc;have u6:=cL u6;have qg:=cL qg;have Ga:(cr+k) * i.bytes<=140737488355328:=u6;obtain ⟨new,mi,hf⟩:=aO.1 hf;obtain ⟨bJ,h1,h2,h3,h4⟩:=yO (P:=P) tz.rel Qg mi YT hn;have SN:=cq.drew (w:=w) tz;obtain ⟨aib,g1,g2,g3,g4⟩:=yO (P:=P) SN.dI.rel Qg mi YT hn;have XA:∀ (bs' : Option Addr) (c' : Nat) (RH Qh:List Value) (aF f:Nat) (K:St),K=A\/(∃ x lo hi L,K=A.kill x lo hi L)->cD ρ RH Qh->(∀ v∈RH,scalar v=true)->RH.length=cr * i.size->
      (Builtin.firstCells i.size cr (.slice bs' cr c')).run P w.drew = .ok Qh.toArray w.drew->c' < cr+k->
      ∃ ak v' w',(Builtin.append_ #[t,u] ty #[.slice bs' cr c',x']).run P w = .ok v' w'/\VR ak (.slice (some ⟨A.next,0,none⟩) (cr+k) (cr+k)) v'/\cq base ρ A w ak (K.grow aF f (RH++new) i.size) w':=by
     intro bs' c' RH Qh aF f K hK ho ho1 Mc kx aI;have hr:=Qe (P:=P) t u ty e i z ht hi hz hu bs' cr c' x' k Qh aib hlen w kx g4 aI qg (growslice_fits aI Ga);have Md:=grownCap_ge w (cr+k) c' e;have hkg:cq base ρ A w ρ K w.drew:=by
      rcases hK with rfl | ⟨x,lo,hi,L,rfl⟩
      ·exact SN
      ·exact (Mb tz x lo hi L).trans (cq.drew (Mb tz x lo hi L).dI)
     have hKn:K.next=A.next:=by
      rcases hK with rfl | ⟨x,lo,hi,L,rfl⟩
      ·rfl
      ·simp
     have zN:((Qh++aib).toArray++Builtin.zeroCells z.cells (grownCap w (cr+k) c' e - (cr+k))).size=grownCap w (cr+k) c' e * i.size:=by
      rw [Array.size_append,Ic,YS,List.size_toArray,fE,ho.length,g1.length,Mc,g3];rw [<- Nat.add_mul,<- Nat.add_mul];congr 1; omega
     have ze:=Ib (w:=w.drew) (n:=i.size) (aF:=aF) (f:=f) (c:=(Qh++aib).toArray++Builtin.zeroCells z.cells (grownCap w (cr+k) c' e - (cr+k))) e hkg.dI (ho.append g1)
      (fun v hv=>(eP.1 hv).elim (ho1 v) (g2 v)) (fun j v hj=>by
       rw [Array.getElem?_append_left (by have:=(cp.1 hj).1; simpa using this)];simpa using hj) (by
       rw [zN,fE,Mc,g3,<- Nat.add_mul];exact Nat.mul_le_mul_right _ Md)
     refine ⟨_,_,_,hr,?_,hkg.trans ze⟩;simp only [VR];refine ⟨trivial,ao _,_,⟨w.heap.size,0,none⟩,grownCap w (cr+k) c' e,by rw [hKn]; exact Ren.dj _ _ _,Md,fun _=>rfl,?_,rfl⟩;rw [zN];show 0+0+grownCap w (cr+k) c' e * i.size<=grownCap w (cr+k) c' e * i.size;omega
    unfold Bz at hf;cases bs with
    | none=>
     simp only at hf;cases xH:Nat.beq cr 0 with
     | false=>rw [xH] at hf; simp at hf
     | true=>
      rw [xH,ah] at hf;simp at hf;obtain ⟨rfl,rfl⟩:=hf;have xH:=aE xH;have:=Mf.ff;subst this;have hn' : Builtin.firstCells i.size cr (.slice none cr jU)=pure #[]:=rfl;exact XA none jU [] [] A.next 0 A (.inl rfl) .nil (by simp) (by rw [xH]; simp) (by rw [hn']; rfl) la
    | some a=>
     simp only at hf;cases SM:bH a with
     | false=>rw [SM] at hf; simp at hf
     | true=>
      rw [SM,ah] at hf;have ua:=Qf SM;obtain ⟨_,AK,lc,a',c',hl,ri,BF,jI,rfl⟩:=Mf.iG;obtain ⟨eD,hold,hf⟩:=aO.1 hf;obtain ⟨jJ,q1,q2,q3,q4⟩:=sM (P:=P) SN.dI.rel hold hl;have kx:(Builtin.firstCells i.size cr (.slice (some a') cr c')).run P w.drew = .ok jJ.toArray w.drew:=by
       simp only [Builtin.firstCells];by_cases hc:c' = 0
       ·have xH:cr=0:=by omega
        subst xH;have EU:eD = []:=by rw [Nat.zero_mul] at q2; exact List.eq_nil_of_length_eq_zero q2
        subst EU;rw [q1.bz,Nat.zero_mul];exact run_loadCells_list w.drew a' [] (by simp)
       ·rw [BF hc]; exact q4
      split at hf
      ·rename_i cs aQ own aZ hg
       cases Qc:Nat.beq aQ i.size with
       | false=>rw [Qc] at hf; simp at hf
       | true=>
        rw [Qc,ah] at hf;have Qc:=aE Qc;subst Qc;obtain ⟨l2,iM,ok⟩:=tz.rel.row _ _ _ _ _ hg;rw [hl] at iM; simp at iM; subst iM;have hle:lc.aQ=i.size:=ok.aQ;cases aZ with
        | none=>
         simp only at hf;cases own with
         | false=>simp at hf
         | true=>
          simp at hf;obtain ⟨rfl,rfl⟩:=hf;have T0:a.off+jU * i.size=cs.length:=by
           unfold ng at hex;simp only [hg] at hex;exact aE hex
          have al1:=ok.ends rfl rfl;have TZ:c' < cr+k:=by
           have h9:c' * i.size<=jU * i.size:=by rw [hle] at jI; omega
           have:=Nat.le_of_mul_le_mul_right h9 (by omega);omega
          exact XA (some a') c' eD jJ A.next 0 A (.inl rfl) q1 q3 q2 kx TZ
        | some p=>
         obtain ⟨aF,f⟩:=p;simp only at hf;cases own with
         | false=>simp at hf
         | true=>
          simp at hf;obtain ⟨rfl,rfl⟩:=hf;by_cases TZ:c' < cr+k
          ·exact XA (some a') c' eD jJ aF (f+a.off) _ (.inr ⟨_,_,_,_,rfl⟩) q1 q3 q2 kx TZ
          ·
           have bA:c'≠0:=by omega
           have ha:=BF bA;subst ha;have hr:=sP (P:=P) t u ty e i ht hi hu (some ⟨lc.cb,lc.cg+a.off,none⟩) cr c' x' k bJ hlen w h4 (by omega);have mr:lc.cg+a.off+cr * i.size+new.length<=lc.rV:=by
            rw [h3];rw [hle] at jI;have h9:(cr+k) * i.size<=c' * i.size:=Nat.mul_le_mul_right _ (by omega);rw [Nat.add_mul] at h9;omega
           have CN:bJ.length=new.length:=h1.length;obtain ⟨aaV,p1,p2,p3,p4⟩:=sM (P:=P) tz.rel hold hl;have hoc:∀ (j:Nat) (v' : Value),aaV[j]? = some v'->w.cell? ⟨lc.cb,lc.cg+a.off+j,none⟩=some v':=by
            intro j v' hj;have aI:j < cr * i.size:=by have:=(cp.1 hj).1; rw [p1.length,p2] at this; exact this
            have k8:=(ok.there rfl (lc.cg+a.off+j) (by omega)).1;have:=SL (P:=P) w ⟨lc.cb,lc.cg+a.off,none⟩ (cr * i.size) aaV (fun j hj=>by rw [jt]; exact (ok.there rfl (lc.cg+a.off+j) (by omega)).1) p4 j v' hj;rwa [jt] at this
           have ze:=N3 (w:=w) (fQ:=a.off) (s:=cr * i.size) tz hg hl p1 p3 p2 hoc h1 h2 mr;have eZ:(storeCells ((⟨lc.cb,lc.cg+a.off,none⟩:Addr).add (cr * i.size)) bJ).run P w = .ok () (w.setCells lc.cb (lc.cg+a.off+cr * i.size) bJ):=by
            rw [jt];exact run_storeCells_cells (P:=P) lc.cb (lc.cg+a.off+cr * i.size) bJ 0 w (fun j hj=>(ok.there rfl _ (by rw [CN] at hj; omega)).1) (fun j hj=>(ok.there rfl _ (by rw [CN] at hj; omega)).2) (fun v vX=>by
             obtain ⟨j,hj⟩:=List.getElem?_of_mem vX;have aI:j < new.length:=by rw [<- CN]; exact (cp.1 hj).1
             obtain ⟨u,hu⟩:∃ u,new[j]? = some u:=⟨new[j],cl aI⟩
             obtain ⟨v2,h7,h8⟩:=h1.get hu;rw [hj] at h7; simp at h7; subst h7;exact h8.scalar (h2 u (eW hu)))
           refine ⟨_,.slice (some ⟨lc.cb,lc.cg+a.off,none⟩) (cr+k) c',_,by rw [hr]; simp only [eZ,fF],?_,ze⟩;simp only [VR];refine ⟨trivial,ao _,_,_,c',Ren.dj _ _ _,by omega,fun _=>rfl,?_,rfl⟩;show lc.cg+a.off+0+c' * i.size<=lc.rV;rw [hle] at jI;omega
      ·simp at hf
 ·simp at hf
theorem agH {argTypes:Array TypeId} {t u:TypeId} (h:argTypes.toList = [t,u]):argTypes = #[t,u]:=by
 apply Array.ext';simpa using h
theorem adp {argTypes:Array TypeId} {args:Array Operand} (ho:o.op = .call ⟨.builtin .append,args,argTypes⟩):fv P o (FV P argTypes.toList args.toList):=by
 unfold FV;split
 ·rename_i t u pQ
  split
  ·rename_i e ht
   split
   ·rename_i i hi
    split
    ·rename_i z hz
     cases hc:(Nat.ble 1 i.size&&Nat.beq z.cells.size i.size&&BA P u) with
     | false=>exact True.intro
     | true=>
      rw [ah];simp only [aj] at hc;obtain ⟨⟨h1,h2⟩,h3⟩:=hc;intro ρ A B base w ev ck v hs he hf;have hf0:=hf;unfold iE at hf0;split at hf0
      ·rename_i bs cr jU x e1
       have hm:=he.map;rw [e1] at hm hf;obtain ⟨s',r1,e2,Mf,hm⟩:=hm.cons_inv;obtain ⟨x',r2,e3,Qg,hm⟩:=hm.cons_inv;have:=hm.bz;subst this e3;obtain ⟨ak,v',w',h4,h5,h6⟩:=Ie (ty:=o.type) ht hi hz h3 (cL h1) (aE h2) hs Mf Qg hf;refine ⟨ak,v',.value v',w',?_,rfl,h5,h6⟩;have e4:args.map ck = #[s',x']:=by apply Array.ext'; simpa using e2
       have e5:=agH pQ;subst e5;simp only [execOp,ho,Sem.run_bind,resolve,Sem.run_pure,fF,invoke,builtin,e4,h4]
      ·simp at hf0
    ·trivial
   ·trivial
  ·trivial
 ·trivial
theorem aic {argTypes:Array TypeId} {args:Array Operand} (ho:o.op = .call ⟨.builtin .copy,args,argTypes⟩):fv P o (NI P argTypes.toList args.toList):=by
 unfold NI;split
 ·rename_i t rest pQ
  have Hf:argTypes[0]? = some t:=by rw [<- Array.getElem?_toList,pQ]; rfl
  split
  ·rename_i e ht
   split
   ·rename_i n hn
    cases Aq:Nat.ble 1 n with
    | false=>exact True.intro
    | true=>
     rw [ah];have Aq:1<=n:=cL Aq;intro ρ A B base w ev ck v hs he hf;unfold TD at hf;split at hf
     ·rename_i bs Eu alb x e1
      have hm:=he.map;rw [e1] at hm;obtain ⟨s',r1,e2,Mf,hm⟩:=hm.cons_inv;obtain ⟨x',r2,e3,Qg,hm⟩:=hm.cons_inv;have:=hm.bz;subst this e3;have e4:args.map ck = #[s',x']:=by apply Array.ext'; simpa using e2
      obtain ⟨k,hk,hf⟩:=aO.1 hf;have hlen:=RG Qg hk;obtain ⟨new,mi,hf⟩:=aO.1 hf;obtain ⟨bJ,h1,h2,h3,h4⟩:=yO (P:=P) hs.rel Qg mi (fun m h=>by rw [hk] at h; simp at h; subst h; exact Nat.min_le_left _ _) Aq;cases bs with
      | none=>
       simp at hf;obtain ⟨rfl,rfl⟩:=hf;have:=Mf.ff;subst this;refine ⟨ρ,goInt (Nat.min k Eu),.value (goInt (Nat.min k Eu)),w,?_,rfl,VR.of_flat rfl,.refl hs⟩;simp [execOp,ho,resolve,invoke,builtin,e4,Builtin.copy_,Hf,aV ht,hlen,mj hn,h4]
      | some a=>
       simp only at hf;obtain ⟨B',eZ,hf⟩:=aU.1 hf;simp at hf;obtain ⟨rfl,rfl⟩:=hf;obtain ⟨ua,AK,lc,a',c',hl,ri,BF,jI,rfl⟩:=Mf.iG;obtain ⟨w',h5,h6⟩:=yN (P:=P) hs eZ hl h1;have kx:(storeCells a' bJ).run P w = .ok () w':=by
        by_cases hc:c' = 0
        ·have:bJ = []:=by
          apply List.eq_nil_of_length_eq_zero;rw [h1.length,h3];have:Eu=0:=by omega
          subst this; simp
         subst this;exact h5
        ·rw [BF hc]; exact h5
       refine ⟨ρ,goInt (Nat.min k Eu),.value (goInt (Nat.min k Eu)),w',?_,rfl,VR.of_flat rfl,h6⟩;simp [execOp,ho,resolve,invoke,builtin,e4,Builtin.copy_,Hf,aV ht,hlen,mj hn,h4,kx]
     ·simp at hf
   ·trivial
  ·trivial
 ·trivial
end
end Go.aA
end
section
namespace Go.aA
open Go
section
variable {P:Program} {o:Oper}
theorem wy {ρ:Ren} {A:St} {base:Nat} {w:World} {r:Nat} {es mu:List (Value×Value)} {zf:Array MapEntry} {yP:Nat} {l:Loc} (hs:iv ρ A base w) (hg:A.get r=some (.map es)) (iZ:ρ r=some l)
  (hm:fe ρ mu zf.toList):cq base ρ A w ρ (A.put r (.map mu)) { w with heap:=w.heap.setIfInBounds l.cb (.map zf yP) }:=by
 obtain ⟨l',iL,ok⟩:=hs.rel.map _ _ hg;rw [iZ] at iL; simp at iL; subst iL;obtain ⟨aP,clock,lN,_⟩:=ok.gF;have aI:l.cb < w.heap.size:=(jh.1 lN).1;have wz:aY.ct (.map es)=true:=rfl;have hold:∀ k,k≠l.cb->(w.heap.setIfInBounds l.cb (.map zf yP))[k]? = w.heap[k]?:=fun k hk=>by
  rw [Array.getElem?_setIfInBounds_ne (Ne.symm hk)]
 have cS:(w.heap.setIfInBounds l.cb (.map zf yP)).size=w.heap.size:=by simp
 have hB:∀ x,(A.put r (.map mu)).get x=if x=r then some (.map mu) else A.get x:=fun x=>St.b6 _ _ _ _;have hmd:∀ o:aY,o.ct=true->o≠.dead:=by intro o h e; subst e; simp [aY.ct] at h
 have C0:∀ x o l2,x≠r->A.get x=some o->o≠.dead->ρ x=some l2->o9 ρ base w l2 o->l2.cb≠l.cb:=by
  intro x o l2 hx eV hd pR fP e;cases Ig:o.ct with
  | true=>
   obtain ⟨_,_,_,_,e1,_⟩:=hs.rel.apart x r o _ l2 l hx eV hg Ig wz pR iZ e;simp [aY.hO] at e1
  | false=>
   cases o with
   | row cs aQ own aZ=>
    have fP:lL ρ base w l2 cs aQ own aZ:=fP;have h1:own=false:=Ig;have:=fP.nu h1;have:=ok.ct;omega
   | map _=>simp [aY.ct] at Ig
   | iter _ _=>simp [aY.ct] at Ig
   | dead=>exact hd rfl
   | loop _ _ _ _ _ _=>simp [aY.ct] at Ig
 refine ⟨⟨.qe ?_ ?_ ?_,fun b l2 h=>hs.fZ b l2 h,by simpa using hs.size,hs.lK⟩,fun _ _=>rfl,⟨rfl,rfl,rfl,Nat.le_of_eq cS.symm,fun k hk hn=>hold k (fun e=>hn ⟨r,_,l,hg,wz,iZ,e.symm⟩)⟩,ao _,Nat.min_le_left _ _,fun x hx hxl=>?_,?_⟩
 ·intro x o eV hd
  rw [hB] at eV;split at eV
  ·rename_i e; subst e; simp at eV; subst eV
   refine ⟨l,iZ,ok.ct,zf,yP,?_,hm⟩;show (w.heap.setIfInBounds l.cb (.map zf yP))[l.cb]? = _;rw [Array.getElem?_setIfInBounds_self_of_lt aI]
  ·rename_i e
   obtain ⟨l2,pR,fP⟩:=hs.rel.obj eV hd;exact ⟨l2,pR,fP.di (Ren.le_refl _) (hold _ (C0 x o l2 e eV hd pR fP)) (Nat.le_of_eq cS.symm)⟩
 ·have DJ:∀ x o,(A.put r (.map mu)).get x=some o->o.ct=true->∃ o',A.get x=some o'/\o'.ct=true/\o'.hO=o.hO:=by
   intro x o hx hm;rw [hB] at hx;split at hx
   ·rename_i e; subst e; simp at hx; subst hx; exact ⟨_,hg,rfl,rfl⟩
   ·exact ⟨o,hx,hm,rfl⟩
  intro b1 b2 o1 o2 l1 l2 bA g1 g2 m1 m2 r1 r2 vW;obtain ⟨p1,q1,n1,k1⟩:=DJ _ _ g1 m1;obtain ⟨p2,q2,n2,k2⟩:=DJ _ _ g2 m2;rw [<- k1,<- k2];exact hs.rel.apart b1 b2 p1 p2 l1 l2 bA q1 q2 n1 n2 r1 r2 vW
 ·intro x o aF f eV hk
  rw [hB] at eV;split at eV
  ·rename_i e; subst e; simp at eV; subst eV; simp [aY.hO] at hk
  ·exact hs.rel.aX x o aF f eV hk
 ·rw [St.NS] at hxl
  have:Nat.min A.low r<=r:=Nat.min_le_right _ _;rw [hB,ae (by omega)]
 ·rintro k hk ⟨x,o,l2,eV,hm,pR,rfl⟩
  rw [hB] at eV;split at eV
  ·rename_i e; subst e
   rw [iZ] at pR; simp at pR; subst pR;exact ⟨x,_,l,hg,wz,iZ,rfl⟩
  ·exact ⟨x,o,l2,eV,hm,pR,rfl⟩
theorem fe.length {ρ:Ren} : ∀ {es:List (Value×Value)} {l:List MapEntry},fe ρ es l->l.length=es.length
 | [],l,h=>by simp only [fe] at h; subst h; rfl
 | (k,v)::es,l,h=>by
  simp only [fe] at h;obtain ⟨e,r,rfl,_,_,h⟩:=h;simp [fe.length h]
theorem fe.get {ρ:Ren} : ∀ {es:List (Value×Value)} {l:List MapEntry},fe ρ es l->∀ (i:Nat) (k v:Value),es[i]? = some (k,v)->∃ e,l[i]? = some e/\VR ρ k e.key/\VR ρ v e.val
 | [],l,h,i,k,v,hi=>by simp at hi
 | (k,v)::es,l,h,i,k',v',hi=>by
  simp only [fe] at h;obtain ⟨e,r,rfl,h1,h2,h⟩:=h;cases i with
  | zero=>simp at hi; obtain ⟨rfl,rfl⟩:=hi; exact ⟨e,rfl,h1,h2⟩
  | succ i=>simp at hi; simpa using fe.get h i k' v' hi
theorem fe.append {ρ:Ren} : ∀ {es:List (Value×Value)} {l:List MapEntry} {k v:Value} {e:MapEntry},fe ρ es l->VR ρ k e.key->VR ρ v e.val->fe ρ (es++[(k,v)]) (l++[e])
 | [],l,k,v,e,h,h1,h2=>by
  simp only [fe] at h; subst h;simp only [List.nil_append,fe];exact ⟨e,[],rfl,h1,h2,rfl⟩
 | (k0,v0)::es,l,k,v,e,h,h1,h2=>by
  simp only [fe] at h;obtain ⟨e0,r,rfl,h3,h4,h⟩:=h;simp only [List.cons_append,fe];exact ⟨e0,r++[e],rfl,h3,h4,fe.append h h1 h2⟩
theorem fe.modify {ρ:Ren} : ∀ {es:List (Value×Value)} {l:List MapEntry} {k v:Value} (f:MapEntry->MapEntry) (i:Nat),fe ρ es l->(∀ e,VR ρ k (f e).key/\VR ρ v (f e).val)->fe ρ (es.set i (k,v)) (l.modify i f)
 | [],l,k,v,f,i,h,_=>by simp only [fe] at h; subst h; simp [fe]
 | (k0,v0)::es,l,k,v,f,i,h,hf=>by
  simp only [fe] at h;obtain ⟨e0,r,rfl,h3,h4,h⟩:=h;cases i with
  | zero=>simp only [List.set_cons_zero,List.modify_zero_cons,fe]; exact ⟨_,r,rfl,(hf e0).1,(hf e0).2,h⟩
  | succ i=>simp only [List.set_cons_succ,List.modify_succ_cons,fe]; exact ⟨e0,_,rfl,h3,h4,fe.modify f i h hf⟩
theorem fe.erase {ρ:Ren} : ∀ {es:List (Value×Value)} {l:List MapEntry} (i:Nat),fe ρ es l->fe ρ (es.eraseIdx i) (l.eraseIdx i)
 | [],l,i,h=>by simp only [fe] at h; subst h; simp [fe]
 | (k0,v0)::es,l,i,h=>by
  simp only [fe] at h;obtain ⟨e0,r,rfl,h3,h4,h⟩:=h;cases i with
  | zero=>simpa using h
  | succ i=>simp only [List.eraseIdx_cons_succ,fe]; exact ⟨e0,_,rfl,h3,h4,fe.erase i h⟩
def FR (ρ:Ren):Option (Nat×Value)->Option (Nat×Value)->Prop
 | none,r=>r=none
 | some (i,v),r=>∃ v',r=some (i,v')/\VR ρ v v'
theorem N5 {ρ:Ren} (d:TypeDesc) (k:Value):∀ (es:List (Value×Value)) (l:List MapEntry) (i:Nat),fe ρ es l->q9 es=true->
  (xW d k es i=none->Instr.findNow d k l i=none)/\∀ r,xW d k es i=some r->∃ r',Instr.findNow d k l i=some r'/\FR ρ r r'
 | [],l,i,h,_=>by
  simp only [fe] at h; subst h;exact ⟨fun h=>by simp [xW] at h,fun r hr=>by simp [xW] at hr; subst hr; exact ⟨none,rfl,rfl⟩⟩
 | (k0,v0)::es,l,i,h,hf=>by
  simp only [fe] at h;obtain ⟨e0,r0,rfl,h3,h4,h⟩:=h;simp only [q9,aj] at hf;have hk:e0.key=k0:=h3.jZ hf.1;have ih:=N5 d k es r0 (i+1) h hf.2;simp only [xW,Instr.findNow,hk];cases hsn:Instr.sameNow d k k0 with
  | none=>exact ⟨fun _=>rfl,fun r hr=>by simp at hr⟩
  | some b=>
   cases b with
   | true=>exact ⟨fun h=>by simp at h,fun r hr=>by simp at hr; subst hr; exact ⟨_,rfl,_,rfl,h4⟩⟩
   | false=>exact ih
theorem N6 {ρ:Ren} (kt:TypeId) (k:Value):∀ (es:List (Value×Value)) (l:List MapEntry) (i:Nat),fe ρ es l->q9 es=true->
  ∀ r,Ew P kt k es i=some r->∃ r',(∀ w,(Instr.findAsking kt k l i).run P w = .ok r' w)/\FR ρ r r'
 | [],l,i,h,_=>by
  simp only [fe] at h; subst h;intro r hr;simp [Ew] at hr; subst hr; exact ⟨none,fun w=>rfl,rfl⟩
 | (k0,v0)::es,l,i,h,hf=>by
  simp only [fe] at h;obtain ⟨e0,r0,rfl,h3,h4,h⟩:=h;simp only [q9,aj] at hf;have hk:e0.key=k0:=h3.jZ hf.1;intro r hr;simp only [Ew] at hr;split at hr
  ·rename_i he
   simp at hr; subst hr;refine ⟨some (i,e0.val),fun w=>?_,_,rfl,h4⟩;simp [Instr.findAsking,hk,eQ he w]
  ·rename_i he
   obtain ⟨r',h5,h6⟩:=N6 kt k es r0 (i+1) h hf.2 r hr;refine ⟨r',fun w=>?_,h6⟩;simp only [Instr.findAsking,hk,Sem.run_bind,eQ he w,fF];exact h5 w
  ·simp at hr
theorem Gb {ρ:Ren} {kt:TypeId} {d:TypeDesc} {k:Value} {es:List (Value×Value)} {l:List MapEntry} {r:Option (Nat×Value)} (hd:P.underlying kt=some d) (h:fe ρ es l) (hf:q9 es=true) (hr:TE P kt d k es=some r) :
  ∃ r',(∀ w,(Instr.findKey kt k l).run P w = .ok r' w)/\FR ρ r r':=by
 have hn:=N5 d k es l 0 h hf;unfold TE at hr;split at hr
 ·rename_i q hq
  simp at hr; subst hr;obtain ⟨r',h1,h2⟩:=hn.2 _ hq;refine ⟨r',fun w=>?_,h2⟩;simp only [Instr.findKey,Sem.run_bind,aV hd,fF,h1];rfl
 ·rename_i hq
  have h1:=hn.1 hq;obtain ⟨r',h2,h3⟩:=N6 kt k es l 0 h hf r hr;refine ⟨r',fun w=>?_,h3⟩;simp only [Instr.findKey,Sem.run_bind,aV hd,fF,h1];exact h2 w
theorem AO {ρ:Ren} {kt:TypeId} {b:Bool} {k k' : Value} {es:List (Value×Value)} (h:DG P kt b k es=true) (hk:VR ρ k k'):k' = k/\flat k=true/\q9 es=true/\∀ w,(Instr.checkKey b 10000 kt k).run P w = .ok () w:=by
 unfold DG at h;simp only [aj] at h;obtain ⟨⟨h1,h2⟩,h3⟩:=h;cases hp:cv P (Instr.checkKey b 10000 kt k) with
 | none=>rw [hp] at h3; simp at h3
 | some u=>exact ⟨hk.jZ h1,h1,h2,fun w=>eQ hp w⟩
theorem fe.isEmpty {ρ:Ren} {es:List (Value×Value)} {l:Array MapEntry} (h:fe ρ es l.toList):l.isEmpty=es.isEmpty:=by
 have:=h.length;cases es with
 | nil=>simp at this; simpa using this
 | cons e es=>simp at this; simp; intro h; rw [h] at this; simp at this
theorem VR.Ih {ρ:Ren} {r:Nat} {v:Value} (h:VR ρ (.map (some r)) v):∃ l,ρ r=some l/\v = .map (some l.cb):=by simpa only [VR] using h
theorem VR.AP {ρ:Ren} {v:Value} (h:VR ρ (.map none) v):v = .map none:=by simpa only [VR] using h
theorem VR.Xp {ρ:Ren} {ok b:Bool} {v v' : Value} (h:VR ρ v v'):VR ρ (Xp ok v b) (if ok then .tuple #[v',.bool b] else v'):=by
 cases ok with
 | true=>exact VR.mkTuple (.cons h (.cons (VR.of_flat rfl) .nil))
 | false=>exact h
theorem aaW {t:TypeId} {r:Option Operand} (ho:o.op = .makeMap t r):fv P o (HV P t r):=by
 unfold HV;split
 ·rename_i kt et hu
  intro ρ ev ck obj mk he hf;have gi:obj = .map []/\mk=fun n=>.map (some n):=by
   unfold P1 at hf;split at hf
   ·simp at hf; exact ⟨hf.1.symm,hf.2.symm⟩
   ·simp at hf; exact ⟨hf.1.symm,hf.2.symm⟩
   ·simp at hf
  obtain ⟨rfl,rfl⟩:=gi;refine ⟨.map #[] 0,fun n=>.map (some n),rfl,fun w=>?_,fun ak n cb h=>by simp only [VR]; exact ⟨_,h,rfl⟩⟩;cases r with
  | none=>simp [execOp,ho,Instr.makeMap]
  | some x=>
   have hx:=he x (by simp [eh]);unfold P1 at hf;simp only [eh,List.map] at hf;split at hf
   ·rename_i e; simp at e
   ·rename_i k n e
    simp at e;rw [e] at hx;simp [execOp,ho,Instr.makeMap,hx.bO,aV hu,asInt,asIntOf]
   ·simp at hf
 ·trivial
theorem EV {ρ:Ren} {kt et:TypeId} {d:TypeDesc} {z v k k' : Value} {ok:Bool} {es:List (Value×Value)} {l:Array MapEntry} (hd:P.underlying kt=some d) (hz:tE P et=some z) (hzf:flat z=true)
  (hm:fe ρ es l.toList) (hk:VR ρ k k') (h:FW P kt d z ok k es=some v) :
  ∃ v',VR ρ v v'/\∀ w,(do
   Instr.checkKey l.isEmpty 10000 kt k'
   let (v,b) <- match <- Instr.findKey kt k' l.toList with
    | some (_,v)=>pure (v,true)
    | none=>pure (<- zeroValue et,false)
   pure (if ok then Value.tuple #[v,.bool b] else v):Sem Value).run P w = .ok v' w:=by
 unfold FW at h;cases hc:DG P kt es.isEmpty k es with
 | false=>rw [hc] at h; simp at h
 | true=>
  rw [hc,ah] at h;obtain ⟨rfl,_,hkf,H7⟩:=AO hc hk;obtain ⟨r,hr,rfl⟩:=aU.1 h;obtain ⟨r',h1,h2⟩:=Gb hd hm hkf hr;rw [hm.isEmpty];cases r with
  | none=>
   have h2:r' = none:=h2;subst h2;refine ⟨_,VR.Xp (VR.of_flat hzf),fun w=>?_⟩;simp [H7,h1,JX hz]
  | some p=>
   obtain ⟨i,u⟩:=p;obtain ⟨u',rfl,h3⟩:=h2;refine ⟨_,VR.Xp h3,fun w=>?_⟩;simp [H7,h1]
theorem adq {t:TypeId} {x ix:Operand} {ok:Bool} (ho:o.op = .lookup t x ix ok):fv P o (LW P t x ix ok):=by
 unfold LW;split
 ·rename_i kt et hu
  split
  ·rename_i d z hd hz
   cases hzf:flat z with
   | false=>exact True.intro
   | true=>
    rw [ah];intro ρ A base w ev ck v hs he hf;have hx:=he x (by simp);have hk:=he ix (by simp);simp only [List.map] at hf;unfold aax at hf;split at hf
    ·rename_i k e
     simp at e;obtain ⟨e1,e2⟩:=e;rw [e1] at hx;have hx:=hx.AP;rw [<- e2] at hf;obtain ⟨v',h1,h2⟩:=EV (ρ:=ρ) (l:=#[]) hd hz hzf (by simp [fe]) hk hf;refine ⟨v',h1,?_⟩;have h2:=h2 w;simp only [execOp,ho,Instr.lookup,Sem.run_bind,aV hu,fF,hx,Sem.run_pure] at h2 ⊢;exact congrArg (fun r:Result Value=>r.andThen fun a w'=>Result.ok (Next.value a) w') h2
    ·rename_i r k e
     simp at e;obtain ⟨e1,e2⟩:=e;rw [e1] at hx;rw [<- e2] at hf;obtain ⟨lc,hl,hx⟩:=hx.Ih;split at hf
     ·rename_i es hg
      obtain ⟨l2,iM,fP⟩:=hs.map _ _ hg;rw [hl] at iM; simp at iM; subst iM;obtain ⟨aP,clock,lN,hm⟩:=fP.gF;obtain ⟨v',h1,h2⟩:=EV (l:=aP) hd hz hzf hm hk hf;refine ⟨v',h1,?_⟩;have h2:=h2 w;simp only [execOp,ho,Instr.lookup,Sem.run_bind,aV hu,fF,hx,MapKept.run_getObj_map lN,Sem.run_pure] at h2 ⊢;exact congrArg (fun r:Result Value=>r.andThen fun a w'=>Result.ok (Next.value a) w') h2
     ·simp at hf
    ·simp at hf
  ·trivial
 ·trivial
theorem N7 {ρ:Ren} {A B:St} {base:Nat} {w:World} {t kt et:TypeId} {d:TypeDesc} {m k x m' k' x' v:Value} (hu:P.underlying t=some (.map kt et)) (hd:P.underlying kt=some d) (hs:iv ρ A base w)
  (hm:VR ρ m m') (hk:VR ρ k k') (hx:VR ρ x x') (h:HU P kt d A [m,k,x] = some (v,B)):v=undef/\∃ w',(Instr.mapUpdate t m' k' x').run P w = .ok () w'/\cq base ρ A w ρ B w':=by
 unfold HU at h;split at h
 ·rename_i r k0 x0 e
  simp at e;obtain ⟨rfl,rfl,rfl⟩:=e;obtain ⟨lc,hl,rfl⟩:=hm.Ih;split at h
  ·rename_i es hg
   obtain ⟨l2,iM,fP⟩:=hs.rel.map _ _ hg;rw [hl] at iM; simp at iM; subst iM;obtain ⟨aP,clock,lN,Qi⟩:=fP.gF;cases hc:DG P kt false k es with
   | false=>rw [hc] at h; simp at h
   | true=>
    rw [hc,ah] at h;obtain ⟨rfl,hkf0,hkf,H7⟩:=AO hc hk;obtain ⟨q,hq,h⟩:=aO.1 h;obtain ⟨r',h1,h2⟩:=Gb hd Qi hkf hq;cases q with
    | none=>
     have h2:r' = none:=h2;subst h2;simp at h;obtain ⟨rfl,rfl⟩:=h;refine ⟨rfl,_,?_,wy (zf:=aP.push { key:=k',val:=x',born:=clock }) (yP:=clock+1) hs hg hl (by rw [Array.toList_push]; exact Qi.append hk hx)⟩;simp [Instr.mapUpdate,aV hu,MapKept.run_getObj_map lN,H7,h1,MapKept.run_setObj_map _ lN]
    | some p=>
     obtain ⟨i,u⟩:=p;obtain ⟨u',rfl,h3⟩:=h2;simp only at h;cases YP:Instr.sameBits 10000 (Yv es i k') k' with
     | false=>rw [YP] at h; simp at h
     | true=>
      rw [YP] at h;simp at h;obtain ⟨rfl,rfl⟩:=h;have hold:((aP[i]?).map (·.key)).getD k' = Yv es i k':=by
       unfold Yv;cases hi:es[i]? with
       | none=>
        have:aP[i]? = none:=by
         rw [Array.getElem?_eq_none_iff];have:=NA.1 hi;rw [<- Array.length_toList,Qi.length]; exact this
        rw [this]; rfl
       | some p=>
        obtain ⟨k1,v1⟩:=p;obtain ⟨e,h5,h6,h7⟩:=Qi.get i k1 v1 hi;have h5' : aP[i]? = some e:=by simpa using h5
        have oj:flat k1=true:=by
         have key:∀ (es:List (Value×Value)) (i:Nat),q9 es=true->es[i]? = some (k1,v1)->flat k1=true:=by
          intro es
          induction es with
          | nil=>intro i _ h; simp at h
          | cons e es ih=>
           intro i hk h;simp only [q9,aj] at hk;cases i with
           | zero=>simp at h; subst h; exact hk.1
           | succ i=>exact ih i hk.2 (by simpa using h)
         exact key es i hkf hi
        rw [h5'];simp only [Option.map_some,iD];exact h6.jZ oj
      refine ⟨rfl,_,?_,wy (zf:=aP.modify i fun e=>{ e with key:=k',val:=x' }) (yP:=clock) hs hg hl (by rw [Array.toList_modify]; exact Qi.modify _ i fun e=>⟨hk,hx⟩)⟩;simp [Instr.mapUpdate,aV hu,MapKept.run_getObj_map lN,H7,h1,hold,Instr.keyThatStays,YP,MapKept.run_setObj_map _ lN]
  ·simp at h
 ·simp at h
theorem Lg {t:TypeId} {m k x:Operand} (ho:o.op = .mapUpdate t m k x\/o.op = .insert t m k x):fv P o (yK P t m k x):=by
 unfold yK;split
 ·rename_i kt et hu
  split
  ·rename_i d hd
   intro ρ A B base w ev ck v hs he hf;simp only [List.map] at hf;obtain ⟨rfl,w',h1,h2⟩:=N7 hu hd hs (he m (by simp)) (he k (by simp)) (he x (by simp)) hf;refine ⟨ρ,undef,.skip,w',?_,rfl,VR.of_flat (by simp [undef,flat,wh,nL]),h2⟩;rcases ho with ho | ho <;> simp [execOp,ho,h1]
  ·trivial
 ·trivial
theorem rX:flat jc=true:=rfl
theorem adr {argTypes:Array TypeId} {args:Array Operand} (ho:o.op = .call ⟨.builtin .delete,args,argTypes⟩):fv P o (LX P argTypes.toList args.toList):=by
 unfold LX;split
 ·rename_i t rest pQ
  have Hf:argTypes[0]? = some t:=by rw [<- Array.getElem?_toList,pQ]; rfl
  split
  ·rename_i kt et hu
   split
   ·rename_i d hd
    intro ρ A B base w ev ck v hs he hf;have hm:=he.map;unfold aay at hf;split at hf
    ·rename_i k e1
     rw [e1] at hm;obtain ⟨m',r1,e2,T1,hm⟩:=hm.cons_inv;obtain ⟨k',r2,e3,hkv,hm⟩:=hm.cons_inv;have:=hm.bz;subst this e3;have e4:args.map ck = #[m',k']:=by apply Array.ext'; simpa using e2
     have:=T1.AP;subst this;cases hc:DG P kt true k [] with
     | false=>rw [hc] at hf; simp at hf
     | true=>
      rw [hc] at hf;simp at hf;obtain ⟨rfl,rfl⟩:=hf;obtain ⟨rfl,_,hkf,H7⟩:=AO hc hkv;refine ⟨ρ,jc,.value jc,w,?_,rfl,VR.of_flat rX,.refl hs⟩;simp [execOp,ho,resolve,invoke,builtin,e4,Builtin.delete_,Hf,aV hu,H7,jc]
    ·rename_i r k e1
     rw [e1] at hm;obtain ⟨m',r1,e2,T1,hm⟩:=hm.cons_inv;obtain ⟨k',r2,e3,hkv,hm⟩:=hm.cons_inv;have:=hm.bz;subst this e3;have e4:args.map ck = #[m',k']:=by apply Array.ext'; simpa using e2
     obtain ⟨lc,hl,rfl⟩:=T1.Ih;split at hf
     ·rename_i es hg
      obtain ⟨l2,iM,fP⟩:=hs.rel.map _ _ hg;rw [hl] at iM; simp at iM; subst iM;obtain ⟨aP,clock,lN,Qi⟩:=fP.gF;cases hc:DG P kt es.isEmpty k es with
      | false=>rw [hc] at hf; simp at hf
      | true=>
       rw [hc,ah] at hf;obtain ⟨rfl,_,hkf,H7⟩:=AO hc hkv;obtain ⟨q,hq,hqe⟩:=aU.1 hf;obtain ⟨r',h1,h2⟩:=Gb hd Qi hkf hq;rw [<- Qi.isEmpty] at H7;cases q with
       | none=>
        have h2:r' = none:=h2;subst h2;simp at hqe;obtain ⟨rfl,rfl⟩:=hqe;refine ⟨ρ,jc,.value jc,_,?_,rfl,VR.of_flat rX,wy (zf:=aP) (yP:=clock) hs hg hl Qi⟩;simp [execOp,ho,resolve,invoke,builtin,e4,Builtin.delete_,Hf,aV hu,MapKept.run_getObj_map lN,H7,h1,MapKept.run_setObj_map _ lN,jc]
       | some p=>
        obtain ⟨i,u⟩:=p;obtain ⟨u',rfl,h3⟩:=h2;simp at hqe;obtain ⟨rfl,rfl⟩:=hqe;refine ⟨ρ,jc,.value jc,_,?_,rfl,VR.of_flat rX,wy (zf:=aP.eraseIdxIfInBounds i) (yP:=clock) hs hg hl (by rw [Array.toList_eraseIdxIfInBounds]; exact Qi.erase i)⟩;simp [execOp,ho,resolve,invoke,builtin,e4,Builtin.delete_,Hf,aV hu,MapKept.run_getObj_map lN,H7,h1,MapKept.run_setObj_map _ lN,jc]
     ·simp at hf
    ·simp at hf
   ·trivial
  ·trivial
 ·trivial
theorem agI {argTypes:Array TypeId} {args:Array Operand} (ho:o.op = .call ⟨.builtin .clear,args,argTypes⟩):fv P o (P2 P argTypes.toList args.toList):=by
 unfold P2;split
 ·rename_i t pQ
  have Hf:argTypes[0]? = some t:=by rw [<- Array.getElem?_toList,pQ]; rfl
  split
  ·rename_i kt et hu
   intro ρ A B base w ev ck v hs he hf;have hm:=he.map;unfold TF at hf;split at hf
   ·rename_i e1
    simp at hf;obtain ⟨rfl,rfl⟩:=hf;rw [e1] at hm;obtain ⟨m',r1,e2,T1,hm⟩:=hm.cons_inv;have:=hm.bz;subst this;have e4:args.map ck = #[m']:=by apply Array.ext'; simpa using e2
    have:=T1.AP;subst this;refine ⟨ρ,jc,.value jc,w,?_,rfl,VR.of_flat rX,.refl hs⟩;simp [execOp,ho,resolve,invoke,builtin,e4,Builtin.clear_,Hf,aV hu,jc]
   ·rename_i r e1
    rw [e1] at hm;obtain ⟨m',r1,e2,T1,hm⟩:=hm.cons_inv;have:=hm.bz;subst this;have e4:args.map ck = #[m']:=by apply Array.ext'; simpa using e2
    obtain ⟨lc,hl,rfl⟩:=T1.Ih;split at hf
    ·rename_i es hg
     simp at hf;obtain ⟨rfl,rfl⟩:=hf;obtain ⟨l2,iM,fP⟩:=hs.rel.map _ _ hg;rw [hl] at iM; simp at iM; subst iM;obtain ⟨aP,clock,lN,Qi⟩:=fP.gF;refine ⟨ρ,jc,.value jc,_,?_,rfl,VR.of_flat rX,wy (zf:=#[]) (yP:=clock) hs hg hl rfl⟩;simp [execOp,ho,resolve,invoke,builtin,e4,Builtin.clear_,Hf,aV hu,MapKept.run_getObj_map lN,MapKept.run_setObj_map _ lN,jc]
    ·simp at hf
   ·simp at hf
  ·rename_i e hu
   split
   ·rename_i z hz
    cases hzc:(flat z&&Nat.ble 1 z.cells.size) with
    | false=>exact True.intro
    | true=>
     rw [ah];obtain ⟨F7,vY⟩:=Bool.and_eq_true_iff.1 hzc;have vY:=cL vY;intro ρ A B base w ev ck v hs he hf;have hm:=he.map;unfold Xq at hf;split at hf
     ·rename_i n c e1
      simp at hf;obtain ⟨rfl,rfl⟩:=hf;rw [e1] at hm;obtain ⟨m',r1,e2,T1,hm⟩:=hm.cons_inv;have:=hm.bz;subst this;have e4:args.map ck = #[m']:=by apply Array.ext'; simpa using e2
      have:=T1.ff;subst this;refine ⟨ρ,jc,.value jc,w,?_,rfl,VR.of_flat rX,.refl hs⟩;simp [execOp,ho,resolve,invoke,builtin,e4,Builtin.clear_,Hf,aV hu,jc]
     ·rename_i a n c e1
      rw [e1] at hm;obtain ⟨m',r1,e2,T1,hm⟩:=hm.cons_inv;have:=hm.bz;subst this;have e4:args.map ck = #[m']:=by apply Array.ext'; simpa using e2
      obtain ⟨ua,AK,lc,a',c',hl,ri,BF,jI,rfl⟩:=T1.iG;cases hn:Nat.beq n 0 with
      | true=>
       rw [hn] at hf;simp at hf;obtain ⟨rfl,rfl⟩:=hf;have:=aE hn;subst this;refine ⟨ρ,jc,.value jc,w,?_,rfl,VR.of_flat rX,.refl hs⟩;simp [execOp,ho,resolve,invoke,builtin,e4,Builtin.clear_,Hf,aV hu,jc]
      | false=>
       rw [hn,ay] at hf;have WH:=Nat.ne_of_beq_eq_false hn;obtain ⟨B',eZ,hf⟩:=aU.1 hf;simp at hf;obtain ⟨rfl,rfl⟩:=hf;obtain ⟨w',h5,h6⟩:=yN (P:=P) hs eZ hl ((C3 F7).repeat n);have:=BF (by omega);subst this;have e5:Builtin.zeroCells z.cells n=⟨eK z.cells.toList n⟩:=L9 z.cells n vY;refine ⟨ρ,jc,.value jc,w',?_,rfl,VR.of_flat rX,h6⟩;obtain ⟨m,rfl⟩:=Nat.exists_eq_succ_of_ne_zero WH;simp [execOp,ho,resolve,invoke,builtin,e4,Builtin.clear_,Hf,aV hu,JX hz,e5,h5,jc]
     ·simp at hf
   ·trivial
  ·trivial
 ·trivial
theorem akj {argTypes:Array TypeId} {args:Array Operand} (ho:o.op = .call ⟨.builtin .len,args,argTypes⟩):fv P o (NJ P argTypes.toList args.toList):=by
 unfold NJ;split
 ·rename_i t et
  have pQ:argTypes[0]? = some t:=by rw [<- Array.getElem?_toList,et]; rfl
  split
  ·rename_i e hu; exact agF ho pQ hu
  ·rename_i hu; exact ado ho pQ hu
  ·rename_i kt et' hu
   intro ρ A base w ev ck v hs he hf;have hm:=he.map;unfold aaz at hf;split at hf
   ·rename_i e1
    rw [e1] at hm;obtain ⟨y,ys,e2,h1,h2⟩:=hm.cons_inv;have:=h2.bz;subst this;simp at hf; subst hf;have:=h1.AP;subst this;refine ⟨_,VR.of_flat rfl,?_⟩;have e3:(args.map ck)[0]? = some (.map none):=by rw [lM,e2]; rfl
    simp [execOp,ho,resolve,invoke,builtin,Builtin.len_,pQ,e3,aV hu,goInt]
   ·rename_i r e1
    rw [e1] at hm;obtain ⟨y,ys,e2,h1,h2⟩:=hm.cons_inv;have:=h2.bz;subst this;obtain ⟨lc,hl,rfl⟩:=h1.Ih;split at hf
    ·rename_i es hg
     simp at hf; subst hf;obtain ⟨l2,iM,fP⟩:=hs.map _ _ hg;rw [hl] at iM; simp at iM; subst iM;obtain ⟨aP,clock,lN,Qi⟩:=fP.gF;refine ⟨_,VR.of_flat rfl,?_⟩;have e3:(args.map ck)[0]? = some (.map (some lc.cb)):=by rw [lM,e2]; rfl
     have cS:aP.size=es.length:=by rw [<- Array.length_toList,Qi.length]
     simp [execOp,ho,resolve,invoke,builtin,Builtin.len_,pQ,e3,aV hu,goInt,MapKept.run_getObj_map lN,cS]
    ·simp at hf
   ·simp at hf
  ·trivial
 ·trivial
end
end Go.aA
end
