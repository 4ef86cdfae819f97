/- Part of the proof of PathsRight: the machine, shown to be the model's, and plain models. No conditions. -/
import Derived.Test.YtckbdndhmcoihaaGreatAp
import Derived.Below
import Derived.Laws.Slices
import Derived.Laws.MakeOwn
import Derived.Laws.AppendOwn
import Derived.MapKept
set_option linter.unusedSimpArgs false
set_option linter.unusedVariables false
section
namespace Go.az
open Go
def aY.cr:aY->Bool
 | .row _ _ own _=>own
 | .map _=>true
 | .iter _ _=>true
 | .dead=>false
 | .loop _ _ _ _ _ _=>true
def aY.hO:aY->Option (Nat×Nat)
 | .row _ _ _ aZ=>aZ
 | _=>none
def eZ (ρ:Ren):List (Value×Value)->List MapEntry->Prop
 | [],l=>l = []
 | (k,v)::es,l=>∃ e r,l=e::r/\VR ρ k e.key/\VR ρ v e.val/\eZ ρ es r
structure lM (ρ:Ren) (base:Nat) (w:World) (l:Loc) (cs:List Value) (aQ:Nat) (own:Bool) (aZ:Option (Nat×Nat)):Prop where
 cells:∀ (i:Nat) (v:Value),cs[i]? = some v->∃ v',w.cell? ⟨l.cb,l.cf+i,none⟩=some v'/\VR ρ v v'/\scalar v=true
 nt:own=false->l.cb < base
 cr:own=true->base<=l.cb
 there:own=true->∀ j,j < l.rW->(w.cell? ⟨l.cb,j,none⟩).isSome=true/\w.frozen? ⟨l.cb,j,none⟩=false
 fits:l.cf+cs.length<=l.rW
 ends:own=true->aZ=none->l.cf+cs.length=l.rW
 aQ:l.aQ=aQ
 gC:l.cb < w.heap.size
 mark:own=true->l.aQ≠1->∀ j,w.frozen? ⟨l.cb,j,none⟩=false
structure Mn (ρ:Ren) (base:Nat) (w:World) (l:Loc) (es:List (Value×Value)):Prop where
 cr:base<=l.cb
 gC:∃ aP clock,w.heap[l.cb]? = some (.map aP clock)/\eZ ρ es aP.toList
structure Ob (base:Nat) (w:World) (l:Loc) (s:List UInt8) (pos:Nat):Prop where
 cr:base<=l.cb
 gC:l.cf=0/\w.heap[l.cb]? = some (.stringIter ⟨⟨s⟩⟩ pos)
def aa.code:aa->Option Code
 | .normal=>none
 | .exit id=>some (.exit id)
 | .goto l=>some (.goto l)
 | .ret=>some .ret
def FO:Nat->LoopState
 | 0=>.ready
 | 1=>.busy
 | _=>.done
structure TmR (ρ:Ren) (t:Trie Value) (N:Nat) (tmps:Array Value) (ps:List Nat) (assign body:Code):Prop where
 size:tmps.size=N
 val:∀ i,VR ρ ((t.get i).getD undef) (tmps.getD i undef)
 none:∀ i,N<=i->t.get i=Option.none
 adB:ps.all (fun p=>Nat.blt p N)=true/\codeOk N assign=true/\codeOk N body=true/\eM assign=true/\eM body=true
theorem TmR.mono {ρ ak:Ren} (h:ρ.le ak) {t:Trie Value} {N:Nat} {tmps:Array Value} {ps:List Nat} {a b:Code} (k:TmR ρ t N tmps ps a b):TmR ak t N tmps ps a b:=⟨k.size,fun i=>(k.val i).mono h,k.none,k.adB⟩
structure CS (ρ:Ren) (base:Nat) (w:World) (l:Loc) (st:Nat) (e:aa) (t:Trie Value) (ps:List Nat) (assign body:Code):Prop where
 cr:base<=l.cb
 gC:∃ fn tmps D N,w.heap[l.cb]? = some (.loop { state:=FO st,pending:=e.code,fn:=fn,tmps:=tmps,params:=ps.toArray,assign:=assign,body:=body,defers:=D })/\TmR ρ t N tmps ps assign body
structure Rel (ρ:Ren) (get:Nat->Option aY) (mem:Nat->List Nat) (base:Nat) (w:World):Prop where
 row:∀ b cs aQ own aZ,get b=some (.row cs aQ own aZ)->∃ l,ρ b=some l/\lM ρ base w l cs aQ own aZ
 map:∀ b es,get b=some (.map es)->∃ l,ρ b=some l/\Mn ρ base w l es
 iter:∀ b s pos,get b=some (.iter s pos)->∃ l,ρ b=some l/\Ob base w l s pos
 loop:∀ b st e t ps a c,get b=some (.loop st e t ps a c)->∃ l,ρ b=some l/\CS ρ base w l st e t ps a c
 apart:∀ b1 b2 o1 o2 l1 l2,b1≠b2->get b1=some o1->get b2=some o2->o1.cr=true->o2.cr=true->ρ b1=some l1->ρ b2=some l2->l1.cb=l2.cb->
  ∃ aF f1 f2,o1.hO=some (aF,f1)/\o2.hO=some (aF,f2)/\l1.cf+f2=l2.cf+f1
 aX:∀ b o aF f,get b=some o->o.hO=some (aF,f)->b∈mem aF
def Oc (ρ:Ren):Prop:=∀ g,g < gB->∃ l,ρ g=some l/\l.cb=g/\l.cf=0
theorem Oc.mono {ρ ak:Ren} (h:Oc ρ) (k:ρ.le ak):Oc ak:=fun g hg=>by
 obtain ⟨l,e,h2⟩:=h g hg;exact ⟨l,k g l e,h2⟩
theorem Oc.ev {ρ:Ren} (h:Oc ρ) (g:Nat):VR ρ (adn g) (.pointer (some ⟨g,0,none⟩)):=by
 unfold adn;cases hb:Nat.blt g gB with
 | false=>simp [VR]
 | true=>
  obtain ⟨⟨cb,co,cs,es⟩,e,h1,h2⟩:=h g (cM hb);simp only at h1 h2;subst h1; subst h2;exact ⟨rfl,_,e,rfl⟩
structure iu (ρ:Ren) (A:St) (base:Nat) (w:World):Prop where
 rel:Rel ρ A.get A.members base w
 fT:∀ b l,ρ b=some l->b < A.next
 size:base<=w.heap.size
 lL:Oc ρ
def Ew (ρ:Ren) (A:St) (k:Nat):Prop:=∃ b o l,A.get b=some o/\o.cr=true/\ρ b=some l/\l.cb=k
structure Kept (ρ:Ren) (A:St) (w w' : World):Prop where
 os:w'.os=w.os
 tape:w'.tape=w.tape
 output:w'.output=w.output
 size:w.heap.size<=w'.heap.size
 block:∀ k,k < w.heap.size->¬ Ew ρ A k->w'.heap[k]? = w.heap[k]?
structure cp (base:Nat) (ρ:Ren) (A:St) (w:World) (ak:Ren) (B:St) (w' : World):Prop where
 dI:iu ak B base w'
 ext:∀ b,b < A.next->ak b=ρ b
 kept:Kept ρ A w w'
 next:A.next<=B.next
 low:B.low<=A.low
 same:∀ b,b < A.next->b < B.low->B.get b=A.get b
 S4:∀ k,k < w.heap.size->Ew ak B k->Ew ρ A k
theorem Kept.refl (ρ:Ren) (A:St) (w:World):Kept ρ A w w:=⟨rfl,rfl,rfl,ao _,fun _ _ _=>rfl⟩
theorem cp.refl {base:Nat} {ρ:Ren} {A:St} {w:World} (h:iu ρ A base w):cp base ρ A w ρ A w:=
 ⟨h,fun _ _=>rfl,.refl _ _ _,ao _,ao _,fun _ _ _=>rfl,fun _ _ h=>h⟩
theorem cp.trans {base:Nat} {ρ ak mG:Ren} {A B C:St} {w w' xP:World} (h:cp base ρ A w ak B w') (k:cp base ak B w' mG C xP):cp base ρ A w mG C xP where
 dI:=k.dI
 ext b hb:=(k.ext b (dG hb h.next)).trans (h.ext b hb)
 kept:={
  os:=k.kept.os.trans h.kept.os
  tape:=k.kept.tape.trans h.kept.tape
  output:=k.kept.output.trans h.kept.output
  size:=dA h.kept.size k.kept.size
  block:=fun i hi hn=>(k.kept.block i (dG hi h.kept.size) (fun hk=>hn (h.S4 i hi hk))).trans (h.kept.block i hi hn) }
 next:=dA h.next k.next
 low:=dA k.low h.low
 same b hb hl:=(k.same b (dG hb h.next) hl).trans (h.same b hb (dG hl k.low))
 S4 i hi hk:=h.S4 i hi (k.S4 i (dG hi h.kept.size) hk)
theorem cp.le {base:Nat} {ρ ak:Ren} {A B:St} {w w' : World} (h:cp base ρ A w ak B w') (hs:iu ρ A base w):ρ.le ak:=
 fun b l e=>by rw [h.ext b (hs.fT b l e)]; exact e
@[simp] theorem St.bZ (A:St) (b:Nat) (o:aY) (x:Nat):(A.put b o).get x=if x=b then some o else A.get x:=by
 simp [St.put,St.get,Trie.iX]
@[simp] theorem St.FQ (A:St) (b:Nat) (o:aY):(A.put b o).members=A.members:=rfl
@[simp] theorem St.o9 (A:St) (b:Nat) (o:aY):(A.put b o).next=A.next:=rfl
theorem St.Od (A:St) (b:Nat) (o:aY):(A.put b o).low=Nat.min A.low b:=rfl
@[simp] theorem St.cV (A:St) (o:aY) (x:Nat):(A.new o).get x=if x=A.next then some o else A.get x:=by
 simp [St.new,St.get,Trie.iX]
@[simp] theorem St.jX (A:St) (o:aY):(A.new o).members=A.members:=rfl
@[simp] theorem St.cv (A:St) (o:aY):(A.new o).next=A.next+1:=rfl
@[simp] theorem St.low_new (A:St) (o:aY):(A.new o).low=A.low:=rfl
@[simp] theorem St.get_join (A:St) (f b x:Nat):(A.join f b).get x=A.get x:=rfl
@[simp] theorem St.next_join (A:St) (f b:Nat):(A.join f b).next=A.next:=rfl
@[simp] theorem St.low_join (A:St) (f b:Nat):(A.join f b).low=A.low:=rfl
theorem St.yG (A:St) (f b x:Nat):(A.join f b).members x=if x=f then b::A.members f else A.members x:=by
 simp only [St.join,St.members,Trie.iX];split <;> rfl
theorem aa6 (lo hi:Nat):nm (some .dead) lo hi=false:=rfl
theorem xQ (b lo hi x:Nat):∀ (L:List Nat) (A:St),(A.kill b lo hi L).get x=if x∈L/\x≠b/\nm (A.get x) lo hi=true then some .dead else A.get x
 | [],A=>by simp [St.kill]
 | y::L,A=>by
  simp only [St.kill];cases hc:(!(Nat.beq y b)&&nm (A.get y) lo hi) with
  | true=>
   simp only [aj,iy] at hc;have hyb:y≠b:=Nat.ne_of_beq_eq_false hc.1;rw [ah,xQ b lo hi x L];by_cases v7:x=y
   ·subst v7
    simp [aa6,hyb,hc.2]
   ·simp [v7]
  | false=>
   rw [ay,xQ b lo hi x L];by_cases v7:x=y
   ·subst v7
    have : ¬(x≠b/\nm (A.get x) lo hi=true):=by
     rintro ⟨h1,h2⟩;rw [h2,yD,Bool.not_eq_false'] at hc;exact h1 (aD hc)
    rw [ae (fun h=>this ⟨h.2.1,h.2.2⟩),ae (fun h=>this ⟨h.2.1,h.2.2⟩)]
   ·simp [v7]
@[simp] theorem DC (b lo hi:Nat):∀ (L:List Nat) (A:St),(A.kill b lo hi L).members=A.members
 | [],A=>rfl
 | y::L,A=>by simp only [St.kill]; cases (!(Nat.beq y b)&&nm (A.get y) lo hi) <;> simp [DC b lo hi L]
@[simp] theorem FT (b lo hi:Nat):∀ (L:List Nat) (A:St),(A.kill b lo hi L).next=A.next
 | [],A=>rfl
 | y::L,A=>by simp only [St.kill]; cases (!(Nat.beq y b)&&nm (A.get y) lo hi) <;> simp [FT b lo hi L]
theorem Ex (b lo hi:Nat):∀ (L:List Nat) (A:St),(A.kill b lo hi L).low<=A.low/\∀ x,(A.kill b lo hi L).get x≠A.get x->(A.kill b lo hi L).low<=x
 | [],A=>⟨ao _,fun x h=>absurd rfl h⟩
 | y::L,A=>by
  simp only [St.kill];cases hc:(!(Nat.beq y b)&&nm (A.get y) lo hi) with
  | true=>
   rw [ah];obtain ⟨h1,h2⟩:=Ex b lo hi L (A.put y .dead);rw [St.Od] at h1;have hle:Nat.min A.low y<=A.low:=Nat.min_le_left _ _;refine ⟨dA h1 hle,fun x hx=>?_⟩;by_cases v7:x=y
   ·subst v7
    exact dA h1 (Nat.min_le_right _ _)
   ·exact h2 x (by simpa [v7] using hx)
  | false=>
   rw [ay];exact Ex b lo hi L A
theorem Bt (b:Nat):∀ (vs:List Value) (o:Nat) (w:World),(w.setCells b o vs).heap.size=w.heap.size
 | [],_,_=>rfl
 | v::r,o,w=>by rw [World.setCells,Bt b r]; simp
theorem qc (b:Nat):∀ (vs:List Value) (o:Nat) (w:World),(w.setCells b o vs).os=w.os/\(w.setCells b o vs).tape=w.tape/\(w.setCells b o vs).output=w.output
 | [],_,_=>⟨rfl,rfl,rfl⟩
 | v::r,o,w=>by rw [World.setCells]; exact qc b r (o+1) _
theorem jY (b:Nat) {k:Nat} (hk:k≠b):∀ (vs:List Value) (o:Nat) (w:World),(w.setCells b o vs).heap[k]? = w.heap[k]?
 | [],_,_=>rfl
 | v::r,o,w=>by rw [World.setCells,jY b hk r]; exact RowKit.Below.heap_setCell _ _ _ _ hk
theorem S5 (w:World) (a x:Addr) (v:Value):((w.setCell a v).cell? x).isSome=(w.cell? x).isSome:=by
 by_cases h:a=x
 ·subst h
  cases hc:w.cell? a with
  | some u=>rw [World.cell?_setCell_same _ _ _ hc]; rfl
  | none=>
   simp only [World.setCell,World.cell?,Array.getElem?_modify,if_true] at hc ⊢;cases hh:w.heap[a.block]? with
   | none=>simp
   | some o=>
    rw [hh] at hc;cases o <;> simp at hc ⊢;intro h1;simpa [h1] using hc h1
 ·rw [World.cell?_setCell_other _ _ _ _ h]
theorem sK (b:Nat) (x:Addr):∀ (vs:List Value) (o:Nat) (w:World),((w.setCells b o vs).cell? x).isSome=(w.cell? x).isSome
 | [],_,_=>rfl
 | v::r,o,w=>by rw [World.setCells,sK b x r,S5]
theorem FU {ρ:Ren} (F:Nat->Option Value):∀ (cs:List Value) (i:Nat),(∀ j v,cs[j]? = some v->∃ v',F (i+j)=some v'/\VR ρ v v')->
  ∃ bX,cz ρ cs bX/\∀ (j:Nat) (v' : Value),bX[j]? = some v'->F (i+j)=some v'
 | [],_,_=>⟨[],.nil,by simp⟩
 | x::xs,i,h=>by
  obtain ⟨y,hy,hv⟩:=h 0 x rfl;obtain ⟨ys,h1,h2⟩:=FU F xs (i+1) (fun j v e=>by have:=h (j+1) v (by simpa using e); rwa [show i+(j+1)=i+1+j by omega] at this);refine ⟨y::ys,.cons hv h1,fun j v' e=>?_⟩;cases j with
  | zero=>simp at e; subst e; exact hy
  | succ j=>rw [show i+(j+1)=i+1+j by omega]; exact h2 j v' (by simpa using e)
theorem jq (b o j:Nat):(⟨b,o,none⟩:Addr).add j=⟨b,o+j,none⟩:=by unfold Addr.add; split <;> simp_all
theorem VR.fX {ρ:Ren} {a:Addr} {v:Value} (h:VR ρ (.pointer (some a)) v):a.spot=none/\∃ l,ρ a.block=some l/\v = .pointer (some ⟨l.cb,l.cf+a.off,none⟩):=by simpa only [VR] using h
theorem sL {P:Program} {ρ:Ren} {A:St} {base:Nat} {w:World} {a:Addr} {n:Nat} {cs:List Value} {l:Loc} (hs:Rel ρ A.get A.members base w) (hl:A.nP a n=some cs) (iY:ρ a.block=some l) :
  ∃ bX,cz ρ cs bX/\cs.length=n/\(∀ v∈cs,scalar v=true)/\(loadCells ⟨l.cb,l.cf+a.off,none⟩ n).run P w = .ok bX.toArray w:=by
 simp only [St.nP] at hl;cases hp:bI a with
 | false=>simp [hp] at hl
 | true=>
  rw [hp,ah] at hl;obtain ⟨mI,h1,h2⟩:=aO.1 hl;simp only [qZ] at h1;split at h1
  ·rename_i c e o aZ hg
   simp at h1; subst h1;rw [nV] at h2;obtain ⟨rfl,hlen⟩:=Eu h2;obtain ⟨l',iJ,ok⟩:=hs.row _ _ _ _ _ hg;rw [iY] at iJ; simp at iJ; subst iJ;have fv:∀ (j:Nat) (v:Value),((c.drop a.off).take n)[j]? = some v->j < n/\c[a.off+j]? = some v:=by
    intro j v e;rw [kS] at e;split at e
    ·rename_i hj; rw [lF] at e; exact ⟨hj,e⟩
    ·simp at e
   obtain ⟨bX,hr,hc⟩:=FU (ρ:=ρ) (fun j=>w.cell? ⟨l.cb,l.cf+a.off+j,none⟩) ((c.drop a.off).take n) 0 (fun j v e=>by
    obtain ⟨v',h3,h4,_⟩:=ok.cells _ _ (fv j v e).2;exact ⟨v',by rw [bG,nG]; exact h3,h4⟩)
   have hn:bX.length=n:=by rw [hr.length,ju,Nat.min_eq_left hlen]
   refine ⟨bX,hr,by rw [ju,Nat.min_eq_left hlen],fun v hv=>?_,?_⟩
   ·obtain ⟨j,hj⟩:=List.getElem?_of_mem hv
    exact (ok.cells _ _ (fv j v hj).2).choose_spec.2.2
   ·have:=run_loadCells_list (P:=P) w ⟨l.cb,l.cf+a.off,none⟩ bX (fun j v e=>by rw [jq]; simpa using hc j v e)
    rwa [hn] at this
  ·simp at h1
theorem Oe {o:aY} {cs:List Value} {e:Nat} {own:Bool} {aF f lo hi:Nat} (ho:o = .row cs e own (some (aF,f))) (h:nm (some o) lo hi=false) :
  f+cs.length<=lo\/hi<=f:=by
 subst ho;simp only [nm,meets,Bool.and_eq_false_iff] at h;rcases h with h | h
 ·left
  have : ¬ lo < f+cs.length:=fun aJ=>by rw [show Nat.blt _ _=true from by rw [b7]; exact aJ] at h; simp at h
  omega
 ·right
  have : ¬ f < hi:=fun aJ=>by rw [show Nat.blt _ _=true from by rw [b7]; exact aJ] at h; simp at h
  omega
theorem Og {ρ:Ren} {A:St} {base:Nat} {w:World} {b off aQ:Nat} {cs bX vs bw:List Value} {aZ:Option (Nat×Nat)} {l:Loc}
  (hs:iu ρ A base w) (hg:A.get b=some (.row cs aQ true aZ)) (hw:eY off cs vs=some bX) (hv:cz ρ vs bw) (h1:∀ v∈vs,scalar v=true) (iY:ρ b=some l) :
  cp base ρ A w ρ ((A.put b (.row bX aQ true aZ)).eF b aZ off (off+vs.length)) (w.setCells l.cb (l.cf+off) bw):=by
 obtain ⟨l',iJ,ok⟩:=hs.rel.row _ _ _ _ _ hg;rw [iY] at iJ; simp at iJ; subst iJ;obtain ⟨hlen,jG,fv⟩:=fB hw;have CF:bw.length=vs.length:=hv.length;have hB:∀ x,((A.put b (.row bX aQ true aZ)).eF b aZ off (off+vs.length)).get x =
   if x=b then some (.row bX aQ true aZ) else
    (match aZ with
    | none=>A.get x
    | some (aF,f)=>if x∈A.members aF/\nm (A.get x) (f+off) (f+(off+vs.length))=true then some .dead else A.get x):=by
  intro x;cases aZ with
  | none=>simp [St.eF]
  | some p=>
   obtain ⟨aF,f⟩:=p;simp only [St.eF,xQ,St.FQ,St.bZ];by_cases hx:x=b
   ·simp [hx]
   ·simp [hx]
 have kx:((A.put b (.row bX aQ true aZ)).eF b aZ off (off+vs.length)).members=A.members:=by
  cases aZ <;> simp [St.eF]
 have fU:((A.put b (.row bX aQ true aZ)).eF b aZ off (off+vs.length)).next=A.next:=by
  cases aZ <;> simp [St.eF]
 have G8:((A.put b (.row bX aQ true aZ)).eF b aZ off (off+vs.length)).low<=Nat.min A.low b/\
   ∀ x,x≠b->((A.put b (.row bX aQ true aZ)).eF b aZ off (off+vs.length)).get x≠A.get x->((A.put b (.row bX aQ true aZ)).eF b aZ off (off+vs.length)).low<=x:=by
  cases aZ with
  | none=>exact ⟨ao _,fun x hx h=>absurd (by simp [St.eF,hx]) h⟩
  | some p=>
   obtain ⟨h2,h3⟩:=Ex b (p.2+off) (p.2+(off+vs.length)) ((A.put b (.row bX aQ true (some p))).members p.1) (A.put b (.row bX aQ true (some p)));exact ⟨h2,fun x hx h=>h3 x (by simpa [St.eF,hx] using h)⟩
 generalize (A.put b (.row bX aQ true aZ)).eF b aZ off (off+vs.length)=B at hB kx fU G8;have mg:∀ x o,x≠b->B.get x=some o->o≠.dead->A.get x=some o/\∀ aF f,aZ=some (aF,f)->x∈A.members aF->nm (some o) (f+off) (f+(off+vs.length))=false:=by
  intro x o hx ho hd;rw [hB,ae hx] at ho;cases aZ with
  | none=>exact ⟨ho,fun _ _ h=>by simp at h⟩
  | some p=>
   obtain ⟨aF,f⟩:=p;simp only at ho;split at ho
   ·simp at ho; exact absurd ho.symm hd
   ·rename_i hc
    refine ⟨ho,fun fam' f' h hm=>?_⟩;simp at h;obtain ⟨rfl,rfl⟩:=h;rw [<- ho];cases eU:nm (A.get x) (f+off) (f+(off+vs.length)) with
    | false=>rfl
    | true=>exact absurd ⟨hm,eU⟩ hc
 have J1:aY.cr (.row cs aQ true aZ)=true:=rfl;have la:∀ x:Addr,(x.block=l.cb->x.spot=none->x.off < l.cf+off\/l.cf+off+bw.length<=x.off)->(w.setCells l.cb (l.cf+off) bw).cell? x=w.cell? x:=
  fun x h=>World.cell?_setCells_out _ _ _ _ _ h
 have Ue:∀ x,((w.setCells l.cb (l.cf+off) bw).cell? x).isSome=(w.cell? x).isSome:=fun x=>sK _ _ _ _ _;have xR:∀ x,(w.setCells l.cb (l.cf+off) bw).frozen? x=w.frozen? x:=fun x=>World.frozen?_setCells _ _ _ _ _;have cT:(w.setCells l.cb (l.cf+off) bw).heap.size=w.heap.size:=Bt _ _ _ _;have CT:∀ x iv e2 CU oq l2,x≠b->B.get x=some (.row iv e2 CU oq)->ρ x=some l2->lM ρ base w l2 iv e2 CU oq->∀ i,i < iv.length->
   (w.setCells l.cb (l.cf+off) bw).cell? ⟨l2.cb,l2.cf+i,none⟩=w.cell? ⟨l2.cb,l2.cf+i,none⟩:=by
  intro x iv e2 CU oq l2 hx eR aio fJ i hi;refine la _ (fun Y4 _=>?_);simp only at Y4 ⊢;obtain ⟨hA,eU⟩:=mg x _ hx eR (by simp);cases CU with
  | false=>have h3:=fJ.nt rfl; have h4:=ok.cr rfl; omega
  | true=>
   obtain ⟨aF,f1,f2,e1,e2',e3⟩:=hs.rel.apart x b _ _ l2 l hx hA hg rfl J1 aio iY Y4;simp only [aY.hO] at e1 e2';subst e1 e2';have hm:=hs.rel.aX x _ aF f1 hA rfl;have:=Oe rfl (eU aF f2 rfl hm);rw [CF];omega
 refine ⟨⟨⟨?_,?_,?_,?_,?_,?_⟩,?_,?_,hs.lL⟩,fun _ _=>rfl,⟨(qc _ _ _ _).1,(qc _ _ _ _).2.1,(qc _ _ _ _).2.2,Nat.le_of_eq cT.symm,?_⟩,?_,?_,?_,?_⟩
 ·intro x iv e2 CU oq eR
  by_cases hx:x=b
  ·subst hx
   rw [hB,ax rfl] at eR;simp at eR;obtain ⟨rfl,rfl,rfl,rfl⟩:=eR;refine ⟨l,iY,⟨fun i v hi=>?_,ok.nt,ok.cr,fun h j hj=>?_,by rw [hlen]; exact ok.fits,fun h h'=>by rw [hlen]; exact ok.ends h h',ok.aQ,by rw [cT]; exact ok.gC,fun h1 h2 j=>by rw [xR]; exact ok.mark h1 h2 j⟩⟩
   ·rw [fv] at hi
    split at hi
    ·rename_i hc
     obtain ⟨v',zD,Mo⟩:=hv.get hi;refine ⟨v',?_,Mo,h1 v (eS hi)⟩;have aJ:i - off < bw.length:=by rw [CF]; omega
     have:=World.cell?_setCells_in l.cb bw (l.cf+off) w (fun j hj=>by
      have bx:vs≠[]:=by intro e; subst e; simp at CF; rw [CF] at hj; simp at hj
      have h5:=jG bx;have h6:=ok.fits;exact (ok.there rfl (l.cf+off+j) (by rw [CF] at hj; omega)).1) (i - off) aJ
     rw [show l.cf+off+(i - off)=l.cf+i by omega] at this;rw [this];rw [<- zD,cl aJ]
    ·rename_i hc
     obtain ⟨v',zD,Mo,hv3⟩:=ok.cells i v hi;refine ⟨v',?_,Mo,hv3⟩;rw [la]
     ·exact zD
     ·intro _ _
      simp only;rw [CF];omega
   ·rw [Ue,xR]; exact ok.there h j hj
  ·obtain ⟨hA,_⟩:=mg x _ hx eR (by simp)
   obtain ⟨l2,iK,fJ⟩:=hs.rel.row _ _ _ _ _ hA;refine ⟨l2,iK,⟨fun i v hi=>?_,fJ.nt,fJ.cr,fun h j hj=>?_,fJ.fits,fJ.ends,fJ.aQ,by rw [cT]; exact fJ.gC,fun h1 h2 j=>by rw [xR]; exact fJ.mark h1 h2 j⟩⟩
   ·rw [CT x _ _ _ _ l2 hx eR iK fJ i (cw.1 hi).1]; exact fJ.cells i v hi
   ·rw [Ue,xR]; exact fJ.there h j hj
 ·intro x es eR
  have hx:x≠b:=by intro e; subst e; rw [hB,ax rfl] at eR; simp at eR
  obtain ⟨hA,_⟩:=mg x _ hx eR (by simp);obtain ⟨l2,iK,fJ⟩:=hs.rel.map _ _ hA;refine ⟨l2,iK,⟨fJ.cr,?_⟩⟩;obtain ⟨aP,clock,h3,h4⟩:=fJ.gC;refine ⟨aP,clock,?_,h4⟩;rw [jY]
  ·exact h3
  ·intro e
   obtain ⟨_,_,_,e1,_⟩:=hs.rel.apart x b _ _ l2 l hx hA hg rfl J1 iK iY e;simp [aY.hO] at e1
 ·intro x s pos eR
  have hx:x≠b:=by intro e; subst e; rw [hB,ax rfl] at eR; simp at eR
  obtain ⟨hA,_⟩:=mg x _ hx eR (by simp);obtain ⟨l2,iK,fJ⟩:=hs.rel.iter _ _ _ hA;refine ⟨l2,iK,⟨fJ.cr,fJ.gC.1,?_⟩⟩;rw [jY]
  ·exact fJ.gC.2
  ·intro e
   obtain ⟨_,_,_,e1,_⟩:=hs.rel.apart x b _ _ l2 l hx hA hg rfl J1 iK iY e;simp [aY.hO] at e1
 ·intro x st e t ps a c eR
  have hx:x≠b:=by intro e; subst e; rw [hB,ax rfl] at eR; simp at eR
  obtain ⟨hA,_⟩:=mg x _ hx eR (by simp);obtain ⟨l2,iK,fJ⟩:=hs.rel.loop _ _ _ _ _ _ _ hA;refine ⟨l2,iK,⟨fJ.cr,?_⟩⟩;obtain ⟨fn,tmps,D,N,h3,h4⟩:=fJ.gC;refine ⟨fn,tmps,D,N,?_,h4⟩;rw [jY]
  ·exact h3
  ·intro e
   obtain ⟨_,_,_,e1,_⟩:=hs.rel.apart x b _ _ l2 l hx hA hg rfl J1 iK iY e;simp [aY.hO] at e1
 ·
  have DD:∀ x o,B.get x=some o->o.cr=true->∃ o',A.get x=some o'/\o'.cr=true/\o'.hO=o.hO:=by
   intro x o hx hm;by_cases Oh:x=b
   ·subst Oh
    rw [hB,ax rfl] at hx;simp at hx;subst hx;exact ⟨_,hg,rfl,rfl⟩
   ·exact ⟨o,(mg x o Oh hx (by intro e; subst e; simp [aY.cr] at hm)).1,hm,rfl⟩
  intro b1 b2 o1 o2 l1 l2 bx h1' HC m1 m2 r1 r2 vM;obtain ⟨p1,g1,n1,k1⟩:=DD _ _ h1' m1;obtain ⟨p2,g2,n2,k2⟩:=DD _ _ HC m2;rw [<- k1,<- k2];exact hs.rel.apart b1 b2 p1 p2 l1 l2 bx g1 g2 n1 n2 r1 r2 vM
 ·
  intro x o aF f hx hk;rw [kx];by_cases Oh:x=b
  ·subst Oh
   rw [hB,ax rfl] at hx;simp at hx;subst hx;exact hs.rel.aX x _ aF f hg hk
  ·exact hs.rel.aX x o aF f (mg x o Oh hx (by intro e; subst e; simp [aY.hO] at hk)).1 hk
 ·intro x l2 hx; rw [fU]; exact hs.fT x l2 hx
 ·rw [cT]; exact hs.size
 ·intro k hk hn
  refine jY _ (fun e=>hn ⟨b,_,l,hg,rfl,iY,e.symm⟩) _ _ _
 ·exact Nat.le_of_eq fU.symm
 ·exact dA G8.1 (Nat.min_le_left _ _)
 ·intro x hx hxl
  by_cases Oh:x=b
  ·subst Oh
   exact absurd (dA G8.1 (Nat.min_le_right _ _)) (by omega)
  ·cases Classical.em (B.get x=A.get x) with
   | inl h=>exact h
   | inr h=>have:=G8.2 x Oh h; omega
 ·rintro k hk ⟨x,o,l2,hx,hm,hr,rfl⟩
  by_cases Oh:x=b
  ·subst Oh
   rw [iY] at hr; simp at hr; subst hr;exact ⟨x,_,l,hg,rfl,iY,rfl⟩
  ·exact ⟨x,o,l2,(mg x o Oh hx (by intro e; subst e; simp [aY.cr] at hm)).1,hm,hr,rfl⟩
theorem yH {P:Program} {ρ:Ren} {A B:St} {base:Nat} {w:World} {a:Addr} {vs bw:List Value} {l:Loc} (hs:iu ρ A base w) (hl:A.rE a vs=some B) (iY:ρ a.block=some l) (hv:cz ρ vs bw) :
  ∃ w',(storeCells ⟨l.cb,l.cf+a.off,none⟩ bw).run P w = .ok () w'/\cp base ρ A w ρ B w':=by
 simp only [St.rE] at hl;cases hp:(bI a&&vs.all scalar) with
 | false=>simp [hp] at hl
 | true=>
  rw [hp,ah] at hl;simp only [aj,dU] at hp;split at hl
  ·rename_i cs aQ aZ hg
   obtain ⟨bX,hw,rfl⟩:=aU.1 hl;have y7:=Og (w:=w) hs hg hw hv hp.2 iY;refine ⟨_,?_,y7⟩;obtain ⟨l',iJ,ok⟩:=hs.rel.row _ _ _ _ _ hg;rw [iY] at iJ; simp at iJ; subst iJ;obtain ⟨_,jG,_⟩:=fB hw;have CF:bw.length=vs.length:=hv.length;have mr:∀ j,j < bw.length->l.cf+a.off+j < l.rW:=fun j hj=>by
    have bx:vs≠[]:=by intro e; subst e; simp at CF; rw [CF] at hj; simp at hj
    have h5:=jG bx;have h6:=ok.fits;rw [CF] at hj;omega
   have:=run_storeCells_cells (P:=P) l.cb (l.cf+a.off) bw 0 w (fun j hj=>(ok.there rfl _ (mr j hj)).1) (fun j hj=>(ok.there rfl _ (mr j hj)).2) (fun v vN=>by
    obtain ⟨i,hi⟩:=List.getElem?_of_mem vN;have aJ:i < vs.length:=by rw [<- CF]; exact (cw.1 hi).1
    obtain ⟨u,hu⟩:∃ u,vs[i]? = some u:=⟨vs[i],cl aJ⟩
    obtain ⟨v2,h7,h8⟩:=hv.get hu;rw [hi] at h7; simp at h7; subst h7;exact h8.scalar (hp.2 u (eS hu)))
   exact this
  ·simp at hl
def Ren.set (ρ:Ren) (n:Nat) (l:Loc):Ren:=fun b=>if b=n then some l else ρ b
theorem Ren.dk (ρ:Ren) (n:Nat) (l:Loc):ρ.set n l n=some l:=by simp [Ren.set]
theorem Ren.cX (ρ:Ren) {n b:Nat} (l:Loc) (h:b≠n):ρ.set n l b=ρ b:=by simp [Ren.set,h]
theorem iu.um {ρ:Ren} {A:St} {base:Nat} {w:World} (hs:iu ρ A base w) (l:Loc):ρ.le (ρ.set A.next l):=by
 intro b l' e;have:=hs.fT b l' e;rw [Ren.cX ρ l (by omega)];exact e
theorem eZ.mono {ρ ak:Ren} (h:ρ.le ak):∀ {es:List (Value×Value)} {l:List MapEntry},eZ ρ es l->eZ ak es l
 | [],_,k=>k
 | (k,v)::es,l,m=>by
  simp only [eZ] at m ⊢;obtain ⟨e,r,e1,e2,e3,e4⟩:=m;exact ⟨e,r,e1,e2.mono h,e3.mono h,eZ.mono h e4⟩
theorem eZ.back {ρ ak:Ren} (h:ρ.le ak):∀ {es:List (Value×Value)} {u l:List MapEntry},eZ ρ es u->eZ ak es l->eZ ρ es l
 | [],_,_,_,k=>k
 | (k,v)::es,u,l,hu,m=>by
  simp only [eZ] at hu m ⊢;obtain ⟨_,_,_,a1,a2,a3⟩:=hu;obtain ⟨e,r,e1,e2,e3,e4⟩:=m;exact ⟨e,r,e1,VR.back h a1 e2,VR.back h a2 e3,eZ.back h a3 e4⟩
def pb (ρ:Ren) (base:Nat) (w:World) (l:Loc):aY->Prop
 | .row cs aQ own aZ=>lM ρ base w l cs aQ own aZ
 | .map es=>Mn ρ base w l es
 | .iter s pos=>Ob base w l s pos
 | .dead=>True
 | .loop st e t ps a c=>CS ρ base w l st e t ps a c
theorem Rel.obj {ρ:Ren} {get:Nat->Option aY} {mem:Nat->List Nat} {base:Nat} {w:World} (h:Rel ρ get mem base w) {b:Nat} {o:aY} (hg:get b=some o) (hd:o≠.dead) :
  ∃ l,ρ b=some l/\pb ρ base w l o:=by
 cases o with
 | row cs aQ own aZ=>exact h.row _ _ _ _ _ hg
 | map es=>exact h.map _ _ hg
 | iter s pos=>exact h.iter _ _ _ hg
 | dead=>exact absurd rfl hd
 | loop st e t ps a c=>exact h.loop _ _ _ _ _ _ _ hg
theorem Rel.qd {ρ:Ren} {get:Nat->Option aY} {mem:Nat->List Nat} {base:Nat} {w:World}
  (obj:∀ b o,get b=some o->o≠.dead->∃ l,ρ b=some l/\pb ρ base w l o)
  (apart:∀ b1 b2 o1 o2 l1 l2,b1≠b2->get b1=some o1->get b2=some o2->o1.cr=true->o2.cr=true->ρ b1=some l1->ρ b2=some l2->l1.cb=l2.cb->
   ∃ aF f1 f2,o1.hO=some (aF,f1)/\o2.hO=some (aF,f2)/\l1.cf+f2=l2.cf+f1)
  (aX:∀ b o aF f,get b=some o->o.hO=some (aF,f)->b∈mem aF):Rel ρ get mem base w:=
 ⟨fun b _ _ _ _ hg=>obj b _ hg (by simp),fun b _ hg=>obj b _ hg (by simp),fun b _ _ hg=>obj b _ hg (by simp),fun b _ _ _ _ _ _ hg=>obj b _ hg (by simp),apart,aX⟩
theorem pb.lt {ρ:Ren} {base:Nat} {w:World} {l:Loc} {o:aY} (h:pb ρ base w l o) (hd:o≠.dead):l.cb < w.heap.size:=by
 have key:∀ x,w.heap[l.cb]? = some x->l.cb < w.heap.size:=fun x e=>(jg.1 e).1;cases o with
 | row cs aQ own aZ=>exact lM.gC h
 | map es=>obtain ⟨aP,c,e,_⟩:=Mn.gC h; exact key _ e
 | iter s pos=>exact key _ (Ob.gC h).2
 | dead=>exact absurd rfl hd
 | loop st e t ps a c=>obtain ⟨_,_,_,_,q,_⟩:=CS.gC h; exact key _ q
theorem pb.dj {ρ ak:Ren} {base:Nat} {w w' : World} {l:Loc} {o:aY} (h:pb ρ base w l o) (hle:ρ.le ak) (hb:w'.heap[l.cb]? = w.heap[l.cb]?) (cT:w.heap.size<=w'.heap.size):pb ak base w' l o:=by
 have hc:∀ i,w'.cell? ⟨l.cb,i,none⟩=w.cell? ⟨l.cb,i,none⟩:=fun i=>by simp only [World.cell?,hb]
 have hf:∀ i,w'.frozen? ⟨l.cb,i,none⟩=w.frozen? ⟨l.cb,i,none⟩:=fun i=>by simp only [World.frozen?,hb]
 cases o with
 | row cs aQ own aZ=>
  have ok:lM ρ base w l cs aQ own aZ:=h;exact ⟨fun i v hi=>by obtain ⟨v',h1,h2,h3⟩:=ok.cells i v hi; exact ⟨v',by rw [hc]; exact h1,h2.mono hle,h3⟩,ok.nt,ok.cr,
   fun h j hj=>by rw [hc,hf]; exact ok.there h j hj,ok.fits,ok.ends,ok.aQ,dG ok.gC cT,fun h1 h2 j=>by rw [hf]; exact ok.mark h1 h2 j⟩
 | map es=>
  have ok:Mn ρ base w l es:=h;obtain ⟨aP,c,e,m⟩:=ok.gC;exact ⟨ok.cr,aP,c,by rw [hb]; exact e,m.mono hle⟩
 | iter s pos=>
  have ok:Ob base w l s pos:=h;exact ⟨ok.cr,ok.gC.1,by rw [hb]; exact ok.gC.2⟩
 | dead=>trivial
 | loop st e t ps a c=>
  have ok:CS ρ base w l st e t ps a c:=h;obtain ⟨fn,tmps,D,N,q,r⟩:=ok.gC;exact ⟨ok.cr,fn,tmps,D,N,by rw [hb]; exact q,r.mono hle⟩
theorem pb.back {ρ ak:Ren} {base:Nat} {w w' : World} {l:Loc} {o:aY} (hle:ρ.le ak) (h:pb ρ base w l o) (k:pb ak base w' l o):pb ρ base w' l o:=by
 cases o with
 | row cs aQ own aZ=>
  have a:lM ρ base w l cs aQ own aZ:=h;have b:lM ak base w' l cs aQ own aZ:=k;refine ⟨fun i v hi=>?_,b.nt,b.cr,b.there,b.fits,b.ends,b.aQ,b.gC,b.mark⟩;obtain ⟨u,_,h2,_⟩:=a.cells i v hi;obtain ⟨v',h3,h4,h5⟩:=b.cells i v hi;exact ⟨v',h3,VR.back hle h2 h4,h5⟩
 | map es=>
  have a:Mn ρ base w l es:=h;have b:Mn ak base w' l es:=k;obtain ⟨u,_,_,m1⟩:=a.gC;obtain ⟨aP,c,e,m2⟩:=b.gC;exact ⟨b.cr,aP,c,e,m1.back hle m2⟩
 | iter s pos=>exact k
 | dead=>trivial
 | loop st e t ps c d=>
  have a:CS ρ base w l st e t ps c d:=h;have b:CS ak base w' l st e t ps c d:=k;obtain ⟨_,_,_,_,_,r1⟩:=a.gC;obtain ⟨fn,tmps,D,N,q,r⟩:=b.gC;exact ⟨b.cr,fn,tmps,D,N,q,r.size,fun i=>VR.back hle (r1.val i) (r.val i),r.none,r.adB⟩
theorem xS {ρ:Ren} {A B:St} {base:Nat} {w:World} {o:aY} {obj:Obj} {l:Loc} (hs:iu ρ A base w)
  (hB:∀ x,B.get x=if x=A.next then some o else A.get x) (hm:∀ f x,x∈A.members f->x∈B.members f) (hk:∀ aF f,o.hO=some (aF,f)->A.next∈B.members aF)
  (hn:B.next=A.next+1) (G8:B.low<=A.low) (zF:∀ x,x < A.next->x < B.low->B.get x=A.get x) (hl:l.cb=w.heap.size) (bM:pb (ρ.set A.next l) base (w.alloc obj) l o) :
  cp base ρ A w (ρ.set A.next l) B (w.alloc obj):=by
 have hle:=hs.um l;have hold:∀ k,k < w.heap.size->(w.alloc obj).heap[k]? = w.heap[k]?:=fun k hk=>RowKit.Below.heap_alloc _ _ _ hk;have cT:w.heap.size<=(w.alloc obj).heap.size:=by simp
 have aJ:∀ b l',ρ b=some l'->b≠A.next:=fun b l' e=>by have:=hs.fT b l' e; omega
 have hgl:∀ b o' l',A.get b=some o'->o'≠.dead->ρ b=some l'->l'.cb < w.heap.size:=fun b o' l' hg hd hr=>by
  obtain ⟨l2,e,ok⟩:=hs.rel.obj hg hd;rw [hr] at e; simp at e; subst e;exact ok.lt hd
 refine ⟨⟨.qd ?_ ?_ ?_,?_,dA hs.size cT,hs.lL.mono hle⟩,?_,⟨rfl,rfl,rfl,cT,fun k hk _=>hold k hk⟩,by omega,G8,zF,?_⟩
 ·intro b o' hg hd
  rw [hB] at hg;split at hg
  ·rename_i e; subst e; simp at hg; subst hg; exact ⟨l,Ren.dk _ _ _,bM⟩
  ·rename_i e
   obtain ⟨l',h1,h2⟩:=hs.rel.obj hg hd;exact ⟨l',hle _ _ h1,h2.dj hle (hold _ (h2.lt hd)) cT⟩
 ·intro b1 b2 o1 o2 l1 l2 bx g1 g2 m1 m2 r1 r2 vM
  have hd1:o1≠.dead:=by intro e; subst e; simp [aY.cr] at m1
  have hd2:o2≠.dead:=by intro e; subst e; simp [aY.cr] at m2
  rw [hB] at g1 g2;by_cases e1:b1=A.next
  ·have e2:b2≠A.next:=fun e=>bx (e1.trans e.symm)
   rw [ae e2] at g2;rw [e1,Ren.dk] at r1;rw [Ren.cX _ _ e2] at r2;simp at r1; subst r1;have:=hgl b2 o2 l2 g2 hd2 r2;omega
  ·rw [ae e1] at g1
   rw [Ren.cX _ _ e1] at r1;by_cases e2:b2=A.next
   ·rw [e2,Ren.dk] at r2
    simp at r2; subst r2;have:=hgl b1 o1 l1 g1 hd1 r1;omega
   ·rw [ae e2] at g2
    rw [Ren.cX _ _ e2] at r2;exact hs.rel.apart b1 b2 o1 o2 l1 l2 bx g1 g2 m1 m2 r1 r2 vM
 ·intro b o' aF f hg pd
  rw [hB] at hg;split at hg
  ·rename_i e; subst e; simp at hg; subst hg; exact hk aF f pd
  ·exact hm aF b (hs.rel.aX b o' aF f hg pd)
 ·intro b l' h
  rw [hn];by_cases e:b=A.next
  ·omega
  ·rw [Ren.cX _ _ e] at h; have:=hs.fT b l' h; omega
 ·intro b hb; exact Ren.cX _ _ (by omega)
 ·rintro k hk ⟨b,o',l',hg,Ey,hr,rfl⟩
  by_cases e:b=A.next
  ·subst e
   rw [Ren.dk] at hr;simp at hr; subst hr;omega
  ·rw [hB,ae e] at hg
   rw [Ren.cX _ _ e] at hr;exact ⟨b,o',l',hg,Ey,hr,rfl⟩
theorem cp.drew {base:Nat} {ρ:Ren} {A:St} {w:World} (hs:iu ρ A base w):cp base ρ A w ρ A w.drew:=
 ⟨⟨.qd (fun b o hg hd=>by obtain ⟨l,h1,h2⟩:=hs.rel.obj hg hd; exact ⟨l,h1,h2.dj (Ren.le_refl _) rfl (ao _)⟩) hs.rel.apart hs.rel.aX,hs.fT,hs.size,hs.lL⟩,
  fun _ _=>rfl,⟨rfl,rfl,rfl,ao _,fun _ _ _=>rfl⟩,ao _,ao _,fun _ _ _=>rfl,fun _ _ h=>h⟩
theorem Lh {ρ:Ren} {A:St} {base:Nat} {w:World} {cs:List Value} {c:Array Value} {aQ:Nat} (T:TypeId) (hs:iu ρ A base w) (hc:cz ρ cs c.toList) (h1:∀ v∈cs,scalar v=true) :
  cp base ρ A w (ρ.set A.next ⟨w.heap.size,0,cs.length,aQ⟩) (A.new (.row cs aQ true none)) (w.alloc (.cells c T)):=by
 have hlen:c.size=cs.length:=hc.length;refine xS (o:=.row cs aQ true none) hs (fun x=>by simp) (fun f x h=>by simpa using h) (fun aF f h=>by simp [aY.hO] at h) (by simp) (by simp) (fun x hx _=>by simp; omega) rfl ?_;refine ⟨fun i v hi=>?_,fun h=>by simp at h,fun _=>hs.size,fun _ j hj=>?_,by simp,fun _ _=>by simp,rfl,by simp,fun _ _ j=>by simp only; rw [World.frozen?_alloc_new]⟩
 ·obtain ⟨v',h2,h3⟩:=hc.get hi
  refine ⟨v',?_,h3.mono (hs.um _),h1 v (eS hi)⟩;rw [bG,World.cell?_alloc_new];simpa using h2
 ·simp only at hj ⊢
  rw [World.cell?_alloc_new,World.frozen?_alloc_new];refine ⟨?_,rfl⟩;rw [Array.getElem?_eq_getElem (by omega)];rfl
end Go.az
end
section
namespace Go.az
open Go
def qe (o:aY) (cb:Nat):Loc:=
 match o with
 | .row cs aQ _ _=>⟨cb,0,cs.length,aQ⟩
 | _=>⟨cb,0,0,0⟩
def xT (ρ:Ren) (o:aY) (c:Obj):Prop:=
 match o with
 | .row cs _ true none=>∃ a T,c = .cells a T/\cz ρ cs a.toList/\∀ v∈cs,scalar v=true
 | .map []=>c = .map #[] 0
 | .iter s 0=>c = .stringIter ⟨⟨s⟩⟩ 0
 | _=>False
theorem xT.gD {ρ:Ren} {A:St} {base:Nat} {w:World} {o:aY} {c:Obj} (hs:iu ρ A base w) (h:xT ρ o c) :
  cp base ρ A w (ρ.set A.next (qe o w.heap.size)) (A.new o) (w.alloc c):=by
 have mh:(w.alloc c).heap[w.heap.size]? = some c:=(MapKept.heap_alloc w c).1;unfold xT at h;split at h
 ·rename_i cs aQ
  obtain ⟨a,T,rfl,h1,h2⟩:=h;exact Lh T hs h1 h2
 ·subst h
  refine xS (o:=.map []) hs (fun x=>by simp) (fun f x h=>by simpa using h) (fun aF f h=>by simp [aY.hO] at h) (by simp) (by simp) (fun x hx _=>by simp; omega) rfl ?_;exact ⟨hs.size,#[],0,mh,rfl⟩
 ·rename_i s
  subst h;refine xS (o:=.iter s 0) hs (fun x=>by simp) (fun f x h=>by simpa using h) (fun aF f h=>by simp [aY.hO] at h) (by simp) (by simp) (fun x hx _=>by simp; omega) rfl ?_;exact ⟨hs.size,rfl,mh⟩
 ·exact h.elim
def qK (ρ:Ren) (ev cj:Operand->Value) (xs:List Operand):Prop:=∀ x∈xs,VR ρ (ev x) (cj x)
theorem qK.map {ρ:Ren} {ev cj:Operand->Value} : ∀ {xs:List Operand},qK ρ ev cj xs->cz ρ (xs.map ev) (xs.map cj)
 | [],_=>.nil
 | x::xs,h=>.cons (h x (by simp)) (qK.map fun y hy=>h y (by simp [hy]))
theorem qK.left {ρ:Ren} {ev cj:Operand->Value} {xs ys:List Operand} (h:qK ρ ev cj (xs++ys)):qK ρ ev cj xs:=fun x hx=>h x (by simp [hx])
theorem qK.right {ρ:Ren} {ev cj:Operand->Value} {xs ys:List Operand} (h:qK ρ ev cj (xs++ys)):qK ρ ev cj ys:=fun x hx=>h x (by simp [hx])
theorem qK.tail {ρ:Ren} {ev cj:Operand->Value} {x:Operand} {ys:List Operand} (h:qK ρ ev cj (x::ys)):qK ρ ev cj ys:=fun y hy=>h y (by simp [hy])
def adC (v' : Value):Next->Prop
 | .value v=>v=v'
 | .skip=>v' = undef
 | _=>False
def fk (P:Program) (o:Oper):Ins->Prop
 | .pure f xs=>∀ (ρ:Ren) (ev cj:Operand->Value) (v:Value),qK ρ ev cj xs->f (xs.map ev)=some v->∃ v',VR ρ v v'/\∀ w,(execOp cj o).run P w = .ok (.value v') w
 | .read f xs=>∀ (ρ:Ren) (A:St) (base:Nat) (w:World) (ev cj:Operand->Value) (v:Value),Rel ρ A.get A.members base w->qK ρ ev cj xs->f A (xs.map ev)=some v->
   ∃ v',VR ρ v v'/\(execOp cj o).run P w = .ok (.value v') w
 | .make f xs=>∀ (ρ:Ren) (ev cj:Operand->Value) (obj:aY) (mk:Nat->Value),qK ρ ev cj xs->f (xs.map ev)=some (obj,mk)->
   ∃ (c:Obj) (mk' : Nat->Value),xT ρ obj c/\(∀ w,(execOp cj o).run P w = .ok (.value (mk' w.heap.size)) (w.alloc c))/\∀ (ak:Ren) (n cb:Nat),ak n=some (qe obj cb)->VR ak (mk n) (mk' cb)
 | .act f xs=>∀ (ρ:Ren) (A B:St) (base:Nat) (w:World) (ev cj:Operand->Value) (v:Value),iu ρ A base w->qK ρ ev cj xs->f A (xs.map ev)=some (v,B)->
   ∃ ak v' nx w',(execOp cj o).run P w = .ok nx w'/\adC v' nx/\VR ak v v'/\cp base ρ A w ak B w'
 | .call f args=>(∀ (ρ:Ren) (ev cj:Operand->Value) (l:Nat),qK ρ ev cj (f::args)->ev f = .func (.yield l) ⟨[]⟩ ⟨[]⟩->
   ∃ loc bw,ρ l=some loc/\cz ρ (args.map ev) bw/\∀ w,(execOp cj o).run P w=(Instr.yield loc.cb bw.toArray).run P w)/\
  ∀ (ρ:Ren) (ev cj:Operand->Value) (g:FuncId) (vs:List Value),qK ρ ev cj (f::args)->Nat.blt g yB=true->jc (args.map ev) (ev f)=some (g,vs)->
   (∃ fn, P.funcs[g]? = some fn ∧ fn.body.isSome = true ∧ (fn.name == "runtime.NumGoroutine") = false) → ∃ bw, cz ρ vs bw ∧ ∀ w, (execOp cj o).run P w = .ok (.enter g bw.toArray) w
 | .bad=>True
section
variable {P:Program} {o:Oper}
theorem one {α:Type} {f:List Value->Option α} {xs:List Value} {r:α} (h:f xs=some r) (h0:f [] = none) (h2:∀ a b l,f (a::b::l)=none):∃ x,xs = [x]:=by
 cases xs with
 | nil=>rw [h0] at h; simp at h
 | cons a l=>
  cases l with
  | nil=>exact ⟨a,rfl⟩
  | cons b l=>rw [h2] at h; simp at h
theorem aip {x:Operand} (ho:o.op = .move x):fk P o (.pure FB [x]):=by
 intro ρ ev cj v he hf;simp [FB] at hf;exact ⟨cj x,hf ▸ he x (by simp),fun w=>by simp [execOp,ho]⟩
theorem adD {x:Operand} (ho:o.op = .assign x):fk P o (.pure FB [x]):=by
 intro ρ ev cj v he hf;simp [FB] at hf;exact ⟨cj x,hf ▸ he x (by simp),fun w=>by simp [execOp,ho]⟩
theorem VR.dr {ρ:Ren} {b:Bool} {v:Value} (h:VR ρ (.bool b) v):v = .bool b:=by simpa [VR] using h
theorem VR.bQ {ρ:Ren} {k:IntKind} {n:Int} {v:Value} (h:VR ρ (.int k n) v):v = .int k n:=by simpa [VR] using h
theorem VR.mZ {ρ:Ren} {s:ByteArray} {v:Value} (h:VR ρ (.string s) v):v = .string s:=by simpa [VR] using h
theorem VR.jr {ρ:Ren} {cs:Array Value} {v:Value} (h:VR ρ (.agg cs) v):∃ bX,v = .agg bX/\cz ρ cs.toList bX.toList:=by
 simp only [VR] at h; obtain ⟨c,h1,rfl⟩:=h; exact ⟨c,rfl,tU.1 h1⟩
theorem VR.Bu {ρ:Ren} {cs:Array Value} {v:Value} (h:VR ρ (.tuple cs) v):∃ bX,v = .tuple bX/\cz ρ cs.toList bX.toList:=by
 simp only [VR] at h; obtain ⟨c,h1,rfl⟩:=h; exact ⟨c,rfl,tU.1 h1⟩
theorem VR.xU {ρ:Ren} {fn:Fn} {f c:Array Value} {v:Value} (h:VR ρ (.func fn f c) v):∃ f' c' tT,v = .func tT f' c'/\cz ρ f.toList f'.toList/\cz ρ c.toList c'.toList/\Mm ρ fn tT:=by
 simp only [VR] at h; obtain ⟨f',c',h1,h2,tT,h3,rfl⟩:=h; exact ⟨f',c',tT,rfl,tU.1 h1,tU.1 h2,h3⟩
theorem VR.iD {ρ:Ren} {a:Addr} {n c:Nat} {v:Value} (h:VR ρ (.slice (some a) n c) v) :
  a.spot=none/\n<=c/\∃ l a' c',ρ a.block=some l/\c<=c'/\(c'≠0->a' = ⟨l.cb,l.cf+a.off,none⟩)/\l.cf+a.off+c' * l.aQ<=l.rW/\v = .slice (some a') n c':=by simpa only [VR] using h
theorem VR.e8 {ρ:Ren} {n c:Nat} {v:Value} (h:VR ρ (.slice none n c) v):v = .slice none n c:=by simpa [VR] using h
theorem VR.ns {ρ:Ren} {l l' : List Value} (h:cz ρ l l'):VR ρ (.agg ⟨l⟩) (.agg ⟨l'⟩):=by simp only [VR]; exact ⟨⟨l'⟩,tU.2 h,rfl⟩
theorem VR.mkTuple {ρ:Ren} {l l' : List Value} (h:cz ρ l l'):VR ρ (.tuple ⟨l⟩) (.tuple ⟨l'⟩):=by simp only [VR]; exact ⟨⟨l'⟩,tU.2 h,rfl⟩
theorem VR.J2 {ρ:Ren} (fn:Fn) (hn:Mm ρ fn fn) {l l' m m' : List Value} (h:cz ρ l l') (k:cz ρ m m'):VR ρ (.func fn ⟨l⟩ ⟨m⟩) (.func fn ⟨l'⟩ ⟨m'⟩):=by simp only [VR]; exact ⟨⟨l'⟩,⟨m'⟩,tU.2 h,tU.2 k,fn,hn,rfl⟩
theorem VR.v8 {ρ:Ren} {a:Addr} {l:Loc} (h:a.spot=none) (k:ρ a.block=some l):VR ρ (.pointer (some a)) (.pointer (some ⟨l.cb,l.cf+a.off,none⟩)):=by simp only [VR]; exact ⟨h,l,k,rfl⟩
theorem aiq {c a b:Operand} (ho:o.op = .pick c a b):fk P o (.pure TZ [c,a,b]):=by
 intro ρ ev cj v he hf;simp only [List.map,TZ] at hf;split at hf
 ·rename_i t x y e
  simp at e hf;obtain ⟨e1,rfl,rfl⟩:=e;have hc:=he c (by simp);rw [e1] at hc;have hc:=hc.dr;subst hf;refine ⟨cond t (cj a) (cj b),by cases t <;> simp [he a (by simp),he b (by simp)],fun w=>?_⟩;cases t <;> simp [execOp,ho,hc,asBool]
 ·simp at hf
theorem XT {t:TypeId} {i:TypeInfo} (h:P.info? t=some i) (w:World):(typeInfo t).run P w = .ok i w:=by
 unfold typeInfo; simp [h]
theorem J3 {t:TypeId} {z:Value} (h:uK P t=some z) (w:World):(zeroValue t).run P w = .ok z w:=by
 unfold uK at h;obtain ⟨i,h1,h2⟩:=aO.1 h;unfold zeroValue; simp [XT h1,h2]
theorem mi {t:TypeId} {n:Nat} (h:size? P t=some n) (w:World):(sizeOf t).run P w = .ok n w:=by
 unfold size? at h;obtain ⟨i,h1,h2⟩:=aU.1 h;unfold sizeOf; simp [XT h1,h2]
theorem aV {t:TypeId} {d:TypeDesc} (h:P.underlying t=some d) (w:World):(underlying t).run P w = .ok d w:=by
 unfold underlying; simp [h]
theorem CV {t:TypeId} {b:Bool} (h:HR P t=some b) (w:World):(isAgg t).run P w = .ok b w:=by
 unfold HR at h;obtain ⟨d,h1,h2⟩:=aU.1 h;unfold isAgg;rw [Sem.run_bind,aV h1,fA];subst h2;cases d <;> rfl
theorem agR {t:TypeId} (ho:o.op = .alloc t):fk P o (.make (NV P t) []):=by
 intro ρ ev cj obj mk he hf;simp only [NV,aO] at hf;obtain ⟨z,hz,hf⟩:=hf;cases CG:(flat z&&z.cells.toList.all scalar) with
 | false=>rw [CG] at hf; simp at hf
 | true=>
  rw [CG,ah] at hf;simp only [aR,bH] at hf;obtain ⟨rfl,rfl⟩:=hf;obtain ⟨FV,vO⟩:=Bool.and_eq_true_iff.1 CG;rw [dU] at vO;have hr:VR ρ z z:=VR.of_flat FV;refine ⟨.cells z.cells t,fun n=>.pointer (some ⟨n,0,none⟩),⟨z.cells,t,rfl,hr.cells (fun r e=>by subst e; simp [flat] at FV),vO⟩,fun w=>?_,fun ak n cb h=>?_⟩
  ·simp [execOp,ho,Instr.alloc,J3 hz,newVar,newRow]
  ·exact VR.v8 (a:=⟨n,0,none⟩) rfl h
theorem akw {t:TypeId} {x:Operand} (ho:o.op = .box t x):fk P o (.make (XI (uL P t)) [x]):=by
 intro ρ ev cj obj mk he hf;simp only [List.map,XI] at hf;cases CG:(ev x).cells.toList.all scalar with
 | false=>rw [CG] at hf; simp at hf
 | true=>
  rw [CG,ah] at hf;simp only [aR,bH] at hf;obtain ⟨rfl,rfl⟩:=hf;have vO:=CG;rw [dU] at vO;refine ⟨.cells (cj x).cells t,fun n=>.pointer (some ⟨n,0,none⟩),⟨_,t,rfl,(he x (by simp)).cells (fun r e=>by rw [e] at CG; simp [Value.cells,scalar] at CG),vO⟩,fun w=>?_,fun ak n cb h=>?_⟩
  ·simp [execOp,ho,Instr.box,newVar,newRow]
  ·exact VR.v8 (a:=⟨n,0,none⟩) rfl h
theorem DE {ρ:Ren} {A:St} {base:Nat} {w:World} {t:TypeId} {x x' v:Value} (hs:Rel ρ A.get A.members base w) (hx:VR ρ x x') (hf:loadAt P t A x=some v) :
  ∃ a,x' = .pointer (some a)/\∃ v',VR ρ v v'/\(loadVar t a).run P w = .ok v' w:=by
 unfold loadAt at hf;split at hf
 ·rename_i a
  obtain ⟨tV,l,hl,rfl⟩:=hx.fX;refine ⟨_,rfl,?_⟩;split at hf
  ·rename_i uM
   obtain ⟨n,hn,hf⟩:=aO.1 hf;obtain ⟨cs,AD,rfl⟩:=aU.1 hf;obtain ⟨bX,h1,_,_,h3⟩:=sL (P:=P) hs AD hl;refine ⟨.agg ⟨bX⟩,VR.ns h1,?_⟩;unfold loadVar;simp [CV uM,mi hn,h3]
  ·rename_i uM
   obtain ⟨cs,AD,hf⟩:=aO.1 hf;obtain ⟨bX,h1,hlen,_,h3⟩:=sL (P:=P) hs AD hl;cases cs with
   | nil=>simp at hf
   | cons c cs=>
    simp at hf; subst hf;obtain ⟨y,ys,rfl,h4,h5⟩:=h1.cons_inv;refine ⟨y,h4,?_⟩;have hys:ys = []:=by have:=h5.length; simp at hlen; subst hlen; simpa using this
    subst hys;have h0:(load ⟨l.cb,l.cf+a.off,none⟩).run P w = .ok y w:=by
     simp only [loadCells,loadCellsFrom,jq,p7,Sem.run_bind,run_load] at h3 ⊢;cases hc:w.cell? ⟨l.cb,l.cf+a.off,none⟩ with
     | some u=>rw [hc] at h3; simp at h3 ⊢; exact h3
     | none=>
      rw [hc] at h3;simp only at h3 ⊢;cases hff:w.farLoad P ⟨l.cb,l.cf+a.off,none⟩ (Mode.plain==Mode.atomic) with
      | ok p=>rw [hff] at h3; simp at h3 ⊢; exact h3
      | error e=>rw [hff] at h3; simp at h3
    unfold loadVar;simp only [Sem.run_bind,CV uM,fA];exact h0
  ·simp at hf
 ·simp at hf
theorem air {t:TypeId} {a:Operand} (ho:o.op = .load t a):fk P o (.read (zB P t) [a]):=by
 intro ρ A base w ev cj v hs he hf;simp only [List.map,zB] at hf;obtain ⟨ad,h1,v',h2,h3⟩:=DE hs (he a (by simp)) hf;refine ⟨v',h2,?_⟩;simp [execOp,ho,Instr.loadAt,Instr.sureAddr,h1,h3]
theorem Uf {ρ:Ren} {A B:St} {base:Nat} {w:World} {t:TypeId} {x x' v v' : Value} (hs:iu ρ A base w) (hx:VR ρ x x') (hv:VR ρ v v') (hf:storeAt P t A x v=some B) :
  ∃ a,x' = .pointer (some a)/\∃ w',(storeVar t a v').run P w = .ok () w'/\cp base ρ A w ρ B w':=by
 unfold storeAt at hf;split at hf
 ·rename_i a
  obtain ⟨tV,l,hl,rfl⟩:=hx.fX;refine ⟨_,rfl,?_⟩;cases hd:decide (some v.cells.size=size? P t) with
  | false=>rw [hd] at hf; simp at hf
  | true=>
   rw [hd,ah] at hf;have cT:=JS hd;have H7:∀ r,v≠.chan r:=fun r e=>by subst e; simp [Value.cells,St.rE,scalar] at hf
   have hvc:=hv.cells H7;obtain ⟨w',h1,h2⟩:=yH (P:=P) hs hf hl hvc;refine ⟨w',?_,h2⟩;unfold storeVar;have hlen:v'.cells.size=v.cells.size:=hvc.length;simp [mi cT.symm,hlen,h1]
 ·simp at hf
theorem agS {t:TypeId} {a x:Operand} (ho:o.op = .store t a x):fk P o (.act (FC P t) [a,x]):=by
 intro ρ A B base w ev cj v hs he hf;simp only [List.map,FC] at hf;obtain ⟨B',hB,hf⟩:=aU.1 hf;simp at hf;obtain ⟨rfl,rfl⟩:=hf;obtain ⟨ad,h1,w',h2,h3⟩:=Uf hs (he a (by simp)) (he x (by simp)) hB;refine ⟨ρ,undef,.skip,w',?_,rfl,VR.of_flat (by simp [undef,flat,vT,nQ]),h3⟩;simp [execOp,ho,Instr.storeAt,Instr.sureAddr,h1,h2]
theorem Y5 {x:Operand} (ho:o.op = .nilCheck x):fk P o (.pure FD [x]):=by
 intro ρ ev cj v he hf;simp only [List.map,FD] at hf;have hx:=he x (by simp);split at hf
 ·rename_i a e
  simp at e hf;rw [e] at hx;obtain ⟨_,l,_,h⟩:=hx.fX;subst hf;refine ⟨_,hx,fun w=>?_⟩;simp [execOp,ho,h]
 ·rename_i f first cap e
  simp at e hf;rw [e] at hx;obtain ⟨f',c',tT,h,_,_,Qw⟩:=hx.xU;have Qw:tT = .func f:=Qw;subst Qw;subst hf;refine ⟨_,hx,fun w=>?_⟩;simp [execOp,ho,h]
 ·simp at hf
theorem amh {op:UnOp} {t:TypeId} {x:Operand} (ho:o.op = .unOp op t x):fk P o (.pure (fUn P op) [x]):=by
 intro ρ ev cj v he hf;simp only [List.map,fUn] at hf;have hx:=he x (by simp);have ais:∀ y u:Value,(y = .bool (y matches .bool true)\/∃ k n,y = .int k n)->cu P (Op.unary op y)=some u->flat u=true:=by
  intro y u hy hu;have h:=eO hu default;rcases hy with hy | ⟨k,n,rfl⟩
  ·rw [hy] at h
   cases op <;> simp [Op.unary] at h;subst h; rfl
  ·cases op <;> simp [Op.unary,Op.intArith,Op.intBits] at h <;> (subst h; rfl)
 split at hf
 ·rename_i b e
  simp at e;rw [e] at hx;have hx:=hx.dr;refine ⟨v,VR.of_flat (ais _ _ (.inl (by cases b <;> rfl)) hf),fun w=>?_⟩;simp [execOp,ho,hx,eO hf w]
 ·rename_i k n e
  simp at e;rw [e] at hx;have hx:=hx.bQ;refine ⟨v,VR.of_flat (ais _ _ (.inr ⟨k,n,rfl⟩) hf),fun w=>?_⟩;simp [execOp,ho,hx,eO hf w]
 ·simp at hf
theorem aa7 {src dst:TypeId} {x:Operand} (ho:o.op = .convert src dst x):fk P o (.pure (Ef P src dst) [x]):=by
 intro ρ ev cj v he hf;simp only [List.map,Ef] at hf;have hx:=he x (by simp);split at hf
 ·rename_i k n e
  simp at e;rw [e] at hx;have hx:=hx.bQ;split at hf
  ·rename_i k' hu
   have h:=eO hf default;have CG:flat v=true:=by
    unfold convert at h;rw [Sem.run_bind] at h;cases hs:(underlying src).run P default with
    | halt x w=>rw [hs] at h; simp at h
    | ok d w=>
     rw [hs,fA,Sem.run_bind,aV hu,fA] at h;have:∀ w,(Conv.intToInt k' n).run P w = .ok v w->flat v=true:=fun w e=>by
      simp [Conv.intToInt] at e; rw [<- e]; rfl
     cases d <;> simp only at h <;> first | exact this _ h | (simp [Conv.intToInt] at h; rw [<- h.1]; rfl)
   refine ⟨v,VR.of_flat CG,fun w=>?_⟩;simp [execOp,ho,hx,eO hf w]
  ·simp at hf
 ·simp at hf
theorem lN (ev:Operand->Value) (xs:Array Operand):(xs.map ev)=⟨xs.toList.map ev⟩:=by cases xs; simp
theorem Y6 {fn:Fn} {first cap:Array Operand} (ho:o.op = .makeFunc fn first cap):fk P o (cond (Bc fn) (.pure (Bo fn first.size) (first.toList++cap.toList)) .bad):=by
 cases hny:Bc fn with
 | false=>trivial
 | true=>
 rw [ah];intro ρ ev cj v he hf;simp only [Bo] at hf;obtain ⟨l,h1,rfl⟩:=aU.1 hf;obtain ⟨rfl,_⟩:=Eu h1;rw [nV];refine ⟨.func fn (first.map cj) (cap.map cj),?_,fun w=>by simp [execOp,ho,Instr.makeFunc]⟩;rw [lN,lN];have e1:((first.toList++cap.toList).map ev).take first.size=first.toList.map ev:=by
  rw [yA,List.take_left' (by simp)]
 have e2:((first.toList++cap.toList).map ev).drop first.size=cap.toList.map ev:=by
  rw [yA,List.drop_left' (by simp)]
 rw [e1,e2];exact VR.J2 fn (by cases fn <;> first | rfl | simp [Bc] at hny) he.left.map he.right.map
theorem FW {ρ:Ren} {a:Addr} {n:Nat} {v:Value} {l:Loc} (hl:ρ a.block=some l) (h:Ma a n=some v):VR ρ v (.pointer (some ⟨l.cb,l.cf+a.off+n,none⟩)):=by
 simp only [Ma] at h;cases hp:bI a with
 | false=>rw [hp] at h; simp at h
 | true=>
  rw [hp] at h;simp at h;subst h;have:=VR.v8 (ρ:=ρ) (a:=⟨a.block,a.off+n,none⟩) (l:=l) rfl hl;simpa [nG] using this
theorem Li {s:TypeId} {f:Nat} {fd:Field} (h:oj P s f=some fd):∃ fields,P.underlying s=some (.struct fields)/\fields[f]? = some fd:=by
 unfold oj at h;split at h
 ·rename_i fields e; exact ⟨fields,e,by simpa using h⟩
 ·simp at h
theorem WW {s:TypeId} {x:Operand} {f:Nat} (ho:o.op = .fieldAddr s x f):fk P o (q9 P s x f):=by
 unfold q9;split
 ·rename_i fd h
  split
  ·rename_i n hn
   intro ρ ev cj v he hf;obtain ⟨fields,hu,hfd⟩:=Li h;simp only [List.map,CO] at hf;have hx:=he x (by simp);split at hf
   ·rename_i a e
    simp at e;rw [e] at hx;obtain ⟨tV,l,hl,h'⟩:=hx.fX;refine ⟨_,FW hl hf,fun w=>?_⟩;have hfp:(fieldPlace ⟨l.cb,l.cf+a.off,none⟩ fd).run P w = .ok ⟨l.cb,l.cf+a.off+fd.offset,none⟩ w:=by
     unfold fieldPlace;simp [mi hn,jq]
    simp [execOp,ho,Instr.fieldAt,aV hu,hfd,h',Instr.sureAddr,hfp]
   ·simp at hf
  ·trivial
 ·trivial
theorem Lj {ρ:Ren} {t:TypeId} {cs:List Value} {bX:Array Value} {off:Nat} {v:Value} (hc:cz ρ cs bX.toList) (h:partOf P t cs off=some v) :
  ∃ v',VR ρ v v'/\∀ w,(part t bX off).run P w = .ok v' w:=by
 unfold partOf at h;split at h
 ·rename_i uM
  obtain ⟨n,hn,h⟩:=aO.1 h;obtain ⟨l,hl,rfl⟩:=aU.1 h;rw [nV] at hl;obtain ⟨rfl,hlen⟩:=Eu hl;refine ⟨.agg ⟨(bX.toList.drop off).take n⟩,VR.ns ((hc.drop off).take n),fun w=>?_⟩;unfold part;simp only [Sem.run_bind,CV uM,fA,if_true,mi hn,Sem.run_pure];congr 2;apply Array.ext';simp [Array.toList_extract,List.extract_eq_take_drop,show off+n - off=n by omega]
 ·rename_i uM
  rw [nV,List.head?_drop] at h;obtain ⟨v',h1,h2⟩:=hc.get h;refine ⟨v',h2,fun w=>?_⟩;unfold part;have h3:bX[off]? = some v':=by simpa using h1
  simp [CV uM,h3]
 ·simp at h
theorem agT {t:TypeId} {x:Operand} {f:Nat} (ho:o.op = .field t x f):fk P o (Ek P t x f):=by
 unfold Ek;split
 ·rename_i fd h
  intro ρ ev cj v he hf;obtain ⟨fields,hu,hfd⟩:=Li h;simp only [List.map,YM] at hf;have hx:=he x (by simp);split at hf
  ·rename_i cs e
   simp at e;rw [e] at hx;obtain ⟨bX,h',hc⟩:=hx.jr;obtain ⟨v',h1,h2⟩:=Lj hc hf;refine ⟨v',h1,fun w=>?_⟩;simp [execOp,ho,Instr.field,aV hu,hfd,h',asAgg,h2]
  ·simp at hf
 ·trivial
theorem sM {i:Int} {len n:Nat} (h:ir i len=some n):i=n/\n < len:=by
 unfold ir at h;cases i with
 | ofNat m=>
  simp only at h;cases hb:Nat.blt m len with
  | false=>rw [hb] at h; simp at h
  | true=>
   rw [hb] at h;simp at h; subst h;exact ⟨rfl,by rw [b7] at hb; exact hb⟩
 | negSucc m=>simp at h
theorem WX {t:TypeId} {x ix:Operand} (ho:o.op = .indexAddr t x ix):fk P o (ra P t x ix):=by
 unfold ra;split
 ·rename_i len e hu
  split
  ·rename_i n hn
   intro ρ ev cj v he hf;simp only [List.map,Mb] at hf;have hx:=he x (by simp);have hi:=he ix (by simp);split at hf
   ·rename_i a k i e'
    simp at e';obtain ⟨e1,e2⟩:=e';rw [e1] at hx;rw [e2] at hi;obtain ⟨tV,l,hl,h'⟩:=hx.fX;have hi:=hi.bQ;obtain ⟨j,hj,hg⟩:=aO.1 hf;obtain ⟨rfl,aJ⟩:=sM hj;refine ⟨_,FW hl hg,fun w=>?_⟩;simp [execOp,ho,Instr.indexAt,aV hu,h',hi,Instr.sureAddr,asIntOf,aJ,mi hn,jq]
   ·simp at hf
  ·trivial
 ·rename_i e hu
  split
  ·rename_i n hn
   intro ρ ev cj v he hf;simp only [List.map,JW] at hf;have hx:=he x (by simp);have hi:=he ix (by simp);split at hf
   ·rename_i a len c k i e'
    simp at e';obtain ⟨e1,e2⟩:=e';rw [e1] at hx;rw [e2] at hi;obtain ⟨tV,hnc,l,a',c',hl,ri,Bv,jG,h'⟩:=hx.iD;have hi:=hi.bQ;obtain ⟨j,hj,hg⟩:=aO.1 hf;obtain ⟨rfl,aJ⟩:=sM hj;refine ⟨_,FW hl hg,fun w=>?_⟩;have:=Bv (by omega);subst this;simp [execOp,ho,Instr.indexAt,aV hu,h',hi,asIntOf,aJ,mi hn,jq]
   ·simp at hf
  ·trivial
 ·trivial
theorem agU {t:TypeId} {x ix:Operand} (ho:o.op = .index t x ix):fk P o (El P t x ix):=by
 unfold El;split
 ·rename_i len e hu
  split
  ·rename_i n hn
   intro ρ ev cj v he hf;simp only [List.map,Mc] at hf;have hx:=he x (by simp);have hi:=he ix (by simp);split at hf
   ·rename_i cs k i e'
    simp at e';obtain ⟨e1,e2⟩:=e';rw [e1] at hx;rw [e2] at hi;obtain ⟨bX,h',hc⟩:=hx.jr;have hi:=hi.bQ;obtain ⟨j,hj,hg⟩:=aO.1 hf;obtain ⟨rfl,aJ⟩:=sM hj;obtain ⟨v',h1,h2⟩:=Lj hc hg;refine ⟨v',h1,fun w=>?_⟩;simp [execOp,ho,Instr.index,aV hu,h',hi,asIntOf,aJ,mi hn,h2]
   ·simp at hf
  ·trivial
 ·rename_i hu
  intro ρ ev cj v he hf;simp only [List.map,Md] at hf;have hx:=he x (by simp);have hi:=he ix (by simp);split at hf
  ·rename_i s k i e'
   simp at e';obtain ⟨e1,e2⟩:=e';rw [e1] at hx;rw [e2] at hi;have hx:=hx.mZ;have hi:=hi.bQ;obtain ⟨j,hj,hg⟩:=aO.1 hf;obtain ⟨rfl,aJ⟩:=sM hj;obtain ⟨b,hb,rfl⟩:=aU.1 hg;refine ⟨_,VR.of_flat rfl,fun w=>?_⟩;have Y7:s[j]? = some b:=by
    rw [<- hb];simp only [getElem?_def];have h1:j < s.data.toList.length:=by simpa using aJ
    rw [dif_pos aJ,dif_pos h1];rfl
   simp [execOp,ho,Instr.index,aV hu,hx,hi,asIntOf,Y7]
  ·simp at hf
 ·trivial
theorem aa8 {x:Operand} {i:Nat} (ho:o.op = .extract x i):fk P o (.pure (Eg i) [x]):=by
 intro ρ ev cj v he hf;simp only [List.map,Eg] at hf;have hx:=he x (by simp);split at hf
 ·rename_i vs e
  simp at e;rw [e] at hx;obtain ⟨bw,h',hc⟩:=hx.Bu;obtain ⟨v',h1,h2⟩:=hc.get hf;refine ⟨v',h2,fun w=>?_⟩;have h3:bw[i]? = some v':=by simpa using h1
  simp [execOp,ho,Instr.extract,h',h3]
 ·simp at hf
theorem nW {t:TypeId} {x y:Value} {b:Bool} {w:World} (h:∀ d,(Op.equalIn (d+1) t x y).run P w = .ok b w):(Op.equal t x y).run P w = .ok b w:=h 9999
theorem adE {ρ:Ren} {t:TypeId} {x y x' y' : Value} {b:Bool} (hx:VR ρ x x') (hy:VR ρ y y') (h:TY P t x y=some b):∀ w,(Op.equal t x' y').run P w = .ok b w:=by
 have ami:cond (flat x&&flat y) (cu P (Op.equal t x y)) none=some b->∀ w,(Op.equal t x' y').run P w = .ok b w:=by
  intro h w;cases hf:(flat x&&flat y) with
  | false=>rw [hf] at h; simp at h
  | true=>
   rw [hf,ah] at h;simp only [aj] at hf;rw [hx.jW hf.1,hy.jW hf.2];exact eO h w
 intro w;unfold TY at h;split at h
 ·rename_i e c hu
  have hx:x' = .pointer none:=by simpa [VR] using hx
  cases c with
  | none=>
   have hy:y' = .pointer none:=by simpa [VR] using hy
   subst hx hy; simp at h; subst h;exact nW fun d=>by simp [Op.equalIn,aV hu]
  | some a=>
   obtain ⟨_,l,_,hy⟩:=hy.fX;subst hx hy; simp at h; subst h;exact nW fun d=>by simp [Op.equalIn,aV hu]
 ·rename_i e a hu
  obtain ⟨_,l,_,hx⟩:=hx.fX;have hy:y' = .pointer none:=by simpa [VR] using hy
  subst hx hy; simp at h; subst h;exact nW fun d=>by simp [Op.equalIn,aV hu]
 ·rename_i e n c a n' c' hu
  have hx:=hx.e8;cases a with
  | none=>
   have hy:=hy.e8;subst hx hy; simp at h; subst h;exact nW fun d=>by simp [Op.equalIn,aV hu]
  | some a=>
   obtain ⟨_,_,l,a',c2,_,_,_,_,hy⟩:=hy.iD;subst hx hy; simp at h; subst h;exact nW fun d=>by simp [Op.equalIn,aV hu]
 ·rename_i e a n c n' c' hu
  obtain ⟨_,_,l,a',c2,_,_,_,_,hx⟩:=hx.iD;have hy:=hy.e8;subst hx hy; simp at h; subst h;exact nW fun d=>by simp [Op.equalIn,aV hu]
 ·rename_i k e a hu
  have hx:x' = .map none:=by simpa [VR] using hx
  cases a with
  | none=>
   have hy:y' = .map none:=by simpa [VR] using hy
   subst hx hy; simp at h; subst h;exact nW fun d=>by simp [Op.equalIn,aV hu]
  | some a=>
   have hy:∃ l,ρ a=some l/\y' = .map (some l.cb):=by simpa only [VR] using hy
   obtain ⟨l,_,hy⟩:=hy;subst hx hy; simp at h; subst h;exact nW fun d=>by simp [Op.equalIn,aV hu]
 ·rename_i k e a hu
  have hx:∃ l,ρ a=some l/\x' = .map (some l.cb):=by simpa only [VR] using hx
  obtain ⟨l,_,hx⟩:=hx;have hy:y' = .map none:=by simpa [VR] using hy
  subst hx hy; simp at h; subst h;exact nW fun d=>by simp [Op.equalIn,aV hu]
 ·rename_i hu
  have hx:x' = .nilFunc:=by simpa [VR] using hx
  have hy:y' = .nilFunc:=by simpa [VR] using hy
  subst hx hy; simp at h; subst h;exact nW fun d=>by simp [Op.equalIn,aV hu]
 ·rename_i hu
  have hx:x' = .nilFunc:=by simpa [VR] using hx
  obtain ⟨f',c',_,hy,_,_,_⟩:=hy.xU;subst hx hy; simp at h; subst h;exact nW fun d=>by simp [Op.equalIn,aV hu]
 ·rename_i hu
  obtain ⟨f',c',_,hx,_,_,_⟩:=hx.xU;have hy:y' = .nilFunc:=by simpa [VR] using hy
  subst hx hy; simp at h; subst h;exact nW fun d=>by simp [Op.equalIn,aV hu]
 ·exact ami h w
theorem agV {op:BinOp} {t:TypeId} {j k:IntKind} {a b:Int} {v:Value} (h:cu P (binOp op t (.int j a) (.int k b))=some v):flat v=true:=by
 have h:=eO h default;cases op <;> simp only [binOp,Op.shift] at h <;> (repeat' split at h) <;>
  first
  | (simp [Op.intArith,Op.intBits,Op.intCmp] at h; subst h; rfl)
  | (simp only [Op.intDiv] at h; split at h <;> first | (simp at h; subst h; rfl) | (simp [runtimePanic,program,Sem.run] at h))
  | (simp at h; subst h; rfl)
  | (simp [runtimePanic,program,Sem.run] at h)
  | (simp at h)
theorem Y8 {op:BinOp} {t:TypeId} {a b:ByteArray} {v:Value} (h:cu P (binOp op t (.string a) (.string b))=some v):flat v=true:=by
 have h:=eO h default;cases op <;> simp only [binOp,Op.stringOp] at h <;> (repeat' split at h) <;>
  first
  | (simp at h; subst h; rfl)
  | (simp at h)
theorem adF (op:BinOp) (t:TypeId) (x y:Operand) (j k:IntKind) (a b:Int) (w:World):(eqGuard op t x y (.int j a) (.int k b)).run P w = .ok () w:=by
 unfold eqGuard;cases op <;> simp
theorem WY (op:BinOp) (t:TypeId) (x y:Operand) (a b:ByteArray) (w:World):(eqGuard op t x y (.string a) (.string b)).run P w = .ok () w:=by
 unfold eqGuard;cases op <;> simp
end
end Go.az
end
section
namespace Go.az
open Go
section
variable {P:Program} {o:Oper}
theorem DF {ρ:Ren} {a a' : Value} (he:gf a=true) (h:VR ρ a a') :
  (a' = .nilIface->a = .nilIface)/\(∀ cs,a' = .agg cs->∃ bX,a = .agg bX)/\(∀ k n,a'≠.int k n)/\(∀ k n,a'≠.float k n)/\(∀ k n m,a'≠.complex k n m)/\(∀ s,a'≠.string s):=by
 cases a with
 | int k n=>simp [gf] at he
 | float k n=>simp [gf] at he
 | complex k n m=>simp [gf] at he
 | string s=>simp [gf] at he
 | chan r=>simp [gf] at he
 | tuple cs=>simp [gf] at he
 | bool b=>have:=h.dr; subst this; simp
 | pointer p=>
  cases p with
  | none=>have:a' = .pointer none:=by simpa [VR] using h
          subst this; simp
  | some p=>obtain ⟨_,_,_,rfl⟩:=h.fX; simp
 | slice p n c=>
  cases p with
  | none=>have:=h.e8; subst this; simp
  | some p=>obtain ⟨_,_,_,_,_,_,_,_,_,rfl⟩:=h.iD; simp
 | map r=>
  cases r with
  | none=>have:a' = .map none:=by simpa [VR] using h
          subst this; simp
  | some r=>
   have:∃ l,ρ r=some l/\a' = .map (some l.cb):=by simpa only [VR] using h
   obtain ⟨_,_,rfl⟩:=this; simp
 | func fn f c=>obtain ⟨_,_,_,rfl,_,_⟩:=h.xU; simp
 | nilFunc=>have:a' = .nilFunc:=by simpa [VR] using h
            subst this; simp
 | iface t x=>
  have:∃ x',VR ρ x x'/\a' = .iface t x':=by simpa only [VR] using h
  obtain ⟨_,_,rfl⟩:=this; simp
 | nilIface=>simp
             have:a' = .nilIface:=by simpa [VR] using h
             subst this; simp
 | agg cs=>obtain ⟨_,rfl,_⟩:=h.jr; simp
theorem Y9 {ρ:Ren} {op:BinOp} {t:TypeId} {x y:Operand} {a b a' b' : Value} (ea:gf a=true) (eb:gf b=true) (ha:VR ρ a a') (hb:VR ρ b b')
  (h:ui P t (isConst x||isConst y) a b=true) (w:World):(eqGuard op t x y a' b').run P w = .ok () w:=by
 obtain ⟨ha1,Oi,_⟩:=DF ea ha;obtain ⟨uN,qf,_⟩:=DF eb hb;unfold eqGuard;cases YS:(!(op matches .eql | .neq)) with
 | true=>simp
 | false=>
  simp only [CN,if_false];cases a' with
  | nilIface=>
   cases b' with
   | nilIface=>
    have e1:=ha1 rfl;have e2:=uN rfl;rw [e1,e2] at h;have hc:(isConst x||isConst y)=true:=h;cases x with
    | const v=>rfl
    | _=>
     cases y with
     | const v=>rfl
     | _=>simp [isConst] at hc
   | _=>rfl
  | agg cs=>
   cases b' with
   | agg ds=>
    obtain ⟨c1,rfl⟩:=Oi _ rfl;obtain ⟨c2,rfl⟩:=qf _ rfl;have hg:P.eqGuardType P.depth t=false:=by simpa [ui] using h
    simp [hg]
   | _=>rfl
  | _=>rfl
theorem binOp_eql {ρ:Ren} {t:TypeId} {a a' b' : Value} (ea:gf a=true) (ha:VR ρ a a'):binOp .eql t a' b' = (do pure (.bool (<- Op.equal t a' b')))/\binOp .neq t a' b' = (do pure (.bool (!(<- Op.equal t a' b')))):=by
 obtain ⟨_,_,h1,h2,h3,h4⟩:=DF ea ha;cases a' with
 | int k n=>exact absurd rfl (h1 k n)
 | float k n=>exact absurd rfl (h2 k n)
 | complex k n m=>exact absurd rfl (h3 k n m)
 | string s=>exact absurd rfl (h4 s)
 | _=>constructor <;> rfl
theorem akx {op:BinOp} {t yt:TypeId} {x y:Operand} (ho:o.op = .binOp op t x y yt):fk P o (.pure (nM P op t (isConst x||isConst y)) [x,y]):=by
 intro ρ ev cj v he hf;have hx:=he x (by simp);have hy:=he y (by simp);have full:∀ b,kT P t (isConst x||isConst y) (ev x) (ev y)=some b->∀ w,(eqGuard op t x y (cj x) (cj y)).run P w = .ok () w/\(Op.equal t (cj x) (cj y)).run P w = .ok b w/\gf (ev x)=true:=by
  intro b hb w;unfold kT at hb;cases hc:(gf (ev x)&&gf (ev y)&&ui P t (isConst x||isConst y) (ev x) (ev y)) with
  | false=>rw [hc] at hb; simp at hb
  | true=>
   rw [hc,ah] at hb;simp only [aj] at hc;exact ⟨Y9 hc.1.1 hc.1.2 hx hy hc.2 w,adE hx hy hb w,hc.1.1⟩
 simp only [List.map,nM] at hf;split at hf
 ·rename_i j a k b e
  simp at e;rw [e.1] at hx;rw [e.2] at hy;refine ⟨v,VR.of_flat (agV hf),fun w=>?_⟩;simp [execOp,ho,hx.bQ,hy.bQ,adF,eO hf w]
 ·rename_i a b e
  simp at e;rw [e.1] at hx;rw [e.2] at hy;refine ⟨v,VR.of_flat (Y8 hf),fun w=>?_⟩;simp [execOp,ho,hx.mZ,hy.mZ,WY,eO hf w]
 ·rename_i a b _ _ e
  simp at e;obtain ⟨rfl,rfl⟩:=e;split at hf
  ·obtain ⟨c,hc,rfl⟩:=aU.1 hf
   refine ⟨.bool c,VR.of_flat rfl,fun w=>?_⟩;obtain ⟨h1,h2,h3⟩:=full c hc w;simp [execOp,ho,h1,(binOp_eql (t:=t) (b':=cj y) h3 hx).1,h2]
  ·obtain ⟨c,hc,rfl⟩:=aU.1 hf
   refine ⟨.bool (!c),VR.of_flat rfl,fun w=>?_⟩;obtain ⟨h1,h2,h3⟩:=full c hc w;simp [execOp,ho,h1,(binOp_eql (t:=t) (b':=cj y) h3 hx).2,h2]
  ·simp at hf
 ·simp at hf
theorem H8:∀ (n:Nat) (l:List Value),eY n l [] = some l
 | 0,l=>uI l
 | n+1,[]=>L9 n
 | n+1,x::l=>by simp [np,H8 n l]
theorem R3 (off:Nat):∀ (l:List Value) (k:Nat) (cs:Array Value),off+k+l.length<=cs.size->
  ∃ r,eY (off+k) cs.toList l=some r/\((l.zipIdx k).foldl (fun cs (p:Value×Nat)=>cs.setIfInBounds (off+p.2) p.1) cs).toList=r
 | [],k,cs,_=>⟨cs.toList,H8 _ _,rfl⟩
 | v::l,k,cs,h=>by
  obtain ⟨r,h1,h2⟩:=R3 off l (k+1) (cs.setIfInBounds (off+k) v) (by simp at h ⊢; omega);refine ⟨r,?_,by simpa using h2⟩;have aJ:off+k < cs.size:=by simp at h; omega
  have key:∀ (n:Nat) (l0 l1:List Value) (v:Value),n < l0.length->eY (n+1) (l0.set n v) l1=eY n l0 (v::l1):=by
   intro n
   induction n with
   | zero=>intro l0 l1 v hn; cases l0 with
    | nil=>simp at hn
    | cons x xs=>simp [np,uJ]
   | succ n ih=>intro l0 l1 v hn; cases l0 with
    | nil=>simp at hn
    | cons x xs=>simp only [List.set_cons_succ]; rw [np,np]; rw [ih xs l1 v (by simpa using hn)]
  rw [<- key (off+k) cs.toList l v (by simpa using aJ)];rw [Array.toList_setIfInBounds] at h1;exact h1
theorem H9 {ρ:Ren} {place:Nat->Option (Nat×Nat)} : ∀ {is:List Nat} {vs bw:List Value} {cells:List Value} {uo:Array Value} {r:List Value},cz ρ vs bw->cz ρ cells uo.toList->(∀ v∈vs,∀ c,v≠.chan c)->
  vU place cells (zipIdx is vs)=some r->is.length=vs.length->∃ r',Instr.fill place uo (is.zip bw)=some r'/\cz ρ r r'.toList
 | [],vs,bw,cells,uo,r,hv,hc,_,h,hl=>by
  have:vs = []:=by cases vs <;> simp_all
  subst this;simp [zipIdx,vU] at h;subst h;exact ⟨uo,rfl,hc⟩
 | i::is,[],bw,cells,uo,r,hv,hc,_,h,hl=>by simp at hl
 | i::is,v::vs,bw,cells,uo,r,hv,hc,hn,h,hl=>by
  obtain ⟨y,ys,rfl,hvy,Ug⟩:=hv.cons_inv;simp only [zipIdx,vU] at h;cases hp:place i with
  | none=>rw [hp] at h; simp at h
  | some p=>
   obtain ⟨off,size⟩:=p;rw [hp] at h;simp only at h;cases hb:(Nat.beq v.cells.size size&&Nat.ble 1 size) with
   | false=>rw [hb] at h; simp at h
   | true=>
    rw [hb,ah] at h;obtain ⟨cs,h1,h2⟩:=aO.1 h;obtain ⟨uN,qf⟩:=Bool.and_eq_true_iff.1 hb;have cT:v.cells.size=size:=aD uN;have Aj:1<=size:=cM qf;have hvc:=hvy.cells (hn v (by simp));obtain ⟨bX,h3,h4⟩:=cz.write h1 hc hvc;have hys:y.cells.size=size:=by have:=hvc.length; simp at this; omega
    obtain ⟨_,jG,_⟩:=fB h3
    have hle:=jG (by intro e; have:y.cells.size=0:=by rw [<- Array.length_toList,e]; rfl
                     omega)
    simp at hle;obtain ⟨q,h5,h6⟩:=R3 off y.cells.toList 0 uo (by simpa using hle);rw [p7] at h5;rw [h3] at h5;simp at h5;subst h5;obtain ⟨r',h7,h8⟩:=H9 (uo:=((y.cells.toList.zipIdx 0).foldl (fun cs (p:Value×Nat)=>cs.setIfInBounds (off+p.2) p.1) uo)) (is:=is) Ug (by rw [h6]; exact h4) (fun v hv=>hn v (by simp [hv])) h2 (by simpa using hl);refine ⟨r',?_,h8⟩;simp only [List.zip_cons_cons,Instr.fill,hp,hys];rw [ae (by simp; omega)];have e:y.cells.zipIdx.foldl (fun cs (x:Value×Nat)=>cs.setIfInBounds (off+x.2) x.1) uo=((y.cells.toList.zipIdx 0).foldl (fun cs (p:Value×Nat)=>cs.setIfInBounds (off+p.2) p.1) uo):=by
     rw [<- Array.foldl_toList,Array.toList_zipIdx]
    rw [<- e] at h7;exact h7
theorem parts_eq (parts:Array (Nat×Operand)) (ev:Operand->Value):(parts.map fun (i,x)=>(i,ev x)).toList=(parts.toList.map (·.1)).zip ((parts.toList.map (·.2)).map ev):=by
 rw [Array.toList_map]
 induction parts.toList with
 | nil=>rfl
 | cons p l ih=>obtain ⟨i,x⟩:=p; simpa using ih
theorem Uh {vs:List Value} (h:vs.all known=true):∀ v∈vs,∀ c,v≠.chan c:=by
 intro v hv c e;rw [dU] at h;have:=h v hv;subst e;simp [known] at this
theorem Ui {t:TypeId} {z:Value} (h:uK P t=some z):∃ i,P.info? t=some i/\i.zero=some z:=by
 unfold uK at h;exact aO.1 h
theorem adG {t:TypeId} {n:Nat} (h:size? P t=some n):∃ i,P.info? t=some i/\i.size=n:=by
 unfold size? at h;exact aU.1 h
theorem CW {ρ:Ren} {z:Value} (h:flat z=true):cz ρ z.cells.toList z.cells.toList:=
 (VR.of_flat h).cells (fun r e=>by subst e; simp [flat] at h)
theorem S6 {ρ:Ren} {place:Nat->Option (Nat×Nat)} {z v:Value} {is:List Nat} {vs bw:List Value} (hv:cz ρ vs bw) (hl:is.length=vs.length) (h:xL place z is vs=some v) :
  ∃ r',Instr.fill place z.cells (is.zip bw)=some r'/\VR ρ v (.agg r'):=by
 unfold xL at h;cases hc:(flat z&&vs.all known) with
 | false=>rw [hc] at h; simp at h
 | true=>
  rw [hc,ah] at h;obtain ⟨h1,h2⟩:=Bool.and_eq_true_iff.1 hc;obtain ⟨r,h3,rfl⟩:=aU.1 h;obtain ⟨r',h4,h5⟩:=H9 hv (CW h1) (Uh h2) h3 hl;exact ⟨r',h4,by simp only [ns,VR]; exact ⟨r',tU.2 h5,rfl⟩⟩
theorem agW {t:TypeId} {parts:Array (Nat×Operand)} (ho:o.op = .build t parts):fk P o (Ee P t (parts.toList.map (·.1)) (parts.toList.map (·.2))):=by
 have done:∀ (place:Nat->Option (Nat×Nat)) (z:Value),(∀ ps cells,Instr.fill place z.cells ps=some cells->P.built t ps=some cells)->
   fk P o (.pure (xL place z (parts.toList.map (·.1))) (parts.toList.map (·.2))):=by
  intro place z hb ρ ev cj v he hf;obtain ⟨r',h1,h2⟩:=S6 he.map (by simp) hf;refine ⟨.agg r',h2,fun w=>?_⟩;have h3:=hb _ _ h1;have:=run_build (P:=P) w t (parts.map fun (i,x)=>(i,cj x)) r' (by rw [parts_eq]; exact h3);simp [execOp,ho,this]
 unfold Ee;split
 ·rename_i z fields hz hu
  split
  ·rename_i l hl
   obtain ⟨i,hi,hiz⟩:=Ui hz;refine done _ _ fun ps cells h=>?_;unfold Program.built;unfold placesOf at hl;simp only [hi,hu,hiz,hl];have e:(fun x=>l.toArray[x]?)=NW l:=by funext x; simp [NW]
   rw [e];exact h
  ·trivial
 ·rename_i z n e hz hu
  split
  ·rename_i k hk
   obtain ⟨i,hi,hiz⟩:=Ui hz;obtain ⟨j,hj,rfl⟩:=adG hk;refine done _ _ fun ps cells h=>?_;unfold Program.built;simp only [hi,hu,hiz,hj];exact h
  ·trivial
 ·trivial
theorem R4 (z:List Value) (hz:1<=z.length):∀ (len i:Nat),(eK z len)[i]? = if i < len * z.length then z[i % z.length]? else none
 | 0,i=>by simp [eK]
 | len+1,i=>by
  simp only [eK,List.getElem?_append];split
  ·rename_i h
   rw [ax (by rw [Nat.succ_mul]; omega),Nat.mod_eq_of_lt h]
  ·rename_i h
   rw [R4 z hz len (i - z.length)];rw [Nat.succ_mul];by_cases hc:i - z.length < len * z.length
   ·rw [ax hc,ax (by omega)]
    have:i % z.length=(i - z.length) % z.length:=Nat.mod_eq_sub_mod (by omega);rw [this]
   ·rw [ae hc,ae (by omega)]
theorem Mp (z:Array Value) (len:Nat) (hz:1<=z.size):(Array.range (len * z.size)).map (fun i=>z[i % z.size]!)=⟨eK z.toList len⟩:=by
 apply Array.ext';apply List.ext_getElem?;intro i;rw [R4 z.toList (by simpa using hz)];simp only [Array.length_toList];rw [Array.toList_map,Array.toList_range,mf];by_cases h:i < len * z.size
 ·rw [ax h,List.getElem?_range h]
  have hm:i % z.size < z.size:=Nat.mod_lt _ hz;simp [hm]
 ·rw [ae h,List.getElem?_eq_none (by simp; omega)]
  rfl
theorem cz.repeat {ρ:Ren} {z z' : List Value} (h:cz ρ z z'):∀ n,cz ρ (eK z n) (eK z' n)
 | 0=>.nil
 | n+1=>h.append (cz.repeat h n)
theorem Uj {t:TypeId} {len:Nat} {parts:Array (Nat×Operand)} (ho:o.op = .buildSlice t len parts):fk P o (rU P t len (parts.toList.map (·.1)) (parts.toList.map (·.2))):=by
 unfold rU;split
 ·rename_i e hu
  split
  ·rename_i n z hn hz
   cases hc:(Nat.ble (len * n) 16777216&&Nat.beq z.cells.size n&&Nat.ble 1 n&&flat z) with
   | false=>exact True.intro
   | true=>
    rw [ah];simp only [aj] at hc;obtain ⟨⟨⟨h1,h2⟩,h3⟩,h4⟩:=hc;have hle:len * n<=16777216:=cM h1;have Za:z.cells.size=n:=aD h2;have Aj:1<=n:=cM h3;intro ρ ev cj obj mk he hf;unfold oi at hf;obtain ⟨l,hl,hf⟩:=aO.1 hf;cases hk:(l.all scalar&&((parts.toList.map (·.2)).map ev).all known) with
    | false=>rw [hk] at hf; simp at hf
    | true=>
     rw [hk,ah] at hf;obtain ⟨ot,KL⟩:=Bool.and_eq_true_iff.1 hk;simp only [aR,bH] at hf;obtain ⟨rfl,rfl⟩:=hf;have am5:=cz.repeat (CW (ρ:=ρ) h4) len
     obtain ⟨r',h5,h6⟩:=H9 (uo:=⟨eK z.cells.toList len⟩) he.map am5 (Uh KL) hl (by simp);rw [dU] at ot;have hlen:l.length=len * n:=by
      have e1:∀ {is:List Nat} {vs cs r:List Value},vU (vv n) cs (zipIdx is vs)=some r->r.length=cs.length:=by
       intro is
       induction is with
       | nil=>intro vs cs r h; simp [zipIdx,vU] at h; subst h; rfl
       | cons i is ih=>
        intro vs cs r h;cases vs with
        | nil=>simp [zipIdx,vU] at h; subst h; rfl
        | cons v vs=>
         simp only [zipIdx,vU,vv] at h;cases hb:(Nat.beq v.cells.size n&&Nat.ble 1 n) with
         | false=>rw [hb] at h; simp at h
         | true=>
          rw [hb,ah] at h;obtain ⟨q,hq,h⟩:=aO.1 h;rw [ih h,(fB hq).1]
      rw [e1 hl];have e2:∀ (z:List Value) (k:Nat),(eK z k).length=k * z.length:=by
       intro z k
       induction k with
       | zero=>simp [eK]
       | succ k ih=>simp [eK,ih,Nat.succ_mul,Nat.add_comm]
      rw [e2];simp [Za]
     refine ⟨.cells r' e,fun b=>.slice (some ⟨b,0,none⟩) len len,⟨r',e,rfl,h6,ot⟩,fun w=>?_,fun ak m cb iY=>?_⟩
     ·have e1:(Array.range (len * n)).map (fun i=>z.cells[i % z.cells.size]!)=⟨eK z.cells.toList len⟩:=by
       rw [<- Za]; exact Mp z.cells len (by omega)
      have e2:Instr.fill (fun i=>some (i * n,n)) ((Array.range (len * n)).map (fun i=>z.cells[i % z.cells.size]!)) (parts.map fun (i,x)=>(i,cj x)).toList=some r':=by
       rw [e1,parts_eq]; exact h5
      have am6 : ¬ (2 ^ 24 < len * n):=by omega
      simp only [execOp,ho,Instr.buildSlice,Sem.run_bind,aV hu,fA,mi hn,gt_iff_lt];rw [ae am6];by_cases Ez:len * n=0
      ·rw [Ez] at e2
       have e5:∀ (f g:Nat->Value),(Array.range 0).map f=(Array.range 0).map g:=by intro f g; simp
       have e6:Instr.fill (fun i=>some (i * n,n)) ((Array.range 0).map (fun i=>z.cells[i % z.cells.size]!)) (Array.map (fun x=>(x.fst,cj x.snd)) parts).toList=some r':=e2;simp only [Ez,if_true,pure_bind];rw [e5 _ (fun i=>z.cells[i % z.cells.size]!)];simp only [e6];simp [newRow]
      ·have e6:Instr.fill (fun i=>some (i * n,n)) ((Array.range (len * n)).map (fun i=>z.cells[i % z.cells.size]!)) (Array.map (fun x=>(x.fst,cj x.snd)) parts).toList=some r':=e2
       simp only [Ez,if_false,bind_pure_comp,Sem.run_bind,J3 hz,fA,Sem.run_pure];simp only [e6];simp [newRow]
     ·simp only [VR]
      refine ⟨trivial,ao _,_,⟨cb,0,none⟩,len,iY,ao _,fun _=>by simp [qe],?_,rfl⟩;simp [qe,hlen]
  ·trivial
 ·trivial
theorem FX {ρ:Ren} {a:Option Addr} {n c:Nat} {y:Value} (h:VR ρ (.slice a n c) y):∃ a' c',y = .slice a' n c':=by
 cases a with
 | none=>exact ⟨_,_,h.e8⟩
 | some a=>obtain ⟨_,_,_,a',c',_,_,_,_,h⟩:=h.iD; exact ⟨_,_,h⟩
theorem agX {argTypes:Array TypeId} {args:Array Operand} {t e:TypeId} (ho:o.op = .call ⟨.builtin .len,args,argTypes⟩) (pP:argTypes[0]? = some t) (hu:P.underlying t=some (.slice e)):fk P o (.pure NX args.toList):=by
 intro ρ ev cj v he hf;have hm:=he.map;unfold NX at hf;split at hf
 ·rename_i a n c e1
  rw [e1] at hm;obtain ⟨y,ys,e2,h1,h2⟩:=hm.cons_inv;have h2:=h2.bA;subst h2;simp at hf; subst hf;refine ⟨_,VR.of_flat rfl,fun w=>?_⟩;obtain ⟨a',c',rfl⟩:=FX h1;have e3:(args.map cj)[0]? = some (.slice a' n c'):=by rw [lN,e2]; rfl
  simp [execOp,ho,resolve,invoke,builtin,Builtin.len_,pP,e3,aV hu,goInt]
 ·simp at hf
theorem adH {argTypes:Array TypeId} {args:Array Operand} {t:TypeId} (ho:o.op = .call ⟨.builtin .len,args,argTypes⟩) (pP:argTypes[0]? = some t) (hu:P.underlying t=some .string):fk P o (.pure NY args.toList):=by
 intro ρ ev cj v he hf;have hm:=he.map;unfold NY at hf;split at hf
 ·rename_i s e1
  rw [e1] at hm;obtain ⟨y,ys,e2,h1,h2⟩:=hm.cons_inv;have h2:=h2.bA;subst h2;simp at hf; subst hf;refine ⟨_,VR.of_flat rfl,fun w=>?_⟩;have h1:=h1.mZ;subst h1;have e3:(args.map cj)[0]? = some (.string s):=by rw [lN,e2]; rfl
  simp [execOp,ho,resolve,invoke,builtin,Builtin.len_,pP,e3,aV hu,goInt]
 ·simp at hf
theorem Qx {ρ:Ren} {vs bw:List Value} {x x' : Value} {g:FuncId} {aow:List Value} (hx:VR ρ x x') (hv:cz ρ vs bw) (hg:Nat.blt g yB=true) (h:jc vs x=some (g,aow)) :
  ∃ first cap aox,x' = .func (.func g) first cap/\aox=first.toList++bw++cap.toList/\cz ρ aow aox:=by
 unfold jc at h;split at h
 ·rename_i g' first cap
  cases hb:Nat.blt g' yB with
  | false=>rw [hb] at h; simp at h
  | true=>
   rw [hb,ah] at h;simp at h;obtain ⟨rfl,rfl⟩:=h;obtain ⟨f',c',tT,rfl,h1,h2,h3⟩:=hx.xU;have h3:tT = .func g':=h3;subst h3;exact ⟨f',c',_,rfl,rfl,by simpa using (h1.append hv).append h2⟩
 ·simp at h
  obtain ⟨rfl,_⟩:=h;rw [b7] at hg;exact absurd hg (Nat.not_lt.2 (Nat.le_add_right _ _))
 ·simp at h
theorem ait {c:Call} {f:Operand} (ho:o.op = .call c) (hf:c.callee = .value f):fk P o (.call f c.args.toList):=by
 refine ⟨fun ρ ev cj l he hy=>?_,?_⟩
 ·have hx:=he f (by simp)
  rw [hy] at hx;obtain ⟨f',c',tT,h1,h2,h3,loc,h4,h5⟩:=hx.xU;subst h5;have h2:=h2.bA;have h3:=h3.bA;have e1:f' = #[]:=by cases f'; simpa using h2
  have e2:c' = #[]:=by cases c'; simpa using h3
  subst e1; subst e2;refine ⟨loc,_,h4,he.tail.map,fun w=>?_⟩;have e:c.args.map cj=(c.args.toList.map cj).toArray:=by apply Array.ext'; simp
  simp only [execOp,ho,Sem.run_bind,resolve,hf,Deferred.ofValue,h1,Sem.run_pure,fA,invoke];simp [e]
 intro ρ ev cj g vs he hg G9 Qw;obtain ⟨first,cap,aox,h1,h2,h3⟩:=Qx (he f (by simp)) he.tail.map hg G9;obtain ⟨fn,h4,h5,h6⟩:=Qw;refine ⟨aox,h3,fun w=>?_⟩;have hb:fn.body.isNone=false:=by simpa using h5
 have e:first++c.args.map cj++cap=aox.toArray:=by
  apply Array.ext';simp [h2]
 have hh : ¬(fn.name = "runtime.NumGoroutine") := by simpa using h6
 simp only [execOp,ho,Sem.run_bind,resolve,hf,Deferred.ofValue,h1,Sem.run_pure,fA,invoke,callFunc,run_program,h4];simp [hh,hb,<- e]
end
end Go.az
end
section
namespace Go.az
open Go
section
variable {P:Program} {o:Oper}
theorem gV {ρ:Ren} {y y' : Nat} {v v' : Value} {r:Nat} (hv:VR ρ v v') (h:SZ y v=some r) (hy:y<=y') :
  r<=y/\∀ code w,(Instr.sliceBound v' y' code).run P w = .ok r w:=by
 unfold SZ at h;split at h
 ·rename_i k i
  obtain ⟨rfl,aJ⟩:=sM h;have:=hv.bQ;subst this;have hle:r<=y:=by omega
  refine ⟨hle,fun code w=>?_⟩;have:=run_sliceBound (P:=P) w k (r:Int) y' code (by omega) (by omega);simpa using this
 ·simp at h
theorem CX {ρ:Ren} {ev cj:Operand->Value} {lo hi mx:Option Operand} {len cap Uk l h m:Nat} (he:qK ρ ev cj (eh lo++eh hi++eh mx))
  (hb:pV len cap lo.isSome hi.isSome mx.isSome ((eh lo++eh hi++eh mx).map ev)=some (l,h,m)) (hc:cap<=Uk) (AE:len<=cap) :
  l<=h/\h<=m/\m<=cap/\m<=(cond mx.isSome m Uk)/\(cond mx.isSome m Uk)<=Uk/\(mx.isSome=false->m=cap)/\∀ b w,(Instr.sliceBounds b len Uk (lo.map cj) (hi.map cj) (mx.map cj)).run P w = .ok (l,h,cond mx.isSome m Uk) w:=by
 cases lo with
 | none=>
  cases hi with
  | none=>
   cases mx with
   | none=>
    simp [eh,pV] at hb;obtain ⟨rfl,rfl,rfl⟩:=hb;exact ⟨by omega,AE,ao _,hc,ao _,fun _=>rfl,fun b w=>by simp [Instr.sliceBounds]⟩
   | some x=>simp [eh,pV] at hb
  | some y=>
   cases mx with
   | none=>
    simp only [eh,Option.isSome,List.nil_append,og,List.map,pV,aU] at hb;obtain ⟨r,hr,hb⟩:=hb;simp at hb;obtain ⟨rfl,rfl,rfl⟩:=hb;obtain ⟨h1,h2⟩:=gV (P:=P) (he y (by simp [eh])) hr hc;exact ⟨by omega,h1,ao _,hc,ao _,fun _=>rfl,fun b w=>by simp [Instr.sliceBounds,h2]⟩
   | some z=>
    simp only [eh,Option.isSome,List.nil_append,List.map,List.cons_append,pV,aO,aU] at hb;obtain ⟨r,hr,q,hq,hb⟩:=hb;simp at hb;obtain ⟨rfl,rfl,rfl⟩:=hb;obtain ⟨h1,h2⟩:=gV (P:=P) (he z (by simp [eh])) hr hc;obtain ⟨h3,h4⟩:=gV (P:=P) (he y (by simp [eh])) hq (ao _);exact ⟨by omega,h3,h1,ao _,by simp; omega,fun h=>by simp at h,fun b w=>by simp [Instr.sliceBounds,h2,h4]⟩
 | some x=>
  cases hi with
  | none=>
   cases mx with
   | none=>
    simp only [eh,Option.isSome,og,List.map,pV,aU] at hb;obtain ⟨r,hr,hb⟩:=hb;simp at hb;obtain ⟨rfl,rfl,rfl⟩:=hb;obtain ⟨h1,h2⟩:=gV (P:=P) (he x (by simp [eh])) hr (ao _);exact ⟨h1,AE,ao _,hc,ao _,fun _=>rfl,fun b w=>by simp [Instr.sliceBounds,h2]⟩
   | some x=>simp [eh,pV] at hb
  | some y=>
   cases mx with
   | none=>
    simp only [eh,Option.isSome,og,List.map,List.cons_append,List.nil_append,pV,aO,aU] at hb;obtain ⟨r,hr,q,hq,hb⟩:=hb;simp at hb;obtain ⟨rfl,rfl,rfl⟩:=hb;obtain ⟨h1,h2⟩:=gV (P:=P) (he y (by simp [eh])) hr hc;obtain ⟨h3,h4⟩:=gV (P:=P) (he x (by simp [eh])) hq (ao _);exact ⟨h3,h1,ao _,hc,ao _,fun _=>rfl,fun b w=>by simp [Instr.sliceBounds,h2,h4]⟩
   | some z=>
    simp only [eh,Option.isSome,List.map,List.cons_append,List.nil_append,pV,aO,aU] at hb;obtain ⟨r,hr,q,hq,s,hs,hb⟩:=hb;simp at hb;obtain ⟨rfl,rfl,rfl⟩:=hb;obtain ⟨h1,h2⟩:=gV (P:=P) (he z (by simp [eh])) hr hc;obtain ⟨h3,h4⟩:=gV (P:=P) (he y (by simp [eh])) hq (ao _);obtain ⟨h5,h6⟩:=gV (P:=P) (he x (by simp [eh])) hs (ao _);exact ⟨h5,h3,h1,ao _,by simp; omega,fun h=>by simp at h,fun b w=>by simp [Instr.sliceBounds,h2,h4,h6]⟩
theorem Mq {A:St} {b n:Nat} (h:sH A b n=true):∃ cs own aZ,A.get b=some (.row cs n own aZ):=by
 unfold sH at h;split at h
 ·rename_i cs aQ own aZ hg
  have:=aD h;subst this;exact ⟨cs,own,aZ,hg⟩
 ·simp at h
theorem ok_slice {t:TypeId} {x:Operand} {lo hi mx:Option Operand} (ho:o.op = .slice t x lo hi mx):fk P o (Eh P t x lo hi mx):=by
 unfold Eh;split
 ·rename_i e hu
  split
  ·rename_i n hn
   cases Aj:Nat.ble 1 n with
   | false=>exact True.intro
   | true=>
    rw [ah];have Aj:1<=n:=cM Aj;intro ρ A base w ev cj v hs he hf;have hx:=he x (by simp);have hsl:P.underlying t=some (.slice (P.elem t))->True:=fun _=>trivial;simp only [List.map,o8] at hf;split at hf
    ·rename_i len cap vs e1
     simp only [List.cons.injEq] at e1;obtain ⟨e1,e2⟩:=e1;rw [e1] at hx;have hx:=hx.e8;subst e2;obtain ⟨⟨l,h,m⟩,hb,rfl⟩:=aU.1 hf;by_cases AE:len<=cap
     ·obtain ⟨h1,h2,h3,h4,h5,h6,h7⟩:=CX (P:=P) he.tail hb (ao _) AE
      have hm:cond mx.isSome m cap=m:=by cases S7:mx.isSome <;> simp; exact (h6 S7).symm
      refine ⟨.slice none (h - l) (m - l),by simp [VR],?_⟩;simp [execOp,ho,Instr.sliceAt,Instr.slice,aV hu,hx,h7,hm,mi hn]
     ·
      have key:∀ b w,(Instr.sliceBounds b len cap (lo.map cj) (hi.map cj) (mx.map cj)).run P w = .ok (l,h,m) w:=by
       intro b w;have afe:cap<=len:=by omega
       cases lo with
       | none=>
        cases hi with
        | none=>
         cases mx with
         | none=>simp [eh,pV] at hb; obtain ⟨rfl,rfl,rfl⟩:=hb; simp [Instr.sliceBounds]
         | some x=>simp [eh,pV] at hb
        | some y=>
         cases mx with
         | none=>
          simp only [eh,Option.isSome,List.nil_append,og,List.map,pV,aU] at hb;obtain ⟨r,hr,hb⟩:=hb;simp at hb;obtain ⟨rfl,rfl,rfl⟩:=hb;have:=(gV (P:=P) (he y (by simp [eh])) hr (ao _)).2;simp [Instr.sliceBounds,this]
         | some z=>
          simp only [eh,Option.isSome,List.nil_append,List.map,List.cons_append,pV,aO,aU] at hb;obtain ⟨r,hr,q,hq,hb⟩:=hb;simp at hb;obtain ⟨rfl,rfl,rfl⟩:=hb;have h2:=(gV (P:=P) (he z (by simp [eh])) hr (ao _)).2;have h4:=(gV (P:=P) (he y (by simp [eh])) hq (ao _)).2;simp [Instr.sliceBounds,h2,h4]
       | some x'=>
        cases hi with
        | none=>
         cases mx with
         | none=>
          simp only [eh,Option.isSome,og,List.map,pV,aU] at hb;obtain ⟨r,hr,hb⟩:=hb;simp at hb;obtain ⟨rfl,rfl,rfl⟩:=hb;have:=(gV (P:=P) (he x' (by simp [eh])) hr (ao _)).2;simp [Instr.sliceBounds,this]
         | some x=>simp [eh,pV] at hb
        | some y=>
         cases mx with
         | none=>
          simp only [eh,Option.isSome,og,List.map,List.cons_append,List.nil_append,pV,aO,aU] at hb;obtain ⟨r,hr,q,hq,hb⟩:=hb;simp at hb;obtain ⟨rfl,rfl,rfl⟩:=hb;have h2:=(gV (P:=P) (he y (by simp [eh])) hr (ao _)).2;have h4:=(gV (P:=P) (he x' (by simp [eh])) hq (ao _)).2;simp [Instr.sliceBounds,h2,h4]
         | some z=>
          simp only [eh,Option.isSome,List.map,List.cons_append,List.nil_append,pV,aO,aU] at hb;obtain ⟨r,hr,q,hq,s,Oj,hb⟩:=hb;simp at hb;obtain ⟨rfl,rfl,rfl⟩:=hb;have h2:=(gV (P:=P) (he z (by simp [eh])) hr (ao _)).2;have h4:=(gV (P:=P) (he y (by simp [eh])) hq (ao _)).2;have h6:=(gV (P:=P) (he x' (by simp [eh])) Oj (ao _)).2;simp [Instr.sliceBounds,h2,h4,h6]
      refine ⟨.slice none (h - l) (m - l),by simp [VR],?_⟩;simp [execOp,ho,Instr.sliceAt,Instr.slice,aV hu,hx,key,mi hn]
    ·rename_i a len cap vs e1
     simp only [List.cons.injEq] at e1;obtain ⟨e1,e2⟩:=e1;rw [e1] at hx;subst e2;obtain ⟨tV,AE,lc,a',c',hl,ri,Bv,jG,h'⟩:=hx.iD;cases hg:(bI a&&sH A a.block n) with
     | false=>rw [hg] at hf; simp at hf
     | true=>
      rw [hg,ah] at hf;obtain ⟨_,Ol⟩:=Bool.and_eq_true_iff.1 hg;obtain ⟨cs,own,aZ,dC⟩:=Mq Ol;obtain ⟨l2,iK,ok⟩:=hs.row _ _ _ _ _ dC;rw [hl] at iK; simp at iK; subst iK;have Qy:lc.aQ=n:=ok.aQ;obtain ⟨⟨l,h,m⟩,hb,rfl⟩:=aU.1 hf;obtain ⟨h1,h2,h3,h4,h5,h6,h7⟩:=CX (P:=P) he.tail hb ri AE;generalize Ey:cond mx.isSome m c' = m' at h4 h5 h7;refine ⟨.slice (some (if m' = l then a' else a'.add (l * n))) (h - l) (m' - l),?_,?_⟩
      ·simp only [VR]
       refine ⟨trivial,by omega,lc,_,m' - l,hl,by omega,fun bx=>?_,?_,rfl⟩
       ·rw [ae (by omega),Bv (by omega),jq]
        simp only [nG]
       ·rw [Qy]
        rw [Qy] at jG;have e5:l * n+(m' - l) * n=m' * n:=by rw [<- Nat.add_mul]; congr 1; omega
        have e6:m' * n<=c' * n:=Nat.mul_le_mul_right _ h5;omega
      ·simp only [execOp,ho,Instr.sliceAt,Instr.slice,Sem.run_bind,aV hu,fA,h',h7,mi hn]
       by_cases S8:m' = l <;> simp [S8]
    ·simp at hf
  ·trivial
 ·rename_i len e hu
  split
  ·rename_i n hn
   cases Aj:Nat.ble 1 n with
   | false=>exact True.intro
   | true=>
    rw [ah];intro ρ A base w ev cj v hs he hf;have hx:=he x (by simp);simp only [List.map,FF] at hf;split at hf
    ·rename_i a vs e1
     simp only [List.cons.injEq] at e1;obtain ⟨e1,e2⟩:=e1;rw [e1] at hx;subst e2;obtain ⟨tV,lc,hl,h'⟩:=hx.fX;cases hg:(bI a&&sH A a.block n&&Nat.ble (a.off+len * n) (rowLen A a.block)) with
     | false=>rw [hg] at hf; simp at hf
     | true=>
      rw [hg,ah] at hf;simp only [aj] at hg;obtain ⟨⟨_,Ol⟩,hlen⟩:=hg;obtain ⟨cs,own,aZ,dC⟩:=Mq Ol;obtain ⟨l2,iK,ok⟩:=hs.row _ _ _ _ _ dC;rw [hl] at iK; simp at iK; subst iK;have Qy:lc.aQ=n:=ok.aQ;have hlen:=cM hlen;have Ia:rowLen A a.block=cs.length:=by unfold rowLen; rw [dC]
      rw [Ia] at hlen;have hft:=ok.fits;obtain ⟨⟨l,h,m⟩,hb,rfl⟩:=aU.1 hf;obtain ⟨h1,h2,h3,h4,h5,h6,h7⟩:=CX (P:=P) he.tail hb (ao _) (ao _);have hm:cond mx.isSome m len=m:=by cases S7:mx.isSome <;> simp; exact (h6 S7).symm
      rw [hm] at h7;refine ⟨.slice (some (if m=l then ⟨lc.cb,lc.cf+a.off,none⟩ else (⟨lc.cb,lc.cf+a.off,none⟩:Addr).add (l * n))) (h - l) (m - l),?_,?_⟩
      ·simp only [VR]
       refine ⟨trivial,by omega,lc,_,m - l,hl,ao _,fun bx=>?_,?_,rfl⟩
       ·rw [ae (by omega),jq]
        simp only [nG]
       ·rw [Qy]
        have e5:l * n+(m - l) * n=m * n:=by rw [<- Nat.add_mul]; congr 1; omega
        have e6:m * n<=len * n:=Nat.mul_le_mul_right _ h3;omega
      ·simp only [execOp,ho,Instr.sliceAt,Sem.run_bind,aV hu,fA,h',Instr.sureAddr,Sem.run_pure,h7,mi hn]
    ·simp at hf
  ·trivial
 ·rename_i hu
  cases S7:mx with
  | some z=>exact True.intro
  | none=>
   show fk P o (.pure (Bp lo.isSome hi.isSome) (x::(eh lo++eh hi)));intro ρ ev cj v he hf;have hx:=he x (by simp);simp only [List.map,Bp] at hf;split at hf
   ·rename_i s vs e1
    simp only [List.cons.injEq] at e1;obtain ⟨e1,e2⟩:=e1;rw [e1] at hx;have hx:=hx.mZ;subst e2;obtain ⟨⟨l,h,m⟩,hb,rfl⟩:=aU.1 hf;have he' : qK ρ ev cj (eh lo++eh hi++eh (none:Option Operand)):=by simpa [eh] using he.tail
    obtain ⟨h1,h2,h3,h4,h5,h6,h7⟩:=CX (P:=P) (mx:=none) he' (by simpa [eh] using hb) (ao _) (ao _);simp only [Option.isSome_none,ay,Option.map_none] at h7;refine ⟨.string (s.extract l h),?_,fun w=>?_⟩
    ·have e:(⟨⟨(s.data.toList.drop l).take (h - l)⟩⟩:ByteArray)=s.extract l h:=by
      apply ByteArray.ext;apply Array.ext';simp [ByteArray.data_extract,List.extract_eq_take_drop]
     rw [e];simp [VR]
    ·simp [execOp,ho,Instr.sliceAt,Instr.slice,aV hu,hx,S7,h7]
   ·simp at hf
 ·trivial
theorem WZ {t:TypeId} {l c:Operand} (ho:o.op = .makeSlice t l c):fk P o (tP P t l c):=by
 unfold tP;split
 ·rename_i e hu
  split
  ·rename_i i hi
   split
   ·rename_i z hz
    cases hc:(Nat.ble 1 i.size&&Nat.ble 1 i.bytes&&Nat.beq z.cells.size i.size&&flat z&&z.cells.toList.all scalar) with
    | false=>exact True.intro
    | true=>
     rw [ah];simp only [aj] at hc;obtain ⟨⟨⟨⟨h1,h2⟩,h3⟩,h4⟩,h5⟩:=hc;have hn:1<=i.size:=cM h1;have hb:1<=i.bytes:=cM h2;have Za:z.cells.size=i.size:=aD h3;rw [dU] at h5;intro ρ ev cj obj mk he hf;simp only [List.map,yV] at hf;split at hf
     ·rename_i k1 l0 k2 c0 e1
      simp only [List.cons.injEq,and_true] at e1;cases hk:(Nat.ble l0 c0&&Nat.ble (i.bytes * c0) 281474976710656) with
      | false=>rw [hk] at hf; simp at hf
      | true=>
       rw [hk,ah] at hf;obtain ⟨ot,KL⟩:=Bool.and_eq_true_iff.1 hk;have hle:l0<=c0:=cM ot;have S9:i.bytes * c0<=281474976710656:=cM KL;simp only [aR,bH] at hf;obtain ⟨rfl,rfl⟩:=hf;have hl:=he l (by simp);have ri:=he c (by simp);rw [e1.1] at hl;rw [e1.2] at ri;have hl:=hl.bQ;have ri:=ri.bQ;have e2:madeCells z.cells (c0 * i.size)=⟨eK z.cells.toList c0⟩:=by
        unfold madeCells;rw [<- Za];exact Mp z.cells c0 (by omega)
       have hc0:c0<=i.bytes * c0:=Nat.le_mul_of_pos_left _ hb;have am7:∀ (z:List Value) (k:Nat),(eK z k).length=k * z.length:=by
        intro z k
        induction k with
        | zero=>simp [eK]
        | succ k ih=>simp [eK,ih,Nat.succ_mul,Nat.add_comm]
       have am8:∀ (z:List Value) (k:Nat) (v:Value),v∈eK z k->v∈z:=by
        intro z k v
        induction k with
        | zero=>simp [eK]
        | succ k ih=>simp only [eK,eX]; exact fun h=>h.elim id ih
       refine ⟨.cells ⟨eK z.cells.toList c0⟩ e,fun b=>.slice (some ⟨b,0,none⟩) l0 c0,⟨_,e,rfl,cz.repeat (CW h4) c0,fun v hv=>h5 v (am8 _ _ _ hv)⟩,fun w=>?_,fun ak n cb iY=>?_⟩
       ·have hr:=run_make (P:=P) w t e i z hu hi hz k1 k2 (l0:Int) (c0:Int) (by omega) (by omega) (by rw [<- Int.natCast_mul]; exact Int.ofNat_le.2 S9) (by omega)
        have iJ:cj l = .int k1 (l0:Int):=hl;have Ul:cj c = .int k2 (c0:Int):=ri;simp only [rh,e2] at hr;simp [execOp,ho,iJ,Ul,hr]
       ·simp only [VR]
        refine ⟨trivial,hle,_,⟨cb,0,none⟩,c0,iY,ao _,fun _=>rfl,?_,rfl⟩;show 0+0+c0 * i.size<=(eK z.cells.toList c0).length;rw [am7];simp [Za]
     ·simp at hf
   ·trivial
  ·trivial
 ·trivial
theorem agY {t:TypeId} {x:Operand} (ho:o.op = .makeInterface t x):fk P o (Qm P t x):=by
 unfold Qm;split
 ·trivial
 ·rename_i d hu hd
  intro ρ ev cj v he hf;simp [ae2] at hf;subst hf;refine ⟨.iface t (cj x),by simp only [VR]; exact ⟨_,he x (by simp),rfl⟩,fun w=>?_⟩;simp only [execOp,ho,Instr.makeInterface,Sem.run_bind,aV hd,fA];cases d <;> first | rfl | exact absurd rfl (hu _)
 ·trivial
theorem Om {ρ:Ren} {s:List Value->Sem Value} {vs bw:List Value} {v:Value} (hv:cz ρ vs bw) (h:FE P s vs=some v):VR ρ v v/\∀ w,(s bw).run P w = .ok v w:=by
 unfold FE at h;cases hf:nQ vs with
 | false=>rw [hf] at h; simp at h
 | true=>
  rw [hf,ah] at h;obtain ⟨u,hu,h⟩:=aO.1 h;cases hfu:flat u with
  | false=>rw [hfu] at h; simp at h
  | true=>
   rw [hfu] at h;simp at h;subst h;rw [cz.jW hf hv];exact ⟨VR.of_flat hfu,fun w=>eO hu w⟩
theorem aky {argTypes:Array TypeId} {args:Array Operand} (ho:o.op = .call ⟨.builtin .min,args,argTypes⟩):fk P o (.pure (FE P fun vs=>Builtin.min_ #[] 0 ⟨vs⟩) args.toList):=by
 intro ρ ev cj v he hf;obtain ⟨h1,h2⟩:=Om he.map hf;refine ⟨v,h1,fun w=>?_⟩;have h3:=h2 w;simp only [Builtin.min_] at h3;simp only [execOp,ho,resolve,Sem.run_bind,Sem.run_pure,fA,invoke,builtin,Builtin.min_,lN];simp only [h3,fA]
theorem akz {argTypes:Array TypeId} {args:Array Operand} (ho:o.op = .call ⟨.builtin .max,args,argTypes⟩):fk P o (.pure (FE P fun vs=>Builtin.max_ #[] 0 ⟨vs⟩) args.toList):=by
 intro ρ ev cj v he hf;obtain ⟨h1,h2⟩:=Om he.map hf;refine ⟨v,h1,fun w=>?_⟩;have h3:=h2 w;simp only [Builtin.max_] at h3;simp only [execOp,ho,resolve,Sem.run_bind,Sem.run_pure,fA,invoke,builtin,Builtin.max_,lN];simp only [h3,fA]
theorem R5 {ρ:Ren} {x x' : Value} {k:Nat} (hx:VR ρ x x') (h:RS x=some k):Builtin.lenOf x' = Sem.pure k:=by
 unfold RS at h;split at h
 ·obtain ⟨a',c',rfl⟩:=FX hx
  simp at h; subst h; rfl
 ·have:=hx.mZ
  subst this;simp at h; subst h; rfl
 ·simp at h
theorem yI {ρ:Ren} {A:St} {base:Nat} {w:World} {n k:Nat} {x x' : Value} {new:List Value} (hs:Rel ρ A.get A.members base w) (hx:VR ρ x x') (h:sI A n k x=some new)
  (hk:∀ m,RS x=some m->k<=m) (hn:1<=n):∃ bK,cz ρ new bK/\(∀ v∈new,scalar v=true)/\new.length=k * n/\(Builtin.firstCells n k x').run P w = .ok bK.toArray w:=by
 unfold sI at h;split at h
 ·rename_i a len cap
  obtain ⟨tV,AE,lc,a',c',hl,ri,Bv,jG,rfl⟩:=hx.iD;have hkl:=hk len rfl;obtain ⟨bX,h1,h2,h3,h4⟩:=sL (P:=P) hs h hl;refine ⟨bX,h1,h3,h2,?_⟩;simp only [Builtin.firstCells];by_cases hc:c' = 0
  ·have oP:k=0:=by omega
   subst oP;have mh:new = []:=by rw [Nat.zero_mul] at h2; exact List.eq_nil_of_length_eq_zero h2
   subst mh;rw [h1.bA,Nat.zero_mul];exact run_loadCells_list w a' [] (by simp)
  ·rw [Bv hc]; exact h4
 ·rename_i len cap
  have:=hx.e8;subst this;cases hb:Nat.beq k 0 with
  | false=>rw [hb] at h; simp at h
  | true=>
   rw [hb] at h;simp at h;subst h;have oP:=aD hb;subst oP;exact ⟨[],.nil,by simp,by simp,run_firstCells_none w n 0 len cap⟩
 ·rename_i s
  have:=hx.mZ;subst this;cases hb:Nat.beq n 1 with
  | false=>rw [hb] at h; simp at h
  | true=>
   rw [hb] at h;simp at h;have Qz:=aD hb;subst Qz;have nu:=hk s.size rfl;have cT:s.data.size=s.size:=rfl;have fl:∀ l:List UInt8,cz ρ (l.map fun b=>Value.int .u8 b.toNat) (l.map fun b=>Value.int .u8 b.toNat):=by
    intro l
    induction l with
    | nil=>exact .nil
    | cons x l ih=>exact .cons (by simp [VR]) ih
   subst h;refine ⟨((s.data.toList.take k).map fun b=>.int .u8 b.toNat),by simpa using fl (s.data.toList.take k),?_,?_,?_⟩
   ·intro v hv
    obtain ⟨b,_,rfl⟩:=vR.1 (by first | exact hv | exact List.mem_of_mem_take hv);rfl
   ·simp; omega
   ·simp only [Builtin.firstCells]
    rw [Sem.run_pure];congr 1;apply Array.ext';simp [ByteArray.data_extract,List.extract_eq_take_drop]
 ·simp at h
theorem sN (t u ty e:TypeId) (i:TypeInfo) (ht:P.underlying t=some (.slice e)) (hi:P.info? e=some i) (hu:Br P u=true) (base:Option Addr) (cq jS:Nat) (x:Value) (n:Nat) (news:List Value)
  (hlen:Builtin.lenOf x=Sem.pure n) (w:World) (uq:(Builtin.firstCells i.size n x).run P w = .ok news.toArray w) (lh:cq+n<=jS) :
  (Builtin.append_ #[t,u] ty #[.slice base cq jS,x]).run P w=(((match base with | some a=>storeCells (a.add (cq * i.size)) news | none=>pure ():Sem Unit).run P w).andThen fun _ w=>.ok (.slice base (cq+n) jS) w):=by
 have hk:(∃ e',P.underlying u=some (.slice e'))\/P.underlying u=some .string:=by
  unfold Br at hu;split at hu
  ·rename_i e' h; exact .inl ⟨_,h⟩
  ·rename_i h; exact .inr h
  ·simp at hu
 rcases hk with ⟨e',hk⟩ | hk <;> cases base <;> simp [Builtin.append_,aV ht,aV hk,sizeOf,typeInfo,hi,hlen,lh,uq]
theorem QA (t u ty e:TypeId) (i:TypeInfo) (z:Value) (ht:P.underlying t=some (.slice e)) (hi:P.info? e=some i) (hz:i.zero=some z) (hu:Br P u=true) (base:Option Addr) (cq jS:Nat)
  (x:Value) (n:Nat) (R6 news:List Value) (hlen:Builtin.lenOf x=Sem.pure n) (w:World) (hold:(Builtin.firstCells i.size cq (.slice base cq jS)).run P w.drew = .ok R6.toArray w.drew)
  (uq:(Builtin.firstCells i.size n x).run P w.drew = .ok news.toArray w.drew) (hg:jS < cq+n) (h63:cq+n<=17592186044416) (jG:Builtin.nextslicecap (cq+n) jS * i.bytes<=281474976710656) :
  (Builtin.append_ #[t,u] ty #[.slice base cq jS,x]).run P w =
   .ok (.slice (some ⟨w.heap.size,0,none⟩) (cq+n) (grownCap w (cq+n) jS e))
    (w.drew.alloc (.cells ((R6++news).toArray++Builtin.zeroCells z.cells (grownCap w (cq+n) jS e - (cq+n))) e)):=by
 have hk:(∃ e',P.underlying u=some (.slice e'))\/P.underlying u=some .string:=by
  unfold Br at hu;split at hu
  ·rename_i e' h; exact .inl ⟨_,h⟩
  ·rename_i h; exact .inr h
  ·simp at hu
 have hn : ¬ (cq+n<=jS):=by omega
 have am9 : ¬ (9223372036854775807 < ((cq:Int)+(n:Int))):=by omega
 have ana : ¬ (281474976710656 < Builtin.nextslicecap (cq+n) jS * i.bytes):=by omega
 rcases hk with ⟨e',hk⟩ | hk <;>
  (simp [Builtin.append_,aV ht,aV hk,sizeOf,typeInfo,zeroValue,hi,hz,hlen,hn,am9,ana,Question.forced,uq,hold,newRow,grownCap]
   congr 2;apply Array.ext';simp [JT])
theorem Mr {ρ:Ren} {A:St} {base:Nat} {w:World} (hs:iu ρ A base w) (b lo hi:Nat) (L:List Nat):cp base ρ A w ρ (A.kill b lo hi L) w:=by
 obtain ⟨AG,iK⟩:=Ex b lo hi L A;have DD:∀ x o,(A.kill b lo hi L).get x=some o->o≠.dead->A.get x=some o:=by
  intro x o hx hd;rw [xQ] at hx;split at hx
  ·simp at hx; exact absurd hx.symm hd
  ·exact hx
 have hm:∀ o:aY,o.cr=true->o≠.dead:=by intro o h e; subst e; simp [aY.cr] at h
 refine ⟨⟨.qd (fun x o hx hd=>hs.rel.obj (DD x o hx hd) hd) (fun b1 b2 o1 o2 l1 l2 bx g1 g2 m1 m2=>hs.rel.apart b1 b2 o1 o2 l1 l2 bx (DD _ _ g1 (hm _ m1)) (DD _ _ g2 (hm _ m2)) m1 m2) (fun x o aF f hx hk=>?_),fun x l h=>?_,hs.size,hs.lL⟩,
  fun _ _=>rfl,.refl _ _ _,by simp,AG,fun x _ hx=>?_,fun k _ h=>?_⟩
 ·rw [DC]; exact hs.rel.aX x o aF f (DD x o hx (by intro e; subst e; simp [aY.hO] at hk)) hk
 ·rw [FT]; exact hs.fT x l h
 ·cases Classical.em ((A.kill b lo hi L).get x=A.get x) with
  | inl h=>exact h
  | inr h=>have:=iK x h; omega
 ·obtain ⟨x,o,l,hx,Ey,hr,e⟩:=h
  exact ⟨x,o,l,DD x o hx (hm _ Ey),Ey,hr,e⟩
theorem EB (A:St) (aF f:Nat) (cs:List Value) (n x:Nat):(A.grow aF f cs n).get x=if x=A.next then some (.row cs n true (some (aF,f))) else A.get x:=by
 simp [St.grow]
theorem tW (A:St) (aF f:Nat) (cs:List Value) (n g:Nat):(A.grow aF f cs n).members g=if g=aF then A.next::A.members aF else A.members g:=by
 simp only [St.grow,St.yG,St.jX]
theorem Ib {ρ:Ren} {A:St} {base:Nat} {w:World} {cs bX:List Value} {c:Array Value} {n aF f:Nat} (T:TypeId) (hs:iu ρ A base w) (hc:cz ρ cs bX) (h1:∀ v∈cs,scalar v=true)
  (Ll:∀ (j:Nat) (v:Value),bX[j]? = some v->c[j]? = some v) (cT:cs.length<=c.size) :
  cp base ρ A w (ρ.set A.next ⟨w.heap.size,0,c.size,n⟩) (A.grow aF f cs n) (w.alloc (.cells c T)):=by
 refine xS (o:=.row cs n true (some (aF,f))) hs (fun x=>EB _ _ _ _ _ _) (fun g x h=>?_) (fun g f' h=>?_) (by simp [St.grow]) (by simp [St.grow]) (fun x hx _=>by rw [EB,ae (by omega)]) rfl ?_
 ·rw [tW]; split
  ·rename_i e; subst e; simp [h]
  ·exact h
 ·simp [aY.hO] at h; rw [tW,h.1]; simp
 ·refine ⟨fun i v hi=>?_,fun h=>by simp at h,fun _=>hs.size,fun _ j hj=>?_,by simpa using cT,fun _ h=>by simp at h,rfl,by simp,fun _ _ j=>by simp only; rw [World.frozen?_alloc_new]⟩
  ·obtain ⟨v',h2,h3⟩:=hc.get hi
   refine ⟨v',?_,h3.mono (hs.um _),h1 v (eS hi)⟩;rw [bG,World.cell?_alloc_new];exact Ll i v' h2
  ·simp only at hj ⊢
   rw [World.cell?_alloc_new,World.frozen?_alloc_new];refine ⟨?_,rfl⟩;rw [Array.getElem?_eq_getElem (by omega)];rfl
theorem Oo {ρ:Ren} {A:St} {base:Nat} {w:World} {b fK s aQ aF f:Nat} {cs eB jH new bK:List Value} {l:Loc}
  (hs:iu ρ A base w) (hg:A.get b=some (.row cs aQ true (some (aF,f)))) (iY:ρ b=some l)
  (hold:cz ρ eB jH) (ho1:∀ v∈eB,scalar v=true) (Ms:eB.length=s) (hoc:∀ j v',jH[j]? = some v'->w.cell? ⟨l.cb,l.cf+fK+j,none⟩=some v')
  (mh:cz ρ new bK) (Qz:∀ v∈new,scalar v=true) (jG:l.cf+fK+s+new.length<=l.rW) :
  cp base ρ A w (ρ.set A.next ⟨l.cb,l.cf+fK,l.rW,aQ⟩) ((A.kill A.next (f+(fK+s)) (f+(fK+s)+new.length) (A.members aF)).grow aF (f+fK) (eB++new) aQ) (w.setCells l.cb (l.cf+fK+s) bK):=by
 obtain ⟨l',iJ,ok⟩:=hs.rel.row _ _ _ _ _ hg;rw [iY] at iJ; simp at iJ; subst iJ;have CF:bK.length=new.length:=mh.length;have hovl:jH.length=s:=by rw [hold.length,Ms]
 have DG:b < A.next:=hs.fT b l iY;have J1:aY.cr (.row cs aQ true (some (aF,f)))=true:=rfl;have hB:∀ x,((A.kill A.next (f+(fK+s)) (f+(fK+s)+new.length) (A.members aF)).grow aF (f+fK) (eB++new) aQ).get x =
   if x=A.next then some (.row (eB++new) aQ true (some (aF,f+fK))) else (A.kill A.next (f+(fK+s)) (f+(fK+s)+new.length) (A.members aF)).get x:=by
  intro x; rw [EB,FT]
 have hBm:∀ g,((A.kill A.next (f+(fK+s)) (f+(fK+s)+new.length) (A.members aF)).grow aF (f+fK) (eB++new) aQ).members g=if g=aF then A.next::A.members aF else A.members g:=by
  intro g; rw [tW,FT,DC]
 have hBn:((A.kill A.next (f+(fK+s)) (f+(fK+s)+new.length) (A.members aF)).grow aF (f+fK) (eB++new) aQ).next=A.next+1:=by
  simp [St.grow]
 have hkl:=Ex A.next (f+(fK+s)) (f+(fK+s)+new.length) (A.members aF) A;have hBl:((A.kill A.next (f+(fK+s)) (f+(fK+s)+new.length) (A.members aF)).grow aF (f+fK) (eB++new) aQ).low=(A.kill A.next (f+(fK+s)) (f+(fK+s)+new.length) (A.members aF)).low:=rfl;have hAK:∀ x,x≠A.next->(A.kill A.next (f+(fK+s)) (f+(fK+s)+new.length) (A.members aF)).get x=if x∈A.members aF/\nm (A.get x) (f+(fK+s)) (f+(fK+s)+new.length)=true then some .dead else A.get x:=by
  intro x hx; rw [xQ]; simp [hx]
 generalize ((A.kill A.next (f+(fK+s)) (f+(fK+s)+new.length) (A.members aF)).grow aF (f+fK) (eB++new) aQ)=B at hB hBm hBn hBl;generalize (A.kill A.next (f+(fK+s)) (f+(fK+s)+new.length) (A.members aF))=K at hB hBl hkl hAK;have hle:=hs.um (⟨l.cb,l.cf+fK,l.rW,aQ⟩:Loc);have mg:∀ x o,x≠A.next->B.get x=some o->o≠.dead->A.get x=some o/\(x∈A.members aF->nm (some o) (f+(fK+s)) (f+(fK+s)+new.length)=false):=by
  intro x o hx ho hd;rw [hB,ae hx,hAK x hx] at ho;split at ho
  ·simp at ho; exact absurd ho.symm hd
  ·rename_i hc
   refine ⟨ho,fun hm=>?_⟩;rw [<- ho];cases eU:nm (A.get x) (f+(fK+s)) (f+(fK+s)+new.length) with
   | false=>rfl
   | true=>exact absurd ⟨hm,eU⟩ hc
 have la:∀ x:Addr,(x.block=l.cb->x.spot=none->x.off < l.cf+fK+s\/l.cf+fK+s+bK.length<=x.off)->(w.setCells l.cb (l.cf+fK+s) bK).cell? x=w.cell? x:=
  fun x h=>World.cell?_setCells_out _ _ _ _ _ h
 have Ue:∀ x,((w.setCells l.cb (l.cf+fK+s) bK).cell? x).isSome=(w.cell? x).isSome:=fun x=>sK _ _ _ _ _;have xR:∀ x,(w.setCells l.cb (l.cf+fK+s) bK).frozen? x=w.frozen? x:=fun x=>World.frozen?_setCells _ _ _ _ _;have cT:(w.setCells l.cb (l.cf+fK+s) bK).heap.size=w.heap.size:=Bt _ _ _ _;have hmd:∀ o:aY,o.cr=true->o≠.dead:=by intro o h e; subst e; simp [aY.cr] at h
 have rX:∀ x o l2,A.get x=some o->o.cr=true->ρ x=some l2->l2.cb=l.cb->∃ f2,o.hO=some (aF,f2)/\l2.cf+f=l.cf+f2:=by
  intro x o l2 hx hm hr vM;by_cases Oh:x=b
  ·subst Oh
   rw [hg] at hx; simp at hx; subst hx;rw [iY] at hr; simp at hr; subst hr;exact ⟨f,rfl,rfl⟩
  ·obtain ⟨g,f1,f2,e1,e2,e3⟩:=hs.rel.apart x b _ _ l2 l Oh hx hg hm J1 hr iY vM
   simp [aY.hO] at e2;obtain ⟨rfl,rfl⟩:=e2;exact ⟨f1,e1,e3⟩
 have CT:∀ x iv e2 CU oq l2,x≠A.next->B.get x=some (.row iv e2 CU oq)->ρ x=some l2->lM ρ base w l2 iv e2 CU oq->∀ i,i < iv.length->
   (w.setCells l.cb (l.cf+fK+s) bK).cell? ⟨l2.cb,l2.cf+i,none⟩=w.cell? ⟨l2.cb,l2.cf+i,none⟩:=by
  intro x iv e2 CU oq l2 hx eR aio fJ i hi;refine la _ (fun Y4 _=>?_);simp only at Y4 ⊢;obtain ⟨hA,eU⟩:=mg x _ hx eR (by simp);cases CU with
  | false=>have h3:=fJ.nt rfl; have h4:=ok.cr rfl; omega
  | true=>
   obtain ⟨f2,e1,e3⟩:=rX x _ l2 hA rfl aio Y4;simp only [aY.hO] at e1;subst e1;have hm:=hs.rel.aX x _ aF f2 hA rfl;have:=Oe rfl (eU hm);rw [CF];omega
 refine ⟨⟨.qd ?_ ?_ ?_,?_,?_,hs.lL.mono (hs.um _)⟩,?_,⟨(qc _ _ _ _).1,(qc _ _ _ _).2.1,(qc _ _ _ _).2.2,Nat.le_of_eq cT.symm,?_⟩,?_,?_,?_,?_⟩
 ·intro x o eR hd
  by_cases hx:x=A.next
  ·subst hx
   rw [hB,ax rfl] at eR;simp at eR;subst eR;refine ⟨_,Ren.dk _ _ _,fun i v hi=>?_,fun h=>by simp at h,fun _=>ok.cr rfl,fun _ j hj=>?_,?_,fun _ h=>by simp at h,rfl,by rw [cT]; exact ok.gC,fun _ h2 j=>by rw [xR]; exact ok.mark rfl (by rw [ok.aQ]; exact h2) j⟩
   ·have gU:cz ρ (eB++new) (jH++bK):=hold.append mh
    obtain ⟨v',h2,h3⟩:=gU.get hi;refine ⟨v',?_,h3.mono hle,?_⟩
    ·rw [List.getElem?_append] at h2
     split at h2
     ·rename_i aJ
      rw [la _ (fun _ _=>by simp only; omega)];exact hoc i v' h2
     ·rename_i Mt
      have aJ:i - jH.length < bK.length:=(cw.1 h2).1;have:=World.cell?_setCells_in l.cb bK (l.cf+fK+s) w (fun j hj=>(ok.there rfl (l.cf+fK+s+j) (by rw [CF] at hj; omega)).1) (i - jH.length) aJ;have e:l.cf+fK+s+(i - jH.length)=l.cf+fK+i:=by omega
      rw [e] at this;rw [cl aJ] at h2;exact this.trans h2
    ·rcases eX.1 (eS hi) with h | h
     ·exact ho1 v h
     ·exact Qz v h
   ·rw [Ue,xR]; exact ok.there rfl j hj
   ·simp only [gd,Ms]; omega
  ·obtain ⟨hA,eU⟩:=mg x o hx eR hd
   obtain ⟨l2,pQ,fJ⟩:=hs.rel.obj hA hd;refine ⟨l2,hle _ _ pQ,?_⟩;cases o with
   | row iv e2 CU oq=>
    have fJ:lM ρ base w l2 iv e2 CU oq:=fJ;refine ⟨fun i v hi=>?_,fJ.nt,fJ.cr,fun h j hj=>?_,fJ.fits,fJ.ends,fJ.aQ,by rw [cT]; exact fJ.gC,fun h1 h2 j=>by rw [xR]; exact fJ.mark h1 h2 j⟩
    ·obtain ⟨v',h3,h4,h5⟩:=fJ.cells i v hi
     exact ⟨v',by rw [CT x _ _ _ _ l2 hx eR pQ fJ i (cw.1 hi).1]; exact h3,h4.mono hle,h5⟩
    ·rw [Ue,xR]; exact fJ.there h j hj
   | map es=>
    have fJ:Mn ρ base w l2 es:=fJ;obtain ⟨aP,clock,h3,h4⟩:=fJ.gC;refine ⟨fJ.cr,aP,clock,?_,h4.mono hle⟩;rw [jY]
    ·exact h3
    ·intro e
     obtain ⟨_,e1,_⟩:=rX x _ l2 hA rfl pQ e;simp [aY.hO] at e1
   | iter st pos=>
    have fJ:Ob base w l2 st pos:=fJ;refine ⟨fJ.cr,fJ.gC.1,?_⟩;rw [jY]
    ·exact fJ.gC.2
    ·intro e
     obtain ⟨_,e1,_⟩:=rX x _ l2 hA rfl pQ e;simp [aY.hO] at e1
   | dead=>exact absurd rfl hd
   | loop st0 e0 t0 ps0 a0 c0=>
    have fJ:CS ρ base w l2 st0 e0 t0 ps0 a0 c0:=fJ;obtain ⟨fn,tmps,D,N,h3,h4⟩:=fJ.gC;refine ⟨fJ.cr,fn,tmps,D,N,?_,h4.mono hle⟩;rw [jY]
    ·exact h3
    ·intro e
     obtain ⟨_,e1,_⟩:=rX x _ l2 hA rfl pQ e;simp [aY.hO] at e1
 ·intro b1 b2 o1 o2 l1 l2 bx g1 g2 m1 m2 r1 r2 vM
  by_cases e1:b1=A.next
  ·have e2:b2≠A.next:=fun e=>bx (e1.trans e.symm)
   subst e1;rw [hB,ax rfl] at g1;simp at g1; subst g1;rw [Ren.dk] at r1; simp at r1; subst r1;rw [Ren.cX _ _ e2] at r2;obtain ⟨hA,_⟩:=mg b2 o2 e2 g2 (hmd _ m2);obtain ⟨f2,k1,k2⟩:=rX b2 o2 l2 hA m2 r2 vM.symm;exact ⟨aF,f+fK,f2,rfl,k1,by simp only; omega⟩
  ·rw [Ren.cX _ _ e1] at r1
   obtain ⟨hA1,_⟩:=mg b1 o1 e1 g1 (hmd _ m1);by_cases e2:b2=A.next
   ·subst e2
    rw [hB,ax rfl] at g2;simp at g2; subst g2;rw [Ren.dk] at r2; simp at r2; subst r2;obtain ⟨f2,k1,k2⟩:=rX b1 o1 l1 hA1 m1 r1 vM;exact ⟨aF,f2,f+fK,k1,rfl,by simp only; omega⟩
   ·rw [Ren.cX _ _ e2] at r2
    obtain ⟨hA2,_⟩:=mg b2 o2 e2 g2 (hmd _ m2);exact hs.rel.apart b1 b2 o1 o2 l1 l2 bx hA1 hA2 m1 m2 r1 r2 vM
 ·intro x o g fx hx hk
  rw [hBm];by_cases e:x=A.next
  ·subst e
   rw [hB,ax rfl] at hx;simp at hx; subst hx;simp [aY.hO] at hk;rw [ax hk.1.symm];simp
  ·have:=hs.rel.aX x o g fx (mg x o e hx (by intro e; subst e; simp [aY.hO] at hk)).1 hk
   split
   ·rename_i e2; subst e2; simp [this]
   ·exact this
 ·intro x l2 h
  rw [hBn];by_cases e:x=A.next
  ·omega
  ·rw [Ren.cX _ _ e] at h; have:=hs.fT x l2 h; omega
 ·rw [cT]; exact hs.size
 ·intro x hx; exact Ren.cX _ _ (by omega)
 ·intro k hk hn
  exact jY _ (fun e=>hn ⟨b,_,l,hg,rfl,iY,e.symm⟩) _ _ _
 ·omega
 ·rw [hBl]; exact hkl.1
 ·intro x hx hxl
  rw [hB,ae (by omega)];cases Classical.em (K.get x=A.get x) with
  | inl h=>exact h
  | inr h=>have:=hkl.2 x h; omega
 ·rintro k hk ⟨x,o,l2,hx,hm,hr,rfl⟩
  by_cases e:x=A.next
  ·subst e
   rw [Ren.dk] at hr; simp at hr; subst hr;exact ⟨b,_,l,hg,rfl,iY,rfl⟩
  ·rw [Ren.cX _ _ e] at hr
   exact ⟨x,o,l2,(mg x o e hx (hmd _ hm)).1,hm,hr,rfl⟩
theorem QB {a:Addr} (h:bI a=true):a.spot=none:=by
 unfold bI at h;simpa using h
theorem Ta (w:World) (a:Addr) (n:Nat) (cs:List Value) (h:∀ j,j < n->(w.cell? (a.add j)).isSome=true) (hr:(loadCells a n).run P w = .ok cs.toArray w) (j:Nat) (v:Value) (hj:cs[j]? = some v) :
  w.cell? (a.add j)=some v:=by
 have h1:=run_loadCells (P:=P) w a n (fun j=>(w.cell? (a.add j)).getD undef) (fun j hj=>by
  have:=h j hj;cases hc:w.cell? (a.add j) with
  | none=>rw [hc] at this; simp at this
  | some u=>rfl)
 rw [hr] at h1;simp only [Result.ok.injEq,and_true] at h1;have h2:cs=(List.range n).map fun j=>(w.cell? (a.add j)).getD undef:=by
  have:=congrArg Array.toList h1;simpa using this
 rw [h2,mf] at hj;cases hq:(List.range n)[j]? with
 | none=>rw [hq] at hj; simp at hj
 | some m=>
  rw [hq] at hj;have aJ:j < n:=by have:=(cw.1 hq).1; simpa using this
  have hm:m=j:=by rw [List.getElem?_range aJ] at hq; simpa using hq.symm
  subst hm;simp at hj;have:=h m aJ;cases hc:w.cell? (a.add m) with
  | none=>rw [hc] at this; simp at this
  | some u=>rw [hc] at hj; simpa using hj
theorem Ic (z:Array Value) (n:Nat):(Builtin.zeroCells z n).size=n * z.size:=size_zeroCells z n
theorem Ie {ρ:Ren} {A B:St} {base:Nat} {w:World} {t u ty e:TypeId} {i:TypeInfo} {z s x s' x' v:Value} (ht:P.underlying t=some (.slice e)) (hi:P.info? e=some i) (hz:i.zero=some z) (hu:Br P u=true)
  (hn:1<=i.size) (Za:z.cells.size=i.size) (tw:iu ρ A base w) (Mu:VR ρ s s') (QC:VR ρ x x') (hf:iC i.size i.bytes A [s,x] = some (v,B)) :
  ∃ ak v' w',(Builtin.append_ #[t,u] ty #[s',x']).run P w = .ok v' w'/\VR ak v v'/\cp base ρ A w ak B w':=by
 unfold iC at hf;split at hf
 ·rename_i bs cq jS x0 e0
  simp at e0;obtain ⟨rfl,rfl⟩:=e0;obtain ⟨k,hk,hf⟩:=aO.1 hf;have hlen:=R5 QC hk;have Zb:∀ m,RS x=some m->k<=m:=fun m h=>by rw [hk] at h; simp at h; omega
  cases lh:Nat.ble (cq+k) jS with
  | true=>
   rw [lh,ah] at hf;have lh:=cM lh;obtain ⟨new,mh,hf⟩:=aO.1 hf;obtain ⟨bK,h1,h2,h3,h4⟩:=yI (P:=P) tw.rel QC mh Zb hn;cases bs with
   | none=>
    simp at hf;obtain ⟨rfl,rfl⟩:=hf;have:=Mu.e8;subst this;have hr:=sN (P:=P) t u ty e i ht hi hu none cq jS x' k bK hlen w h4 lh;exact ⟨ρ,_,w,by rw [hr]; rfl,by simp [VR],.refl tw⟩
   | some a=>
    simp only at hf;cases Tb:bI a with
    | false=>rw [Tb] at hf; simp at hf
    | true=>
     rw [Tb,ah] at hf;cases oP:Nat.beq k 0 with
     | true=>
      rw [oP,ah] at hf;simp at hf;obtain ⟨rfl,rfl⟩:=hf;have oP:=aD oP;obtain ⟨tV,AE,lc,a',c',hl,ri,Bv,jG,rfl⟩:=Mu.iD;have hr:=sN (P:=P) t u ty e i ht hi hu (some a') cq c' x' k bK hlen w h4 (by omega);have ED:bK = []:=List.eq_nil_of_length_eq_zero (by rw [h1.length,h3,oP,Nat.zero_mul]);refine ⟨ρ,.slice (some a') (cq+k) c',w,?_,?_,.refl tw⟩
      ·rw [hr,ED]
       rfl
      ·simp only [VR]
       exact ⟨tV,by omega,lc,a',c',hl,ri,Bv,jG,rfl⟩
     | false=>
     rw [oP,ay] at hf;obtain ⟨B',eU,hf⟩:=aU.1 hf;simp at hf;obtain ⟨rfl,rfl⟩:=hf;obtain ⟨tV,AE,lc,a',c',hl,ri,Bv,jG,rfl⟩:=Mu.iD;have hr:=sN (P:=P) t u ty e i ht hi hu (some a') cq c' x' k bK hlen w h4 (by omega);obtain ⟨w',h5,h6⟩:=yH (P:=P) (a:=⟨a.block,a.off+cq * i.size,none⟩) tw eU hl h1;have ky:(storeCells (a'.add (cq * i.size)) bK).run P w = .ok () w':=by
      by_cases hc:c' = 0
      ·have:bK = []:=by
        apply List.eq_nil_of_length_eq_zero;rw [h1.length,h3];have:k=0:=by omega
        subst this; omega
       subst this;exact h5
      ·rw [Bv hc,jq]
       simp only at h5;rw [nG];exact h5
     refine ⟨ρ,.slice (some a') (cq+k) c',w',?_,?_,h6⟩
     ·rw [hr]
      simp only [ky,fA]
     ·simp only [VR]
      exact ⟨tV,lh,lc,a',c',hl,ri,Bv,jG,rfl⟩
  | false=>
   rw [lh,ay] at hf;have lh:jS < cq+k:=by
    have : ¬ (cq+k<=jS):=fun h=>by rw [Nat.ble_eq_true_of_le h] at lh; simp at lh
    omega
   cases hc:(Nat.ble ((cq+k) * i.bytes) 140737488355328&&Nat.ble (cq+k) 17592186044416&&nf A i.size jS bs) with
   | false=>rw [hc] at hf; simp at hf
   | true=>
    rw [hc,ah] at hf;simp only [aj] at hc;obtain ⟨⟨uN,qf⟩,hex⟩:=hc;have uN:=cM uN;have qf:=cM qf;have FY:(cq+k) * i.bytes<=140737488355328:=uN;obtain ⟨new,mh,hf⟩:=aO.1 hf;obtain ⟨bK,h1,h2,h3,h4⟩:=yI (P:=P) tw.rel QC mh Zb hn;have Td:=cp.drew (w:=w) tw;obtain ⟨aiu,g1,g2,g3,g4⟩:=yI (P:=P) Td.dI.rel QC mh Zb hn;have XU:∀ (bs' : Option Addr) (c' : Nat) (R6 QD:List Value) (aF f:Nat) (K:St),K=A\/(∃ x lo hi L,K=A.kill x lo hi L)->cz ρ R6 QD->(∀ v∈R6,scalar v=true)->R6.length=cq * i.size->
      (Builtin.firstCells i.size cq (.slice bs' cq c')).run P w.drew = .ok QD.toArray w.drew->c' < cq+k->
      ∃ ak v' w',(Builtin.append_ #[t,u] ty #[.slice bs' cq c',x']).run P w = .ok v' w'/\VR ak (.slice (some ⟨A.next,0,none⟩) (cq+k) (cq+k)) v'/\cp base ρ A w ak (K.grow aF f (R6++new) i.size) w':=by
     intro bs' c' R6 QD aF f K hK ho ho1 Ms ky aJ;have hr:=QA (P:=P) t u ty e i z ht hi hz hu bs' cq c' x' k QD aiu hlen w ky g4 aJ qf (growslice_fits aJ FY);have Mt:=grownCap_ge w (cq+k) c' e;have hkg:cp base ρ A w ρ K w.drew:=by
      rcases hK with rfl | ⟨x,lo,hi,L,rfl⟩
      ·exact Td
      ·exact (Mr tw x lo hi L).trans (cp.drew (Mr tw x lo hi L).dI)
     have hKn:K.next=A.next:=by
      rcases hK with rfl | ⟨x,lo,hi,L,rfl⟩
      ·rfl
      ·simp
     have zG:((QD++aiu).toArray++Builtin.zeroCells z.cells (grownCap w (cq+k) c' e - (cq+k))).size=grownCap w (cq+k) c' e * i.size:=by
      rw [Array.size_append,Ic,Za,List.size_toArray,gd,ho.length,g1.length,Ms,g3];rw [<- Nat.add_mul,<- Nat.add_mul];congr 1; omega
     have y7:=Ib (w:=w.drew) (n:=i.size) (aF:=aF) (f:=f) (c:=(QD++aiu).toArray++Builtin.zeroCells z.cells (grownCap w (cq+k) c' e - (cq+k))) e hkg.dI (ho.append g1)
      (fun v hv=>(eX.1 hv).elim (ho1 v) (g2 v)) (fun j v hj=>by
       rw [Array.getElem?_append_left (by have:=(cw.1 hj).1; simpa using this)];simpa using hj) (by
       rw [zG,gd,Ms,g3,<- Nat.add_mul];exact Nat.mul_le_mul_right _ Mt)
     refine ⟨_,_,_,hr,?_,hkg.trans y7⟩;simp only [VR];refine ⟨trivial,ao _,_,⟨w.heap.size,0,none⟩,grownCap w (cq+k) c' e,by rw [hKn]; exact Ren.dk _ _ _,Mt,fun _=>rfl,?_,rfl⟩;rw [zG];show 0+0+grownCap w (cq+k) c' e * i.size<=grownCap w (cq+k) c' e * i.size;omega
    unfold Bq at hf;cases bs with
    | none=>
     simp only at hf;cases xu:Nat.beq cq 0 with
     | false=>rw [xu] at hf; simp at hf
     | true=>
      rw [xu,ah] at hf;simp at hf;obtain ⟨rfl,rfl⟩:=hf;have xu:=aD xu;have:=Mu.e8;subst this;have hn' : Builtin.firstCells i.size cq (.slice none cq jS)=pure #[]:=rfl;exact XU none jS [] [] A.next 0 A (.inl rfl) .nil (by simp) (by rw [xu]; simp) (by rw [hn']; rfl) lh
    | some a=>
     simp only at hf;cases Tb:bI a with
     | false=>rw [Tb] at hf; simp at hf
     | true=>
      rw [Tb,ah] at hf;have tV:=QB Tb;obtain ⟨_,AE,lc,a',c',hl,ri,Bv,jG,rfl⟩:=Mu.iD;obtain ⟨eB,hold,hf⟩:=aO.1 hf;obtain ⟨jH,q1,q2,q3,q4⟩:=sL (P:=P) Td.dI.rel hold hl;have ky:(Builtin.firstCells i.size cq (.slice (some a') cq c')).run P w.drew = .ok jH.toArray w.drew:=by
       simp only [Builtin.firstCells];by_cases hc:c' = 0
       ·have xu:cq=0:=by omega
        subst xu;have ED:eB = []:=by rw [Nat.zero_mul] at q2; exact List.eq_nil_of_length_eq_zero q2
        subst ED;rw [q1.bA,Nat.zero_mul];exact run_loadCells_list w.drew a' [] (by simp)
       ·rw [Bv hc]; exact q4
      split at hf
      ·rename_i cs aQ own aZ hg
       cases Qy:Nat.beq aQ i.size with
       | false=>rw [Qy] at hf; simp at hf
       | true=>
        rw [Qy,ah] at hf;have Qy:=aD Qy;subst Qy;obtain ⟨l2,iK,ok⟩:=tw.rel.row _ _ _ _ _ hg;rw [hl] at iK; simp at iK; subst iK;have hle:lc.aQ=i.size:=ok.aQ;cases aZ with
        | none=>
         simp only at hf;cases own with
         | false=>simp at hf
         | true=>
          simp at hf;obtain ⟨rfl,rfl⟩:=hf;have Um:a.off+jS * i.size=cs.length:=by
           unfold nf at hex;simp only [hg] at hex;exact aD hex
          have amj:=ok.ends rfl rfl;have Ul:c' < cq+k:=by
           have h9:c' * i.size<=jS * i.size:=by rw [hle] at jG; omega
           have:=Nat.le_of_mul_le_mul_right h9 (by omega);omega
          exact XU (some a') c' eB jH A.next 0 A (.inl rfl) q1 q3 q2 ky Ul
        | some p=>
         obtain ⟨aF,f⟩:=p;simp only at hf;cases own with
         | false=>simp at hf
         | true=>
          simp at hf;obtain ⟨rfl,rfl⟩:=hf;by_cases Ul:c' < cq+k
          ·exact XU (some a') c' eB jH aF (f+a.off) _ (.inr ⟨_,_,_,_,rfl⟩) q1 q3 q2 ky Ul
          ·
           have bx:c'≠0:=by omega
           have ha:=Bv bx;subst ha;have hr:=sN (P:=P) t u ty e i ht hi hu (some ⟨lc.cb,lc.cf+a.off,none⟩) cq c' x' k bK hlen w h4 (by omega);have mr:lc.cf+a.off+cq * i.size+new.length<=lc.rW:=by
            rw [h3];rw [hle] at jG;have h9:(cq+k) * i.size<=c' * i.size:=Nat.mul_le_mul_right _ (by omega);rw [Nat.add_mul] at h9;omega
           have CF:bK.length=new.length:=h1.length;obtain ⟨aa9,p1,p2,p3,p4⟩:=sL (P:=P) tw.rel hold hl;have hoc:∀ (j:Nat) (v' : Value),aa9[j]? = some v'->w.cell? ⟨lc.cb,lc.cf+a.off+j,none⟩=some v':=by
            intro j v' hj;have aJ:j < cq * i.size:=by have:=(cw.1 hj).1; rw [p1.length,p2] at this; exact this
            have la:=(ok.there rfl (lc.cf+a.off+j) (by omega)).1;have:=Ta (P:=P) w ⟨lc.cb,lc.cf+a.off,none⟩ (cq * i.size) aa9 (fun j hj=>by rw [jq]; exact (ok.there rfl (lc.cf+a.off+j) (by omega)).1) p4 j v' hj;rwa [jq] at this
           have y7:=Oo (w:=w) (fK:=a.off) (s:=cq * i.size) tw hg hl p1 p3 p2 hoc h1 h2 mr;have eU:(storeCells ((⟨lc.cb,lc.cf+a.off,none⟩:Addr).add (cq * i.size)) bK).run P w = .ok () (w.setCells lc.cb (lc.cf+a.off+cq * i.size) bK):=by
            rw [jq];exact run_storeCells_cells (P:=P) lc.cb (lc.cf+a.off+cq * i.size) bK 0 w (fun j hj=>(ok.there rfl _ (by rw [CF] at hj; omega)).1) (fun j hj=>(ok.there rfl _ (by rw [CF] at hj; omega)).2) (fun v vN=>by
             obtain ⟨j,hj⟩:=List.getElem?_of_mem vN;have aJ:j < new.length:=by rw [<- CF]; exact (cw.1 hj).1
             obtain ⟨u,hu⟩:∃ u,new[j]? = some u:=⟨new[j],cl aJ⟩
             obtain ⟨v2,h7,h8⟩:=h1.get hu;rw [hj] at h7; simp at h7; subst h7;exact h8.scalar (h2 u (eS hu)))
           refine ⟨_,.slice (some ⟨lc.cb,lc.cf+a.off,none⟩) (cq+k) c',_,by rw [hr]; simp only [eU,fA],?_,y7⟩;simp only [VR];refine ⟨trivial,ao _,_,_,c',Ren.dk _ _ _,by omega,fun _=>rfl,?_,rfl⟩;show lc.cf+a.off+0+c' * i.size<=lc.rW;rw [hle] at jG;omega
      ·simp at hf
 ·simp at hf
theorem agZ {argTypes:Array TypeId} {t u:TypeId} (h:argTypes.toList = [t,u]):argTypes = #[t,u]:=by
 apply Array.ext';simpa using h
theorem adI {argTypes:Array TypeId} {args:Array Operand} (ho:o.op = .call ⟨.builtin .append,args,argTypes⟩):fk P o (FG P argTypes.toList args.toList):=by
 unfold FG;split
 ·rename_i t u pP
  split
  ·rename_i e ht
   split
   ·rename_i i hi
    split
    ·rename_i z hz
     cases hc:(Nat.ble 1 i.size&&Nat.beq z.cells.size i.size&&Br P u) with
     | false=>exact True.intro
     | true=>
      rw [ah];simp only [aj] at hc;obtain ⟨⟨h1,h2⟩,h3⟩:=hc;intro ρ A B base w ev cj v hs he hf;have hf0:=hf;unfold iC at hf0;split at hf0
      ·rename_i bs cq jS x e1
       have hm:=he.map;rw [e1] at hm hf;obtain ⟨s',r1,e2,Mu,hm⟩:=hm.cons_inv;obtain ⟨x',r2,e3,QC,hm⟩:=hm.cons_inv;have:=hm.bA;subst this e3;obtain ⟨ak,v',w',h4,h5,h6⟩:=Ie (ty:=o.type) ht hi hz h3 (cM h1) (aD h2) hs Mu QC hf;refine ⟨ak,v',.value v',w',?_,rfl,h5,h6⟩;have e4:args.map cj = #[s',x']:=by apply Array.ext'; simpa using e2
       have e5:=agZ pP;subst e5;simp only [execOp,ho,Sem.run_bind,resolve,Sem.run_pure,fA,invoke,builtin,e4,h4]
      ·simp at hf0
    ·trivial
   ·trivial
  ·trivial
 ·trivial
theorem aiv {argTypes:Array TypeId} {args:Array Operand} (ho:o.op = .call ⟨.builtin .copy,args,argTypes⟩):fk P o (NZ P argTypes.toList args.toList):=by
 unfold NZ;split
 ·rename_i t rest pP
  have Ha:argTypes[0]? = some t:=by rw [<- Array.getElem?_toList,pP]; rfl
  split
  ·rename_i e ht
   split
   ·rename_i n hn
    cases Aj:Nat.ble 1 n with
    | false=>exact True.intro
    | true=>
     rw [ah];have Aj:1<=n:=cM Aj;intro ρ A B base w ev cj v hs he hf;unfold T0 at hf;split at hf
     ·rename_i bs Ei alu x e1
      have hm:=he.map;rw [e1] at hm;obtain ⟨s',r1,e2,Mu,hm⟩:=hm.cons_inv;obtain ⟨x',r2,e3,QC,hm⟩:=hm.cons_inv;have:=hm.bA;subst this e3;have e4:args.map cj = #[s',x']:=by apply Array.ext'; simpa using e2
      obtain ⟨k,hk,hf⟩:=aO.1 hf;have hlen:=R5 QC hk;obtain ⟨new,mh,hf⟩:=aO.1 hf;obtain ⟨bK,h1,h2,h3,h4⟩:=yI (P:=P) hs.rel QC mh (fun m h=>by rw [hk] at h; simp at h; subst h; exact Nat.min_le_left _ _) Aj;cases bs with
      | none=>
       simp at hf;obtain ⟨rfl,rfl⟩:=hf;have:=Mu.e8;subst this;refine ⟨ρ,goInt (Nat.min k Ei),.value (goInt (Nat.min k Ei)),w,?_,rfl,VR.of_flat rfl,.refl hs⟩;simp [execOp,ho,resolve,invoke,builtin,e4,Builtin.copy_,Ha,aV ht,hlen,mi hn,h4]
      | some a=>
       simp only at hf;obtain ⟨B',eU,hf⟩:=aU.1 hf;simp at hf;obtain ⟨rfl,rfl⟩:=hf;obtain ⟨tV,AE,lc,a',c',hl,ri,Bv,jG,rfl⟩:=Mu.iD;obtain ⟨w',h5,h6⟩:=yH (P:=P) hs eU hl h1;have ky:(storeCells a' bK).run P w = .ok () w':=by
        by_cases hc:c' = 0
        ·have:bK = []:=by
          apply List.eq_nil_of_length_eq_zero;rw [h1.length,h3];have:Ei=0:=by omega
          subst this; simp
         subst this;exact h5
        ·rw [Bv hc]; exact h5
       refine ⟨ρ,goInt (Nat.min k Ei),.value (goInt (Nat.min k Ei)),w',?_,rfl,VR.of_flat rfl,h6⟩;simp [execOp,ho,resolve,invoke,builtin,e4,Builtin.copy_,Ha,aV ht,hlen,mi hn,h4,ky]
     ·simp at hf
   ·trivial
  ·trivial
 ·trivial
end
end Go.az
end
section
namespace Go.az
open Go
section
variable {P:Program} {o:Oper}
theorem wa {ρ:Ren} {A:St} {base:Nat} {w:World} {r:Nat} {es mu:List (Value×Value)} {y8:Array MapEntry} {yJ:Nat} {l:Loc} (hs:iu ρ A base w) (hg:A.get r=some (.map es)) (iY:ρ r=some l)
  (hm:eZ ρ mu y8.toList):cp base ρ A w ρ (A.put r (.map mu)) { w with heap:=w.heap.setIfInBounds l.cb (.map y8 yJ) }:=by
 obtain ⟨l',iJ,ok⟩:=hs.rel.map _ _ hg;rw [iY] at iJ; simp at iJ; subst iJ;obtain ⟨aP,clock,lO,_⟩:=ok.gC;have aJ:l.cb < w.heap.size:=(jg.1 lO).1;have wb:aY.cr (.map es)=true:=rfl;have hold:∀ k,k≠l.cb->(w.heap.setIfInBounds l.cb (.map y8 yJ))[k]? = w.heap[k]?:=fun k hk=>by
  rw [Array.getElem?_setIfInBounds_ne (Ne.symm hk)]
 have cT:(w.heap.setIfInBounds l.cb (.map y8 yJ)).size=w.heap.size:=by simp
 have hB:∀ x,(A.put r (.map mu)).get x=if x=r then some (.map mu) else A.get x:=fun x=>St.bZ _ _ _ _;have hmd:∀ o:aY,o.cr=true->o≠.dead:=by intro o h e; subst e; simp [aY.cr] at h
 have CT:∀ x o l2,x≠r->A.get x=some o->o≠.dead->ρ x=some l2->pb ρ base w l2 o->l2.cb≠l.cb:=by
  intro x o l2 hx eR hd pQ fJ e;cases Ig:o.cr with
  | true=>
   obtain ⟨_,_,_,_,e1,_⟩:=hs.rel.apart x r o _ l2 l hx eR hg Ig wb pQ iY e;simp [aY.hO] at e1
  | false=>
   cases o with
   | row cs aQ own aZ=>
    have fJ:lM ρ base w l2 cs aQ own aZ:=fJ;have h1:own=false:=Ig;have:=fJ.nt h1;have:=ok.cr;omega
   | map _=>simp [aY.cr] at Ig
   | iter _ _=>simp [aY.cr] at Ig
   | dead=>exact hd rfl
   | loop _ _ _ _ _ _=>simp [aY.cr] at Ig
 refine ⟨⟨.qd ?_ ?_ ?_,fun b l2 h=>hs.fT b l2 h,by simpa using hs.size,hs.lL⟩,fun _ _=>rfl,⟨rfl,rfl,rfl,Nat.le_of_eq cT.symm,fun k hk hn=>hold k (fun e=>hn ⟨r,_,l,hg,wb,iY,e.symm⟩)⟩,ao _,Nat.min_le_left _ _,fun x hx hxl=>?_,?_⟩
 ·intro x o eR hd
  rw [hB] at eR;split at eR
  ·rename_i e; subst e; simp at eR; subst eR
   refine ⟨l,iY,ok.cr,y8,yJ,?_,hm⟩;show (w.heap.setIfInBounds l.cb (.map y8 yJ))[l.cb]? = _;rw [Array.getElem?_setIfInBounds_self_of_lt aJ]
  ·rename_i e
   obtain ⟨l2,pQ,fJ⟩:=hs.rel.obj eR hd;exact ⟨l2,pQ,fJ.dj (Ren.le_refl _) (hold _ (CT x o l2 e eR hd pQ fJ)) (Nat.le_of_eq cT.symm)⟩
 ·have DD:∀ x o,(A.put r (.map mu)).get x=some o->o.cr=true->∃ o',A.get x=some o'/\o'.cr=true/\o'.hO=o.hO:=by
   intro x o hx hm;rw [hB] at hx;split at hx
   ·rename_i e; subst e; simp at hx; subst hx; exact ⟨_,hg,rfl,rfl⟩
   ·exact ⟨o,hx,hm,rfl⟩
  intro b1 b2 o1 o2 l1 l2 bx g1 g2 m1 m2 r1 r2 vM;obtain ⟨p1,q1,n1,k1⟩:=DD _ _ g1 m1;obtain ⟨p2,q2,n2,k2⟩:=DD _ _ g2 m2;rw [<- k1,<- k2];exact hs.rel.apart b1 b2 p1 p2 l1 l2 bx q1 q2 n1 n2 r1 r2 vM
 ·intro x o aF f eR hk
  rw [hB] at eR;split at eR
  ·rename_i e; subst e; simp at eR; subst eR; simp [aY.hO] at hk
  ·exact hs.rel.aX x o aF f eR hk
 ·rw [St.Od] at hxl
  have:Nat.min A.low r<=r:=Nat.min_le_right _ _;rw [hB,ae (by omega)]
 ·rintro k hk ⟨x,o,l2,eR,hm,pQ,rfl⟩
  rw [hB] at eR;split at eR
  ·rename_i e; subst e
   rw [iY] at pQ; simp at pQ; subst pQ;exact ⟨x,_,l,hg,wb,iY,rfl⟩
  ·exact ⟨x,o,l2,eR,hm,pQ,rfl⟩
theorem eZ.length {ρ:Ren} : ∀ {es:List (Value×Value)} {l:List MapEntry},eZ ρ es l->l.length=es.length
 | [],l,h=>by simp only [eZ] at h; subst h; rfl
 | (k,v)::es,l,h=>by
  simp only [eZ] at h;obtain ⟨e,r,rfl,_,_,h⟩:=h;simp [eZ.length h]
theorem eZ.get {ρ:Ren} : ∀ {es:List (Value×Value)} {l:List MapEntry},eZ ρ es l->∀ (i:Nat) (k v:Value),es[i]? = some (k,v)->∃ e,l[i]? = some e/\VR ρ k e.key/\VR ρ v e.val
 | [],l,h,i,k,v,hi=>by simp at hi
 | (k,v)::es,l,h,i,k',v',hi=>by
  simp only [eZ] at h;obtain ⟨e,r,rfl,h1,h2,h⟩:=h;cases i with
  | zero=>simp at hi; obtain ⟨rfl,rfl⟩:=hi; exact ⟨e,rfl,h1,h2⟩
  | succ i=>simp at hi; simpa using eZ.get h i k' v' hi
theorem eZ.append {ρ:Ren} : ∀ {es:List (Value×Value)} {l:List MapEntry} {k v:Value} {e:MapEntry},eZ ρ es l->VR ρ k e.key->VR ρ v e.val->eZ ρ (es++[(k,v)]) (l++[e])
 | [],l,k,v,e,h,h1,h2=>by
  simp only [eZ] at h; subst h;simp only [List.nil_append,eZ];exact ⟨e,[],rfl,h1,h2,rfl⟩
 | (k0,v0)::es,l,k,v,e,h,h1,h2=>by
  simp only [eZ] at h;obtain ⟨e0,r,rfl,h3,h4,h⟩:=h;simp only [List.cons_append,eZ];exact ⟨e0,r++[e],rfl,h3,h4,eZ.append h h1 h2⟩
theorem eZ.modify {ρ:Ren} : ∀ {es:List (Value×Value)} {l:List MapEntry} {k v:Value} (f:MapEntry->MapEntry) (i:Nat),eZ ρ es l->(∀ e,VR ρ k (f e).key/\VR ρ v (f e).val)->eZ ρ (es.set i (k,v)) (l.modify i f)
 | [],l,k,v,f,i,h,_=>by simp only [eZ] at h; subst h; simp [eZ]
 | (k0,v0)::es,l,k,v,f,i,h,hf=>by
  simp only [eZ] at h;obtain ⟨e0,r,rfl,h3,h4,h⟩:=h;cases i with
  | zero=>simp only [List.set_cons_zero,List.modify_zero_cons,eZ]; exact ⟨_,r,rfl,(hf e0).1,(hf e0).2,h⟩
  | succ i=>simp only [List.set_cons_succ,List.modify_succ_cons,eZ]; exact ⟨e0,_,rfl,h3,h4,eZ.modify f i h hf⟩
theorem eZ.erase {ρ:Ren} : ∀ {es:List (Value×Value)} {l:List MapEntry} (i:Nat),eZ ρ es l->eZ ρ (es.eraseIdx i) (l.eraseIdx i)
 | [],l,i,h=>by simp only [eZ] at h; subst h; simp [eZ]
 | (k0,v0)::es,l,i,h=>by
  simp only [eZ] at h;obtain ⟨e0,r,rfl,h3,h4,h⟩:=h;cases i with
  | zero=>simpa using h
  | succ i=>simp only [List.eraseIdx_cons_succ,eZ]; exact ⟨e0,_,rfl,h3,h4,eZ.erase i h⟩
def FR (ρ:Ren):Option (Nat×Value)->Option (Nat×Value)->Prop
 | none,r=>r=none
 | some (i,v),r=>∃ v',r=some (i,v')/\VR ρ v v'
theorem Oq {ρ:Ren} (d:TypeDesc) (k:Value):∀ (es:List (Value×Value)) (l:List MapEntry) (i:Nat),eZ ρ es l->q8 es=true->
  (xM d k es i=none->Instr.findNow d k l i=none)/\∀ r,xM d k es i=some r->∃ r',Instr.findNow d k l i=some r'/\FR ρ r r'
 | [],l,i,h,_=>by
  simp only [eZ] at h; subst h;exact ⟨fun h=>by simp [xM] at h,fun r hr=>by simp [xM] at hr; subst hr; exact ⟨none,rfl,rfl⟩⟩
 | (k0,v0)::es,l,i,h,hf=>by
  simp only [eZ] at h;obtain ⟨e0,r0,rfl,h3,h4,h⟩:=h;simp only [q8,aj] at hf;have hk:e0.key=k0:=h3.jW hf.1;have ih:=Oq d k es r0 (i+1) h hf.2;simp only [xM,Instr.findNow,hk];cases hsn:Instr.sameNow d k k0 with
  | none=>exact ⟨fun _=>rfl,fun r hr=>by simp at hr⟩
  | some b=>
   cases b with
   | true=>exact ⟨fun h=>by simp at h,fun r hr=>by simp at hr; subst hr; exact ⟨_,rfl,_,rfl,h4⟩⟩
   | false=>exact ih
theorem Ot {ρ:Ren} (kt:TypeId) (k:Value):∀ (es:List (Value×Value)) (l:List MapEntry) (i:Nat),eZ ρ es l->q8 es=true->
  ∀ r,Ej P kt k es i=some r->∃ r',(∀ w,(Instr.findAsking kt k l i).run P w = .ok r' w)/\FR ρ r r'
 | [],l,i,h,_=>by
  simp only [eZ] at h; subst h;intro r hr;simp [Ej] at hr; subst hr; exact ⟨none,fun w=>rfl,rfl⟩
 | (k0,v0)::es,l,i,h,hf=>by
  simp only [eZ] at h;obtain ⟨e0,r0,rfl,h3,h4,h⟩:=h;simp only [q8,aj] at hf;have hk:e0.key=k0:=h3.jW hf.1;intro r hr;simp only [Ej] at hr;split at hr
  ·rename_i he
   simp at hr; subst hr;refine ⟨some (i,e0.val),fun w=>?_,_,rfl,h4⟩;simp [Instr.findAsking,hk,eO he w]
  ·rename_i he
   obtain ⟨r',h5,h6⟩:=Ot kt k es r0 (i+1) h hf.2 r hr;refine ⟨r',fun w=>?_,h6⟩;simp only [Instr.findAsking,hk,Sem.run_bind,eO he w,fA];exact h5 w
  ·simp at hr
theorem FZ {ρ:Ren} {kt:TypeId} {d:TypeDesc} {k:Value} {es:List (Value×Value)} {l:List MapEntry} {r:Option (Nat×Value)} (hd:P.underlying kt=some d) (h:eZ ρ es l) (hf:q8 es=true) (hr:T1 P kt d k es=some r) :
  ∃ r',(∀ w,(Instr.findKey kt k l).run P w = .ok r' w)/\FR ρ r r':=by
 have hn:=Oq d k es l 0 h hf;unfold T1 at hr;split at hr
 ·rename_i q hq
  simp at hr; subst hr;obtain ⟨r',h1,h2⟩:=hn.2 _ hq;refine ⟨r',fun w=>?_,h2⟩;simp only [Instr.findKey,Sem.run_bind,aV hd,fA,h1];rfl
 ·rename_i hq
  have h1:=hn.1 hq;obtain ⟨r',h2,h3⟩:=Ot kt k es l 0 h hf r hr;refine ⟨r',fun w=>?_,h3⟩;simp only [Instr.findKey,Sem.run_bind,aV hd,fA,h1];exact h2 w
theorem AH {ρ:Ren} {kt:TypeId} {b:Bool} {k k' : Value} {es:List (Value×Value)} (h:DA P kt b k es=true) (hk:VR ρ k k'):k' = k/\flat k=true/\q8 es=true/\∀ w,(Instr.checkKey b 10000 kt k).run P w = .ok () w:=by
 unfold DA at h;simp only [aj] at h;obtain ⟨⟨h1,h2⟩,h3⟩:=h;cases hp:cu P (Instr.checkKey b 10000 kt k) with
 | none=>rw [hp] at h3; simp at h3
 | some u=>exact ⟨hk.jW h1,h1,h2,fun w=>eO hp w⟩
theorem eZ.isEmpty {ρ:Ren} {es:List (Value×Value)} {l:Array MapEntry} (h:eZ ρ es l.toList):l.isEmpty=es.isEmpty:=by
 have:=h.length;cases es with
 | nil=>simp at this; simpa using this
 | cons e es=>simp at this; simp; intro h; rw [h] at this; simp at this
theorem VR.Ih {ρ:Ren} {r:Nat} {v:Value} (h:VR ρ (.map (some r)) v):∃ l,ρ r=some l/\v = .map (some l.cb):=by simpa only [VR] using h
theorem VR.AI {ρ:Ren} {v:Value} (h:VR ρ (.map none) v):v = .map none:=by simpa only [VR] using h
theorem VR.XJ {ρ:Ren} {ok b:Bool} {v v' : Value} (h:VR ρ v v'):VR ρ (XJ ok v b) (if ok then .tuple #[v',.bool b] else v'):=by
 cases ok with
 | true=>exact VR.mkTuple (.cons h (.cons (VR.of_flat rfl) .nil))
 | false=>exact h
theorem aba {t:TypeId} {r:Option Operand} (ho:o.op = .makeMap t r):fk P o (HV P t r):=by
 unfold HV;split
 ·rename_i kt et hu
  intro ρ ev cj obj mk he hf;have fY:obj = .map []/\mk=fun n=>.map (some n):=by
   unfold Qn at hf;split at hf
   ·simp at hf; exact ⟨hf.1.symm,hf.2.symm⟩
   ·simp at hf; exact ⟨hf.1.symm,hf.2.symm⟩
   ·simp at hf
  obtain ⟨rfl,rfl⟩:=fY;refine ⟨.map #[] 0,fun n=>.map (some n),rfl,fun w=>?_,fun ak n cb h=>by simp only [VR]; exact ⟨_,h,rfl⟩⟩;cases r with
  | none=>simp [execOp,ho,Instr.makeMap]
  | some x=>
   have hx:=he x (by simp [eh]);unfold Qn at hf;simp only [eh,List.map] at hf;split at hf
   ·rename_i e; simp at e
   ·rename_i k n e
    simp at e;rw [e] at hx;simp [execOp,ho,Instr.makeMap,hx.bQ,aV hu,asInt,asIntOf]
   ·simp at hf
 ·trivial
theorem EE {ρ:Ren} {kt et:TypeId} {d:TypeDesc} {z v k k' : Value} {ok:Bool} {es:List (Value×Value)} {l:Array MapEntry} (hd:P.underlying kt=some d) (hz:uK P et=some z) (hzf:flat z=true)
  (hm:eZ ρ es l.toList) (hk:VR ρ k k') (h:FH P kt d z ok k es=some v) :
  ∃ v',VR ρ v v'/\∀ w,(do
   Instr.checkKey l.isEmpty 10000 kt k'
   let (v,b) <- match <- Instr.findKey kt k' l.toList with
    | some (_,v)=>pure (v,true)
    | none=>pure (<- zeroValue et,false)
   pure (if ok then Value.tuple #[v,.bool b] else v):Sem Value).run P w = .ok v' w:=by
 unfold FH at h;cases hc:DA P kt es.isEmpty k es with
 | false=>rw [hc] at h; simp at h
 | true=>
  rw [hc,ah] at h;obtain ⟨rfl,_,hkf,H7⟩:=AH hc hk;obtain ⟨r,hr,rfl⟩:=aU.1 h;obtain ⟨r',h1,h2⟩:=FZ hd hm hkf hr;rw [hm.isEmpty];cases r with
  | none=>
   have h2:r' = none:=h2;subst h2;refine ⟨_,VR.XJ (VR.of_flat hzf),fun w=>?_⟩;simp [H7,h1,J3 hz]
  | some p=>
   obtain ⟨i,u⟩:=p;obtain ⟨u',rfl,h3⟩:=h2;refine ⟨_,VR.XJ h3,fun w=>?_⟩;simp [H7,h1]
theorem adJ {t:TypeId} {x ix:Operand} {ok:Bool} (ho:o.op = .lookup t x ix ok):fk P o (Mf P t x ix ok):=by
 unfold Mf;split
 ·rename_i kt et hu
  split
  ·rename_i d z hd hz
   cases hzf:flat z with
   | false=>exact True.intro
   | true=>
    rw [ah];intro ρ A base w ev cj v hs he hf;have hx:=he x (by simp);have hk:=he ix (by simp);simp only [List.map] at hf;unfold aaL at hf;split at hf
    ·rename_i k e
     simp at e;obtain ⟨e1,e2⟩:=e;rw [e1] at hx;have hx:=hx.AI;rw [<- e2] at hf;obtain ⟨v',h1,h2⟩:=EE (ρ:=ρ) (l:=#[]) hd hz hzf (by simp [eZ]) hk hf;refine ⟨v',h1,?_⟩;have h2:=h2 w;simp only [execOp,ho,Instr.lookup,Sem.run_bind,aV hu,fA,hx,Sem.run_pure] at h2 ⊢;exact congrArg (fun r:Result Value=>r.andThen fun a w'=>Result.ok (Next.value a) w') h2
    ·rename_i r k e
     simp at e;obtain ⟨e1,e2⟩:=e;rw [e1] at hx;rw [<- e2] at hf;obtain ⟨lc,hl,hx⟩:=hx.Ih;split at hf
     ·rename_i es hg
      obtain ⟨l2,iK,fJ⟩:=hs.map _ _ hg;rw [hl] at iK; simp at iK; subst iK;obtain ⟨aP,clock,lO,hm⟩:=fJ.gC;obtain ⟨v',h1,h2⟩:=EE (l:=aP) hd hz hzf hm hk hf;refine ⟨v',h1,?_⟩;have h2:=h2 w;simp only [execOp,ho,Instr.lookup,Sem.run_bind,aV hu,fA,hx,MapKept.run_getObj_map lO,Sem.run_pure] at h2 ⊢;exact congrArg (fun r:Result Value=>r.andThen fun a w'=>Result.ok (Next.value a) w') h2
     ·simp at hf
    ·simp at hf
  ·trivial
 ·trivial
theorem Ou {ρ:Ren} {A B:St} {base:Nat} {w:World} {t kt et:TypeId} {d:TypeDesc} {m k x m' k' x' v:Value} (hu:P.underlying t=some (.map kt et)) (hd:P.underlying kt=some d) (hs:iu ρ A base w)
  (hm:VR ρ m m') (hk:VR ρ k k') (hx:VR ρ x x') (h:HU P kt d A [m,k,x] = some (v,B)):v=undef/\∃ w',(Instr.mapUpdate t m' k' x').run P w = .ok () w'/\cp base ρ A w ρ B w':=by
 unfold HU at h;split at h
 ·rename_i r k0 x0 e
  simp at e;obtain ⟨rfl,rfl,rfl⟩:=e;obtain ⟨lc,hl,rfl⟩:=hm.Ih;split at h
  ·rename_i es hg
   obtain ⟨l2,iK,fJ⟩:=hs.rel.map _ _ hg;rw [hl] at iK; simp at iK; subst iK;obtain ⟨aP,clock,lO,QE⟩:=fJ.gC;cases hc:DA P kt false k es with
   | false=>rw [hc] at h; simp at h
   | true=>
    rw [hc,ah] at h;obtain ⟨rfl,hkf0,hkf,H7⟩:=AH hc hk;obtain ⟨q,hq,h⟩:=aO.1 h;obtain ⟨r',h1,h2⟩:=FZ hd QE hkf hq;cases q with
    | none=>
     have h2:r' = none:=h2;subst h2;simp at h;obtain ⟨rfl,rfl⟩:=h;refine ⟨rfl,_,?_,wa (y8:=aP.push { key:=k',val:=x',born:=clock }) (yJ:=clock+1) hs hg hl (by rw [Array.toList_push]; exact QE.append hk hx)⟩;simp [Instr.mapUpdate,aV hu,MapKept.run_getObj_map lO,H7,h1,MapKept.run_setObj_map _ lO]
    | some p=>
     obtain ⟨i,u⟩:=p;obtain ⟨u',rfl,h3⟩:=h2;simp only at h;cases Y7:Instr.sameBits 10000 (YN es i k') k' with
     | false=>rw [Y7] at h; simp at h
     | true=>
      rw [Y7] at h;simp at h;obtain ⟨rfl,rfl⟩:=h;have hold:((aP[i]?).map (·.key)).getD k' = YN es i k':=by
       unfold YN;cases hi:es[i]? with
       | none=>
        have:aP[i]? = none:=by
         rw [Array.getElem?_eq_none_iff];have:=NS.1 hi;rw [<- Array.length_toList,QE.length]; exact this
        rw [this]; rfl
       | some p=>
        obtain ⟨k1,v1⟩:=p;obtain ⟨e,h5,h6,h7⟩:=QE.get i k1 v1 hi;have h5' : aP[i]? = some e:=by simpa using h5
        have ot:flat k1=true:=by
         have key:∀ (es:List (Value×Value)) (i:Nat),q8 es=true->es[i]? = some (k1,v1)->flat k1=true:=by
          intro es
          induction es with
          | nil=>intro i _ h; simp at h
          | cons e es ih=>
           intro i hk h;simp only [q8,aj] at hk;cases i with
           | zero=>simp at h; subst h; exact hk.1
           | succ i=>exact ih i hk.2 (by simpa using h)
         exact key es i hkf hi
        rw [h5'];simp only [Option.map_some,iB];exact h6.jW ot
      refine ⟨rfl,_,?_,wa (y8:=aP.modify i fun e=>{ e with key:=k',val:=x' }) (yJ:=clock) hs hg hl (by rw [Array.toList_modify]; exact QE.modify _ i fun e=>⟨hk,hx⟩)⟩;simp [Instr.mapUpdate,aV hu,MapKept.run_getObj_map lO,H7,h1,hold,Instr.keyThatStays,Y7,MapKept.run_setObj_map _ lO]
  ·simp at h
 ·simp at h
theorem Lm {t:TypeId} {m k x:Operand} (ho:o.op = .mapUpdate t m k x\/o.op = .insert t m k x):fk P o (yE P t m k x):=by
 unfold yE;split
 ·rename_i kt et hu
  split
  ·rename_i d hd
   intro ρ A B base w ev cj v hs he hf;simp only [List.map] at hf;obtain ⟨rfl,w',h1,h2⟩:=Ou hu hd hs (he m (by simp)) (he k (by simp)) (he x (by simp)) hf;refine ⟨ρ,undef,.skip,w',?_,rfl,VR.of_flat (by simp [undef,flat,vT,nQ]),h2⟩;rcases ho with ho | ho <;> simp [execOp,ho,h1]
  ·trivial
 ·trivial
theorem rY:flat jb=true:=rfl
theorem adK {argTypes:Array TypeId} {args:Array Operand} (ho:o.op = .call ⟨.builtin .delete,args,argTypes⟩):fk P o (Mg P argTypes.toList args.toList):=by
 unfold Mg;split
 ·rename_i t rest pP
  have Ha:argTypes[0]? = some t:=by rw [<- Array.getElem?_toList,pP]; rfl
  split
  ·rename_i kt et hu
   split
   ·rename_i d hd
    intro ρ A B base w ev cj v hs he hf;have hm:=he.map;unfold aaM at hf;split at hf
    ·rename_i k e1
     rw [e1] at hm;obtain ⟨m',r1,e2,Un,hm⟩:=hm.cons_inv;obtain ⟨k',r2,e3,hkv,hm⟩:=hm.cons_inv;have:=hm.bA;subst this e3;have e4:args.map cj = #[m',k']:=by apply Array.ext'; simpa using e2
     have:=Un.AI;subst this;cases hc:DA P kt true k [] with
     | false=>rw [hc] at hf; simp at hf
     | true=>
      rw [hc] at hf;simp at hf;obtain ⟨rfl,rfl⟩:=hf;obtain ⟨rfl,_,hkf,H7⟩:=AH hc hkv;refine ⟨ρ,jb,.value jb,w,?_,rfl,VR.of_flat rY,.refl hs⟩;simp [execOp,ho,resolve,invoke,builtin,e4,Builtin.delete_,Ha,aV hu,H7,jb]
    ·rename_i r k e1
     rw [e1] at hm;obtain ⟨m',r1,e2,Un,hm⟩:=hm.cons_inv;obtain ⟨k',r2,e3,hkv,hm⟩:=hm.cons_inv;have:=hm.bA;subst this e3;have e4:args.map cj = #[m',k']:=by apply Array.ext'; simpa using e2
     obtain ⟨lc,hl,rfl⟩:=Un.Ih;split at hf
     ·rename_i es hg
      obtain ⟨l2,iK,fJ⟩:=hs.rel.map _ _ hg;rw [hl] at iK; simp at iK; subst iK;obtain ⟨aP,clock,lO,QE⟩:=fJ.gC;cases hc:DA P kt es.isEmpty k es with
      | false=>rw [hc] at hf; simp at hf
      | true=>
       rw [hc,ah] at hf;obtain ⟨rfl,_,hkf,H7⟩:=AH hc hkv;obtain ⟨q,hq,hqe⟩:=aU.1 hf;obtain ⟨r',h1,h2⟩:=FZ hd QE hkf hq;rw [<- QE.isEmpty] at H7;cases q with
       | none=>
        have h2:r' = none:=h2;subst h2;simp at hqe;obtain ⟨rfl,rfl⟩:=hqe;refine ⟨ρ,jb,.value jb,_,?_,rfl,VR.of_flat rY,wa (y8:=aP) (yJ:=clock) hs hg hl QE⟩;simp [execOp,ho,resolve,invoke,builtin,e4,Builtin.delete_,Ha,aV hu,MapKept.run_getObj_map lO,H7,h1,MapKept.run_setObj_map _ lO,jb]
       | some p=>
        obtain ⟨i,u⟩:=p;obtain ⟨u',rfl,h3⟩:=h2;simp at hqe;obtain ⟨rfl,rfl⟩:=hqe;refine ⟨ρ,jb,.value jb,_,?_,rfl,VR.of_flat rY,wa (y8:=aP.eraseIdxIfInBounds i) (yJ:=clock) hs hg hl (by rw [Array.toList_eraseIdxIfInBounds]; exact QE.erase i)⟩;simp [execOp,ho,resolve,invoke,builtin,e4,Builtin.delete_,Ha,aV hu,MapKept.run_getObj_map lO,H7,h1,MapKept.run_setObj_map _ lO,jb]
     ·simp at hf
    ·simp at hf
   ·trivial
  ·trivial
 ·trivial
theorem ag0 {argTypes:Array TypeId} {args:Array Operand} (ho:o.op = .call ⟨.builtin .clear,args,argTypes⟩):fk P o (Qo P argTypes.toList args.toList):=by
 unfold Qo;split
 ·rename_i t pP
  have Ha:argTypes[0]? = some t:=by rw [<- Array.getElem?_toList,pP]; rfl
  split
  ·rename_i kt et hu
   intro ρ A B base w ev cj v hs he hf;have hm:=he.map;unfold T3 at hf;split at hf
   ·rename_i e1
    simp at hf;obtain ⟨rfl,rfl⟩:=hf;rw [e1] at hm;obtain ⟨m',r1,e2,Un,hm⟩:=hm.cons_inv;have:=hm.bA;subst this;have e4:args.map cj = #[m']:=by apply Array.ext'; simpa using e2
    have:=Un.AI;subst this;refine ⟨ρ,jb,.value jb,w,?_,rfl,VR.of_flat rY,.refl hs⟩;simp [execOp,ho,resolve,invoke,builtin,e4,Builtin.clear_,Ha,aV hu,jb]
   ·rename_i r e1
    rw [e1] at hm;obtain ⟨m',r1,e2,Un,hm⟩:=hm.cons_inv;have:=hm.bA;subst this;have e4:args.map cj = #[m']:=by apply Array.ext'; simpa using e2
    obtain ⟨lc,hl,rfl⟩:=Un.Ih;split at hf
    ·rename_i es hg
     simp at hf;obtain ⟨rfl,rfl⟩:=hf;obtain ⟨l2,iK,fJ⟩:=hs.rel.map _ _ hg;rw [hl] at iK; simp at iK; subst iK;obtain ⟨aP,clock,lO,QE⟩:=fJ.gC;refine ⟨ρ,jb,.value jb,_,?_,rfl,VR.of_flat rY,wa (y8:=#[]) (yJ:=clock) hs hg hl rfl⟩;simp [execOp,ho,resolve,invoke,builtin,e4,Builtin.clear_,Ha,aV hu,MapKept.run_getObj_map lO,MapKept.run_setObj_map _ lO,jb]
    ·simp at hf
   ·simp at hf
  ·rename_i e hu
   split
   ·rename_i z hz
    cases hzc:(flat z&&Nat.ble 1 z.cells.size) with
    | false=>exact True.intro
    | true=>
     rw [ah];obtain ⟨FV,vO⟩:=Bool.and_eq_true_iff.1 hzc;have vO:=cM vO;intro ρ A B base w ev cj v hs he hf;have hm:=he.map;unfold XK at hf;split at hf
     ·rename_i n c e1
      simp at hf;obtain ⟨rfl,rfl⟩:=hf;rw [e1] at hm;obtain ⟨m',r1,e2,Un,hm⟩:=hm.cons_inv;have:=hm.bA;subst this;have e4:args.map cj = #[m']:=by apply Array.ext'; simpa using e2
      have:=Un.e8;subst this;refine ⟨ρ,jb,.value jb,w,?_,rfl,VR.of_flat rY,.refl hs⟩;simp [execOp,ho,resolve,invoke,builtin,e4,Builtin.clear_,Ha,aV hu,jb]
     ·rename_i a n c e1
      rw [e1] at hm;obtain ⟨m',r1,e2,Un,hm⟩:=hm.cons_inv;have:=hm.bA;subst this;have e4:args.map cj = #[m']:=by apply Array.ext'; simpa using e2
      obtain ⟨tV,AE,lc,a',c',hl,ri,Bv,jG,rfl⟩:=Un.iD;cases hn:Nat.beq n 0 with
      | true=>
       rw [hn] at hf;simp at hf;obtain ⟨rfl,rfl⟩:=hf;have:=aD hn;subst this;refine ⟨ρ,jb,.value jb,w,?_,rfl,VR.of_flat rY,.refl hs⟩;simp [execOp,ho,resolve,invoke,builtin,e4,Builtin.clear_,Ha,aV hu,jb]
      | false=>
       rw [hn,ay] at hf;have W0:=Nat.ne_of_beq_eq_false hn;obtain ⟨B',eU,hf⟩:=aU.1 hf;simp at hf;obtain ⟨rfl,rfl⟩:=hf;obtain ⟨w',h5,h6⟩:=yH (P:=P) hs eU hl ((CW FV).repeat n);have:=Bv (by omega);subst this;have e5:Builtin.zeroCells z.cells n=⟨eK z.cells.toList n⟩:=Mp z.cells n vO;refine ⟨ρ,jb,.value jb,w',?_,rfl,VR.of_flat rY,h6⟩;obtain ⟨m,rfl⟩:=Nat.exists_eq_succ_of_ne_zero W0;simp [execOp,ho,resolve,invoke,builtin,e4,Builtin.clear_,Ha,aV hu,J3 hz,e5,h5,jb]
     ·simp at hf
   ·trivial
  ·trivial
 ·trivial
theorem akA {argTypes:Array TypeId} {args:Array Operand} (ho:o.op = .call ⟨.builtin .len,args,argTypes⟩):fk P o (N3 P argTypes.toList args.toList):=by
 unfold N3;split
 ·rename_i t et
  have pP:argTypes[0]? = some t:=by rw [<- Array.getElem?_toList,et]; rfl
  split
  ·rename_i e hu; exact agX ho pP hu
  ·rename_i hu; exact adH ho pP hu
  ·rename_i kt et' hu
   intro ρ A base w ev cj v hs he hf;have hm:=he.map;unfold aaN at hf;split at hf
   ·rename_i e1
    rw [e1] at hm;obtain ⟨y,ys,e2,h1,h2⟩:=hm.cons_inv;have:=h2.bA;subst this;simp at hf; subst hf;have:=h1.AI;subst this;refine ⟨_,VR.of_flat rfl,?_⟩;have e3:(args.map cj)[0]? = some (.map none):=by rw [lN,e2]; rfl
    simp [execOp,ho,resolve,invoke,builtin,Builtin.len_,pP,e3,aV hu,goInt]
   ·rename_i r e1
    rw [e1] at hm;obtain ⟨y,ys,e2,h1,h2⟩:=hm.cons_inv;have:=h2.bA;subst this;obtain ⟨lc,hl,rfl⟩:=h1.Ih;split at hf
    ·rename_i es hg
     simp at hf; subst hf;obtain ⟨l2,iK,fJ⟩:=hs.map _ _ hg;rw [hl] at iK; simp at iK; subst iK;obtain ⟨aP,clock,lO,QE⟩:=fJ.gC;refine ⟨_,VR.of_flat rfl,?_⟩;have e3:(args.map cj)[0]? = some (.map (some lc.cb)):=by rw [lN,e2]; rfl
     have cT:aP.size=es.length:=by rw [<- Array.length_toList,QE.length]
     simp [execOp,ho,resolve,invoke,builtin,Builtin.len_,pP,e3,aV hu,goInt,MapKept.run_getObj_map lO,cT]
    ·simp at hf
   ·simp at hf
  ·trivial
 ·trivial
end
end Go.az
end
