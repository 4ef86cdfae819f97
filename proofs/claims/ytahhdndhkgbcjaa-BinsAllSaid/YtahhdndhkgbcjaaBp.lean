/- Part of the proof of BinsAll: a machine that runs the program's code over open terms, shown to be the model's, and the plain models of its functions. No conditions. -/
import Derived.Test.YtahhdndhkgbcjaaAp
import Derived.Below
import Derived.Laws.Slices
import Derived.Laws.MakeOwn
import Derived.Laws.AppendOwn
section
namespace Go.av
open Go
def bD.cG:bD→Bool
  | .row _ _ own _=>own
  | .map _=>true
  | .iter _ _=>true
  | .dead=>false
  | .loop _ _ _ _ _ _=>true
def bD.jb:bD→Option (Nat×Nat)
  | .row _ _ _ bo=>bo
  | _=>none
def fw (ρ:ao):List (Value×Value)→List MapEntry→Prop
  | [],l=>l = []
  | (k,v) :: es,l=>∃ e r,l=e :: r∧VR ρ k e.key∧VR ρ v e.val∧fw ρ es r
structure wz (ρ:ao) (base:Nat) (w:World) (l:Loc) (cs:List Value) (bm:Nat) (own:Bool) (bo:Option (Nat×Nat)):Prop where
  cells:∀ (i:Nat) (v:Value),cs[i]? = some v→∃ v',w.cell? ⟨l.cb,l.dh+i,none⟩=some v'∧VR ρ v v'∧scalar v=true
  nA:own=false→l.cb < base
  cG:own=true→base≤l.cb
  there:own=true→∀ j,j < l.vc→(w.cell? ⟨l.cb,j,none⟩).isSome=true∧w.frozen? ⟨l.cb,j,none⟩=false
  fits:l.dh+cs.length≤l.vc
  ends:own=true→bo=none→l.dh+cs.length=l.vc
  bm:l.bm=bm
  j7:l.cb < w.heap.size
  mark:own=true→l.bm≠1→∀ j,w.frozen? ⟨l.cb,j,none⟩=false
structure Jl (ρ:ao) (base:Nat) (w:World) (l:Loc) (es:List (Value×Value)):Prop where
  cG:base≤l.cb
  j7:∃ a7 clock,w.heap[l.cb]? = some (.map a7 clock)∧fw ρ es a7.toList
structure Ks (base:Nat) (w:World) (l:Loc) (s:List UInt8) (pos:Nat):Prop where
  cG:base≤l.cb
  j7:l.dh=0∧w.heap[l.cb]? = some (.stringIter ⟨⟨s⟩⟩ pos)
def ai.code:ai→Option Code
  | .normal=>none
  | .exit id=>some (.exit id)
  | .goto l=>some (.goto l)
  | .ret=>some .ret
def Dh:Nat→LoopState
  | 0=>.ready
  | 1=>.busy
  | _=>.done
structure TmR (ρ:ao) (t:Trie Value) (N:Nat) (tmps:Array Value) (ps:List Nat) (assign body:Code):Prop where
  size:tmps.size=N
  val:∀ i,VR ρ ((t.get i).getD undef) (tmps.getD i undef)
  none:∀ i,N≤i→t.get i=Option.none
  Zb:ps.all (fun p=>Nat.blt p N)=true∧codeOk N assign=true∧codeOk N body=true∧eN assign=true∧eN body=true
theorem TmR.mono {ρ ak:ao} (h:ρ.le ak) {t:Trie Value} {N:Nat} {tmps:Array Value} {ps:List Nat} {a b:Code} (k:TmR ρ t N tmps ps a b):TmR ak t N tmps ps a b:=⟨k.size,fun i=>(k.val i).mono h,k.none,k.Zb⟩
structure Ar (ρ:ao) (base:Nat) (w:World) (l:Loc) (st:Nat) (e:ai) (t:Trie Value) (ps:List Nat) (assign body:Code):Prop where
  cG:base≤l.cb
  j7:∃ fn tmps D N,w.heap[l.cb]? = some (.loop { state:=Dh st,pending:=e.code,fn:=fn,tmps:=tmps,params:=ps.toArray,assign:=assign,body:=body,defers:=D })∧TmR ρ t N tmps ps assign body
structure Rel (ρ:ao) (get:Nat→Option bD) (mem:Nat→List Nat) (base:Nat) (w:World):Prop where
  row:∀ b cs bm own bo,get b=some (.row cs bm own bo)→∃ l,ρ b=some l∧wz ρ base w l cs bm own bo
  map:∀ b es,get b=some (.map es)→∃ l,ρ b=some l∧Jl ρ base w l es
  iter:∀ b s pos,get b=some (.iter s pos)→∃ l,ρ b=some l∧Ks base w l s pos
  loop:∀ b st e t ps a c,get b=some (.loop st e t ps a c)→∃ l,ρ b=some l∧Ar ρ base w l st e t ps a c
  apart:∀ b1 b2 o1 o2 l1 l2,b1≠b2→get b1=some o1→get b2=some o2→o1.cG=true→o2.cG=true→ρ b1=some l1→ρ b2=some l2→l1.cb=l2.cb→
    ∃ aW f1 f2,o1.jb=some (aW,f1)∧o2.jb=some (aW,f2)∧l1.dh+f2=l2.dh+f1
  ba:∀ b o aW f,get b=some o→o.jb=some (aW,f)→b ∈ mem aW
def Kt (ρ:ao):Prop:=∀ g,g < gB→∃ l,ρ g=some l∧l.cb=g∧l.dh=0
theorem Kt.mono {ρ ak:ao} (h:Kt ρ) (k:ρ.le ak):Kt ak:=fun g hg=>by
  obtain ⟨l,e,h2⟩:=h g hg
  exact ⟨l,k g l e,h2⟩
theorem Kt.ev {ρ:ao} (h:Kt ρ) (g:Nat):VR ρ (YW g) (.pointer (some ⟨g,0,none⟩)):=by
  unfold YW
  cases hb:Nat.blt g gB with
  | false=>simp [VR]
  | true=>
    obtain ⟨⟨cb,co,cs,es⟩,e,h1,h2⟩:=h g (Nat.le_of_ble_eq_true hb)
    simp only at h1 h2
    subst h1; subst h2
    exact ⟨rfl,_,e,rfl⟩
structure jC (ρ:ao) (A:St) (base:Nat) (w:World):Prop where
  rel:Rel ρ A.get A.members base w
  gk:∀ b l,ρ b=some l→b < A.next
  size:base≤w.heap.size
  mS:Kt ρ
def B4 (ρ:ao) (A:St) (k:Nat):Prop:=∃ b o l,A.get b=some o∧o.cG=true∧ρ b=some l∧l.cb=k
structure Kept (ρ:ao) (A:St) (w w' : World):Prop where
  os:w'.os=w.os
  tape:w'.tape=w.tape
  output:w'.output=w.output
  size:w.heap.size≤w'.heap.size
  block:∀ k,k < w.heap.size→¬ B4 ρ A k→w'.heap[k]? = w.heap[k]?
structure da (base:Nat) (ρ:ao) (A:St) (w:World) (ak:ao) (B:St) (w' : World):Prop where
  dz:jC ak B base w'
  ext:∀ b,b < A.next→ak b=ρ b
  kept:Kept ρ A w w'
  next:A.next≤B.next
  low:B.low≤A.low
  same:∀ b,b < A.next→b < B.low→B.get b=A.get b
  PW:∀ k,k < w.heap.size→B4 ak B k→B4 ρ A k
theorem Kept.refl (ρ:ao) (A:St) (w:World):Kept ρ A w w:=⟨rfl,rfl,rfl,Nat.le_refl _,fun _ _ _=>rfl⟩
theorem da.refl {base:Nat} {ρ:ao} {A:St} {w:World} (h:jC ρ A base w):da base ρ A w ρ A w:=
  ⟨h,fun _ _=>rfl,.refl _ _ _,Nat.le_refl _,Nat.le_refl _,fun _ _ _=>rfl,fun _ _ h=>h⟩
theorem da.trans {base:Nat} {ρ ak kP:ao} {A B C:St} {w w' tT:World} (h:da base ρ A w ak B w') (k:da base ak B w' kP C tT):da base ρ A w kP C tT where
  dz:=k.dz
  ext b hb:=(k.ext b (Nat.lt_of_lt_of_le hb h.next)).trans (h.ext b hb)
  kept:={
    os:=k.kept.os.trans h.kept.os
    tape:=k.kept.tape.trans h.kept.tape
    output:=k.kept.output.trans h.kept.output
    size:=Nat.le_trans h.kept.size k.kept.size
    block:=fun i hi hn=>(k.kept.block i (Nat.lt_of_lt_of_le hi h.kept.size) (fun hk=>hn (h.PW i hi hk))).trans (h.kept.block i hi hn) }
  next:=Nat.le_trans h.next k.next
  low:=Nat.le_trans k.low h.low
  same b hb hl:=(k.same b (Nat.lt_of_lt_of_le hb h.next) hl).trans (h.same b hb (Nat.lt_of_lt_of_le hl k.low))
  PW i hi hk:=h.PW i hi (k.PW i (Nat.lt_of_lt_of_le hi h.kept.size) hk)
theorem da.le {base:Nat} {ρ ak:ao} {A B:St} {w w' : World} (h:da base ρ A w ak B w') (hs:jC ρ A base w):ρ.le ak:=
  fun b l e=>by rw [h.ext b (hs.gk b l e)]; exact e
@[simp] theorem St.bO (A:St) (b:Nat) (o:bD) (x:Nat):(A.put b o).get x=if x=b then some o else A.get x:=by
  simp [St.put,St.get,Trie.iP]
@[simp] theorem St.pZ (A:St) (b:Nat) (o:bD):(A.put b o).members=A.members:=rfl
@[simp] theorem St.po (A:St) (b:Nat) (o:bD):(A.put b o).next=A.next:=rfl
theorem St.Ku (A:St) (b:Nat) (o:bD):(A.put b o).low=Nat.min A.low b:=rfl
@[simp] theorem St.cK (A:St) (o:bD) (x:Nat):(A.new o).get x=if x=A.next then some o else A.get x:=by
  simp [St.new,St.get,Trie.iP]
@[simp] theorem St.jT (A:St) (o:bD):(A.new o).members=A.members:=rfl
@[simp] theorem St.bV (A:St) (o:bD):(A.new o).next=A.next+1:=rfl
@[simp] theorem St.low_new (A:St) (o:bD):(A.new o).low=A.low:=rfl
@[simp] theorem St.get_join (A:St) (f b x:Nat):(A.join f b).get x=A.get x:=rfl
@[simp] theorem St.next_join (A:St) (f b:Nat):(A.join f b).next=A.next:=rfl
@[simp] theorem St.low_join (A:St) (f b:Nat):(A.join f b).low=A.low:=rfl
theorem St.xh (A:St) (f b x:Nat):(A.join f b).members x=if x=f then b :: A.members f else A.members x:=by
  simp only [St.join,St.members,Trie.iP]
  split <;> rfl
theorem W4 (lo hi:Nat):oV (some .dead) lo hi=false:=rfl
theorem wA (b lo hi x:Nat):∀ (L:List Nat) (A:St),(A.kill b lo hi L).get x=if x ∈ L∧x≠b∧oV (A.get x) lo hi=true then some .dead else A.get x
  | [],A=>by simp [St.kill]
  | y :: L,A=>by
    simp only [St.kill]
    cases hc:(!(Nat.beq y b) && oV (A.get y) lo hi) with
    | true=>
      simp only [Bool.and_eq_true,Bool.not_eq_true'] at hc
      have hyb:y≠b:=Nat.ne_of_beq_eq_false hc.1
      rw [cond_true,wA b lo hi x L]
      by_cases vd:x=y
      · subst vd
        simp [W4,hyb,hc.2]
      · simp [vd]
    | false=>
      rw [cond_false,wA b lo hi x L]
      by_cases vd:x=y
      · subst vd
        have : ¬(x≠b∧oV (A.get x) lo hi=true):=by
          rintro ⟨h1,h2⟩
          rw [h2,Bool.and_true,Bool.not_eq_false'] at hc
          exact h1 (Nat.eq_of_beq_eq_true hc)
        rw [if_neg (fun h=>this ⟨h.2.1,h.2.2⟩),if_neg (fun h=>this ⟨h.2.1,h.2.2⟩)]
      · simp [vd]
@[simp] theorem Bf (b lo hi:Nat):∀ (L:List Nat) (A:St),(A.kill b lo hi L).members=A.members
  | [],A=>rfl
  | y :: L,A=>by simp only [St.kill]; cases (!(Nat.beq y b) && oV (A.get y) lo hi) <;> simp [Bf b lo hi L]
@[simp] theorem Di (b lo hi:Nat):∀ (L:List Nat) (A:St),(A.kill b lo hi L).next=A.next
  | [],A=>rfl
  | y :: L,A=>by simp only [St.kill]; cases (!(Nat.beq y b) && oV (A.get y) lo hi) <;> simp [Di b lo hi L]
theorem B5 (b lo hi:Nat):∀ (L:List Nat) (A:St),(A.kill b lo hi L).low≤A.low∧∀ x,(A.kill b lo hi L).get x≠A.get x→(A.kill b lo hi L).low≤x
  | [],A=>⟨Nat.le_refl _,fun x h=>absurd rfl h⟩
  | y :: L,A=>by
    simp only [St.kill]
    cases hc:(!(Nat.beq y b) && oV (A.get y) lo hi) with
    | true=>
      rw [cond_true]
      obtain ⟨h1,h2⟩:=B5 b lo hi L (A.put y .dead)
      rw [St.Ku] at h1
      have hle:Nat.min A.low y≤A.low:=Nat.min_le_left _ _
      refine ⟨Nat.le_trans h1 hle,fun x hx=>?_⟩
      by_cases vd:x=y
      · subst vd
        exact Nat.le_trans h1 (Nat.min_le_right _ _)
      · exact h2 x (by simpa [vd] using hx)
    | false=>
      rw [cond_false]
      exact B5 b lo hi L A
theorem zr (b:Nat):∀ (vs:List Value) (o:Nat) (w:World),(w.setCells b o vs).heap.size=w.heap.size
  | [],_,_=>rfl
  | v :: r,o,w=>by rw [World.setCells,zr b r]; simp
theorem p0 (b:Nat):∀ (vs:List Value) (o:Nat) (w:World),(w.setCells b o vs).os=w.os∧(w.setCells b o vs).tape=w.tape∧(w.setCells b o vs).output=w.output
  | [],_,_=>⟨rfl,rfl,rfl⟩
  | v :: r,o,w=>by rw [World.setCells]; exact p0 b r (o+1) _
theorem kQ (b:Nat) {k:Nat} (hk:k≠b):∀ (vs:List Value) (o:Nat) (w:World),(w.setCells b o vs).heap[k]? = w.heap[k]?
  | [],_,_=>rfl
  | v :: r,o,w=>by rw [World.setCells,kQ b hk r]; exact RowKit.Below.heap_setCell _ _ _ _ hk
theorem OE (w:World) (a x:Addr) (v:Value):((w.setCell a v).cell? x).isSome=(w.cell? x).isSome:=by
  by_cases h:a=x
  · subst h
    cases hc:w.cell? a with
    | some u=>rw [World.cell?_setCell_same _ _ _ hc]; rfl
    | none=>
      simp only [World.setCell,World.cell?,Array.getElem?_modify,if_true] at hc ⊢
      cases hh:w.heap[a.block]? with
      | none=>simp
      | some o=>
        rw [hh] at hc
        cases o <;> simp at hc ⊢
        intro h1
        simpa [h1] using hc h1
  · rw [World.cell?_setCell_other _ _ _ _ h]
theorem wB (b:Nat) (x:Addr):∀ (vs:List Value) (o:Nat) (w:World),((w.setCells b o vs).cell? x).isSome=(w.cell? x).isSome
  | [],_,_=>rfl
  | v :: r,o,w=>by rw [World.setCells,wB b x r,OE]
theorem Kv {ρ:ao} (F:Nat→Option Value):∀ (cs:List Value) (i:Nat),(∀ j v,cs[j]? = some v→∃ v',F (i+j)=some v'∧VR ρ v v')→
    ∃ bI,cO ρ cs bI∧∀ (j:Nat) (v' : Value),bI[j]? = some v'→F (i+j)=some v'
  | [],_,_=>⟨[],.nil,by simp⟩
  | x :: xs,i,h=>by
    obtain ⟨y,hy,hv⟩:=h 0 x rfl
    obtain ⟨ys,h1,h2⟩:=Kv F xs (i+1) (fun j v e=>by have:=h (j+1) v (by simpa using e); rwa [show i+(j+1)=i+1+j by omega] at this)
    refine ⟨y :: ys,.cons hv h1,fun j v' e=>?_⟩
    cases j with
    | zero=>simp at e; subst e; exact hy
    | succ j=>rw [show i+(j+1)=i+1+j by omega]; exact h2 j v' (by simpa using e)
theorem jJ (b o j:Nat):(⟨b,o,none⟩:Addr).add j=⟨b,o+j,none⟩:=by unfold Addr.add; split <;> simp_all
theorem VR.gG {ρ:ao} {a:Addr} {v:Value} (h:VR ρ (.pointer (some a)) v):a.spot=none∧∃ l,ρ a.block=some l∧v = .pointer (some ⟨l.cb,l.dh+a.off,none⟩):=by simpa only [VR] using h
theorem rY {P:Program} {ρ:ao} {A:St} {base:Nat} {w:World} {a:Addr} {n:Nat} {cs:List Value} {l:Loc} (hs:Rel ρ A.get A.members base w) (hl:A.rz a n=some cs) (gL:ρ a.block=some l) :
    ∃ bI,cO ρ cs bI∧cs.length=n∧(∀ v ∈ cs,scalar v=true)∧(loadCells ⟨l.cb,l.dh+a.off,none⟩ n).run P w = .ok bI.toArray w:=by
  simp only [St.rz] at hl
  cases hp:ck a with
  | false=>simp [hp] at hl
  | true=>
    rw [hp,cond_true] at hl
    obtain ⟨kR,h1,h2⟩:=Option.bind_eq_some_iff.1 hl
    simp only [rT] at h1
    split at h1
    · rename_i c e o bo hg
      simp at h1; subst h1
      rw [pn] at h2
      obtain ⟨rfl,hlen⟩:=G7 h2
      obtain ⟨l',ka,ok⟩:=hs.row _ _ _ _ _ hg
      rw [gL] at ka; simp at ka; subst ka
      have gp:∀ (j:Nat) (v:Value),((c.drop a.off).take n)[j]? = some v→j < n∧c[a.off+j]? = some v:=by
        intro j v e
        rw [List.getElem?_take] at e
        split at e
        · rename_i hj; rw [List.getElem?_drop] at e; exact ⟨hj,e⟩
        · simp at e
      obtain ⟨bI,hr,hc⟩:=Kv (ρ:=ρ) (fun j=>w.cell? ⟨l.cb,l.dh+a.off+j,none⟩) ((c.drop a.off).take n) 0 (fun j v e=>by
        obtain ⟨v',h3,h4,_⟩:=ok.cells _ _ (gp j v e).2
        exact ⟨v',by rw [Nat.zero_add,Nat.add_assoc]; exact h3,h4⟩)
      have hn:bI.length=n:=by rw [hr.length,List.length_take,Nat.min_eq_left hlen]
      refine ⟨bI,hr,by rw [List.length_take,Nat.min_eq_left hlen],fun v hv=>?_,?_⟩
      · obtain ⟨j,hj⟩:=List.getElem?_of_mem hv
        exact (ok.cells _ _ (gp j v hj).2).choose_spec.2.2
      · have:=run_loadCells_list (P:=P) w ⟨l.cb,l.dh+a.off,none⟩ bI (fun j v e=>by rw [jJ]; simpa using hc j v e)
        rwa [hn] at this
    · simp at h1
theorem Kw {o:bD} {cs:List Value} {e:Nat} {own:Bool} {aW f lo hi:Nat} (ho:o = .row cs e own (some (aW,f))) (h:oV (some o) lo hi=false) :
    f+cs.length≤lo∨hi≤f:=by
  subst ho
  simp only [oV,meets,Bool.and_eq_false_iff] at h
  rcases h with h | h
  · left
    have : ¬ lo < f+cs.length:=fun aL=>by rw [show Nat.blt _ _=true from by rw [Nat.blt_eq]; exact aL] at h; simp at h
    omega
  · right
    have : ¬ f < hi:=fun aL=>by rw [show Nat.blt _ _=true from by rw [Nat.blt_eq]; exact aL] at h; simp at h
    omega
theorem UR {ρ:ao} {A:St} {base:Nat} {w:World} {b off bm:Nat} {cs bI vs bP:List Value} {bo:Option (Nat×Nat)} {l:Loc}
    (hs:jC ρ A base w) (hg:A.get b=some (.row cs bm true bo)) (hw:eS off cs vs=some bI) (hv:cO ρ vs bP) (h1:∀ v ∈ vs,scalar v=true) (gL:ρ b=some l) :
    da base ρ A w ρ ((A.put b (.row bI bm true bo)).dn b bo off (off+vs.length)) (w.setCells l.cb (l.dh+off) bP):=by
  obtain ⟨l',ka,ok⟩:=hs.rel.row _ _ _ _ _ hg
  rw [gL] at ka; simp at ka; subst ka
  obtain ⟨hlen,ni,gp⟩:=gK hw
  have EK:bP.length=vs.length:=hv.length
  have hB:∀ x,((A.put b (.row bI bm true bo)).dn b bo off (off+vs.length)).get x =
      if x=b then some (.row bI bm true bo) else
        (match bo with
        | none=>A.get x
        | some (aW,f)=>if x ∈ A.members aW∧oV (A.get x) (f+off) (f+(off+vs.length))=true then some .dead else A.get x):=by
    intro x
    cases bo with
    | none=>simp [St.dn]
    | some p=>
      obtain ⟨aW,f⟩:=p
      simp only [St.dn,wA,St.pZ,St.bO]
      by_cases hx:x=b
      · simp [hx]
      · simp [hx]
  have kS:((A.put b (.row bI bm true bo)).dn b bo off (off+vs.length)).members=A.members:=by
    cases bo <;> simp [St.dn]
  have fO:((A.put b (.row bI bm true bo)).dn b bo off (off+vs.length)).next=A.next:=by
    cases bo <;> simp [St.dn]
  have Kx:((A.put b (.row bI bm true bo)).dn b bo off (off+vs.length)).low≤Nat.min A.low b∧
      ∀ x,x≠b→((A.put b (.row bI bm true bo)).dn b bo off (off+vs.length)).get x≠A.get x→((A.put b (.row bI bm true bo)).dn b bo off (off+vs.length)).low≤x:=by
    cases bo with
    | none=>exact ⟨Nat.le_refl _,fun x hx h=>absurd (by simp [St.dn,hx]) h⟩
    | some p=>
      obtain ⟨h2,h3⟩:=B5 b (p.2+off) (p.2+(off+vs.length)) ((A.put b (.row bI bm true (some p))).members p.1) (A.put b (.row bI bm true (some p)))
      exact ⟨h2,fun x hx h=>h3 x (by simpa [St.dn,hx] using h)⟩
  generalize (A.put b (.row bI bm true bo)).dn b bo off (off+vs.length)=B at hB kS fO Kx
  have nP:∀ x o,x≠b→B.get x=some o→o≠.dead→A.get x=some o∧∀ aW f,bo=some (aW,f)→x ∈ A.members aW→oV (some o) (f+off) (f+(off+vs.length))=false:=by
    intro x o hx ho hd
    rw [hB,if_neg hx] at ho
    cases bo with
    | none=>exact ⟨ho,fun _ _ h=>by simp at h⟩
    | some p=>
      obtain ⟨aW,f⟩:=p
      simp only at ho
      split at ho
      · simp at ho; exact absurd ho.symm hd
      · rename_i hc
        refine ⟨ho,fun fam' f' h hm=>?_⟩
        simp at h
        obtain ⟨rfl,rfl⟩:=h
        rw [← ho]
        cases gm:oV (A.get x) (f+off) (f+(off+vs.length)) with
        | false=>rfl
        | true=>exact absurd ⟨hm,gm⟩ hc
  have G8:bD.cG (.row cs bm true bo)=true:=rfl
  have lJ:∀ x:Addr,(x.block=l.cb→x.spot=none→x.off < l.dh+off∨l.dh+off+bP.length≤x.off)→(w.setCells l.cb (l.dh+off) bP).cell? x=w.cell? x:=
    fun x h=>World.cell?_setCells_out _ _ _ _ _ h
  have PX:∀ x,((w.setCells l.cb (l.dh+off) bP).cell? x).isSome=(w.cell? x).isSome:=fun x=>wB _ _ _ _ _
  have wC:∀ x,(w.setCells l.cb (l.dh+off) bP).frozen? x=w.frozen? x:=fun x=>World.frozen?_setCells _ _ _ _ _
  have du:(w.setCells l.cb (l.dh+off) bP).heap.size=w.heap.size:=zr _ _ _ _
  have Fk:∀ x kb e2 Au pq l2,x≠b→B.get x=some (.row kb e2 Au pq)→ρ x=some l2→wz ρ base w l2 kb e2 Au pq→∀ i,i < kb.length→
      (w.setCells l.cb (l.dh+off) bP).cell? ⟨l2.cb,l2.dh+i,none⟩=w.cell? ⟨l2.cb,l2.dh+i,none⟩:=by
    intro x kb e2 Au pq l2 hx fa acX fY i hi
    refine lJ _ (fun PY _=>?_)
    simp only at PY ⊢
    obtain ⟨hA,gm⟩:=nP x _ hx fa (by simp)
    cases Au with
    | false=>have h3:=fY.nA rfl; have h4:=ok.cG rfl; omega
    | true=>
      obtain ⟨aW,f1,f2,e1,e2',e3⟩:=hs.rel.apart x b _ _ l2 l hx hA hg rfl G8 acX gL PY
      simp only [bD.jb] at e1 e2'
      subst e1 e2'
      have hm:=hs.rel.ba x _ aW f1 hA rfl
      have:=Kw rfl (gm aW f2 rfl hm)
      rw [EK]
      omega
  refine ⟨⟨⟨?_,?_,?_,?_,?_,?_⟩,?_,?_,hs.mS⟩,fun _ _=>rfl,⟨(p0 _ _ _ _).1,(p0 _ _ _ _).2.1,(p0 _ _ _ _).2.2,Nat.le_of_eq du.symm,?_⟩,?_,?_,?_,?_⟩
  · intro x kb e2 Au pq fa
    by_cases hx:x=b
    · subst hx
      rw [hB,if_pos rfl] at fa
      simp at fa
      obtain ⟨rfl,rfl,rfl,rfl⟩:=fa
      refine ⟨l,gL,⟨fun i v hi=>?_,ok.nA,ok.cG,fun h j hj=>?_,by rw [hlen]; exact ok.fits,fun h h'=>by rw [hlen]; exact ok.ends h h',ok.bm,by rw [du]; exact ok.j7,fun h1 h2 j=>by rw [wC]; exact ok.mark h1 h2 j⟩⟩
      · rw [gp] at hi
        split at hi
        · rename_i hc
          obtain ⟨v',zt,Jm⟩:=hv.get hi
          refine ⟨v',?_,Jm,h1 v (List.mem_of_getElem? hi)⟩
          have aL:i - off < bP.length:=by rw [EK]; omega
          have:=World.cell?_setCells_in l.cb bP (l.dh+off) w (fun j hj=>by
            have bR:vs≠[]:=by intro e; subst e; simp at EK; rw [EK] at hj; simp at hj
            have h5:=ni bR
            have h6:=ok.fits
            exact (ok.there rfl (l.dh+off+j) (by rw [EK] at hj; omega)).1) (i - off) aL
          rw [show l.dh+off+(i - off)=l.dh+i by omega] at this
          rw [this]
          rw [← zt,List.getElem?_eq_getElem aL]
        · rename_i hc
          obtain ⟨v',zt,Jm,hv3⟩:=ok.cells i v hi
          refine ⟨v',?_,Jm,hv3⟩
          rw [lJ]
          · exact zt
          · intro _ _
            simp only
            rw [EK]
            omega
      · rw [PX,wC]; exact ok.there h j hj
    · obtain ⟨hA,_⟩:=nP x _ hx fa (by simp)
      obtain ⟨l2,kK,fY⟩:=hs.rel.row _ _ _ _ _ hA
      refine ⟨l2,kK,⟨fun i v hi=>?_,fY.nA,fY.cG,fun h j hj=>?_,fY.fits,fY.ends,fY.bm,by rw [du]; exact fY.j7,fun h1 h2 j=>by rw [wC]; exact fY.mark h1 h2 j⟩⟩
      · rw [Fk x _ _ _ _ l2 hx fa kK fY i (List.getElem?_eq_some_iff.1 hi).1]; exact fY.cells i v hi
      · rw [PX,wC]; exact fY.there h j hj
  · intro x es fa
    have hx:x≠b:=by intro e; subst e; rw [hB,if_pos rfl] at fa; simp at fa
    obtain ⟨hA,_⟩:=nP x _ hx fa (by simp)
    obtain ⟨l2,kK,fY⟩:=hs.rel.map _ _ hA
    refine ⟨l2,kK,⟨fY.cG,?_⟩⟩
    obtain ⟨a7,clock,h3,h4⟩:=fY.j7
    refine ⟨a7,clock,?_,h4⟩
    rw [kQ]
    · exact h3
    · intro e
      obtain ⟨_,_,_,e1,_⟩:=hs.rel.apart x b _ _ l2 l hx hA hg rfl G8 kK gL e
      simp [bD.jb] at e1
  · intro x s pos fa
    have hx:x≠b:=by intro e; subst e; rw [hB,if_pos rfl] at fa; simp at fa
    obtain ⟨hA,_⟩:=nP x _ hx fa (by simp)
    obtain ⟨l2,kK,fY⟩:=hs.rel.iter _ _ _ hA
    refine ⟨l2,kK,⟨fY.cG,fY.j7.1,?_⟩⟩
    rw [kQ]
    · exact fY.j7.2
    · intro e
      obtain ⟨_,_,_,e1,_⟩:=hs.rel.apart x b _ _ l2 l hx hA hg rfl G8 kK gL e
      simp [bD.jb] at e1
  · intro x st e t ps a c fa
    have hx:x≠b:=by intro e; subst e; rw [hB,if_pos rfl] at fa; simp at fa
    obtain ⟨hA,_⟩:=nP x _ hx fa (by simp)
    obtain ⟨l2,kK,fY⟩:=hs.rel.loop _ _ _ _ _ _ _ hA
    refine ⟨l2,kK,⟨fY.cG,?_⟩⟩
    obtain ⟨fn,tmps,D,N,h3,h4⟩:=fY.j7
    refine ⟨fn,tmps,D,N,?_,h4⟩
    rw [kQ]
    · exact h3
    · intro e
      obtain ⟨_,_,_,e1,_⟩:=hs.rel.apart x b _ _ l2 l hx hA hg rfl G8 kK gL e
      simp [bD.jb] at e1
  ·
    have Fl:∀ x o,B.get x=some o→o.cG=true→∃ o',A.get x=some o'∧o'.cG=true∧o'.jb=o.jb:=by
      intro x o hx hm
      by_cases Ky:x=b
      · subst Ky
        rw [hB,if_pos rfl] at hx
        simp at hx
        subst hx
        exact ⟨_,hg,rfl,rfl⟩
      · exact ⟨o,(nP x o Ky hx (by intro e; subst e; simp [bD.cG] at hm)).1,hm,rfl⟩
    intro b1 b2 o1 o2 l1 l2 bR h1' B6 m1 m2 r1 r2 xG
    obtain ⟨p1,g1,n1,k1⟩:=Fl _ _ h1' m1
    obtain ⟨p2,g2,n2,k2⟩:=Fl _ _ B6 m2
    rw [← k1,← k2]
    exact hs.rel.apart b1 b2 p1 p2 l1 l2 bR g1 g2 n1 n2 r1 r2 xG
  ·
    intro x o aW f hx hk
    rw [kS]
    by_cases Ky:x=b
    · subst Ky
      rw [hB,if_pos rfl] at hx
      simp at hx
      subst hx
      exact hs.rel.ba x _ aW f hg hk
    · exact hs.rel.ba x o aW f (nP x o Ky hx (by intro e; subst e; simp [bD.jb] at hk)).1 hk
  · intro x l2 hx; rw [fO]; exact hs.gk x l2 hx
  · rw [du]; exact hs.size
  · intro k hk hn
    refine kQ _ (fun e=>hn ⟨b,_,l,hg,rfl,gL,e.symm⟩) _ _ _
  · exact Nat.le_of_eq fO.symm
  · exact Nat.le_trans Kx.1 (Nat.min_le_left _ _)
  · intro x hx Zc
    by_cases Ky:x=b
    · subst Ky
      exact absurd (Nat.le_trans Kx.1 (Nat.min_le_right _ _)) (by omega)
    · cases Classical.em (B.get x=A.get x) with
      | inl h=>exact h
      | inr h=>have:=Kx.2 x Ky h; omega
  · rintro k hk ⟨x,o,l2,hx,hm,hr,rfl⟩
    by_cases Ky:x=b
    · subst Ky
      rw [gL] at hr; simp at hr; subst hr
      exact ⟨x,_,l,hg,rfl,gL,rfl⟩
    · exact ⟨x,o,l2,(nP x o Ky hx (by intro e; subst e; simp [bD.cG] at hm)).1,hm,hr,rfl⟩
theorem xi {P:Program} {ρ:ao} {A B:St} {base:Nat} {w:World} {a:Addr} {vs bP:List Value} {l:Loc} (hs:jC ρ A base w) (hl:A.rU a vs=some B) (gL:ρ a.block=some l) (hv:cO ρ vs bP) :
    ∃ w',(storeCells ⟨l.cb,l.dh+a.off,none⟩ bP).run P w = .ok () w'∧da base ρ A w ρ B w':=by
  simp only [St.rU] at hl
  cases hp:(ck a && vs.all scalar) with
  | false=>simp [hp] at hl
  | true=>
    rw [hp,cond_true] at hl
    simp only [Bool.and_eq_true,List.all_eq_true] at hp
    split at hl
    · rename_i cs bm bo hg
      obtain ⟨bI,hw,rfl⟩:=Option.map_eq_some_iff.1 hl
      have Mw:=UR (w:=w) hs hg hw hv hp.2 gL
      refine ⟨_,?_,Mw⟩
      obtain ⟨l',ka,ok⟩:=hs.rel.row _ _ _ _ _ hg
      rw [gL] at ka; simp at ka; subst ka
      obtain ⟨_,ni,_⟩:=gK hw
      have EK:bP.length=vs.length:=hv.length
      have ov:∀ j,j < bP.length→l.dh+a.off+j < l.vc:=fun j hj=>by
        have bR:vs≠[]:=by intro e; subst e; simp at EK; rw [EK] at hj; simp at hj
        have h5:=ni bR
        have h6:=ok.fits
        rw [EK] at hj
        omega
      have:=run_storeCells_cells (P:=P) l.cb (l.dh+a.off) bP 0 w (fun j hj=>(ok.there rfl _ (ov j hj)).1) (fun j hj=>(ok.there rfl _ (ov j hj)).2) (fun v Jn=>by
        obtain ⟨i,hi⟩:=List.getElem?_of_mem Jn
        have aL:i < vs.length:=by rw [← EK]; exact (List.getElem?_eq_some_iff.1 hi).1
        obtain ⟨u,hu⟩:∃ u,vs[i]? = some u:=⟨vs[i],List.getElem?_eq_getElem aL⟩
        obtain ⟨v2,h7,h8⟩:=hv.get hu
        rw [hi] at h7; simp at h7; subst h7
        exact h8.scalar (hp.2 u (List.mem_of_getElem? hu)))
      exact this
    · simp at hl
def ao.set (ρ:ao) (n:Nat) (l:Loc):ao:=fun b=>if b=n then some l else ρ b
theorem ao.jF (ρ:ao) (n:Nat) (l:Loc):ρ.set n l n=some l:=by simp [ao.set]
theorem ao.ie (ρ:ao) {n b:Nat} (l:Loc) (h:b≠n):ρ.set n l b=ρ b:=by simp [ao.set,h]
theorem jC.yK {ρ:ao} {A:St} {base:Nat} {w:World} (hs:jC ρ A base w) (l:Loc):ρ.le (ρ.set A.next l):=by
  intro b l' e
  have:=hs.gk b l' e
  rw [ao.ie ρ l (by omega)]
  exact e
theorem fw.mono {ρ ak:ao} (h:ρ.le ak):∀ {es:List (Value×Value)} {l:List MapEntry},fw ρ es l→fw ak es l
  | [],_,k=>k
  | (k,v) :: es,l,m=>by
    simp only [fw] at m ⊢
    obtain ⟨e,r,e1,e2,e3,e4⟩:=m
    exact ⟨e,r,e1,e2.mono h,e3.mono h,fw.mono h e4⟩
theorem fw.back {ρ ak:ao} (h:ρ.le ak):∀ {es:List (Value×Value)} {u l:List MapEntry},fw ρ es u→fw ak es l→fw ρ es l
  | [],_,_,_,k=>k
  | (k,v) :: es,u,l,hu,m=>by
    simp only [fw] at hu m ⊢
    obtain ⟨_,_,_,a1,a2,a3⟩:=hu
    obtain ⟨e,r,e1,e2,e3,e4⟩:=m
    exact ⟨e,r,e1,VR.back h a1 e2,VR.back h a2 e3,fw.back h a3 e4⟩
def pr (ρ:ao) (base:Nat) (w:World) (l:Loc):bD→Prop
  | .row cs bm own bo=>wz ρ base w l cs bm own bo
  | .map es=>Jl ρ base w l es
  | .iter s pos=>Ks base w l s pos
  | .dead=>True
  | .loop st e t ps a c=>Ar ρ base w l st e t ps a c
theorem Rel.obj {ρ:ao} {get:Nat→Option bD} {mem:Nat→List Nat} {base:Nat} {w:World} (h:Rel ρ get mem base w) {b:Nat} {o:bD} (hg:get b=some o) (hd:o≠.dead) :
    ∃ l,ρ b=some l∧pr ρ base w l o:=by
  cases o with
  | row cs bm own bo=>exact h.row _ _ _ _ _ hg
  | map es=>exact h.map _ _ hg
  | iter s pos=>exact h.iter _ _ _ hg
  | dead=>exact absurd rfl hd
  | loop st e t ps a c=>exact h.loop _ _ _ _ _ _ _ hg
theorem Rel.rZ {ρ:ao} {get:Nat→Option bD} {mem:Nat→List Nat} {base:Nat} {w:World}
    (obj:∀ b o,get b=some o→o≠.dead→∃ l,ρ b=some l∧pr ρ base w l o)
    (apart:∀ b1 b2 o1 o2 l1 l2,b1≠b2→get b1=some o1→get b2=some o2→o1.cG=true→o2.cG=true→ρ b1=some l1→ρ b2=some l2→l1.cb=l2.cb→
      ∃ aW f1 f2,o1.jb=some (aW,f1)∧o2.jb=some (aW,f2)∧l1.dh+f2=l2.dh+f1)
    (ba:∀ b o aW f,get b=some o→o.jb=some (aW,f)→b ∈ mem aW):Rel ρ get mem base w:=
  ⟨fun b _ _ _ _ hg=>obj b _ hg (by simp),fun b _ hg=>obj b _ hg (by simp),fun b _ _ hg=>obj b _ hg (by simp),fun b _ _ _ _ _ _ hg=>obj b _ hg (by simp),apart,ba⟩
theorem pr.lt {ρ:ao} {base:Nat} {w:World} {l:Loc} {o:bD} (h:pr ρ base w l o) (hd:o≠.dead):l.cb < w.heap.size:=by
  have key:∀ x,w.heap[l.cb]? = some x→l.cb < w.heap.size:=fun x e=>(Array.getElem?_eq_some_iff.1 e).1
  cases o with
  | row cs bm own bo=>exact wz.j7 h
  | map es=>obtain ⟨a7,c,e,_⟩:=Jl.j7 h; exact key _ e
  | iter s pos=>exact key _ (Ks.j7 h).2
  | dead=>exact absurd rfl hd
  | loop st e t ps a c=>obtain ⟨_,_,_,_,q,_⟩:=Ar.j7 h; exact key _ q
theorem pr.gY {ρ ak:ao} {base:Nat} {w w' : World} {l:Loc} {o:bD} (h:pr ρ base w l o) (hle:ρ.le ak) (hb:w'.heap[l.cb]? = w.heap[l.cb]?) (du:w.heap.size≤w'.heap.size):pr ak base w' l o:=by
  have hc:∀ i,w'.cell? ⟨l.cb,i,none⟩=w.cell? ⟨l.cb,i,none⟩:=fun i=>by simp only [World.cell?,hb]
  have hf:∀ i,w'.frozen? ⟨l.cb,i,none⟩=w.frozen? ⟨l.cb,i,none⟩:=fun i=>by simp only [World.frozen?,hb]
  cases o with
  | row cs bm own bo=>
    have ok:wz ρ base w l cs bm own bo:=h
    exact ⟨fun i v hi=>by obtain ⟨v',h1,h2,h3⟩:=ok.cells i v hi; exact ⟨v',by rw [hc]; exact h1,h2.mono hle,h3⟩,ok.nA,ok.cG,
      fun h j hj=>by rw [hc,hf]; exact ok.there h j hj,ok.fits,ok.ends,ok.bm,Nat.lt_of_lt_of_le ok.j7 du,fun h1 h2 j=>by rw [hf]; exact ok.mark h1 h2 j⟩
  | map es=>
    have ok:Jl ρ base w l es:=h
    obtain ⟨a7,c,e,m⟩:=ok.j7
    exact ⟨ok.cG,a7,c,by rw [hb]; exact e,m.mono hle⟩
  | iter s pos=>
    have ok:Ks base w l s pos:=h
    exact ⟨ok.cG,ok.j7.1,by rw [hb]; exact ok.j7.2⟩
  | dead=>trivial
  | loop st e t ps a c=>
    have ok:Ar ρ base w l st e t ps a c:=h
    obtain ⟨fn,tmps,D,N,q,r⟩:=ok.j7
    exact ⟨ok.cG,fn,tmps,D,N,by rw [hb]; exact q,r.mono hle⟩
theorem pr.back {ρ ak:ao} {base:Nat} {w w' : World} {l:Loc} {o:bD} (hle:ρ.le ak) (h:pr ρ base w l o) (k:pr ak base w' l o):pr ρ base w' l o:=by
  cases o with
  | row cs bm own bo=>
    have a:wz ρ base w l cs bm own bo:=h
    have b:wz ak base w' l cs bm own bo:=k
    refine ⟨fun i v hi=>?_,b.nA,b.cG,b.there,b.fits,b.ends,b.bm,b.j7,b.mark⟩
    obtain ⟨u,_,h2,_⟩:=a.cells i v hi
    obtain ⟨v',h3,h4,h5⟩:=b.cells i v hi
    exact ⟨v',h3,VR.back hle h2 h4,h5⟩
  | map es=>
    have a:Jl ρ base w l es:=h
    have b:Jl ak base w' l es:=k
    obtain ⟨u,_,_,m1⟩:=a.j7
    obtain ⟨a7,c,e,m2⟩:=b.j7
    exact ⟨b.cG,a7,c,e,m1.back hle m2⟩
  | iter s pos=>exact k
  | dead=>trivial
  | loop st e t ps c d=>
    have a:Ar ρ base w l st e t ps c d:=h
    have b:Ar ak base w' l st e t ps c d:=k
    obtain ⟨_,_,_,_,_,r1⟩:=a.j7
    obtain ⟨fn,tmps,D,N,q,r⟩:=b.j7
    exact ⟨b.cG,fn,tmps,D,N,q,r.size,fun i=>VR.back hle (r1.val i) (r.val i),r.none,r.Zb⟩
theorem wD {ρ:ao} {A B:St} {base:Nat} {w:World} {o:bD} {obj:Obj} {l:Loc} (hs:jC ρ A base w)
    (hB:∀ x,B.get x=if x=A.next then some o else A.get x) (hm:∀ f x,x ∈ A.members f→x ∈ B.members f) (hk:∀ aW f,o.jb=some (aW,f)→A.next ∈ B.members aW)
    (hn:B.next=A.next+1) (Kx:B.low≤A.low) (yg:∀ x,x < A.next→x < B.low→B.get x=A.get x) (hl:l.cb=w.heap.size) (bc:pr (ρ.set A.next l) base (w.alloc obj) l o) :
    da base ρ A w (ρ.set A.next l) B (w.alloc obj):=by
  have hle:=hs.yK l
  have hold:∀ k,k < w.heap.size→(w.alloc obj).heap[k]? = w.heap[k]?:=fun k hk=>RowKit.Below.heap_alloc _ _ _ hk
  have du:w.heap.size≤(w.alloc obj).heap.size:=by simp
  have aL:∀ b l',ρ b=some l'→b≠A.next:=fun b l' e=>by have:=hs.gk b l' e; omega
  have hgl:∀ b o' l',A.get b=some o'→o'≠.dead→ρ b=some l'→l'.cb < w.heap.size:=fun b o' l' hg hd hr=>by
    obtain ⟨l2,e,ok⟩:=hs.rel.obj hg hd
    rw [hr] at e; simp at e; subst e
    exact ok.lt hd
  refine ⟨⟨.rZ ?_ ?_ ?_,?_,Nat.le_trans hs.size du,hs.mS.mono hle⟩,?_,⟨rfl,rfl,rfl,du,fun k hk _=>hold k hk⟩,by omega,Kx,yg,?_⟩
  · intro b o' hg hd
    rw [hB] at hg
    split at hg
    · rename_i e; subst e; simp at hg; subst hg; exact ⟨l,ao.jF _ _ _,bc⟩
    · rename_i e
      obtain ⟨l',h1,h2⟩:=hs.rel.obj hg hd
      exact ⟨l',hle _ _ h1,h2.gY hle (hold _ (h2.lt hd)) du⟩
  · intro b1 b2 o1 o2 l1 l2 bR g1 g2 m1 m2 r1 r2 xG
    have hd1:o1≠.dead:=by intro e; subst e; simp [bD.cG] at m1
    have hd2:o2≠.dead:=by intro e; subst e; simp [bD.cG] at m2
    rw [hB] at g1 g2
    by_cases e1:b1=A.next
    · have e2:b2≠A.next:=fun e=>bR (e1.trans e.symm)
      rw [if_neg e2] at g2
      rw [e1,ao.jF] at r1
      rw [ao.ie _ _ e2] at r2
      simp at r1; subst r1
      have:=hgl b2 o2 l2 g2 hd2 r2
      omega
    · rw [if_neg e1] at g1
      rw [ao.ie _ _ e1] at r1
      by_cases e2:b2=A.next
      · rw [e2,ao.jF] at r2
        simp at r2; subst r2
        have:=hgl b1 o1 l1 g1 hd1 r1
        omega
      · rw [if_neg e2] at g2
        rw [ao.ie _ _ e2] at r2
        exact hs.rel.apart b1 b2 o1 o2 l1 l2 bR g1 g2 m1 m2 r1 r2 xG
  · intro b o' aW f hg qO
    rw [hB] at hg
    split at hg
    · rename_i e; subst e; simp at hg; subst hg; exact hk aW f qO
    · exact hm aW b (hs.rel.ba b o' aW f hg qO)
  · intro b l' h
    rw [hn]
    by_cases e:b=A.next
    · omega
    · rw [ao.ie _ _ e] at h; have:=hs.gk b l' h; omega
  · intro b hb; exact ao.ie _ _ (by omega)
  · rintro k hk ⟨b,o',l',hg,OG,hr,rfl⟩
    by_cases e:b=A.next
    · subst e
      rw [ao.jF] at hr
      simp at hr; subst hr
      omega
    · rw [hB,if_neg e] at hg
      rw [ao.ie _ _ e] at hr
      exact ⟨b,o',l',hg,OG,hr,rfl⟩
theorem da.drew {base:Nat} {ρ:ao} {A:St} {w:World} (hs:jC ρ A base w):da base ρ A w ρ A w.drew:=
  ⟨⟨.rZ (fun b o hg hd=>by obtain ⟨l,h1,h2⟩:=hs.rel.obj hg hd; exact ⟨l,h1,h2.gY (ao.le_refl _) rfl (Nat.le_refl _)⟩) hs.rel.apart hs.rel.ba,hs.gk,hs.size,hs.mS⟩,
    fun _ _=>rfl,⟨rfl,rfl,rfl,Nat.le_refl _,fun _ _ _=>rfl⟩,Nat.le_refl _,Nat.le_refl _,fun _ _ _=>rfl,fun _ _ h=>h⟩
theorem SK {ρ:ao} {A:St} {base:Nat} {w:World} {cs:List Value} {c:Array Value} {bm:Nat} (T:TypeId) (hs:jC ρ A base w) (hc:cO ρ cs c.toList) (h1:∀ v ∈ cs,scalar v=true) :
    da base ρ A w (ρ.set A.next ⟨w.heap.size,0,cs.length,bm⟩) (A.new (.row cs bm true none)) (w.alloc (.cells c T)):=by
  have hlen:c.size=cs.length:=hc.length
  refine wD (o:=.row cs bm true none) hs (fun x=>by simp) (fun f x h=>by simpa using h) (fun aW f h=>by simp [bD.jb] at h) (by simp) (by simp) (fun x hx _=>by simp; omega) rfl ?_
  refine ⟨fun i v hi=>?_,fun h=>by simp at h,fun _=>hs.size,fun _ j hj=>?_,by simp,fun _ _=>by simp,rfl,by simp,fun _ _ j=>by simp only; rw [World.frozen?_alloc_new]⟩
  · obtain ⟨v',h2,h3⟩:=hc.get hi
    refine ⟨v',?_,h3.mono (hs.yK _),h1 v (List.mem_of_getElem? hi)⟩
    rw [Nat.zero_add,World.cell?_alloc_new]
    simpa using h2
  · simp only at hj ⊢
    rw [World.cell?_alloc_new,World.frozen?_alloc_new]
    refine ⟨?_,rfl⟩
    rw [Array.getElem?_eq_getElem (by omega)]
    rfl
end Go.av
end
section
namespace Go.av
open Go
def p8 (o:bD) (cb:Nat):Loc:=
  match o with
  | .row cs bm _ _=>⟨cb,0,cs.length,bm⟩
  | _=>⟨cb,0,0,0⟩
def wF (ρ:ao) (o:bD) (c:Obj):Prop:=
  match o with
  | .row cs _ true none=>∃ a T,c = .cells a T∧cO ρ cs a.toList∧∀ v ∈ cs,scalar v=true
  | .map []=>c = .map #[] 0
  | .iter s 0=>c = .stringIter ⟨⟨s⟩⟩ 0
  | _=>False
theorem wF.ej {ρ:ao} {A:St} {base:Nat} {w:World} {o:bD} {c:Obj} (hs:jC ρ A base w) (h:wF ρ o c) :
    da base ρ A w (ρ.set A.next (p8 o w.heap.size)) (A.new o) (w.alloc c):=by
  have nX:(w.alloc c).heap[w.heap.size]? = some c:=(MapKept.heap_alloc w c).1
  unfold wF at h
  split at h
  · rename_i cs bm
    obtain ⟨a,T,rfl,h1,h2⟩:=h
    exact SK T hs h1 h2
  · subst h
    refine wD (o:=.map []) hs (fun x=>by simp) (fun f x h=>by simpa using h) (fun aW f h=>by simp [bD.jb] at h) (by simp) (by simp) (fun x hx _=>by simp; omega) rfl ?_
    exact ⟨hs.size,#[],0,nX,rfl⟩
  · rename_i s
    subst h
    refine wD (o:=.iter s 0) hs (fun x=>by simp) (fun f x h=>by simpa using h) (fun aW f h=>by simp [bD.jb] at h) (by simp) (by simp) (fun x hx _=>by simp; omega) rfl ?_
    exact ⟨hs.size,rfl,nX⟩
  · exact h.elim
def qq (ρ:ao) (ev cr:Operand→Value) (xs:List Operand):Prop:=∀ x ∈ xs,VR ρ (ev x) (cr x)
theorem qq.map {ρ:ao} {ev cr:Operand→Value} : ∀ {xs:List Operand},qq ρ ev cr xs→cO ρ (xs.map ev) (xs.map cr)
  | [],_=>.nil
  | x :: xs,h=>.cons (h x (by simp)) (qq.map fun y hy=>h y (by simp [hy]))
theorem qq.left {ρ:ao} {ev cr:Operand→Value} {xs ys:List Operand} (h:qq ρ ev cr (xs ++ ys)):qq ρ ev cr xs:=fun x hx=>h x (by simp [hx])
theorem qq.right {ρ:ao} {ev cr:Operand→Value} {xs ys:List Operand} (h:qq ρ ev cr (xs ++ ys)):qq ρ ev cr ys:=fun x hx=>h x (by simp [hx])
theorem qq.tail {ρ:ao} {ev cr:Operand→Value} {x:Operand} {ys:List Operand} (h:qq ρ ev cr (x :: ys)):qq ρ ev cr ys:=fun y hy=>h y (by simp [hy])
def Zd (v' : Value):Next→Prop
  | .value v=>v=v'
  | .skip=>v' = undef
  | _=>False
def fC (P:Program) (o:Oper):rV→Prop
  | .pure f xs=>∀ (ρ:ao) (ev cr:Operand→Value) (v:Value),qq ρ ev cr xs→f (xs.map ev)=some v→∃ v',VR ρ v v'∧∀ w,(execOp cr o).run P w = .ok (.value v') w
  | .read f xs=>∀ (ρ:ao) (A:St) (base:Nat) (w:World) (ev cr:Operand→Value) (v:Value),Rel ρ A.get A.members base w→qq ρ ev cr xs→f A (xs.map ev)=some v→
      ∃ v',VR ρ v v'∧(execOp cr o).run P w = .ok (.value v') w
  | .make f xs=>∀ (ρ:ao) (ev cr:Operand→Value) (obj:bD) (mk:Nat→Value),qq ρ ev cr xs→f (xs.map ev)=some (obj,mk)→
      ∃ (c:Obj) (mk' : Nat→Value),wF ρ obj c∧(∀ w,(execOp cr o).run P w = .ok (.value (mk' w.heap.size)) (w.alloc c))∧∀ (ak:ao) (n cb:Nat),ak n=some (p8 obj cb)→VR ak (mk n) (mk' cb)
  | .act f xs=>∀ (ρ:ao) (A B:St) (base:Nat) (w:World) (ev cr:Operand→Value) (v:Value),jC ρ A base w→qq ρ ev cr xs→f A (xs.map ev)=some (v,B)→
      ∃ ak v' nx w',(execOp cr o).run P w = .ok nx w'∧Zd v' nx∧VR ak v v'∧da base ρ A w ak B w'
  | .call f args=>(∀ (ρ:ao) (ev cr:Operand→Value) (l:Nat),qq ρ ev cr (f :: args)→ev f = .func (.yield l) ⟨[]⟩ ⟨[]⟩→
      ∃ loc bP,ρ l=some loc∧cO ρ (args.map ev) bP∧∀ w,(execOp cr o).run P w=(Instr.yield loc.cb bP.toArray).run P w)∧
    ∀ (ρ:ao) (ev cr:Operand→Value) (g:FuncId) (vs:List Value),qq ρ ev cr (f :: args)→Nat.blt g yB=true→iQ (args.map ev) (ev f)=some (g,vs)→
      (∃ fn, P.funcs[g]? = some fn ∧ fn.body.isSome = true ∧ (fn.name == "runtime.NumGoroutine") = false) → ∃ bP, cO ρ vs bP ∧ ∀ w, (execOp cr o).run P w = .ok (.enter g bP.toArray) w
  | .bad=>True
section
variable {P:Program} {o:Oper}
theorem one {α:Type} {f:List Value→Option α} {xs:List Value} {r:α} (h:f xs=some r) (h0:f [] = none) (h2:∀ a b l,f (a :: b :: l)=none):∃ x,xs = [x]:=by
  cases xs with
  | nil=>rw [h0] at h; simp at h
  | cons a l=>
    cases l with
    | nil=>exact ⟨a,rfl⟩
    | cons b l=>rw [h2] at h; simp at h
theorem acY {x:Operand} (ho:o.op = .move x):fC P o (.pure C4 [x]):=by
  intro ρ ev cr v he hf
  simp [C4] at hf
  exact ⟨cr x,hf ▸ he x (by simp),fun w=>by simp [execOp,ho]⟩
theorem Ze {x:Operand} (ho:o.op = .assign x):fC P o (.pure C4 [x]):=by
  intro ρ ev cr v he hf
  simp [C4] at hf
  exact ⟨cr x,hf ▸ he x (by simp),fun w=>by simp [execOp,ho]⟩
theorem VR.dC {ρ:ao} {b:Bool} {v:Value} (h:VR ρ (.bool b) v):v = .bool b:=by simpa [VR] using h
theorem VR.cS {ρ:ao} {k:IntKind} {n:Int} {v:Value} (h:VR ρ (.int k n) v):v = .int k n:=by simpa [VR] using h
theorem VR.nj {ρ:ao} {s:ByteArray} {v:Value} (h:VR ρ (.string s) v):v = .string s:=by simpa [VR] using h
theorem VR.kT {ρ:ao} {cs:Array Value} {v:Value} (h:VR ρ (.agg cs) v):∃ bI,v = .agg bI∧cO ρ cs.toList bI.toList:=by
  simp only [VR] at h; obtain ⟨c,h1,rfl⟩:=h; exact ⟨c,rfl,th.1 h1⟩
theorem VR.zu {ρ:ao} {cs:Array Value} {v:Value} (h:VR ρ (.tuple cs) v):∃ bI,v = .tuple bI∧cO ρ cs.toList bI.toList:=by
  simp only [VR] at h; obtain ⟨c,h1,rfl⟩:=h; exact ⟨c,rfl,th.1 h1⟩
theorem VR.wG {ρ:ao} {fn:Fn} {f c:Array Value} {v:Value} (h:VR ρ (.func fn f c) v):∃ f' c' tg,v = .func tg f' c'∧cO ρ f.toList f'.toList∧cO ρ c.toList c'.toList∧Jk ρ fn tg:=by
  simp only [VR] at h; obtain ⟨f',c',h1,h2,tg,h3,rfl⟩:=h; exact ⟨f',c',tg,rfl,th.1 h1,th.1 h2,h3⟩
theorem VR.mG {ρ:ao} {a:Addr} {n c:Nat} {v:Value} (h:VR ρ (.slice (some a) n c) v) :
    a.spot=none∧n≤c∧∃ l a' c',ρ a.block=some l∧c≤c'∧(c'≠0→a' = ⟨l.cb,l.dh+a.off,none⟩)∧l.dh+a.off+c' * l.bm≤l.vc∧v = .slice (some a') n c':=by simpa only [VR] using h
theorem VR.gZ {ρ:ao} {n c:Nat} {v:Value} (h:VR ρ (.slice none n c) v):v = .slice none n c:=by simpa [VR] using h
theorem VR.ny {ρ:ao} {l l' : List Value} (h:cO ρ l l'):VR ρ (.agg ⟨l⟩) (.agg ⟨l'⟩):=by simp only [VR]; exact ⟨⟨l'⟩,th.2 h,rfl⟩
theorem VR.mkTuple {ρ:ao} {l l' : List Value} (h:cO ρ l l'):VR ρ (.tuple ⟨l⟩) (.tuple ⟨l'⟩):=by simp only [VR]; exact ⟨⟨l'⟩,th.2 h,rfl⟩
theorem VR.G9 {ρ:ao} (fn:Fn) (hn:Jk ρ fn fn) {l l' m m' : List Value} (h:cO ρ l l') (k:cO ρ m m'):VR ρ (.func fn ⟨l⟩ ⟨m⟩) (.func fn ⟨l'⟩ ⟨m'⟩):=by simp only [VR]; exact ⟨⟨l'⟩,⟨m'⟩,th.2 h,th.2 k,fn,hn,rfl⟩
theorem VR.tU {ρ:ao} {a:Addr} {l:Loc} (h:a.spot=none) (k:ρ a.block=some l):VR ρ (.pointer (some a)) (.pointer (some ⟨l.cb,l.dh+a.off,none⟩)):=by simp only [VR]; exact ⟨h,l,k,rfl⟩
theorem acZ {c a b:Operand} (ho:o.op = .pick c a b):fC P o (.pure PI [c,a,b]):=by
  intro ρ ev cr v he hf
  simp only [List.map,PI] at hf
  split at hf
  · rename_i t x y e
    simp at e hf
    obtain ⟨e1,rfl,rfl⟩:=e
    have hc:=he c (by simp)
    rw [e1] at hc
    have hc:=hc.dC
    subst hf
    refine ⟨cond t (cr a) (cr b),by cases t <;> simp [he a (by simp),he b (by simp)],fun w=>?_⟩
    cases t <;> simp [execOp,ho,hc,asBool]
  · simp at hf
theorem TG {t:TypeId} {i:TypeInfo} (h:P.info? t=some i) (w:World):(typeInfo t).run P w = .ok i w:=by
  unfold typeInfo; simp [h]
theorem Ha {t:TypeId} {z:Value} (h:pW P t=some z) (w:World):(zeroValue t).run P w = .ok z w:=by
  unfold pW at h
  obtain ⟨i,h1,h2⟩:=Option.bind_eq_some_iff.1 h
  unfold zeroValue; simp [TG h1,h2]
theorem mu {t:TypeId} {n:Nat} (h:size? P t=some n) (w:World):(sizeOf t).run P w = .ok n w:=by
  unfold size? at h
  obtain ⟨i,h1,h2⟩:=Option.map_eq_some_iff.1 h
  unfold sizeOf; simp [TG h1,h2]
theorem bb {t:TypeId} {d:TypeDesc} (h:P.underlying t=some d) (w:World):(underlying t).run P w = .ok d w:=by
  unfold underlying; simp [h]
theorem Av {t:TypeId} {b:Bool} (h:E7 P t=some b) (w:World):(isAgg t).run P w = .ok b w:=by
  unfold E7 at h
  obtain ⟨d,h1,h2⟩:=Option.map_eq_some_iff.1 h
  unfold isAgg
  rw [Sem.run_bind,bb h1,Result.andThen_ok]
  subst h2
  cases d <;> rfl
theorem abE {t:TypeId} (ho:o.op = .alloc t):fC P o (.make (C5 P t) []):=by
  intro ρ ev cr obj mk he hf
  simp only [C5,Option.bind_eq_some_iff] at hf
  obtain ⟨z,hz,hf⟩:=hf
  cases B7:(flat z && z.cells.toList.all scalar) with
  | false=>rw [B7] at hf; simp at hf
  | true=>
    rw [B7,cond_true] at hf
    simp only [Option.some.injEq,Prod.mk.injEq] at hf
    obtain ⟨rfl,rfl⟩:=hf
    obtain ⟨UT,Dj⟩:=Bool.and_eq_true_iff.1 B7
    rw [List.all_eq_true] at Dj
    have hr:VR ρ z z:=VR.of_flat UT
    refine ⟨.cells z.cells t,fun n=>.pointer (some ⟨n,0,none⟩),⟨z.cells,t,rfl,hr.cells (fun r e=>by subst e; simp [flat] at UT),Dj⟩,fun w=>?_,fun ak n cb h=>?_⟩
    · simp [execOp,ho,Instr.alloc,Ha hz,newVar,newRow]
    · exact VR.tU (a:=⟨n,0,none⟩) rfl h
theorem aeY {t:TypeId} {x:Operand} (ho:o.op = .box t x):fC P o (.make (Tu (kF P t)) [x]):=by
  intro ρ ev cr obj mk he hf
  simp only [List.map,Tu] at hf
  cases B7:(ev x).cells.toList.all scalar with
  | false=>rw [B7] at hf; simp at hf
  | true=>
    rw [B7,cond_true] at hf
    simp only [Option.some.injEq,Prod.mk.injEq] at hf
    obtain ⟨rfl,rfl⟩:=hf
    have Dj:=B7
    rw [List.all_eq_true] at Dj
    refine ⟨.cells (cr x).cells t,fun n=>.pointer (some ⟨n,0,none⟩),⟨_,t,rfl,(he x (by simp)).cells (fun r e=>by rw [e] at B7; simp [Value.cells,scalar] at B7),Dj⟩,fun w=>?_,fun ak n cb h=>?_⟩
    · simp [execOp,ho,Instr.box,newVar,newRow]
    · exact VR.tU (a:=⟨n,0,none⟩) rfl h
theorem Bg {ρ:ao} {A:St} {base:Nat} {w:World} {t:TypeId} {x x' v:Value} (hs:Rel ρ A.get A.members base w) (hx:VR ρ x x') (hf:loadAt P t A x=some v) :
    ∃ a,x' = .pointer (some a)∧∃ v',VR ρ v v'∧(loadVar t a).run P w = .ok v' w:=by
  unfold loadAt at hf
  split at hf
  · rename_i a
    obtain ⟨qt,l,hl,rfl⟩:=hx.gG
    refine ⟨_,rfl,?_⟩
    split at hf
    · rename_i tV
      obtain ⟨n,hn,hf⟩:=Option.bind_eq_some_iff.1 hf
      obtain ⟨cs,Dk,rfl⟩:=Option.map_eq_some_iff.1 hf
      obtain ⟨bI,h1,_,_,h3⟩:=rY (P:=P) hs Dk hl
      refine ⟨.agg ⟨bI⟩,VR.ny h1,?_⟩
      unfold loadVar
      simp [Av tV,mu hn,h3]
    · rename_i tV
      obtain ⟨cs,Dk,hf⟩:=Option.bind_eq_some_iff.1 hf
      obtain ⟨bI,h1,hlen,_,h3⟩:=rY (P:=P) hs Dk hl
      cases cs with
      | nil=>simp at hf
      | cons c cs=>
        simp at hf; subst hf
        obtain ⟨y,ys,rfl,h4,h5⟩:=h1.cons_inv
        refine ⟨y,h4,?_⟩
        have hys:ys = []:=by have:=h5.length; simp at hlen; subst hlen; simpa using this
        subst hys
        have h0:(load ⟨l.cb,l.dh+a.off,none⟩).run P w = .ok y w:=by
          simp only [loadCells,loadCellsFrom,jJ,Nat.add_zero,Sem.run_bind,run_load] at h3 ⊢
          cases hc:w.cell? ⟨l.cb,l.dh+a.off,none⟩ with
          | some u=>rw [hc] at h3; simp at h3 ⊢; exact h3
          | none=>
            rw [hc] at h3
            simp only at h3 ⊢
            cases hff:w.farLoad P ⟨l.cb,l.dh+a.off,none⟩ (Mode.plain == Mode.atomic) with
            | ok p=>rw [hff] at h3; simp at h3 ⊢; exact h3
            | error e=>rw [hff] at h3; simp at h3
        unfold loadVar
        simp only [Sem.run_bind,Av tV,Result.andThen_ok]
        exact h0
    · simp at hf
  · simp at hf
theorem ac0 {t:TypeId} {a:Operand} (ho:o.op = .load t a):fC P o (.read (ye P t) [a]):=by
  intro ρ A base w ev cr v hs he hf
  simp only [List.map,ye] at hf
  obtain ⟨ad,h1,v',h2,h3⟩:=Bg hs (he a (by simp)) hf
  refine ⟨v',h2,?_⟩
  simp [execOp,ho,Instr.loadAt,Instr.sureAddr,h1,h3]
theorem PZ {ρ:ao} {A B:St} {base:Nat} {w:World} {t:TypeId} {x x' v v' : Value} (hs:jC ρ A base w) (hx:VR ρ x x') (hv:VR ρ v v') (hf:storeAt P t A x v=some B) :
    ∃ a,x' = .pointer (some a)∧∃ w',(storeVar t a v').run P w = .ok () w'∧da base ρ A w ρ B w':=by
  unfold storeAt at hf
  split at hf
  · rename_i a
    obtain ⟨qt,l,hl,rfl⟩:=hx.gG
    refine ⟨_,rfl,?_⟩
    cases hd:decide (some v.cells.size=size? P t) with
    | false=>rw [hd] at hf; simp at hf
    | true=>
      rw [hd,cond_true] at hf
      have du:=of_decide_eq_true hd
      have Fm:∀ r,v≠.chan r:=fun r e=>by subst e; simp [Value.cells,St.rU,scalar] at hf
      have hvc:=hv.cells Fm
      obtain ⟨w',h1,h2⟩:=xi (P:=P) hs hf hl hvc
      refine ⟨w',?_,h2⟩
      unfold storeVar
      have hlen:v'.cells.size=v.cells.size:=hvc.length
      simp [mu du.symm,hlen,h1]
  · simp at hf
theorem abF {t:TypeId} {a x:Operand} (ho:o.op = .store t a x):fC P o (.act (yJ P t) [a,x]):=by
  intro ρ A B base w ev cr v hs he hf
  simp only [List.map,yJ] at hf
  obtain ⟨B',hB,hf⟩:=Option.map_eq_some_iff.1 hf
  simp at hf
  obtain ⟨rfl,rfl⟩:=hf
  obtain ⟨ad,h1,w',h2,h3⟩:=PZ hs (he a (by simp)) (he x (by simp)) hB
  refine ⟨ρ,undef,.skip,w',?_,rfl,VR.of_flat (by simp [undef,flat,uZ,n6]),h3⟩
  simp [execOp,ho,Instr.storeAt,Instr.sureAddr,h1,h2]
theorem UU {x:Operand} (ho:o.op = .nilCheck x):fC P o (.pure C6 [x]):=by
  intro ρ ev cr v he hf
  simp only [List.map,C6] at hf
  have hx:=he x (by simp)
  split at hf
  · rename_i a e
    simp at e hf
    rw [e] at hx
    obtain ⟨_,l,_,h⟩:=hx.gG
    subst hf
    refine ⟨_,hx,fun w=>?_⟩
    simp [execOp,ho,h]
  · rename_i f first cap e
    simp at e hf
    rw [e] at hx
    obtain ⟨f',c',tg,h,_,_,Mx⟩:=hx.wG
    have Mx:tg = .func f:=Mx
    subst Mx
    subst hf
    refine ⟨_,hx,fun w=>?_⟩
    simp [execOp,ho,h]
  · simp at hf
theorem agl {op:UnOp} {t:TypeId} {x:Operand} (ho:o.op = .unOp op t x):fC P o (.pure (WC P op) [x]):=by
  intro ρ ev cr v he hf
  simp only [List.map,WC] at hf
  have hx:=he x (by simp)
  have ac1:∀ y u:Value,(y = .bool (y matches .bool true)∨∃ k n,y = .int k n)→cF P (Op.unary op y)=some u→flat u=true:=by
    intro y u hy hu
    have h:=fR hu default
    rcases hy with hy | ⟨k,n,rfl⟩
    · rw [hy] at h
      cases op <;> simp [Op.unary] at h
      subst h; rfl
    · cases op <;> simp [Op.unary,Op.intArith,Op.intBits] at h <;> (subst h; rfl)
  split at hf
  · rename_i b e
    simp at e
    rw [e] at hx
    have hx:=hx.dC
    refine ⟨v,VR.of_flat (ac1 _ _ (.inl (by cases b <;> rfl)) hf),fun w=>?_⟩
    simp [execOp,ho,hx,fR hf w]
  · rename_i k n e
    simp at e
    rw [e] at hx
    have hx:=hx.cS
    refine ⟨v,VR.of_flat (ac1 _ _ (.inr ⟨k,n,rfl⟩) hf),fun w=>?_⟩
    simp [execOp,ho,hx,fR hf w]
  · simp at hf
theorem W5 {src dst:TypeId} {x:Operand} (ho:o.op = .convert src dst x):fC P o (.pure (BM P src dst) [x]):=by
  intro ρ ev cr v he hf
  simp only [List.map,BM] at hf
  have hx:=he x (by simp)
  split at hf
  · rename_i k n e
    simp at e
    rw [e] at hx
    have hx:=hx.cS
    split at hf
    · rename_i k' hu
      have h:=fR hf default
      have B7:flat v=true:=by
        unfold convert at h
        rw [Sem.run_bind] at h
        cases hs:(underlying src).run P default with
        | halt x w=>rw [hs] at h; simp at h
        | ok d w=>
          rw [hs,Result.andThen_ok,Sem.run_bind,bb hu,Result.andThen_ok] at h
          have:∀ w,(Conv.intToInt k' n).run P w = .ok v w→flat v=true:=fun w e=>by
            simp [Conv.intToInt] at e; rw [← e]; rfl
          cases d <;> simp only at h <;> first | exact this _ h | (simp [Conv.intToInt] at h; rw [← h.1]; rfl)
      refine ⟨v,VR.of_flat B7,fun w=>?_⟩
      simp [execOp,ho,hx,fR hf w]
    · simp at hf
  · simp at hf
theorem mb (ev:Operand→Value) (xs:Array Operand):(xs.map ev)=⟨xs.toList.map ev⟩:=by cases xs; simp
theorem UW {fn:Fn} {first cap:Array Operand} (ho:o.op = .makeFunc fn first cap):fC P o (cond (zc fn) (.pure (zn fn first.size) (first.toList ++ cap.toList)) .bad):=by
  cases hny:zc fn with
  | false=>trivial
  | true=>
  rw [cond_true]
  intro ρ ev cr v he hf
  simp only [zn] at hf
  obtain ⟨l,h1,rfl⟩:=Option.map_eq_some_iff.1 hf
  obtain ⟨rfl,_⟩:=G7 h1
  rw [pn]
  refine ⟨.func fn (first.map cr) (cap.map cr),?_,fun w=>by simp [execOp,ho,Instr.makeFunc]⟩
  rw [mb,mb]
  have e1:((first.toList ++ cap.toList).map ev).take first.size=first.toList.map ev:=by
    rw [List.map_append,List.take_left' (by simp)]
  have e2:((first.toList ++ cap.toList).map ev).drop first.size=cap.toList.map ev:=by
    rw [List.map_append,List.drop_left' (by simp)]
  rw [e1,e2]
  exact VR.G9 fn (by cases fn <;> first | rfl | simp [zc] at hny) he.left.map he.right.map
theorem Dl {ρ:ao} {a:Addr} {n:Nat} {v:Value} {l:Loc} (hl:ρ a.block=some l) (h:Ja a n=some v):VR ρ v (.pointer (some ⟨l.cb,l.dh+a.off+n,none⟩)):=by
  simp only [Ja] at h
  cases hp:ck a with
  | false=>rw [hp] at h; simp at h
  | true=>
    rw [hp] at h
    simp at h
    subst h
    have:=VR.tU (ρ:=ρ) (a:=⟨a.block,a.off+n,none⟩) (l:=l) rfl hl
    simpa [Nat.add_assoc] using this
theorem H6 {s:TypeId} {f:Nat} {fd:Field} (h:oq P s f=some fd):∃ fields,P.underlying s=some (.struct fields)∧fields[f]? = some fd:=by
  unfold oq at h
  split at h
  · rename_i fields e; exact ⟨fields,e,by simpa using h⟩
  · simp at h
theorem SL {s:TypeId} {x:Operand} {f:Nat} (ho:o.op = .fieldAddr s x f):fC P o (qJ P s x f):=by
  unfold qJ
  split
  · rename_i fd h
    split
    · rename_i n hn
      intro ρ ev cr v he hf
      obtain ⟨fields,hu,hfd⟩:=H6 h
      simp only [List.map,Al] at hf
      have hx:=he x (by simp)
      split at hf
      · rename_i a e
        simp at e
        rw [e] at hx
        obtain ⟨qt,l,hl,h'⟩:=hx.gG
        refine ⟨_,Dl hl hf,fun w=>?_⟩
        have hfp:(fieldPlace ⟨l.cb,l.dh+a.off,none⟩ fd).run P w = .ok ⟨l.cb,l.dh+a.off+fd.offset,none⟩ w:=by
          unfold fieldPlace
          simp [mu hn,jJ]
        simp [execOp,ho,Instr.fieldAt,bb hu,hfd,h',Instr.sureAddr,hfp]
      · simp at hf
    · trivial
  · trivial
theorem H7 {ρ:ao} {t:TypeId} {cs:List Value} {bI:Array Value} {off:Nat} {v:Value} (hc:cO ρ cs bI.toList) (h:partOf P t cs off=some v) :
    ∃ v',VR ρ v v'∧∀ w,(part t bI off).run P w = .ok v' w:=by
  unfold partOf at h
  split at h
  · rename_i tV
    obtain ⟨n,hn,h⟩:=Option.bind_eq_some_iff.1 h
    obtain ⟨l,hl,rfl⟩:=Option.map_eq_some_iff.1 h
    rw [pn] at hl
    obtain ⟨rfl,hlen⟩:=G7 hl
    refine ⟨.agg ⟨(bI.toList.drop off).take n⟩,VR.ny ((hc.drop off).take n),fun w=>?_⟩
    unfold part
    simp only [Sem.run_bind,Av tV,Result.andThen_ok,if_true,mu hn,Sem.run_pure]
    congr 2
    apply Array.ext'
    simp [Array.toList_extract,List.extract_eq_take_drop,show off+n - off=n by omega]
  · rename_i tV
    rw [pn,List.head?_drop] at h
    obtain ⟨v',h1,h2⟩:=hc.get h
    refine ⟨v',h2,fun w=>?_⟩
    unfold part
    have h3:bI[off]? = some v':=by simpa using h1
    simp [Av tV,h3]
  · simp at h
theorem abG {t:TypeId} {x:Operand} {f:Nat} (ho:o.op = .field t x f):fC P o (BQ P t x f):=by
  unfold BQ
  split
  · rename_i fd h
    intro ρ ev cr v he hf
    obtain ⟨fields,hu,hfd⟩:=H6 h
    simp only [List.map,Uy] at hf
    have hx:=he x (by simp)
    split at hf
    · rename_i cs e
      simp at e
      rw [e] at hx
      obtain ⟨bI,h',hc⟩:=hx.kT
      obtain ⟨v',h1,h2⟩:=H7 hc hf
      refine ⟨v',h1,fun w=>?_⟩
      simp [execOp,ho,Instr.field,bb hu,hfd,h',asAgg,h2]
    · simp at hf
  · trivial
theorem ve {i:Int} {len n:Nat} (h:jd i len=some n):i=n∧n < len:=by
  unfold jd at h
  cases i with
  | ofNat m=>
    simp only at h
    cases hb:Nat.blt m len with
    | false=>rw [hb] at h; simp at h
    | true=>
      rw [hb] at h
      simp at h; subst h
      exact ⟨rfl,by rw [Nat.blt_eq] at hb; exact hb⟩
  | negSucc m=>simp at h
theorem SM {t:TypeId} {x ix:Operand} (ho:o.op = .indexAddr t x ix):fC P o (qK P t x ix):=by
  unfold qK
  split
  · rename_i len e hu
    split
    · rename_i n hn
      intro ρ ev cr v he hf
      simp only [List.map,Jb] at hf
      have hx:=he x (by simp)
      have hi:=he ix (by simp)
      split at hf
      · rename_i a k i e'
        simp at e'
        obtain ⟨e1,e2⟩:=e'
        rw [e1] at hx
        rw [e2] at hi
        obtain ⟨qt,l,hl,h'⟩:=hx.gG
        have hi:=hi.cS
        obtain ⟨j,hj,hg⟩:=Option.bind_eq_some_iff.1 hf
        obtain ⟨rfl,aL⟩:=ve hj
        refine ⟨_,Dl hl hg,fun w=>?_⟩
        simp [execOp,ho,Instr.indexAt,bb hu,h',hi,Instr.sureAddr,asIntOf,aL,mu hn,jJ]
      · simp at hf
    · trivial
  · rename_i e hu
    split
    · rename_i n hn
      intro ρ ev cr v he hf
      simp only [List.map,GW] at hf
      have hx:=he x (by simp)
      have hi:=he ix (by simp)
      split at hf
      · rename_i a len c k i e'
        simp at e'
        obtain ⟨e1,e2⟩:=e'
        rw [e1] at hx
        rw [e2] at hi
        obtain ⟨qt,hnc,l,a',c',hl,qu,Fo,ni,h'⟩:=hx.mG
        have hi:=hi.cS
        obtain ⟨j,hj,hg⟩:=Option.bind_eq_some_iff.1 hf
        obtain ⟨rfl,aL⟩:=ve hj
        refine ⟨_,Dl hl hg,fun w=>?_⟩
        have:=Fo (by omega)
        subst this
        simp [execOp,ho,Instr.indexAt,bb hu,h',hi,asIntOf,aL,mu hn,jJ]
      · simp at hf
    · trivial
  · trivial
theorem abH {t:TypeId} {x ix:Operand} (ho:o.op = .index t x ix):fC P o (BR P t x ix):=by
  unfold BR
  split
  · rename_i len e hu
    split
    · rename_i n hn
      intro ρ ev cr v he hf
      simp only [List.map,Jc] at hf
      have hx:=he x (by simp)
      have hi:=he ix (by simp)
      split at hf
      · rename_i cs k i e'
        simp at e'
        obtain ⟨e1,e2⟩:=e'
        rw [e1] at hx
        rw [e2] at hi
        obtain ⟨bI,h',hc⟩:=hx.kT
        have hi:=hi.cS
        obtain ⟨j,hj,hg⟩:=Option.bind_eq_some_iff.1 hf
        obtain ⟨rfl,aL⟩:=ve hj
        obtain ⟨v',h1,h2⟩:=H7 hc hg
        refine ⟨v',h1,fun w=>?_⟩
        simp [execOp,ho,Instr.index,bb hu,h',hi,asIntOf,aL,mu hn,h2]
      · simp at hf
    · trivial
  · rename_i hu
    intro ρ ev cr v he hf
    simp only [List.map,Jd] at hf
    have hx:=he x (by simp)
    have hi:=he ix (by simp)
    split at hf
    · rename_i s k i e'
      simp at e'
      obtain ⟨e1,e2⟩:=e'
      rw [e1] at hx
      rw [e2] at hi
      have hx:=hx.nj
      have hi:=hi.cS
      obtain ⟨j,hj,hg⟩:=Option.bind_eq_some_iff.1 hf
      obtain ⟨rfl,aL⟩:=ve hj
      obtain ⟨b,hb,rfl⟩:=Option.map_eq_some_iff.1 hg
      refine ⟨_,VR.of_flat rfl,fun w=>?_⟩
      have hsb:s[j]? = some b:=by
        rw [← hb]
        simp only [getElem?_def]
        have h1:j < s.data.toList.length:=by simpa using aL
        rw [dif_pos aL,dif_pos h1]
        rfl
      simp [execOp,ho,Instr.index,bb hu,hx,hi,asIntOf,hsb]
    · simp at hf
  · trivial
theorem W6 {x:Operand} {i:Nat} (ho:o.op = .extract x i):fC P o (.pure (BN i) [x]):=by
  intro ρ ev cr v he hf
  simp only [List.map,BN] at hf
  have hx:=he x (by simp)
  split at hf
  · rename_i vs e
    simp at e
    rw [e] at hx
    obtain ⟨bP,h',hc⟩:=hx.zu
    obtain ⟨v',h1,h2⟩:=hc.get hf
    refine ⟨v',h2,fun w=>?_⟩
    have h3:bP[i]? = some v':=by simpa using h1
    simp [execOp,ho,Instr.extract,h',h3]
  · simp at hf
theorem od {t:TypeId} {x y:Value} {b:Bool} {w:World} (h:∀ d,(Op.equalIn (d+1) t x y).run P w = .ok b w):(Op.equal t x y).run P w = .ok b w:=h 9999
theorem Zf {ρ:ao} {t:TypeId} {x y x' y' : Value} {b:Bool} (hx:VR ρ x x') (hy:VR ρ y y') (h:PH P t x y=some b):∀ w,(Op.equal t x' y').run P w = .ok b w:=by
  have agm:cond (flat x && flat y) (cF P (Op.equal t x y)) none=some b→∀ w,(Op.equal t x' y').run P w = .ok b w:=by
    intro h w
    cases hf:(flat x && flat y) with
    | false=>rw [hf] at h; simp at h
    | true=>
      rw [hf,cond_true] at h
      simp only [Bool.and_eq_true] at hf
      rw [hx.kO hf.1,hy.kO hf.2]
      exact fR h w
  intro w
  unfold PH at h
  split at h
  · rename_i e c hu
    have hx:x' = .pointer none:=by simpa [VR] using hx
    cases c with
    | none=>
      have hy:y' = .pointer none:=by simpa [VR] using hy
      subst hx hy; simp at h; subst h
      exact od fun d=>by simp [Op.equalIn,bb hu]
    | some a=>
      obtain ⟨_,l,_,hy⟩:=hy.gG
      subst hx hy; simp at h; subst h
      exact od fun d=>by simp [Op.equalIn,bb hu]
  · rename_i e a hu
    obtain ⟨_,l,_,hx⟩:=hx.gG
    have hy:y' = .pointer none:=by simpa [VR] using hy
    subst hx hy; simp at h; subst h
    exact od fun d=>by simp [Op.equalIn,bb hu]
  · rename_i e n c a n' c' hu
    have hx:=hx.gZ
    cases a with
    | none=>
      have hy:=hy.gZ
      subst hx hy; simp at h; subst h
      exact od fun d=>by simp [Op.equalIn,bb hu]
    | some a=>
      obtain ⟨_,_,l,a',c2,_,_,_,_,hy⟩:=hy.mG
      subst hx hy; simp at h; subst h
      exact od fun d=>by simp [Op.equalIn,bb hu]
  · rename_i e a n c n' c' hu
    obtain ⟨_,_,l,a',c2,_,_,_,_,hx⟩:=hx.mG
    have hy:=hy.gZ
    subst hx hy; simp at h; subst h
    exact od fun d=>by simp [Op.equalIn,bb hu]
  · rename_i k e a hu
    have hx:x' = .map none:=by simpa [VR] using hx
    cases a with
    | none=>
      have hy:y' = .map none:=by simpa [VR] using hy
      subst hx hy; simp at h; subst h
      exact od fun d=>by simp [Op.equalIn,bb hu]
    | some a=>
      have hy:∃ l,ρ a=some l∧y' = .map (some l.cb):=by simpa only [VR] using hy
      obtain ⟨l,_,hy⟩:=hy
      subst hx hy; simp at h; subst h
      exact od fun d=>by simp [Op.equalIn,bb hu]
  · rename_i k e a hu
    have hx:∃ l,ρ a=some l∧x' = .map (some l.cb):=by simpa only [VR] using hx
    obtain ⟨l,_,hx⟩:=hx
    have hy:y' = .map none:=by simpa [VR] using hy
    subst hx hy; simp at h; subst h
    exact od fun d=>by simp [Op.equalIn,bb hu]
  · rename_i hu
    have hx:x' = .nilFunc:=by simpa [VR] using hx
    have hy:y' = .nilFunc:=by simpa [VR] using hy
    subst hx hy; simp at h; subst h
    exact od fun d=>by simp [Op.equalIn,bb hu]
  · rename_i hu
    have hx:x' = .nilFunc:=by simpa [VR] using hx
    obtain ⟨f',c',_,hy,_,_,_⟩:=hy.wG
    subst hx hy; simp at h; subst h
    exact od fun d=>by simp [Op.equalIn,bb hu]
  · rename_i hu
    obtain ⟨f',c',_,hx,_,_,_⟩:=hx.wG
    have hy:y' = .nilFunc:=by simpa [VR] using hy
    subst hx hy; simp at h; subst h
    exact od fun d=>by simp [Op.equalIn,bb hu]
  · exact agm h w
theorem abI {op:BinOp} {t:TypeId} {j k:IntKind} {a b:Int} {v:Value} (h:cF P (binOp op t (.int j a) (.int k b))=some v):flat v=true:=by
  have h:=fR h default
  cases op <;> simp only [binOp,Op.shift] at h <;> (repeat' split at h) <;>
    first
    | (simp [Op.intArith,Op.intBits,Op.intCmp] at h; subst h; rfl)
    | (simp only [Op.intDiv] at h; split at h <;> first | (simp at h; subst h; rfl) | (simp [runtimePanic,program,Sem.run] at h))
    | (simp at h; subst h; rfl)
    | (simp [runtimePanic,program,Sem.run] at h)
    | (simp at h)
theorem UX {op:BinOp} {t:TypeId} {a b:ByteArray} {v:Value} (h:cF P (binOp op t (.string a) (.string b))=some v):flat v=true:=by
  have h:=fR h default
  cases op <;> simp only [binOp,Op.stringOp] at h <;> (repeat' split at h) <;>
    first
    | (simp at h; subst h; rfl)
    | (simp at h)
theorem Zg (op:BinOp) (t:TypeId) (x y:Operand) (j k:IntKind) (a b:Int) (w:World):(eqGuard op t x y (.int j a) (.int k b)).run P w = .ok () w:=by
  unfold eqGuard
  cases op <;> simp
theorem SN (op:BinOp) (t:TypeId) (x y:Operand) (a b:ByteArray) (w:World):(eqGuard op t x y (.string a) (.string b)).run P w = .ok () w:=by
  unfold eqGuard
  cases op <;> simp
end
end Go.av
end
section
namespace Go.av
open Go
section
variable {P:Program} {o:Oper}
theorem Bh {ρ:ao} {a a' : Value} (he:jc a=true) (h:VR ρ a a') :
    (a' = .nilIface→a = .nilIface)∧(∀ cs,a' = .agg cs→∃ bI,a = .agg bI)∧(∀ k n,a'≠.int k n)∧(∀ k n,a'≠.float k n)∧(∀ k n m,a'≠.complex k n m)∧(∀ s,a'≠.string s):=by
  cases a with
  | int k n=>simp [jc] at he
  | float k n=>simp [jc] at he
  | complex k n m=>simp [jc] at he
  | string s=>simp [jc] at he
  | chan r=>simp [jc] at he
  | tuple cs=>simp [jc] at he
  | bool b=>have:=h.dC; subst this; simp
  | pointer p=>
    cases p with
    | none=>have:a' = .pointer none:=by simpa [VR] using h
            subst this; simp
    | some p=>obtain ⟨_,_,_,rfl⟩:=h.gG; simp
  | slice p n c=>
    cases p with
    | none=>have:=h.gZ; subst this; simp
    | some p=>obtain ⟨_,_,_,_,_,_,_,_,_,rfl⟩:=h.mG; simp
  | map r=>
    cases r with
    | none=>have:a' = .map none:=by simpa [VR] using h
            subst this; simp
    | some r=>
      have:∃ l,ρ r=some l∧a' = .map (some l.cb):=by simpa only [VR] using h
      obtain ⟨_,_,rfl⟩:=this; simp
  | func fn f c=>obtain ⟨_,_,_,rfl,_,_⟩:=h.wG; simp
  | nilFunc=>have:a' = .nilFunc:=by simpa [VR] using h
             subst this; simp
  | iface t x=>
    have:∃ x',VR ρ x x'∧a' = .iface t x':=by simpa only [VR] using h
    obtain ⟨_,_,rfl⟩:=this; simp
  | nilIface=>simp
              have:a' = .nilIface:=by simpa [VR] using h
              subst this; simp
  | agg cs=>obtain ⟨_,rfl,_⟩:=h.kT; simp
theorem UY {ρ:ao} {op:BinOp} {t:TypeId} {x y:Operand} {a b a' b' : Value} (ea:jc a=true) (eb:jc b=true) (ha:VR ρ a a') (hb:VR ρ b b')
    (h:tF P t (isConst x || isConst y) a b=true) (w:World):(eqGuard op t x y a' b').run P w = .ok () w:=by
  obtain ⟨ha1,P0,_⟩:=Bh ea ha
  obtain ⟨yh,rC,_⟩:=Bh eb hb
  unfold eqGuard
  cases UE:(!(op matches .eql | .neq)) with
  | true=>simp
  | false=>
    simp only [Bool.false_eq_true,if_false]
    cases a' with
    | nilIface=>
      cases b' with
      | nilIface=>
        have e1:=ha1 rfl
        have e2:=yh rfl
        rw [e1,e2] at h
        have hc:(isConst x || isConst y)=true:=h
        cases x with
        | const v=>rfl
        | _=>
          cases y with
          | const v=>rfl
          | _=>simp [isConst] at hc
      | _=>rfl
    | agg cs=>
      cases b' with
      | agg ds=>
        obtain ⟨c1,rfl⟩:=P0 _ rfl
        obtain ⟨c2,rfl⟩:=rC _ rfl
        have hg:P.eqGuardType P.depth t=false:=by simpa [tF] using h
        simp [hg]
      | _=>rfl
    | _=>rfl
theorem binOp_eql {ρ:ao} {t:TypeId} {a a' b' : Value} (ea:jc a=true) (ha:VR ρ a a'):binOp .eql t a' b' = (do pure (.bool (← Op.equal t a' b')))∧binOp .neq t a' b' = (do pure (.bool (!(← Op.equal t a' b')))):=by
  obtain ⟨_,_,h1,h2,h3,h4⟩:=Bh ea ha
  cases a' with
  | int k n=>exact absurd rfl (h1 k n)
  | float k n=>exact absurd rfl (h2 k n)
  | complex k n m=>exact absurd rfl (h3 k n m)
  | string s=>exact absurd rfl (h4 s)
  | _=>constructor <;> rfl
theorem aeZ {op:BinOp} {t yt:TypeId} {x y:Operand} (ho:o.op = .binOp op t x y yt):fC P o (.pure (o4 P op t (isConst x || isConst y)) [x,y]):=by
  intro ρ ev cr v he hf
  have hx:=he x (by simp)
  have hy:=he y (by simp)
  have full:∀ b,oo P t (isConst x || isConst y) (ev x) (ev y)=some b→∀ w,(eqGuard op t x y (cr x) (cr y)).run P w = .ok () w∧(Op.equal t (cr x) (cr y)).run P w = .ok b w∧jc (ev x)=true:=by
    intro b hb w
    unfold oo at hb
    cases hc:(jc (ev x) && jc (ev y) && tF P t (isConst x || isConst y) (ev x) (ev y)) with
    | false=>rw [hc] at hb; simp at hb
    | true=>
      rw [hc,cond_true] at hb
      simp only [Bool.and_eq_true] at hc
      exact ⟨UY hc.1.1 hc.1.2 hx hy hc.2 w,Zf hx hy hb w,hc.1.1⟩
  simp only [List.map,o4] at hf
  split at hf
  · rename_i j a k b e
    simp at e
    rw [e.1] at hx
    rw [e.2] at hy
    refine ⟨v,VR.of_flat (abI hf),fun w=>?_⟩
    simp [execOp,ho,hx.cS,hy.cS,Zg,fR hf w]
  · rename_i a b e
    simp at e
    rw [e.1] at hx
    rw [e.2] at hy
    refine ⟨v,VR.of_flat (UX hf),fun w=>?_⟩
    simp [execOp,ho,hx.nj,hy.nj,SN,fR hf w]
  · rename_i a b _ _ e
    simp at e
    obtain ⟨rfl,rfl⟩:=e
    split at hf
    · obtain ⟨c,hc,rfl⟩:=Option.map_eq_some_iff.1 hf
      refine ⟨.bool c,VR.of_flat rfl,fun w=>?_⟩
      obtain ⟨h1,h2,h3⟩:=full c hc w
      simp [execOp,ho,h1,(binOp_eql (t:=t) (b':=cr y) h3 hx).1,h2]
    · obtain ⟨c,hc,rfl⟩:=Option.map_eq_some_iff.1 hf
      refine ⟨.bool (!c),VR.of_flat rfl,fun w=>?_⟩
      obtain ⟨h1,h2,h3⟩:=full c hc w
      simp [execOp,ho,h1,(binOp_eql (t:=t) (b':=cr y) h3 hx).2,h2]
    · simp at hf
  · simp at hf
theorem Fp:∀ (n:Nat) (l:List Value),eS n l [] = some l
  | 0,l=>tS l
  | n+1,[]=>I9 n
  | n+1,x :: l=>by simp [nw,Fp n l]
theorem NJ (off:Nat):∀ (l:List Value) (k:Nat) (cs:Array Value),off+k+l.length≤cs.size→
    ∃ r,eS (off+k) cs.toList l=some r∧((l.zipIdx k).foldl (fun cs (p:Value×Nat)=>cs.setIfInBounds (off+p.2) p.1) cs).toList=r
  | [],k,cs,_=>⟨cs.toList,Fp _ _,rfl⟩
  | v :: l,k,cs,h=>by
    obtain ⟨r,h1,h2⟩:=NJ off l (k+1) (cs.setIfInBounds (off+k) v) (by simp at h ⊢; omega)
    refine ⟨r,?_,by simpa using h2⟩
    have aL:off+k < cs.size:=by simp at h; omega
    have key:∀ (n:Nat) (l0 l1:List Value) (v:Value),n < l0.length→eS (n+1) (l0.set n v) l1=eS n l0 (v :: l1):=by
      intro n
      induction n with
      | zero=>intro l0 l1 v hn; cases l0 with
        | nil=>simp at hn
        | cons x xs=>simp [nw,rv]
      | succ n ih=>intro l0 l1 v hn; cases l0 with
        | nil=>simp at hn
        | cons x xs=>simp only [List.set_cons_succ]; rw [nw,nw]; rw [ih xs l1 v (by simpa using hn)]
    rw [← key (off+k) cs.toList l v (by simpa using aL)]
    rw [Array.toList_setIfInBounds] at h1
    exact h1
theorem Fq {ρ:ao} {place:Nat→Option (Nat×Nat)} : ∀ {is:List Nat} {vs bP:List Value} {cells:List Value} {tI:Array Value} {r:List Value},cO ρ vs bP→cO ρ cells tI.toList→(∀ v ∈ vs,∀ c,v≠.chan c)→
    u3 place cells (zipIdx is vs)=some r→is.length=vs.length→∃ r',Instr.fill place tI (is.zip bP)=some r'∧cO ρ r r'.toList
  | [],vs,bP,cells,tI,r,hv,hc,_,h,hl=>by
    have:vs = []:=by cases vs <;> simp_all
    subst this
    simp [zipIdx,u3] at h
    subst h
    exact ⟨tI,rfl,hc⟩
  | i :: is,[],bP,cells,tI,r,hv,hc,_,h,hl=>by simp at hl
  | i :: is,v :: vs,bP,cells,tI,r,hv,hc,hn,h,hl=>by
    obtain ⟨y,ys,rfl,hvy,hvs⟩:=hv.cons_inv
    simp only [zipIdx,u3] at h
    cases hp:place i with
    | none=>rw [hp] at h; simp at h
    | some p=>
      obtain ⟨off,size⟩:=p
      rw [hp] at h
      simp only at h
      cases hb:(Nat.beq v.cells.size size && Nat.ble 1 size) with
      | false=>rw [hb] at h; simp at h
      | true=>
        rw [hb,cond_true] at h
        obtain ⟨cs,h1,h2⟩:=Option.bind_eq_some_iff.1 h
        obtain ⟨yh,rC⟩:=Bool.and_eq_true_iff.1 hb
        have du:v.cells.size=size:=Nat.eq_of_beq_eq_true yh
        have B8:1≤size:=Nat.le_of_ble_eq_true rC
        have hvc:=hvy.cells (hn v (by simp))
        obtain ⟨bI,h3,h4⟩:=cO.write h1 hc hvc
        have hys:y.cells.size=size:=by have:=hvc.length; simp at this; omega
        obtain ⟨_,ni,_⟩:=gK h3
        have hle:=ni (by intro e; have:y.cells.size=0:=by rw [← Array.length_toList,e]; rfl
                         omega)
        simp at hle
        obtain ⟨q,h5,h6⟩:=NJ off y.cells.toList 0 tI (by simpa using hle)
        rw [Nat.add_zero] at h5
        rw [h3] at h5
        simp at h5
        subst h5
        obtain ⟨r',h7,h8⟩:=Fq (tI:=((y.cells.toList.zipIdx 0).foldl (fun cs (p:Value×Nat)=>cs.setIfInBounds (off+p.2) p.1) tI)) (is:=is) hvs (by rw [h6]; exact h4) (fun v hv=>hn v (by simp [hv])) h2 (by simpa using hl)
        refine ⟨r',?_,h8⟩
        simp only [List.zip_cons_cons,Instr.fill,hp,hys]
        rw [if_neg (by simp; omega)]
        have e:y.cells.zipIdx.foldl (fun cs (x:Value×Nat)=>cs.setIfInBounds (off+x.2) x.1) tI=((y.cells.toList.zipIdx 0).foldl (fun cs (p:Value×Nat)=>cs.setIfInBounds (off+p.2) p.1) tI):=by
          rw [← Array.foldl_toList,Array.toList_zipIdx]
        rw [← e] at h7
        exact h7
theorem parts_eq (parts:Array (Nat×Operand)) (ev:Operand→Value):(parts.map fun (i,x)=>(i,ev x)).toList=(parts.toList.map (·.1)).zip ((parts.toList.map (·.2)).map ev):=by
  rw [Array.toList_map]
  induction parts.toList with
  | nil=>rfl
  | cons p l ih=>obtain ⟨i,x⟩:=p; simpa using ih
theorem Qa {vs:List Value} (h:vs.all known=true):∀ v ∈ vs,∀ c,v≠.chan c:=by
  intro v hv c e
  rw [List.all_eq_true] at h
  have:=h v hv
  subst e
  simp [known] at this
theorem Qb {t:TypeId} {z:Value} (h:pW P t=some z):∃ i,P.info? t=some i∧i.zero=some z:=by
  unfold pW at h
  exact Option.bind_eq_some_iff.1 h
theorem Zh {t:TypeId} {n:Nat} (h:size? P t=some n):∃ i,P.info? t=some i∧i.size=n:=by
  unfold size? at h
  exact Option.map_eq_some_iff.1 h
theorem Aw {ρ:ao} {z:Value} (h:flat z=true):cO ρ z.cells.toList z.cells.toList:=
  (VR.of_flat h).cells (fun r e=>by subst e; simp [flat] at h)
theorem OH {ρ:ao} {place:Nat→Option (Nat×Nat)} {z v:Value} {is:List Nat} {vs bP:List Value} (hv:cO ρ vs bP) (hl:is.length=vs.length) (h:wu place z is vs=some v) :
    ∃ r',Instr.fill place z.cells (is.zip bP)=some r'∧VR ρ v (.agg r'):=by
  unfold wu at h
  cases hc:(flat z && vs.all known) with
  | false=>rw [hc] at h; simp at h
  | true=>
    rw [hc,cond_true] at h
    obtain ⟨h1,h2⟩:=Bool.and_eq_true_iff.1 hc
    obtain ⟨r,h3,rfl⟩:=Option.map_eq_some_iff.1 h
    obtain ⟨r',h4,h5⟩:=Fq hv (Aw h1) (Qa h2) h3 hl
    exact ⟨r',h4,by simp only [ny,VR]; exact ⟨r',th.2 h5,rfl⟩⟩
theorem abJ {t:TypeId} {parts:Array (Nat×Operand)} (ho:o.op = .build t parts):fC P o (BL P t (parts.toList.map (·.1)) (parts.toList.map (·.2))):=by
  have done:∀ (place:Nat→Option (Nat×Nat)) (z:Value),(∀ ps cells,Instr.fill place z.cells ps=some cells→P.built t ps=some cells)→
      fC P o (.pure (wu place z (parts.toList.map (·.1))) (parts.toList.map (·.2))):=by
    intro place z hb ρ ev cr v he hf
    obtain ⟨r',h1,h2⟩:=OH he.map (by simp) hf
    refine ⟨.agg r',h2,fun w=>?_⟩
    have h3:=hb _ _ h1
    have:=run_build (P:=P) w t (parts.map fun (i,x)=>(i,cr x)) r' (by rw [parts_eq]; exact h3)
    simp [execOp,ho,this]
  unfold BL
  split
  · rename_i z fields hz hu
    split
    · rename_i l hl
      obtain ⟨i,hi,hiz⟩:=Qb hz
      refine done _ _ fun ps cells h=>?_
      unfold Program.built
      unfold placesOf at hl
      simp only [hi,hu,hiz,hl]
      have e:(fun x=>l.toArray[x]?)=Kg l:=by funext x; simp [Kg]
      rw [e]
      exact h
    · trivial
  · rename_i z n e hz hu
    split
    · rename_i k hk
      obtain ⟨i,hi,hiz⟩:=Qb hz
      obtain ⟨j,hj,rfl⟩:=Zh hk
      refine done _ _ fun ps cells h=>?_
      unfold Program.built
      simp only [hi,hu,hiz,hj]
      exact h
    · trivial
  · trivial
theorem NK (z:List Value) (hz:1≤z.length):∀ (len i:Nat),(ff z len)[i]? = if i < len * z.length then z[i % z.length]? else none
  | 0,i=>by simp [ff]
  | len+1,i=>by
    simp only [ff,List.getElem?_append]
    split
    · rename_i h
      rw [if_pos (by rw [Nat.succ_mul]; omega),Nat.mod_eq_of_lt h]
    · rename_i h
      rw [NK z hz len (i - z.length)]
      rw [Nat.succ_mul]
      by_cases hc:i - z.length < len * z.length
      · rw [if_pos hc,if_pos (by omega)]
        have:i % z.length=(i - z.length) % z.length:=Nat.mod_eq_sub_mod (by omega)
        rw [this]
      · rw [if_neg hc,if_neg (by omega)]
theorem Jo (z:Array Value) (len:Nat) (hz:1≤z.size):(Array.range (len * z.size)).map (fun i=>z[i % z.size]!)=⟨ff z.toList len⟩:=by
  apply Array.ext'
  apply List.ext_getElem?
  intro i
  rw [NK z.toList (by simpa using hz)]
  simp only [Array.length_toList]
  rw [Array.toList_map,Array.toList_range,List.getElem?_map]
  by_cases h:i < len * z.size
  · rw [if_pos h,List.getElem?_range h]
    have hm:i % z.size < z.size:=Nat.mod_lt _ hz
    simp [hm]
  · rw [if_neg h,List.getElem?_eq_none (by simp; omega)]
    rfl
theorem cO.repeat {ρ:ao} {z z' : List Value} (h:cO ρ z z'):∀ n,cO ρ (ff z n) (ff z' n)
  | 0=>.nil
  | n+1=>h.append (cO.repeat h n)
theorem Qc {t:TypeId} {len:Nat} {parts:Array (Nat×Operand)} (ho:o.op = .buildSlice t len parts):fC P o (rA P t len (parts.toList.map (·.1)) (parts.toList.map (·.2))):=by
  unfold rA
  split
  · rename_i e hu
    split
    · rename_i n z hn hz
      cases hc:(Nat.ble (len * n) 16777216 && Nat.beq z.cells.size n && Nat.ble 1 n && flat z) with
      | false=>exact True.intro
      | true=>
        rw [cond_true]
        simp only [Bool.and_eq_true] at hc
        obtain ⟨⟨⟨h1,h2⟩,h3⟩,h4⟩:=hc
        have hle:len * n≤16777216:=Nat.le_of_ble_eq_true h1
        have UZ:z.cells.size=n:=Nat.eq_of_beq_eq_true h2
        have B8:1≤n:=Nat.le_of_ble_eq_true h3
        intro ρ ev cr obj mk he hf
        unfold rW at hf
        obtain ⟨l,hl,hf⟩:=Option.bind_eq_some_iff.1 hf
        cases hk:(l.all scalar && ((parts.toList.map (·.2)).map ev).all known) with
        | false=>rw [hk] at hf; simp at hf
        | true=>
          rw [hk,cond_true] at hf
          obtain ⟨B9,Qd⟩:=Bool.and_eq_true_iff.1 hk
          simp only [Option.some.injEq,Prod.mk.injEq] at hf
          obtain ⟨rfl,rfl⟩:=hf
          have agV:=cO.repeat (Aw (ρ:=ρ) h4) len
          obtain ⟨r',h5,h6⟩:=Fq (tI:=⟨ff z.cells.toList len⟩) he.map agV (Qa Qd) hl (by simp)
          rw [List.all_eq_true] at B9
          have hlen:l.length=len * n:=by
            have e1:∀ {is:List Nat} {vs cs r:List Value},u3 (uz n) cs (zipIdx is vs)=some r→r.length=cs.length:=by
              intro is
              induction is with
              | nil=>intro vs cs r h; simp [zipIdx,u3] at h; subst h; rfl
              | cons i is ih=>
                intro vs cs r h
                cases vs with
                | nil=>simp [zipIdx,u3] at h; subst h; rfl
                | cons v vs=>
                  simp only [zipIdx,u3,uz] at h
                  cases hb:(Nat.beq v.cells.size n && Nat.ble 1 n) with
                  | false=>rw [hb] at h; simp at h
                  | true=>
                    rw [hb,cond_true] at h
                    obtain ⟨q,hq,h⟩:=Option.bind_eq_some_iff.1 h
                    rw [ih h,(gK hq).1]
            rw [e1 hl]
            have e2:∀ (z:List Value) (k:Nat),(ff z k).length=k * z.length:=by
              intro z k
              induction k with
              | zero=>simp [ff]
              | succ k ih=>simp [ff,ih,Nat.succ_mul,Nat.add_comm]
            rw [e2]
            simp [UZ]
          refine ⟨.cells r' e,fun b=>.slice (some ⟨b,0,none⟩) len len,⟨r',e,rfl,h6,B9⟩,fun w=>?_,fun ak m cb gL=>?_⟩
          · have e1:(Array.range (len * n)).map (fun i=>z.cells[i % z.cells.size]!)=⟨ff z.cells.toList len⟩:=by
              rw [← UZ]; exact Jo z.cells len (by omega)
            have e2:Instr.fill (fun i=>some (i * n,n)) ((Array.range (len * n)).map (fun i=>z.cells[i % z.cells.size]!)) (parts.map fun (i,x)=>(i,cr x)).toList=some r':=by
              rw [e1,parts_eq]; exact h5
            have agW : ¬ (2 ^ 24 < len * n):=by omega
            simp only [execOp,ho,Instr.buildSlice,Sem.run_bind,bb hu,Result.andThen_ok,mu hn,gt_iff_lt]
            rw [if_neg agW]
            by_cases Fs:len * n=0
            · rw [Fs] at e2
              have e5:∀ (f g:Nat→Value),(Array.range 0).map f=(Array.range 0).map g:=by intro f g; simp
              have e6:Instr.fill (fun i=>some (i * n,n)) ((Array.range 0).map (fun i=>z.cells[i % z.cells.size]!)) (Array.map (fun x=>(x.fst,cr x.snd)) parts).toList=some r':=e2
              simp only [Fs,if_true,pure_bind]
              rw [e5 _ (fun i=>z.cells[i % z.cells.size]!)]
              simp only [e6]
              simp [newRow]
            · have e6:Instr.fill (fun i=>some (i * n,n)) ((Array.range (len * n)).map (fun i=>z.cells[i % z.cells.size]!)) (Array.map (fun x=>(x.fst,cr x.snd)) parts).toList=some r':=e2
              simp only [Fs,if_false,bind_pure_comp,Sem.run_bind,Ha hz,Result.andThen_ok,Sem.run_pure]
              simp only [e6]
              simp [newRow]
          · simp only [VR]
            refine ⟨trivial,Nat.le_refl _,_,⟨cb,0,none⟩,len,gL,Nat.le_refl _,fun _=>by simp [p8],?_,rfl⟩
            simp [p8,hlen]
    · trivial
  · trivial
theorem Qe {ρ:ao} {a:Option Addr} {n c:Nat} {y:Value} (h:VR ρ (.slice a n c) y):∃ a' c',y = .slice a' n c':=by
  cases a with
  | none=>exact ⟨_,_,h.gZ⟩
  | some a=>obtain ⟨_,_,_,a',c',_,_,_,_,h⟩:=h.mG; exact ⟨_,_,h⟩
theorem abK {argTypes:Array TypeId} {args:Array Operand} {t e:TypeId} (ho:o.op = .call ⟨.builtin .len,args,argTypes⟩) (tW:argTypes[0]? = some t) (hu:P.underlying t=some (.slice e)):fC P o (.pure Kh args.toList):=by
  intro ρ ev cr v he hf
  have hm:=he.map
  unfold Kh at hf
  split at hf
  · rename_i a n c e1
    rw [e1] at hm
    obtain ⟨y,ys,e2,h1,h2⟩:=hm.cons_inv
    have h2:=h2.bJ
    subst h2
    simp at hf; subst hf
    refine ⟨_,VR.of_flat rfl,fun w=>?_⟩
    obtain ⟨a',c',rfl⟩:=Qe h1
    have e3:(args.map cr)[0]? = some (.slice a' n c'):=by rw [mb,e2]; rfl
    simp [execOp,ho,resolve,invoke,builtin,Builtin.len_,tW,e3,bb hu,goInt]
  · simp at hf
theorem Zi {argTypes:Array TypeId} {args:Array Operand} {t:TypeId} (ho:o.op = .call ⟨.builtin .len,args,argTypes⟩) (tW:argTypes[0]? = some t) (hu:P.underlying t=some .string):fC P o (.pure Ki args.toList):=by
  intro ρ ev cr v he hf
  have hm:=he.map
  unfold Ki at hf
  split at hf
  · rename_i s e1
    rw [e1] at hm
    obtain ⟨y,ys,e2,h1,h2⟩:=hm.cons_inv
    have h2:=h2.bJ
    subst h2
    simp at hf; subst hf
    refine ⟨_,VR.of_flat rfl,fun w=>?_⟩
    have h1:=h1.nj
    subst h1
    have e3:(args.map cr)[0]? = some (.string s):=by rw [mb,e2]; rfl
    simp [execOp,ho,resolve,invoke,builtin,Builtin.len_,tW,e3,bb hu,goInt]
  · simp at hf
theorem Mz {ρ:ao} {vs bP:List Value} {x x' : Value} {g:FuncId} {ah7:List Value} (hx:VR ρ x x') (hv:cO ρ vs bP) (hg:Nat.blt g yB=true) (h:iQ vs x=some (g,ah7)) :
    ∃ first cap ah8,x' = .func (.func g) first cap∧ah8=first.toList ++ bP ++ cap.toList∧cO ρ ah7 ah8:=by
  unfold iQ at h
  split at h
  · rename_i g' first cap
    cases hb:Nat.blt g' yB with
    | false=>rw [hb] at h; simp at h
    | true=>
      rw [hb,cond_true] at h
      simp at h
      obtain ⟨rfl,rfl⟩:=h
      obtain ⟨f',c',tg,rfl,h1,h2,h3⟩:=hx.wG
      have h3:tg = .func g':=h3
      subst h3
      exact ⟨f',c',_,rfl,rfl,by simpa using (h1.append hv).append h2⟩
  · simp at h
    obtain ⟨rfl,_⟩:=h
    rw [Nat.blt_eq] at hg
    exact absurd hg (Nat.not_lt.2 (Nat.le_add_right _ _))
  · simp at h
theorem ac2 {c:Call} {f:Operand} (ho:o.op = .call c) (hf:c.callee = .value f):fC P o (.call f c.args.toList):=by
  refine ⟨fun ρ ev cr l he hy=>?_,?_⟩
  · have hx:=he f (by simp)
    rw [hy] at hx
    obtain ⟨f',c',tg,h1,h2,h3,loc,h4,h5⟩:=hx.wG
    subst h5
    have h2:=h2.bJ
    have h3:=h3.bJ
    have e1:f' = #[]:=by cases f'; simpa using h2
    have e2:c' = #[]:=by cases c'; simpa using h3
    subst e1; subst e2
    refine ⟨loc,_,h4,he.tail.map,fun w=>?_⟩
    have e:c.args.map cr=(c.args.toList.map cr).toArray:=by apply Array.ext'; simp
    simp only [execOp,ho,Sem.run_bind,resolve,hf,Deferred.ofValue,h1,Sem.run_pure,Result.andThen_ok,invoke]
    simp [e]
  intro ρ ev cr g vs he hg Ep Mx
  obtain ⟨first,cap,ah8,h1,h2,h3⟩:=Mz (he f (by simp)) he.tail.map hg Ep
  obtain ⟨fn,h4,h5,h6⟩:=Mx
  refine ⟨ah8,h3,fun w=>?_⟩
  have hb:fn.body.isNone=false:=by simpa using h5
  have e:first ++ c.args.map cr ++ cap=ah8.toArray:=by
    apply Array.ext'
    simp [h2]
  have hh : ¬(fn.name = "runtime.NumGoroutine") := by simpa using h6
  simp only [execOp,ho,Sem.run_bind,resolve,hf,Deferred.ofValue,h1,Sem.run_pure,Result.andThen_ok,invoke,callFunc,run_program,h4]
  simp [hh,hb,← e]
end
end Go.av
end
section
namespace Go.av
open Go
section
variable {P:Program} {o:Oper}
theorem ig {ρ:ao} {y y' : Nat} {v v' : Value} {r:Nat} (hv:VR ρ v v') (h:OD y v=some r) (hy:y≤y') :
    r≤y∧∀ code w,(Instr.sliceBound v' y' code).run P w = .ok r w:=by
  unfold OD at h
  split at h
  · rename_i k i
    obtain ⟨rfl,aL⟩:=ve h
    have:=hv.cS
    subst this
    have hle:r≤y:=by omega
    refine ⟨hle,fun code w=>?_⟩
    have:=run_sliceBound (P:=P) w k (r:Int) y' code (by omega) (by omega)
    simpa using this
  · simp at h
theorem Ax {ρ:ao} {ev cr:Operand→Value} {lo hi mx:Option Operand} {len cap Qf l h m:Nat} (he:qq ρ ev cr (eC lo ++ eC hi ++ eC mx))
    (hb:pR len cap lo.isSome hi.isSome mx.isSome ((eC lo ++ eC hi ++ eC mx).map ev)=some (l,h,m)) (hc:cap≤Qf) (Dm:len≤cap) :
    l≤h∧h≤m∧m≤cap∧m≤(cond mx.isSome m Qf)∧(cond mx.isSome m Qf)≤Qf∧(mx.isSome=false→m=cap)∧∀ b w,(Instr.sliceBounds b len Qf (lo.map cr) (hi.map cr) (mx.map cr)).run P w = .ok (l,h,cond mx.isSome m Qf) w:=by
  cases lo with
  | none=>
    cases hi with
    | none=>
      cases mx with
      | none=>
        simp [eC,pR] at hb
        obtain ⟨rfl,rfl,rfl⟩:=hb
        exact ⟨by omega,Dm,Nat.le_refl _,hc,Nat.le_refl _,fun _=>rfl,fun b w=>by simp [Instr.sliceBounds]⟩
      | some x=>simp [eC,pR] at hb
    | some y=>
      cases mx with
      | none=>
        simp only [eC,Option.isSome,List.nil_append,List.append_nil,List.map,pR,Option.map_eq_some_iff] at hb
        obtain ⟨r,hr,hb⟩:=hb
        simp at hb
        obtain ⟨rfl,rfl,rfl⟩:=hb
        obtain ⟨h1,h2⟩:=ig (P:=P) (he y (by simp [eC])) hr hc
        exact ⟨by omega,h1,Nat.le_refl _,hc,Nat.le_refl _,fun _=>rfl,fun b w=>by simp [Instr.sliceBounds,h2]⟩
      | some z=>
        simp only [eC,Option.isSome,List.nil_append,List.map,List.cons_append,pR,Option.bind_eq_some_iff,Option.map_eq_some_iff] at hb
        obtain ⟨r,hr,q,hq,hb⟩:=hb
        simp at hb
        obtain ⟨rfl,rfl,rfl⟩:=hb
        obtain ⟨h1,h2⟩:=ig (P:=P) (he z (by simp [eC])) hr hc
        obtain ⟨h3,h4⟩:=ig (P:=P) (he y (by simp [eC])) hq (Nat.le_refl _)
        exact ⟨by omega,h3,h1,Nat.le_refl _,by simp; omega,fun h=>by simp at h,fun b w=>by simp [Instr.sliceBounds,h2,h4]⟩
  | some x=>
    cases hi with
    | none=>
      cases mx with
      | none=>
        simp only [eC,Option.isSome,List.append_nil,List.map,pR,Option.map_eq_some_iff] at hb
        obtain ⟨r,hr,hb⟩:=hb
        simp at hb
        obtain ⟨rfl,rfl,rfl⟩:=hb
        obtain ⟨h1,h2⟩:=ig (P:=P) (he x (by simp [eC])) hr (Nat.le_refl _)
        exact ⟨h1,Dm,Nat.le_refl _,hc,Nat.le_refl _,fun _=>rfl,fun b w=>by simp [Instr.sliceBounds,h2]⟩
      | some x=>simp [eC,pR] at hb
    | some y=>
      cases mx with
      | none=>
        simp only [eC,Option.isSome,List.append_nil,List.map,List.cons_append,List.nil_append,pR,Option.bind_eq_some_iff,Option.map_eq_some_iff] at hb
        obtain ⟨r,hr,q,hq,hb⟩:=hb
        simp at hb
        obtain ⟨rfl,rfl,rfl⟩:=hb
        obtain ⟨h1,h2⟩:=ig (P:=P) (he y (by simp [eC])) hr hc
        obtain ⟨h3,h4⟩:=ig (P:=P) (he x (by simp [eC])) hq (Nat.le_refl _)
        exact ⟨h3,h1,Nat.le_refl _,hc,Nat.le_refl _,fun _=>rfl,fun b w=>by simp [Instr.sliceBounds,h2,h4]⟩
      | some z=>
        simp only [eC,Option.isSome,List.map,List.cons_append,List.nil_append,pR,Option.bind_eq_some_iff,Option.map_eq_some_iff] at hb
        obtain ⟨r,hr,q,hq,s,hs,hb⟩:=hb
        simp at hb
        obtain ⟨rfl,rfl,rfl⟩:=hb
        obtain ⟨h1,h2⟩:=ig (P:=P) (he z (by simp [eC])) hr hc
        obtain ⟨h3,h4⟩:=ig (P:=P) (he y (by simp [eC])) hq (Nat.le_refl _)
        obtain ⟨h5,h6⟩:=ig (P:=P) (he x (by simp [eC])) hs (Nat.le_refl _)
        exact ⟨h5,h3,h1,Nat.le_refl _,by simp; omega,fun h=>by simp at h,fun b w=>by simp [Instr.sliceBounds,h2,h4,h6]⟩
theorem Qg {A:St} {b n:Nat} (h:xe A b n=true):∃ cs own bo,A.get b=some (.row cs n own bo):=by
  unfold xe at h
  split at h
  · rename_i cs bm own bo hg
    have:=Nat.eq_of_beq_eq_true h
    subst this
    exact ⟨cs,own,bo,hg⟩
  · simp at h
theorem ok_slice {t:TypeId} {x:Operand} {lo hi mx:Option Operand} (ho:o.op = .slice t x lo hi mx):fC P o (BO P t x lo hi mx):=by
  unfold BO
  split
  · rename_i e hu
    split
    · rename_i n hn
      cases B8:Nat.ble 1 n with
      | false=>exact True.intro
      | true=>
        rw [cond_true]
        have B8:1≤n:=Nat.le_of_ble_eq_true B8
        intro ρ A base w ev cr v hs he hf
        have hx:=he x (by simp)
        have hsl:P.underlying t=some (.slice (P.elem t))→True:=fun _=>trivial
        simp only [List.map,uA] at hf
        split at hf
        · rename_i len cap vs e1
          simp only [List.cons.injEq] at e1
          obtain ⟨e1,e2⟩:=e1
          rw [e1] at hx
          have hx:=hx.gZ
          subst e2
          obtain ⟨⟨l,h,m⟩,hb,rfl⟩:=Option.map_eq_some_iff.1 hf
          by_cases Dm:len≤cap
          · obtain ⟨h1,h2,h3,h4,h5,h6,h7⟩:=Ax (P:=P) he.tail hb (Nat.le_refl _) Dm
            have hm:cond mx.isSome m cap=m:=by cases OI:mx.isSome <;> simp; exact (h6 OI).symm
            refine ⟨.slice none (h - l) (m - l),by simp [VR],?_⟩
            simp [execOp,ho,Instr.sliceAt,Instr.slice,bb hu,hx,h7,hm,mu hn]
          ·
            have key:∀ b w,(Instr.sliceBounds b len cap (lo.map cr) (hi.map cr) (mx.map cr)).run P w = .ok (l,h,m) w:=by
              intro b w
              have ac3:cap≤len:=by omega
              cases lo with
              | none=>
                cases hi with
                | none=>
                  cases mx with
                  | none=>simp [eC,pR] at hb; obtain ⟨rfl,rfl,rfl⟩:=hb; simp [Instr.sliceBounds]
                  | some x=>simp [eC,pR] at hb
                | some y=>
                  cases mx with
                  | none=>
                    simp only [eC,Option.isSome,List.nil_append,List.append_nil,List.map,pR,Option.map_eq_some_iff] at hb
                    obtain ⟨r,hr,hb⟩:=hb
                    simp at hb
                    obtain ⟨rfl,rfl,rfl⟩:=hb
                    have:=(ig (P:=P) (he y (by simp [eC])) hr (Nat.le_refl _)).2
                    simp [Instr.sliceBounds,this]
                  | some z=>
                    simp only [eC,Option.isSome,List.nil_append,List.map,List.cons_append,pR,Option.bind_eq_some_iff,Option.map_eq_some_iff] at hb
                    obtain ⟨r,hr,q,hq,hb⟩:=hb
                    simp at hb
                    obtain ⟨rfl,rfl,rfl⟩:=hb
                    have h2:=(ig (P:=P) (he z (by simp [eC])) hr (Nat.le_refl _)).2
                    have h4:=(ig (P:=P) (he y (by simp [eC])) hq (Nat.le_refl _)).2
                    simp [Instr.sliceBounds,h2,h4]
              | some x'=>
                cases hi with
                | none=>
                  cases mx with
                  | none=>
                    simp only [eC,Option.isSome,List.append_nil,List.map,pR,Option.map_eq_some_iff] at hb
                    obtain ⟨r,hr,hb⟩:=hb
                    simp at hb
                    obtain ⟨rfl,rfl,rfl⟩:=hb
                    have:=(ig (P:=P) (he x' (by simp [eC])) hr (Nat.le_refl _)).2
                    simp [Instr.sliceBounds,this]
                  | some x=>simp [eC,pR] at hb
                | some y=>
                  cases mx with
                  | none=>
                    simp only [eC,Option.isSome,List.append_nil,List.map,List.cons_append,List.nil_append,pR,Option.bind_eq_some_iff,Option.map_eq_some_iff] at hb
                    obtain ⟨r,hr,q,hq,hb⟩:=hb
                    simp at hb
                    obtain ⟨rfl,rfl,rfl⟩:=hb
                    have h2:=(ig (P:=P) (he y (by simp [eC])) hr (Nat.le_refl _)).2
                    have h4:=(ig (P:=P) (he x' (by simp [eC])) hq (Nat.le_refl _)).2
                    simp [Instr.sliceBounds,h2,h4]
                  | some z=>
                    simp only [eC,Option.isSome,List.map,List.cons_append,List.nil_append,pR,Option.bind_eq_some_iff,Option.map_eq_some_iff] at hb
                    obtain ⟨r,hr,q,hq,s,Kz,hb⟩:=hb
                    simp at hb
                    obtain ⟨rfl,rfl,rfl⟩:=hb
                    have h2:=(ig (P:=P) (he z (by simp [eC])) hr (Nat.le_refl _)).2
                    have h4:=(ig (P:=P) (he y (by simp [eC])) hq (Nat.le_refl _)).2
                    have h6:=(ig (P:=P) (he x' (by simp [eC])) Kz (Nat.le_refl _)).2
                    simp [Instr.sliceBounds,h2,h4,h6]
            refine ⟨.slice none (h - l) (m - l),by simp [VR],?_⟩
            simp [execOp,ho,Instr.sliceAt,Instr.slice,bb hu,hx,key,mu hn]
        · rename_i a len cap vs e1
          simp only [List.cons.injEq] at e1
          obtain ⟨e1,e2⟩:=e1
          rw [e1] at hx
          subst e2
          obtain ⟨qt,Dm,lc,a',c',hl,qu,Fo,ni,h'⟩:=hx.mG
          cases hg:(ck a && xe A a.block n) with
          | false=>rw [hg] at hf; simp at hf
          | true=>
            rw [hg,cond_true] at hf
            obtain ⟨_,KA⟩:=Bool.and_eq_true_iff.1 hg
            obtain ⟨cs,own,bo,iq⟩:=Qg KA
            obtain ⟨l2,kK,ok⟩:=hs.row _ _ _ _ _ iq
            rw [hl] at kK; simp at kK; subst kK
            have SP:lc.bm=n:=ok.bm
            obtain ⟨⟨l,h,m⟩,hb,rfl⟩:=Option.map_eq_some_iff.1 hf
            obtain ⟨h1,h2,h3,h4,h5,h6,h7⟩:=Ax (P:=P) he.tail hb qu Dm
            generalize OG:cond mx.isSome m c' = m' at h4 h5 h7
            refine ⟨.slice (some (if m' = l then a' else a'.add (l * n))) (h - l) (m' - l),?_,?_⟩
            · simp only [VR]
              refine ⟨trivial,by omega,lc,_,m' - l,hl,by omega,fun bR=>?_,?_,rfl⟩
              · rw [if_neg (by omega),Fo (by omega),jJ]
                simp only [Nat.add_assoc]
              · rw [SP]
                rw [SP] at ni
                have e5:l * n+(m' - l) * n=m' * n:=by rw [← Nat.add_mul]; congr 1; omega
                have e6:m' * n≤c' * n:=Nat.mul_le_mul_right _ h5
                omega
            · simp only [execOp,ho,Instr.sliceAt,Instr.slice,Sem.run_bind,bb hu,Result.andThen_ok,h',h7,mu hn]
              by_cases W7:m' = l <;> simp [W7]
        · simp at hf
    · trivial
  · rename_i len e hu
    split
    · rename_i n hn
      cases B8:Nat.ble 1 n with
      | false=>exact True.intro
      | true=>
        rw [cond_true]
        intro ρ A base w ev cr v hs he hf
        have hx:=he x (by simp)
        simp only [List.map,C8] at hf
        split at hf
        · rename_i a vs e1
          simp only [List.cons.injEq] at e1
          obtain ⟨e1,e2⟩:=e1
          rw [e1] at hx
          subst e2
          obtain ⟨qt,lc,hl,h'⟩:=hx.gG
          cases hg:(ck a && xe A a.block n && Nat.ble (a.off+len * n) (Kj A a.block)) with
          | false=>rw [hg] at hf; simp at hf
          | true=>
            rw [hg,cond_true] at hf
            simp only [Bool.and_eq_true] at hg
            obtain ⟨⟨_,KA⟩,hlen⟩:=hg
            obtain ⟨cs,own,bo,iq⟩:=Qg KA
            obtain ⟨l2,kK,ok⟩:=hs.row _ _ _ _ _ iq
            rw [hl] at kK; simp at kK; subst kK
            have SP:lc.bm=n:=ok.bm
            have hlen:=Nat.le_of_ble_eq_true hlen
            have HO:Kj A a.block=cs.length:=by unfold Kj; rw [iq]
            rw [HO] at hlen
            have hft:=ok.fits
            obtain ⟨⟨l,h,m⟩,hb,rfl⟩:=Option.map_eq_some_iff.1 hf
            obtain ⟨h1,h2,h3,h4,h5,h6,h7⟩:=Ax (P:=P) he.tail hb (Nat.le_refl _) (Nat.le_refl _)
            have hm:cond mx.isSome m len=m:=by cases OI:mx.isSome <;> simp; exact (h6 OI).symm
            rw [hm] at h7
            refine ⟨.slice (some (if m=l then ⟨lc.cb,lc.dh+a.off,none⟩ else (⟨lc.cb,lc.dh+a.off,none⟩:Addr).add (l * n))) (h - l) (m - l),?_,?_⟩
            · simp only [VR]
              refine ⟨trivial,by omega,lc,_,m - l,hl,Nat.le_refl _,fun bR=>?_,?_,rfl⟩
              · rw [if_neg (by omega),jJ]
                simp only [Nat.add_assoc]
              · rw [SP]
                have e5:l * n+(m - l) * n=m * n:=by rw [← Nat.add_mul]; congr 1; omega
                have e6:m * n≤len * n:=Nat.mul_le_mul_right _ h3
                omega
            · simp only [execOp,ho,Instr.sliceAt,Sem.run_bind,bb hu,Result.andThen_ok,h',Instr.sureAddr,Sem.run_pure,h7,mu hn]
        · simp at hf
    · trivial
  · rename_i hu
    cases OI:mx with
    | some z=>exact True.intro
    | none=>
      show fC P o (.pure (zo lo.isSome hi.isSome) (x :: (eC lo ++ eC hi)))
      intro ρ ev cr v he hf
      have hx:=he x (by simp)
      simp only [List.map,zo] at hf
      split at hf
      · rename_i s vs e1
        simp only [List.cons.injEq] at e1
        obtain ⟨e1,e2⟩:=e1
        rw [e1] at hx
        have hx:=hx.nj
        subst e2
        obtain ⟨⟨l,h,m⟩,hb,rfl⟩:=Option.map_eq_some_iff.1 hf
        have zv:qq ρ ev cr (eC lo ++ eC hi ++ eC (none:Option Operand)):=by simpa [eC] using he.tail
        obtain ⟨h1,h2,h3,h4,h5,h6,h7⟩:=Ax (P:=P) (mx:=none) zv (by simpa [eC] using hb) (Nat.le_refl _) (Nat.le_refl _)
        simp only [Option.isSome_none,cond_false,Option.map_none] at h7
        refine ⟨.string (s.extract l h),?_,fun w=>?_⟩
        · have e:(⟨⟨(s.data.toList.drop l).take (h - l)⟩⟩:ByteArray)=s.extract l h:=by
            apply ByteArray.ext
            apply Array.ext'
            simp [ByteArray.data_extract,List.extract_eq_take_drop]
          rw [e]
          simp [VR]
        · simp [execOp,ho,Instr.sliceAt,Instr.slice,bb hu,hx,OI,h7]
      · simp at hf
  · trivial
theorem SQ {t:TypeId} {l c:Operand} (ho:o.op = .makeSlice t l c):fC P o (s9 P t l c):=by
  unfold s9
  split
  · rename_i e hu
    split
    · rename_i i hi
      split
      · rename_i z hz
        cases hc:(Nat.ble 1 i.size && Nat.ble 1 i.bytes && Nat.beq z.cells.size i.size && flat z && z.cells.toList.all scalar) with
        | false=>exact True.intro
        | true=>
          rw [cond_true]
          simp only [Bool.and_eq_true] at hc
          obtain ⟨⟨⟨⟨h1,h2⟩,h3⟩,h4⟩,h5⟩:=hc
          have hn:1≤i.size:=Nat.le_of_ble_eq_true h1
          have hb:1≤i.bytes:=Nat.le_of_ble_eq_true h2
          have UZ:z.cells.size=i.size:=Nat.eq_of_beq_eq_true h3
          rw [List.all_eq_true] at h5
          intro ρ ev cr obj mk he hf
          simp only [List.map,Ao] at hf
          split at hf
          · rename_i k1 l0 k2 c0 e1
            simp only [List.cons.injEq,and_true] at e1
            cases hk:(Nat.ble l0 c0 && Nat.ble (i.bytes * c0) 281474976710656) with
            | false=>rw [hk] at hf; simp at hf
            | true=>
              rw [hk,cond_true] at hf
              obtain ⟨B9,Qd⟩:=Bool.and_eq_true_iff.1 hk
              have hle:l0≤c0:=Nat.le_of_ble_eq_true B9
              have Qh:i.bytes * c0≤281474976710656:=Nat.le_of_ble_eq_true Qd
              simp only [Option.some.injEq,Prod.mk.injEq] at hf
              obtain ⟨rfl,rfl⟩:=hf
              have hl:=he l (by simp)
              have qu:=he c (by simp)
              rw [e1.1] at hl
              rw [e1.2] at qu
              have hl:=hl.cS
              have qu:=qu.cS
              have e2:madeCells z.cells (c0 * i.size)=⟨ff z.cells.toList c0⟩:=by
                unfold madeCells
                rw [← UZ]
                exact Jo z.cells c0 (by omega)
              have hc0:c0≤i.bytes * c0:=Nat.le_mul_of_pos_left _ hb
              have agX:∀ (z:List Value) (k:Nat),(ff z k).length=k * z.length:=by
                intro z k
                induction k with
                | zero=>simp [ff]
                | succ k ih=>simp [ff,ih,Nat.succ_mul,Nat.add_comm]
              have agY:∀ (z:List Value) (k:Nat) (v:Value),v ∈ ff z k→v ∈ z:=by
                intro z k v
                induction k with
                | zero=>simp [ff]
                | succ k ih=>simp only [ff,List.mem_append]; exact fun h=>h.elim id ih
              refine ⟨.cells ⟨ff z.cells.toList c0⟩ e,fun b=>.slice (some ⟨b,0,none⟩) l0 c0,⟨_,e,rfl,cO.repeat (Aw h4) c0,fun v hv=>h5 v (agY _ _ _ hv)⟩,fun w=>?_,fun ak n cb gL=>?_⟩
              · have hr:=run_make (P:=P) w t e i z hu hi hz k1 k2 (l0:Int) (c0:Int) (by omega) (by omega) (by rw [← Int.natCast_mul]; exact Int.ofNat_le.2 Qh) (by omega)
                have ka:cr l = .int k1 (l0:Int):=hl
                have Zj:cr c = .int k2 (c0:Int):=qu
                simp only [Int.toNat_natCast,e2] at hr
                simp [execOp,ho,ka,Zj,hr]
              · simp only [VR]
                refine ⟨trivial,hle,_,⟨cb,0,none⟩,c0,gL,Nat.le_refl _,fun _=>rfl,?_,rfl⟩
                show 0+0+c0 * i.size≤(ff z.cells.toList c0).length
                rw [agX]
                simp [UZ]
          · simp at hf
      · trivial
    · trivial
  · trivial
theorem abL {t:TypeId} {x:Operand} (ho:o.op = .makeInterface t x):fC P o (Mm P t x):=by
  unfold Mm
  split
  · trivial
  · rename_i d hu hd
    intro ρ ev cr v he hf
    simp [aan] at hf
    subst hf
    refine ⟨.iface t (cr x),by simp only [VR]; exact ⟨_,he x (by simp),rfl⟩,fun w=>?_⟩
    simp only [execOp,ho,Instr.makeInterface,Sem.run_bind,bb hd,Result.andThen_ok]
    cases d <;> first | rfl | exact absurd rfl (hu _)
  · trivial
theorem KB {ρ:ao} {s:List Value→Sem Value} {vs bP:List Value} {v:Value} (hv:cO ρ vs bP) (h:C7 P s vs=some v):VR ρ v v∧∀ w,(s bP).run P w = .ok v w:=by
  unfold C7 at h
  cases hf:n6 vs with
  | false=>rw [hf] at h; simp at h
  | true=>
    rw [hf,cond_true] at h
    obtain ⟨u,hu,h⟩:=Option.bind_eq_some_iff.1 h
    cases hfu:flat u with
    | false=>rw [hfu] at h; simp at h
    | true=>
      rw [hfu] at h
      simp at h
      subst h
      rw [cO.kO hf hv]
      exact ⟨VR.of_flat hfu,fun w=>fR hu w⟩
theorem ae0 {argTypes:Array TypeId} {args:Array Operand} (ho:o.op = .call ⟨.builtin .min,args,argTypes⟩):fC P o (.pure (C7 P fun vs=>Builtin.min_ #[] 0 ⟨vs⟩) args.toList):=by
  intro ρ ev cr v he hf
  obtain ⟨h1,h2⟩:=KB he.map hf
  refine ⟨v,h1,fun w=>?_⟩
  have h3:=h2 w
  simp only [Builtin.min_] at h3
  simp only [execOp,ho,resolve,Sem.run_bind,Sem.run_pure,Result.andThen_ok,invoke,builtin,Builtin.min_,mb]
  simp only [h3,Result.andThen_ok]
theorem ae1 {argTypes:Array TypeId} {args:Array Operand} (ho:o.op = .call ⟨.builtin .max,args,argTypes⟩):fC P o (.pure (C7 P fun vs=>Builtin.max_ #[] 0 ⟨vs⟩) args.toList):=by
  intro ρ ev cr v he hf
  obtain ⟨h1,h2⟩:=KB he.map hf
  refine ⟨v,h1,fun w=>?_⟩
  have h3:=h2 w
  simp only [Builtin.max_] at h3
  simp only [execOp,ho,resolve,Sem.run_bind,Sem.run_pure,Result.andThen_ok,invoke,builtin,Builtin.max_,mb]
  simp only [h3,Result.andThen_ok]
theorem NL {ρ:ao} {x x' : Value} {k:Nat} (hx:VR ρ x x') (h:NB x=some k):Builtin.lenOf x' = Sem.pure k:=by
  unfold NB at h
  split at h
  · obtain ⟨a',c',rfl⟩:=Qe hx
    simp at h; subst h; rfl
  · have:=hx.nj
    subst this
    simp at h; subst h; rfl
  · simp at h
theorem xj {ρ:ao} {A:St} {base:Nat} {w:World} {n k:Nat} {x x' : Value} {new:List Value} (hs:Rel ρ A.get A.members base w) (hx:VR ρ x x') (h:rX A n k x=some new)
    (hk:∀ m,NB x=some m→k≤m) (hn:1≤n):∃ cl,cO ρ new cl∧(∀ v ∈ new,scalar v=true)∧new.length=k * n∧(Builtin.firstCells n k x').run P w = .ok cl.toArray w:=by
  unfold rX at h
  split at h
  · rename_i a len cap
    obtain ⟨qt,Dm,lc,a',c',hl,qu,Fo,ni,rfl⟩:=hx.mG
    have hkl:=hk len rfl
    obtain ⟨bI,h1,h2,h3,h4⟩:=rY (P:=P) hs h hl
    refine ⟨bI,h1,h3,h2,?_⟩
    simp only [Builtin.firstCells]
    by_cases hc:c' = 0
    · have Ai:k=0:=by omega
      subst Ai
      have nX:new = []:=by rw [Nat.zero_mul] at h2; exact List.eq_nil_of_length_eq_zero h2
      subst nX
      rw [h1.bJ,Nat.zero_mul]
      exact run_loadCells_list w a' [] (by simp)
    · rw [Fo hc]; exact h4
  · rename_i len cap
    have:=hx.gZ
    subst this
    cases hb:Nat.beq k 0 with
    | false=>rw [hb] at h; simp at h
    | true=>
      rw [hb] at h
      simp at h
      subst h
      have Ai:=Nat.eq_of_beq_eq_true hb
      subst Ai
      exact ⟨[],.nil,by simp,by simp,run_firstCells_none w n 0 len cap⟩
  · rename_i s
    have:=hx.nj
    subst this
    cases hb:Nat.beq n 1 with
    | false=>rw [hb] at h; simp at h
    | true=>
      rw [hb] at h
      simp at h
      have Qi:=Nat.eq_of_beq_eq_true hb
      subst Qi
      have pt:=hk s.size rfl
      have du:s.data.size=s.size:=rfl
      have fl:∀ l:List UInt8,cO ρ (l.map fun b=>Value.int .u8 b.toNat) (l.map fun b=>Value.int .u8 b.toNat):=by
        intro l
        induction l with
        | nil=>exact .nil
        | cons x l ih=>exact .cons (by simp [VR]) ih
      subst h
      refine ⟨((s.data.toList.take k).map fun b=>.int .u8 b.toNat),by simpa using fl (s.data.toList.take k),?_,?_,?_⟩
      · intro v hv
        obtain ⟨b,_,rfl⟩:=List.mem_map.1 (by first | exact hv | exact List.mem_of_mem_take hv)
        rfl
      · simp; omega
      · simp only [Builtin.firstCells]
        rw [Sem.run_pure]
        congr 1
        apply Array.ext'
        simp [ByteArray.data_extract,List.extract_eq_take_drop]
  · simp at h
theorem wH (t u ty e:TypeId) (i:TypeInfo) (ht:P.underlying t=some (.slice e)) (hi:P.info? e=some i) (hu:C9 P u=true) (base:Option Addr) (dk nz:Nat) (x:Value) (n:Nat) (news:List Value)
    (hlen:Builtin.lenOf x=Sem.pure n) (w:World) (r5:(Builtin.firstCells i.size n x).run P w = .ok news.toArray w) (yi:dk+n≤nz) :
    (Builtin.append_ #[t,u] ty #[.slice base dk nz,x]).run P w=(((match base with | some a=>storeCells (a.add (dk * i.size)) news | none=>pure ():Sem Unit).run P w).andThen fun _ w=>.ok (.slice base (dk+n) nz) w):=by
  have hk:(∃ e',P.underlying u=some (.slice e'))∨P.underlying u=some .string:=by
    unfold C9 at hu
    split at hu
    · rename_i e' h; exact .inl ⟨_,h⟩
    · rename_i h; exact .inr h
    · simp at hu
  rcases hk with ⟨e',hk⟩ | hk <;> cases base <;> simp [Builtin.append_,bb ht,bb hk,sizeOf,typeInfo,hi,hlen,yi,r5]
theorem MA (t u ty e:TypeId) (i:TypeInfo) (z:Value) (ht:P.underlying t=some (.slice e)) (hi:P.info? e=some i) (hz:i.zero=some z) (hu:C9 P u=true) (base:Option Addr) (dk nz:Nat)
    (x:Value) (n:Nat) (NM news:List Value) (hlen:Builtin.lenOf x=Sem.pure n) (w:World) (hold:(Builtin.firstCells i.size dk (.slice base dk nz)).run P w.drew = .ok NM.toArray w.drew)
    (r5:(Builtin.firstCells i.size n x).run P w.drew = .ok news.toArray w.drew) (hg:nz < dk+n) (h63:dk+n≤17592186044416) (ni:Builtin.nextslicecap (dk+n) nz * i.bytes≤281474976710656) :
    (Builtin.append_ #[t,u] ty #[.slice base dk nz,x]).run P w =
      .ok (.slice (some ⟨w.heap.size,0,none⟩) (dk+n) (grownCap w (dk+n) nz e))
        (w.drew.alloc (.cells ((NM ++ news).toArray ++ Builtin.zeroCells z.cells (grownCap w (dk+n) nz e - (dk+n))) e)):=by
  have hk:(∃ e',P.underlying u=some (.slice e'))∨P.underlying u=some .string:=by
    unfold C9 at hu
    split at hu
    · rename_i e' h; exact .inl ⟨_,h⟩
    · rename_i h; exact .inr h
    · simp at hu
  have hn : ¬ (dk+n≤nz):=by omega
  have agZ : ¬ (9223372036854775807 < ((dk:Int)+(n:Int))):=by omega
  have ag0 : ¬ (281474976710656 < Builtin.nextslicecap (dk+n) nz * i.bytes):=by omega
  rcases hk with ⟨e',hk⟩ | hk <;>
    (simp [Builtin.append_,bb ht,bb hk,sizeOf,typeInfo,zeroValue,hi,hz,hlen,hn,agZ,ag0,Question.forced,r5,hold,newRow,grownCap]
     congr 2
     apply Array.ext'
     simp [List.append_assoc])
theorem Qj {ρ:ao} {A:St} {base:Nat} {w:World} (hs:jC ρ A base w) (b lo hi:Nat) (L:List Nat):da base ρ A w ρ (A.kill b lo hi L) w:=by
  obtain ⟨Dn,kK⟩:=B5 b lo hi L A
  have Fl:∀ x o,(A.kill b lo hi L).get x=some o→o≠.dead→A.get x=some o:=by
    intro x o hx hd
    rw [wA] at hx
    split at hx
    · simp at hx; exact absurd hx.symm hd
    · exact hx
  have hm:∀ o:bD,o.cG=true→o≠.dead:=by intro o h e; subst e; simp [bD.cG] at h
  refine ⟨⟨.rZ (fun x o hx hd=>hs.rel.obj (Fl x o hx hd) hd) (fun b1 b2 o1 o2 l1 l2 bR g1 g2 m1 m2=>hs.rel.apart b1 b2 o1 o2 l1 l2 bR (Fl _ _ g1 (hm _ m1)) (Fl _ _ g2 (hm _ m2)) m1 m2) (fun x o aW f hx hk=>?_),fun x l h=>?_,hs.size,hs.mS⟩,
    fun _ _=>rfl,.refl _ _ _,by simp,Dn,fun x _ hx=>?_,fun k _ h=>?_⟩
  · rw [Bf]; exact hs.rel.ba x o aW f (Fl x o hx (by intro e; subst e; simp [bD.jb] at hk)) hk
  · rw [Di]; exact hs.gk x l h
  · cases Classical.em ((A.kill b lo hi L).get x=A.get x) with
    | inl h=>exact h
    | inr h=>have:=kK x h; omega
  · obtain ⟨x,o,l,hx,OG,hr,e⟩:=h
    exact ⟨x,o,l,Fl x o hx (hm _ OG),OG,hr,e⟩
theorem Ca (A:St) (aW f:Nat) (cs:List Value) (n x:Nat):(A.grow aW f cs n).get x=if x=A.next then some (.row cs n true (some (aW,f))) else A.get x:=by
  simp [St.grow]
theorem ti (A:St) (aW f:Nat) (cs:List Value) (n g:Nat):(A.grow aW f cs n).members g=if g=aW then A.next :: A.members aW else A.members g:=by
  simp only [St.grow,St.xh,St.jT]
theorem Qk {ρ:ao} {A:St} {base:Nat} {w:World} {cs bI:List Value} {c:Array Value} {n aW f:Nat} (T:TypeId) (hs:jC ρ A base w) (hc:cO ρ cs bI) (h1:∀ v ∈ cs,scalar v=true)
    (H8:∀ (j:Nat) (v:Value),bI[j]? = some v→c[j]? = some v) (du:cs.length≤c.size) :
    da base ρ A w (ρ.set A.next ⟨w.heap.size,0,c.size,n⟩) (A.grow aW f cs n) (w.alloc (.cells c T)):=by
  refine wD (o:=.row cs n true (some (aW,f))) hs (fun x=>Ca _ _ _ _ _ _) (fun g x h=>?_) (fun g f' h=>?_) (by simp [St.grow]) (by simp [St.grow]) (fun x hx _=>by rw [Ca,if_neg (by omega)]) rfl ?_
  · rw [ti]; split
    · rename_i e; subst e; simp [h]
    · exact h
  · simp [bD.jb] at h; rw [ti,h.1]; simp
  · refine ⟨fun i v hi=>?_,fun h=>by simp at h,fun _=>hs.size,fun _ j hj=>?_,by simpa using du,fun _ h=>by simp at h,rfl,by simp,fun _ _ j=>by simp only; rw [World.frozen?_alloc_new]⟩
    · obtain ⟨v',h2,h3⟩:=hc.get hi
      refine ⟨v',?_,h3.mono (hs.yK _),h1 v (List.mem_of_getElem? hi)⟩
      rw [Nat.zero_add,World.cell?_alloc_new]
      exact H8 i v' h2
    · simp only at hj ⊢
      rw [World.cell?_alloc_new,World.frozen?_alloc_new]
      refine ⟨?_,rfl⟩
      rw [Array.getElem?_eq_getElem (by omega)]
      rfl
theorem U0 {ρ:ao} {A:St} {base:Nat} {w:World} {b gq s bm aW f:Nat} {cs fB o5 new cl:List Value} {l:Loc}
    (hs:jC ρ A base w) (hg:A.get b=some (.row cs bm true (some (aW,f)))) (gL:ρ b=some l)
    (hold:cO ρ fB o5) (ho1:∀ v ∈ fB,scalar v=true) (hol:fB.length=s) (MB:∀ j v',o5[j]? = some v'→w.cell? ⟨l.cb,l.dh+gq+j,none⟩=some v')
    (nX:cO ρ new cl) (Qi:∀ v ∈ new,scalar v=true) (ni:l.dh+gq+s+new.length≤l.vc) :
    da base ρ A w (ρ.set A.next ⟨l.cb,l.dh+gq,l.vc,bm⟩) ((A.kill A.next (f+(gq+s)) (f+(gq+s)+new.length) (A.members aW)).grow aW (f+gq) (fB ++ new) bm) (w.setCells l.cb (l.dh+gq+s) cl):=by
  obtain ⟨l',ka,ok⟩:=hs.rel.row _ _ _ _ _ hg
  rw [gL] at ka; simp at ka; subst ka
  have EK:cl.length=new.length:=nX.length
  have hovl:o5.length=s:=by rw [hold.length,hol]
  have HP:b < A.next:=hs.gk b l gL
  have G8:bD.cG (.row cs bm true (some (aW,f)))=true:=rfl
  have hB:∀ x,((A.kill A.next (f+(gq+s)) (f+(gq+s)+new.length) (A.members aW)).grow aW (f+gq) (fB ++ new) bm).get x =
      if x=A.next then some (.row (fB ++ new) bm true (some (aW,f+gq))) else (A.kill A.next (f+(gq+s)) (f+(gq+s)+new.length) (A.members aW)).get x:=by
    intro x; rw [Ca,Di]
  have hBm:∀ g,((A.kill A.next (f+(gq+s)) (f+(gq+s)+new.length) (A.members aW)).grow aW (f+gq) (fB ++ new) bm).members g=if g=aW then A.next :: A.members aW else A.members g:=by
    intro g; rw [ti,Di,Bf]
  have hBn:((A.kill A.next (f+(gq+s)) (f+(gq+s)+new.length) (A.members aW)).grow aW (f+gq) (fB ++ new) bm).next=A.next+1:=by
    simp [St.grow]
  have hkl:=B5 A.next (f+(gq+s)) (f+(gq+s)+new.length) (A.members aW) A
  have hBl:((A.kill A.next (f+(gq+s)) (f+(gq+s)+new.length) (A.members aW)).grow aW (f+gq) (fB ++ new) bm).low=(A.kill A.next (f+(gq+s)) (f+(gq+s)+new.length) (A.members aW)).low:=rfl
  have hAK:∀ x,x≠A.next→(A.kill A.next (f+(gq+s)) (f+(gq+s)+new.length) (A.members aW)).get x=if x ∈ A.members aW∧oV (A.get x) (f+(gq+s)) (f+(gq+s)+new.length)=true then some .dead else A.get x:=by
    intro x hx; rw [wA]; simp [hx]
  generalize ((A.kill A.next (f+(gq+s)) (f+(gq+s)+new.length) (A.members aW)).grow aW (f+gq) (fB ++ new) bm)=B at hB hBm hBn hBl
  generalize (A.kill A.next (f+(gq+s)) (f+(gq+s)+new.length) (A.members aW))=K at hB hBl hkl hAK
  have hle:=hs.yK (⟨l.cb,l.dh+gq,l.vc,bm⟩:Loc)
  have nP:∀ x o,x≠A.next→B.get x=some o→o≠.dead→A.get x=some o∧(x ∈ A.members aW→oV (some o) (f+(gq+s)) (f+(gq+s)+new.length)=false):=by
    intro x o hx ho hd
    rw [hB,if_neg hx,hAK x hx] at ho
    split at ho
    · simp at ho; exact absurd ho.symm hd
    · rename_i hc
      refine ⟨ho,fun hm=>?_⟩
      rw [← ho]
      cases gm:oV (A.get x) (f+(gq+s)) (f+(gq+s)+new.length) with
      | false=>rfl
      | true=>exact absurd ⟨hm,gm⟩ hc
  have lJ:∀ x:Addr,(x.block=l.cb→x.spot=none→x.off < l.dh+gq+s∨l.dh+gq+s+cl.length≤x.off)→(w.setCells l.cb (l.dh+gq+s) cl).cell? x=w.cell? x:=
    fun x h=>World.cell?_setCells_out _ _ _ _ _ h
  have PX:∀ x,((w.setCells l.cb (l.dh+gq+s) cl).cell? x).isSome=(w.cell? x).isSome:=fun x=>wB _ _ _ _ _
  have wC:∀ x,(w.setCells l.cb (l.dh+gq+s) cl).frozen? x=w.frozen? x:=fun x=>World.frozen?_setCells _ _ _ _ _
  have du:(w.setCells l.cb (l.dh+gq+s) cl).heap.size=w.heap.size:=zr _ _ _ _
  have hmd:∀ o:bD,o.cG=true→o≠.dead:=by intro o h e; subst e; simp [bD.cG] at h
  have vf:∀ x o l2,A.get x=some o→o.cG=true→ρ x=some l2→l2.cb=l.cb→∃ f2,o.jb=some (aW,f2)∧l2.dh+f=l.dh+f2:=by
    intro x o l2 hx hm hr xG
    by_cases Ky:x=b
    · subst Ky
      rw [hg] at hx; simp at hx; subst hx
      rw [gL] at hr; simp at hr; subst hr
      exact ⟨f,rfl,rfl⟩
    · obtain ⟨g,f1,f2,e1,e2,e3⟩:=hs.rel.apart x b _ _ l2 l Ky hx hg hm G8 hr gL xG
      simp [bD.jb] at e2
      obtain ⟨rfl,rfl⟩:=e2
      exact ⟨f1,e1,e3⟩
  have Fk:∀ x kb e2 Au pq l2,x≠A.next→B.get x=some (.row kb e2 Au pq)→ρ x=some l2→wz ρ base w l2 kb e2 Au pq→∀ i,i < kb.length→
      (w.setCells l.cb (l.dh+gq+s) cl).cell? ⟨l2.cb,l2.dh+i,none⟩=w.cell? ⟨l2.cb,l2.dh+i,none⟩:=by
    intro x kb e2 Au pq l2 hx fa acX fY i hi
    refine lJ _ (fun PY _=>?_)
    simp only at PY ⊢
    obtain ⟨hA,gm⟩:=nP x _ hx fa (by simp)
    cases Au with
    | false=>have h3:=fY.nA rfl; have h4:=ok.cG rfl; omega
    | true=>
      obtain ⟨f2,e1,e3⟩:=vf x _ l2 hA rfl acX PY
      simp only [bD.jb] at e1
      subst e1
      have hm:=hs.rel.ba x _ aW f2 hA rfl
      have:=Kw rfl (gm hm)
      rw [EK]
      omega
  refine ⟨⟨.rZ ?_ ?_ ?_,?_,?_,hs.mS.mono (hs.yK _)⟩,?_,⟨(p0 _ _ _ _).1,(p0 _ _ _ _).2.1,(p0 _ _ _ _).2.2,Nat.le_of_eq du.symm,?_⟩,?_,?_,?_,?_⟩
  · intro x o fa hd
    by_cases hx:x=A.next
    · subst hx
      rw [hB,if_pos rfl] at fa
      simp at fa
      subst fa
      refine ⟨_,ao.jF _ _ _,fun i v hi=>?_,fun h=>by simp at h,fun _=>ok.cG rfl,fun _ j hj=>?_,?_,fun _ h=>by simp at h,rfl,by rw [du]; exact ok.j7,fun _ h2 j=>by rw [wC]; exact ok.mark rfl (by rw [ok.bm]; exact h2) j⟩
      · have im:cO ρ (fB ++ new) (o5 ++ cl):=hold.append nX
        obtain ⟨v',h2,h3⟩:=im.get hi
        refine ⟨v',?_,h3.mono hle,?_⟩
        · rw [List.getElem?_append] at h2
          split at h2
          · rename_i aL
            rw [lJ _ (fun _ _=>by simp only; omega)]
            exact MB i v' h2
          · rename_i Jp
            have aL:i - o5.length < cl.length:=(List.getElem?_eq_some_iff.1 h2).1
            have:=World.cell?_setCells_in l.cb cl (l.dh+gq+s) w (fun j hj=>(ok.there rfl (l.dh+gq+s+j) (by rw [EK] at hj; omega)).1) (i - o5.length) aL
            have e:l.dh+gq+s+(i - o5.length)=l.dh+gq+i:=by omega
            rw [e] at this
            rw [List.getElem?_eq_getElem aL] at h2
            exact this.trans h2
        · rcases List.mem_append.1 (List.mem_of_getElem? hi) with h | h
          · exact ho1 v h
          · exact Qi v h
      · rw [PX,wC]; exact ok.there rfl j hj
      · simp only [List.length_append,hol]; omega
    · obtain ⟨hA,gm⟩:=nP x o hx fa hd
      obtain ⟨l2,n7,fY⟩:=hs.rel.obj hA hd
      refine ⟨l2,hle _ _ n7,?_⟩
      cases o with
      | row kb e2 Au pq=>
        have fY:wz ρ base w l2 kb e2 Au pq:=fY
        refine ⟨fun i v hi=>?_,fY.nA,fY.cG,fun h j hj=>?_,fY.fits,fY.ends,fY.bm,by rw [du]; exact fY.j7,fun h1 h2 j=>by rw [wC]; exact fY.mark h1 h2 j⟩
        · obtain ⟨v',h3,h4,h5⟩:=fY.cells i v hi
          exact ⟨v',by rw [Fk x _ _ _ _ l2 hx fa n7 fY i (List.getElem?_eq_some_iff.1 hi).1]; exact h3,h4.mono hle,h5⟩
        · rw [PX,wC]; exact fY.there h j hj
      | map es=>
        have fY:Jl ρ base w l2 es:=fY
        obtain ⟨a7,clock,h3,h4⟩:=fY.j7
        refine ⟨fY.cG,a7,clock,?_,h4.mono hle⟩
        rw [kQ]
        · exact h3
        · intro e
          obtain ⟨_,e1,_⟩:=vf x _ l2 hA rfl n7 e
          simp [bD.jb] at e1
      | iter st pos=>
        have fY:Ks base w l2 st pos:=fY
        refine ⟨fY.cG,fY.j7.1,?_⟩
        rw [kQ]
        · exact fY.j7.2
        · intro e
          obtain ⟨_,e1,_⟩:=vf x _ l2 hA rfl n7 e
          simp [bD.jb] at e1
      | dead=>exact absurd rfl hd
      | loop st0 e0 t0 ps0 a0 c0=>
        have fY:Ar ρ base w l2 st0 e0 t0 ps0 a0 c0:=fY
        obtain ⟨fn,tmps,D,N,h3,h4⟩:=fY.j7
        refine ⟨fY.cG,fn,tmps,D,N,?_,h4.mono hle⟩
        rw [kQ]
        · exact h3
        · intro e
          obtain ⟨_,e1,_⟩:=vf x _ l2 hA rfl n7 e
          simp [bD.jb] at e1
  · intro b1 b2 o1 o2 l1 l2 bR g1 g2 m1 m2 r1 r2 xG
    by_cases e1:b1=A.next
    · have e2:b2≠A.next:=fun e=>bR (e1.trans e.symm)
      subst e1
      rw [hB,if_pos rfl] at g1
      simp at g1; subst g1
      rw [ao.jF] at r1; simp at r1; subst r1
      rw [ao.ie _ _ e2] at r2
      obtain ⟨hA,_⟩:=nP b2 o2 e2 g2 (hmd _ m2)
      obtain ⟨f2,k1,k2⟩:=vf b2 o2 l2 hA m2 r2 xG.symm
      exact ⟨aW,f+gq,f2,rfl,k1,by simp only; omega⟩
    · rw [ao.ie _ _ e1] at r1
      obtain ⟨Zk,_⟩:=nP b1 o1 e1 g1 (hmd _ m1)
      by_cases e2:b2=A.next
      · subst e2
        rw [hB,if_pos rfl] at g2
        simp at g2; subst g2
        rw [ao.jF] at r2; simp at r2; subst r2
        obtain ⟨f2,k1,k2⟩:=vf b1 o1 l1 Zk m1 r1 xG
        exact ⟨aW,f2,f+gq,k1,rfl,by simp only; omega⟩
      · rw [ao.ie _ _ e2] at r2
        obtain ⟨hA2,_⟩:=nP b2 o2 e2 g2 (hmd _ m2)
        exact hs.rel.apart b1 b2 o1 o2 l1 l2 bR Zk hA2 m1 m2 r1 r2 xG
  · intro x o g fx hx hk
    rw [hBm]
    by_cases e:x=A.next
    · subst e
      rw [hB,if_pos rfl] at hx
      simp at hx; subst hx
      simp [bD.jb] at hk
      rw [if_pos hk.1.symm]
      simp
    · have:=hs.rel.ba x o g fx (nP x o e hx (by intro e; subst e; simp [bD.jb] at hk)).1 hk
      split
      · rename_i e2; subst e2; simp [this]
      · exact this
  · intro x l2 h
    rw [hBn]
    by_cases e:x=A.next
    · omega
    · rw [ao.ie _ _ e] at h; have:=hs.gk x l2 h; omega
  · rw [du]; exact hs.size
  · intro x hx; exact ao.ie _ _ (by omega)
  · intro k hk hn
    exact kQ _ (fun e=>hn ⟨b,_,l,hg,rfl,gL,e.symm⟩) _ _ _
  · omega
  · rw [hBl]; exact hkl.1
  · intro x hx Zc
    rw [hB,if_neg (by omega)]
    cases Classical.em (K.get x=A.get x) with
    | inl h=>exact h
    | inr h=>have:=hkl.2 x h; omega
  · rintro k hk ⟨x,o,l2,hx,hm,hr,rfl⟩
    by_cases e:x=A.next
    · subst e
      rw [ao.jF] at hr; simp at hr; subst hr
      exact ⟨b,_,l,hg,rfl,gL,rfl⟩
    · rw [ao.ie _ _ e] at hr
      exact ⟨x,o,l2,(nP x o e hx (hmd _ hm)).1,hm,hr,rfl⟩
theorem abM {a:Addr} (h:ck a=true):a.spot=none:=by
  unfold ck at h
  simpa using h
theorem OJ (w:World) (a:Addr) (n:Nat) (cs:List Value) (h:∀ j,j < n→(w.cell? (a.add j)).isSome=true) (hr:(loadCells a n).run P w = .ok cs.toArray w) (j:Nat) (v:Value) (hj:cs[j]? = some v) :
    w.cell? (a.add j)=some v:=by
  have h1:=run_loadCells (P:=P) w a n (fun j=>(w.cell? (a.add j)).getD undef) (fun j hj=>by
    have:=h j hj
    cases hc:w.cell? (a.add j) with
    | none=>rw [hc] at this; simp at this
    | some u=>rfl)
  rw [hr] at h1
  simp only [Result.ok.injEq,and_true] at h1
  have h2:cs=(List.range n).map fun j=>(w.cell? (a.add j)).getD undef:=by
    have:=congrArg Array.toList h1
    simpa using this
  rw [h2,List.getElem?_map] at hj
  cases hq:(List.range n)[j]? with
  | none=>rw [hq] at hj; simp at hj
  | some m=>
    rw [hq] at hj
    have aL:j < n:=by have:=(List.getElem?_eq_some_iff.1 hq).1; simpa using this
    have hm:m=j:=by rw [List.getElem?_range aL] at hq; simpa using hq.symm
    subst hm
    simp at hj
    have:=h m aL
    cases hc:w.cell? (a.add m) with
    | none=>rw [hc] at this; simp at this
    | some u=>rw [hc] at hj; simpa using hj
theorem W8 (z:Array Value) (n:Nat):(Builtin.zeroCells z n).size=n * z.size:=size_zeroCells z n
theorem Ql {ρ:ao} {A B:St} {base:Nat} {w:World} {t u ty e:TypeId} {i:TypeInfo} {z s x s' x' v:Value} (ht:P.underlying t=some (.slice e)) (hi:P.info? e=some i) (hz:i.zero=some z) (hu:C9 P u=true)
    (hn:1≤i.size) (UZ:z.cells.size=i.size) (tj:jC ρ A base w) (U1:VR ρ s s') (Qm:VR ρ x x') (hf:kM i.size i.bytes A [s,x] = some (v,B)) :
    ∃ ak v' w',(Builtin.append_ #[t,u] ty #[s',x']).run P w = .ok v' w'∧VR ak v v'∧da base ρ A w ak B w':=by
  unfold kM at hf
  split at hf
  · rename_i bs dk nz x0 e0
    simp at e0
    obtain ⟨rfl,rfl⟩:=e0
    obtain ⟨k,hk,hf⟩:=Option.bind_eq_some_iff.1 hf
    have hlen:=NL Qm hk
    have hkk:∀ m,NB x=some m→k≤m:=fun m h=>by rw [hk] at h; simp at h; omega
    cases yi:Nat.ble (dk+k) nz with
    | true=>
      rw [yi,cond_true] at hf
      have yi:=Nat.le_of_ble_eq_true yi
      obtain ⟨new,nX,hf⟩:=Option.bind_eq_some_iff.1 hf
      obtain ⟨cl,h1,h2,h3,h4⟩:=xj (P:=P) tj.rel Qm nX hkk hn
      cases bs with
      | none=>
        simp at hf
        obtain ⟨rfl,rfl⟩:=hf
        have:=U1.gZ
        subst this
        have hr:=wH (P:=P) t u ty e i ht hi hu none dk nz x' k cl hlen w h4 yi
        exact ⟨ρ,_,w,by rw [hr]; rfl,by simp [VR],.refl tj⟩
      | some a=>
        simp only at hf
        cases W9:ck a with
        | false=>rw [W9] at hf; simp at hf
        | true=>
          rw [W9,cond_true] at hf
          obtain ⟨B',gm,hf⟩:=Option.map_eq_some_iff.1 hf
          simp at hf
          obtain ⟨rfl,rfl⟩:=hf
          obtain ⟨qt,Dm,lc,a',c',hl,qu,Fo,ni,rfl⟩:=U1.mG
          have hr:=wH (P:=P) t u ty e i ht hi hu (some a') dk c' x' k cl hlen w h4 (by omega)
          obtain ⟨w',h5,h6⟩:=xi (P:=P) (a:=⟨a.block,a.off+dk * i.size,none⟩) tj gm hl h1
          have kH:(storeCells (a'.add (dk * i.size)) cl).run P w = .ok () w':=by
            by_cases hc:c' = 0
            · have:cl = []:=by
                apply List.eq_nil_of_length_eq_zero
                rw [h1.length,h3]
                have:k=0:=by omega
                subst this; omega
              subst this
              exact h5
            · rw [Fo hc,jJ]
              simp only at h5
              rw [Nat.add_assoc]
              exact h5
          refine ⟨ρ,.slice (some a') (dk+k) c',w',?_,?_,h6⟩
          · rw [hr]
            simp only [kH,Result.andThen_ok]
          · simp only [VR]
            exact ⟨qt,yi,lc,a',c',hl,qu,Fo,ni,rfl⟩
    | false=>
      rw [yi,cond_false] at hf
      have yi:nz < dk+k:=by
        have : ¬ (dk+k≤nz):=fun h=>by rw [Nat.ble_eq_true_of_le h] at yi; simp at yi
        omega
      cases hc:(Nat.ble ((dk+k+512) * i.bytes) 17592186044416 && Nat.ble (dk+k) 17592186044416 && qH A i.size nz bs) with
      | false=>rw [hc] at hf; simp at hf
      | true=>
        rw [hc,cond_true] at hf
        simp only [Bool.and_eq_true] at hc
        obtain ⟨⟨yh,rC⟩,hex⟩:=hc
        have yh:=Nat.le_of_ble_eq_true yh
        have rC:=Nat.le_of_ble_eq_true rC
        have U2:(dk+k) * i.bytes≤140737488355328:=by
          rw [Nat.add_mul] at yh; omega
        obtain ⟨new,nX,hf⟩:=Option.bind_eq_some_iff.1 hf
        obtain ⟨cl,h1,h2,h3,h4⟩:=xj (P:=P) tj.rel Qm nX hkk hn
        have hdr:=da.drew (w:=w) tj
        obtain ⟨ac4,g1,g2,g3,g4⟩:=xj (P:=P) hdr.dz.rel Qm nX hkk hn
        have ac5:∀ (bs' : Option Addr) (c' : Nat) (NM MC:List Value) (aW f:Nat) (K:St),K=A∨(∃ x lo hi L,K=A.kill x lo hi L)→cO ρ NM MC→(∀ v ∈ NM,scalar v=true)→NM.length=dk * i.size→
            (Builtin.firstCells i.size dk (.slice bs' dk c')).run P w.drew = .ok MC.toArray w.drew→c' < dk+k→
            ∃ ak v' w',(Builtin.append_ #[t,u] ty #[.slice bs' dk c',x']).run P w = .ok v' w'∧VR ak (.slice (some ⟨A.next,0,none⟩) (dk+k) (dk+k)) v'∧da base ρ A w ak (K.grow aW f (NM ++ new) i.size) w':=by
          intro bs' c' NM MC aW f K hK ho ho1 hol kH aL
          have hr:=MA (P:=P) t u ty e i z ht hi hz hu bs' dk c' x' k MC ac4 hlen w kH g4 aL rC (growslice_fits aL U2)
          have Jp:=grownCap_ge w (dk+k) c' e
          have hkg:da base ρ A w ρ K w.drew:=by
            rcases hK with rfl | ⟨x,lo,hi,L,rfl⟩
            · exact hdr
            · exact (Qj tj x lo hi L).trans (da.drew (Qj tj x lo hi L).dz)
          have hKn:K.next=A.next:=by
            rcases hK with rfl | ⟨x,lo,hi,L,rfl⟩
            · rfl
            · simp
          have Dp:((MC ++ ac4).toArray ++ Builtin.zeroCells z.cells (grownCap w (dk+k) c' e - (dk+k))).size=grownCap w (dk+k) c' e * i.size:=by
            rw [Array.size_append,W8,UZ,List.size_toArray,List.length_append,ho.length,g1.length,hol,g3]
            rw [← Nat.add_mul,← Nat.add_mul]
            congr 1; omega
          have Mw:=Qk (w:=w.drew) (n:=i.size) (aW:=aW) (f:=f) (c:=(MC ++ ac4).toArray ++ Builtin.zeroCells z.cells (grownCap w (dk+k) c' e - (dk+k))) e hkg.dz (ho.append g1)
            (fun v hv=>(List.mem_append.1 hv).elim (ho1 v) (g2 v)) (fun j v hj=>by
              rw [Array.getElem?_append_left (by have:=(List.getElem?_eq_some_iff.1 hj).1; simpa using this)]
              simpa using hj) (by
              rw [Dp,List.length_append,hol,g3,← Nat.add_mul]
              exact Nat.mul_le_mul_right _ Jp)
          refine ⟨_,_,_,hr,?_,hkg.trans Mw⟩
          simp only [VR]
          refine ⟨trivial,Nat.le_refl _,_,⟨w.heap.size,0,none⟩,grownCap w (dk+k) c' e,by rw [hKn]; exact ao.jF _ _ _,Jp,fun _=>rfl,?_,rfl⟩
          rw [Dp]
          show 0+0+grownCap w (dk+k) c' e * i.size≤grownCap w (dk+k) c' e * i.size
          omega
        unfold zp at hf
        cases bs with
        | none=>
          simp only at hf
          cases vY:Nat.beq dk 0 with
          | false=>rw [vY] at hf; simp at hf
          | true=>
            rw [vY,cond_true] at hf
            simp at hf
            obtain ⟨rfl,rfl⟩:=hf
            have vY:=Nat.eq_of_beq_eq_true vY
            have:=U1.gZ
            subst this
            have Dq:Builtin.firstCells i.size dk (.slice none dk nz)=pure #[]:=rfl
            exact ac5 none nz [] [] A.next 0 A (.inl rfl) .nil (by simp) (by rw [vY]; simp) (by rw [Dq]; rfl) yi
        | some a=>
          simp only at hf
          cases W9:ck a with
          | false=>rw [W9] at hf; simp at hf
          | true=>
            rw [W9,cond_true] at hf
            have qt:=abM W9
            obtain ⟨_,Dm,lc,a',c',hl,qu,Fo,ni,rfl⟩:=U1.mG
            obtain ⟨fB,hold,hf⟩:=Option.bind_eq_some_iff.1 hf
            obtain ⟨o5,q1,q2,q3,q4⟩:=rY (P:=P) hdr.dz.rel hold hl
            have kH:(Builtin.firstCells i.size dk (.slice (some a') dk c')).run P w.drew = .ok o5.toArray w.drew:=by
              simp only [Builtin.firstCells]
              by_cases hc:c' = 0
              · have vY:dk=0:=by omega
                subst vY
                have ac6:fB = []:=by rw [Nat.zero_mul] at q2; exact List.eq_nil_of_length_eq_zero q2
                subst ac6
                rw [q1.bJ,Nat.zero_mul]
                exact run_loadCells_list w.drew a' [] (by simp)
              · rw [Fo hc]; exact q4
            split at hf
            · rename_i cs bm own bo hg
              cases SP:Nat.beq bm i.size with
              | false=>rw [SP] at hf; simp at hf
              | true=>
                rw [SP,cond_true] at hf
                have SP:=Nat.eq_of_beq_eq_true SP
                subst SP
                obtain ⟨l2,kK,ok⟩:=tj.rel.row _ _ _ _ _ hg
                rw [hl] at kK; simp at kK; subst kK
                have hle:lc.bm=i.size:=ok.bm
                cases bo with
                | none=>
                  simp only at hf
                  cases own with
                  | false=>simp at hf
                  | true=>
                    simp at hf
                    obtain ⟨rfl,rfl⟩:=hf
                    have hxe:a.off+nz * i.size=cs.length:=by
                      unfold qH at hex
                      simp only [hg] at hex
                      exact Nat.eq_of_beq_eq_true hex
                    have hends:=ok.ends rfl rfl
                    have Zj:c' < dk+k:=by
                      have h9:c' * i.size≤nz * i.size:=by rw [hle] at ni; omega
                      have:=Nat.le_of_mul_le_mul_right h9 (by omega)
                      omega
                    exact ac5 (some a') c' fB o5 A.next 0 A (.inl rfl) q1 q3 q2 kH Zj
                | some p=>
                  obtain ⟨aW,f⟩:=p
                  simp only at hf
                  cases own with
                  | false=>simp at hf
                  | true=>
                    simp at hf
                    obtain ⟨rfl,rfl⟩:=hf
                    by_cases Zj:c' < dk+k
                    · exact ac5 (some a') c' fB o5 aW (f+a.off) _ (.inr ⟨_,_,_,_,rfl⟩) q1 q3 q2 kH Zj
                    ·
                      have bR:c'≠0:=by omega
                      have ha:=Fo bR
                      subst ha
                      have hr:=wH (P:=P) t u ty e i ht hi hu (some ⟨lc.cb,lc.dh+a.off,none⟩) dk c' x' k cl hlen w h4 (by omega)
                      have ov:lc.dh+a.off+dk * i.size+new.length≤lc.vc:=by
                        rw [h3]
                        rw [hle] at ni
                        have h9:(dk+k) * i.size≤c' * i.size:=Nat.mul_le_mul_right _ (by omega)
                        rw [Nat.add_mul] at h9
                        omega
                      have EK:cl.length=new.length:=h1.length
                      obtain ⟨aay,p1,p2,p3,p4⟩:=rY (P:=P) tj.rel hold hl
                      have MB:∀ (j:Nat) (v' : Value),aay[j]? = some v'→w.cell? ⟨lc.cb,lc.dh+a.off+j,none⟩=some v':=by
                        intro j v' hj
                        have aL:j < dk * i.size:=by have:=(List.getElem?_eq_some_iff.1 hj).1; rw [p1.length,p2] at this; exact this
                        have lJ:=(ok.there rfl (lc.dh+a.off+j) (by omega)).1
                        have:=OJ (P:=P) w ⟨lc.cb,lc.dh+a.off,none⟩ (dk * i.size) aay (fun j hj=>by rw [jJ]; exact (ok.there rfl (lc.dh+a.off+j) (by omega)).1) p4 j v' hj
                        rwa [jJ] at this
                      have Mw:=U0 (w:=w) (gq:=a.off) (s:=dk * i.size) tj hg hl p1 p3 p2 MB h1 h2 ov
                      have gm:(storeCells ((⟨lc.cb,lc.dh+a.off,none⟩:Addr).add (dk * i.size)) cl).run P w = .ok () (w.setCells lc.cb (lc.dh+a.off+dk * i.size) cl):=by
                        rw [jJ]
                        exact run_storeCells_cells (P:=P) lc.cb (lc.dh+a.off+dk * i.size) cl 0 w (fun j hj=>(ok.there rfl _ (by rw [EK] at hj; omega)).1) (fun j hj=>(ok.there rfl _ (by rw [EK] at hj; omega)).2) (fun v Jn=>by
                          obtain ⟨j,hj⟩:=List.getElem?_of_mem Jn
                          have aL:j < new.length:=by rw [← EK]; exact (List.getElem?_eq_some_iff.1 hj).1
                          obtain ⟨u,hu⟩:∃ u,new[j]? = some u:=⟨new[j],List.getElem?_eq_getElem aL⟩
                          obtain ⟨v2,h7,h8⟩:=h1.get hu
                          rw [hj] at h7; simp at h7; subst h7
                          exact h8.scalar (h2 u (List.mem_of_getElem? hu)))
                      refine ⟨_,.slice (some ⟨lc.cb,lc.dh+a.off,none⟩) (dk+k) c',_,by rw [hr]; simp only [gm,Result.andThen_ok],?_,Mw⟩
                      simp only [VR]
                      refine ⟨trivial,Nat.le_refl _,_,_,c',ao.jF _ _ _,by omega,fun _=>rfl,?_,rfl⟩
                      show lc.dh+a.off+0+c' * i.size≤lc.vc
                      rw [hle] at ni
                      omega
            · simp at hf
  · simp at hf
theorem abN {argTypes:Array TypeId} {t u:TypeId} (h:argTypes.toList = [t,u]):argTypes = #[t,u]:=by
  apply Array.ext'
  simpa using h
theorem Zl {argTypes:Array TypeId} {args:Array Operand} (ho:o.op = .call ⟨.builtin .append,args,argTypes⟩):fC P o (Da P argTypes.toList args.toList):=by
  unfold Da
  split
  · rename_i t u tW
    split
    · rename_i e ht
      split
      · rename_i i hi
        split
        · rename_i z hz
          cases hc:(Nat.ble 1 i.size && Nat.beq z.cells.size i.size && C9 P u) with
          | false=>exact True.intro
          | true=>
            rw [cond_true]
            simp only [Bool.and_eq_true] at hc
            obtain ⟨⟨h1,h2⟩,h3⟩:=hc
            intro ρ A B base w ev cr v hs he hf
            have hf0:=hf
            unfold kM at hf0
            split at hf0
            · rename_i bs dk nz x e1
              have hm:=he.map
              rw [e1] at hm hf
              obtain ⟨s',r1,e2,U1,hm⟩:=hm.cons_inv
              obtain ⟨x',r2,e3,Qm,hm⟩:=hm.cons_inv
              have:=hm.bJ
              subst this e3
              obtain ⟨ak,v',w',h4,h5,h6⟩:=Ql (ty:=o.type) ht hi hz h3 (Nat.le_of_ble_eq_true h1) (Nat.eq_of_beq_eq_true h2) hs U1 Qm hf
              refine ⟨ak,v',.value v',w',?_,rfl,h5,h6⟩
              have e4:args.map cr = #[s',x']:=by apply Array.ext'; simpa using e2
              have e5:=abN tW
              subst e5
              simp only [execOp,ho,Sem.run_bind,resolve,Sem.run_pure,Result.andThen_ok,invoke,builtin,e4,h4]
            · simp at hf0
        · trivial
      · trivial
    · trivial
  · trivial
theorem ac7 {argTypes:Array TypeId} {args:Array Operand} (ho:o.op = .call ⟨.builtin .copy,args,argTypes⟩):fC P o (Kl P argTypes.toList args.toList):=by
  unfold Kl
  split
  · rename_i t rest tW
    have Er:argTypes[0]? = some t:=by rw [← Array.getElem?_toList,tW]; rfl
    split
    · rename_i e ht
      split
      · rename_i n hn
        cases B8:Nat.ble 1 n with
        | false=>exact True.intro
        | true=>
          rw [cond_true]
          have B8:1≤n:=Nat.le_of_ble_eq_true B8
          intro ρ A B base w ev cr v hs he hf
          unfold PJ at hf
          split at hf
          · rename_i bs Kk dCap x e1
            have hm:=he.map
            rw [e1] at hm
            obtain ⟨s',r1,e2,U1,hm⟩:=hm.cons_inv
            obtain ⟨x',r2,e3,Qm,hm⟩:=hm.cons_inv
            have:=hm.bJ
            subst this e3
            have e4:args.map cr = #[s',x']:=by apply Array.ext'; simpa using e2
            obtain ⟨k,hk,hf⟩:=Option.bind_eq_some_iff.1 hf
            have hlen:=NL Qm hk
            obtain ⟨new,nX,hf⟩:=Option.bind_eq_some_iff.1 hf
            obtain ⟨cl,h1,h2,h3,h4⟩:=xj (P:=P) hs.rel Qm nX (fun m h=>by rw [hk] at h; simp at h; subst h; exact Nat.min_le_left _ _) B8
            cases bs with
            | none=>
              simp at hf
              obtain ⟨rfl,rfl⟩:=hf
              have:=U1.gZ
              subst this
              refine ⟨ρ,goInt (Nat.min k Kk),.value (goInt (Nat.min k Kk)),w,?_,rfl,VR.of_flat rfl,.refl hs⟩
              simp [execOp,ho,resolve,invoke,builtin,e4,Builtin.copy_,Er,bb ht,hlen,mu hn,h4]
            | some a=>
              simp only at hf
              obtain ⟨B',gm,hf⟩:=Option.map_eq_some_iff.1 hf
              simp at hf
              obtain ⟨rfl,rfl⟩:=hf
              obtain ⟨qt,Dm,lc,a',c',hl,qu,Fo,ni,rfl⟩:=U1.mG
              obtain ⟨w',h5,h6⟩:=xi (P:=P) hs gm hl h1
              have kH:(storeCells a' cl).run P w = .ok () w':=by
                by_cases hc:c' = 0
                · have:cl = []:=by
                    apply List.eq_nil_of_length_eq_zero
                    rw [h1.length,h3]
                    have:Kk=0:=by omega
                    subst this; simp
                  subst this
                  exact h5
                · rw [Fo hc]; exact h5
              refine ⟨ρ,goInt (Nat.min k Kk),.value (goInt (Nat.min k Kk)),w',?_,rfl,VR.of_flat rfl,h6⟩
              simp [execOp,ho,resolve,invoke,builtin,e4,Builtin.copy_,Er,bb ht,hlen,mu hn,h4,kH]
          · simp at hf
      · trivial
    · trivial
  · trivial
end
end Go.av
end
