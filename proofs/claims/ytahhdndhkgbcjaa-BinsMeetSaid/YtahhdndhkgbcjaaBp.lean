/- Part of the proof of BinsMeet: a machine that runs the program's code over open terms, shown to be the model's, and the plain models of its functions. No conditions. -/
import Derived.Test.YtahhdndhkgbcjaaAp
import Derived.Below
import Derived.Laws.Slices
import Derived.Laws.MakeOwn
import Derived.Laws.AppendOwn
section
namespace Go.aV
open Go
def bf.bO:bf→Bool
  | .row _ _ own _=>own
  | .map _=>true
  | .iter _ _=>true
  | .dead=>false
  | .loop _ _ _ _ _ _=>true
def bf.fJ:bf→Option (Nat×Nat)
  | .row _ _ _ a9=>a9
  | _=>none
def dG (ρ:aw):List (Value×Value)→List MapEntry→Prop
  | [],l=>l = []
  | (k,v) :: es,l=>∃ e r,l=e :: r∧VR ρ k e.key∧VR ρ v e.val∧dG ρ es r
structure uF (ρ:aw) (base:Nat) (w:World) (l:Loc) (cs:List Value) (a8:Nat) (own:Bool) (a9:Option (Nat×Nat)):Prop where
  cells:∀ (i:Nat) (v:Value),cs[i]? = some v→∃ v',w.cell? ⟨l.cb,l.cd+i,none⟩=some v'∧VR ρ v v'∧scalar v=true
  kv:own=false→l.cb < base
  bO:own=true→base≤l.cb
  there:own=true→∀ j,j < l.sV→(w.cell? ⟨l.cb,j,none⟩).isSome=true∧w.frozen? ⟨l.cb,j,none⟩=false
  fits:l.cd+cs.length≤l.sV
  ends:own=true→a9=none→l.cd+cs.length=l.sV
  a8:l.a8=a8
  gL:l.cb < w.heap.size
  mark:own=true→l.a8≠1→∀ j,w.frozen? ⟨l.cb,j,none⟩=false
structure Jw (ρ:aw) (base:Nat) (w:World) (l:Loc) (es:List (Value×Value)):Prop where
  bO:base≤l.cb
  gL:∃ aU clock,w.heap[l.cb]? = some (.map aU clock)∧dG ρ es aU.toList
structure K0 (base:Nat) (w:World) (l:Loc) (s:List UInt8) (pos:Nat):Prop where
  bO:base≤l.cb
  gL:l.cd=0∧w.heap[l.cb]? = some (.stringIter ⟨⟨s⟩⟩ pos)
def au.code:au→Option Code
  | .normal=>none
  | .exit id=>some (.exit id)
  | .goto l=>some (.goto l)
  | .ret=>some .ret
def Cj:Nat→LoopState
  | 0=>.ready
  | 1=>.busy
  | _=>.done
structure TmR (ρ:aw) (t:Trie Value) (N:Nat) (tmps:Array Value) (ps:List Nat) (assign body:Code):Prop where
  size:tmps.size=N
  val:∀ i,VR ρ ((t.get i).getD undef) (tmps.getD i undef)
  none:∀ i,N≤i→t.get i=Option.none
  abY:ps.all (fun p=>Nat.blt p N)=true∧codeOk N assign=true∧codeOk N body=true∧dp assign=true∧dp body=true
theorem TmR.mono {ρ aq:aw} (h:ρ.le aq) {t:Trie Value} {N:Nat} {tmps:Array Value} {ps:List Nat} {a b:Code} (k:TmR ρ t N tmps ps a b):TmR aq t N tmps ps a b:=⟨k.size,fun i=>(k.val i).mono h,k.none,k.abY⟩
structure yM (ρ:aw) (base:Nat) (w:World) (l:Loc) (st:Nat) (e:au) (t:Trie Value) (ps:List Nat) (assign body:Code):Prop where
  bO:base≤l.cb
  gL:∃ fn tmps D N,w.heap[l.cb]? = some (.loop { state:=Cj st,pending:=e.code,fn:=fn,tmps:=tmps,params:=ps.toArray,assign:=assign,body:=body,defers:=D })∧TmR ρ t N tmps ps assign body
structure Rel (ρ:aw) (get:Nat→Option bf) (mem:Nat→List Nat) (base:Nat) (w:World):Prop where
  row:∀ b cs a8 own a9,get b=some (.row cs a8 own a9)→∃ l,ρ b=some l∧uF ρ base w l cs a8 own a9
  map:∀ b es,get b=some (.map es)→∃ l,ρ b=some l∧Jw ρ base w l es
  iter:∀ b s pos,get b=some (.iter s pos)→∃ l,ρ b=some l∧K0 base w l s pos
  loop:∀ b st e t ps a c,get b=some (.loop st e t ps a c)→∃ l,ρ b=some l∧yM ρ base w l st e t ps a c
  apart:∀ b1 b2 o1 o2 l1 l2,b1≠b2→get b1=some o1→get b2=some o2→o1.bO=true→o2.bO=true→ρ b1=some l1→ρ b2=some l2→l1.cb=l2.cb→
    ∃ aJ f1 f2,o1.fJ=some (aJ,f1)∧o2.fJ=some (aJ,f2)∧l1.cd+f2=l2.cd+f1
  aW:∀ b o aJ f,get b=some o→o.fJ=some (aJ,f)→b ∈ mem aJ
def K1 (ρ:aw):Prop:=∀ g,g < gB→∃ l,ρ g=some l∧l.cb=g∧l.cd=0
theorem K1.mono {ρ aq:aw} (h:K1 ρ) (k:ρ.le aq):K1 aq:=fun g hg=>by
  obtain ⟨l,e,h2⟩:=h g hg
  exact ⟨l,k g l e,h2⟩
theorem K1.ev {ρ:aw} (h:K1 ρ) (g:Nat):VR ρ (abK g) (.pointer (some ⟨g,0,none⟩)):=by
  unfold abK
  cases hb:Nat.blt g gB with
  | false=>simp [VR]
  | true=>
    obtain ⟨⟨cb,co,cs,es⟩,e,h1,h2⟩:=h g (Nat.le_of_ble_eq_true hb)
    simp only at h1 h2
    subst h1; subst h2
    exact ⟨rfl,_,e,rfl⟩
structure fU (ρ:aw) (A:St) (base:Nat) (w:World):Prop where
  rel:Rel ρ A.get A.members base w
  eS:∀ b l,ρ b=some l→b < A.next
  size:base≤w.heap.size
  jO:K1 ρ
def AU (ρ:aw) (A:St) (k:Nat):Prop:=∃ b o l,A.get b=some o∧o.bO=true∧ρ b=some l∧l.cb=k
structure Kept (ρ:aw) (A:St) (w w' : World):Prop where
  os:w'.os=w.os
  tape:w'.tape=w.tape
  output:w'.output=w.output
  size:w.heap.size≤w'.heap.size
  block:∀ k,k < w.heap.size→¬ AU ρ A k→w'.heap[k]? = w.heap[k]?
structure b7 (base:Nat) (ρ:aw) (A:St) (w:World) (aq:aw) (B:St) (w' : World):Prop where
  cW:fU aq B base w'
  ext:∀ b,b < A.next→aq b=ρ b
  kept:Kept ρ A w w'
  next:A.next≤B.next
  low:B.low≤A.low
  same:∀ b,b < A.next→b < B.low→B.get b=A.get b
  SA:∀ k,k < w.heap.size→AU aq B k→AU ρ A k
theorem Kept.refl (ρ:aw) (A:St) (w:World):Kept ρ A w w:=⟨rfl,rfl,rfl,Nat.le_refl _,fun _ _ _=>rfl⟩
theorem b7.refl {base:Nat} {ρ:aw} {A:St} {w:World} (h:fU ρ A base w):b7 base ρ A w ρ A w:=
  ⟨h,fun _ _=>rfl,.refl _ _ _,Nat.le_refl _,Nat.le_refl _,fun _ _ _=>rfl,fun _ _ h=>h⟩
theorem b7.trans {base:Nat} {ρ aq iP:aw} {A B C:St} {w w' sX:World} (h:b7 base ρ A w aq B w') (k:b7 base aq B w' iP C sX):b7 base ρ A w iP C sX where
  cW:=k.cW
  ext b hb:=(k.ext b (Nat.lt_of_lt_of_le hb h.next)).trans (h.ext b hb)
  kept:={
    os:=k.kept.os.trans h.kept.os
    tape:=k.kept.tape.trans h.kept.tape
    output:=k.kept.output.trans h.kept.output
    size:=Nat.le_trans h.kept.size k.kept.size
    block:=fun i hi hn=>(k.kept.block i (Nat.lt_of_lt_of_le hi h.kept.size) (fun hk=>hn (h.SA i hi hk))).trans (h.kept.block i hi hn) }
  next:=Nat.le_trans h.next k.next
  low:=Nat.le_trans k.low h.low
  same b hb hl:=(k.same b (Nat.lt_of_lt_of_le hb h.next) hl).trans (h.same b hb (Nat.lt_of_lt_of_le hl k.low))
  SA i hi hk:=h.SA i hi (k.SA i (Nat.lt_of_lt_of_le hi h.kept.size) hk)
theorem b7.le {base:Nat} {ρ aq:aw} {A B:St} {w w' : World} (h:b7 base ρ A w aq B w') (hs:fU ρ A base w):ρ.le aq:=
  fun b l e=>by rw [h.ext b (hs.eS b l e)]; exact e
@[simp] theorem St.bt (A:St) (b:Nat) (o:bf) (x:Nat):(A.put b o).get x=if x=b then some o else A.get x:=by
  simp [St.put,St.get,Trie.fv]
@[simp] theorem St.mR (A:St) (b:Nat) (o:bf):(A.put b o).members=A.members:=rfl
@[simp] theorem St.uG (A:St) (b:Nat) (o:bf):(A.put b o).next=A.next:=rfl
theorem St.K2 (A:St) (b:Nat) (o:bf):(A.put b o).low=Nat.min A.low b:=rfl
@[simp] theorem St.bR (A:St) (o:bf) (x:Nat):(A.new o).get x=if x=A.next then some o else A.get x:=by
  simp [St.new,St.get,Trie.fv]
@[simp] theorem St.gF (A:St) (o:bf):(A.new o).members=A.members:=rfl
@[simp] theorem St.bz (A:St) (o:bf):(A.new o).next=A.next+1:=rfl
@[simp] theorem St.low_new (A:St) (o:bf):(A.new o).low=A.low:=rfl
@[simp] theorem St.get_join (A:St) (f b x:Nat):(A.join f b).get x=A.get x:=rfl
@[simp] theorem St.next_join (A:St) (f b:Nat):(A.join f b).next=A.next:=rfl
@[simp] theorem St.low_join (A:St) (f b:Nat):(A.join f b).low=A.low:=rfl
theorem St.vp (A:St) (f b x:Nat):(A.join f b).members x=if x=f then b :: A.members f else A.members x:=by
  simp only [St.join,St.members,Trie.fv]
  split <;> rfl
theorem ZS (lo hi:Nat):lG (some .dead) lo hi=false:=rfl
theorem uH (b lo hi x:Nat):∀ (L:List Nat) (A:St),(A.kill b lo hi L).get x=if x ∈ L∧x≠b∧lG (A.get x) lo hi=true then some .dead else A.get x
  | [],A=>by simp [St.kill]
  | y :: L,A=>by
    simp only [St.kill]
    cases hc:(!(Nat.beq y b) && lG (A.get y) lo hi) with
    | true=>
      simp only [Bool.and_eq_true,Bool.not_eq_true'] at hc
      have hyb:y≠b:=Nat.ne_of_beq_eq_false hc.1
      rw [cond_true,uH b lo hi x L]
      by_cases sW:x=y
      · subst sW
        simp [ZS,hyb,hc.2]
      · simp [sW]
    | false=>
      rw [cond_false,uH b lo hi x L]
      by_cases sW:x=y
      · subst sW
        have : ¬(x≠b∧lG (A.get x) lo hi=true):=by
          rintro ⟨h1,h2⟩
          rw [h2,Bool.and_true,Bool.not_eq_false'] at hc
          exact h1 (Nat.eq_of_beq_eq_true hc)
        rw [if_neg (fun h=>this ⟨h.2.1,h.2.2⟩),if_neg (fun h=>this ⟨h.2.1,h.2.2⟩)]
      · simp [sW]
@[simp] theorem zA (b lo hi:Nat):∀ (L:List Nat) (A:St),(A.kill b lo hi L).members=A.members
  | [],A=>rfl
  | y :: L,A=>by simp only [St.kill]; cases (!(Nat.beq y b) && lG (A.get y) lo hi) <;> simp [zA b lo hi L]
@[simp] theorem Ck (b lo hi:Nat):∀ (L:List Nat) (A:St),(A.kill b lo hi L).next=A.next
  | [],A=>rfl
  | y :: L,A=>by simp only [St.kill]; cases (!(Nat.beq y b) && lG (A.get y) lo hi) <;> simp [Ck b lo hi L]
theorem AV (b lo hi:Nat):∀ (L:List Nat) (A:St),(A.kill b lo hi L).low≤A.low∧∀ x,(A.kill b lo hi L).get x≠A.get x→(A.kill b lo hi L).low≤x
  | [],A=>⟨Nat.le_refl _,fun x h=>absurd rfl h⟩
  | y :: L,A=>by
    simp only [St.kill]
    cases hc:(!(Nat.beq y b) && lG (A.get y) lo hi) with
    | true=>
      rw [cond_true]
      obtain ⟨h1,h2⟩:=AV b lo hi L (A.put y .dead)
      rw [St.K2] at h1
      have hle:Nat.min A.low y≤A.low:=Nat.min_le_left _ _
      refine ⟨Nat.le_trans h1 hle,fun x hx=>?_⟩
      by_cases sW:x=y
      · subst sW
        exact Nat.le_trans h1 (Nat.min_le_right _ _)
      · exact h2 x (by simpa [sW] using hx)
    | false=>
      rw [cond_false]
      exact AV b lo hi L A
theorem xP (b:Nat):∀ (vs:List Value) (o:Nat) (w:World),(w.setCells b o vs).heap.size=w.heap.size
  | [],_,_=>rfl
  | v :: r,o,w=>by rw [World.setCells,xP b r]; simp
theorem mS (b:Nat):∀ (vs:List Value) (o:Nat) (w:World),(w.setCells b o vs).os=w.os∧(w.setCells b o vs).tape=w.tape∧(w.setCells b o vs).output=w.output
  | [],_,_=>⟨rfl,rfl,rfl⟩
  | v :: r,o,w=>by rw [World.setCells]; exact mS b r (o+1) _
theorem ic (b:Nat) {k:Nat} (hk:k≠b):∀ (vs:List Value) (o:Nat) (w:World),(w.setCells b o vs).heap[k]? = w.heap[k]?
  | [],_,_=>rfl
  | v :: r,o,w=>by rw [World.setCells,ic b hk r]; exact RowKit.Below.heap_setCell _ _ _ _ hk
theorem Q7 (w:World) (a x:Addr) (v:Value):((w.setCell a v).cell? x).isSome=(w.cell? x).isSome:=by
  by_cases h:a=x
  · subst h
    cases hc:w.cell? a with
    | some u=>rw [World.cell?_setCell_same _ _ _ hc]; rfl
    | none=>
      simp only [World.setCell,World.cell?,Array.getElem?_modify,if_true] at hc ⊢
      cases hh:w.heap[a.block]? with
      | none=>simp
      | some o=>
        rw [hh] at hc
        cases o <;> simp at hc ⊢
        intro h1
        simpa [h1] using hc h1
  · rw [World.cell?_setCell_other _ _ _ _ h]
theorem uI (b:Nat) (x:Addr):∀ (vs:List Value) (o:Nat) (w:World),((w.setCells b o vs).cell? x).isSome=(w.cell? x).isSome
  | [],_,_=>rfl
  | v :: r,o,w=>by rw [World.setCells,uI b x r,Q7]
theorem K3 {ρ:aw} (F:Nat→Option Value):∀ (cs:List Value) (i:Nat),(∀ j v,cs[j]? = some v→∃ v',F (i+j)=some v'∧VR ρ v v')→
    ∃ bk,bS ρ cs bk∧∀ (j:Nat) (v' : Value),bk[j]? = some v'→F (i+j)=some v'
  | [],_,_=>⟨[],.nil,by simp⟩
  | x :: xs,i,h=>by
    obtain ⟨y,hy,hv⟩:=h 0 x rfl
    obtain ⟨ys,h1,h2⟩:=K3 F xs (i+1) (fun j v e=>by have:=h (j+1) v (by simpa using e); rwa [show i+(j+1)=i+1+j by omega] at this)
    refine ⟨y :: ys,.cons hv h1,fun j v' e=>?_⟩
    cases j with
    | zero=>simp at e; subst e; exact hy
    | succ j=>rw [show i+(j+1)=i+1+j by omega]; exact h2 j v' (by simpa using e)
theorem gu (b o j:Nat):(⟨b,o,none⟩:Addr).add j=⟨b,o+j,none⟩:=by unfold Addr.add; split <;> simp_all
theorem VR.eF {ρ:aw} {a:Addr} {v:Value} (h:VR ρ (.pointer (some a)) v):a.spot=none∧∃ l,ρ a.block=some l∧v = .pointer (some ⟨l.cb,l.cd+a.off,none⟩):=by simpa only [VR] using h
theorem pn {P:Program} {ρ:aw} {A:St} {base:Nat} {w:World} {a:Addr} {n:Nat} {cs:List Value} {l:Loc} (hs:Rel ρ A.get A.members base w) (hl:A.oJ a n=some cs) (eK:ρ a.block=some l) :
    ∃ bk,bS ρ cs bk∧cs.length=n∧(∀ v ∈ cs,scalar v=true)∧(loadCells ⟨l.cb,l.cd+a.off,none⟩ n).run P w = .ok bk.toArray w:=by
  simp only [St.oJ] at hl
  cases hp:bA a with
  | false=>simp [hp] at hl
  | true=>
    rw [hp,cond_true] at hl
    obtain ⟨ie,h1,h2⟩:=Option.bind_eq_some_iff.1 hl
    simp only [pf] at h1
    split at h1
    · rename_i c e o a9 hg
      simp at h1; subst h1
      rw [mf] at h2
      obtain ⟨rfl,hlen⟩:=Hb h2
      obtain ⟨l',gN,ok⟩:=hs.row _ _ _ _ _ hg
      rw [eK] at gN; simp at gN; subst gN
      have eM:∀ (j:Nat) (v:Value),((c.drop a.off).take n)[j]? = some v→j < n∧c[a.off+j]? = some v:=by
        intro j v e
        rw [List.getElem?_take] at e
        split at e
        · rename_i hj; rw [List.getElem?_drop] at e; exact ⟨hj,e⟩
        · simp at e
      obtain ⟨bk,hr,hc⟩:=K3 (ρ:=ρ) (fun j=>w.cell? ⟨l.cb,l.cd+a.off+j,none⟩) ((c.drop a.off).take n) 0 (fun j v e=>by
        obtain ⟨v',h3,h4,_⟩:=ok.cells _ _ (eM j v e).2
        exact ⟨v',by rw [Nat.zero_add,Nat.add_assoc]; exact h3,h4⟩)
      have hn:bk.length=n:=by rw [hr.length,List.length_take,Nat.min_eq_left hlen]
      refine ⟨bk,hr,by rw [List.length_take,Nat.min_eq_left hlen],fun v hv=>?_,?_⟩
      · obtain ⟨j,hj⟩:=List.getElem?_of_mem hv
        exact (ok.cells _ _ (eM j v hj).2).choose_spec.2.2
      · have:=run_loadCells_list (P:=P) w ⟨l.cb,l.cd+a.off,none⟩ bk (fun j v e=>by rw [gu]; simpa using hc j v e)
        rwa [hn] at this
    · simp at h1
theorem K4 {o:bf} {cs:List Value} {e:Nat} {own:Bool} {aJ f lo hi:Nat} (ho:o = .row cs e own (some (aJ,f))) (h:lG (some o) lo hi=false) :
    f+cs.length≤lo∨hi≤f:=by
  subst ho
  simp only [lG,meets,Bool.and_eq_false_iff] at h
  rcases h with h | h
  · left
    have : ¬ lo < f+cs.length:=fun aY=>by rw [show Nat.blt _ _=true from by rw [Nat.blt_eq]; exact aY] at h; simp at h
    omega
  · right
    have : ¬ f < hi:=fun aY=>by rw [show Nat.blt _ _=true from by rw [Nat.blt_eq]; exact aY] at h; simp at h
    omega
theorem XP {ρ:aw} {A:St} {base:Nat} {w:World} {b off a8:Nat} {cs bk vs bN:List Value} {a9:Option (Nat×Nat)} {l:Loc}
    (hs:fU ρ A base w) (hg:A.get b=some (.row cs a8 true a9)) (hw:dr off cs vs=some bk) (hv:bS ρ vs bN) (h1:∀ v ∈ vs,scalar v=true) (eK:ρ b=some l) :
    b7 base ρ A w ρ ((A.put b (.row bk a8 true a9)).cl b a9 off (off+vs.length)) (w.setCells l.cb (l.cd+off) bN):=by
  obtain ⟨l',gN,ok⟩:=hs.rel.row _ _ _ _ _ hg
  rw [eK] at gN; simp at gN; subst gN
  obtain ⟨hlen,j8,eM⟩:=eJ hw
  have El:bN.length=vs.length:=hv.length
  have hB:∀ x,((A.put b (.row bk a8 true a9)).cl b a9 off (off+vs.length)).get x =
      if x=b then some (.row bk a8 true a9) else
        (match a9 with
        | none=>A.get x
        | some (aJ,f)=>if x ∈ A.members aJ∧lG (A.get x) (f+off) (f+(off+vs.length))=true then some .dead else A.get x):=by
    intro x
    cases a9 with
    | none=>simp [St.cl]
    | some p=>
      obtain ⟨aJ,f⟩:=p
      simp only [St.cl,uH,St.mR,St.bt]
      by_cases hx:x=b
      · simp [hx]
      · simp [hx]
  have ig:((A.put b (.row bk a8 true a9)).cl b a9 off (off+vs.length)).members=A.members:=by
    cases a9 <;> simp [St.cl]
  have eN:((A.put b (.row bk a8 true a9)).cl b a9 off (off+vs.length)).next=A.next:=by
    cases a9 <;> simp [St.cl]
  have K5:((A.put b (.row bk a8 true a9)).cl b a9 off (off+vs.length)).low≤Nat.min A.low b∧
      ∀ x,x≠b→((A.put b (.row bk a8 true a9)).cl b a9 off (off+vs.length)).get x≠A.get x→((A.put b (.row bk a8 true a9)).cl b a9 off (off+vs.length)).low≤x:=by
    cases a9 with
    | none=>exact ⟨Nat.le_refl _,fun x hx h=>absurd (by simp [St.cl,hx]) h⟩
    | some p=>
      obtain ⟨h2,h3⟩:=AV b (p.2+off) (p.2+(off+vs.length)) ((A.put b (.row bk a8 true (some p))).members p.1) (A.put b (.row bk a8 true (some p)))
      exact ⟨h2,fun x hx h=>h3 x (by simpa [St.cl,hx] using h)⟩
  generalize (A.put b (.row bk a8 true a9)).cl b a9 off (off+vs.length)=B at hB ig eN K5
  have kG:∀ x o,x≠b→B.get x=some o→o≠.dead→A.get x=some o∧∀ aJ f,a9=some (aJ,f)→x ∈ A.members aJ→lG (some o) (f+off) (f+(off+vs.length))=false:=by
    intro x o hx ho hd
    rw [hB,if_neg hx] at ho
    cases a9 with
    | none=>exact ⟨ho,fun _ _ h=>by simp at h⟩
    | some p=>
      obtain ⟨aJ,f⟩:=p
      simp only at ho
      split at ho
      · simp at ho; exact absurd ho.symm hd
      · rename_i hc
        refine ⟨ho,fun fam' f' h hm=>?_⟩
        simp at h
        obtain ⟨rfl,rfl⟩:=h
        rw [← ho]
        cases hX:lG (A.get x) (f+off) (f+(off+vs.length)) with
        | false=>rfl
        | true=>exact absurd ⟨hm,hX⟩ hc
  have Hc:bf.bO (.row cs a8 true a9)=true:=rfl
  have iY:∀ x:Addr,(x.block=l.cb→x.spot=none→x.off < l.cd+off∨l.cd+off+bN.length≤x.off)→(w.setCells l.cb (l.cd+off) bN).cell? x=w.cell? x:=
    fun x h=>World.cell?_setCells_out _ _ _ _ _ h
  have SB:∀ x,((w.setCells l.cb (l.cd+off) bN).cell? x).isSome=(w.cell? x).isSome:=fun x=>uI _ _ _ _ _
  have sY:∀ x,(w.setCells l.cb (l.cd+off) bN).frozen? x=w.frozen? x:=fun x=>World.frozen?_setCells _ _ _ _ _
  have cA:(w.setCells l.cb (l.cd+off) bN).heap.size=w.heap.size:=xP _ _ _ _
  have ET:∀ x gP e2 yN mg l2,x≠b→B.get x=some (.row gP e2 yN mg)→ρ x=some l2→uF ρ base w l2 gP e2 yN mg→∀ i,i < gP.length→
      (w.setCells l.cb (l.cd+off) bN).cell? ⟨l2.cb,l2.cd+i,none⟩=w.cell? ⟨l2.cb,l2.cd+i,none⟩:=by
    intro x gP e2 yN mg l2 hx dy afo dZ i hi
    refine iY _ (fun hbl _=>?_)
    simp only at hbl ⊢
    obtain ⟨hA,hX⟩:=kG x _ hx dy (by simp)
    cases yN with
    | false=>have h3:=dZ.kv rfl; have h4:=ok.bO rfl; omega
    | true=>
      obtain ⟨aJ,f1,f2,e1,e2',e3⟩:=hs.rel.apart x b _ _ l2 l hx hA hg rfl Hc afo eK hbl
      simp only [bf.fJ] at e1 e2'
      subst e1 e2'
      have hm:=hs.rel.aW x _ aJ f1 hA rfl
      have:=K4 rfl (hX aJ f2 rfl hm)
      rw [El]
      omega
  refine ⟨⟨⟨?_,?_,?_,?_,?_,?_⟩,?_,?_,hs.jO⟩,fun _ _=>rfl,⟨(mS _ _ _ _).1,(mS _ _ _ _).2.1,(mS _ _ _ _).2.2,Nat.le_of_eq cA.symm,?_⟩,?_,?_,?_,?_⟩
  · intro x gP e2 yN mg dy
    by_cases hx:x=b
    · subst hx
      rw [hB,if_pos rfl] at dy
      simp at dy
      obtain ⟨rfl,rfl,rfl,rfl⟩:=dy
      refine ⟨l,eK,⟨fun i v hi=>?_,ok.kv,ok.bO,fun h j hj=>?_,by rw [hlen]; exact ok.fits,fun h h'=>by rw [hlen]; exact ok.ends h h',ok.a8,by rw [cA]; exact ok.gL,fun h1 h2 j=>by rw [sY]; exact ok.mark h1 h2 j⟩⟩
      · rw [eM] at hi
        split at hi
        · rename_i hc
          obtain ⟨v',AW,Q8⟩:=hv.get hi
          refine ⟨v',?_,Q8,h1 v (List.mem_of_getElem? hi)⟩
          have aY:i - off < bN.length:=by rw [El]; omega
          have:=World.cell?_setCells_in l.cb bN (l.cd+off) w (fun j hj=>by
            have bo:vs≠[]:=by intro e; subst e; simp at El; rw [El] at hj; simp at hj
            have h5:=j8 bo
            have h6:=ok.fits
            exact (ok.there rfl (l.cd+off+j) (by rw [El] at hj; omega)).1) (i - off) aY
          rw [show l.cd+off+(i - off)=l.cd+i by omega] at this
          rw [this]
          rw [← AW,List.getElem?_eq_getElem aY]
        · rename_i hc
          obtain ⟨v',AW,Q8,hv3⟩:=ok.cells i v hi
          refine ⟨v',?_,Q8,hv3⟩
          rw [iY]
          · exact AW
          · intro _ _
            simp only
            rw [El]
            omega
      · rw [SB,sY]; exact ok.there h j hj
    · obtain ⟨hA,_⟩:=kG x _ hx dy (by simp)
      obtain ⟨l2,hY,dZ⟩:=hs.rel.row _ _ _ _ _ hA
      refine ⟨l2,hY,⟨fun i v hi=>?_,dZ.kv,dZ.bO,fun h j hj=>?_,dZ.fits,dZ.ends,dZ.a8,by rw [cA]; exact dZ.gL,fun h1 h2 j=>by rw [sY]; exact dZ.mark h1 h2 j⟩⟩
      · rw [ET x _ _ _ _ l2 hx dy hY dZ i (List.getElem?_eq_some_iff.1 hi).1]; exact dZ.cells i v hi
      · rw [SB,sY]; exact dZ.there h j hj
  · intro x es dy
    have hx:x≠b:=by intro e; subst e; rw [hB,if_pos rfl] at dy; simp at dy
    obtain ⟨hA,_⟩:=kG x _ hx dy (by simp)
    obtain ⟨l2,hY,dZ⟩:=hs.rel.map _ _ hA
    refine ⟨l2,hY,⟨dZ.bO,?_⟩⟩
    obtain ⟨aU,clock,h3,h4⟩:=dZ.gL
    refine ⟨aU,clock,?_,h4⟩
    rw [ic]
    · exact h3
    · intro e
      obtain ⟨_,_,_,e1,_⟩:=hs.rel.apart x b _ _ l2 l hx hA hg rfl Hc hY eK e
      simp [bf.fJ] at e1
  · intro x s pos dy
    have hx:x≠b:=by intro e; subst e; rw [hB,if_pos rfl] at dy; simp at dy
    obtain ⟨hA,_⟩:=kG x _ hx dy (by simp)
    obtain ⟨l2,hY,dZ⟩:=hs.rel.iter _ _ _ hA
    refine ⟨l2,hY,⟨dZ.bO,dZ.gL.1,?_⟩⟩
    rw [ic]
    · exact dZ.gL.2
    · intro e
      obtain ⟨_,_,_,e1,_⟩:=hs.rel.apart x b _ _ l2 l hx hA hg rfl Hc hY eK e
      simp [bf.fJ] at e1
  · intro x st e t ps a c dy
    have hx:x≠b:=by intro e; subst e; rw [hB,if_pos rfl] at dy; simp at dy
    obtain ⟨hA,_⟩:=kG x _ hx dy (by simp)
    obtain ⟨l2,hY,dZ⟩:=hs.rel.loop _ _ _ _ _ _ _ hA
    refine ⟨l2,hY,⟨dZ.bO,?_⟩⟩
    obtain ⟨fn,tmps,D,N,h3,h4⟩:=dZ.gL
    refine ⟨fn,tmps,D,N,?_,h4⟩
    rw [ic]
    · exact h3
    · intro e
      obtain ⟨_,_,_,e1,_⟩:=hs.rel.apart x b _ _ l2 l hx hA hg rfl Hc hY eK e
      simp [bf.fJ] at e1
  ·
    have EU:∀ x o,B.get x=some o→o.bO=true→∃ o',A.get x=some o'∧o'.bO=true∧o'.fJ=o.fJ:=by
      intro x o hx hm
      by_cases K6:x=b
      · subst K6
        rw [hB,if_pos rfl] at hx
        simp at hx
        subst hx
        exact ⟨_,hg,rfl,rfl⟩
      · exact ⟨o,(kG x o K6 hx (by intro e; subst e; simp [bf.bO] at hm)).1,hm,rfl⟩
    intro b1 b2 o1 o2 l1 l2 bo h1' AX m1 m2 r1 r2 vU
    obtain ⟨p1,g1,n1,k1⟩:=EU _ _ h1' m1
    obtain ⟨p2,g2,n2,k2⟩:=EU _ _ AX m2
    rw [← k1,← k2]
    exact hs.rel.apart b1 b2 p1 p2 l1 l2 bo g1 g2 n1 n2 r1 r2 vU
  ·
    intro x o aJ f hx hk
    rw [ig]
    by_cases K6:x=b
    · subst K6
      rw [hB,if_pos rfl] at hx
      simp at hx
      subst hx
      exact hs.rel.aW x _ aJ f hg hk
    · exact hs.rel.aW x o aJ f (kG x o K6 hx (by intro e; subst e; simp [bf.fJ] at hk)).1 hk
  · intro x l2 hx; rw [eN]; exact hs.eS x l2 hx
  · rw [cA]; exact hs.size
  · intro k hk hn
    refine ic _ (fun e=>hn ⟨b,_,l,hg,rfl,eK,e.symm⟩) _ _ _
  · exact Nat.le_of_eq eN.symm
  · exact Nat.le_trans K5.1 (Nat.min_le_left _ _)
  · intro x hx hxl
    by_cases K6:x=b
    · subst K6
      exact absurd (Nat.le_trans K5.1 (Nat.min_le_right _ _)) (by omega)
    · cases Classical.em (B.get x=A.get x) with
      | inl h=>exact h
      | inr h=>have:=K5.2 x K6 h; omega
  · rintro k hk ⟨x,o,l2,hx,hm,hr,rfl⟩
    by_cases K6:x=b
    · subst K6
      rw [eK] at hr; simp at hr; subst hr
      exact ⟨x,_,l,hg,rfl,eK,rfl⟩
    · exact ⟨x,o,l2,(kG x o K6 hx (by intro e; subst e; simp [bf.bO] at hm)).1,hm,hr,rfl⟩
theorem vq {P:Program} {ρ:aw} {A B:St} {base:Nat} {w:World} {a:Addr} {vs bN:List Value} {l:Loc} (hs:fU ρ A base w) (hl:A.pg a vs=some B) (eK:ρ a.block=some l) (hv:bS ρ vs bN) :
    ∃ w',(storeCells ⟨l.cb,l.cd+a.off,none⟩ bN).run P w = .ok () w'∧b7 base ρ A w ρ B w':=by
  simp only [St.pg] at hl
  cases hp:(bA a && vs.all scalar) with
  | false=>simp [hp] at hl
  | true=>
    rw [hp,cond_true] at hl
    simp only [Bool.and_eq_true,List.all_eq_true] at hp
    split at hl
    · rename_i cs a8 a9 hg
      obtain ⟨bk,hw,rfl⟩:=Option.map_eq_some_iff.1 hl
      have Oa:=XP (w:=w) hs hg hw hv hp.2 eK
      refine ⟨_,?_,Oa⟩
      obtain ⟨l',gN,ok⟩:=hs.rel.row _ _ _ _ _ hg
      rw [eK] at gN; simp at gN; subst gN
      obtain ⟨_,j8,_⟩:=eJ hw
      have El:bN.length=vs.length:=hv.length
      have Em:∀ j,j < bN.length→l.cd+a.off+j < l.sV:=fun j hj=>by
        have bo:vs≠[]:=by intro e; subst e; simp at El; rw [El] at hj; simp at hj
        have h5:=j8 bo
        have h6:=ok.fits
        rw [El] at hj
        omega
      have:=run_storeCells_cells (P:=P) l.cb (l.cd+a.off) bN 0 w (fun j hj=>(ok.there rfl _ (Em j hj)).1) (fun j hj=>(ok.there rfl _ (Em j hj)).2) (fun v Ob=>by
        obtain ⟨i,hi⟩:=List.getElem?_of_mem Ob
        have aY:i < vs.length:=by rw [← El]; exact (List.getElem?_eq_some_iff.1 hi).1
        obtain ⟨u,hu⟩:∃ u,vs[i]? = some u:=⟨vs[i],List.getElem?_eq_getElem aY⟩
        obtain ⟨v2,h7,h8⟩:=hv.get hu
        rw [hi] at h7; simp at h7; subst h7
        exact h8.scalar (hp.2 u (List.mem_of_getElem? hu)))
      exact this
    · simp at hl
def aw.set (ρ:aw) (n:Nat) (l:Loc):aw:=fun b=>if b=n then some l else ρ b
theorem aw.gk (ρ:aw) (n:Nat) (l:Loc):ρ.set n l n=some l:=by simp [aw.set]
theorem aw.eX (ρ:aw) {n b:Nat} (l:Loc) (h:b≠n):ρ.set n l b=ρ b:=by simp [aw.set,h]
theorem fU.xh {ρ:aw} {A:St} {base:Nat} {w:World} (hs:fU ρ A base w) (l:Loc):ρ.le (ρ.set A.next l):=by
  intro b l' e
  have:=hs.eS b l' e
  rw [aw.eX ρ l (by omega)]
  exact e
theorem dG.mono {ρ aq:aw} (h:ρ.le aq):∀ {es:List (Value×Value)} {l:List MapEntry},dG ρ es l→dG aq es l
  | [],_,k=>k
  | (k,v) :: es,l,m=>by
    simp only [dG] at m ⊢
    obtain ⟨e,r,e1,e2,e3,e4⟩:=m
    exact ⟨e,r,e1,e2.mono h,e3.mono h,dG.mono h e4⟩
theorem dG.back {ρ aq:aw} (h:ρ.le aq):∀ {es:List (Value×Value)} {u l:List MapEntry},dG ρ es u→dG aq es l→dG ρ es l
  | [],_,_,_,k=>k
  | (k,v) :: es,u,l,hu,m=>by
    simp only [dG] at hu m ⊢
    obtain ⟨_,_,_,a1,a2,a3⟩:=hu
    obtain ⟨e,r,e1,e2,e3,e4⟩:=m
    exact ⟨e,r,e1,VR.back h a1 e2,VR.back h a2 e3,dG.back h a3 e4⟩
def mh (ρ:aw) (base:Nat) (w:World) (l:Loc):bf→Prop
  | .row cs a8 own a9=>uF ρ base w l cs a8 own a9
  | .map es=>Jw ρ base w l es
  | .iter s pos=>K0 base w l s pos
  | .dead=>True
  | .loop st e t ps a c=>yM ρ base w l st e t ps a c
theorem Rel.obj {ρ:aw} {get:Nat→Option bf} {mem:Nat→List Nat} {base:Nat} {w:World} (h:Rel ρ get mem base w) {b:Nat} {o:bf} (hg:get b=some o) (hd:o≠.dead) :
    ∃ l,ρ b=some l∧mh ρ base w l o:=by
  cases o with
  | row cs a8 own a9=>exact h.row _ _ _ _ _ hg
  | map es=>exact h.map _ _ hg
  | iter s pos=>exact h.iter _ _ _ hg
  | dead=>exact absurd rfl hd
  | loop st e t ps a c=>exact h.loop _ _ _ _ _ _ _ hg
theorem Rel.po {ρ:aw} {get:Nat→Option bf} {mem:Nat→List Nat} {base:Nat} {w:World}
    (obj:∀ b o,get b=some o→o≠.dead→∃ l,ρ b=some l∧mh ρ base w l o)
    (apart:∀ b1 b2 o1 o2 l1 l2,b1≠b2→get b1=some o1→get b2=some o2→o1.bO=true→o2.bO=true→ρ b1=some l1→ρ b2=some l2→l1.cb=l2.cb→
      ∃ aJ f1 f2,o1.fJ=some (aJ,f1)∧o2.fJ=some (aJ,f2)∧l1.cd+f2=l2.cd+f1)
    (aW:∀ b o aJ f,get b=some o→o.fJ=some (aJ,f)→b ∈ mem aJ):Rel ρ get mem base w:=
  ⟨fun b _ _ _ _ hg=>obj b _ hg (by simp),fun b _ hg=>obj b _ hg (by simp),fun b _ _ hg=>obj b _ hg (by simp),fun b _ _ _ _ _ _ hg=>obj b _ hg (by simp),apart,aW⟩
theorem mh.lt {ρ:aw} {base:Nat} {w:World} {l:Loc} {o:bf} (h:mh ρ base w l o) (hd:o≠.dead):l.cb < w.heap.size:=by
  have key:∀ x,w.heap[l.cb]? = some x→l.cb < w.heap.size:=fun x e=>(Array.getElem?_eq_some_iff.1 e).1
  cases o with
  | row cs a8 own a9=>exact uF.gL h
  | map es=>obtain ⟨aU,c,e,_⟩:=Jw.gL h; exact key _ e
  | iter s pos=>exact key _ (K0.gL h).2
  | dead=>exact absurd rfl hd
  | loop st e t ps a c=>obtain ⟨_,_,_,_,q,_⟩:=yM.gL h; exact key _ q
theorem mh.eU {ρ aq:aw} {base:Nat} {w w' : World} {l:Loc} {o:bf} (h:mh ρ base w l o) (hle:ρ.le aq) (hb:w'.heap[l.cb]? = w.heap[l.cb]?) (cA:w.heap.size≤w'.heap.size):mh aq base w' l o:=by
  have hc:∀ i,w'.cell? ⟨l.cb,i,none⟩=w.cell? ⟨l.cb,i,none⟩:=fun i=>by simp only [World.cell?,hb]
  have hf:∀ i,w'.frozen? ⟨l.cb,i,none⟩=w.frozen? ⟨l.cb,i,none⟩:=fun i=>by simp only [World.frozen?,hb]
  cases o with
  | row cs a8 own a9=>
    have ok:uF ρ base w l cs a8 own a9:=h
    exact ⟨fun i v hi=>by obtain ⟨v',h1,h2,h3⟩:=ok.cells i v hi; exact ⟨v',by rw [hc]; exact h1,h2.mono hle,h3⟩,ok.kv,ok.bO,
      fun h j hj=>by rw [hc,hf]; exact ok.there h j hj,ok.fits,ok.ends,ok.a8,Nat.lt_of_lt_of_le ok.gL cA,fun h1 h2 j=>by rw [hf]; exact ok.mark h1 h2 j⟩
  | map es=>
    have ok:Jw ρ base w l es:=h
    obtain ⟨aU,c,e,m⟩:=ok.gL
    exact ⟨ok.bO,aU,c,by rw [hb]; exact e,m.mono hle⟩
  | iter s pos=>
    have ok:K0 base w l s pos:=h
    exact ⟨ok.bO,ok.gL.1,by rw [hb]; exact ok.gL.2⟩
  | dead=>trivial
  | loop st e t ps a c=>
    have ok:yM ρ base w l st e t ps a c:=h
    obtain ⟨fn,tmps,D,N,q,r⟩:=ok.gL
    exact ⟨ok.bO,fn,tmps,D,N,by rw [hb]; exact q,r.mono hle⟩
theorem mh.back {ρ aq:aw} {base:Nat} {w w' : World} {l:Loc} {o:bf} (hle:ρ.le aq) (h:mh ρ base w l o) (k:mh aq base w' l o):mh ρ base w' l o:=by
  cases o with
  | row cs a8 own a9=>
    have a:uF ρ base w l cs a8 own a9:=h
    have b:uF aq base w' l cs a8 own a9:=k
    refine ⟨fun i v hi=>?_,b.kv,b.bO,b.there,b.fits,b.ends,b.a8,b.gL,b.mark⟩
    obtain ⟨u,_,h2,_⟩:=a.cells i v hi
    obtain ⟨v',h3,h4,h5⟩:=b.cells i v hi
    exact ⟨v',h3,VR.back hle h2 h4,h5⟩
  | map es=>
    have a:Jw ρ base w l es:=h
    have b:Jw aq base w' l es:=k
    obtain ⟨u,_,_,m1⟩:=a.gL
    obtain ⟨aU,c,e,m2⟩:=b.gL
    exact ⟨b.bO,aU,c,e,m1.back hle m2⟩
  | iter s pos=>exact k
  | dead=>trivial
  | loop st e t ps c d=>
    have a:yM ρ base w l st e t ps c d:=h
    have b:yM aq base w' l st e t ps c d:=k
    obtain ⟨_,_,_,_,_,r1⟩:=a.gL
    obtain ⟨fn,tmps,D,N,q,r⟩:=b.gL
    exact ⟨b.bO,fn,tmps,D,N,q,r.size,fun i=>VR.back hle (r1.val i) (r.val i),r.none,r.abY⟩
theorem uJ {ρ:aw} {A B:St} {base:Nat} {w:World} {o:bf} {obj:Obj} {l:Loc} (hs:fU ρ A base w)
    (hB:∀ x,B.get x=if x=A.next then some o else A.get x) (hm:∀ f x,x ∈ A.members f→x ∈ B.members f) (hk:∀ aJ f,o.fJ=some (aJ,f)→A.next ∈ B.members aJ)
    (hn:B.next=A.next+1) (K5:B.low≤A.low) (wG:∀ x,x < A.next→x < B.low→B.get x=A.get x) (hl:l.cb=w.heap.size) (bH:mh (ρ.set A.next l) base (w.alloc obj) l o) :
    b7 base ρ A w (ρ.set A.next l) B (w.alloc obj):=by
  have hle:=hs.xh l
  have hold:∀ k,k < w.heap.size→(w.alloc obj).heap[k]? = w.heap[k]?:=fun k hk=>RowKit.Below.heap_alloc _ _ _ hk
  have cA:w.heap.size≤(w.alloc obj).heap.size:=by simp
  have aY:∀ b l',ρ b=some l'→b≠A.next:=fun b l' e=>by have:=hs.eS b l' e; omega
  have hgl:∀ b o' l',A.get b=some o'→o'≠.dead→ρ b=some l'→l'.cb < w.heap.size:=fun b o' l' hg hd hr=>by
    obtain ⟨l2,e,ok⟩:=hs.rel.obj hg hd
    rw [hr] at e; simp at e; subst e
    exact ok.lt hd
  refine ⟨⟨.po ?_ ?_ ?_,?_,Nat.le_trans hs.size cA,hs.jO.mono hle⟩,?_,⟨rfl,rfl,rfl,cA,fun k hk _=>hold k hk⟩,by omega,K5,wG,?_⟩
  · intro b o' hg hd
    rw [hB] at hg
    split at hg
    · rename_i e; subst e; simp at hg; subst hg; exact ⟨l,aw.gk _ _ _,bH⟩
    · rename_i e
      obtain ⟨l',h1,h2⟩:=hs.rel.obj hg hd
      exact ⟨l',hle _ _ h1,h2.eU hle (hold _ (h2.lt hd)) cA⟩
  · intro b1 b2 o1 o2 l1 l2 bo g1 g2 m1 m2 r1 r2 vU
    have hd1:o1≠.dead:=by intro e; subst e; simp [bf.bO] at m1
    have hd2:o2≠.dead:=by intro e; subst e; simp [bf.bO] at m2
    rw [hB] at g1 g2
    by_cases e1:b1=A.next
    · have e2:b2≠A.next:=fun e=>bo (e1.trans e.symm)
      rw [if_neg e2] at g2
      rw [e1,aw.gk] at r1
      rw [aw.eX _ _ e2] at r2
      simp at r1; subst r1
      have:=hgl b2 o2 l2 g2 hd2 r2
      omega
    · rw [if_neg e1] at g1
      rw [aw.eX _ _ e1] at r1
      by_cases e2:b2=A.next
      · rw [e2,aw.gk] at r2
        simp at r2; subst r2
        have:=hgl b1 o1 l1 g1 hd1 r1
        omega
      · rw [if_neg e2] at g2
        rw [aw.eX _ _ e2] at r2
        exact hs.rel.apart b1 b2 o1 o2 l1 l2 bo g1 g2 m1 m2 r1 r2 vU
  · intro b o' aJ f hg qc
    rw [hB] at hg
    split at hg
    · rename_i e; subst e; simp at hg; subst hg; exact hk aJ f qc
    · exact hm aJ b (hs.rel.aW b o' aJ f hg qc)
  · intro b l' h
    rw [hn]
    by_cases e:b=A.next
    · omega
    · rw [aw.eX _ _ e] at h; have:=hs.eS b l' h; omega
  · intro b hb; exact aw.eX _ _ (by omega)
  · rintro k hk ⟨b,o',l',hg,VM,hr,rfl⟩
    by_cases e:b=A.next
    · subst e
      rw [aw.gk] at hr
      simp at hr; subst hr
      omega
    · rw [hB,if_neg e] at hg
      rw [aw.eX _ _ e] at hr
      exact ⟨b,o',l',hg,VM,hr,rfl⟩
theorem b7.drew {base:Nat} {ρ:aw} {A:St} {w:World} (hs:fU ρ A base w):b7 base ρ A w ρ A w.drew:=
  ⟨⟨.po (fun b o hg hd=>by obtain ⟨l,h1,h2⟩:=hs.rel.obj hg hd; exact ⟨l,h1,h2.eU (aw.le_refl _) rfl (Nat.le_refl _)⟩) hs.rel.apart hs.rel.aW,hs.eS,hs.size,hs.jO⟩,
    fun _ _=>rfl,⟨rfl,rfl,rfl,Nat.le_refl _,fun _ _ _=>rfl⟩,Nat.le_refl _,Nat.le_refl _,fun _ _ _=>rfl,fun _ _ h=>h⟩
theorem VN {ρ:aw} {A:St} {base:Nat} {w:World} {cs:List Value} {c:Array Value} {a8:Nat} (T:TypeId) (hs:fU ρ A base w) (hc:bS ρ cs c.toList) (h1:∀ v ∈ cs,scalar v=true) :
    b7 base ρ A w (ρ.set A.next ⟨w.heap.size,0,cs.length,a8⟩) (A.new (.row cs a8 true none)) (w.alloc (.cells c T)):=by
  have hlen:c.size=cs.length:=hc.length
  refine uJ (o:=.row cs a8 true none) hs (fun x=>by simp) (fun f x h=>by simpa using h) (fun aJ f h=>by simp [bf.fJ] at h) (by simp) (by simp) (fun x hx _=>by simp; omega) rfl ?_
  refine ⟨fun i v hi=>?_,fun h=>by simp at h,fun _=>hs.size,fun _ j hj=>?_,by simp,fun _ _=>by simp,rfl,by simp,fun _ _ j=>by simp only; rw [World.frozen?_alloc_new]⟩
  · obtain ⟨v',h2,h3⟩:=hc.get hi
    refine ⟨v',?_,h3.mono (hs.xh _),h1 v (List.mem_of_getElem? hi)⟩
    rw [Nat.zero_add,World.cell?_alloc_new]
    simpa using h2
  · simp only at hj ⊢
    rw [World.cell?_alloc_new,World.frozen?_alloc_new]
    refine ⟨?_,rfl⟩
    rw [Array.getElem?_eq_getElem (by omega)]
    rfl
end Go.aV
end
section
namespace Go.aV
open Go
def mT (o:bf) (cb:Nat):Loc:=
  match o with
  | .row cs a8 _ _=>⟨cb,0,cs.length,a8⟩
  | _=>⟨cb,0,0,0⟩
def uK (ρ:aw) (o:bf) (c:Obj):Prop:=
  match o with
  | .row cs _ true none=>∃ a T,c = .cells a T∧bS ρ cs a.toList∧∀ v ∈ cs,scalar v=true
  | .map []=>c = .map #[] 0
  | .iter s 0=>c = .stringIter ⟨⟨s⟩⟩ 0
  | _=>False
theorem uK.dj {ρ:aw} {A:St} {base:Nat} {w:World} {o:bf} {c:Obj} (hs:fU ρ A base w) (h:uK ρ o c) :
    b7 base ρ A w (ρ.set A.next (mT o w.heap.size)) (A.new o) (w.alloc c):=by
  have lQ:(w.alloc c).heap[w.heap.size]? = some c:=(MapKept.heap_alloc w c).1
  unfold uK at h
  split at h
  · rename_i cs a8
    obtain ⟨a,T,rfl,h1,h2⟩:=h
    exact VN T hs h1 h2
  · subst h
    refine uJ (o:=.map []) hs (fun x=>by simp) (fun f x h=>by simpa using h) (fun aJ f h=>by simp [bf.fJ] at h) (by simp) (by simp) (fun x hx _=>by simp; omega) rfl ?_
    exact ⟨hs.size,#[],0,lQ,rfl⟩
  · rename_i s
    subst h
    refine uJ (o:=.iter s 0) hs (fun x=>by simp) (fun f x h=>by simpa using h) (fun aJ f h=>by simp [bf.fJ] at h) (by simp) (by simp) (fun x hx _=>by simp; omega) rfl ?_
    exact ⟨hs.size,rfl,lQ⟩
  · exact h.elim
def ny (ρ:aw) (ev bF:Operand→Value) (xs:List Operand):Prop:=∀ x ∈ xs,VR ρ (ev x) (bF x)
theorem ny.map {ρ:aw} {ev bF:Operand→Value} : ∀ {xs:List Operand},ny ρ ev bF xs→bS ρ (xs.map ev) (xs.map bF)
  | [],_=>.nil
  | x :: xs,h=>.cons (h x (by simp)) (ny.map fun y hy=>h y (by simp [hy]))
theorem ny.left {ρ:aw} {ev bF:Operand→Value} {xs ys:List Operand} (h:ny ρ ev bF (xs ++ ys)):ny ρ ev bF xs:=fun x hx=>h x (by simp [hx])
theorem ny.right {ρ:aw} {ev bF:Operand→Value} {xs ys:List Operand} (h:ny ρ ev bF (xs ++ ys)):ny ρ ev bF ys:=fun x hx=>h x (by simp [hx])
theorem ny.tail {ρ:aw} {ev bF:Operand→Value} {x:Operand} {ys:List Operand} (h:ny ρ ev bF (x :: ys)):ny ρ ev bF ys:=fun y hy=>h y (by simp [hy])
def abZ (v' : Value):Next→Prop
  | .value v=>v=v'
  | .skip=>v' = undef
  | _=>False
def dM (P:Program) (o:Oper):ph→Prop
  | .pure f xs=>∀ (ρ:aw) (ev bF:Operand→Value) (v:Value),ny ρ ev bF xs→f (xs.map ev)=some v→∃ v',VR ρ v v'∧∀ w,(execOp bF o).run P w = .ok (.value v') w
  | .read f xs=>∀ (ρ:aw) (A:St) (base:Nat) (w:World) (ev bF:Operand→Value) (v:Value),Rel ρ A.get A.members base w→ny ρ ev bF xs→f A (xs.map ev)=some v→
      ∃ v',VR ρ v v'∧(execOp bF o).run P w = .ok (.value v') w
  | .make f xs=>∀ (ρ:aw) (ev bF:Operand→Value) (obj:bf) (mk:Nat→Value),ny ρ ev bF xs→f (xs.map ev)=some (obj,mk)→
      ∃ (c:Obj) (mk' : Nat→Value),uK ρ obj c∧(∀ w,(execOp bF o).run P w = .ok (.value (mk' w.heap.size)) (w.alloc c))∧∀ (aq:aw) (n cb:Nat),aq n=some (mT obj cb)→VR aq (mk n) (mk' cb)
  | .act f xs=>∀ (ρ:aw) (A B:St) (base:Nat) (w:World) (ev bF:Operand→Value) (v:Value),fU ρ A base w→ny ρ ev bF xs→f A (xs.map ev)=some (v,B)→
      ∃ aq v' nx w',(execOp bF o).run P w = .ok nx w'∧abZ v' nx∧VR aq v v'∧b7 base ρ A w aq B w'
  | .call f args=>(∀ (ρ:aw) (ev bF:Operand→Value) (l:Nat),ny ρ ev bF (f :: args)→ev f = .func (.yield l) ⟨[]⟩ ⟨[]⟩→
      ∃ loc bN,ρ l=some loc∧bS ρ (args.map ev) bN∧∀ w,(execOp bF o).run P w=(Instr.yield loc.cb bN.toArray).run P w)∧
    ∀ (ρ:aw) (ev bF:Operand→Value) (g:FuncId) (vs:List Value),ny ρ ev bF (f :: args)→Nat.blt g yB=true→fw (args.map ev) (ev f)=some (g,vs)→
      (∃ fn, P.funcs[g]? = some fn ∧ fn.body.isSome = true ∧ (fn.name == "runtime.NumGoroutine") = false) → ∃ bN, bS ρ vs bN ∧ ∀ w, (execOp bF o).run P w = .ok (.enter g bN.toArray) w
  | .bad=>True
section
variable {P:Program} {o:Oper}
theorem one {α:Type} {f:List Value→Option α} {xs:List Value} {r:α} (h:f xs=some r) (h0:f [] = none) (h2:∀ a b l,f (a :: b :: l)=none):∃ x,xs = [x]:=by
  cases xs with
  | nil=>rw [h0] at h; simp at h
  | cons a l=>
    cases l with
    | nil=>exact ⟨a,rfl⟩
    | cons b l=>rw [h2] at h; simp at h
theorem afp {x:Operand} (ho:o.op = .move x):dM P o (.pure B6 [x]):=by
  intro ρ ev bF v he hf
  simp [B6] at hf
  exact ⟨bF x,hf ▸ he x (by simp),fun w=>by simp [execOp,ho]⟩
theorem ab0 {x:Operand} (ho:o.op = .assign x):dM P o (.pure B6 [x]):=by
  intro ρ ev bF v he hf
  simp [B6] at hf
  exact ⟨bF x,hf ▸ he x (by simp),fun w=>by simp [execOp,ho]⟩
theorem VR.cF {ρ:aw} {b:Bool} {v:Value} (h:VR ρ (.bool b) v):v = .bool b:=by simpa [VR] using h
theorem VR.bW {ρ:aw} {k:IntKind} {n:Int} {v:Value} (h:VR ρ (.int k n) v):v = .int k n:=by simpa [VR] using h
theorem VR.j9 {ρ:aw} {s:ByteArray} {v:Value} (h:VR ρ (.string s) v):v = .string s:=by simpa [VR] using h
theorem VR.iQ {ρ:aw} {cs:Array Value} {v:Value} (h:VR ρ (.agg cs) v):∃ bk,v = .agg bk∧bS ρ cs.toList bk.toList:=by
  simp only [VR] at h; obtain ⟨c,h1,rfl⟩:=h; exact ⟨c,rfl,qx.1 h1⟩
theorem VR.xQ {ρ:aw} {cs:Array Value} {v:Value} (h:VR ρ (.tuple cs) v):∃ bk,v = .tuple bk∧bS ρ cs.toList bk.toList:=by
  simp only [VR] at h; obtain ⟨c,h1,rfl⟩:=h; exact ⟨c,rfl,qx.1 h1⟩
theorem VR.uL {ρ:aw} {fn:Fn} {f c:Array Value} {v:Value} (h:VR ρ (.func fn f c) v):∃ f' c' qw,v = .func qw f' c'∧bS ρ f.toList f'.toList∧bS ρ c.toList c'.toList∧Jv ρ fn qw:=by
  simp only [VR] at h; obtain ⟨f',c',h1,h2,qw,h3,rfl⟩:=h; exact ⟨f',c',qw,rfl,qx.1 h1,qx.1 h2,h3⟩
theorem VR.jF {ρ:aw} {a:Addr} {n c:Nat} {v:Value} (h:VR ρ (.slice (some a) n c) v) :
    a.spot=none∧n≤c∧∃ l a' c',ρ a.block=some l∧c≤c'∧(c'≠0→a' = ⟨l.cb,l.cd+a.off,none⟩)∧l.cd+a.off+c' * l.a8≤l.sV∧v = .slice (some a') n c':=by simpa only [VR] using h
theorem VR.eO {ρ:aw} {n c:Nat} {v:Value} (h:VR ρ (.slice none n c) v):v = .slice none n c:=by simpa [VR] using h
theorem VR.kP {ρ:aw} {l l' : List Value} (h:bS ρ l l'):VR ρ (.agg ⟨l⟩) (.agg ⟨l'⟩):=by simp only [VR]; exact ⟨⟨l'⟩,qx.2 h,rfl⟩
theorem VR.mkTuple {ρ:aw} {l l' : List Value} (h:bS ρ l l'):VR ρ (.tuple ⟨l⟩) (.tuple ⟨l'⟩):=by simp only [VR]; exact ⟨⟨l'⟩,qx.2 h,rfl⟩
theorem VR.Hd {ρ:aw} (fn:Fn) (hn:Jv ρ fn fn) {l l' m m' : List Value} (h:bS ρ l l') (k:bS ρ m m'):VR ρ (.func fn ⟨l⟩ ⟨m⟩) (.func fn ⟨l'⟩ ⟨m'⟩):=by simp only [VR]; exact ⟨⟨l'⟩,⟨m'⟩,qx.2 h,qx.2 k,fn,hn,rfl⟩
theorem VR.rz {ρ:aw} {a:Addr} {l:Loc} (h:a.spot=none) (k:ρ a.block=some l):VR ρ (.pointer (some a)) (.pointer (some ⟨l.cb,l.cd+a.off,none⟩)):=by simp only [VR]; exact ⟨h,l,k,rfl⟩
theorem afq {c a b:Operand} (ho:o.op = .pick c a b):dM P o (.pure Sk [c,a,b]):=by
  intro ρ ev bF v he hf
  simp only [List.map,Sk] at hf
  split at hf
  · rename_i t x y e
    simp at e hf
    obtain ⟨e1,rfl,rfl⟩:=e
    have hc:=he c (by simp)
    rw [e1] at hc
    have hc:=hc.cF
    subst hf
    refine ⟨cond t (bF a) (bF b),by cases t <;> simp [he a (by simp),he b (by simp)],fun w=>?_⟩
    cases t <;> simp [execOp,ho,hc,asBool]
  · simp at hf
theorem WO {t:TypeId} {i:TypeInfo} (h:P.info? t=some i) (w:World):(typeInfo t).run P w = .ok i w:=by
  unfold typeInfo; simp [h]
theorem Hf {t:TypeId} {z:Value} (h:kr P t=some z) (w:World):(zeroValue t).run P w = .ok z w:=by
  unfold kr at h
  obtain ⟨i,h1,h2⟩:=Option.bind_eq_some_iff.1 h
  unfold zeroValue; simp [WO h1,h2]
theorem jB {t:TypeId} {n:Nat} (h:size? P t=some n) (w:World):(sizeOf t).run P w = .ok n w:=by
  unfold size? at h
  obtain ⟨i,h1,h2⟩:=Option.map_eq_some_iff.1 h
  unfold sizeOf; simp [WO h1,h2]
theorem aX {t:TypeId} {d:TypeDesc} (h:P.underlying t=some d) (w:World):(underlying t).run P w = .ok d w:=by
  unfold underlying; simp [h]
theorem yO {t:TypeId} {b:Bool} (h:EH P t=some b) (w:World):(isAgg t).run P w = .ok b w:=by
  unfold EH at h
  obtain ⟨d,h1,h2⟩:=Option.map_eq_some_iff.1 h
  unfold isAgg
  rw [Sem.run_bind,aX h1,Result.andThen_ok]
  subst h2
  cases d <;> rfl
theorem aeb {t:TypeId} (ho:o.op = .alloc t):dM P o (.make (B7 P t) []):=by
  intro ρ ev bF obj mk he hf
  simp only [B7,Option.bind_eq_some_iff] at hf
  obtain ⟨z,hz,hf⟩:=hf
  cases AY:(flat z && z.cells.toList.all scalar) with
  | false=>rw [AY] at hf; simp at hf
  | true=>
    rw [AY,cond_true] at hf
    simp only [Option.some.injEq,Prod.mk.injEq] at hf
    obtain ⟨rfl,rfl⟩:=hf
    obtain ⟨HJ,wH⟩:=Bool.and_eq_true_iff.1 AY
    rw [List.all_eq_true] at wH
    have hr:VR ρ z z:=VR.of_flat HJ
    refine ⟨.cells z.cells t,fun n=>.pointer (some ⟨n,0,none⟩),⟨z.cells,t,rfl,hr.cells (fun r e=>by subst e; simp [flat] at HJ),wH⟩,fun w=>?_,fun aq n cb h=>?_⟩
    · simp [execOp,ho,Instr.alloc,Hf hz,newVar,newRow]
    · exact VR.rz (a:=⟨n,0,none⟩) rfl h
theorem aht {t:TypeId} {x:Operand} (ho:o.op = .box t x):dM P o (.make (WA (hH P t)) [x]):=by
  intro ρ ev bF obj mk he hf
  simp only [List.map,WA] at hf
  cases AY:(ev x).cells.toList.all scalar with
  | false=>rw [AY] at hf; simp at hf
  | true=>
    rw [AY,cond_true] at hf
    simp only [Option.some.injEq,Prod.mk.injEq] at hf
    obtain ⟨rfl,rfl⟩:=hf
    have wH:=AY
    rw [List.all_eq_true] at wH
    refine ⟨.cells (bF x).cells t,fun n=>.pointer (some ⟨n,0,none⟩),⟨_,t,rfl,(he x (by simp)).cells (fun r e=>by rw [e] at AY; simp [Value.cells,scalar] at AY),wH⟩,fun w=>?_,fun aq n cb h=>?_⟩
    · simp [execOp,ho,Instr.box,newVar,newRow]
    · exact VR.rz (a:=⟨n,0,none⟩) rfl h
theorem zB {ρ:aw} {A:St} {base:Nat} {w:World} {t:TypeId} {x x' v:Value} (hs:Rel ρ A.get A.members base w) (hx:VR ρ x x') (hf:loadAt P t A x=some v) :
    ∃ a,x' = .pointer (some a)∧∃ v',VR ρ v v'∧(loadVar t a).run P w = .ok v' w:=by
  unfold loadAt at hf
  split at hf
  · rename_i a
    obtain ⟨vV,l,hl,rfl⟩:=hx.eF
    refine ⟨_,rfl,?_⟩
    split at hf
    · rename_i rA
      obtain ⟨n,hn,hf⟩:=Option.bind_eq_some_iff.1 hf
      obtain ⟨cs,Cm,rfl⟩:=Option.map_eq_some_iff.1 hf
      obtain ⟨bk,h1,_,_,h3⟩:=pn (P:=P) hs Cm hl
      refine ⟨.agg ⟨bk⟩,VR.kP h1,?_⟩
      unfold loadVar
      simp [yO rA,jB hn,h3]
    · rename_i rA
      obtain ⟨cs,Cm,hf⟩:=Option.bind_eq_some_iff.1 hf
      obtain ⟨bk,h1,hlen,_,h3⟩:=pn (P:=P) hs Cm hl
      cases cs with
      | nil=>simp at hf
      | cons c cs=>
        simp at hf; subst hf
        obtain ⟨y,ys,rfl,h4,h5⟩:=h1.cons_inv
        refine ⟨y,h4,?_⟩
        have hys:ys = []:=by have:=h5.length; simp at hlen; subst hlen; simpa using this
        subst hys
        have h0:(load ⟨l.cb,l.cd+a.off,none⟩).run P w = .ok y w:=by
          simp only [loadCells,loadCellsFrom,gu,Nat.add_zero,Sem.run_bind,run_load] at h3 ⊢
          cases hc:w.cell? ⟨l.cb,l.cd+a.off,none⟩ with
          | some u=>rw [hc] at h3; simp at h3 ⊢; exact h3
          | none=>
            rw [hc] at h3
            simp only at h3 ⊢
            cases hff:w.farLoad P ⟨l.cb,l.cd+a.off,none⟩ (Mode.plain == Mode.atomic) with
            | ok p=>rw [hff] at h3; simp at h3 ⊢; exact h3
            | error e=>rw [hff] at h3; simp at h3
        unfold loadVar
        simp only [Sem.run_bind,yO rA,Result.andThen_ok]
        exact h0
    · simp at hf
  · simp at hf
theorem afr {t:TypeId} {a:Operand} (ho:o.op = .load t a):dM P o (.read (wD P t) [a]):=by
  intro ρ A base w ev bF v hs he hf
  simp only [List.map,wD] at hf
  obtain ⟨ad,h1,v',h2,h3⟩:=zB hs (he a (by simp)) hf
  refine ⟨v',h2,?_⟩
  simp [execOp,ho,Instr.loadAt,Instr.sureAddr,h1,h3]
theorem SC {ρ:aw} {A B:St} {base:Nat} {w:World} {t:TypeId} {x x' v v' : Value} (hs:fU ρ A base w) (hx:VR ρ x x') (hv:VR ρ v v') (hf:storeAt P t A x v=some B) :
    ∃ a,x' = .pointer (some a)∧∃ w',(storeVar t a v').run P w = .ok () w'∧b7 base ρ A w ρ B w':=by
  unfold storeAt at hf
  split at hf
  · rename_i a
    obtain ⟨vV,l,hl,rfl⟩:=hx.eF
    refine ⟨_,rfl,?_⟩
    cases hd:decide (some v.cells.size=size? P t) with
    | false=>rw [hd] at hf; simp at hf
    | true=>
      rw [hd,cond_true] at hf
      have cA:=of_decide_eq_true hd
      have EV:∀ r,v≠.chan r:=fun r e=>by subst e; simp [Value.cells,St.pg,scalar] at hf
      have hvc:=hv.cells EV
      obtain ⟨w',h1,h2⟩:=vq (P:=P) hs hf hl hvc
      refine ⟨w',?_,h2⟩
      unfold storeVar
      have hlen:v'.cells.size=v.cells.size:=hvc.length
      simp [jB cA.symm,hlen,h1]
  · simp at hf
theorem aec {t:TypeId} {a x:Operand} (ho:o.op = .store t a x):dM P o (.act (xg P t) [a,x]):=by
  intro ρ A B base w ev bF v hs he hf
  simp only [List.map,xg] at hf
  obtain ⟨B',hB,hf⟩:=Option.map_eq_some_iff.1 hf
  simp at hf
  obtain ⟨rfl,rfl⟩:=hf
  obtain ⟨ad,h1,w',h2,h3⟩:=SC hs (he a (by simp)) (he x (by simp)) hB
  refine ⟨ρ,undef,.skip,w',?_,rfl,VR.of_flat (by simp [undef,flat,sL,kO]),h3⟩
  simp [execOp,ho,Instr.storeAt,Instr.sureAddr,h1,h2]
theorem XQ {x:Operand} (ho:o.op = .nilCheck x):dM P o (.pure B8 [x]):=by
  intro ρ ev bF v he hf
  simp only [List.map,B8] at hf
  have hx:=he x (by simp)
  split at hf
  · rename_i a e
    simp at e hf
    rw [e] at hx
    obtain ⟨_,l,_,h⟩:=hx.eF
    subst hf
    refine ⟨_,hx,fun w=>?_⟩
    simp [execOp,ho,h]
  · rename_i f first cap e
    simp at e hf
    rw [e] at hx
    obtain ⟨f',c',qw,h,_,_,Jx⟩:=hx.uL
    have Jx:qw = .func f:=Jx
    subst Jx
    subst hf
    refine ⟨_,hx,fun w=>?_⟩
    simp [execOp,ho,h]
  · simp at hf
theorem aiQ {op:UnOp} {t:TypeId} {x:Operand} (ho:o.op = .unOp op t x):dM P o (.pure (Zw P op) [x]):=by
  intro ρ ev bF v he hf
  simp only [List.map,Zw] at hf
  have hx:=he x (by simp)
  have afs:∀ y u:Value,(y = .bool (y matches .bool true)∨∃ k n,y = .int k n)→bM P (Op.unary op y)=some u→flat u=true:=by
    intro y u hy hu
    have h:=dU hu default
    rcases hy with hy | ⟨k,n,rfl⟩
    · rw [hy] at h
      cases op <;> simp [Op.unary] at h
      subst h; rfl
    · cases op <;> simp [Op.unary,Op.intArith,Op.intBits] at h <;> (subst h; rfl)
  split at hf
  · rename_i b e
    simp at e
    rw [e] at hx
    have hx:=hx.cF
    refine ⟨v,VR.of_flat (afs _ _ (.inl (by cases b <;> rfl)) hf),fun w=>?_⟩
    simp [execOp,ho,hx,dU hf w]
  · rename_i k n e
    simp at e
    rw [e] at hx
    have hx:=hx.bW
    refine ⟨v,VR.of_flat (afs _ _ (.inr ⟨k,n,rfl⟩) hf),fun w=>?_⟩
    simp [execOp,ho,hx,dU hf w]
  · simp at hf
theorem ZT {src dst:TypeId} {x:Operand} (ho:o.op = .convert src dst x):dM P o (.pure (AA P src dst) [x]):=by
  intro ρ ev bF v he hf
  simp only [List.map,AA] at hf
  have hx:=he x (by simp)
  split at hf
  · rename_i k n e
    simp at e
    rw [e] at hx
    have hx:=hx.bW
    split at hf
    · rename_i k' hu
      have h:=dU hf default
      have AY:flat v=true:=by
        unfold convert at h
        rw [Sem.run_bind] at h
        cases hs:(underlying src).run P default with
        | halt x w=>rw [hs] at h; simp at h
        | ok d w=>
          rw [hs,Result.andThen_ok,Sem.run_bind,aX hu,Result.andThen_ok] at h
          have:∀ w,(Conv.intToInt k' n).run P w = .ok v w→flat v=true:=fun w e=>by
            simp [Conv.intToInt] at e; rw [← e]; rfl
          cases d <;> simp only at h <;> first | exact this _ h | (simp [Conv.intToInt] at h; rw [← h.1]; rfl)
      refine ⟨v,VR.of_flat AY,fun w=>?_⟩
      simp [execOp,ho,hx,dU hf w]
    · simp at hf
  · simp at hf
theorem jk (ev:Operand→Value) (xs:Array Operand):(xs.map ev)=⟨xs.toList.map ev⟩:=by cases xs; simp
theorem XR {fn:Fn} {first cap:Array Operand} (ho:o.op = .makeFunc fn first cap):dM P o (cond (xA fn) (.pure (xL fn first.size) (first.toList ++ cap.toList)) .bad):=by
  cases hny:xA fn with
  | false=>trivial
  | true=>
  rw [cond_true]
  intro ρ ev bF v he hf
  simp only [xL] at hf
  obtain ⟨l,h1,rfl⟩:=Option.map_eq_some_iff.1 hf
  obtain ⟨rfl,_⟩:=Hb h1
  rw [mf]
  refine ⟨.func fn (first.map bF) (cap.map bF),?_,fun w=>by simp [execOp,ho,Instr.makeFunc]⟩
  rw [jk,jk]
  have e1:((first.toList ++ cap.toList).map ev).take first.size=first.toList.map ev:=by
    rw [List.map_append,List.take_left' (by simp)]
  have e2:((first.toList ++ cap.toList).map ev).drop first.size=cap.toList.map ev:=by
    rw [List.map_append,List.drop_left' (by simp)]
  rw [e1,e2]
  exact VR.Hd fn (by cases fn <;> first | rfl | simp [xA] at hny) he.left.map he.right.map
theorem Cn {ρ:aw} {a:Addr} {n:Nat} {v:Value} {l:Loc} (hl:ρ a.block=some l) (h:Jl a n=some v):VR ρ v (.pointer (some ⟨l.cb,l.cd+a.off+n,none⟩)):=by
  simp only [Jl] at h
  cases hp:bA a with
  | false=>rw [hp] at h; simp at h
  | true=>
    rw [hp] at h
    simp at h
    subst h
    have:=VR.rz (ρ:=ρ) (a:=⟨a.block,a.off+n,none⟩) (l:=l) rfl hl
    simpa [Nat.add_assoc] using this
theorem Ic {s:TypeId} {f:Nat} {fd:Field} (h:kY P s f=some fd):∃ fields,P.underlying s=some (.struct fields)∧fields[f]? = some fd:=by
  unfold kY at h
  split at h
  · rename_i fields e; exact ⟨fields,e,by simpa using h⟩
  · simp at h
theorem VO {s:TypeId} {x:Operand} {f:Nat} (ho:o.op = .fieldAddr s x f):dM P o (nN P s x f):=by
  unfold nN
  split
  · rename_i fd h
    split
    · rename_i n hn
      intro ρ ev bF v he hf
      obtain ⟨fields,hu,hfd⟩:=Ic h
      simp only [List.map,yI] at hf
      have hx:=he x (by simp)
      split at hf
      · rename_i a e
        simp at e
        rw [e] at hx
        obtain ⟨vV,l,hl,h'⟩:=hx.eF
        refine ⟨_,Cn hl hf,fun w=>?_⟩
        have hfp:(fieldPlace ⟨l.cb,l.cd+a.off,none⟩ fd).run P w = .ok ⟨l.cb,l.cd+a.off+fd.offset,none⟩ w:=by
          unfold fieldPlace
          simp [jB hn,gu]
        simp [execOp,ho,Instr.fieldAt,aX hu,hfd,h',Instr.sureAddr,hfp]
      · simp at hf
    · trivial
  · trivial
theorem Ie {ρ:aw} {t:TypeId} {cs:List Value} {bk:Array Value} {off:Nat} {v:Value} (hc:bS ρ cs bk.toList) (h:partOf P t cs off=some v) :
    ∃ v',VR ρ v v'∧∀ w,(part t bk off).run P w = .ok v' w:=by
  unfold partOf at h
  split at h
  · rename_i rA
    obtain ⟨n,hn,h⟩:=Option.bind_eq_some_iff.1 h
    obtain ⟨l,hl,rfl⟩:=Option.map_eq_some_iff.1 h
    rw [mf] at hl
    obtain ⟨rfl,hlen⟩:=Hb hl
    refine ⟨.agg ⟨(bk.toList.drop off).take n⟩,VR.kP ((hc.drop off).take n),fun w=>?_⟩
    unfold part
    simp only [Sem.run_bind,yO rA,Result.andThen_ok,if_true,jB hn,Sem.run_pure]
    congr 2
    apply Array.ext'
    simp [Array.toList_extract,List.extract_eq_take_drop,show off+n - off=n by omega]
  · rename_i rA
    rw [mf,List.head?_drop] at h
    obtain ⟨v',h1,h2⟩:=hc.get h
    refine ⟨v',h2,fun w=>?_⟩
    unfold part
    have h3:bk[off]? = some v':=by simpa using h1
    simp [yO rA,h3]
  · simp at h
theorem aed {t:TypeId} {x:Operand} {f:Nat} (ho:o.op = .field t x f):dM P o (AG P t x f):=by
  unfold AG
  split
  · rename_i fd h
    intro ρ ev bF v he hf
    obtain ⟨fields,hu,hfd⟩:=Ic h
    simp only [List.map,Xy] at hf
    have hx:=he x (by simp)
    split at hf
    · rename_i cs e
      simp at e
      rw [e] at hx
      obtain ⟨bk,h',hc⟩:=hx.iQ
      obtain ⟨v',h1,h2⟩:=Ie hc hf
      refine ⟨v',h1,fun w=>?_⟩
      simp [execOp,ho,Instr.field,aX hu,hfd,h',asAgg,h2]
    · simp at hf
  · trivial
theorem sZ {i:Int} {len n:Nat} (h:fL i len=some n):i=n∧n < len:=by
  unfold fL at h
  cases i with
  | ofNat m=>
    simp only at h
    cases hb:Nat.blt m len with
    | false=>rw [hb] at h; simp at h
    | true=>
      rw [hb] at h
      simp at h; subst h
      exact ⟨rfl,by rw [Nat.blt_eq] at hb; exact hb⟩
  | negSucc m=>simp at h
theorem VP {t:TypeId} {x ix:Operand} (ho:o.op = .indexAddr t x ix):dM P o (nP P t x ix):=by
  unfold nP
  split
  · rename_i len e hu
    split
    · rename_i n hn
      intro ρ ev bF v he hf
      simp only [List.map,Jm] at hf
      have hx:=he x (by simp)
      have hi:=he ix (by simp)
      split at hf
      · rename_i a k i e'
        simp at e'
        obtain ⟨e1,e2⟩:=e'
        rw [e1] at hx
        rw [e2] at hi
        obtain ⟨vV,l,hl,h'⟩:=hx.eF
        have hi:=hi.bW
        obtain ⟨j,hj,hg⟩:=Option.bind_eq_some_iff.1 hf
        obtain ⟨rfl,aY⟩:=sZ hj
        refine ⟨_,Cn hl hg,fun w=>?_⟩
        simp [execOp,ho,Instr.indexAt,aX hu,h',hi,Instr.sureAddr,asIntOf,aY,jB hn,gu]
      · simp at hf
    · trivial
  · rename_i e hu
    split
    · rename_i n hn
      intro ρ ev bF v he hf
      simp only [List.map,G0] at hf
      have hx:=he x (by simp)
      have hi:=he ix (by simp)
      split at hf
      · rename_i a len c k i e'
        simp at e'
        obtain ⟨e1,e2⟩:=e'
        rw [e1] at hx
        rw [e2] at hi
        obtain ⟨vV,hnc,l,a',c',hl,nz,EW,j8,h'⟩:=hx.jF
        have hi:=hi.bW
        obtain ⟨j,hj,hg⟩:=Option.bind_eq_some_iff.1 hf
        obtain ⟨rfl,aY⟩:=sZ hj
        refine ⟨_,Cn hl hg,fun w=>?_⟩
        have:=EW (by omega)
        subst this
        simp [execOp,ho,Instr.indexAt,aX hu,h',hi,asIntOf,aY,jB hn,gu]
      · simp at hf
    · trivial
  · trivial
theorem aee {t:TypeId} {x ix:Operand} (ho:o.op = .index t x ix):dM P o (AH P t x ix):=by
  unfold AH
  split
  · rename_i len e hu
    split
    · rename_i n hn
      intro ρ ev bF v he hf
      simp only [List.map,Jn] at hf
      have hx:=he x (by simp)
      have hi:=he ix (by simp)
      split at hf
      · rename_i cs k i e'
        simp at e'
        obtain ⟨e1,e2⟩:=e'
        rw [e1] at hx
        rw [e2] at hi
        obtain ⟨bk,h',hc⟩:=hx.iQ
        have hi:=hi.bW
        obtain ⟨j,hj,hg⟩:=Option.bind_eq_some_iff.1 hf
        obtain ⟨rfl,aY⟩:=sZ hj
        obtain ⟨v',h1,h2⟩:=Ie hc hg
        refine ⟨v',h1,fun w=>?_⟩
        simp [execOp,ho,Instr.index,aX hu,h',hi,asIntOf,aY,jB hn,h2]
      · simp at hf
    · trivial
  · rename_i hu
    intro ρ ev bF v he hf
    simp only [List.map,Jo] at hf
    have hx:=he x (by simp)
    have hi:=he ix (by simp)
    split at hf
    · rename_i s k i e'
      simp at e'
      obtain ⟨e1,e2⟩:=e'
      rw [e1] at hx
      rw [e2] at hi
      have hx:=hx.j9
      have hi:=hi.bW
      obtain ⟨j,hj,hg⟩:=Option.bind_eq_some_iff.1 hf
      obtain ⟨rfl,aY⟩:=sZ hj
      obtain ⟨b,hb,rfl⟩:=Option.map_eq_some_iff.1 hg
      refine ⟨_,VR.of_flat rfl,fun w=>?_⟩
      have hsb:s[j]? = some b:=by
        rw [← hb]
        simp only [getElem?_def]
        have h1:j < s.data.toList.length:=by simpa using aY
        rw [dif_pos aY,dif_pos h1]
        rfl
      simp [execOp,ho,Instr.index,aX hu,hx,hi,asIntOf,hsb]
    · simp at hf
  · trivial
theorem ZU {x:Operand} {i:Nat} (ho:o.op = .extract x i):dM P o (.pure (AB i) [x]):=by
  intro ρ ev bF v he hf
  simp only [List.map,AB] at hf
  have hx:=he x (by simp)
  split at hf
  · rename_i vs e
    simp at e
    rw [e] at hx
    obtain ⟨bN,h',hc⟩:=hx.xQ
    obtain ⟨v',h1,h2⟩:=hc.get hf
    refine ⟨v',h2,fun w=>?_⟩
    have h3:bN[i]? = some v':=by simpa using h1
    simp [execOp,ho,Instr.extract,h',h3]
  · simp at hf
theorem kS {t:TypeId} {x y:Value} {b:Bool} {w:World} (h:∀ d,(Op.equalIn (d+1) t x y).run P w = .ok b w):(Op.equal t x y).run P w = .ok b w:=h 9999
theorem ab1 {ρ:aw} {t:TypeId} {x y x' y' : Value} {b:Bool} (hx:VR ρ x x') (hy:VR ρ y y') (h:Sj P t x y=some b):∀ w,(Op.equal t x' y').run P w = .ok b w:=by
  have aiR:cond (flat x && flat y) (bM P (Op.equal t x y)) none=some b→∀ w,(Op.equal t x' y').run P w = .ok b w:=by
    intro h w
    cases hf:(flat x && flat y) with
    | false=>rw [hf] at h; simp at h
    | true=>
      rw [hf,cond_true] at h
      simp only [Bool.and_eq_true] at hf
      rw [hx.ib hf.1,hy.ib hf.2]
      exact dU h w
  intro w
  unfold Sj at h
  split at h
  · rename_i e c hu
    have hx:x' = .pointer none:=by simpa [VR] using hx
    cases c with
    | none=>
      have hy:y' = .pointer none:=by simpa [VR] using hy
      subst hx hy; simp at h; subst h
      exact kS fun d=>by simp [Op.equalIn,aX hu]
    | some a=>
      obtain ⟨_,l,_,hy⟩:=hy.eF
      subst hx hy; simp at h; subst h
      exact kS fun d=>by simp [Op.equalIn,aX hu]
  · rename_i e a hu
    obtain ⟨_,l,_,hx⟩:=hx.eF
    have hy:y' = .pointer none:=by simpa [VR] using hy
    subst hx hy; simp at h; subst h
    exact kS fun d=>by simp [Op.equalIn,aX hu]
  · rename_i e n c a n' c' hu
    have hx:=hx.eO
    cases a with
    | none=>
      have hy:=hy.eO
      subst hx hy; simp at h; subst h
      exact kS fun d=>by simp [Op.equalIn,aX hu]
    | some a=>
      obtain ⟨_,_,l,a',c2,_,_,_,_,hy⟩:=hy.jF
      subst hx hy; simp at h; subst h
      exact kS fun d=>by simp [Op.equalIn,aX hu]
  · rename_i e a n c n' c' hu
    obtain ⟨_,_,l,a',c2,_,_,_,_,hx⟩:=hx.jF
    have hy:=hy.eO
    subst hx hy; simp at h; subst h
    exact kS fun d=>by simp [Op.equalIn,aX hu]
  · rename_i k e a hu
    have hx:x' = .map none:=by simpa [VR] using hx
    cases a with
    | none=>
      have hy:y' = .map none:=by simpa [VR] using hy
      subst hx hy; simp at h; subst h
      exact kS fun d=>by simp [Op.equalIn,aX hu]
    | some a=>
      have hy:∃ l,ρ a=some l∧y' = .map (some l.cb):=by simpa only [VR] using hy
      obtain ⟨l,_,hy⟩:=hy
      subst hx hy; simp at h; subst h
      exact kS fun d=>by simp [Op.equalIn,aX hu]
  · rename_i k e a hu
    have hx:∃ l,ρ a=some l∧x' = .map (some l.cb):=by simpa only [VR] using hx
    obtain ⟨l,_,hx⟩:=hx
    have hy:y' = .map none:=by simpa [VR] using hy
    subst hx hy; simp at h; subst h
    exact kS fun d=>by simp [Op.equalIn,aX hu]
  · rename_i hu
    have hx:x' = .nilFunc:=by simpa [VR] using hx
    have hy:y' = .nilFunc:=by simpa [VR] using hy
    subst hx hy; simp at h; subst h
    exact kS fun d=>by simp [Op.equalIn,aX hu]
  · rename_i hu
    have hx:x' = .nilFunc:=by simpa [VR] using hx
    obtain ⟨f',c',_,hy,_,_,_⟩:=hy.uL
    subst hx hy; simp at h; subst h
    exact kS fun d=>by simp [Op.equalIn,aX hu]
  · rename_i hu
    obtain ⟨f',c',_,hx,_,_,_⟩:=hx.uL
    have hy:y' = .nilFunc:=by simpa [VR] using hy
    subst hx hy; simp at h; subst h
    exact kS fun d=>by simp [Op.equalIn,aX hu]
  · exact aiR h w
theorem aef {op:BinOp} {t:TypeId} {j k:IntKind} {a b:Int} {v:Value} (h:bM P (binOp op t (.int j a) (.int k b))=some v):flat v=true:=by
  have h:=dU h default
  cases op <;> simp only [binOp,Op.shift] at h <;> (repeat' split at h) <;>
    first
    | (simp [Op.intArith,Op.intBits,Op.intCmp] at h; subst h; rfl)
    | (simp only [Op.intDiv] at h; split at h <;> first | (simp at h; subst h; rfl) | (simp [runtimePanic,program,Sem.run] at h))
    | (simp at h; subst h; rfl)
    | (simp [runtimePanic,program,Sem.run] at h)
    | (simp at h)
theorem XS {op:BinOp} {t:TypeId} {a b:ByteArray} {v:Value} (h:bM P (binOp op t (.string a) (.string b))=some v):flat v=true:=by
  have h:=dU h default
  cases op <;> simp only [binOp,Op.stringOp] at h <;> (repeat' split at h) <;>
    first
    | (simp at h; subst h; rfl)
    | (simp at h)
theorem ab2 (op:BinOp) (t:TypeId) (x y:Operand) (j k:IntKind) (a b:Int) (w:World):(eqGuard op t x y (.int j a) (.int k b)).run P w = .ok () w:=by
  unfold eqGuard
  cases op <;> simp
theorem VQ (op:BinOp) (t:TypeId) (x y:Operand) (a b:ByteArray) (w:World):(eqGuard op t x y (.string a) (.string b)).run P w = .ok () w:=by
  unfold eqGuard
  cases op <;> simp
end
end Go.aV
end
section
namespace Go.aV
open Go
section
variable {P:Program} {o:Oper}
theorem zC {ρ:aw} {a a' : Value} (he:fK a=true) (h:VR ρ a a') :
    (a' = .nilIface→a = .nilIface)∧(∀ cs,a' = .agg cs→∃ bk,a = .agg bk)∧(∀ k n,a'≠.int k n)∧(∀ k n,a'≠.float k n)∧(∀ k n m,a'≠.complex k n m)∧(∀ s,a'≠.string s):=by
  cases a with
  | int k n=>simp [fK] at he
  | float k n=>simp [fK] at he
  | complex k n m=>simp [fK] at he
  | string s=>simp [fK] at he
  | chan r=>simp [fK] at he
  | tuple cs=>simp [fK] at he
  | bool b=>have:=h.cF; subst this; simp
  | pointer p=>
    cases p with
    | none=>have:a' = .pointer none:=by simpa [VR] using h
            subst this; simp
    | some p=>obtain ⟨_,_,_,rfl⟩:=h.eF; simp
  | slice p n c=>
    cases p with
    | none=>have:=h.eO; subst this; simp
    | some p=>obtain ⟨_,_,_,_,_,_,_,_,_,rfl⟩:=h.jF; simp
  | map r=>
    cases r with
    | none=>have:a' = .map none:=by simpa [VR] using h
            subst this; simp
    | some r=>
      have:∃ l,ρ r=some l∧a' = .map (some l.cb):=by simpa only [VR] using h
      obtain ⟨_,_,rfl⟩:=this; simp
  | func fn f c=>obtain ⟨_,_,_,rfl,_,_⟩:=h.uL; simp
  | nilFunc=>have:a' = .nilFunc:=by simpa [VR] using h
             subst this; simp
  | iface t x=>
    have:∃ x',VR ρ x x'∧a' = .iface t x':=by simpa only [VR] using h
    obtain ⟨_,_,rfl⟩:=this; simp
  | nilIface=>simp
              have:a' = .nilIface:=by simpa [VR] using h
              subst this; simp
  | agg cs=>obtain ⟨_,rfl,_⟩:=h.iQ; simp
theorem XT {ρ:aw} {op:BinOp} {t:TypeId} {x y:Operand} {a b a' b' : Value} (ea:fK a=true) (eb:fK b=true) (ha:VR ρ a a') (hb:VR ρ b b')
    (h:qN P t (isConst x || isConst y) a b=true) (w:World):(eqGuard op t x y a' b').run P w = .ok () w:=by
  obtain ⟨ha1,SD,_⟩:=zC ea ha
  obtain ⟨wI,oM,_⟩:=zC eb hb
  unfold eqGuard
  cases hop:(!(op matches .eql | .neq)) with
  | true=>simp
  | false=>
    simp only [Bool.false_eq_true,if_false]
    cases a' with
    | nilIface=>
      cases b' with
      | nilIface=>
        have e1:=ha1 rfl
        have e2:=wI rfl
        rw [e1,e2] at h
        have hc:(isConst x || isConst y)=true:=h
        cases x with
        | const v=>rfl
        | _=>
          cases y with
          | const v=>rfl
          | _=>simp [isConst] at hc
      | _=>rfl
    | agg cs=>
      cases b' with
      | agg ds=>
        obtain ⟨c1,rfl⟩:=SD _ rfl
        obtain ⟨c2,rfl⟩:=oM _ rfl
        have hg:P.eqGuardType P.depth t=false:=by simpa [qN] using h
        simp [hg]
      | _=>rfl
    | _=>rfl
theorem binOp_eql {ρ:aw} {t:TypeId} {a a' b' : Value} (ea:fK a=true) (ha:VR ρ a a'):binOp .eql t a' b' = (do pure (.bool (← Op.equal t a' b')))∧binOp .neq t a' b' = (do pure (.bool (!(← Op.equal t a' b')))):=by
  obtain ⟨_,_,h1,h2,h3,h4⟩:=zC ea ha
  cases a' with
  | int k n=>exact absurd rfl (h1 k n)
  | float k n=>exact absurd rfl (h2 k n)
  | complex k n m=>exact absurd rfl (h3 k n m)
  | string s=>exact absurd rfl (h4 s)
  | _=>constructor <;> rfl
theorem ahu {op:BinOp} {t yt:TypeId} {x y:Operand} (ho:o.op = .binOp op t x y yt):dM P o (.pure (lP P op t (isConst x || isConst y)) [x,y]):=by
  intro ρ ev bF v he hf
  have hx:=he x (by simp)
  have hy:=he y (by simp)
  have full:∀ b,kX P t (isConst x || isConst y) (ev x) (ev y)=some b→∀ w,(eqGuard op t x y (bF x) (bF y)).run P w = .ok () w∧(Op.equal t (bF x) (bF y)).run P w = .ok b w∧fK (ev x)=true:=by
    intro b hb w
    unfold kX at hb
    cases hc:(fK (ev x) && fK (ev y) && qN P t (isConst x || isConst y) (ev x) (ev y)) with
    | false=>rw [hc] at hb; simp at hb
    | true=>
      rw [hc,cond_true] at hb
      simp only [Bool.and_eq_true] at hc
      exact ⟨XT hc.1.1 hc.1.2 hx hy hc.2 w,ab1 hx hy hb w,hc.1.1⟩
  simp only [List.map,lP] at hf
  split at hf
  · rename_i j a k b e
    simp at e
    rw [e.1] at hx
    rw [e.2] at hy
    refine ⟨v,VR.of_flat (aef hf),fun w=>?_⟩
    simp [execOp,ho,hx.bW,hy.bW,ab2,dU hf w]
  · rename_i a b e
    simp at e
    rw [e.1] at hx
    rw [e.2] at hy
    refine ⟨v,VR.of_flat (XS hf),fun w=>?_⟩
    simp [execOp,ho,hx.j9,hy.j9,VQ,dU hf w]
  · rename_i a b _ _ e
    simp at e
    obtain ⟨rfl,rfl⟩:=e
    split at hf
    · obtain ⟨c,hc,rfl⟩:=Option.map_eq_some_iff.1 hf
      refine ⟨.bool c,VR.of_flat rfl,fun w=>?_⟩
      obtain ⟨h1,h2,h3⟩:=full c hc w
      simp [execOp,ho,h1,(binOp_eql (t:=t) (b':=bF y) h3 hx).1,h2]
    · obtain ⟨c,hc,rfl⟩:=Option.map_eq_some_iff.1 hf
      refine ⟨.bool (!c),VR.of_flat rfl,fun w=>?_⟩
      obtain ⟨h1,h2,h3⟩:=full c hc w
      simp [execOp,ho,h1,(binOp_eql (t:=t) (b':=bF y) h3 hx).2,h2]
    · simp at hf
  · simp at hf
theorem EX:∀ (n:Nat) (l:List Value),dr n l [] = some l
  | 0,l=>rv l
  | n+1,[]=>Jk n
  | n+1,x :: l=>by simp [kq,EX n l]
theorem Qf (off:Nat):∀ (l:List Value) (k:Nat) (cs:Array Value),off+k+l.length≤cs.size→
    ∃ r,dr (off+k) cs.toList l=some r∧((l.zipIdx k).foldl (fun cs (p:Value×Nat)=>cs.setIfInBounds (off+p.2) p.1) cs).toList=r
  | [],k,cs,_=>⟨cs.toList,EX _ _,rfl⟩
  | v :: l,k,cs,h=>by
    obtain ⟨r,h1,h2⟩:=Qf off l (k+1) (cs.setIfInBounds (off+k) v) (by simp at h ⊢; omega)
    refine ⟨r,?_,by simpa using h2⟩
    have aY:off+k < cs.size:=by simp at h; omega
    have key:∀ (n:Nat) (l0 l1:List Value) (v:Value),n < l0.length→dr (n+1) (l0.set n v) l1=dr n l0 (v :: l1):=by
      intro n
      induction n with
      | zero=>intro l0 l1 v hn; cases l0 with
        | nil=>simp at hn
        | cons x xs=>simp [kq,oI]
      | succ n ih=>intro l0 l1 v hn; cases l0 with
        | nil=>simp at hn
        | cons x xs=>simp only [List.set_cons_succ]; rw [kq,kq]; rw [ih xs l1 v (by simpa using hn)]
    rw [← key (off+k) cs.toList l v (by simpa using aY)]
    rw [Array.toList_setIfInBounds] at h1
    exact h1
theorem EY {ρ:aw} {place:Nat→Option (Nat×Nat)} : ∀ {is:List Nat} {vs bN:List Value} {cells:List Value} {qQ:Array Value} {r:List Value},bS ρ vs bN→bS ρ cells qQ.toList→(∀ v ∈ vs,∀ c,v≠.chan c)→
    sM place cells (zipIdx is vs)=some r→is.length=vs.length→∃ r',Instr.fill place qQ (is.zip bN)=some r'∧bS ρ r r'.toList
  | [],vs,bN,cells,qQ,r,hv,hc,_,h,hl=>by
    have:vs = []:=by cases vs <;> simp_all
    subst this
    simp [zipIdx,sM] at h
    subst h
    exact ⟨qQ,rfl,hc⟩
  | i :: is,[],bN,cells,qQ,r,hv,hc,_,h,hl=>by simp at hl
  | i :: is,v :: vs,bN,cells,qQ,r,hv,hc,hn,h,hl=>by
    obtain ⟨y,ys,rfl,hvy,hvs⟩:=hv.cons_inv
    simp only [zipIdx,sM] at h
    cases hp:place i with
    | none=>rw [hp] at h; simp at h
    | some p=>
      obtain ⟨off,size⟩:=p
      rw [hp] at h
      simp only at h
      cases hb:(Nat.beq v.cells.size size && Nat.ble 1 size) with
      | false=>rw [hb] at h; simp at h
      | true=>
        rw [hb,cond_true] at h
        obtain ⟨cs,h1,h2⟩:=Option.bind_eq_some_iff.1 h
        obtain ⟨wI,oM⟩:=Bool.and_eq_true_iff.1 hb
        have cA:v.cells.size=size:=Nat.eq_of_beq_eq_true wI
        have AZ:1≤size:=Nat.le_of_ble_eq_true oM
        have hvc:=hvy.cells (hn v (by simp))
        obtain ⟨bk,h3,h4⟩:=bS.write h1 hc hvc
        have hys:y.cells.size=size:=by have:=hvc.length; simp at this; omega
        obtain ⟨_,j8,_⟩:=eJ h3
        have hle:=j8 (by intro e; have:y.cells.size=0:=by rw [← Array.length_toList,e]; rfl
                         omega)
        simp at hle
        obtain ⟨q,h5,h6⟩:=Qf off y.cells.toList 0 qQ (by simpa using hle)
        rw [Nat.add_zero] at h5
        rw [h3] at h5
        simp at h5
        subst h5
        obtain ⟨r',h7,h8⟩:=EY (qQ:=((y.cells.toList.zipIdx 0).foldl (fun cs (p:Value×Nat)=>cs.setIfInBounds (off+p.2) p.1) qQ)) (is:=is) hvs (by rw [h6]; exact h4) (fun v hv=>hn v (by simp [hv])) h2 (by simpa using hl)
        refine ⟨r',?_,h8⟩
        simp only [List.zip_cons_cons,Instr.fill,hp,hys]
        rw [if_neg (by simp; omega)]
        have e:y.cells.zipIdx.foldl (fun cs (x:Value×Nat)=>cs.setIfInBounds (off+x.2) x.1) qQ=((y.cells.toList.zipIdx 0).foldl (fun cs (p:Value×Nat)=>cs.setIfInBounds (off+p.2) p.1) qQ):=by
          rw [← Array.foldl_toList,Array.toList_zipIdx]
        rw [← e] at h7
        exact h7
theorem parts_eq (parts:Array (Nat×Operand)) (ev:Operand→Value):(parts.map fun (i,x)=>(i,ev x)).toList=(parts.toList.map (·.1)).zip ((parts.toList.map (·.2)).map ev):=by
  rw [Array.toList_map]
  induction parts.toList with
  | nil=>rfl
  | cons p l ih=>obtain ⟨i,x⟩:=p; simpa using ih
theorem SE {vs:List Value} (h:vs.all known=true):∀ v ∈ vs,∀ c,v≠.chan c:=by
  intro v hv c e
  rw [List.all_eq_true] at h
  have:=h v hv
  subst e
  simp [known] at this
theorem SF {t:TypeId} {z:Value} (h:kr P t=some z):∃ i,P.info? t=some i∧i.zero=some z:=by
  unfold kr at h
  exact Option.bind_eq_some_iff.1 h
theorem ab3 {t:TypeId} {n:Nat} (h:size? P t=some n):∃ i,P.info? t=some i∧i.size=n:=by
  unfold size? at h
  exact Option.map_eq_some_iff.1 h
theorem yP {ρ:aw} {z:Value} (h:flat z=true):bS ρ z.cells.toList z.cells.toList:=
  (VR.of_flat h).cells (fun r e=>by subst e; simp [flat] at h)
theorem Q9 {ρ:aw} {place:Nat→Option (Nat×Nat)} {z v:Value} {is:List Nat} {vs bN:List Value} (hv:bS ρ vs bN) (hl:is.length=vs.length) (h:uC place z is vs=some v) :
    ∃ r',Instr.fill place z.cells (is.zip bN)=some r'∧VR ρ v (.agg r'):=by
  unfold uC at h
  cases hc:(flat z && vs.all known) with
  | false=>rw [hc] at h; simp at h
  | true=>
    rw [hc,cond_true] at h
    obtain ⟨h1,h2⟩:=Bool.and_eq_true_iff.1 hc
    obtain ⟨r,h3,rfl⟩:=Option.map_eq_some_iff.1 h
    obtain ⟨r',h4,h5⟩:=EY hv (yP h1) (SE h2) h3 hl
    exact ⟨r',h4,by simp only [kP,VR]; exact ⟨r',qx.2 h5,rfl⟩⟩
theorem aeg {t:TypeId} {parts:Array (Nat×Operand)} (ho:o.op = .build t parts):dM P o (Az P t (parts.toList.map (·.1)) (parts.toList.map (·.2))):=by
  have done:∀ (place:Nat→Option (Nat×Nat)) (z:Value),(∀ ps cells,Instr.fill place z.cells ps=some cells→P.built t ps=some cells)→
      dM P o (.pure (uC place z (parts.toList.map (·.1))) (parts.toList.map (·.2))):=by
    intro place z hb ρ ev bF v he hf
    obtain ⟨r',h1,h2⟩:=Q9 he.map (by simp) hf
    refine ⟨.agg r',h2,fun w=>?_⟩
    have h3:=hb _ _ h1
    have:=run_build (P:=P) w t (parts.map fun (i,x)=>(i,bF x)) r' (by rw [parts_eq]; exact h3)
    simp [execOp,ho,this]
  unfold Az
  split
  · rename_i z fields hz hu
    split
    · rename_i l hl
      obtain ⟨i,hi,hiz⟩:=SF hz
      refine done _ _ fun ps cells h=>?_
      unfold Program.built
      unfold placesOf at hl
      simp only [hi,hu,hiz,hl]
      have e:(fun x=>l.toArray[x]?)=KL l:=by funext x; simp [KL]
      rw [e]
      exact h
    · trivial
  · rename_i z n e hz hu
    split
    · rename_i k hk
      obtain ⟨i,hi,hiz⟩:=SF hz
      obtain ⟨j,hj,rfl⟩:=ab3 hk
      refine done _ _ fun ps cells h=>?_
      unfold Program.built
      simp only [hi,hu,hiz,hj]
      exact h
    · trivial
  · trivial
theorem Qg (z:List Value) (hz:1≤z.length):∀ (len i:Nat),(dz z len)[i]? = if i < len * z.length then z[i % z.length]? else none
  | 0,i=>by simp [dz]
  | len+1,i=>by
    simp only [dz,List.getElem?_append]
    split
    · rename_i h
      rw [if_pos (by rw [Nat.succ_mul]; omega),Nat.mod_eq_of_lt h]
    · rename_i h
      rw [Qg z hz len (i - z.length)]
      rw [Nat.succ_mul]
      by_cases hc:i - z.length < len * z.length
      · rw [if_pos hc,if_pos (by omega)]
        have:i % z.length=(i - z.length) % z.length:=Nat.mod_eq_sub_mod (by omega)
        rw [this]
      · rw [if_neg hc,if_neg (by omega)]
theorem Jy (z:Array Value) (len:Nat) (hz:1≤z.size):(Array.range (len * z.size)).map (fun i=>z[i % z.size]!)=⟨dz z.toList len⟩:=by
  apply Array.ext'
  apply List.ext_getElem?
  intro i
  rw [Qg z.toList (by simpa using hz)]
  simp only [Array.length_toList]
  rw [Array.toList_map,Array.toList_range,List.getElem?_map]
  by_cases h:i < len * z.size
  · rw [if_pos h,List.getElem?_range h]
    have hm:i % z.size < z.size:=Nat.mod_lt _ hz
    simp [hm]
  · rw [if_neg h,List.getElem?_eq_none (by simp; omega)]
    rfl
theorem bS.repeat {ρ:aw} {z z' : List Value} (h:bS ρ z z'):∀ n,bS ρ (dz z n) (dz z' n)
  | 0=>.nil
  | n+1=>h.append (bS.repeat h n)
theorem SG {t:TypeId} {len:Nat} {parts:Array (Nat×Operand)} (ho:o.op = .buildSlice t len parts):dM P o (oK P t len (parts.toList.map (·.1)) (parts.toList.map (·.2))):=by
  unfold oK
  split
  · rename_i e hu
    split
    · rename_i n z hn hz
      cases hc:(Nat.ble (len * n) 16777216 && Nat.beq z.cells.size n && Nat.ble 1 n && flat z) with
      | false=>exact True.intro
      | true=>
        rw [cond_true]
        simp only [Bool.and_eq_true] at hc
        obtain ⟨⟨⟨h1,h2⟩,h3⟩,h4⟩:=hc
        have hle:len * n≤16777216:=Nat.le_of_ble_eq_true h1
        have XU:z.cells.size=n:=Nat.eq_of_beq_eq_true h2
        have AZ:1≤n:=Nat.le_of_ble_eq_true h3
        intro ρ ev bF obj mk he hf
        unfold pj at hf
        obtain ⟨l,hl,hf⟩:=Option.bind_eq_some_iff.1 hf
        cases hk:(l.all scalar && ((parts.toList.map (·.2)).map ev).all known) with
        | false=>rw [hk] at hf; simp at hf
        | true=>
          rw [hk,cond_true] at hf
          obtain ⟨HK,SH⟩:=Bool.and_eq_true_iff.1 hk
          simp only [Option.some.injEq,Prod.mk.injEq] at hf
          obtain ⟨rfl,rfl⟩:=hf
          have ajv:=bS.repeat (yP (ρ:=ρ) h4) len
          obtain ⟨r',h5,h6⟩:=EY (qQ:=⟨dz z.cells.toList len⟩) he.map ajv (SE SH) hl (by simp)
          rw [List.all_eq_true] at HK
          have hlen:l.length=len * n:=by
            have e1:∀ {is:List Nat} {vs cs r:List Value},sM (sf n) cs (zipIdx is vs)=some r→r.length=cs.length:=by
              intro is
              induction is with
              | nil=>intro vs cs r h; simp [zipIdx,sM] at h; subst h; rfl
              | cons i is ih=>
                intro vs cs r h
                cases vs with
                | nil=>simp [zipIdx,sM] at h; subst h; rfl
                | cons v vs=>
                  simp only [zipIdx,sM,sf] at h
                  cases hb:(Nat.beq v.cells.size n && Nat.ble 1 n) with
                  | false=>rw [hb] at h; simp at h
                  | true=>
                    rw [hb,cond_true] at h
                    obtain ⟨q,hq,h⟩:=Option.bind_eq_some_iff.1 h
                    rw [ih h,(eJ hq).1]
            rw [e1 hl]
            have e2:∀ (z:List Value) (k:Nat),(dz z k).length=k * z.length:=by
              intro z k
              induction k with
              | zero=>simp [dz]
              | succ k ih=>simp [dz,ih,Nat.succ_mul,Nat.add_comm]
            rw [e2]
            simp [XU]
          refine ⟨.cells r' e,fun b=>.slice (some ⟨b,0,none⟩) len len,⟨r',e,rfl,h6,HK⟩,fun w=>?_,fun aq m cb eK=>?_⟩
          · have e1:(Array.range (len * n)).map (fun i=>z.cells[i % z.cells.size]!)=⟨dz z.cells.toList len⟩:=by
              rw [← XU]; exact Jy z.cells len (by omega)
            have e2:Instr.fill (fun i=>some (i * n,n)) ((Array.range (len * n)).map (fun i=>z.cells[i % z.cells.size]!)) (parts.map fun (i,x)=>(i,bF x)).toList=some r':=by
              rw [e1,parts_eq]; exact h5
            have ajw : ¬ (2 ^ 24 < len * n):=by omega
            simp only [execOp,ho,Instr.buildSlice,Sem.run_bind,aX hu,Result.andThen_ok,jB hn,gt_iff_lt]
            rw [if_neg ajw]
            by_cases EZ:len * n=0
            · rw [EZ] at e2
              have e5:∀ (f g:Nat→Value),(Array.range 0).map f=(Array.range 0).map g:=by intro f g; simp
              have e6:Instr.fill (fun i=>some (i * n,n)) ((Array.range 0).map (fun i=>z.cells[i % z.cells.size]!)) (Array.map (fun x=>(x.fst,bF x.snd)) parts).toList=some r':=e2
              simp only [EZ,if_true,pure_bind]
              rw [e5 _ (fun i=>z.cells[i % z.cells.size]!)]
              simp only [e6]
              simp [newRow]
            · have e6:Instr.fill (fun i=>some (i * n,n)) ((Array.range (len * n)).map (fun i=>z.cells[i % z.cells.size]!)) (Array.map (fun x=>(x.fst,bF x.snd)) parts).toList=some r':=e2
              simp only [EZ,if_false,bind_pure_comp,Sem.run_bind,Hf hz,Result.andThen_ok,Sem.run_pure]
              simp only [e6]
              simp [newRow]
          · simp only [VR]
            refine ⟨trivial,Nat.le_refl _,_,⟨cb,0,none⟩,len,eK,Nat.le_refl _,fun _=>by simp [mT],?_,rfl⟩
            simp [mT,hlen]
    · trivial
  · trivial
theorem SI {ρ:aw} {a:Option Addr} {n c:Nat} {y:Value} (h:VR ρ (.slice a n c) y):∃ a' c',y = .slice a' n c':=by
  cases a with
  | none=>exact ⟨_,_,h.eO⟩
  | some a=>obtain ⟨_,_,_,a',c',_,_,_,_,h⟩:=h.jF; exact ⟨_,_,h⟩
theorem aeh {argTypes:Array TypeId} {args:Array Operand} {t e:TypeId} (ho:o.op = .call ⟨.builtin .len,args,argTypes⟩) (rB:argTypes[0]? = some t) (hu:P.underlying t=some (.slice e)):dM P o (.pure KM args.toList):=by
  intro ρ ev bF v he hf
  have hm:=he.map
  unfold KM at hf
  split at hf
  · rename_i a n c e1
    rw [e1] at hm
    obtain ⟨y,ys,e2,h1,h2⟩:=hm.cons_inv
    have h2:=h2.bh
    subst h2
    simp at hf; subst hf
    refine ⟨_,VR.of_flat rfl,fun w=>?_⟩
    obtain ⟨a',c',rfl⟩:=SI h1
    have e3:(args.map bF)[0]? = some (.slice a' n c'):=by rw [jk,e2]; rfl
    simp [execOp,ho,resolve,invoke,builtin,Builtin.len_,rB,e3,aX hu,goInt]
  · simp at hf
theorem ab4 {argTypes:Array TypeId} {args:Array Operand} {t:TypeId} (ho:o.op = .call ⟨.builtin .len,args,argTypes⟩) (rB:argTypes[0]? = some t) (hu:P.underlying t=some .string):dM P o (.pure KN args.toList):=by
  intro ρ ev bF v he hf
  have hm:=he.map
  unfold KN at hf
  split at hf
  · rename_i s e1
    rw [e1] at hm
    obtain ⟨y,ys,e2,h1,h2⟩:=hm.cons_inv
    have h2:=h2.bh
    subst h2
    simp at hf; subst hf
    refine ⟨_,VR.of_flat rfl,fun w=>?_⟩
    have h1:=h1.j9
    subst h1
    have e3:(args.map bF)[0]? = some (.string s):=by rw [jk,e2]; rfl
    simp [execOp,ho,resolve,invoke,builtin,Builtin.len_,rB,e3,aX hu,goInt]
  · simp at hf
theorem Oc {ρ:aw} {vs bN:List Value} {x x' : Value} {g:FuncId} {akK:List Value} (hx:VR ρ x x') (hv:bS ρ vs bN) (hg:Nat.blt g yB=true) (h:fw vs x=some (g,akK)) :
    ∃ first cap akL,x' = .func (.func g) first cap∧akL=first.toList ++ bN ++ cap.toList∧bS ρ akK akL:=by
  unfold fw at h
  split at h
  · rename_i g' first cap
    cases hb:Nat.blt g' yB with
    | false=>rw [hb] at h; simp at h
    | true=>
      rw [hb,cond_true] at h
      simp at h
      obtain ⟨rfl,rfl⟩:=h
      obtain ⟨f',c',qw,rfl,h1,h2,h3⟩:=hx.uL
      have h3:qw = .func g':=h3
      subst h3
      exact ⟨f',c',_,rfl,rfl,by simpa using (h1.append hv).append h2⟩
  · simp at h
    obtain ⟨rfl,_⟩:=h
    rw [Nat.blt_eq] at hg
    exact absurd hg (Nat.not_lt.2 (Nat.le_add_right _ _))
  · simp at h
theorem aft {c:Call} {f:Operand} (ho:o.op = .call c) (hf:c.callee = .value f):dM P o (.call f c.args.toList):=by
  refine ⟨fun ρ ev bF l he hy=>?_,?_⟩
  · have hx:=he f (by simp)
    rw [hy] at hx
    obtain ⟨f',c',qw,h1,h2,h3,loc,h4,h5⟩:=hx.uL
    subst h5
    have h2:=h2.bh
    have h3:=h3.bh
    have e1:f' = #[]:=by cases f'; simpa using h2
    have e2:c' = #[]:=by cases c'; simpa using h3
    subst e1; subst e2
    refine ⟨loc,_,h4,he.tail.map,fun w=>?_⟩
    have e:c.args.map bF=(c.args.toList.map bF).toArray:=by apply Array.ext'; simp
    simp only [execOp,ho,Sem.run_bind,resolve,hf,Deferred.ofValue,h1,Sem.run_pure,Result.andThen_ok,invoke]
    simp [e]
  intro ρ ev bF g vs he hg Dz Jx
  obtain ⟨first,cap,akL,h1,h2,h3⟩:=Oc (he f (by simp)) he.tail.map hg Dz
  obtain ⟨fn,h4,h5,h6⟩:=Jx
  refine ⟨akL,h3,fun w=>?_⟩
  have hb:fn.body.isNone=false:=by simpa using h5
  have e:first ++ c.args.map bF ++ cap=akL.toArray:=by
    apply Array.ext'
    simp [h2]
  have hh : ¬(fn.name = "runtime.NumGoroutine") := by simpa using h6
  simp only [execOp,ho,Sem.run_bind,resolve,hf,Deferred.ofValue,h1,Sem.run_pure,Result.andThen_ok,invoke,callFunc,run_program,h4]
  simp [hh,hb,← e]
end
end Go.aV
end
section
namespace Go.aV
open Go
section
variable {P:Program} {o:Oper}
theorem eY {ρ:aw} {y y' : Nat} {v v' : Value} {r:Nat} (hv:VR ρ v v') (h:Q6 y v=some r) (hy:y≤y') :
    r≤y∧∀ code w,(Instr.sliceBound v' y' code).run P w = .ok r w:=by
  unfold Q6 at h
  split at h
  · rename_i k i
    obtain ⟨rfl,aY⟩:=sZ h
    have:=hv.bW
    subst this
    have hle:r≤y:=by omega
    refine ⟨hle,fun code w=>?_⟩
    have:=run_sliceBound (P:=P) w k (r:Int) y' code (by omega) (by omega)
    simpa using this
  · simp at h
theorem yQ {ρ:aw} {ev bF:Operand→Value} {lo hi mx:Option Operand} {len cap SJ l h m:Nat} (he:ny ρ ev bF (da lo ++ da hi ++ da mx))
    (hb:mN len cap lo.isSome hi.isSome mx.isSome ((da lo ++ da hi ++ da mx).map ev)=some (l,h,m)) (hc:cap≤SJ) (Cp:len≤cap) :
    l≤h∧h≤m∧m≤cap∧m≤(cond mx.isSome m SJ)∧(cond mx.isSome m SJ)≤SJ∧(mx.isSome=false→m=cap)∧∀ b w,(Instr.sliceBounds b len SJ (lo.map bF) (hi.map bF) (mx.map bF)).run P w = .ok (l,h,cond mx.isSome m SJ) w:=by
  cases lo with
  | none=>
    cases hi with
    | none=>
      cases mx with
      | none=>
        simp [da,mN] at hb
        obtain ⟨rfl,rfl,rfl⟩:=hb
        exact ⟨by omega,Cp,Nat.le_refl _,hc,Nat.le_refl _,fun _=>rfl,fun b w=>by simp [Instr.sliceBounds]⟩
      | some x=>simp [da,mN] at hb
    | some y=>
      cases mx with
      | none=>
        simp only [da,Option.isSome,List.nil_append,List.append_nil,List.map,mN,Option.map_eq_some_iff] at hb
        obtain ⟨r,hr,hb⟩:=hb
        simp at hb
        obtain ⟨rfl,rfl,rfl⟩:=hb
        obtain ⟨h1,h2⟩:=eY (P:=P) (he y (by simp [da])) hr hc
        exact ⟨by omega,h1,Nat.le_refl _,hc,Nat.le_refl _,fun _=>rfl,fun b w=>by simp [Instr.sliceBounds,h2]⟩
      | some z=>
        simp only [da,Option.isSome,List.nil_append,List.map,List.cons_append,mN,Option.bind_eq_some_iff,Option.map_eq_some_iff] at hb
        obtain ⟨r,hr,q,hq,hb⟩:=hb
        simp at hb
        obtain ⟨rfl,rfl,rfl⟩:=hb
        obtain ⟨h1,h2⟩:=eY (P:=P) (he z (by simp [da])) hr hc
        obtain ⟨h3,h4⟩:=eY (P:=P) (he y (by simp [da])) hq (Nat.le_refl _)
        exact ⟨by omega,h3,h1,Nat.le_refl _,by simp; omega,fun h=>by simp at h,fun b w=>by simp [Instr.sliceBounds,h2,h4]⟩
  | some x=>
    cases hi with
    | none=>
      cases mx with
      | none=>
        simp only [da,Option.isSome,List.append_nil,List.map,mN,Option.map_eq_some_iff] at hb
        obtain ⟨r,hr,hb⟩:=hb
        simp at hb
        obtain ⟨rfl,rfl,rfl⟩:=hb
        obtain ⟨h1,h2⟩:=eY (P:=P) (he x (by simp [da])) hr (Nat.le_refl _)
        exact ⟨h1,Cp,Nat.le_refl _,hc,Nat.le_refl _,fun _=>rfl,fun b w=>by simp [Instr.sliceBounds,h2]⟩
      | some x=>simp [da,mN] at hb
    | some y=>
      cases mx with
      | none=>
        simp only [da,Option.isSome,List.append_nil,List.map,List.cons_append,List.nil_append,mN,Option.bind_eq_some_iff,Option.map_eq_some_iff] at hb
        obtain ⟨r,hr,q,hq,hb⟩:=hb
        simp at hb
        obtain ⟨rfl,rfl,rfl⟩:=hb
        obtain ⟨h1,h2⟩:=eY (P:=P) (he y (by simp [da])) hr hc
        obtain ⟨h3,h4⟩:=eY (P:=P) (he x (by simp [da])) hq (Nat.le_refl _)
        exact ⟨h3,h1,Nat.le_refl _,hc,Nat.le_refl _,fun _=>rfl,fun b w=>by simp [Instr.sliceBounds,h2,h4]⟩
      | some z=>
        simp only [da,Option.isSome,List.map,List.cons_append,List.nil_append,mN,Option.bind_eq_some_iff,Option.map_eq_some_iff] at hb
        obtain ⟨r,hr,q,hq,s,hs,hb⟩:=hb
        simp at hb
        obtain ⟨rfl,rfl,rfl⟩:=hb
        obtain ⟨h1,h2⟩:=eY (P:=P) (he z (by simp [da])) hr hc
        obtain ⟨h3,h4⟩:=eY (P:=P) (he y (by simp [da])) hq (Nat.le_refl _)
        obtain ⟨h5,h6⟩:=eY (P:=P) (he x (by simp [da])) hs (Nat.le_refl _)
        exact ⟨h5,h3,h1,Nat.le_refl _,by simp; omega,fun h=>by simp at h,fun b w=>by simp [Instr.sliceBounds,h2,h4,h6]⟩
theorem SK {A:St} {b n:Nat} (h:vl A b n=true):∃ cs own a9,A.get b=some (.row cs n own a9):=by
  unfold vl at h
  split at h
  · rename_i cs a8 own a9 hg
    have:=Nat.eq_of_beq_eq_true h
    subst this
    exact ⟨cs,own,a9,hg⟩
  · simp at h
theorem ok_slice {t:TypeId} {x:Operand} {lo hi mx:Option Operand} (ho:o.op = .slice t x lo hi mx):dM P o (AD P t x lo hi mx):=by
  unfold AD
  split
  · rename_i e hu
    split
    · rename_i n hn
      cases AZ:Nat.ble 1 n with
      | false=>exact True.intro
      | true=>
        rw [cond_true]
        have AZ:1≤n:=Nat.le_of_ble_eq_true AZ
        intro ρ A base w ev bF v hs he hf
        have hx:=he x (by simp)
        have hsl:P.underlying t=some (.slice (P.elem t))→True:=fun _=>trivial
        simp only [List.map,sg] at hf
        split at hf
        · rename_i len cap vs e1
          simp only [List.cons.injEq] at e1
          obtain ⟨e1,e2⟩:=e1
          rw [e1] at hx
          have hx:=hx.eO
          subst e2
          obtain ⟨⟨l,h,m⟩,hb,rfl⟩:=Option.map_eq_some_iff.1 hf
          by_cases Cp:len≤cap
          · obtain ⟨h1,h2,h3,h4,h5,h6,h7⟩:=yQ (P:=P) he.tail hb (Nat.le_refl _) Cp
            have hm:cond mx.isSome m cap=m:=by cases Ra:mx.isSome <;> simp; exact (h6 Ra).symm
            refine ⟨.slice none (h - l) (m - l),by simp [VR],?_⟩
            simp [execOp,ho,Instr.sliceAt,Instr.slice,aX hu,hx,h7,hm,jB hn]
          ·
            have key:∀ b w,(Instr.sliceBounds b len cap (lo.map bF) (hi.map bF) (mx.map bF)).run P w = .ok (l,h,m) w:=by
              intro b w
              have afu:cap≤len:=by omega
              cases lo with
              | none=>
                cases hi with
                | none=>
                  cases mx with
                  | none=>simp [da,mN] at hb; obtain ⟨rfl,rfl,rfl⟩:=hb; simp [Instr.sliceBounds]
                  | some x=>simp [da,mN] at hb
                | some y=>
                  cases mx with
                  | none=>
                    simp only [da,Option.isSome,List.nil_append,List.append_nil,List.map,mN,Option.map_eq_some_iff] at hb
                    obtain ⟨r,hr,hb⟩:=hb
                    simp at hb
                    obtain ⟨rfl,rfl,rfl⟩:=hb
                    have:=(eY (P:=P) (he y (by simp [da])) hr (Nat.le_refl _)).2
                    simp [Instr.sliceBounds,this]
                  | some z=>
                    simp only [da,Option.isSome,List.nil_append,List.map,List.cons_append,mN,Option.bind_eq_some_iff,Option.map_eq_some_iff] at hb
                    obtain ⟨r,hr,q,hq,hb⟩:=hb
                    simp at hb
                    obtain ⟨rfl,rfl,rfl⟩:=hb
                    have h2:=(eY (P:=P) (he z (by simp [da])) hr (Nat.le_refl _)).2
                    have h4:=(eY (P:=P) (he y (by simp [da])) hq (Nat.le_refl _)).2
                    simp [Instr.sliceBounds,h2,h4]
              | some x'=>
                cases hi with
                | none=>
                  cases mx with
                  | none=>
                    simp only [da,Option.isSome,List.append_nil,List.map,mN,Option.map_eq_some_iff] at hb
                    obtain ⟨r,hr,hb⟩:=hb
                    simp at hb
                    obtain ⟨rfl,rfl,rfl⟩:=hb
                    have:=(eY (P:=P) (he x' (by simp [da])) hr (Nat.le_refl _)).2
                    simp [Instr.sliceBounds,this]
                  | some x=>simp [da,mN] at hb
                | some y=>
                  cases mx with
                  | none=>
                    simp only [da,Option.isSome,List.append_nil,List.map,List.cons_append,List.nil_append,mN,Option.bind_eq_some_iff,Option.map_eq_some_iff] at hb
                    obtain ⟨r,hr,q,hq,hb⟩:=hb
                    simp at hb
                    obtain ⟨rfl,rfl,rfl⟩:=hb
                    have h2:=(eY (P:=P) (he y (by simp [da])) hr (Nat.le_refl _)).2
                    have h4:=(eY (P:=P) (he x' (by simp [da])) hq (Nat.le_refl _)).2
                    simp [Instr.sliceBounds,h2,h4]
                  | some z=>
                    simp only [da,Option.isSome,List.map,List.cons_append,List.nil_append,mN,Option.bind_eq_some_iff,Option.map_eq_some_iff] at hb
                    obtain ⟨r,hr,q,hq,s,K7,hb⟩:=hb
                    simp at hb
                    obtain ⟨rfl,rfl,rfl⟩:=hb
                    have h2:=(eY (P:=P) (he z (by simp [da])) hr (Nat.le_refl _)).2
                    have h4:=(eY (P:=P) (he y (by simp [da])) hq (Nat.le_refl _)).2
                    have h6:=(eY (P:=P) (he x' (by simp [da])) K7 (Nat.le_refl _)).2
                    simp [Instr.sliceBounds,h2,h4,h6]
            refine ⟨.slice none (h - l) (m - l),by simp [VR],?_⟩
            simp [execOp,ho,Instr.sliceAt,Instr.slice,aX hu,hx,key,jB hn]
        · rename_i a len cap vs e1
          simp only [List.cons.injEq] at e1
          obtain ⟨e1,e2⟩:=e1
          rw [e1] at hx
          subst e2
          obtain ⟨vV,Cp,lc,a',c',hl,nz,EW,j8,h'⟩:=hx.jF
          cases hg:(bA a && vl A a.block n) with
          | false=>rw [hg] at hf; simp at hf
          | true=>
            rw [hg,cond_true] at hf
            obtain ⟨_,K8⟩:=Bool.and_eq_true_iff.1 hg
            obtain ⟨cs,own,a9,fa⟩:=SK K8
            obtain ⟨l2,hY,ok⟩:=hs.row _ _ _ _ _ fa
            rw [hl] at hY; simp at hY; subst hY
            have VS:lc.a8=n:=ok.a8
            obtain ⟨⟨l,h,m⟩,hb,rfl⟩:=Option.map_eq_some_iff.1 hf
            obtain ⟨h1,h2,h3,h4,h5,h6,h7⟩:=yQ (P:=P) he.tail hb nz Cp
            generalize VM:cond mx.isSome m c' = m' at h4 h5 h7
            refine ⟨.slice (some (if m' = l then a' else a'.add (l * n))) (h - l) (m' - l),?_,?_⟩
            · simp only [VR]
              refine ⟨trivial,by omega,lc,_,m' - l,hl,by omega,fun bo=>?_,?_,rfl⟩
              · rw [if_neg (by omega),EW (by omega),gu]
                simp only [Nat.add_assoc]
              · rw [VS]
                rw [VS] at j8
                have e5:l * n+(m' - l) * n=m' * n:=by rw [← Nat.add_mul]; congr 1; omega
                have e6:m' * n≤c' * n:=Nat.mul_le_mul_right _ h5
                omega
            · simp only [execOp,ho,Instr.sliceAt,Instr.slice,Sem.run_bind,aX hu,Result.andThen_ok,h',h7,jB hn]
              by_cases Jz:m' = l <;> simp [Jz]
        · simp at hf
    · trivial
  · rename_i len e hu
    split
    · rename_i n hn
      cases AZ:Nat.ble 1 n with
      | false=>exact True.intro
      | true=>
        rw [cond_true]
        intro ρ A base w ev bF v hs he hf
        have hx:=he x (by simp)
        simp only [List.map,Ca] at hf
        split at hf
        · rename_i a vs e1
          simp only [List.cons.injEq] at e1
          obtain ⟨e1,e2⟩:=e1
          rw [e1] at hx
          subst e2
          obtain ⟨vV,lc,hl,h'⟩:=hx.eF
          cases hg:(bA a && vl A a.block n && Nat.ble (a.off+len * n) (KO A a.block)) with
          | false=>rw [hg] at hf; simp at hf
          | true=>
            rw [hg,cond_true] at hf
            simp only [Bool.and_eq_true] at hg
            obtain ⟨⟨_,K8⟩,hlen⟩:=hg
            obtain ⟨cs,own,a9,fa⟩:=SK K8
            obtain ⟨l2,hY,ok⟩:=hs.row _ _ _ _ _ fa
            rw [hl] at hY; simp at hY; subst hY
            have VS:lc.a8=n:=ok.a8
            have hlen:=Nat.le_of_ble_eq_true hlen
            have VT:KO A a.block=cs.length:=by unfold KO; rw [fa]
            rw [VT] at hlen
            have hft:=ok.fits
            obtain ⟨⟨l,h,m⟩,hb,rfl⟩:=Option.map_eq_some_iff.1 hf
            obtain ⟨h1,h2,h3,h4,h5,h6,h7⟩:=yQ (P:=P) he.tail hb (Nat.le_refl _) (Nat.le_refl _)
            have hm:cond mx.isSome m len=m:=by cases Ra:mx.isSome <;> simp; exact (h6 Ra).symm
            rw [hm] at h7
            refine ⟨.slice (some (if m=l then ⟨lc.cb,lc.cd+a.off,none⟩ else (⟨lc.cb,lc.cd+a.off,none⟩:Addr).add (l * n))) (h - l) (m - l),?_,?_⟩
            · simp only [VR]
              refine ⟨trivial,by omega,lc,_,m - l,hl,Nat.le_refl _,fun bo=>?_,?_,rfl⟩
              · rw [if_neg (by omega),gu]
                simp only [Nat.add_assoc]
              · rw [VS]
                have e5:l * n+(m - l) * n=m * n:=by rw [← Nat.add_mul]; congr 1; omega
                have e6:m * n≤len * n:=Nat.mul_le_mul_right _ h3
                omega
            · simp only [execOp,ho,Instr.sliceAt,Sem.run_bind,aX hu,Result.andThen_ok,h',Instr.sureAddr,Sem.run_pure,h7,jB hn]
        · simp at hf
    · trivial
  · rename_i hu
    cases Ra:mx with
    | some z=>exact True.intro
    | none=>
      show dM P o (.pure (xM lo.isSome hi.isSome) (x :: (da lo ++ da hi)))
      intro ρ ev bF v he hf
      have hx:=he x (by simp)
      simp only [List.map,xM] at hf
      split at hf
      · rename_i s vs e1
        simp only [List.cons.injEq] at e1
        obtain ⟨e1,e2⟩:=e1
        rw [e1] at hx
        have hx:=hx.j9
        subst e2
        obtain ⟨⟨l,h,m⟩,hb,rfl⟩:=Option.map_eq_some_iff.1 hf
        have wJ:ny ρ ev bF (da lo ++ da hi ++ da (none:Option Operand)):=by simpa [da] using he.tail
        obtain ⟨h1,h2,h3,h4,h5,h6,h7⟩:=yQ (P:=P) (mx:=none) wJ (by simpa [da] using hb) (Nat.le_refl _) (Nat.le_refl _)
        simp only [Option.isSome_none,cond_false,Option.map_none] at h7
        refine ⟨.string (s.extract l h),?_,fun w=>?_⟩
        · have e:(⟨⟨(s.data.toList.drop l).take (h - l)⟩⟩:ByteArray)=s.extract l h:=by
            apply ByteArray.ext
            apply Array.ext'
            simp [ByteArray.data_extract,List.extract_eq_take_drop]
          rw [e]
          simp [VR]
        · simp [execOp,ho,Instr.sliceAt,Instr.slice,aX hu,hx,Ra,h7]
      · simp at hf
  · trivial
theorem VU {t:TypeId} {l c:Operand} (ho:o.op = .makeSlice t l c):dM P o (qq P t l c):=by
  unfold qq
  split
  · rename_i e hu
    split
    · rename_i i hi
      split
      · rename_i z hz
        cases hc:(Nat.ble 1 i.size && Nat.ble 1 i.bytes && Nat.beq z.cells.size i.size && flat z && z.cells.toList.all scalar) with
        | false=>exact True.intro
        | true=>
          rw [cond_true]
          simp only [Bool.and_eq_true] at hc
          obtain ⟨⟨⟨⟨h1,h2⟩,h3⟩,h4⟩,h5⟩:=hc
          have hn:1≤i.size:=Nat.le_of_ble_eq_true h1
          have hb:1≤i.bytes:=Nat.le_of_ble_eq_true h2
          have XU:z.cells.size=i.size:=Nat.eq_of_beq_eq_true h3
          rw [List.all_eq_true] at h5
          intro ρ ev bF obj mk he hf
          simp only [List.map,yJ] at hf
          split at hf
          · rename_i k1 l0 k2 c0 e1
            simp only [List.cons.injEq,and_true] at e1
            cases hk:(Nat.ble l0 c0 && Nat.ble (i.bytes * c0) 281474976710656) with
            | false=>rw [hk] at hf; simp at hf
            | true=>
              rw [hk,cond_true] at hf
              obtain ⟨HK,SH⟩:=Bool.and_eq_true_iff.1 hk
              have hle:l0≤c0:=Nat.le_of_ble_eq_true HK
              have SL:i.bytes * c0≤281474976710656:=Nat.le_of_ble_eq_true SH
              simp only [Option.some.injEq,Prod.mk.injEq] at hf
              obtain ⟨rfl,rfl⟩:=hf
              have hl:=he l (by simp)
              have nz:=he c (by simp)
              rw [e1.1] at hl
              rw [e1.2] at nz
              have hl:=hl.bW
              have nz:=nz.bW
              have e2:madeCells z.cells (c0 * i.size)=⟨dz z.cells.toList c0⟩:=by
                unfold madeCells
                rw [← XU]
                exact Jy z.cells c0 (by omega)
              have hc0:c0≤i.bytes * c0:=Nat.le_mul_of_pos_left _ hb
              have ajx:∀ (z:List Value) (k:Nat),(dz z k).length=k * z.length:=by
                intro z k
                induction k with
                | zero=>simp [dz]
                | succ k ih=>simp [dz,ih,Nat.succ_mul,Nat.add_comm]
              have ajy:∀ (z:List Value) (k:Nat) (v:Value),v ∈ dz z k→v ∈ z:=by
                intro z k v
                induction k with
                | zero=>simp [dz]
                | succ k ih=>simp only [dz,List.mem_append]; exact fun h=>h.elim id ih
              refine ⟨.cells ⟨dz z.cells.toList c0⟩ e,fun b=>.slice (some ⟨b,0,none⟩) l0 c0,⟨_,e,rfl,bS.repeat (yP h4) c0,fun v hv=>h5 v (ajy _ _ _ hv)⟩,fun w=>?_,fun aq n cb eK=>?_⟩
              · have hr:=run_make (P:=P) w t e i z hu hi hz k1 k2 (l0:Int) (c0:Int) (by omega) (by omega) (by rw [← Int.natCast_mul]; exact Int.ofNat_le.2 SL) (by omega)
                have gN:bF l = .int k1 (l0:Int):=hl
                have hc' : bF c = .int k2 (c0:Int):=nz
                simp only [Int.toNat_natCast,e2] at hr
                simp [execOp,ho,gN,hc',hr]
              · simp only [VR]
                refine ⟨trivial,hle,_,⟨cb,0,none⟩,c0,eK,Nat.le_refl _,fun _=>rfl,?_,rfl⟩
                show 0+0+c0 * i.size≤(dz z.cells.toList c0).length
                rw [ajx]
                simp [XU]
          · simp at hf
      · trivial
    · trivial
  · trivial
theorem aei {t:TypeId} {x:Operand} (ho:o.op = .makeInterface t x):dM P o (NW P t x):=by
  unfold NW
  split
  · trivial
  · rename_i d hu hd
    intro ρ ev bF v he hf
    simp [acX] at hf
    subst hf
    refine ⟨.iface t (bF x),by simp only [VR]; exact ⟨_,he x (by simp),rfl⟩,fun w=>?_⟩
    simp only [execOp,ho,Instr.makeInterface,Sem.run_bind,aX hd,Result.andThen_ok]
    cases d <;> first | rfl | exact absurd rfl (hu _)
  · trivial
theorem K9 {ρ:aw} {s:List Value→Sem Value} {vs bN:List Value} {v:Value} (hv:bS ρ vs bN) (h:B9 P s vs=some v):VR ρ v v∧∀ w,(s bN).run P w = .ok v w:=by
  unfold B9 at h
  cases hf:kO vs with
  | false=>rw [hf] at h; simp at h
  | true=>
    rw [hf,cond_true] at h
    obtain ⟨u,hu,h⟩:=Option.bind_eq_some_iff.1 h
    cases hfu:flat u with
    | false=>rw [hfu] at h; simp at h
    | true=>
      rw [hfu] at h
      simp at h
      subst h
      rw [bS.ib hf hv]
      exact ⟨VR.of_flat hfu,fun w=>dU hu w⟩
theorem ahv {argTypes:Array TypeId} {args:Array Operand} (ho:o.op = .call ⟨.builtin .min,args,argTypes⟩):dM P o (.pure (B9 P fun vs=>Builtin.min_ #[] 0 ⟨vs⟩) args.toList):=by
  intro ρ ev bF v he hf
  obtain ⟨h1,h2⟩:=K9 he.map hf
  refine ⟨v,h1,fun w=>?_⟩
  have h3:=h2 w
  simp only [Builtin.min_] at h3
  simp only [execOp,ho,resolve,Sem.run_bind,Sem.run_pure,Result.andThen_ok,invoke,builtin,Builtin.min_,jk]
  simp only [h3,Result.andThen_ok]
theorem ahw {argTypes:Array TypeId} {args:Array Operand} (ho:o.op = .call ⟨.builtin .max,args,argTypes⟩):dM P o (.pure (B9 P fun vs=>Builtin.max_ #[] 0 ⟨vs⟩) args.toList):=by
  intro ρ ev bF v he hf
  obtain ⟨h1,h2⟩:=K9 he.map hf
  refine ⟨v,h1,fun w=>?_⟩
  have h3:=h2 w
  simp only [Builtin.max_] at h3
  simp only [execOp,ho,resolve,Sem.run_bind,Sem.run_pure,Result.andThen_ok,invoke,builtin,Builtin.max_,jk]
  simp only [h3,Result.andThen_ok]
theorem Qh {ρ:aw} {x x' : Value} {k:Nat} (hx:VR ρ x x') (h:PZ x=some k):Builtin.lenOf x' = Sem.pure k:=by
  unfold PZ at h
  split at h
  · obtain ⟨a',c',rfl⟩:=SI hx
    simp at h; subst h; rfl
  · have:=hx.j9
    subst this
    simp at h; subst h; rfl
  · simp at h
theorem vr {ρ:aw} {A:St} {base:Nat} {w:World} {n k:Nat} {x x' : Value} {new:List Value} (hs:Rel ρ A.get A.members base w) (hx:VR ρ x x') (h:pk A n k x=some new)
    (hk:∀ m,PZ x=some m→k≤m) (hn:1≤n):∃ bB,bS ρ new bB∧(∀ v ∈ new,scalar v=true)∧new.length=k * n∧(Builtin.firstCells n k x').run P w = .ok bB.toArray w:=by
  unfold pk at h
  split at h
  · rename_i a len cap
    obtain ⟨vV,Cp,lc,a',c',hl,nz,EW,j8,rfl⟩:=hx.jF
    have hkl:=hk len rfl
    obtain ⟨bk,h1,h2,h3,h4⟩:=pn (P:=P) hs h hl
    refine ⟨bk,h1,h3,h2,?_⟩
    simp only [Builtin.firstCells]
    by_cases hc:c' = 0
    · have yG:k=0:=by omega
      subst yG
      have lQ:new = []:=by rw [Nat.zero_mul] at h2; exact List.eq_nil_of_length_eq_zero h2
      subst lQ
      rw [h1.bh,Nat.zero_mul]
      exact run_loadCells_list w a' [] (by simp)
    · rw [EW hc]; exact h4
  · rename_i len cap
    have:=hx.eO
    subst this
    cases hb:Nat.beq k 0 with
    | false=>rw [hb] at h; simp at h
    | true=>
      rw [hb] at h
      simp at h
      subst h
      have yG:=Nat.eq_of_beq_eq_true hb
      subst yG
      exact ⟨[],.nil,by simp,by simp,run_firstCells_none w n 0 len cap⟩
  · rename_i s
    have:=hx.j9
    subst this
    cases hb:Nat.beq n 1 with
    | false=>rw [hb] at h; simp at h
    | true=>
      rw [hb] at h
      simp at h
      have SM:=Nat.eq_of_beq_eq_true hb
      subst SM
      have mi:=hk s.size rfl
      have cA:s.data.size=s.size:=rfl
      have fl:∀ l:List UInt8,bS ρ (l.map fun b=>Value.int .u8 b.toNat) (l.map fun b=>Value.int .u8 b.toNat):=by
        intro l
        induction l with
        | nil=>exact .nil
        | cons x l ih=>exact .cons (by simp [VR]) ih
      subst h
      refine ⟨((s.data.toList.take k).map fun b=>.int .u8 b.toNat),by simpa using fl (s.data.toList.take k),?_,?_,?_⟩
      · intro v hv
        obtain ⟨b,_,rfl⟩:=List.mem_map.1 (by first | exact hv | exact List.mem_of_mem_take hv)
        rfl
      · simp; omega
      · simp only [Builtin.firstCells]
        rw [Sem.run_pure]
        congr 1
        apply Array.ext'
        simp [ByteArray.data_extract,List.extract_eq_take_drop]
  · simp at h
theorem uM (t u ty e:TypeId) (i:TypeInfo) (ht:P.underlying t=some (.slice e)) (hi:P.info? e=some i) (hu:Cb P u=true) (base:Option Addr) (cj ku:Nat) (x:Value) (n:Nat) (news:List Value)
    (hlen:Builtin.lenOf x=Sem.pure n) (w:World) (pq:(Builtin.firstCells i.size n x).run P w = .ok news.toArray w) (wK:cj+n≤ku) :
    (Builtin.append_ #[t,u] ty #[.slice base cj ku,x]).run P w=(((match base with | some a=>storeCells (a.add (cj * i.size)) news | none=>pure ():Sem Unit).run P w).andThen fun _ w=>.ok (.slice base (cj+n) ku) w):=by
  have hk:(∃ e',P.underlying u=some (.slice e'))∨P.underlying u=some .string:=by
    unfold Cb at hu
    split at hu
    · rename_i e' h; exact .inl ⟨_,h⟩
    · rename_i h; exact .inr h
    · simp at hu
  rcases hk with ⟨e',hk⟩ | hk <;> cases base <;> simp [Builtin.append_,aX ht,aX hk,sizeOf,typeInfo,hi,hlen,wK,pq]
theorem Od (t u ty e:TypeId) (i:TypeInfo) (z:Value) (ht:P.underlying t=some (.slice e)) (hi:P.info? e=some i) (hz:i.zero=some z) (hu:Cb P u=true) (base:Option Addr) (cj ku:Nat)
    (x:Value) (n:Nat) (Qi news:List Value) (hlen:Builtin.lenOf x=Sem.pure n) (w:World) (hold:(Builtin.firstCells i.size cj (.slice base cj ku)).run P w.drew = .ok Qi.toArray w.drew)
    (pq:(Builtin.firstCells i.size n x).run P w.drew = .ok news.toArray w.drew) (hg:ku < cj+n) (h63:cj+n≤17592186044416) (j8:Builtin.nextslicecap (cj+n) ku * i.bytes≤281474976710656) :
    (Builtin.append_ #[t,u] ty #[.slice base cj ku,x]).run P w =
      .ok (.slice (some ⟨w.heap.size,0,none⟩) (cj+n) (grownCap w (cj+n) ku e))
        (w.drew.alloc (.cells ((Qi ++ news).toArray ++ Builtin.zeroCells z.cells (grownCap w (cj+n) ku e - (cj+n))) e)):=by
  have hk:(∃ e',P.underlying u=some (.slice e'))∨P.underlying u=some .string:=by
    unfold Cb at hu
    split at hu
    · rename_i e' h; exact .inl ⟨_,h⟩
    · rename_i h; exact .inr h
    · simp at hu
  have hn : ¬ (cj+n≤ku):=by omega
  have ajz : ¬ (9223372036854775807 < ((cj:Int)+(n:Int))):=by omega
  have ajA : ¬ (281474976710656 < Builtin.nextslicecap (cj+n) ku * i.bytes):=by omega
  rcases hk with ⟨e',hk⟩ | hk <;>
    (simp [Builtin.append_,aX ht,aX hk,sizeOf,typeInfo,zeroValue,hi,hz,hlen,hn,ajz,ajA,Question.forced,pq,hold,newRow,grownCap]
     congr 2
     apply Array.ext'
     simp [List.append_assoc])
theorem SN {ρ:aw} {A:St} {base:Nat} {w:World} (hs:fU ρ A base w) (b lo hi:Nat) (L:List Nat):b7 base ρ A w ρ (A.kill b lo hi L) w:=by
  obtain ⟨Cq,hY⟩:=AV b lo hi L A
  have EU:∀ x o,(A.kill b lo hi L).get x=some o→o≠.dead→A.get x=some o:=by
    intro x o hx hd
    rw [uH] at hx
    split at hx
    · simp at hx; exact absurd hx.symm hd
    · exact hx
  have hm:∀ o:bf,o.bO=true→o≠.dead:=by intro o h e; subst e; simp [bf.bO] at h
  refine ⟨⟨.po (fun x o hx hd=>hs.rel.obj (EU x o hx hd) hd) (fun b1 b2 o1 o2 l1 l2 bo g1 g2 m1 m2=>hs.rel.apart b1 b2 o1 o2 l1 l2 bo (EU _ _ g1 (hm _ m1)) (EU _ _ g2 (hm _ m2)) m1 m2) (fun x o aJ f hx hk=>?_),fun x l h=>?_,hs.size,hs.jO⟩,
    fun _ _=>rfl,.refl _ _ _,by simp,Cq,fun x _ hx=>?_,fun k _ h=>?_⟩
  · rw [zA]; exact hs.rel.aW x o aJ f (EU x o hx (by intro e; subst e; simp [bf.fJ] at hk)) hk
  · rw [Ck]; exact hs.eS x l h
  · cases Classical.em ((A.kill b lo hi L).get x=A.get x) with
    | inl h=>exact h
    | inr h=>have:=hY x h; omega
  · obtain ⟨x,o,l,hx,VM,hr,e⟩:=h
    exact ⟨x,o,l,EU x o hx (hm _ VM),VM,hr,e⟩
theorem A4 (A:St) (aJ f:Nat) (cs:List Value) (n x:Nat):(A.grow aJ f cs n).get x=if x=A.next then some (.row cs n true (some (aJ,f))) else A.get x:=by
  simp [St.grow]
theorem qy (A:St) (aJ f:Nat) (cs:List Value) (n g:Nat):(A.grow aJ f cs n).members g=if g=aJ then A.next :: A.members aJ else A.members g:=by
  simp only [St.grow,St.vp,St.gF]
theorem SP {ρ:aw} {A:St} {base:Nat} {w:World} {cs bk:List Value} {c:Array Value} {n aJ f:Nat} (T:TypeId) (hs:fU ρ A base w) (hc:bS ρ cs bk) (h1:∀ v ∈ cs,scalar v=true)
    (Ig:∀ (j:Nat) (v:Value),bk[j]? = some v→c[j]? = some v) (cA:cs.length≤c.size) :
    b7 base ρ A w (ρ.set A.next ⟨w.heap.size,0,c.size,n⟩) (A.grow aJ f cs n) (w.alloc (.cells c T)):=by
  refine uJ (o:=.row cs n true (some (aJ,f))) hs (fun x=>A4 _ _ _ _ _ _) (fun g x h=>?_) (fun g f' h=>?_) (by simp [St.grow]) (by simp [St.grow]) (fun x hx _=>by rw [A4,if_neg (by omega)]) rfl ?_
  · rw [qy]; split
    · rename_i e; subst e; simp [h]
    · exact h
  · simp [bf.fJ] at h; rw [qy,h.1]; simp
  · refine ⟨fun i v hi=>?_,fun h=>by simp at h,fun _=>hs.size,fun _ j hj=>?_,by simpa using cA,fun _ h=>by simp at h,rfl,by simp,fun _ _ j=>by simp only; rw [World.frozen?_alloc_new]⟩
    · obtain ⟨v',h2,h3⟩:=hc.get hi
      refine ⟨v',?_,h3.mono (hs.xh _),h1 v (List.mem_of_getElem? hi)⟩
      rw [Nat.zero_add,World.cell?_alloc_new]
      exact Ig i v' h2
    · simp only at hj ⊢
      rw [World.cell?_alloc_new,World.frozen?_alloc_new]
      refine ⟨?_,rfl⟩
      rw [Array.getElem?_eq_getElem (by omega)]
      rfl
theorem XV {ρ:aw} {A:St} {base:Nat} {w:World} {b eA s a8 aJ f:Nat} {cs dT lR new bB:List Value} {l:Loc}
    (hs:fU ρ A base w) (hg:A.get b=some (.row cs a8 true (some (aJ,f)))) (eK:ρ b=some l)
    (hold:bS ρ dT lR) (ho1:∀ v ∈ dT,scalar v=true) (hol:dT.length=s) (Lb:∀ j v',lR[j]? = some v'→w.cell? ⟨l.cb,l.cd+eA+j,none⟩=some v')
    (lQ:bS ρ new bB) (SM:∀ v ∈ new,scalar v=true) (j8:l.cd+eA+s+new.length≤l.sV) :
    b7 base ρ A w (ρ.set A.next ⟨l.cb,l.cd+eA,l.sV,a8⟩) ((A.kill A.next (f+(eA+s)) (f+(eA+s)+new.length) (A.members aJ)).grow aJ (f+eA) (dT ++ new) a8) (w.setCells l.cb (l.cd+eA+s) bB):=by
  obtain ⟨l',gN,ok⟩:=hs.rel.row _ _ _ _ _ hg
  rw [eK] at gN; simp at gN; subst gN
  have El:bB.length=new.length:=lQ.length
  have hovl:lR.length=s:=by rw [hold.length,hol]
  have HL:b < A.next:=hs.eS b l eK
  have Hc:bf.bO (.row cs a8 true (some (aJ,f)))=true:=rfl
  have hB:∀ x,((A.kill A.next (f+(eA+s)) (f+(eA+s)+new.length) (A.members aJ)).grow aJ (f+eA) (dT ++ new) a8).get x =
      if x=A.next then some (.row (dT ++ new) a8 true (some (aJ,f+eA))) else (A.kill A.next (f+(eA+s)) (f+(eA+s)+new.length) (A.members aJ)).get x:=by
    intro x; rw [A4,Ck]
  have hBm:∀ g,((A.kill A.next (f+(eA+s)) (f+(eA+s)+new.length) (A.members aJ)).grow aJ (f+eA) (dT ++ new) a8).members g=if g=aJ then A.next :: A.members aJ else A.members g:=by
    intro g; rw [qy,Ck,zA]
  have hBn:((A.kill A.next (f+(eA+s)) (f+(eA+s)+new.length) (A.members aJ)).grow aJ (f+eA) (dT ++ new) a8).next=A.next+1:=by
    simp [St.grow]
  have hkl:=AV A.next (f+(eA+s)) (f+(eA+s)+new.length) (A.members aJ) A
  have hBl:((A.kill A.next (f+(eA+s)) (f+(eA+s)+new.length) (A.members aJ)).grow aJ (f+eA) (dT ++ new) a8).low=(A.kill A.next (f+(eA+s)) (f+(eA+s)+new.length) (A.members aJ)).low:=rfl
  have hAK:∀ x,x≠A.next→(A.kill A.next (f+(eA+s)) (f+(eA+s)+new.length) (A.members aJ)).get x=if x ∈ A.members aJ∧lG (A.get x) (f+(eA+s)) (f+(eA+s)+new.length)=true then some .dead else A.get x:=by
    intro x hx; rw [uH]; simp [hx]
  generalize ((A.kill A.next (f+(eA+s)) (f+(eA+s)+new.length) (A.members aJ)).grow aJ (f+eA) (dT ++ new) a8)=B at hB hBm hBn hBl
  generalize (A.kill A.next (f+(eA+s)) (f+(eA+s)+new.length) (A.members aJ))=K at hB hBl hkl hAK
  have hle:=hs.xh (⟨l.cb,l.cd+eA,l.sV,a8⟩:Loc)
  have kG:∀ x o,x≠A.next→B.get x=some o→o≠.dead→A.get x=some o∧(x ∈ A.members aJ→lG (some o) (f+(eA+s)) (f+(eA+s)+new.length)=false):=by
    intro x o hx ho hd
    rw [hB,if_neg hx,hAK x hx] at ho
    split at ho
    · simp at ho; exact absurd ho.symm hd
    · rename_i hc
      refine ⟨ho,fun hm=>?_⟩
      rw [← ho]
      cases hX:lG (A.get x) (f+(eA+s)) (f+(eA+s)+new.length) with
      | false=>rfl
      | true=>exact absurd ⟨hm,hX⟩ hc
  have iY:∀ x:Addr,(x.block=l.cb→x.spot=none→x.off < l.cd+eA+s∨l.cd+eA+s+bB.length≤x.off)→(w.setCells l.cb (l.cd+eA+s) bB).cell? x=w.cell? x:=
    fun x h=>World.cell?_setCells_out _ _ _ _ _ h
  have SB:∀ x,((w.setCells l.cb (l.cd+eA+s) bB).cell? x).isSome=(w.cell? x).isSome:=fun x=>uI _ _ _ _ _
  have sY:∀ x,(w.setCells l.cb (l.cd+eA+s) bB).frozen? x=w.frozen? x:=fun x=>World.frozen?_setCells _ _ _ _ _
  have cA:(w.setCells l.cb (l.cd+eA+s) bB).heap.size=w.heap.size:=xP _ _ _ _
  have hmd:∀ o:bf,o.bO=true→o≠.dead:=by intro o h e; subst e; simp [bf.bO] at h
  have s0:∀ x o l2,A.get x=some o→o.bO=true→ρ x=some l2→l2.cb=l.cb→∃ f2,o.fJ=some (aJ,f2)∧l2.cd+f=l.cd+f2:=by
    intro x o l2 hx hm hr vU
    by_cases K6:x=b
    · subst K6
      rw [hg] at hx; simp at hx; subst hx
      rw [eK] at hr; simp at hr; subst hr
      exact ⟨f,rfl,rfl⟩
    · obtain ⟨g,f1,f2,e1,e2,e3⟩:=hs.rel.apart x b _ _ l2 l K6 hx hg hm Hc hr eK vU
      simp [bf.fJ] at e2
      obtain ⟨rfl,rfl⟩:=e2
      exact ⟨f1,e1,e3⟩
  have ET:∀ x gP e2 yN mg l2,x≠A.next→B.get x=some (.row gP e2 yN mg)→ρ x=some l2→uF ρ base w l2 gP e2 yN mg→∀ i,i < gP.length→
      (w.setCells l.cb (l.cd+eA+s) bB).cell? ⟨l2.cb,l2.cd+i,none⟩=w.cell? ⟨l2.cb,l2.cd+i,none⟩:=by
    intro x gP e2 yN mg l2 hx dy afo dZ i hi
    refine iY _ (fun hbl _=>?_)
    simp only at hbl ⊢
    obtain ⟨hA,hX⟩:=kG x _ hx dy (by simp)
    cases yN with
    | false=>have h3:=dZ.kv rfl; have h4:=ok.bO rfl; omega
    | true=>
      obtain ⟨f2,e1,e3⟩:=s0 x _ l2 hA rfl afo hbl
      simp only [bf.fJ] at e1
      subst e1
      have hm:=hs.rel.aW x _ aJ f2 hA rfl
      have:=K4 rfl (hX hm)
      rw [El]
      omega
  refine ⟨⟨.po ?_ ?_ ?_,?_,?_,hs.jO.mono (hs.xh _)⟩,?_,⟨(mS _ _ _ _).1,(mS _ _ _ _).2.1,(mS _ _ _ _).2.2,Nat.le_of_eq cA.symm,?_⟩,?_,?_,?_,?_⟩
  · intro x o dy hd
    by_cases hx:x=A.next
    · subst hx
      rw [hB,if_pos rfl] at dy
      simp at dy
      subst dy
      refine ⟨_,aw.gk _ _ _,fun i v hi=>?_,fun h=>by simp at h,fun _=>ok.bO rfl,fun _ j hj=>?_,?_,fun _ h=>by simp at h,rfl,by rw [cA]; exact ok.gL,fun _ h2 j=>by rw [sY]; exact ok.mark rfl (by rw [ok.a8]; exact h2) j⟩
      · have eZ:bS ρ (dT ++ new) (lR ++ bB):=hold.append lQ
        obtain ⟨v',h2,h3⟩:=eZ.get hi
        refine ⟨v',?_,h3.mono hle,?_⟩
        · rw [List.getElem?_append] at h2
          split at h2
          · rename_i aY
            rw [iY _ (fun _ _=>by simp only; omega)]
            exact Lb i v' h2
          · rename_i XW
            have aY:i - lR.length < bB.length:=(List.getElem?_eq_some_iff.1 h2).1
            have:=World.cell?_setCells_in l.cb bB (l.cd+eA+s) w (fun j hj=>(ok.there rfl (l.cd+eA+s+j) (by rw [El] at hj; omega)).1) (i - lR.length) aY
            have e:l.cd+eA+s+(i - lR.length)=l.cd+eA+i:=by omega
            rw [e] at this
            rw [List.getElem?_eq_getElem aY] at h2
            exact this.trans h2
        · rcases List.mem_append.1 (List.mem_of_getElem? hi) with h | h
          · exact ho1 v h
          · exact SM v h
      · rw [SB,sY]; exact ok.there rfl j hj
      · simp only [List.length_append,hol]; omega
    · obtain ⟨hA,hX⟩:=kG x o hx dy hd
      obtain ⟨l2,kQ,dZ⟩:=hs.rel.obj hA hd
      refine ⟨l2,hle _ _ kQ,?_⟩
      cases o with
      | row gP e2 yN mg=>
        have dZ:uF ρ base w l2 gP e2 yN mg:=dZ
        refine ⟨fun i v hi=>?_,dZ.kv,dZ.bO,fun h j hj=>?_,dZ.fits,dZ.ends,dZ.a8,by rw [cA]; exact dZ.gL,fun h1 h2 j=>by rw [sY]; exact dZ.mark h1 h2 j⟩
        · obtain ⟨v',h3,h4,h5⟩:=dZ.cells i v hi
          exact ⟨v',by rw [ET x _ _ _ _ l2 hx dy kQ dZ i (List.getElem?_eq_some_iff.1 hi).1]; exact h3,h4.mono hle,h5⟩
        · rw [SB,sY]; exact dZ.there h j hj
      | map es=>
        have dZ:Jw ρ base w l2 es:=dZ
        obtain ⟨aU,clock,h3,h4⟩:=dZ.gL
        refine ⟨dZ.bO,aU,clock,?_,h4.mono hle⟩
        rw [ic]
        · exact h3
        · intro e
          obtain ⟨_,e1,_⟩:=s0 x _ l2 hA rfl kQ e
          simp [bf.fJ] at e1
      | iter st pos=>
        have dZ:K0 base w l2 st pos:=dZ
        refine ⟨dZ.bO,dZ.gL.1,?_⟩
        rw [ic]
        · exact dZ.gL.2
        · intro e
          obtain ⟨_,e1,_⟩:=s0 x _ l2 hA rfl kQ e
          simp [bf.fJ] at e1
      | dead=>exact absurd rfl hd
      | loop st0 e0 t0 ps0 a0 c0=>
        have dZ:yM ρ base w l2 st0 e0 t0 ps0 a0 c0:=dZ
        obtain ⟨fn,tmps,D,N,h3,h4⟩:=dZ.gL
        refine ⟨dZ.bO,fn,tmps,D,N,?_,h4.mono hle⟩
        rw [ic]
        · exact h3
        · intro e
          obtain ⟨_,e1,_⟩:=s0 x _ l2 hA rfl kQ e
          simp [bf.fJ] at e1
  · intro b1 b2 o1 o2 l1 l2 bo g1 g2 m1 m2 r1 r2 vU
    by_cases e1:b1=A.next
    · have e2:b2≠A.next:=fun e=>bo (e1.trans e.symm)
      subst e1
      rw [hB,if_pos rfl] at g1
      simp at g1; subst g1
      rw [aw.gk] at r1; simp at r1; subst r1
      rw [aw.eX _ _ e2] at r2
      obtain ⟨hA,_⟩:=kG b2 o2 e2 g2 (hmd _ m2)
      obtain ⟨f2,k1,k2⟩:=s0 b2 o2 l2 hA m2 r2 vU.symm
      exact ⟨aJ,f+eA,f2,rfl,k1,by simp only; omega⟩
    · rw [aw.eX _ _ e1] at r1
      obtain ⟨hA1,_⟩:=kG b1 o1 e1 g1 (hmd _ m1)
      by_cases e2:b2=A.next
      · subst e2
        rw [hB,if_pos rfl] at g2
        simp at g2; subst g2
        rw [aw.gk] at r2; simp at r2; subst r2
        obtain ⟨f2,k1,k2⟩:=s0 b1 o1 l1 hA1 m1 r1 vU
        exact ⟨aJ,f2,f+eA,k1,rfl,by simp only; omega⟩
      · rw [aw.eX _ _ e2] at r2
        obtain ⟨hA2,_⟩:=kG b2 o2 e2 g2 (hmd _ m2)
        exact hs.rel.apart b1 b2 o1 o2 l1 l2 bo hA1 hA2 m1 m2 r1 r2 vU
  · intro x o g fx hx hk
    rw [hBm]
    by_cases e:x=A.next
    · subst e
      rw [hB,if_pos rfl] at hx
      simp at hx; subst hx
      simp [bf.fJ] at hk
      rw [if_pos hk.1.symm]
      simp
    · have:=hs.rel.aW x o g fx (kG x o e hx (by intro e; subst e; simp [bf.fJ] at hk)).1 hk
      split
      · rename_i e2; subst e2; simp [this]
      · exact this
  · intro x l2 h
    rw [hBn]
    by_cases e:x=A.next
    · omega
    · rw [aw.eX _ _ e] at h; have:=hs.eS x l2 h; omega
  · rw [cA]; exact hs.size
  · intro x hx; exact aw.eX _ _ (by omega)
  · intro k hk hn
    exact ic _ (fun e=>hn ⟨b,_,l,hg,rfl,eK,e.symm⟩) _ _ _
  · omega
  · rw [hBl]; exact hkl.1
  · intro x hx hxl
    rw [hB,if_neg (by omega)]
    cases Classical.em (K.get x=A.get x) with
    | inl h=>exact h
    | inr h=>have:=hkl.2 x h; omega
  · rintro k hk ⟨x,o,l2,hx,hm,hr,rfl⟩
    by_cases e:x=A.next
    · subst e
      rw [aw.gk] at hr; simp at hr; subst hr
      exact ⟨b,_,l,hg,rfl,eK,rfl⟩
    · rw [aw.eX _ _ e] at hr
      exact ⟨x,o,l2,(kG x o e hx (hmd _ hm)).1,hm,hr,rfl⟩
theorem aej {a:Addr} (h:bA a=true):a.spot=none:=by
  unfold bA at h
  simpa using h
theorem Rb (w:World) (a:Addr) (n:Nat) (cs:List Value) (h:∀ j,j < n→(w.cell? (a.add j)).isSome=true) (hr:(loadCells a n).run P w = .ok cs.toArray w) (j:Nat) (v:Value) (hj:cs[j]? = some v) :
    w.cell? (a.add j)=some v:=by
  have h1:=run_loadCells (P:=P) w a n (fun j=>(w.cell? (a.add j)).getD undef) (fun j hj=>by
    have:=h j hj
    cases hc:w.cell? (a.add j) with
    | none=>rw [hc] at this; simp at this
    | some u=>rfl)
  rw [hr] at h1
  simp only [Result.ok.injEq,and_true] at h1
  have h2:cs=(List.range n).map fun j=>(w.cell? (a.add j)).getD undef:=by
    have:=congrArg Array.toList h1
    simpa using this
  rw [h2,List.getElem?_map] at hj
  cases hq:(List.range n)[j]? with
  | none=>rw [hq] at hj; simp at hj
  | some m=>
    rw [hq] at hj
    have aY:j < n:=by have:=(List.getElem?_eq_some_iff.1 hq).1; simpa using this
    have hm:m=j:=by rw [List.getElem?_range aY] at hq; simpa using hq.symm
    subst hm
    simp at hj
    have:=h m aY
    cases hc:w.cell? (a.add m) with
    | none=>rw [hc] at this; simp at this
    | some u=>rw [hc] at hj; simpa using hj
theorem ZV (z:Array Value) (n:Nat):(Builtin.zeroCells z n).size=n * z.size:=size_zeroCells z n
theorem SQ {ρ:aw} {A B:St} {base:Nat} {w:World} {t u ty e:TypeId} {i:TypeInfo} {z s x s' x' v:Value} (ht:P.underlying t=some (.slice e)) (hi:P.info? e=some i) (hz:i.zero=some z) (hu:Cb P u=true)
    (hn:1≤i.size) (XU:z.cells.size=i.size) (qz:fU ρ A base w) (XX:VR ρ s s') (SR:VR ρ x x') (hf:hZ i.size i.bytes A [s,x] = some (v,B)) :
    ∃ aq v' w',(Builtin.append_ #[t,u] ty #[s',x']).run P w = .ok v' w'∧VR aq v v'∧b7 base ρ A w aq B w':=by
  unfold hZ at hf
  split at hf
  · rename_i bs cj ku x0 e0
    simp at e0
    obtain ⟨rfl,rfl⟩:=e0
    obtain ⟨k,hk,hf⟩:=Option.bind_eq_some_iff.1 hf
    have hlen:=Qh SR hk
    have hkk:∀ m,PZ x=some m→k≤m:=fun m h=>by rw [hk] at h; simp at h; omega
    cases wK:Nat.ble (cj+k) ku with
    | true=>
      rw [wK,cond_true] at hf
      have wK:=Nat.le_of_ble_eq_true wK
      obtain ⟨new,lQ,hf⟩:=Option.bind_eq_some_iff.1 hf
      obtain ⟨bB,h1,h2,h3,h4⟩:=vr (P:=P) qz.rel SR lQ hkk hn
      cases bs with
      | none=>
        simp at hf
        obtain ⟨rfl,rfl⟩:=hf
        have:=XX.eO
        subst this
        have hr:=uM (P:=P) t u ty e i ht hi hu none cj ku x' k bB hlen w h4 wK
        exact ⟨ρ,_,w,by rw [hr]; rfl,by simp [VR],.refl qz⟩
      | some a=>
        simp only at hf
        cases ZW:bA a with
        | false=>rw [ZW] at hf; simp at hf
        | true=>
          rw [ZW,cond_true] at hf
          obtain ⟨B',hX,hf⟩:=Option.map_eq_some_iff.1 hf
          simp at hf
          obtain ⟨rfl,rfl⟩:=hf
          obtain ⟨vV,Cp,lc,a',c',hl,nz,EW,j8,rfl⟩:=XX.jF
          have hr:=uM (P:=P) t u ty e i ht hi hu (some a') cj c' x' k bB hlen w h4 (by omega)
          obtain ⟨w',h5,h6⟩:=vq (P:=P) (a:=⟨a.block,a.off+cj * i.size,none⟩) qz hX hl h1
          have kN:(storeCells (a'.add (cj * i.size)) bB).run P w = .ok () w':=by
            by_cases hc:c' = 0
            · have:bB = []:=by
                apply List.eq_nil_of_length_eq_zero
                rw [h1.length,h3]
                have:k=0:=by omega
                subst this; omega
              subst this
              exact h5
            · rw [EW hc,gu]
              simp only at h5
              rw [Nat.add_assoc]
              exact h5
          refine ⟨ρ,.slice (some a') (cj+k) c',w',?_,?_,h6⟩
          · rw [hr]
            simp only [kN,Result.andThen_ok]
          · simp only [VR]
            exact ⟨vV,wK,lc,a',c',hl,nz,EW,j8,rfl⟩
    | false=>
      rw [wK,cond_false] at hf
      have wK:ku < cj+k:=by
        have : ¬ (cj+k≤ku):=fun h=>by rw [Nat.ble_eq_true_of_le h] at wK; simp at wK
        omega
      cases hc:(Nat.ble ((cj+k+512) * i.bytes) 17592186044416 && Nat.ble (cj+k) 17592186044416 && nL A i.size ku bs) with
      | false=>rw [hc] at hf; simp at hf
      | true=>
        rw [hc,cond_true] at hf
        simp only [Bool.and_eq_true] at hc
        obtain ⟨⟨wI,oM⟩,hex⟩:=hc
        have wI:=Nat.le_of_ble_eq_true wI
        have oM:=Nat.le_of_ble_eq_true oM
        have XY:(cj+k) * i.bytes≤140737488355328:=by
          rw [Nat.add_mul] at wI; omega
        obtain ⟨new,lQ,hf⟩:=Option.bind_eq_some_iff.1 hf
        obtain ⟨bB,h1,h2,h3,h4⟩:=vr (P:=P) qz.rel SR lQ hkk hn
        have hdr:=b7.drew (w:=w) qz
        obtain ⟨afv,g1,g2,g3,g4⟩:=vr (P:=P) hdr.cW.rel SR lQ hkk hn
        have afw:∀ (bs' : Option Addr) (c' : Nat) (Qi Oe:List Value) (aJ f:Nat) (K:St),K=A∨(∃ x lo hi L,K=A.kill x lo hi L)→bS ρ Qi Oe→(∀ v ∈ Qi,scalar v=true)→Qi.length=cj * i.size→
            (Builtin.firstCells i.size cj (.slice bs' cj c')).run P w.drew = .ok Oe.toArray w.drew→c' < cj+k→
            ∃ aq v' w',(Builtin.append_ #[t,u] ty #[.slice bs' cj c',x']).run P w = .ok v' w'∧VR aq (.slice (some ⟨A.next,0,none⟩) (cj+k) (cj+k)) v'∧b7 base ρ A w aq (K.grow aJ f (Qi ++ new) i.size) w':=by
          intro bs' c' Qi Oe aJ f K hK ho ho1 hol kN aY
          have hr:=Od (P:=P) t u ty e i z ht hi hz hu bs' cj c' x' k Oe afv hlen w kN g4 aY oM (growslice_fits aY XY)
          have XW:=grownCap_ge w (cj+k) c' e
          have hkg:b7 base ρ A w ρ K w.drew:=by
            rcases hK with rfl | ⟨x,lo,hi,L,rfl⟩
            · exact hdr
            · exact (SN qz x lo hi L).trans (b7.drew (SN qz x lo hi L).cW)
          have hKn:K.next=A.next:=by
            rcases hK with rfl | ⟨x,lo,hi,L,rfl⟩
            · rfl
            · simp
          have Cr:((Oe ++ afv).toArray ++ Builtin.zeroCells z.cells (grownCap w (cj+k) c' e - (cj+k))).size=grownCap w (cj+k) c' e * i.size:=by
            rw [Array.size_append,ZV,XU,List.size_toArray,List.length_append,ho.length,g1.length,hol,g3]
            rw [← Nat.add_mul,← Nat.add_mul]
            congr 1; omega
          have Oa:=SP (w:=w.drew) (n:=i.size) (aJ:=aJ) (f:=f) (c:=(Oe ++ afv).toArray ++ Builtin.zeroCells z.cells (grownCap w (cj+k) c' e - (cj+k))) e hkg.cW (ho.append g1)
            (fun v hv=>(List.mem_append.1 hv).elim (ho1 v) (g2 v)) (fun j v hj=>by
              rw [Array.getElem?_append_left (by have:=(List.getElem?_eq_some_iff.1 hj).1; simpa using this)]
              simpa using hj) (by
              rw [Cr,List.length_append,hol,g3,← Nat.add_mul]
              exact Nat.mul_le_mul_right _ XW)
          refine ⟨_,_,_,hr,?_,hkg.trans Oa⟩
          simp only [VR]
          refine ⟨trivial,Nat.le_refl _,_,⟨w.heap.size,0,none⟩,grownCap w (cj+k) c' e,by rw [hKn]; exact aw.gk _ _ _,XW,fun _=>rfl,?_,rfl⟩
          rw [Cr]
          show 0+0+grownCap w (cj+k) c' e * i.size≤grownCap w (cj+k) c' e * i.size
          omega
        unfold xN at hf
        cases bs with
        | none=>
          simp only at hf
          cases uj:Nat.beq cj 0 with
          | false=>rw [uj] at hf; simp at hf
          | true=>
            rw [uj,cond_true] at hf
            simp at hf
            obtain ⟨rfl,rfl⟩:=hf
            have uj:=Nat.eq_of_beq_eq_true uj
            have:=XX.eO
            subst this
            have Cs:Builtin.firstCells i.size cj (.slice none cj ku)=pure #[]:=rfl
            exact afw none ku [] [] A.next 0 A (.inl rfl) .nil (by simp) (by rw [uj]; simp) (by rw [Cs]; rfl) wK
        | some a=>
          simp only at hf
          cases ZW:bA a with
          | false=>rw [ZW] at hf; simp at hf
          | true=>
            rw [ZW,cond_true] at hf
            have vV:=aej ZW
            obtain ⟨_,Cp,lc,a',c',hl,nz,EW,j8,rfl⟩:=XX.jF
            obtain ⟨dT,hold,hf⟩:=Option.bind_eq_some_iff.1 hf
            obtain ⟨lR,q1,q2,q3,q4⟩:=pn (P:=P) hdr.cW.rel hold hl
            have kN:(Builtin.firstCells i.size cj (.slice (some a') cj c')).run P w.drew = .ok lR.toArray w.drew:=by
              simp only [Builtin.firstCells]
              by_cases hc:c' = 0
              · have uj:cj=0:=by omega
                subst uj
                have ajB:dT = []:=by rw [Nat.zero_mul] at q2; exact List.eq_nil_of_length_eq_zero q2
                subst ajB
                rw [q1.bh,Nat.zero_mul]
                exact run_loadCells_list w.drew a' [] (by simp)
              · rw [EW hc]; exact q4
            split at hf
            · rename_i cs a8 own a9 hg
              cases VS:Nat.beq a8 i.size with
              | false=>rw [VS] at hf; simp at hf
              | true=>
                rw [VS,cond_true] at hf
                have VS:=Nat.eq_of_beq_eq_true VS
                subst VS
                obtain ⟨l2,hY,ok⟩:=qz.rel.row _ _ _ _ _ hg
                rw [hl] at hY; simp at hY; subst hY
                have hle:lc.a8=i.size:=ok.a8
                cases a9 with
                | none=>
                  simp only at hf
                  cases own with
                  | false=>simp at hf
                  | true=>
                    simp at hf
                    obtain ⟨rfl,rfl⟩:=hf
                    have hxe:a.off+ku * i.size=cs.length:=by
                      unfold nL at hex
                      simp only [hg] at hex
                      exact Nat.eq_of_beq_eq_true hex
                    have hends:=ok.ends rfl rfl
                    have hc' : c' < cj+k:=by
                      have h9:c' * i.size≤ku * i.size:=by rw [hle] at j8; omega
                      have:=Nat.le_of_mul_le_mul_right h9 (by omega)
                      omega
                    exact afw (some a') c' dT lR A.next 0 A (.inl rfl) q1 q3 q2 kN hc'
                | some p=>
                  obtain ⟨aJ,f⟩:=p
                  simp only at hf
                  cases own with
                  | false=>simp at hf
                  | true=>
                    simp at hf
                    obtain ⟨rfl,rfl⟩:=hf
                    by_cases hc' : c' < cj+k
                    · exact afw (some a') c' dT lR aJ (f+a.off) _ (.inr ⟨_,_,_,_,rfl⟩) q1 q3 q2 kN hc'
                    ·
                      have bo:c'≠0:=by omega
                      have ha:=EW bo
                      subst ha
                      have hr:=uM (P:=P) t u ty e i ht hi hu (some ⟨lc.cb,lc.cd+a.off,none⟩) cj c' x' k bB hlen w h4 (by omega)
                      have Em:lc.cd+a.off+cj * i.size+new.length≤lc.sV:=by
                        rw [h3]
                        rw [hle] at j8
                        have h9:(cj+k) * i.size≤c' * i.size:=Nat.mul_le_mul_right _ (by omega)
                        rw [Nat.add_mul] at h9
                        omega
                      have El:bB.length=new.length:=h1.length
                      obtain ⟨ac8,p1,p2,p3,p4⟩:=pn (P:=P) qz.rel hold hl
                      have Lb:∀ (j:Nat) (v' : Value),ac8[j]? = some v'→w.cell? ⟨lc.cb,lc.cd+a.off+j,none⟩=some v':=by
                        intro j v' hj
                        have aY:j < cj * i.size:=by have:=(List.getElem?_eq_some_iff.1 hj).1; rw [p1.length,p2] at this; exact this
                        have iY:=(ok.there rfl (lc.cd+a.off+j) (by omega)).1
                        have:=Rb (P:=P) w ⟨lc.cb,lc.cd+a.off,none⟩ (cj * i.size) ac8 (fun j hj=>by rw [gu]; exact (ok.there rfl (lc.cd+a.off+j) (by omega)).1) p4 j v' hj
                        rwa [gu] at this
                      have Oa:=XV (w:=w) (eA:=a.off) (s:=cj * i.size) qz hg hl p1 p3 p2 Lb h1 h2 Em
                      have hX:(storeCells ((⟨lc.cb,lc.cd+a.off,none⟩:Addr).add (cj * i.size)) bB).run P w = .ok () (w.setCells lc.cb (lc.cd+a.off+cj * i.size) bB):=by
                        rw [gu]
                        exact run_storeCells_cells (P:=P) lc.cb (lc.cd+a.off+cj * i.size) bB 0 w (fun j hj=>(ok.there rfl _ (by rw [El] at hj; omega)).1) (fun j hj=>(ok.there rfl _ (by rw [El] at hj; omega)).2) (fun v Ob=>by
                          obtain ⟨j,hj⟩:=List.getElem?_of_mem Ob
                          have aY:j < new.length:=by rw [← El]; exact (List.getElem?_eq_some_iff.1 hj).1
                          obtain ⟨u,hu⟩:∃ u,new[j]? = some u:=⟨new[j],List.getElem?_eq_getElem aY⟩
                          obtain ⟨v2,h7,h8⟩:=h1.get hu
                          rw [hj] at h7; simp at h7; subst h7
                          exact h8.scalar (h2 u (List.mem_of_getElem? hu)))
                      refine ⟨_,.slice (some ⟨lc.cb,lc.cd+a.off,none⟩) (cj+k) c',_,by rw [hr]; simp only [hX,Result.andThen_ok],?_,Oa⟩
                      simp only [VR]
                      refine ⟨trivial,Nat.le_refl _,_,_,c',aw.gk _ _ _,by omega,fun _=>rfl,?_,rfl⟩
                      show lc.cd+a.off+0+c' * i.size≤lc.sV
                      rw [hle] at j8
                      omega
            · simp at hf
  · simp at hf
theorem aek {argTypes:Array TypeId} {t u:TypeId} (h:argTypes.toList = [t,u]):argTypes = #[t,u]:=by
  apply Array.ext'
  simpa using h
theorem ab5 {argTypes:Array TypeId} {args:Array Operand} (ho:o.op = .call ⟨.builtin .append,args,argTypes⟩):dM P o (Cc P argTypes.toList args.toList):=by
  unfold Cc
  split
  · rename_i t u rB
    split
    · rename_i e ht
      split
      · rename_i i hi
        split
        · rename_i z hz
          cases hc:(Nat.ble 1 i.size && Nat.beq z.cells.size i.size && Cb P u) with
          | false=>exact True.intro
          | true=>
            rw [cond_true]
            simp only [Bool.and_eq_true] at hc
            obtain ⟨⟨h1,h2⟩,h3⟩:=hc
            intro ρ A B base w ev bF v hs he hf
            have hf0:=hf
            unfold hZ at hf0
            split at hf0
            · rename_i bs cj ku x e1
              have hm:=he.map
              rw [e1] at hm hf
              obtain ⟨s',r1,e2,XX,hm⟩:=hm.cons_inv
              obtain ⟨x',r2,e3,SR,hm⟩:=hm.cons_inv
              have:=hm.bh
              subst this e3
              obtain ⟨aq,v',w',h4,h5,h6⟩:=SQ (ty:=o.type) ht hi hz h3 (Nat.le_of_ble_eq_true h1) (Nat.eq_of_beq_eq_true h2) hs XX SR hf
              refine ⟨aq,v',.value v',w',?_,rfl,h5,h6⟩
              have e4:args.map bF = #[s',x']:=by apply Array.ext'; simpa using e2
              have e5:=aek rB
              subst e5
              simp only [execOp,ho,Sem.run_bind,resolve,Sem.run_pure,Result.andThen_ok,invoke,builtin,e4,h4]
            · simp at hf0
        · trivial
      · trivial
    · trivial
  · trivial
theorem afx {argTypes:Array TypeId} {args:Array Operand} (ho:o.op = .call ⟨.builtin .copy,args,argTypes⟩):dM P o (KQ P argTypes.toList args.toList):=by
  unfold KQ
  split
  · rename_i t rest rB
    have DA:argTypes[0]? = some t:=by rw [← Array.getElem?_toList,rB]; rfl
    split
    · rename_i e ht
      split
      · rename_i n hn
        cases AZ:Nat.ble 1 n with
        | false=>exact True.intro
        | true=>
          rw [cond_true]
          have AZ:1≤n:=Nat.le_of_ble_eq_true AZ
          intro ρ A B base w ev bF v hs he hf
          unfold Sm at hf
          split at hf
          · rename_i bs KP dCap x e1
            have hm:=he.map
            rw [e1] at hm
            obtain ⟨s',r1,e2,XX,hm⟩:=hm.cons_inv
            obtain ⟨x',r2,e3,SR,hm⟩:=hm.cons_inv
            have:=hm.bh
            subst this e3
            have e4:args.map bF = #[s',x']:=by apply Array.ext'; simpa using e2
            obtain ⟨k,hk,hf⟩:=Option.bind_eq_some_iff.1 hf
            have hlen:=Qh SR hk
            obtain ⟨new,lQ,hf⟩:=Option.bind_eq_some_iff.1 hf
            obtain ⟨bB,h1,h2,h3,h4⟩:=vr (P:=P) hs.rel SR lQ (fun m h=>by rw [hk] at h; simp at h; subst h; exact Nat.min_le_left _ _) AZ
            cases bs with
            | none=>
              simp at hf
              obtain ⟨rfl,rfl⟩:=hf
              have:=XX.eO
              subst this
              refine ⟨ρ,goInt (Nat.min k KP),.value (goInt (Nat.min k KP)),w,?_,rfl,VR.of_flat rfl,.refl hs⟩
              simp [execOp,ho,resolve,invoke,builtin,e4,Builtin.copy_,DA,aX ht,hlen,jB hn,h4]
            | some a=>
              simp only at hf
              obtain ⟨B',hX,hf⟩:=Option.map_eq_some_iff.1 hf
              simp at hf
              obtain ⟨rfl,rfl⟩:=hf
              obtain ⟨vV,Cp,lc,a',c',hl,nz,EW,j8,rfl⟩:=XX.jF
              obtain ⟨w',h5,h6⟩:=vq (P:=P) hs hX hl h1
              have kN:(storeCells a' bB).run P w = .ok () w':=by
                by_cases hc:c' = 0
                · have:bB = []:=by
                    apply List.eq_nil_of_length_eq_zero
                    rw [h1.length,h3]
                    have:KP=0:=by omega
                    subst this; simp
                  subst this
                  exact h5
                · rw [EW hc]; exact h5
              refine ⟨ρ,goInt (Nat.min k KP),.value (goInt (Nat.min k KP)),w',?_,rfl,VR.of_flat rfl,h6⟩
              simp [execOp,ho,resolve,invoke,builtin,e4,Builtin.copy_,DA,aX ht,hlen,jB hn,h4,kN]
          · simp at hf
      · trivial
    · trivial
  · trivial
end
end Go.aV
end
