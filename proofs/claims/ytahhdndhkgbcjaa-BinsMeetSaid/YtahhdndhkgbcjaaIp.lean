/- Part of the proof of BinsMeet: a machine that runs the program's code over open terms, shown to be the model's, and the plain models of its functions. No conditions. -/
import Derived.Test.YtahhdndhkgbcjaaHp
import Derived.OpenShut
import Derived.ChangeArms
import Derived.WideShapes
import Derived.Below
import Derived.KernelRfl
import Derived.Test.YtahhdndhkgbcjaaProg
section
namespace Go.K
open Go Go.aV
mutual
def wfK:KV→Prop
  | .int k n=>(Lit.int k n).wf=true
  | .str s=>s.size≤maxLen
  | .ts _ _ n es _=>n≤maxLen∧Bz es
  | .agg cs=>Bz cs
  | _=>True
def Bz:List KV→Prop
  | []=>True
  | v :: vs=>wfK v∧Bz vs
end
theorem xt:∀ {a b:List KV},Bz a→Bz b→Bz (a ++ b)
  | [],_,_,h=>h
  | x :: a,b,h,k=>by
    simp only [Bz] at h
    exact ⟨h.1,xt h.2 k⟩
structure HN (P:Program) (W:World) (E:Env) (B:St) (ρ:aw):Prop where
  cW:fU ρ B W.heap.size W
  k:eh P E .empty B
  κ:∀ b,E.κ b=none
  kv:∀ b o,B.get b=some o→o.bO=false∧o.fJ=none
  α:∀ b,E.α b=none
def Env.none:Env:=⟨fun _=>.none,fun _=>.none,fun _=>.none,fun _=>.none⟩
theorem CL.empty {P:Program} {E:Env} {B:St} (m4:∀ b,E.α b=none):CL P E .empty B:=by
  have hn:∀ b o,¬ ak.empty.get b=some o:=fun b o hb=>by simp [ak.empty,ak.get] at hb
  exact ⟨fun b v hb=>(hn b _ hb).elim,fun b v hb=>(hn b _ hb).elim,fun x ⟨b,v,_,_,hb,_⟩=>(hn b _ hb).elim,fun b c v u x L N L' N' hb=>(hn b _ hb).elim,fun b c v u x y L N L' N' cs e own g k bk e' k8 k' hb=>(hn b _ hb).elim,fun b x _=>m4 b,fun b p e=>by rw [m4 b] at e; simp at e,fun b x L N e=>by rw [m4 b] at e; simp at e,fun b v x L N cs e own g k hb=>(hn b _ hb).elim⟩
theorem HN.start (P:Program) (W:World):HN P W .none .empty (xU []):=by
  refine ⟨fU.empty W,⟨?_,?_,?_,?_,?_,?_,?_,?_,?_,?_,?_,?_,?_,?_,.empty fun _=>rfl⟩,fun _=>rfl,fun b o h=>by simp [St.get,St.empty] at h,fun _=>rfl⟩
  · intro b cs a8 h; simp [ak.empty,ak.get] at h
  · intro b cs a8 h; simp [ak.empty,ak.get] at h
  · intro b r h; simp [Env.none] at h
  · intro b r h; simp [Env.none] at h
  · intro b c r h; simp [Env.none] at h
  · intro b c r _ _ _ _ _ _ h; simp [Env.none] at h
  · intro b r h; simp [Env.none] at h
  · intro b r h; simp [Env.none] at h
  · intro b o h; simp [ak.empty,ak.get] at h
  · intro b r h; simp [Env.none] at h
  · intro b r h; simp [Env.none] at h
  · intro b r h; simp [Env.none] at h
  · intro g _; simp [St.members,St.empty]
  · intro g x h; simp [St.members,St.empty] at h
theorem HN.add {P:Program} {W:World} {E:Env} {B:St} {ρ:aw} (h:HN P W E B ρ) {cs:List Value} {l:aV.Loc}
    (hc:∀ (i:Nat) (v:Value),cs[i]? = some v→∃ v',W.cell? ⟨l.cb,l.cd+i,.none⟩=some v'∧VR ρ v v'∧scalar v=true) (hl:l.cb < W.heap.size) (hf:l.cd+cs.length≤l.sV) :
    HN P W (E.dD B.next ⟨cs,l.a8,false,.none⟩) (B.new (.row cs l.a8 false .none)) (ρ.set B.next l)∧E.le (E.dD B.next ⟨cs,l.a8,false,.none⟩)∧ρ.le (ρ.set B.next l):=by
  have hle:E.le (E.dD B.next ⟨cs,l.a8,false,.none⟩):=⟨fun _ _ e=>e,fun _ _ e=>e,fun b r e=>by
    have:=h.k.jr b r e
    simp only [Env.dD]; rw [if_neg (by omega)]; exact e,fun _ _ e=>e⟩
  have eK:=h.cW.xh l
  have eM:∀ b o,(B.new (.row cs l.a8 false .none)).get b=some o→(b=B.next∧o = .row cs l.a8 false .none)∨(b≠B.next∧B.get b=some o):=by
    intro b o hb
    rw [St.bR] at hb
    split at hb
    · rename_i e; simp at hb; exact .inl ⟨e,hb.symm⟩
    · rename_i e; exact .inr ⟨e,hb⟩
  have Xl:∀ b o,(B.new (.row cs l.a8 false .none)).get b=some o→o.bO=false∧o.fJ = .none:=by
    intro b o hb
    rcases eM b o hb with ⟨_,rfl⟩ | ⟨_,hb⟩
    · exact ⟨rfl,rfl⟩
    · exact h.kv b o hb
  refine ⟨⟨⟨⟨?_,?_,?_,?_,?_,?_⟩,?_,h.cW.size,h.cW.jO.mono eK⟩,?_,h.κ,Xl,h.α⟩,hle,eK⟩
  · intro b ie a8 own a9 hb
    rcases eM b _ hb with ⟨rfl,e⟩ | ⟨bo,hb⟩
    · simp only [bf.row.injEq] at e
      obtain ⟨rfl,rfl,rfl,rfl⟩:=e
      refine ⟨l,by simp [aw.set],⟨fun i v hi=>?_,fun _=>hl,fun e=>by simp at e,fun e=>by simp at e,hf,fun e=>by simp at e,rfl,hl,fun e=>by simp at e⟩⟩
      obtain ⟨v',h1,h2,h3⟩:=hc i v hi
      exact ⟨v',h1,h2.mono eK,h3⟩
    · obtain ⟨l',h1,h2⟩:=h.cW.rel.row b ie a8 own a9 hb
      exact ⟨l',eK _ _ h1,⟨fun i v hi=>by obtain ⟨v',q1,q2,q3⟩:=h2.cells i v hi; exact ⟨v',q1,q2.mono eK,q3⟩,h2.kv,h2.bO,h2.there,h2.fits,h2.ends,h2.a8,h2.gL,h2.mark⟩⟩
  · intro b es hb
    have:=(Xl b _ hb).1
    simp [bf.bO] at this
  · intro b s pos hb
    have:=(Xl b _ hb).1
    simp [bf.bO] at this
  · intro b st e t ps a c hb
    have:=(Xl b _ hb).1
    simp [bf.bO] at this
  · intro b1 b2 o1 o2 l1 l2 _ h1 _ h3
    have:=(Xl b1 _ h1).1
    rw [h3] at this; simp at this
  · intro b o aJ f hb hk
    have:=(Xl b _ hb).2
    rw [hk] at this; simp at this
  · intro b l' hb
    rw [St.bz]
    simp only [aw.set] at hb
    split at hb
    · omega
    · have:=h.cW.eS b l' hb; omega
  · refine ⟨?_,?_,?_,?_,?_,?_,?_,?_,?_,?_,?_,?_,?_,?_,.empty h.α⟩
    · intro b cs a8 h; simp [ak.empty,ak.get] at h
    · intro b cs a8 h; simp [ak.empty,ak.get] at h
    · intro b r hb
      simp only [Env.dD] at hb
      split at hb
      · rename_i e
        simp at hb
        subst hb e
        simp
      · have:=h.k.jr b r hb
        rw [St.bR,if_neg (by omega)]
        exact h.k.z b r hb
    · intro b x hb; have hb:E.κ b=some x:=hb; rw [h.κ b] at hb; simp at hb
    · exact h.k.inj
    · exact h.k.fO
    · exact h.k.eS
    · exact h.k.jq
    · exact h.k.live
    · intro b x hb; have:=h.k.dT b x hb; rw [St.bz]; omega
    · intro b r hb
      simp only [Env.dD] at hb
      rw [St.bz]
      split at hb
      · omega
      · have:=h.k.jr b r hb; omega
    · intro b g hb; have:=h.k.fV b g hb; rw [St.bz]; omega
    · intro g hg; rw [St.bz] at hg; rw [St.gF]; exact h.k.fresh g (by omega)
    · intro g x hx; rw [St.gF] at hx; rw [St.bz]; have:=h.k.mem g x hx; omega
def Un (P:Program):Nat→List Field→Option Nat
  | off,[]=>some off
  | off,f :: fs=>cond (Nat.beq f.offset off) (Un P (off+P.cellsOf f.type) fs) .none
def tw (P:Program):Nat→TypeId→Bool
  | 0,_=>false
  | n+1,t=>match P.underlying t with
    | some (.int _) | some .bool | some .string=>true
    | some (.slice e)=>Nat.ble 1 (P.cellsOf e) && tw P n e && (match lay P 12 e with
      | some l=>Nat.beq l.ks.length (P.cellsOf e) && (l.agg || Nat.beq l.ks.length 1)
      | .none=>false)
    | some (.struct fs)=>fs.toList.all (fun f=>tw P n f.type) && (match Un P 0 fs.toList with
      | some k=>Nat.beq k (P.cellsOf t)
      | .none=>false)
    | some (.array len e)=>tw P n e && Nat.beq (P.cellsOf t) (len * P.cellsOf e)
    | _=>false
def Uo (W:World) (cs:List Value):Prop:=∀ a n c,Value.slice (some a) n c ∈ cs→0 < W.heap.size
def Got (P:Program) (W:World) (E:Env) (_:St) (ρ:aw) (cs:List Value) (K:List KV→Prop):Prop:=
  ∃ E' B' aq ks,HN P W E' B' aq∧E.le E'∧ρ.le aq∧xq P E' aq ks cs∧Bz ks∧K ks
def Se {H:Type} (enc:TypeId×Value→H) (P:Program) (W:World) (n:Nat):Prop:=
  ∀ t,tw P n t=true→∀ (fuel:Nat) (cs:List Value) (x:DataW H×List MemPlace) (E:Env) (B:St) (ρ:aw),DataW.trod enc P W 0 (fun _=>true) true fuel t cs=some x→Uo W cs→HN P W E B ρ→
    Got P W E B ρ cs fun ks=>∀ m l,lay P m t=some l→ax l.ks ks=true
section
variable {H:Type} {enc:TypeId×Value→H} {P:Program} {W:World} {E:Env} {B:St} {ρ:aw}
theorem xq.append {E:Env} {ρ:aw} {a b:List KV} {a' b' : List Value} (h:xq P E ρ a a') (k:xq P E ρ b b'):xq P E ρ (a ++ b) (a' ++ b'):=by
  obtain ⟨m,h1,h2⟩:=h
  obtain ⟨l,h3,h4⟩:=k
  exact ⟨m ++ l,h1.append h3,h2.append h4⟩
theorem xq.mono {E E' : Env} {ρ aq:aw} {a:List KV} {a' : List Value} (h:xq P E ρ a a') (hE:E.le E') (eK:ρ.le aq):xq P E' aq a a':=by
  obtain ⟨m,h1,h2⟩:=h
  exact ⟨m,h1.mono hE,h2.mono eK⟩
theorem xq.len {E:Env} {ρ:aw} {a:List KV} {a' : List Value} (h:xq P E ρ a a'):a'.length=a.length:=by
  obtain ⟨m,h1,h2⟩:=h
  rw [h2.length,h1.length]
theorem zY:∀ {ks:List CK} {vs:List KV},ax ks vs=true→vs.length=ks.length
  | [],[],_=>rfl
  | [],_ :: _,h=>by simp [ax] at h
  | _ :: _,[],h=>by simp [ax] at h
  | k :: ks,v :: vs,h=>by
    simp only [ax,Bool.and_eq_true] at h
    simp [zY h.2]
theorem zZ:∀ {ks ls:List CK} {vs us:List KV},ax ks vs=true→ax ls us=true→ax (ks ++ ls) (vs ++ us)=true
  | [],_,[],_,_,h=>h
  | [],_,_ :: _,_,h,_=>by simp [ax] at h
  | _ :: _,_,[],_,h,_=>by simp [ax] at h
  | k :: ks,ls,v :: vs,us,h,h'=>by
    simp only [ax,Bool.and_eq_true] at h
    simp only [List.cons_append,ax,Bool.and_eq_true]
    exact ⟨h.1,zZ h.2 h'⟩
theorem Uo.sub {W:World} {cs ds:List Value} (h:Uo W cs) (k:∀ v ∈ ds,v ∈ cs):Uo W ds:=fun a n c hm=>h a n c (k _ hm)
theorem Uq {cs:List Value} {i n:Nat} : ∀ v ∈ (cs.drop i).take n,v ∈ cs:=fun _ h=>List.mem_of_mem_drop (List.mem_of_mem_take h)
theorem QP (cs:List Value) (i m n:Nat):(cs.drop i).take m ++ (cs.drop (i+m)).take n=(cs.drop i).take (m+n):=by
  rw [List.take_add,List.drop_drop]
theorem Mg {n:Nat} (IH:Se enc P W n) {fuel:Nat} {cs:List Value} (hp:Uo W cs):∀ (fs:List Field) (off k:Nat) (E:Env) (B:St) (ρ:aw),HN P W E B ρ→Un P off fs=some k→k≤cs.length→(∀ f ∈ fs,tw P n f.type=true)→
    (∀ f ∈ fs,∃ x,DataW.trod enc P W 0 (fun _=>true) true fuel f.type ((cs.drop f.offset).take (P.cellsOf f.type))=some x)→
    off≤k∧Got P W E B ρ ((cs.drop off).take (k - off)) fun ks=>∀ m l,Fk (lay P m) fs off=some l→ax l ks=true
  | [],off,k,E,B,ρ,hi,ht,hk,_,_=>by
    simp [Un] at ht; subst ht
    refine ⟨Nat.le_refl _,E,B,ρ,[],hi,Env.le_refl _,aw.le_refl _,?_,trivial,?_⟩
    · rw [Nat.sub_self,List.take_zero]; exact ⟨[],.nil,.nil⟩
    · intro m l h; simp [Fk] at h; subst h; rfl
  | f :: fs,off,k,E,B,ρ,hi,ht,hk,he,hx=>by
    unfold Un at ht
    cases hb:Nat.beq f.offset off with
    | false=>rw [hb] at ht; simp at ht
    | true=>
      rw [hb,cond_true] at ht
      have DB:=Nat.eq_of_beq_eq_true hb
      obtain ⟨x,Et⟩:=hx f (by simp)
      obtain ⟨E1,B1,iI,ks1,h1,h2,h3,h4,h5,h6⟩:=IH f.type (he f (by simp)) fuel _ x E B ρ Et (hp.sub Uq) hi
      obtain ⟨hle,E2,B2,iU,ks2,q1,q2,q3,q4,q5,q6⟩:=Mg IH hp fs (off+P.cellsOf f.type) k E1 B1 iI h1 ht hk (fun g hg=>he g (by simp [hg])) (fun g hg=>hx g (by simp [hg]))
      have hlen:ks1.length=P.cellsOf f.type:=by
        rw [← h4.len,List.length_take,List.length_drop,DB]
        omega
      refine ⟨by omega,E2,B2,iU,ks1 ++ ks2,q1,Env.le_trans h2 q2,aw.le_trans h3 q3,?_,xt h5 q5,?_⟩
      · have:=(h4.mono q2 q3).append q4
        rw [DB,QP] at this
        rw [show k - off=P.cellsOf f.type+(k - (off+P.cellsOf f.type)) by omega]
        exact this
      · intro m l hl
        unfold Fk at hl
        rw [hb,cond_true] at hl
        obtain ⟨l1,Cq,hl⟩:=Option.bind_eq_some_iff.1 hl
        obtain ⟨l2,hY,rfl⟩:=Option.map_eq_some_iff.1 hl
        have HK:=h6 m l1 Cq
        have akA:=zY HK
        rw [← akA,hlen] at hY
        exact zZ HK (q6 m l2 hY)
theorem QQ {n:Nat} (IH:Se enc P W n) {fuel len c:Nat} {e:TypeId} {cs:List Value} (hp:Uo W cs) (he:tw P n e=true) (hc:P.cellsOf e=c) (hk:len * c≤cs.length) (hx:∀ i,i < len→∃ x,DataW.trod enc P W 0 (fun _=>true) true fuel e ((cs.drop (i * c)).take c)=some x) (hi:HN P W E B ρ):∀ j,j≤len→
    Got P W E B ρ (cs.take (j * c)) fun ks=>∀ m l,lay P m e=some l→ax (cu l.ks j) ks=true
  | 0,_=>by
    refine ⟨E,B,ρ,[],hi,Env.le_refl _,aw.le_refl _,?_,trivial,fun m l _=>rfl⟩
    rw [Nat.zero_mul,List.take_zero]; exact ⟨[],.nil,.nil⟩
  | j+1,hj=>by
    obtain ⟨E1,B1,iI,ks1,h1,h2,h3,h4,h5,h6⟩:=QQ IH hp he hc hk hx hi j (by omega)
    obtain ⟨x,Et⟩:=hx j (by omega)
    obtain ⟨E2,B2,iU,ks2,q1,q2,q3,q4,q5,q6⟩:=IH e he fuel _ x E1 B1 iI Et (hp.sub Uq) h1
    refine ⟨E2,B2,iU,ks1 ++ ks2,q1,Env.le_trans h2 q2,aw.le_trans h3 q3,?_,xt h5 q5,?_⟩
    · have:=(h4.mono q2 q3).append q4
      have e:=QP cs 0 (j * c) c
      simp only [List.drop_zero,Nat.zero_add] at e
      rw [e] at this
      rw [show (j+1) * c=j * c+c by rw [Nat.succ_mul]]
      exact this
    · intro m l hl
      have:cu l.ks (j+1)=cu l.ks j ++ l.ks:=by
        have comm:∀ n,l.ks ++ cu l.ks n=cu l.ks n ++ l.ks:=by
          intro n
          induction n with
          | zero=>simp [cu]
          | succ n ih=>simp only [cu,List.append_assoc]; rw [ih]
        rw [← comm]; rfl
      rw [this]
      exact zZ (h6 m l hl) (q6 m l hl)
theorem Mh {a:Addr} {i k:Nat} {v:Value} (h:W.cell? ((a.add i).add k)=some v):W.cell? ⟨a.block,a.off+i+k,.none⟩=some v∧a.block < W.heap.size∧(i+k=0→a.spot = .none):=by
  have hb:((a.add i).add k).block=a.block:=by unfold Addr.add; split <;> split <;> rfl
  have ho:((a.add i).add k).off=a.off+i+k:=by
    unfold Addr.add
    split <;> split <;> simp_all
  have hs:((a.add i).add k).spot = .none:=by
    unfold World.cell? at h
    split at h
    · split at h
      · simp at h
      · rename_i hs; simpa using hs
    · simp at h
  have he:(a.add i).add k=⟨a.block,a.off+i+k,.none⟩:=by
    generalize (a.add i).add k=p at hb ho hs
    obtain ⟨b,o,s⟩:=p
    simp at hb ho hs
    simp [hb,ho,hs]
  refine ⟨he ▸ h,?_,fun e=>?_⟩
  · rw [he] at h
    unfold World.cell? at h
    split at h
    · rename_i heq
      exact (Array.getElem?_eq_some_iff.1 heq).1
    · simp at h
  · have h1:i=0:=by omega
    have h2:k=0:=by omega
    subst h1 h2
    simpa [Addr.add] using hs
theorem Ur {a:Addr} {n:Nat} {cs:List Value} (h:W.cells? 0 a n=some cs):cs.length=n∧∀ (k:Nat) (v:Value),cs[k]? = some v→W.cell? (a.add k)=some v:=by
  unfold World.cells? at h
  rw [if_pos (Nat.zero_le _)] at h
  have hl:=mapM_some_length h
  simp at hl
  refine ⟨hl,fun k v hv=>?_⟩
  have hk:k < n:=by rw [← hl]; exact (List.getElem?_eq_some_iff.1 hv).1
  rw [mapM_some_get h k k (by simp [hk])]
  exact hv
theorem adW {ks:List KV} {agg:Bool} (h:Bz ks):wfK (Ep agg ks):=by
  cases agg with
  | true=>exact h
  | false=>
    match ks,h with
    | [],_=>exact trivial
    | v :: vs,h=>exact h.1
theorem IL {E:Env} {ρ:aw} : ∀ {ks:List CK} {vs:List KV} {m:List Value},ax ks vs=true→aO P E vs m→∀ v ∈ m,scalar v=true
  | [],[],m,_,h,v,hv=>by rw [h.bh] at hv; simp at hv
  | [],_ :: _,_,h,_,_,_=>by simp [ax] at h
  | _ :: _,[],_,h,_,_,_=>by simp [ax] at h
  | k :: ks,u :: vs,m,h,hm,v,hv=>by
    simp only [ax,Bool.and_eq_true] at h
    obtain ⟨y,ys,rfl,h1,h2⟩:=hm.cons_inv
    rcases List.mem_cons.1 hv with rfl | hv
    · refine h1.scalar ?_
      have:=h.1
      cases u <;> first | rfl | (cases k <;> simp [kindOk] at this)
    · exact IL (ρ:=ρ) h.2 h2 v hv
theorem QR {n:Nat} (IH:Se enc P W n) {fuel len c:Nat} {e:TypeId} {l:pt} {a:Addr} (he:tw P n e=true) (hl:lay P 12 e=some l) (Cp:l.ks.length=c) (ha:l.agg=true∨l.ks.length=1) (hc:P.cellsOf e=c) (hc1:1≤c)
    (hx:∀ i,i < len→∃ x,(W.cells? 0 (a.add (i * c)) c).bind (DataW.trod enc P W 0 (fun _=>true) true fuel e)=some x) (hi:HN P W E B ρ):∀ j,j≤len→
    ∃ E' B' aq es us fl,HN P W E' B' aq∧E.le E'∧ρ.le aq∧es.length=j∧aO P E' es us∧cX l es=true∧Bz es∧fl.length=j * c∧jQ c 0 fl us∧
      (∀ (i:Nat) (v:Value),fl[i]? = some v→∃ v',W.cell? ⟨a.block,a.off+i,.none⟩=some v'∧VR aq v v'∧scalar v=true)∧(0 < j→a.block < W.heap.size∧a.spot = .none)
  | 0,_=>⟨E,B,ρ,[],[],[],hi,Env.le_refl _,aw.le_refl _,rfl,.nil,rfl,trivial,by simp,fun i x h=>by simp at h,fun i v h=>by simp at h,fun h=>by omega⟩
  | j+1,hj=>by
    obtain ⟨E1,B1,iI,es,us,fl,h1,h2,h3,h4,h5,h6,h7,h8,h9,wN,Yx⟩:=QR IH he hl Cp ha hc hc1 hx hi j (by omega)
    obtain ⟨x,Et⟩:=hx j (by omega)
    obtain ⟨cs,Cm,hx2⟩:=Option.bind_eq_some_iff.1 Et
    obtain ⟨hlen,eM⟩:=Ur Cm
    have AZ:a.block < W.heap.size:=by
      have h0:0 < cs.length:=by rw [hlen]; omega
      exact (Mh (eM 0 _ (List.getElem?_eq_getElem h0))).2.1
    obtain ⟨E2,B2,iU,ks,q1,q2,q3,⟨m,q4,q4'⟩,q5,q6⟩:=IH e he fuel cs x E1 B1 iI hx2 (fun _ _ _ _=>by omega) h1
    have hk:=q6 12 l hl
    have Jz:m.length=c:=by rw [q4.length,zY hk,Cp]
    have rA:l.agg=true∨m.length=1:=by rw [Jz,← Cp]; exact ha
    have HI:=IL (ρ:=ρ) hk q4
    have iY:=TK HI rA
    have hul:us.length=j:=by rw [h5.length,h4]
    refine ⟨E2,B2,iU,es ++ [Ep l.agg ks],us ++ [mkE l.agg m],fl ++ m,q1,Env.le_trans h2 q2,aw.le_trans h3 q3,by simp [h4],(h5.mono q2).append (.cons (TL q4 rA) .nil),?_,xt h7 ⟨adW q5,trivial⟩,?_,?_,?_,fun _=>⟨AZ,?_⟩⟩
    · have:∀ {es:List KV},cX l es=true→cX l (es ++ [Ep l.agg ks])=true:=by
        intro es
        induction es with
        | nil=>intro _; simp [cX,OI hk ha]
        | cons e es ih=>
          intro h
          simp only [cX,Bool.and_eq_true] at h
          simp only [List.cons_append,cX,Bool.and_eq_true]
          exact ⟨h.1,ih h.2⟩
      exact this h6
    · rw [List.length_append,h8,Jz,Nat.succ_mul]
    · intro i y hy
      by_cases hi:i < j
      · rw [List.getElem?_append_left (by omega)] at hy
        obtain ⟨r1,r2⟩:=h9 i y hy
        refine ⟨r1,fun k z hz=>?_⟩
        have:=r2 k z hz
        rw [List.getElem?_append_left (List.getElem?_eq_some_iff.1 this).1]
        exact this
      · rw [List.getElem?_append_right (by omega),hul] at hy
        have Ut:i=j:=by
          have:=(List.getElem?_eq_some_iff.1 hy).1
          simp at this
          omega
        subst Ut
        simp at hy
        subst hy
        have cA:(mkE l.agg m).cells.size=c:=by rw [← Array.length_toList,iY,Jz]
        refine ⟨cA,fun k z hz=>?_⟩
        rw [← Array.getElem?_toList,iY] at hz
        rw [List.getElem?_append_right (by rw [h8]; omega),h8,show 0+i * c+k - i * c=k by omega]
        exact hz
    · intro i v hv
      by_cases hi:i < fl.length
      · rw [List.getElem?_append_left hi] at hv
        obtain ⟨v',r1,r2,r3⟩:=wN i v hv
        exact ⟨v',r1,r2.mono q3,r3⟩
      · rw [List.getElem?_append_right (by omega)] at hv
        obtain ⟨v',r1,r2⟩:=q4'.get hv
        refine ⟨v',?_,r2,HI v (List.mem_of_getElem? hv)⟩
        have:=(Mh (eM _ _ r1)).1
        rw [h8] at this
        rw [h8] at hi
        rw [show a.off+i=a.off+j * c+(i - j * c) by omega]
        exact this
    · by_cases h0:j=0
      · subst h0
        have h0:0 < cs.length:=by rw [hlen]; omega
        exact (Mh (eM 0 _ (List.getElem?_eq_getElem h0))).2.2 (by omega)
      · exact (Yx (by omega)).2
theorem aa5:∀ n,Se enc P W n
  | 0=>fun t ht=>by simp [tw] at ht
  | n+1=>by
    have IH:=aa5 n
    intro t ht fuel cs x E B ρ hx hp hi
    have hn:∀ {m l},lay P m t=some l→∃ m',m=m' + 1:=by
      intro m l h
      cases m with
      | zero=>simp [lay] at h
      | succ m=>exact ⟨m,rfl⟩
    unfold tw at ht
    split at ht
    · rename_i k hu
      obtain ⟨i,rfl,_,hw⟩:=DataW.trod_int hu hx
      refine ⟨E,B,ρ,[.int k i],hi,Env.le_refl _,aw.le_refl _,⟨_,.cons .mkInt .nil,.cons (by simp [VR]) .nil⟩,⟨hw,trivial⟩,fun m l h=>?_⟩
      obtain ⟨m',rfl⟩:=hn h
      simp only [lay,hu,Option.some.injEq] at h
      subst h
      simp [ax,kindOk]
    · rename_i hu
      obtain ⟨b,rfl,_⟩:=DataW.trod_bool hu hx
      refine ⟨E,B,ρ,[.bool b],hi,Env.le_refl _,aw.le_refl _,⟨_,.cons .l8 .nil,.cons (by simp [VR]) .nil⟩,⟨trivial,trivial⟩,fun m l h=>?_⟩
      obtain ⟨m',rfl⟩:=hn h
      simp only [lay,hu,Option.some.injEq] at h
      subst h
      simp [ax,kindOk]
    · rename_i hu
      obtain ⟨s,rfl,_,hw⟩:=DataW.trod_string hu hx
      refine ⟨E,B,ρ,[.str s],hi,Env.le_refl _,aw.le_refl _,⟨_,.cons .mkStr .nil,.cons (by simp [VR]) .nil⟩,⟨hw,trivial⟩,fun m l h=>?_⟩
      obtain ⟨m',rfl⟩:=hn h
      simp only [lay,hu,Option.some.injEq] at h
      subst h
      simp [ax,kindOk]
    · rename_i e hu
      simp only [Bool.and_eq_true] at ht
      obtain ⟨⟨uo,Ba⟩,ht3⟩:=ht
      have hc1:=Nat.le_of_ble_eq_true uo
      split at ht3
      · rename_i l hl
        simp only [Bool.and_eq_true,Bool.or_eq_true] at ht3
        have Cp:=Nat.eq_of_beq_eq_true ht3.1
        have rA:l.agg=true∨l.ks.length=1:=ht3.2.imp id Nat.eq_of_beq_eq_true
        have hlF:a6 P e=l:=by simp [a6,hl]
        have cA:aL P e=P.cellsOf e:=by rw [aL,hlF,Cp]
        have fin:∀ {ks:List KV} {m:Nat} {l' : pt} {mk:Mk} {nn:Nat} {es:List KV} {acc:Nat→KV},mk = .any→lay P m t=some l'→ks = [.ts e mk nn es acc]→ax l'.ks ks=true:=by
          intro ks m l' mk nn es acc Re h mi
          obtain ⟨m',rfl⟩:=hn h
          simp only [lay,hu,Option.some.injEq] at h
          subst h mi Re
          simp [ax,kindOk]
        rcases DataW.trod_slice hu hx with ⟨rfl,_⟩ | ⟨a,len,cap,elems,rest,fu,_,rfl,_,_,hle,afu,wb,hE,hR,_⟩
        · refine ⟨E,B,ρ,[.ts e .any 0 [] jP],hi,Env.le_refl _,aw.le_refl _,⟨[.slice .none 0 0],.cons ?_ .nil,.cons (by simp [VR]) .nil⟩,⟨⟨Nat.zero_le _,trivial⟩,trivial⟩,fun m l h=>fin rfl h rfl⟩
          simp only [VK]
          exact ⟨⟨rfl,fun i h=>by omega,rfl⟩,[],.nil,.none,0,rfl,Nat.le_refl _,.inl ⟨rfl,rfl⟩,trivial⟩
        · have hxs:∀ i,i < len→∃ x,(W.cells? 0 (a.add (i * P.cellsOf e)) (P.cellsOf e)).bind (DataW.trod enc P W 0 (fun _=>true) true fu e)=some x:=by
            intro i h
            rw [hE i h]
            exact ⟨_,List.getElem?_eq_getElem (by rw [wb]; exact h)⟩
          obtain ⟨E1,B1,iI,es,us,fl,h1,h2,h3,h4,h5,h6,h7,h8,h9,wN,Yx⟩:=QR IH Ba hl Cp rA rfl hc1 hxs hi len (Nat.le_refl _)
          have vV:0 < cap→a.block < W.heap.size∧a.spot = .none:=by
            intro h0
            by_cases EZ:0 < len
            · exact Yx EZ
            · have EZ:len=0:=by omega
              subst EZ
              obtain ⟨SZ,kQ⟩:=hR rfl
              have hr3:=kQ 0 (by omega)
              rw [List.getElem?_eq_getElem (by rw [SZ]; omega)] at hr3
              obtain ⟨bk,afy,_⟩:=Option.bind_eq_some_iff.1 hr3
              obtain ⟨hlen,eM⟩:=Ur afy
              have h0:0 < bk.length:=by rw [hlen]; omega
              have:=Mh (eM 0 _ (List.getElem?_eq_getElem h0))
              exact ⟨this.2.1,this.2.2 (by omega)⟩
          have hh:0 < W.heap.size:=hp a len cap (by simp)
          have hlenes:us.length=len:=by rw [h5.length,h4]
          have ada:∃ lc:aV.Loc,lc.a8=P.cellsOf e∧lc.cb < W.heap.size∧lc.cd+fl.length≤lc.sV∧(cap≠0→a=⟨lc.cb,lc.cd,.none⟩)∧lc.cd+cap * lc.a8≤lc.sV∧
              (∀ (i:Nat) (v:Value),fl[i]? = some v→∃ v',W.cell? ⟨lc.cb,lc.cd+i,.none⟩=some v'∧VR iI v v'∧scalar v=true):=by
            by_cases h0:cap=0
            · subst h0
              have EZ:len=0:=by omega
              subst EZ
              refine ⟨⟨0,0,0,P.cellsOf e⟩,rfl,hh,by simp [h8],fun h=>absurd rfl h,by simp,fun i v hv=>?_⟩
              have:fl = []:=by apply List.eq_nil_of_length_eq_zero; simp [h8]
              rw [this] at hv; simp at hv
            · obtain ⟨p1,p2⟩:=vV (by omega)
              refine ⟨⟨a.block,a.off,a.off+cap * P.cellsOf e,P.cellsOf e⟩,rfl,p1,?_,fun _=>?_,Nat.le_refl _,wN⟩
              · rw [h8]; exact Nat.add_le_add_left (Nat.mul_le_mul_right _ hle) _
              · obtain ⟨b,o,s⟩:=a
                simp at p2
                simp [p2]
          obtain ⟨lc,l1,l2,l3,l4,l5,l6⟩:=ada
          obtain ⟨i1,i2,i3⟩:=h1.add l6 l2 l3
          refine ⟨_,_,_,[.ts e .any len es (l7 es)],i1,Env.le_trans h2 i2,aw.le_trans h3 i3,⟨[.slice (some ⟨B1.next,0,.none⟩) len len],.cons ?_ .nil,.cons ?_ .nil⟩,⟨⟨by omega,h7⟩,trivial⟩,fun m l h=>fin rfl h rfl⟩
          · simp only [VK]
            refine ⟨⟨h4.symm,fun i _=>rfl,by rw [hlF]; exact h6⟩,us,h5.mono i2,some ⟨B1.next,0,.none⟩,len,rfl,Nat.le_refl _,.inr ⟨B1.next,0,⟨fl,lc.a8,false,.none⟩,rfl,by simp [Env.dD],by rw [l1,cA],?_⟩,trivial⟩
            rw [cA]
            exact h9
          · simp only [VR]
            exact ⟨trivial,Nat.le_refl _,lc,a,cap,by simp [aw.set],hle,fun h=>by simpa using l4 h,by simpa using l5,rfl⟩
      · simp at ht3
    · rename_i fs hu
      simp only [Bool.and_eq_true,List.all_eq_true] at ht
      split at ht
      · rename_i k hk
        have hkc:=Nat.eq_of_beq_eq_true ht.2
        obtain ⟨xs,fu,_,_,hlen,hxs,hf⟩:=DataW.trod_struct hu hx
        have hff:∀ f ∈ fs.toList,∃ x,DataW.trod enc P W 0 (fun _=>true) true fu f.type ((cs.drop f.offset).take (P.cellsOf f.type))=some x:=by
          intro f hm
          obtain ⟨i,KK⟩:=List.getElem?_of_mem hm
          have hi2:fs[i]? = some f:=by simpa using KK
          have aY:i < xs.length:=by rw [hxs]; exact (Array.getElem?_eq_some_iff.1 hi2).1
          exact ⟨xs[i],by rw [hf i f hi2]; exact List.getElem?_eq_getElem aY⟩
        obtain ⟨_,E1,B1,iI,ks,h1,h2,h3,h4,h5,h6⟩:=Mg IH hp fs.toList 0 k E B ρ hi hk (by rw [hkc,hlen]; exact Nat.le_refl _) ht.1 hff
        refine ⟨E1,B1,iI,ks,h1,h2,h3,?_,h5,fun m l h=>?_⟩
        · have e:(cs.drop 0).take (k - 0)=cs:=by rw [List.drop_zero,Nat.sub_zero,hkc,← hlen,List.take_length]
          rw [e] at h4
          exact h4
        · obtain ⟨m',rfl⟩:=hn h
          simp only [lay,hu,Option.map_eq_some_iff] at h
          obtain ⟨l',gN,rfl⟩:=h
          exact h6 m' l' gN
      · simp at ht
    · rename_i len e hu
      simp only [Bool.and_eq_true] at ht
      have hkc:=Nat.eq_of_beq_eq_true ht.2
      obtain ⟨xs,fu,_,_,hlen,hxs,hf⟩:=DataW.trod_array hu hx
      have hff:∀ i,i < len→∃ x,DataW.trod enc P W 0 (fun _=>true) true fu e ((cs.drop (i * P.cellsOf e)).take (P.cellsOf e))=some x:=by
        intro i h
        exact ⟨xs[i],by rw [hf i h]; exact List.getElem?_eq_getElem (by rw [hxs]; exact h)⟩
      obtain ⟨E1,B1,iI,ks,h1,h2,h3,h4,h5,h6⟩:=QQ IH hp ht.1 rfl (by rw [hlen,hkc]; exact Nat.le_refl _) hff hi len (Nat.le_refl _)
      refine ⟨E1,B1,iI,ks,h1,h2,h3,?_,h5,fun m l h=>?_⟩
      · rw [← hkc,← hlen,List.take_length] at h4
        exact h4
      · obtain ⟨m',rfl⟩:=hn h
        simp only [lay,hu,Option.map_eq_some_iff] at h
        obtain ⟨l',gN,rfl⟩:=h
        exact h6 m' l' gN
    · simp at ht
end
end Go.K
end
section
namespace Go.K
open Go Go.aV Go.WideShapes
mutual
def agx (P:Program):KV→Prop
  | .ts T _ n es acc=>eL P T n es acc∧Db P es
  | .agg cs=>Db P cs
  | _=>True
def Db (P:Program):List KV→Prop
  | []=>True
  | v :: vs=>agx P v∧Db P vs
end
mutual
theorem VK.deep {P:Program} {E:Env} : ∀ {v:KV} {u:Value},VK P E v u→agx P v
  | .ts T m n es acc,u,h=>by
    obtain ⟨h1,us,h2,_⟩:=h.iu
    exact ⟨h1,aO.deep h2⟩
  | .agg cs,u,h=>by
    obtain ⟨l,_,h1⟩:=h.iQ
    exact aO.deep (vs:=cs) h1
  | .int _ _,_,_ | .bool _,_,_ | .str _,_,_ | .fI _,_,_ | .tp ..,_,_ | .ptr ..,_,_ | .al ..,_,_ | .ap ..,_,_ | .sl ..,_,_ | .w7,_,_ | .gw,_,_ | .s9,_,_ | .map _,_,_ | .fn ..,_,_ | .xV,_,_ | .iface ..,_,_ | .xW,_,_ | .av,_,_=>trivial
theorem aO.deep {P:Program} {E:Env} : ∀ {vs:List KV} {us:List Value},aO P E vs us→Db P vs
  | [],_,_=>trivial
  | v :: vs,us,h=>by
    simp only [aO] at h
    obtain ⟨y,ys,_,h1,h2⟩:=h
    exact ⟨VK.deep h1,aO.deep h2⟩
end
def j4 (P:Program):List TypeId→List KV→Bool
  | [],[]=>true
  | t :: ts,v :: vs=>bX (a6 P t) v && j4 P ts vs
  | _,_=>false
theorem QS {P:Program} : ∀ {ts:List TypeId} {akK:List KV},j4 P ts akK=true→akK.length=ts.length
  | [],[],_=>rfl
  | [],_ :: _,h=>by simp [j4] at h
  | _ :: _,[],h=>by simp [j4] at h
  | t :: ts,v :: vs,h=>by
    simp only [j4,Bool.and_eq_true] at h
    simp [QS h.2]
def Mi (P:Program) (t:TypeId):Bool:=tw P 30 t && (match lay P 12 t with
  | some l=>Nat.beq l.ks.length (P.cellsOf t)
  | .none=>false)
section
variable {H:Type} {enc:TypeId×Value→H} {P:Program} {W:World}
theorem YY {r:Reach} {base:Nat} {t:TypeId} {v:Value} (h:Value.okWide P W r base t v):Uo W v.cells.toList:=by
  intro a n c hm
  have cell:∀ u,Cell.okWide P W r base u (.slice (some a) n c)→0 < W.heap.size:=by
    intro u hu
    unfold Cell.okWide at hu
    split at hu <;> try (rename_i heq; simp at heq; done)
    unfold Cell.ok at hu
    split at hu <;> try (rename_i heq; simp at heq; done)
    · rename_i e heq
      simp at heq
      obtain ⟨rfl,rfl,rfl⟩:=heq
      obtain ⟨_,_,_,_,row,cells,hs,_⟩:=hu
      unfold World.shape? at hs
      split at hs
      · rename_i hh
        have:=(Array.getElem?_eq_some_iff.1 hh).1
        omega
      · simp at hs
    · exact hu.elim
  unfold Value.okWide at h
  split at h
  · obtain ⟨cs,rfl,_,ts,_,_,hc⟩:=h
    obtain ⟨i,hi⟩:=List.getElem?_of_mem hm
    obtain ⟨u,_,hu⟩:=hc i _ (by simpa [Value.cells] using hi)
    exact cell u hu
  · obtain ⟨cs,rfl,_,ts,_,_,hc⟩:=h
    obtain ⟨i,hi⟩:=List.getElem?_of_mem hm
    obtain ⟨u,_,hu⟩:=hc i _ (by simpa [Value.cells] using hi)
    exact cell u hu
  · have hv:v.cells.toList = [v]∨∃ cs,v = .agg cs:=by cases v <;> first | exact .inl rfl | exact .inr ⟨_,rfl⟩
    rcases hv with hv | ⟨cs,rfl⟩
    · rw [hv] at hm
      simp at hm
      subst hm
      exact cell t h
    · exfalso
      unfold Cell.okWide at h
      split at h <;> try (rename_i heq; simp at heq; done)
      unfold Cell.ok at h
      split at h <;> first | (rename_i heq; simp at heq; done) | exact h.elim
theorem aeJ {E:Env} {B:St} {ρ:aw} {t:TypeId} {v:Value} {d:DataW H} {ps:List MemPlace} {r:Reach} {base:Nat} (ht:Mi P t=true) (hd:DataW.Trod enc P W 0 (fun _=>true) true t v d ps) (hw:Value.okWide P W r base t v) (hi:HN P W E B ρ) :
    ∃ E' B' aq a,HN P W E' B' aq∧E.le E'∧ρ.le aq∧VC P E' aq a v∧bX (a6 P t) a=true∧wfK a:=by
  unfold Mi at ht
  simp only [Bool.and_eq_true] at ht
  obtain ⟨uo,Ba⟩:=ht
  split at Ba
  · rename_i l hl
    obtain ⟨fuel,hf⟩:=hd
    obtain ⟨E1,B1,iI,ks,h1,h2,h3,⟨m,h4,h4'⟩,h5,h6⟩:=aa5 30 t uo fuel _ _ E B ρ hf (YY hw) hi
    have hk:=h6 12 l hl
    have hlF:a6 P t=l:=by simp [a6,hl]
    have adX:(l.agg=true∧∃ cs:Array Value,v = .agg cs)∨(l.agg=false∧l.ks.length=1∧v.cells.toList = [v]):=by
      unfold tw at uo
      split at uo
      · rename_i k hu
        obtain ⟨n,rfl⟩:=okWide_int hu hw
        simp only [lay,hu,Option.some.injEq] at hl
        subst hl; exact .inr ⟨rfl,rfl,rfl⟩
      · rename_i hu
        obtain ⟨n,rfl⟩:=okWide_bool hu hw
        simp only [lay,hu,Option.some.injEq] at hl
        subst hl; exact .inr ⟨rfl,rfl,rfl⟩
      · rename_i hu
        obtain ⟨n,rfl⟩:=okWide_string hu hw
        simp only [lay,hu,Option.some.injEq] at hl
        subst hl; exact .inr ⟨rfl,rfl,rfl⟩
      · rename_i e hu
        obtain ⟨a,n,c,rfl⟩:=okWide_slice hu hw
        simp only [lay,hu,Option.some.injEq] at hl
        subst hl; exact .inr ⟨rfl,rfl,rfl⟩
      · rename_i fs hu
        simp only [lay,hu,Option.map_eq_some_iff] at hl
        obtain ⟨_,_,rfl⟩:=hl
        unfold Value.okWide at hw
        rw [hu] at hw
        obtain ⟨cs,rfl,_⟩:=hw
        exact .inl ⟨rfl,cs,rfl⟩
      · rename_i len e hu
        simp only [lay,hu,Option.map_eq_some_iff] at hl
        obtain ⟨_,_,rfl⟩:=hl
        unfold Value.okWide at hw
        rw [hu] at hw
        obtain ⟨cs,rfl,_⟩:=hw
        exact .inl ⟨rfl,cs,rfl⟩
      · simp at uo
    refine ⟨E1,B1,iI,Ep l.agg ks,h1,h2,h3,?_,?_,adW h5⟩
    · rcases adX with ⟨ha,cs,rfl⟩ | ⟨ha,hlen,hv⟩
      · rw [ha]
        exact ⟨.agg ⟨m⟩,.kP h4,VR.kP (l':=cs.toList) h4'⟩
      · rw [ha]
        rw [hv] at h4'
        have Jz:m.length=1:=by have:=h4'.length; simpa using this.symm
        have:=TL (agg:=false) h4 (.inr Jz)
        match m,Jz,h4',this with
        | [y],_,h4',this=>
          obtain ⟨z,zs,e,q1,_⟩:=h4'.cons_inv
          simp at e
          refine ⟨y,this,?_⟩
          rw [e.1]; exact q1
    · rw [hlF]
      exact OI hk (adX.imp (·.1) (·.2.1))
  · simp at Ba
theorem Uu {r:Reach} {base:Nat} : ∀ {ts:List TypeId} {vs:List Value} {ds:List (DataW H)} {ps:List MemPlace} {E:Env} {B:St} {ρ:aw},(∀ t ∈ ts,Mi P t=true)→DataW.TrodAll enc P W 0 (fun _=>true) true ts vs ds ps→
    (∀ (j:Nat) t v,ts[j]? = some t→vs[j]? = some v→Value.okWide P W r base t v)→HN P W E B ρ→∃ E' B' aq akK,HN P W E' B' aq∧E.le E'∧ρ.le aq∧xq P E' aq akK vs∧j4 P ts akK=true∧Bz akK
  | [],vs,ds,ps,E,B,ρ,_,h,_,hi=>by
    obtain ⟨rfl,_,_⟩:=Go.ChangeShapes.trodAll_nil h
    exact ⟨E,B,ρ,[],hi,Env.le_refl _,aw.le_refl _,⟨[],.nil,.nil⟩,rfl,trivial⟩
  | t :: ts,vs,ds,ps,E,B,ρ,ht,h,hw,hi=>by
    obtain ⟨v,vs1,d,ds1,a,b,rfl,rfl,rfl,h1,h2⟩:=Go.ChangeShapes.trodAll_cons h
    obtain ⟨E1,B1,iI,x,q1,q2,q3,⟨u,q4,q4'⟩,q5,q6⟩:=aeJ (ht t (by simp)) h1 (hw 0 t v rfl rfl) hi
    obtain ⟨E2,B2,iU,xs,p1,p2,p3,⟨m,p4,p4'⟩,p5,p6⟩:=Uu (fun t' h'=>ht t' (by simp [h'])) h2 (fun j t' v' h3 h4=>hw (j+1) t' v' (by simpa using h3) (by simpa using h4)) q1
    exact ⟨E2,B2,iU,x :: xs,p1,Env.le_trans q2 p2,aw.le_trans q3 p3,⟨u :: m,.cons (q4.mono p2) p4,.cons (q4'.mono p3) p4'⟩,by simp [j4,q5,p5],⟨q6,p6⟩⟩
theorem ahX (hP:P.funcs.toList.all jW=true) (hm:P.follows .mixedOrders=true) {cfg:c9} (gX:qE P cfg.pc) (nF:zS P cfg) {L n:Nat} {f:FuncId} {ts:List TypeId} (hts:ts.all (Mi P)=true)
    (eZ:∀ akK,j4 P ts akK=true→Bz akK→Db P akK→cm P cfg L n f (normArgs P ts akK)=some (.bool true)) {args:Array Value} {ds:List (DataW H)} {ps:List MemPlace} {r:Reach} {base:Nat}
    (hd:DataW.TrodAll enc P W 0 (fun _=>true) true ts args.toList ds ps) (hw:∀ (j:Nat) t v,ts[j]? = some t→args.toList[j]? = some v→Value.okWide P W r base t v) :
    Calls P f args W fun e w'=>e = .returned (.bool true)∧RowKit.Below W.heap.size W w':=by
  obtain ⟨E,B,ρ,akK,h1,_,_,h4,h5,h6⟩:=Uu (List.all_eq_true.1 hts) hd hw (HN.start P W)
  have ajg:Db P akK:=by obtain ⟨m,q,_⟩:=h4; exact q.deep
  have kN:=eZ akK h5 h6 ajg
  have h4:xq P E ρ (normArgs P ts akK) args.toList:=by
    obtain ⟨m,q,q'⟩:=h4
    exact ⟨m,aO.Ua rfl q (QS h5),q'⟩
  have wQ:=vA (R:=KV) hP hm gX nF L n
  obtain ⟨fn,c,hf,hc,bH,Z0,kN⟩:=FV hP kN
  have:=C2 gX wQ hm L hf hc bH (nF.2 f fn c hf hc) kN h4 (base:=W.heap.size) (w:=W) ⟨h1.k,h1.cW⟩
  refine this.mono ?_
  rintro e w' ⟨vs,bN,E1,A1,B1,iI,rfl,⟨m,q1,q1'⟩,q2,q3⟩
  have q3:Bool.rec (motive:=fun _=>Option KV) .none (some (xX (pz P (mo P f) (uv A1 vs).1))) (Nat.beq vs.length (mo P f).length)=some (.bool true):=q3
  obtain ⟨E2,_,q1⟩:=yZ q2.cW q1
  cases hb:Nat.beq vs.length (mo P f).length with
  | false=>rw [hb] at q3; exact absurd q3 (by simp)
  | true=>
    rw [hb] at q3
    have q3:some (xX (pz P (mo P f) (uv A1 vs).1))=some (.bool true):=q3
    simp only [Option.some.injEq] at q3
    have hv:VC P E2 iI (xX (pz P (mo P f) (uv A1 vs).1)) (YQ bN):=FU ⟨m,by rw [yd]; exact aO.Ua rfl q1 ((CX A1 vs).trans (Nat.eq_of_beq_eq_true hb)),q1'⟩
    rw [q3] at hv
    have hg:=q2.dj
    refine ⟨by rw [hv.cF],hg.kept.os,hg.kept.tape,hg.kept.output,hg.kept.size,fun k hk=>hg.kept.block k hk ?_⟩
    rintro ⟨b,o,l,ho,s5,_⟩
    rw [(h1.kv b o ho).1] at s5
    simp at s5
end
noncomputable def Xm:List (Nat×(List KV→KR KV))→FuncId→Option (List KV→KR KV)
  | [],_=>.none
  | p :: ps,g=>cond (Nat.beq p.1 g) (some p.2) (Xm ps g)
theorem adY {P:Program} : ∀ {ps:List (Nat×(List KV→KR KV))},(∀ p ∈ ps,bD P p.1 p.2)→qE P (Xm ps)
  | [],_=>fun g F h=>by simp [Xm] at h
  | p :: ps,h=>fun g F hF=>by
    unfold Xm at hF
    cases hb:Nat.beq p.1 g with
    | true=>
      rw [hb] at hF
      simp only [cond_true,Option.some.injEq] at hF
      have:=Nat.eq_of_beq_eq_true hb
      subst this hF
      exact h p (by simp)
    | false=>
      rw [hb] at hF
      exact adY (fun q hq=>h q (List.mem_cons_of_mem _ hq)) g F hF
theorem aa6 (l:pt):bX l .av=false:=by
  show (!l.agg && ax l.ks [.av])=false
  cases l.ks with
  | nil=>simp [ax]
  | cons c cs=>cases c <;> simp [ax,kindOk]
theorem acH {P:Program} {t:TypeId} {v:KV} (h:bX (a6 P t) (DD P t v)=true):∃ w,DD P t v=ao P (ae P ah) t w:=by
  unfold DD at h ⊢
  cases hb:bX (a6 P t) (eD (a6 P t) v) with
  | false=>rw [hb,cond_false,aa6] at h; simp at h
  | true=>exact ⟨eD (a6 P t) v,rfl⟩
theorem Dc:∀ {ks:List CK} {cs:List KV},ax ks cs=true→te ks cs=cs
  | [],[],_=>rfl
  | [],_ :: _,h=>by simp [ax] at h
  | _ :: _,[],h=>by simp [ax] at h
  | k :: ks,v :: vs,h=>by
    simp only [ax,Bool.and_eq_true] at h
    have e:iJ k v=v:=by
      unfold iJ
      split
      · simp [kindOk] at h
      · rename_i t t' m n es acc
        cases m <;> simp [kindOk] at h
        obtain ⟨rfl,_⟩:=h
        rw [Nat.beq_refl,cond_true]
      · rw [h.1]; rfl
    rw [te,e,Dc h.2]
theorem aa7 {l:pt} {v:KV} (h:bX l v=true):eD l v=v:=by
  by_cases ha:∃ cs,v = .agg cs
  · obtain ⟨cs,rfl⟩:=ha
    simp only [bX,Bool.and_eq_true] at h
    show cond (l.agg && Nat.beq cs.length l.ks.length) (KV.agg (te l.ks cs)) .av=_
    rw [h.1,la h.2,Dc h.2]
    simp
  · have h1:(!l.agg && ax l.ks [v])=true:=by
      cases v <;> first | exact h | exact absurd ⟨_,rfl⟩ ha | simp [bX] at h
    simp only [Bool.and_eq_true,Bool.not_eq_true'] at h1
    have e:eD l v=cond l.agg .av (match l.ks with | [c]=>iJ c v | _=>.av):=by
      cases v <;> first | rfl | exact absurd ⟨_,rfl⟩ ha
    rw [e,h1.1,cond_false]
    match hk:l.ks,h1.2 with
    | [c],h2=>
      have:=Dc h2
      simpa [te] using this
    | [],h2=>simp [ax] at h2
    | _ :: _ :: _,h2=>simp [ax] at h2
theorem acI {P:Program} {t:TypeId} {v:KV} (h:bX (a6 P t) v=true):DD P t v=ao P (ae P ah) t v:=by
  unfold DD
  rw [aa7 h,h,cond_true]
noncomputable def bU (P:Program):List TypeId→(Nat→KV)→Nat→List KV
  | [],_,_=>[]
  | t :: ts,w,k=>ao P (ae P ah) t (w k) :: bU P ts w (Nat.succ k)
theorem Mj {P:Program} : ∀ {ts:List TypeId} {w w' : Nat→KV} {k:Nat},(∀ i,k≤i→w i=w' i)→bU P ts w k=bU P ts w' k
  | [],_,_,_,_=>rfl
  | t :: ts,w,w',k,h=>by
    rw [bU,bU,h k (Nat.le_refl _),Mj fun i hi=>h i (by omega)]
theorem Uv {P:Program} : ∀ {ts:List TypeId} {akK:List KV} (k:Nat),j4 P ts (normArgs P ts akK)=true→∃ w,normArgs P ts akK=bU P ts w k
  | [],akK,k,_=>⟨fun _=>.av,by cases akK <;> rfl⟩
  | t :: ts,[],k,h=>by simp [normArgs,j4] at h
  | t :: ts,v :: vs,k,h=>by
    simp only [normArgs,j4,Bool.and_eq_true] at h
    obtain ⟨w,hw⟩:=acH h.1
    obtain ⟨w',hw'⟩:=Uv (k+1) h.2
    refine ⟨fun i=>if i=k then w else w' i,?_⟩
    rw [normArgs,bU,hw,hw',if_pos rfl]
    rw [Mj (w:=w') (w':=fun i=>if i=k then w else w' i) fun i hi=>by rw [if_neg (by omega)]]
theorem Uw {P:Program} : ∀ {ts:List TypeId} {akK:List KV} (k:Nat) {w:Nat→KV},j4 P ts akK=true→(∀ i,i < akK.length→w (k+i)=akK.getD i .av)→normArgs P ts akK=bU P ts w k
  | [],[],k,_,_,_=>rfl
  | [],_ :: _,_,_,h,_=>by simp [j4] at h
  | _ :: _,[],_,_,h,_=>by simp [j4] at h
  | t :: ts,v :: vs,k,w,h,hw=>by
    simp only [j4,Bool.and_eq_true] at h
    rw [normArgs,bU,acI h.1,Uw (k+1) (w:=w) h.2 fun i hi=>by have:=hw (i+1) (by simp; omega); rw [show k+1+i=k+(i+1) by omega,this]; rfl]
    have:=hw 0 (by simp)
    rw [Nat.add_zero] at this
    rw [this]; rfl
noncomputable def bQ (P:Program) (g:FuncId) (F:List KV→KR KV):List KV→KR KV:=fun akK=>cond (j4 P (aC P g) akK) (F akK) .no
theorem agy {P:Program} {g:FuncId} {F:List KV→KR KV} (hP:P.funcs.toList.all jW=true) (hm:P.follows .mixedOrders=true) {cfg:c9} (gX:qE P cfg.pc) (nF:zS P cfg) {L n:Nat}
    (h:∀ w v,aE (F (bU P (aC P g) w 0)) v→cm P cfg L n g (bU P (aC P g) w 0)=some v) (hy:Nat.blt g yB=true:=by rfl):bD P g (bQ P g F):=
  agk hy hP hm fun akK v _ hF=>by
    unfold bQ at hF
    obtain ⟨hb,hF⟩:=aE.cond hF
    obtain ⟨w,hw⟩:=Uv 0 hb
    rw [hw] at hF ⊢
    exact ⟨cfg,L,n,gX,nF,h w v hF⟩
noncomputable def agz (P:Program) (d:CD) (w:KV):KV:=
  match d with
  | .k c=>ae P ah (leaf c w)
  | .lit v=>v
  | .aJ t=>ae P ah (leaf (.slice t) w)
  | .arr t=>ae P ah (leaf (.slice t) w)
  | .ref v=>v
noncomputable def z0 (P:Program):List CD→(Nat→KV)→Nat→List KV
  | [],_,_=>[]
  | d :: ds,w,k=>agz P d (w k) :: z0 P ds w (Nat.succ k)
noncomputable def YZ (P:Program) (d:VD) (w:Nat→KV):KV:=Bool.rec (motive:=fun _=>KV) ((z0 P d.ks w 0).headD .av) (.agg (z0 P d.ks w 0)) d.agg
noncomputable def n9 (P:Program):List (Tmp×VD)→(Nat→Nat→KV)→Nat→List KV
  | [],_,_=>[]
  | p :: ps,w,k=>YZ P p.2 (w k) :: n9 P ps w (Nat.succ k)
noncomputable def oa (P:Program):List (Tmp×List CD×Nat)→(Nat→Nat→KV)→Nat→List (List KV)
  | [],_,_=>[]
  | p :: ps,w,k=>z0 P p.2.1 (w k) 0 :: oa P ps w (Nat.succ k)
theorem Xn {P:Program} {A:ak} {d:CD} {v:KV} (h:fe d (cQ P A d v)=true):∃ w,cQ P A d v=agz P d w:=by
  cases d with
  | ref u=>exact ⟨.av,rfl⟩
  | k c=>
    have e:cQ P A (.k c) v=cond (kindOk c (iJ c v)) (ae P ah (leaf c (iJ c v))) .av:=rfl
    cases hb:kindOk c (iJ c v) with
    | true=>exact ⟨iJ c v,by rw [e,hb]; rfl⟩
    | false=>
      rw [e,hb] at h
      cases c <;> simp [fe,kindOk] at h
  | lit u=>
    have e:cQ P A (.lit u) v=cond (oZ u v) u .av:=rfl
    cases hb:oZ u v with
    | true=>exact ⟨.av,by rw [e,hb]; rfl⟩
    | false=>
      rw [e,hb,cond_false] at h
      have h:oZ u .av=true:=h
      cases u <;> first | (simp [oZ] at h; done) | (rename_i f a b; cases f <;> cases a <;> cases b <;> simp [oZ] at h)
  | aJ t=>
    cases v with
    | gw=>exact ⟨.ts t .any 0 [] jP,rfl⟩
    | ts t' m n es acc=>
      cases m with
      | aJ f=>
        have e:cQ P A (.aJ t) (.ts t' (.aJ f) n es acc)=cond (Nat.beq t t') (ae P ah (.ts t .any n es acc)) .av:=rfl
        cases hb:Nat.beq t t' with
        | true=>exact ⟨.ts t .any n es acc,by rw [e,hb]; rfl⟩
        | false=>rw [e,hb] at h; simp [fe,kindOk] at h
      | _=>simp [cQ,fe,kindOk] at h
    | _=>simp [cQ,fe,kindOk] at h
  | arr t=>
    rcases OU h with rfl | ⟨b,n,m,N,es,acc,rfl,_,he⟩
    · exact ⟨.ts t .any 0 [] jP,rfl⟩
    · exact ⟨.ts t .any N es acc,he⟩
theorem Ml {P:Program} : ∀ {ds:List CD} {w w' : Nat→KV} {k:Nat},(∀ i,k≤i→w i=w' i)→z0 P ds w k=z0 P ds w' k
  | [],_,_,_,_=>rfl
  | t :: ts,w,w',k,h=>by
    rw [z0,z0,h k (Nat.le_refl _),Ml fun i hi=>h i (by omega)]
theorem OX {P:Program} {A:ak} : ∀ {ds:List CD} {vs:List KV} (k:Nat),cf ds (cR P A ds vs)=true→∃ w,cR P A ds vs=z0 P ds w k
  | [],vs,k,_=>⟨fun _=>.av,by cases vs <;> rfl⟩
  | d :: ds,[],k,h=>by simp [cR,cf] at h
  | d :: ds,v :: vs,k,h=>by
    simp only [cR,cf,Bool.and_eq_true] at h
    obtain ⟨w,hw⟩:=Xn h.1
    obtain ⟨w',hw'⟩:=OX (k+1) h.2
    refine ⟨fun i=>if i=k then w else w' i,?_⟩
    rw [cR,z0,hw,hw',if_pos rfl]
    rw [Ml (w:=w') (w':=fun i=>if i=k then w else w' i) fun i hi=>by rw [if_neg (by omega)]]
theorem aeK {P:Program} {A:ak} {d:VD} {v:KV} (h:pD d (n8 P A d v)=true):∃ w,n8 P A d v=YZ P d w:=by
  have rA:=qG h
  rcases qH h with ⟨cs,rfl,h1,h2,h3⟩ | ⟨h0,c,h1,h2,h3,h4,h5⟩
  · obtain ⟨w,hw⟩:=OX 0 h3
    refine ⟨w,?_⟩
    have:d.agg=true:=by
      rcases rA with ⟨_,_,q,_⟩ | ⟨q,_⟩
      · exact q
      · exact absurd h2 (q _)
    rw [h2,hw,YZ,this]
  · obtain ⟨w,hw⟩:=Xn h3
    refine ⟨fun _=>w,?_⟩
    have:d.agg=false:=by
      rcases rA with ⟨cs,q,_⟩ | ⟨_,q,_⟩
      · rw [h2] at q; exact absurd q (h5 _)
      · exact q
    rw [h2,hw,YZ,this,h1]; rfl
theorem IM {P:Program} : ∀ {ps:List (Tmp×VD)} {w w' : Nat→Nat→KV} {k:Nat},(∀ i,k≤i→w i=w' i)→n9 P ps w k=n9 P ps w' k
  | [],_,_,_,_=>rfl
  | t :: ts,w,w',k,h=>by
    rw [n9,n9,h k (Nat.le_refl _),IM fun i hi=>h i (by omega)]
theorem Ux {P:Program} {t:bd} {A:ak} : ∀ {ps:List (Tmp×VD)} (k:Nat),ff ps (kz P t A ps)=true→∃ w,kz P t A ps=n9 P ps w k
  | [],k,_=>⟨fun _ _=>.av,rfl⟩
  | p :: ps,k,h=>by
    simp only [kz,ff,Bool.and_eq_true] at h
    obtain ⟨w,hw⟩:=aeK h.1
    obtain ⟨w',hw'⟩:=Ux (k+1) h.2
    refine ⟨fun i=>if i=k then w else w' i,?_⟩
    rw [kz,n9,hw,hw',if_pos rfl]
    rw [IM (w:=w') (w':=fun i=>if i=k then w else w' i) fun i hi=>by rw [if_neg (by omega)]]
theorem IP {P:Program} : ∀ {ps:List (Tmp×List CD×Nat)} {w w' : Nat→Nat→KV} {k:Nat},(∀ i,k≤i→w i=w' i)→oa P ps w k=oa P ps w' k
  | [],_,_,_,_=>rfl
  | t :: ts,w,w',k,h=>by
    rw [oa,oa,h k (Nat.le_refl _),IP fun i hi=>h i (by omega)]
theorem Uy {P:Program} : ∀ {ps:List (Tmp×List CD×Nat)} {rs:List (List KV)} (k:Nat),rs.length=ps.length→(∀ (i:Nat) p r,ps[i]? = some p→rs[i]? = some r→cf p.2.1 r=true)→
    (∀ (i:Nat) p,ps[i]? = some p→∃ A ie,rs[i]? = some (cR P A p.2.1 ie)∧ie.length=p.2.1.length)→∃ w,rs=oa P ps w k
  | [],[],k,_,_,_=>⟨fun _ _=>.av,rfl⟩
  | [],_ :: _,_,h,_,_=>by simp at h
  | _ :: _,[],_,h,_,_=>by simp at h
  | p :: ps,r :: rs,k,hl,hg,hn=>by
    obtain ⟨A,ie,h1,_⟩:=hn 0 p rfl
    simp only [List.getElem?_cons_zero,Option.some.injEq] at h1
    have h2:=hg 0 p r rfl rfl
    rw [h1] at h2
    obtain ⟨w,hw⟩:=OX 0 h2
    obtain ⟨w',hw'⟩:=Uy (ps:=ps) (rs:=rs) (k+1) (by simpa using hl) (fun i p r a b=>hg (i+1) p r (by simpa using a) (by simpa using b)) fun i p a=>by simpa using hn (i+1) p (by simpa using a)
    refine ⟨fun i=>if i=k then w else w' i,?_⟩
    rw [oa,h1,hw,if_pos rfl]
    congr 1
    rw [hw']
    exact IP fun i hi=>by rw [if_neg (by omega)]
theorem Md.form {P:Program} {S:ba} {vs:List KV} {rs:List (List KV)} (h:Md P S vs rs):∃ wv wr,vs=n9 P S.eC wv 0∧rs=oa P S.rows wr 0:=by
  obtain ⟨t,A,ht⟩:=h.vn
  have hv:=h.v
  rw [ht] at hv
  obtain ⟨wv,hwv⟩:=Ux 0 hv
  obtain ⟨wr,hwr⟩:=Uy 0 h.wj h.sn h.rn
  exact ⟨wv,wr,by rw [ht,hwv],hwr⟩
inductive bK (X:Type) where
  | fail
  | next (x:X)
  | out (e:au) (x:X)
def bK.enc {X:Type} (ev:X→List KV) (er:X→List (List KV)):bK X→Option (au×List KV×List (List KV))
  | .fail=>.none
  | .next x=>some (.normal,ev x,er x)
  | .out e x=>some (e,ev x,er x)
theorem bK.ej {X:Type} (ev:X→List KV) (er:X→List (List KV)) (c:Bool) (a b:bK X):bK.enc ev er (cond c a b)=cond c (bK.enc ev er a) (bK.enc ev er b):=by cases c <;> rfl
def bK.go {X:Type} (step:X→bK X):Nat→X→bK X
  | 0,_=>.fail
  | n+1,x=>match step x with
    | .fail=>.fail
    | .next x=>bK.go step n x
    | .out e x=>cond (u6 e) .fail (.out e x)
def u9:au→au→Bool
  | .normal,.normal=>true
  | .exit i,.exit j=>Nat.beq i j
  | .goto i,.goto j=>Nat.beq i j
  | .ret,.ret=>true
  | _,_=>false
theorem Y0 {a b:au} (h:u9 a b=true):a=b:=by
  cases a <;> cases b <;> simp [u9] at h <;> first | rfl | (subst h; rfl)
def bK.by {X:Type} (s:bK X) (e:au):Bool:=
  match s with
  | .out e' _=>u9 e' e
  | _=>false
def bK.st {X:Type} [Inhabited X] (s:bK X):X:=
  match s with
  | .out _ x=>x
  | _=>default
theorem aa8 {X:Type} {step:X→bK X} {ev:X→List KV} {er:X→List (List KV)} {rd:List KV→List (List KV)→Option (au×List KV×List (List KV))} (h:∀ x,rd (ev x) (er x)=bK.enc ev er (step x)) :
    ∀ (n:Nat) (x:X) (e:au) (y:X),bK.go step n x = .out e y→zV rd n (ev x) (er x)=some (e,ev y,er y)
  | 0,x,e,y,hg=>by simp [bK.go] at hg
  | n+1,x,e,y,hg=>by
    simp only [bK.go] at hg
    have hx:=h x
    cases hs:step x with
    | fail=>rw [hs] at hg; simp at hg
    | next x'=>
      rw [hs] at hg hx
      simp only [zV,hx,bK.enc,u6,cond_true]
      exact aa8 h n x' e y hg
    | out e' x'=>
      rw [hs] at hg hx
      simp only at hg
      cases hn:u6 e' with
      | true=>rw [hn] at hg; simp at hg
      | false=>
        rw [hn,cond_false] at hg
        simp only [bK.out.injEq] at hg
        obtain ⟨rfl,rfl⟩:=hg
        simp only [zV,hx,bK.enc,hn,cond_false]
def fg {X:Type} [Inhabited X] (ev:X→List KV) (er:X→List (List KV)) (s:bK X):List au→yh
  | []=>.no
  | e :: es=>.br (s.by e) (.out e (ev s.st) (er s.st)) (fg ev er s es)
theorem Uz {X:Type} [Inhabited X] {ev:X→List KV} {er:X→List (List KV)} {s:bK X} : ∀ {es:List au} {e:au} {vs:List KV} {rs:List (List KV)},(fg ev er s es).ev=some (e,vs,rs)→∃ x,s = .out e x∧vs=ev x∧rs=er x
  | [],e,vs,rs,h=>by simp [fg,yh.ev] at h
  | e' :: es,e,vs,rs,h=>by
    simp only [fg,yh.ev] at h
    cases hb:s.by e' with
    | false=>rw [hb] at h; exact Uz h
    | true=>
      rw [hb,cond_true] at h
      simp only [Option.some.injEq,Prod.mk.injEq] at h
      obtain ⟨rfl,rfl,rfl⟩:=h
      cases s with
      | out e0 x=>
        have:=Y0 (show u9 e0 e' = true from hb)
        subst this
        exact ⟨x,rfl,rfl,rfl⟩
      | fail=>simp [bK.by] at hb
      | next x=>simp [bK.by] at hb
def o4:Nat:=1000000000000
def goN {X:Type} (step:X→bK X) (x:X):bK X:=bK.go step o4 x
theorem agA {P:Program} {l:Lp} {X:Type} [Inhabited X] {cfg:c9} {L n:Nat} (gX:qE P cfg.pc) (nF:zS P cfg) {step:X→bK X} {ev:X→List KV} {er:X→List (List KV)} {es:List au} {pa:List KV→List (List KV)→X}
    (hF:∀ vs rs,l.F vs rs=fg ev er (goN step (pa vs rs)) es) (hX:∀ wv wr,ev (pa (n9 P l.S.eC wv 0) (oa P l.S.rows wr 0))=n9 P l.S.eC wv 0∧er (pa (n9 P l.S.eC wv 0) (oa P l.S.rows wr 0))=oa P l.S.rows wr 0)
    (hJ:∀ x,eR P cfg L n l.f l.p (fp P l.f l.p) l.S (ev x) (er x)=bK.enc ev er (step x)):l.Ok P:=
  ⟨cfg,L,n,gX,nF,fun vs rs e bN wi bH jg=>by
    obtain ⟨wv,wr,rfl,rfl⟩:=bH.form
    obtain ⟨h1,h2⟩:=hX wv wr
    rw [hF] at jg
    obtain ⟨y,hy,rfl,rfl⟩:=Uz jg
    have:=aa8 hJ o4 _ e y hy
    rw [h1,h2] at this
    exact ⟨o4,this⟩⟩
theorem YR {P:Program} {akK:List KV} (h:j4 P [] akK=true):akK = []:=by
  cases akK with
  | nil=>rfl
  | cons a akK=>simp [j4] at h
end Go.K
end
section
namespace Go.K
open Go Go.aV
variable {P:Program} {E:Env}
theorem b7.below {base:Nat} {ρ:aw} {B:St} {w w' : World} (hs:fU ρ B base w) (h:RowKit.Below w.heap.size w w'):b7 base ρ B w ρ B w':=by
  refine ⟨⟨.po (fun b o hg hd=>?_) hs.rel.apart hs.rel.aW,hs.eS,Nat.le_trans hs.size h.size,hs.jO⟩,fun _ _=>rfl,⟨h.os,h.tape,h.output,h.size,fun k hk _=>h.block k hk⟩,Nat.le_refl _,Nat.le_refl _,fun _ _ _=>rfl,fun _ _ hk=>hk⟩
  obtain ⟨l,e,ok⟩:=hs.rel.obj hg hd
  exact ⟨l,e,ok.eU (aw.le_refl _) (h.block _ (ok.lt hd)) h.size⟩
theorem aa9 {g:FuncId} {F:List KV→KR KV} (hc:xG P g)
    (h:∀ args v (E:Env) (A:ak) (B:St) (ρ:aw) (base:Nat) (w:World) (cD:List Value),aE (F (normArgs P (aC P g) args)) v→args.length=(aC P g).length→xq P E ρ args cD→KJ P E A B ρ base w→
      Calls P g cD.toArray w fun e w'=>∃ v',e = .returned v'∧VC P E ρ v v'∧RowKit.Below w.heap.size w w'):bD P g F:=
  fun args v hF hlen=>⟨hc,fun E A B ρ base w cD hv hj=>(h args v E A B ρ base w cD hF hlen hv hj).mono fun _ _ ⟨v',h1,h2,h3⟩=>
    ⟨v',E,B,ρ,h1,h2,hj.k,b7.below hj.s h3,Env.le_refl _,Nat.le_refl _,fun _ _ _ _=>rfl,fun _ _ h=>.inl h,fun _ _ h=>.inl h,fun _ _ h=>.inl ⟨_,h⟩,fun _ _ _ _=>rfl,fun _ h=>.inl h,fun _ h=>.inl h,fun _ _ h=>.inl h,fun _ h=>.inl h,fun _ _ cs _ _ _ h=>⟨cs,h,rfl⟩⟩⟩
theorem Y1 {g:FuncId} (hP:P.funcs.toList.all jW=true) (hm:P.follows .mixedOrders=true) {L n:Nat} (hp:aC P g = []) (h:AQ (ES P N9 L n g [] St.empty)=true) (hy:Nat.blt g yB=true:=by rfl):bD P g fun _=>.ok (.bool true):=by
  have dC:xG P g:=by
    unfold AQ at h
    split at h
    · rename_i b B hc
      exact ⟨hy,(yU (LA P) hP hm L n _ _ _ _ _ hc).1 hy⟩
    · simp at h
  refine aa9 dC fun args v E A B ρ base w cD hF hlen hv hj=>?_
  rw [hp] at hlen
  have:args = []:=List.length_eq_zero_iff.1 (by simpa using hlen)
  subst this
  obtain ⟨m,h1,h2⟩:=hv
  rw [h1.bh] at h2
  rw [h2.bh]
  have hF:KV.bool true=v:=hF
  subst hF
  exact (aab (LA P) hP hm h w hy).mono fun _ _ ⟨h1,h2⟩=>⟨_,h1,⟨_,.l8,by simp [VR]⟩,h2⟩
end Go.K
end
section
namespace Go.K
open Go Go.aV
structure Sl (α:Type) where
  n:Nat
  get:Nat→α
instance {α:Type} [Inhabited α] : Inhabited (Sl α):=⟨⟨0,fun _=>default⟩⟩
def fQ {α:Type} (T:TypeId) (k:α→KV) (s:Sl α):KV:=.ts T .any s.n ((List.range s.n).map fun i=>k (s.get i)) (fun i=>k (s.get i))
def gg {α:Type} (p:KV→α) (n:Nat) (acc:Nat→KV):Sl α:=⟨n,fun i=>p (acc i)⟩
def gh {α:Type} (p:KV→α) (v:KV):Sl α:=gg p (lenOf v) (afO v)
def kI (k:IntKind) (n:Int):KV:=.int k n
def kB (b:Bool):KV:=.bool b
abbrev aH (n:Int):Int:=IntKind.wrap .i64 n
def Sl.push {α:Type} [Inhabited α] (s:Sl α) (v:α):Sl α:=⟨s.n+1,fun i=>cond (Nat.blt i s.n) (s.get i) (cond (Nat.beq i s.n) v default)⟩
def Sl.join {α:Type} (s t:Sl α):Sl α:=⟨s.n+t.n,fun i=>cond (Nat.blt i s.n) (s.get i) (t.get (i - s.n))⟩
def Sl.lit {α:Type} [Inhabited α] (l:List α):Sl α:=⟨l.length,fun i=>l.getD i default⟩
theorem UA {α:Type} [Inhabited α] {p:KV→α} {k:α→KV} (h:∀ x,p (k x)=x) (hd:p .av=default) (l:List α):gg p l.length (l7 (l.map k))=Sl.lit l:=by
  unfold gg Sl.lit l7
  congr 1
  funext i
  rw [List.getD_eq_getElem?_getD,List.getD_eq_getElem?_getD,List.getElem?_map]
  cases l[i]? with
  | none=>exact hd
  | some x=>exact h x
theorem sB {α:Type} [Inhabited α] {p:KV→α} {k:α→KV} (h:∀ x,p (k x)=x) (hd:p .av=default) (s:Sl α) (v:α):gg p (s.n+1) (cM s.n (fun i=>k (s.get i)) (l7 [k v]))=s.push v:=by
  unfold gg Sl.push
  congr 1
  funext i
  unfold cM
  cases hb:Nat.blt i s.n with
  | true=>exact h _
  | false=>
    have hi:s.n≤i:=by
      cases Nat.lt_or_ge i s.n with
      | inl h=>rw [← Nat.blt_eq,hb] at h; simp at h
      | inr h=>exact h
    rw [cond_false,cond_false]
    cases hq:Nat.beq i s.n with
    | true=>
      have:=Nat.eq_of_beq_eq_true hq
      subst this
      rw [Nat.sub_self,cond_true]
      exact h v
    | false=>
      have bo:i≠s.n:=fun e=>by rw [e,Nat.beq_refl] at hq; simp at hq
      rw [cond_false]
      obtain ⟨j,hj⟩:∃ j,i - s.n=j+1:=⟨i - s.n - 1,by omega⟩
      rw [hj]
      exact hd
theorem Xo {α:Type} {p:KV→α} {k:α→KV} (h:∀ x,p (k x)=x) (s t:Sl α):gg p (s.n+t.n) (cM s.n (fun i=>k (s.get i)) (fun i=>k (t.get i)))=s.join t:=by
  unfold gg Sl.join
  congr 1
  funext i
  unfold cM
  cases Nat.blt i s.n <;> exact h _
def Sl.set {α:Type} (s:Sl α) (i:Nat) (v:α):Sl α:=⟨s.n,fun j=>cond (Nat.beq j i) v (s.get j)⟩
def Sl.Y2 {α:Type} (s:Sl α) (o k:Nat) (t:Sl α):Sl α:=⟨s.n,fun j=>cond (Nat.blt j o) (s.get j) (cond (Nat.blt j (o+k)) (t.get (j - o)) (s.get j))⟩
theorem aba {α:Type} {p:KV→α} {k:α→KV} (h:∀ x,p (k x)=x) (s:Sl α) (i:Nat) (v:α):gg p s.n (qS (fun j=>k (s.get j)) i (k v))=s.set i v:=by
  unfold gg Sl.set
  congr 1
  funext j
  unfold qS
  cases Nat.beq j i <;> exact h _
theorem UB {α:Type} {p:KV→α} {k:α→KV} (h:∀ x,p (k x)=x) (s t:Sl α) (o m:Nat):gg p s.n (gm o m (fun j=>k (s.get j)) (fun j=>k (t.get j)))=s.Y2 o m t:=by
  unfold gg Sl.Y2
  congr 1
  funext j
  unfold gm
  cases Nat.blt j o with
  | true=>exact h _
  | false=>cases Nat.blt j (o+m) <;> exact h _
theorem abb {α:Type} {p:KV→α} {k:α→KV} (h:∀ x,p (k x)=x) (m n n' : Nat) (acc db:Nat→KV):gg p m (cM n (fun i=>k ((gg p n' acc).get i)) db)=gg p m (cM n acc db):=by
  unfold gg
  congr 1
  funext i
  unfold cM
  cases Nat.blt i n with
  | true=>exact h _
  | false=>rfl
theorem agB {α:Type} {p:KV→α} {k:α→KV} (h:∀ x,p (k x)=x) (m n n' : Nat) (acc db:Nat→KV):gg p m (cM n acc (fun i=>k ((gg p n' db).get i)))=gg p m (cM n acc db):=by
  unfold gg
  congr 1
  funext i
  unfold cM
  cases Nat.blt i n with
  | true=>rfl
  | false=>exact h _
theorem agC {α:Type} {p:KV→α} {k:α→KV} (h:∀ x,p (k x)=x) (m n' i:Nat) (acc:Nat→KV) (v:KV):gg p m (qS (fun j=>k ((gg p n' acc).get j)) i v)=gg p m (qS acc i v):=by
  unfold gg
  congr 1
  funext j
  unfold qS
  cases Nat.beq j i with
  | true=>rfl
  | false=>exact h _
theorem agD {α:Type} {p:KV→α} {k:α→KV} (h:∀ x,p (k x)=x) (n n' o m:Nat) (acc db:Nat→KV):gg p n (gm o m (fun j=>k ((gg p n' acc).get j)) db)=gg p n (gm o m acc db):=by
  unfold gg
  congr 1
  funext j
  unfold gm
  cases Nat.blt j o with
  | true=>exact h _
  | false=>
    cases Nat.blt j (o+m) with
    | true=>rfl
    | false=>exact h _
theorem agE {α:Type} {p:KV→α} {k:α→KV} (h:∀ x,p (k x)=x) (n n' o m:Nat) (acc db:Nat→KV):gg p n (gm o m acc (fun j=>k ((gg p n' db).get j)))=gg p n (gm o m acc db):=by
  unfold gg
  congr 1
  funext j
  unfold gm
  cases Nat.blt j o with
  | true=>rfl
  | false=>
    cases Nat.blt j (o+m) with
    | true=>exact h _
    | false=>rfl
theorem abc (m n n' : Nat) (acc db:Nat→KV):gg (fun v=>intOf (v.cells.getD 0 .av)) m (cM n (fun i=>kI .i64 ((gg (fun v=>intOf (v.cells.getD 0 .av)) n' acc).get i)) db)=gg (fun v=>intOf (v.cells.getD 0 .av)) m (cM n acc db):=abb (k:=kI .i64) (fun _=>rfl) ..
theorem abd (m n n' : Nat) (acc db:Nat→KV):gg (fun v=>intOf (v.cells.getD 0 .av)) m (cM n acc (fun i=>kI .i64 ((gg (fun v=>intOf (v.cells.getD 0 .av)) n' db).get i)))=gg (fun v=>intOf (v.cells.getD 0 .av)) m (cM n acc db):=agB (k:=kI .i64) (fun _=>rfl) ..
theorem abe (m n' i:Nat) (acc:Nat→KV) (v:KV):gg (fun v=>intOf (v.cells.getD 0 .av)) m (qS (fun j=>kI .i64 ((gg (fun v=>intOf (v.cells.getD 0 .av)) n' acc).get j)) i v)=gg (fun v=>intOf (v.cells.getD 0 .av)) m (qS acc i v):=agC (k:=kI .i64) (fun _=>rfl) ..
theorem abf (n n' o m:Nat) (acc db:Nat→KV):gg (fun v=>intOf (v.cells.getD 0 .av)) n (gm o m (fun j=>kI .i64 ((gg (fun v=>intOf (v.cells.getD 0 .av)) n' acc).get j)) db)=gg (fun v=>intOf (v.cells.getD 0 .av)) n (gm o m acc db):=agD (k:=kI .i64) (fun _=>rfl) ..
theorem abg (n n' o m:Nat) (acc db:Nat→KV):gg (fun v=>intOf (v.cells.getD 0 .av)) n (gm o m acc (fun j=>kI .i64 ((gg (fun v=>intOf (v.cells.getD 0 .av)) n' db).get j)))=gg (fun v=>intOf (v.cells.getD 0 .av)) n (gm o m acc db):=agE (k:=kI .i64) (fun _=>rfl) ..
theorem abh (s:Sl Int) (i:Nat) (v:Int):s.set i v=gg (fun v=>intOf (v.cells.getD 0 .av)) s.n (qS (fun j=>kI .i64 (s.get j)) i (kI .i64 v)):=(aba (k:=kI .i64) (fun _=>rfl) s i v).symm
theorem Xp (s:Sl Bool) (i:Nat) (v:Bool):s.set i v=gg (fun v=>lZ (v.cells.getD 0 .av)) s.n (qS (fun j=>kB (s.get j)) i (kB v)):=(aba (k:=kB) (fun _=>rfl) s i v).symm
theorem UC (s t:Sl Int) (o m:Nat):s.Y2 o m t=gg (fun v=>intOf (v.cells.getD 0 .av)) s.n (gm o m (fun j=>kI .i64 (s.get j)) (fun j=>kI .i64 (t.get j))):=(UB (k:=kI .i64) (fun _=>rfl) s t o m).symm
theorem QT (s t:Sl Bool) (o m:Nat):s.Y2 o m t=gg (fun v=>lZ (v.cells.getD 0 .av)) s.n (gm o m (fun j=>kB (s.get j)) (fun j=>kB (t.get j))):=(UB (k:=kB) (fun _=>rfl) s t o m).symm
theorem Xq (s:Sl Int) (v:Int):s.push v=gg (fun v=>intOf (v.cells.getD 0 .av)) (s.n+1) (cM s.n (fun i=>kI .i64 (s.get i)) (l7 [kI .i64 v])):=(sB (fun _=>rfl) rfl s v).symm
theorem Xr (s t:Sl Int):s.join t=gg (fun v=>intOf (v.cells.getD 0 .av)) (s.n+t.n) (cM s.n (fun i=>kI .i64 (s.get i)) (fun i=>kI .i64 (t.get i))):=(Xo (fun _=>rfl) s t).symm
theorem F8 (l:List Int):Sl.lit l=gg (fun v=>intOf (v.cells.getD 0 .av)) l.length (l7 (l.map (kI .i64))):=(UA (fun _=>rfl) rfl l).symm
theorem Xs (l:List Bool):Sl.lit l=gg (fun v=>lZ (v.cells.getD 0 .av)) l.length (l7 (l.map kB)):=(UA (fun _=>rfl) rfl l).symm
theorem UD (s:Sl Bool) (v:Bool):s.push v=gg (fun v=>lZ (v.cells.getD 0 .av)) (s.n+1) (cM s.n (fun i=>kB (s.get i)) (l7 [kB v])):=(sB (fun _=>rfl) rfl s v).symm
theorem UE (s t:Sl Bool):s.join t=gg (fun v=>lZ (v.cells.getD 0 .av)) (s.n+t.n) (cM s.n (fun i=>kB (s.get i)) (fun i=>kB (t.get i))):=(Xo (fun _=>rfl) s t).symm
theorem bu {α β:Type} (f:α→β) (c:Bool) (a b:Option α):Option.map f (cond c a b)=cond c (Option.map f a) (Option.map f b):=by cases c <;> rfl
def ai (P:Program) (ps:List (Nat×(List KV→KR KV))):Prop:=∀ p ∈ ps,bD P p.1 p.2
theorem ai.nil {P:Program} : ai P []:=fun p hp=>by simp at hp
theorem ai.cons {P:Program} {g:Nat} {F:List KV→KR KV} {ps:List (Nat×(List KV→KR KV))} (h:bD P g F) (t:ai P ps):ai P ((g,F) :: ps):=fun p hp=>by
  rcases List.mem_cons.1 hp with rfl | hp
  · exact h
  · exact t p hp
theorem ai.append {P:Program} {ps qs:List (Nat×(List KV→KR KV))} (h:ai P ps) (t:ai P qs):ai P (ps ++ qs):=fun p hp=>(List.mem_append.1 hp).elim (h p) (t p)
theorem ai.pc {P:Program} {ps:List (Nat×(List KV→KR KV))} (h:ai P ps):qE P (Xm ps):=adY h
def ay (P:Program) (ls:List Lp):Prop:=∀ l ∈ ls,l.Ok P∧cB P l.f l.p=true
theorem ay.nil {P:Program} : ay P []:=fun p hp=>by simp at hp
theorem ay.cons {P:Program} {l:Lp} {ls:List Lp} (h:l.Ok P) (h' : cB P l.f l.p=true) (t:ay P ls):ay P (l :: ls):=fun p hp=>by
  rcases List.mem_cons.1 hp with rfl | hp
  · exact ⟨h,h'⟩
  · exact t p hp
noncomputable def bx (P:Program) (ps:List (Nat×(List KV→KR KV))) (ls:List Lp) (mt:TypeId→Bool:=fun _=>false) (fz:Bool:=false) (eg:Bool:=false):c9:=⟨Xm ps,Um P ls,⟨fun _=>.none,mt,fz,eg⟩⟩
noncomputable def bV {R:Type} [Inhabited R] (k:R→KV) (r:List KV→Option R):List KV→KR KV:=fun akK=>.il (r akK).isSome (k ((r akK).getD default))
theorem aR {P:Program} {R:Type} [Inhabited R] {k:R→KV} {r:List KV→Option R} {g:FuncId} (hP:P.funcs.toList.all jW=true) (hm:P.follows .mixedOrders=true) {ps:List (Nat×(List KV→KR KV))} {ls:List Lp} (gX:ai P ps) (nF:ay P ls) {L n:Nat} {mt:TypeId→Bool} {fz eg:Bool}
    (h:∀ w,cm P (bx P ps ls mt fz eg) L n g (bU P (aC P g) w 0)=(r (bU P (aC P g) w 0)).map k) (hy:Nat.blt g yB=true:=by rfl):bD P g (bQ P g (bV k r)):=
  agy (cfg:=bx P ps ls mt fz eg) hP hm gX.pc (YX hP hm T9.none nF) (hy:=hy) fun w v hv=>by
    obtain ⟨h1,h2⟩:=aE.il hv
    rw [h w]
    cases hr:r (bU P (aC P g) w 0) with
    | none=>rw [hr] at h1; simp at h1
    | some x=>rw [hr] at h2; rw [← h2]; rfl
theorem cN {P:Program} {l:Lp} {X:Type} [Inhabited X] (hP:P.funcs.toList.all jW=true) (hm:P.follows .mixedOrders=true) {ps:List (Nat×(List KV→KR KV))} {ls:List Lp} (gX:ai P ps) (nF:ay P ls) {L n:Nat} {mt:TypeId→Bool} {fz eg:Bool} {step:X→bK X} {ev:X→List KV} {er:X→List (List KV)} {es:List au} {pa:List KV→List (List KV)→X}
    (hF:l.F=fun vs rs=>fg ev er (goN step (pa vs rs)) es) (hX:∀ wv wr,ev (pa (n9 P l.S.eC wv 0) (oa P l.S.rows wr 0))=n9 P l.S.eC wv 0∧er (pa (n9 P l.S.eC wv 0) (oa P l.S.rows wr 0))=oa P l.S.rows wr 0)
    (hJ:∀ x,eR P (bx P ps ls mt fz eg) L n l.f l.p (fp P l.f l.p) l.S (ev x) (er x)=bK.enc ev er (step x)):l.Ok P:=
  agA (cfg:=bx P ps ls mt fz eg) gX.pc (YX hP hm T9.none nF) (fun _ _=>by rw [hF]) hX hJ
end Go.K
end
section
namespace Go.Proofs.Ytahhdndhkgbcjaa.b
open Go.K
theorem funcs:Try.prog.funcs.toList.all aV.jW=true:=by kernel_rfl
theorem mixed:Try.prog.follows .mixedOrders=true:=by kernel_rfl
end Go.Proofs.Ytahhdndhkgbcjaa.b
end
section
namespace Go.Proofs.Ytahhdndhkgbcjaa.b
open Go.K
set_option linter.unusedVariables false
set_option linter.unusedSimpArgs false
noncomputable section
def DH:List (Nat×(List KV→KR KV)):=[]
def DI:List Lp:=[]
theorem Mm:ai Try.prog DH:=ai.nil
theorem Mn:ay Try.prog DI:=ay.nil
def b6 (a:Int) (b:Int):Option (Int×Int):=
  (cond (decide (b < (1:Int)))
   (some ((0:Int),(2:Int)))
   (cond (!(decide (b=(0:Int))))
    (cond (!(decide (b=(0:Int))))
     (cond (decide ((Int.tmod a b) < (0:Int)))
      (some ((aH ((aH (Int.tdiv a b)) - (1:Int))),(0:Int)))
      (some ((aH (Int.tdiv a b)),(0:Int))))
     none)
    none))
theorem OY (a:Int) (b:Int):cm Try.prog (bx Try.prog DH DI (fun _=>false)) 9 9 99 [(kI .i64) a,(kI .i64) b] = (b6 a b).map (fun (r:Int×Int)=>KV.fI [(kI .i64) r.1,(kI .i64) r.2]):=by
  unfold b6
  try simp only [bu,Xq,Xr,F8,abc,abd,abe,abf,abg,UD,UE,Xs,abh,Xp,UC,QT]
  kernel_rfl
def mz:List KV→KR KV:=bQ Try.prog 99 (bV (fun (r:Int×Int)=>KV.fI [(kI .i64) r.1,(kI .i64) r.2]) fun vs=>b6 (intOf (vs.getD 0 .av)) (intOf (vs.getD 1 .av)))
theorem Mo (w:Nat→KV):bU Try.prog [3,3] w 0 = [(kI .i64) (intOf (ao Try.prog (ae Try.prog ah) 3 (w 0))),(kI .i64) (intOf (ao Try.prog (ae Try.prog ah) 3 (w 1)))]:=by kernel_rfl
theorem ll:bD Try.prog 99 mz:=aR funcs mixed Mm Mn (L:=9) (n:=9) fun w=>by
  have e:aC Try.prog 99 = [3,3]:=by kernel_rfl
  rw [e,Mo]
  exact (OY (intOf (ao Try.prog (ae Try.prog ah) 3 (w 0))) (intOf (ao Try.prog (ae Try.prog ah) 3 (w 1)))).trans (by kernel_rfl)
def F9:List (Nat×(List KV→KR KV)):=[]
def Ga:List Lp:=[]
theorem OZ:ai Try.prog F9:=ai.nil
theorem O0:ay Try.prog Ga:=ay.nil
def ka (a:Int) (b:Int):Option (Int×Int):=
  (cond (decide (b < (1:Int)))
   (some ((0:Int),(2:Int)))
   (cond (!(decide (b=(0:Int))))
    (cond (!(decide (b=(0:Int))))
     (cond (decide ((Int.tmod a b) > (0:Int)))
      (some ((aH ((aH (Int.tdiv a b))+(1:Int))),(0:Int)))
      (some ((aH (Int.tdiv a b)),(0:Int))))
     none)
    none))
theorem Rf (a:Int) (b:Int):cm Try.prog (bx Try.prog F9 Ga (fun _=>false)) 9 9 116 [(kI .i64) a,(kI .i64) b] = (ka a b).map (fun (r:Int×Int)=>KV.fI [(kI .i64) r.1,(kI .i64) r.2]):=by
  unfold ka
  try simp only [bu,Xq,Xr,F8,abc,abd,abe,abf,abg,UD,UE,Xs,abh,Xp,UC,QT]
  kernel_rfl
def IQ:List KV→KR KV:=bQ Try.prog 116 (bV (fun (r:Int×Int)=>KV.fI [(kI .i64) r.1,(kI .i64) r.2]) fun vs=>ka (intOf (vs.getD 0 .av)) (intOf (vs.getD 1 .av)))
theorem O1 (w:Nat→KV):bU Try.prog [3,3] w 0 = [(kI .i64) (intOf (ao Try.prog (ae Try.prog ah) 3 (w 0))),(kI .i64) (intOf (ao Try.prog (ae Try.prog ah) 3 (w 1)))]:=by kernel_rfl
theorem O2:bD Try.prog 116 IQ:=aR funcs mixed OZ O0 (L:=9) (n:=9) fun w=>by
  have e:aC Try.prog 116 = [3,3]:=by kernel_rfl
  rw [e,O1]
  exact (Rf (intOf (ao Try.prog (ae Try.prog ah) 3 (w 0))) (intOf (ao Try.prog (ae Try.prog ah) 3 (w 1)))).trans (by kernel_rfl)
structure ct where
  x:Int
  y:Int
  z:Int
instance:Inhabited ct:=⟨⟨default,default,default⟩⟩
def akD (x:ct):List KV:=[.int .i64 x.x,.int .i64 x.y,.int .i64 x.z]
def qI (x:ct):KV:=.agg (akD x)
def akE (c:Nat→KV):ct:=⟨intOf (c 0),intOf (c 1),intOf (c 2)⟩
def sC (v:KV):ct:=akE fun k=>v.cells.getD k .av
structure bg where
  p:ct
  u:Int
  v:Int
instance:Inhabited bg:=⟨⟨default,default,default⟩⟩
def ahZ (x:bg):List KV:=[.int .i64 x.p.x,.int .i64 x.p.y,.int .i64 x.p.z,.int .i64 x.u,.int .i64 x.v]
def iM (x:bg):KV:=.agg (ahZ x)
def ah0 (c:Nat→KV):bg:=⟨⟨intOf (c 0),intOf (c 1),intOf (c 2)⟩,intOf (c 3),intOf (c 4)⟩
def fq (v:KV):bg:=ah0 fun k=>v.cells.getD k .av
theorem O3 (x:bg):fq (iM x)=x:=rfl
theorem Xt:fq .av=default:=rfl
theorem abi (s:Sl bg) (v:bg):s.push v=gg fq (s.n+1) (cM s.n (fun i=>iM (s.get i)) (l7 [iM v])):=(sB O3 Xt s v).symm
theorem acJ (l:List bg):Sl.lit l=gg fq l.length (l7 (l.map iM)):=(UA O3 Xt l).symm
theorem acK (m n n' : Nat) (acc db:Nat→KV):gg fq m (cM n (fun i=>iM ((gg fq n' acc).get i)) db)=gg fq m (cM n acc db):=abb O3 ..
def Gb:List (Nat×(List KV→KR KV)):=[]
def Gc:List Lp:=[]
theorem O4:ai Try.prog Gb:=ai.nil
theorem O5:ay Try.prog Gc:=ay.nil
def gA (p:bg):Option (Int):=
  (cond (decide (p.p.x < (-(32768:Int))))
   (some ((8:Int)))
   (cond (decide (p.p.x > (32768:Int)))
    (some ((8:Int)))
    (cond (decide (p.p.y < (-(32768:Int))))
     (some ((8:Int)))
     (cond (decide (p.p.y > (32768:Int)))
      (some ((8:Int)))
      (cond (decide (p.p.z < (-(32768:Int))))
       (some ((8:Int)))
       (cond (decide (p.p.z > (32768:Int)))
        (some ((8:Int)))
        (cond (decide (p.u < (0:Int)))
         (some ((8:Int)))
         (cond (decide (p.u > (255:Int)))
          (some ((8:Int)))
          (cond (decide (p.v < (0:Int)))
           (some ((8:Int)))
           (cond (decide (p.v > (255:Int)))
            (some ((8:Int)))
            (some ((0:Int)))))))))))))
theorem Rg (p:bg):cm Try.prog (bx Try.prog Gb Gc (fun _=>false)) 9 9 130 [iM p] = (gA p).map (kI .i64):=by
  unfold gA
  try simp only [bu]
  kernel_rfl
def lL:List KV→KR KV:=bQ Try.prog 130 (bV (kI .i64) fun vs=>gA (fq (vs.getD 0 .av)))
theorem O6 (w:Nat→KV):bU Try.prog [180] w 0 = [iM (fq (ao Try.prog (ae Try.prog ah) 180 (w 0)))]:=by kernel_rfl
theorem ke:bD Try.prog 130 lL:=aR funcs mixed O4 O5 (L:=9) (n:=9) fun w=>by
  have e:aC Try.prog 130 = [180]:=by kernel_rfl
  rw [e,O6]
  exact (Rg (fq (ao Try.prog (ae Try.prog ah) 180 (w 0)))).trans (by kernel_rfl)
structure dk where
  low:Int
  high:Int
  t6:Bool
  t9:(Sl Int)
  t10:Int
  t11:Int
instance:Inhabited dk:=⟨⟨default,default,default,default,default,default⟩⟩
def m8 (x:dk):List KV:=[.int .i64 x.low,.int .i64 x.high,.bool x.t6,fQ 3 (kI .i64) x.t9,.int .i64 x.t10,.int .i64 x.t11]
def m9 (x:dk):List (List KV):=[]
def yk (vs:List KV) (rs:List (List KV)):dk:=⟨intOf (vs.getD 0 .av),intOf (vs.getD 1 .av),lZ (vs.getD 2 .av),gh intOf (vs.getD 3 .av),intOf (vs.getD 4 .av),intOf (vs.getD 5 .av)⟩
def y8:ba:=⟨[(0,⟨false,[.k (.int .i64)]⟩),(1,⟨false,[.k (.int .i64)]⟩),(6,⟨false,[.k .bool]⟩),(9,⟨false,[.k (.slice 3)]⟩),(10,⟨false,[.k (.int .i64)]⟩),(11,⟨false,[.k (.int .i64)]⟩)],[],[]⟩
def J5:=eR Try.prog (bx Try.prog [] [] (fun _=>false)) 9 9 143 26 (fp Try.prog 143 26) y8
def fD (x:dk):bK dk:=
  (cond (decide (x.t11 < x.t10))
   (cond ((decide ((0:Int)≤x.t11)) && (decide (x.t11 < ((x.t9.n:Nat):Int))))
    (cond (decide ((x.t9.get (Int.toNat x.t11)) < x.low))
     (.out aV.au.ret (⟨x.low,x.high,false,x.t9,x.t10,x.t11⟩:dk))
     (cond (decide ((x.t9.get (Int.toNat x.t11)) > x.high))
      (.out aV.au.ret (⟨x.low,x.high,false,x.t9,x.t10,x.t11⟩:dk))
      (.next (⟨x.low,x.high,x.t6,x.t9,x.t10,(aH (x.t11+(1:Int)))⟩:dk))))
    .fail)
   (.out (aV.au.exit 0) x))
theorem Ge (x:dk):J5 (m8 x) (m9 x)=bK.enc m8 m9 (fD x):=by
  unfold fD
  try simp only [bK.ej]
  kernel_rfl
def od:Lp:=⟨143,26,y8,fun vs rs=>fg m8 m9 (goN fD (yk vs rs)) [aV.au.exit 0,aV.au.ret]⟩
theorem J6:od.Ok Try.prog:=cN funcs mixed ai.nil ay.nil (L:=9) (n:=9) (step:=fD) (ev:=m8) (er:=m9) (pa:=yk) rfl (fun wv wr=>⟨by kernel_rfl,by kernel_rfl⟩) Ge
theorem Ex:cB Try.prog od.f od.p=true:=by kernel_rfl
def DJ:List (Nat×(List KV→KR KV)):=[]
def DK:List Lp:=[od]
theorem Mp:ai Try.prog DJ:=ai.nil
theorem Mq:ay Try.prog DK:=(ay.cons J6 Ex ay.nil)
def pG (low:Int) (high:Int) (l:(Sl Int)):(bK dk):=(goN fD (⟨low,high,false,l,((l.n:Nat):Int),(0:Int)⟩:dk))
def jv (low:Int) (high:Int) (l:(Sl Int)):Option (Bool):=
  (cond ((pG low high l).by (aV.au.exit 0))
   (some (true))
   (cond ((pG low high l).by aV.au.ret)
    (some ((pG low high l).st.t6))
    none))
theorem O7 (low:Int) (high:Int) (l:(Sl Int)):cm Try.prog (bx Try.prog DJ DK (fun _=>false)) 9 9 143 [(kI .i64) low,(kI .i64) high,(fQ 3 (kI .i64)) l] = (jv low high l).map kB:=by
  unfold jv
  try simp only [bu]
  kernel_rfl
def Gf:List KV→KR KV:=bQ Try.prog 143 (bV kB fun vs=>jv (intOf (vs.getD 0 .av)) (intOf (vs.getD 1 .av)) ((gh intOf) (vs.getD 2 .av)))
theorem Mr (w:Nat→KV):bU Try.prog [3,3,26] w 0 = [(kI .i64) (intOf (ao Try.prog (ae Try.prog ah) 3 (w 0))),(kI .i64) (intOf (ao Try.prog (ae Try.prog ah) 3 (w 1))),(fQ 3 (kI .i64)) ((gh intOf) (ao Try.prog (ae Try.prog ah) 26 (w 2)))]:=by kernel_rfl
theorem Ms:bD Try.prog 143 Gf:=aR funcs mixed Mp Mq (L:=9) (n:=9) fun w=>by
  have e:aC Try.prog 143 = [3,3,26]:=by kernel_rfl
  rw [e,Mr]
  exact (O7 (intOf (ao Try.prog (ae Try.prog ah) 3 (w 0))) (intOf (ao Try.prog (ae Try.prog ah) 3 (w 1))) ((gh intOf) (ao Try.prog (ae Try.prog ah) 26 (w 2)))).trans (by kernel_rfl)
structure cr where
  x:Int
  y:Int
  d:Int
  u:Int
  v:Int
instance:Inhabited cr:=⟨⟨default,default,default,default,default⟩⟩
def ajh (x:cr):List KV:=[.int .i64 x.x,.int .i64 x.y,.int .i64 x.d,.int .i64 x.u,.int .i64 x.v]
def O8 (x:cr):KV:=.agg (ajh x)
def aji (c:Nat→KV):cr:=⟨intOf (c 0),intOf (c 1),intOf (c 2),intOf (c 3),intOf (c 4)⟩
def acL (v:KV):cr:=aji fun k=>v.cells.getD k .av
def Gg:List (Nat×(List KV→KR KV)):=[(143,Gf)]
def Gh:List Lp:=[]
theorem O9:ai Try.prog Gg:=(ai.cons Ms ai.nil)
theorem Pa:ay Try.prog Gh:=ay.nil
def qX (s:cr):(Option Bool):=(jv (-(131072:Int)) (131072:Int) (Sl.lit [s.x,s.y]))
def qY (s:cr):(Option Bool):=(jv (1:Int) (65536:Int) (Sl.lit [s.d]))
def qZ (s:cr):(Option Bool):=(jv (0:Int) (255:Int) (Sl.lit [s.u,s.v]))
def kb (s:cr):Option (Int):=
  (cond (qX s).isSome
   (cond (!((qX s).getD default))
    (some ((8:Int)))
    (cond (qY s).isSome
     (cond (!((qY s).getD default))
      (some ((8:Int)))
      (cond (qZ s).isSome
       (cond (!((qZ s).getD default))
        (some ((8:Int)))
        (some ((0:Int))))
       none))
     none))
   none)
theorem Rh (s:cr):cm Try.prog (bx Try.prog Gg Gh (fun _=>false)) 9 9 131 [O8 s] = (kb s).map (kI .i64):=by
  unfold kb
  try simp only [bu,qX,qY,qZ,F8]
  kernel_rfl
def IU:List KV→KR KV:=bQ Try.prog 131 (bV (kI .i64) fun vs=>kb (acL (vs.getD 0 .av)))
theorem Pb (w:Nat→KV):bU Try.prog [117] w 0 = [O8 (acL (ao Try.prog (ae Try.prog ah) 117 (w 0)))]:=by kernel_rfl
theorem Pc:bD Try.prog 131 IU:=aR funcs mixed O9 Pa (L:=9) (n:=9) fun w=>by
  have e:aC Try.prog 131 = [117]:=by kernel_rfl
  rw [e,Pb]
  exact (Rh (acL (ao Try.prog (ae Try.prog ah) 117 (w 0)))).trans (by kernel_rfl)
structure aF where
  e0:cr
  e1:cr
  e2:cr
instance:Inhabited aF:=⟨⟨default,default,default⟩⟩
def aeL (x:aF):List KV:=[.int .i64 x.e0.x,.int .i64 x.e0.y,.int .i64 x.e0.d,.int .i64 x.e0.u,.int .i64 x.e0.v,.int .i64 x.e1.x,.int .i64 x.e1.y,.int .i64 x.e1.d,.int .i64 x.e1.u,.int .i64 x.e1.v,.int .i64 x.e2.x,.int .i64 x.e2.y,.int .i64 x.e2.d,.int .i64 x.e2.u,.int .i64 x.e2.v]
def c8 (x:aF):KV:=.agg (aeL x)
def aeM (c:Nat→KV):aF:=⟨⟨intOf (c 0),intOf (c 1),intOf (c 2),intOf (c 3),intOf (c 4)⟩,⟨intOf (c 5),intOf (c 6),intOf (c 7),intOf (c 8),intOf (c 9)⟩,⟨intOf (c 10),intOf (c 11),intOf (c 12),intOf (c 13),intOf (c 14)⟩⟩
def cK (v:KV):aF:=aeM fun k=>v.cells.getD k .av
theorem abj (x:aF):cK (c8 x)=x:=rfl
theorem abk:cK .av=default:=rfl
theorem Wg (s:Sl aF) (v:aF):s.push v=gg cK (s.n+1) (cM s.n (fun i=>c8 (s.get i)) (l7 [c8 v])):=(sB abj abk s v).symm
def IV:List (Nat×(List KV→KR KV)):=[(131,IU)]
def IW:List Lp:=[]
theorem Ri:ai Try.prog IV:=(ai.cons Pc ai.nil)
theorem Rj:ay Try.prog IW:=ay.nil
def tz (t:aF):(Option Int):=(kb t.e0)
def tA (t:aF):(Option Int):=(kb t.e1)
def tB (t:aF):(Option Int):=(kb t.e2)
def ji (t:aF):Option (Int×Int):=
  (cond (tz t).isSome
   (cond (((tz t).getD default) != (0:Int))
    (some ((0:Int),((tz t).getD default)))
    (cond (tA t).isSome
     (cond (((tA t).getD default) != (0:Int))
      (some ((0:Int),((tA t).getD default)))
      (cond (tB t).isSome
       (cond (((tB t).getD default) != (0:Int))
        (some ((0:Int),((tB t).getD default)))
        (some ((aH ((aH ((aH (t.e1.x - t.e0.x)) * (aH (t.e2.y - t.e0.y)))) - (aH ((aH (t.e2.x - t.e0.x)) * (aH (t.e1.y - t.e0.y)))))),(0:Int))))
       none))
     none))
   none)
theorem UF (t:aF):cm Try.prog (bx Try.prog IV IW (fun _=>false)) 9 9 115 [c8 t] = (ji t).map (fun (r:Int×Int)=>KV.fI [(kI .i64) r.1,(kI .i64) r.2]):=by
  unfold ji
  try simp only [bu]
  kernel_rfl
def xu:List KV→KR KV:=bQ Try.prog 115 (bV (fun (r:Int×Int)=>KV.fI [(kI .i64) r.1,(kI .i64) r.2]) fun vs=>ji (cK (vs.getD 0 .av)))
theorem Rl (w:Nat→KV):bU Try.prog [118] w 0 = [c8 (cK (ao Try.prog (ae Try.prog ah) 118 (w 0)))]:=by kernel_rfl
theorem wV:bD Try.prog 115 xu:=aR funcs mixed Ri Rj (L:=9) (n:=9) fun w=>by
  have e:aC Try.prog 115 = [118]:=by kernel_rfl
  rw [e,Rl]
  exact (UF (cK (ao Try.prog (ae Try.prog ah) 118 (w 0)))).trans (by kernel_rfl)
def Gi:List (Nat×(List KV→KR KV)):=[(115,xu)]
def Gj:List Lp:=[]
theorem Pd:ai Try.prog Gi:=(ai.cons wV ai.nil)
theorem Pe:ay Try.prog Gj:=ay.nil
def jK (t:aF) (uw:Int):(Option (Prod Int Int)):=(ji t)
def nQ (t:aF) (uw:Int):Option (Bool×Int):=
  (cond (jK t uw).isSome
   (cond (((jK t uw).getD default).snd != (0:Int))
    (some (false,((jK t uw).getD default).snd))
    (cond (uw == (0:Int))
     (some ((((jK t uw).getD default).fst != (0:Int)),(0:Int)))
     (cond (uw == (1:Int))
      (some ((decide (((jK t uw).getD default).fst > (0:Int))),(0:Int)))
      (cond (uw == (2:Int))
       (some ((decide (((jK t uw).getD default).fst < (0:Int))),(0:Int)))
       (some (false,(2:Int)))))))
   none)
theorem Rm (t:aF) (uw:Int):cm Try.prog (bx Try.prog Gi Gj (fun _=>false)) 9 9 113 [c8 t,(kI .u8) uw] = (nQ t uw).map (fun (r:Bool×Int)=>KV.fI [kB r.1,(kI .i64) r.2]):=by
  unfold nQ
  try simp only [bu]
  kernel_rfl
def Aa:List KV→KR KV:=bQ Try.prog 113 (bV (fun (r:Bool×Int)=>KV.fI [kB r.1,(kI .i64) r.2]) fun vs=>nQ (cK (vs.getD 0 .av)) (intOf (vs.getD 1 .av)))
theorem Pf (w:Nat→KV):bU Try.prog [118,5] w 0 = [c8 (cK (ao Try.prog (ae Try.prog ah) 118 (w 0))),(kI .u8) (intOf (ao Try.prog (ae Try.prog ah) 5 (w 1)))]:=by kernel_rfl
theorem BA:bD Try.prog 113 Aa:=aR funcs mixed Pd Pe (L:=9) (n:=9) fun w=>by
  have e:aC Try.prog 113 = [118,5]:=by kernel_rfl
  rw [e,Pf]
  exact (Rm (cK (ao Try.prog (ae Try.prog ah) 118 (w 0))) (intOf (ao Try.prog (ae Try.prog ah) 5 (w 1)))).trans (by kernel_rfl)
def Gk:List (Nat×(List KV→KR KV)):=[(115,xu)]
def Gl:List Lp:=[]
theorem Pg:ai Try.prog Gk:=(ai.cons wV ai.nil)
theorem Ph:ay Try.prog Gl:=ay.nil
def kV (t:aF):(Option (Prod Int Int)):=(ji t)
def nR (t:aF):Option (aF×Int):=
  (cond (kV t).isSome
   (cond (((kV t).getD default).snd != (0:Int))
    (some ((⟨(⟨(0:Int),(0:Int),(0:Int),(0:Int),(0:Int)⟩:cr),(⟨(0:Int),(0:Int),(0:Int),(0:Int),(0:Int)⟩:cr),(⟨(0:Int),(0:Int),(0:Int),(0:Int),(0:Int)⟩:cr)⟩:aF),((kV t).getD default).snd))
    (cond (((kV t).getD default).fst == (0:Int))
     (some ((⟨(⟨(0:Int),(0:Int),(0:Int),(0:Int),(0:Int)⟩:cr),(⟨(0:Int),(0:Int),(0:Int),(0:Int),(0:Int)⟩:cr),(⟨(0:Int),(0:Int),(0:Int),(0:Int),(0:Int)⟩:cr)⟩:aF),(6:Int)))
     (cond (decide (((kV t).getD default).fst < (0:Int)))
      (some ((⟨t.e0,t.e2,t.e1⟩:aF),(0:Int)))
      (some (t,(0:Int))))))
   none)
theorem Rn (t:aF):cm Try.prog (bx Try.prog Gk Gl (fun _=>false)) 9 9 114 [c8 t] = (nR t).map (fun (r:aF×Int)=>KV.fI [c8 r.1,(kI .i64) r.2]):=by
  unfold nR
  try simp only [bu]
  kernel_rfl
def Ab:List KV→KR KV:=bQ Try.prog 114 (bV (fun (r:aF×Int)=>KV.fI [c8 r.1,(kI .i64) r.2]) fun vs=>nR (cK (vs.getD 0 .av)))
theorem Pj (w:Nat→KV):bU Try.prog [118] w 0 = [c8 (cK (ao Try.prog (ae Try.prog ah) 118 (w 0)))]:=by kernel_rfl
theorem BB:bD Try.prog 114 Ab:=aR funcs mixed Pg Ph (L:=9) (n:=9) fun w=>by
  have e:aC Try.prog 114 = [118]:=by kernel_rfl
  rw [e,Pj]
  exact (Rn (cK (ao Try.prog (ae Try.prog ah) 118 (w 0)))).trans (by kernel_rfl)
structure gI where
  iv:Int
  t4:Bool
  t7:(Sl Int)
  t8:Int
  t9:Int
instance:Inhabited gI:=⟨⟨default,default,default,default,default⟩⟩
def vE (x:gI):List KV:=[.int .i64 x.iv,.bool x.t4,fQ 3 (kI .i64) x.t7,.int .i64 x.t8,.int .i64 x.t9]
def vF (x:gI):List (List KV):=[]
def IX (vs:List KV) (rs:List (List KV)):gI:=⟨intOf (vs.getD 0 .av),lZ (vs.getD 1 .av),gh intOf (vs.getD 2 .av),intOf (vs.getD 3 .av),intOf (vs.getD 4 .av)⟩
def Mt:ba:=⟨[(0,⟨false,[.k (.int .i64)]⟩),(4,⟨false,[.k .bool]⟩),(7,⟨false,[.k (.slice 3)]⟩),(8,⟨false,[.k (.int .i64)]⟩),(9,⟨false,[.k (.int .i64)]⟩)],[],[]⟩
def Wh:=eR Try.prog (bx Try.prog [] [] (fun _=>false)) 9 9 124 26 (fp Try.prog 124 26) Mt
def jL (x:gI):bK gI:=
  (cond (decide (x.t9 < x.t8))
   (cond ((decide ((0:Int)≤x.t9)) && (decide (x.t9 < ((x.t7.n:Nat):Int))))
    (cond (decide ((x.t7.get (Int.toNat x.t9)) < (aH ((0:Int) - x.iv))))
     (.out aV.au.ret (⟨x.iv,false,x.t7,x.t8,x.t9⟩:gI))
     (cond (decide ((x.t7.get (Int.toNat x.t9)) > x.iv))
      (.out aV.au.ret (⟨x.iv,false,x.t7,x.t8,x.t9⟩:gI))
      (.next (⟨x.iv,x.t4,x.t7,x.t8,(aH (x.t9+(1:Int)))⟩:gI))))
    .fail)
   (.out (aV.au.exit 0) x))
theorem Ro (x:gI):Wh (vE x) (vF x)=bK.enc vE vF (jL x):=by
  unfold jL
  try simp only [bK.ej]
  kernel_rfl
def xv:Lp:=⟨124,26,Mt,fun vs rs=>fg vE vF (goN jL (IX vs rs)) [aV.au.exit 0,aV.au.ret]⟩
theorem Wi:xv.Ok Try.prog:=cN funcs mixed ai.nil ay.nil (L:=9) (n:=9) (step:=jL) (ev:=vE) (er:=vF) (pa:=IX) rfl (fun wv wr=>⟨by kernel_rfl,by kernel_rfl⟩) Ro
theorem Pk:cB Try.prog xv.f xv.p=true:=by kernel_rfl
def UG:List (Nat×(List KV→KR KV)):=[]
def UH:List Lp:=[xv]
theorem Y3:ai Try.prog UG:=ai.nil
theorem Y4:ay Try.prog UH:=(ay.cons Wi Pk ay.nil)
def y9 (iv:Int) (l:(Sl Int)):(bK gI):=(goN jL (⟨iv,false,l,((l.n:Nat):Int),(0:Int)⟩:gI))
def sD (iv:Int) (l:(Sl Int)):Option (Bool):=
  (cond ((y9 iv l).by (aV.au.exit 0))
   (some (true))
   (cond ((y9 iv l).by aV.au.ret)
    (some ((y9 iv l).st.t4))
    none))
theorem abl (iv:Int) (l:(Sl Int)):cm Try.prog (bx Try.prog UG UH (fun _=>false)) 9 9 124 [(kI .i64) iv,(fQ 3 (kI .i64)) l] = (sD iv l).map kB:=by
  unfold sD
  try simp only [bu]
  kernel_rfl
def Pl:List KV→KR KV:=bQ Try.prog 124 (bV kB fun vs=>sD (intOf (vs.getD 0 .av)) ((gh intOf) (vs.getD 1 .av)))
theorem Y5 (w:Nat→KV):bU Try.prog [3,26] w 0 = [(kI .i64) (intOf (ao Try.prog (ae Try.prog ah) 3 (w 0))),(fQ 3 (kI .i64)) ((gh intOf) (ao Try.prog (ae Try.prog ah) 26 (w 1)))]:=by kernel_rfl
theorem Mu:bD Try.prog 124 Pl:=aR funcs mixed Y3 Y4 (L:=9) (n:=9) fun w=>by
  have e:aC Try.prog 124 = [3,26]:=by kernel_rfl
  rw [e,Y5]
  exact (abl (intOf (ao Try.prog (ae Try.prog ah) 3 (w 0))) ((gh intOf) (ao Try.prog (ae Try.prog ah) 26 (w 1)))).trans (by kernel_rfl)
def IY:List (Nat×(List KV→KR KV)):=[(124,Pl)]
def IZ:List Lp:=[]
theorem Rp:ai Try.prog IY:=(ai.cons Mu ai.nil)
theorem Rq:ay Try.prog IZ:=ay.nil
def tC (v:ct):(Option Bool):=(sD (4096:Int) (Sl.lit [v.x,v.y,v.z]))
def j5 (v:ct):Option (Int):=
  (cond (tC v).isSome
   (cond (!((tC v).getD default))
    (some ((20:Int)))
    (some ((0:Int))))
   none)
theorem UI (v:ct):cm Try.prog (bx Try.prog IY IZ (fun _=>false)) 9 9 108 [qI v] = (j5 v).map (kI .i64):=by
  unfold j5
  try simp only [bu,tC,F8]
  kernel_rfl
def pH:List KV→KR KV:=bQ Try.prog 108 (bV (kI .i64) fun vs=>j5 (sC (vs.getD 0 .av)))
theorem Rr (w:Nat→KV):bU Try.prog [41] w 0 = [qI (sC (ao Try.prog (ae Try.prog ah) 41 (w 0)))]:=by kernel_rfl
theorem nG:bD Try.prog 108 pH:=aR funcs mixed Rp Rq (L:=9) (n:=9) fun w=>by
  have e:aC Try.prog 108 = [41]:=by kernel_rfl
  rw [e,Rr]
  exact (UI (sC (ao Try.prog (ae Try.prog ah) 41 (w 0)))).trans (by kernel_rfl)
def za:List (Nat×(List KV→KR KV)):=[]
def zb:List Lp:=[]
theorem HO:ai Try.prog za:=ai.nil
theorem HP:ay Try.prog zb:=ay.nil
def bL (n:Int) (low:Int) (high:Int):Option (Bool):=
  (cond (decide (n ≥ low))
   (some ((decide (n≤high))))
   (some (false)))
theorem J7 (n:Int) (low:Int) (high:Int):cm Try.prog (bx Try.prog za zb (fun _=>false)) 9 9 83 [(kI .i64) n,(kI .i64) low,(kI .i64) high] = (bL n low high).map kB:=by
  unfold bL
  try simp only [bu]
  kernel_rfl
def va:List KV→KR KV:=bQ Try.prog 83 (bV kB fun vs=>bL (intOf (vs.getD 0 .av)) (intOf (vs.getD 1 .av)) (intOf (vs.getD 2 .av)))
theorem HQ (w:Nat→KV):bU Try.prog [3,3,3] w 0 = [(kI .i64) (intOf (ao Try.prog (ae Try.prog ah) 3 (w 0))),(kI .i64) (intOf (ao Try.prog (ae Try.prog ah) 3 (w 1))),(kI .i64) (intOf (ao Try.prog (ae Try.prog ah) 3 (w 2)))]:=by kernel_rfl
theorem xa:bD Try.prog 83 va:=aR funcs mixed HO HP (L:=9) (n:=9) fun w=>by
  have e:aC Try.prog 83 = [3,3,3]:=by kernel_rfl
  rw [e,HQ]
  exact (J7 (intOf (ao Try.prog (ae Try.prog ah) 3 (w 0))) (intOf (ao Try.prog (ae Try.prog ah) 3 (w 1))) (intOf (ao Try.prog (ae Try.prog ah) 3 (w 2)))).trans (by kernel_rfl)
structure dc where
  e0:Int
  e1:Int
  e2:Int
instance:Inhabited dc:=⟨⟨default,default,default⟩⟩
def agF (x:dc):List KV:=[.int .i64 x.e0,.int .i64 x.e1,.int .i64 x.e2]
def nH (x:dc):KV:=.agg (agF x)
def agG (c:Nat→KV):dc:=⟨intOf (c 0),intOf (c 1),intOf (c 2)⟩
def wk (v:KV):dc:=agG fun k=>v.cells.getD k .av
structure dN where
  e0:dc
  e1:dc
  e2:dc
instance:Inhabited dN:=⟨⟨default,default,default⟩⟩
def abm (x:dN):List KV:=[.int .i64 x.e0.e0,.int .i64 x.e0.e1,.int .i64 x.e0.e2,.int .i64 x.e1.e0,.int .i64 x.e1.e1,.int .i64 x.e1.e2,.int .i64 x.e2.e0,.int .i64 x.e2.e1,.int .i64 x.e2.e2]
def sE (x:dN):KV:=.agg (abm x)
def abn (c:Nat→KV):dN:=⟨⟨intOf (c 0),intOf (c 1),intOf (c 2)⟩,⟨intOf (c 3),intOf (c 4),intOf (c 5)⟩,⟨intOf (c 6),intOf (c 7),intOf (c 8)⟩⟩
def ln (v:KV):dN:=abn fun k=>v.cells.getD k .av
structure aI where
  pos:ct
  m:dN
  Pm:Int
  aA:Int
  w:Int
  h:Int
instance:Inhabited aI:=⟨⟨default,default,default,default,default,default⟩⟩
def yl (x:aI):List KV:=[.int .i64 x.pos.x,.int .i64 x.pos.y,.int .i64 x.pos.z,.int .i64 x.m.e0.e0,.int .i64 x.m.e0.e1,.int .i64 x.m.e0.e2,.int .i64 x.m.e1.e0,.int .i64 x.m.e1.e1,.int .i64 x.m.e1.e2,.int .i64 x.m.e2.e0,.int .i64 x.m.e2.e1,.int .i64 x.m.e2.e2,.int .i64 x.Pm,.int .i64 x.aA,.int .i64 x.w,.int .i64 x.h]
def fh (x:aI):KV:=.agg (yl x)
def ym (c:Nat→KV):aI:=⟨⟨intOf (c 0),intOf (c 1),intOf (c 2)⟩,⟨⟨intOf (c 3),intOf (c 4),intOf (c 5)⟩,⟨intOf (c 6),intOf (c 7),intOf (c 8)⟩,⟨intOf (c 9),intOf (c 10),intOf (c 11)⟩⟩,intOf (c 12),intOf (c 13),intOf (c 14),intOf (c 15)⟩
def cS (v:KV):aI:=ym fun k=>v.cells.getD k .av
def BC:List (Nat×(List KV→KR KV)):=[(83,va),(108,pH)]
def BD:List Lp:=[]
theorem J8:ai Try.prog BC:=(ai.cons xa (ai.cons nG ai.nil))
theorem J9:ay Try.prog BD:=ay.nil
def tD (c:aI):(Option Int):=(j5 c.pos)
def tE (c:aI):(Option Bool):=(bL c.Pm (1:Int) (64:Int))
def tF (c:aI):(Option Bool):=(bL c.aA (256:Int) (4096:Int))
def tG (c:aI):(Option Bool):=(bL c.w (1:Int) (64:Int))
def tH (c:aI):(Option Bool):=(bL c.h (1:Int) (64:Int))
def tI (c:aI):(Option Bool):=(bL c.m.e0.e0 (-(256:Int)) (256:Int))
def tJ (c:aI):(Option Bool):=(bL c.m.e0.e1 (-(256:Int)) (256:Int))
def tK (c:aI):(Option Bool):=(bL c.m.e0.e2 (-(256:Int)) (256:Int))
def tL (c:aI):(Option Bool):=(bL c.m.e1.e0 (-(256:Int)) (256:Int))
def tM (c:aI):(Option Bool):=(bL c.m.e1.e1 (-(256:Int)) (256:Int))
def rN (c:aI):(Option Bool):=(bL c.m.e1.e2 (-(256:Int)) (256:Int))
def rO (c:aI):(Option Bool):=(bL c.m.e2.e0 (-(256:Int)) (256:Int))
def rP (c:aI):(Option Bool):=(bL c.m.e2.e1 (-(256:Int)) (256:Int))
def rQ (c:aI):(Option Bool):=(bL c.m.e2.e2 (-(256:Int)) (256:Int))
def eP (c:aI):Option (Int):=
  (cond (tD c).isSome
   (cond (((tD c).getD default) == (0:Int))
    (cond (tE c).isSome
     (cond ((tE c).getD default)
      (cond (tF c).isSome
       (cond ((tF c).getD default)
        (cond (tG c).isSome
         (cond ((tG c).getD default)
          (cond (tH c).isSome
           (cond ((tH c).getD default)
            (cond (tI c).isSome
             (cond ((tI c).getD default)
              (cond (tJ c).isSome
               (cond ((tJ c).getD default)
                (cond (tK c).isSome
                 (cond ((tK c).getD default)
                  (cond (tL c).isSome
                   (cond ((tL c).getD default)
                    (cond (tM c).isSome
                     (cond ((tM c).getD default)
                      (cond (rN c).isSome
                       (cond ((rN c).getD default)
                        (cond (rO c).isSome
                         (cond ((rO c).getD default)
                          (cond (rP c).isSome
                           (cond ((rP c).getD default)
                            (cond (rQ c).isSome
                             (cond (!((rQ c).getD default))
                              (some ((150:Int)))
                              (some ((0:Int))))
                             none)
                            (some ((150:Int))))
                           none)
                          (some ((150:Int))))
                         none)
                        (some ((150:Int))))
                       none)
                      (some ((150:Int))))
                     none)
                    (some ((150:Int))))
                   none)
                  (some ((150:Int))))
                 none)
                (some ((150:Int))))
               none)
              (some ((150:Int))))
             none)
            (some ((150:Int))))
           none)
          (some ((150:Int))))
         none)
        (some ((150:Int))))
       none)
      (some ((150:Int))))
     none)
    (some ((150:Int))))
   none)
theorem Mv (c:aI):cm Try.prog (bx Try.prog BC BD (fun _=>false)) 9 9 82 [fh c] = (eP c).map (kI .i64):=by
  unfold eP
  try simp only [bu]
  kernel_rfl
def nI:List KV→KR KV:=bQ Try.prog 82 (bV (kI .i64) fun vs=>eP (cS (vs.getD 0 .av)))
theorem Ka (w:Nat→KV):bU Try.prog [53] w 0 = [fh (cS (ao Try.prog (ae Try.prog ah) 53 (w 0)))]:=by kernel_rfl
theorem na:bD Try.prog 82 nI:=aR funcs mixed J8 J9 (L:=9) (n:=9) fun w=>by
  have e:aC Try.prog 82 = [53]:=by kernel_rfl
  rw [e,Ka]
  exact (Mv (cS (ao Try.prog (ae Try.prog ah) 53 (w 0)))).trans (by kernel_rfl)
structure dR where
  x0:Int
  y0:Int
  x1:Int
  y1:Int
instance:Inhabited dR:=⟨⟨default,default,default,default⟩⟩
def Y6 (x:dR):List KV:=[.int .i64 x.x0,.int .i64 x.y0,.int .i64 x.x1,.int .i64 x.y1]
def Ac (x:dR):KV:=.agg (Y6 x)
def Y7 (c:Nat→KV):dR:=⟨intOf (c 0),intOf (c 1),intOf (c 2),intOf (c 3)⟩
def Ad (v:KV):dR:=Y7 fun k=>v.cells.getD k .av
def zc:List (Nat×(List KV→KR KV)):=[(83,va),(82,nI)]
def zd:List Lp:=[]
theorem HR:ai Try.prog zc:=(ai.cons xa (ai.cons na ai.nil))
theorem HS:ay Try.prog zd:=ay.nil
def nb (c:aI) (w:dR):(Option Int):=(eP c)
def rR (c:aI) (w:dR):(Option Bool):=(bL w.x1 (max (0:Int) w.x0) (aH (c.w - (1:Int))))
def rS (c:aI) (w:dR):(Option Bool):=(bL w.y1 (max (0:Int) w.y0) (aH (c.h - (1:Int))))
def kf (c:aI) (w:dR):Option (Int):=
  (cond (nb c w).isSome
   (cond (((nb c w).getD default) != (0:Int))
    (some (((nb c w).getD default)))
    (cond (rR c w).isSome
     (cond (!((rR c w).getD default))
      (some ((2:Int)))
      (cond (rS c w).isSome
       (cond (!((rS c w).getD default))
        (some ((2:Int)))
        (cond (decide (w.x0 < (0:Int)))
         (some ((2:Int)))
         (cond (decide (w.y0 < (0:Int)))
          (some ((2:Int)))
          (some ((0:Int))))))
       none))
     none))
   none)
theorem Kb (c:aI) (w:dR):cm Try.prog (bx Try.prog zc zd (fun _=>false)) 9 9 51 [fh c,Ac w] = (kf c w).map (kI .i64):=by
  unfold kf
  try simp only [bu]
  kernel_rfl
def pI:List KV→KR KV:=bQ Try.prog 51 (bV (kI .i64) fun vs=>kf (cS (vs.getD 0 .av)) (Ad (vs.getD 1 .av)))
theorem HT (w:Nat→KV):bU Try.prog [53,70] w 0 = [fh (cS (ao Try.prog (ae Try.prog ah) 53 (w 0))),Ac (Ad (ao Try.prog (ae Try.prog ah) 70 (w 1)))]:=by kernel_rfl
theorem qh:bD Try.prog 51 pI:=aR funcs mixed HR HS (L:=9) (n:=9) fun w=>by
  have e:aC Try.prog 51 = [53,70]:=by kernel_rfl
  rw [e,HT]
  exact (Kb (cS (ao Try.prog (ae Try.prog ah) 53 (w 0))) (Ad (ao Try.prog (ae Try.prog ah) 70 (w 1)))).trans (by kernel_rfl)
end
end Go.Proofs.Ytahhdndhkgbcjaa.b
end
section
namespace Go.Proofs.Ytahhdndhkgbcjaa.b
open Go.K
set_option linter.unusedVariables false
set_option linter.unusedSimpArgs false
noncomputable section
def Mw:List (Nat×(List KV→KR KV)):=[]
def Mx:List Lp:=[]
theorem UJ:ai Try.prog Mw:=ai.nil
theorem UK:ay Try.prog Mx:=ay.nil
def sF (m:dN):Option (Bool):=
  (cond (decide (m.e0.e0 < (-(1024:Int))))
   (some (false))
   (cond (decide (m.e0.e0 > (1024:Int)))
    (some (false))
    (cond (decide (m.e0.e1 < (-(1024:Int))))
     (some (false))
     (cond (decide (m.e0.e1 > (1024:Int)))
      (some (false))
      (cond (decide (m.e0.e2 < (-(1024:Int))))
       (some (false))
       (cond (decide (m.e0.e2 > (1024:Int)))
        (some (false))
        (cond (decide (m.e1.e0 < (-(1024:Int))))
         (some (false))
         (cond (decide (m.e1.e0 > (1024:Int)))
          (some (false))
          (cond (decide (m.e1.e1 < (-(1024:Int))))
           (some (false))
           (cond (decide (m.e1.e1 > (1024:Int)))
            (some (false))
            (cond (decide (m.e1.e2 < (-(1024:Int))))
             (some (false))
             (cond (decide (m.e1.e2 > (1024:Int)))
              (some (false))
              (cond (decide (m.e2.e0 < (-(1024:Int))))
               (some (false))
               (cond (decide (m.e2.e0 > (1024:Int)))
                (some (false))
                (cond (decide (m.e2.e1 < (-(1024:Int))))
                 (some (false))
                 (cond (decide (m.e2.e1 > (1024:Int)))
                  (some (false))
                  (cond (decide (m.e2.e2 < (-(1024:Int))))
                   (some (false))
                   (cond (decide (m.e2.e2 > (1024:Int)))
                    (some (false))
                    (some (true))))))))))))))))))))
theorem Wj (m:dN):cm Try.prog (bx Try.prog Mw Mx (fun _=>false)) 9 9 138 [sE m] = (sF m).map kB:=by
  unfold sF
  try simp only [bu]
  kernel_rfl
def QU:List KV→KR KV:=bQ Try.prog 138 (bV kB fun vs=>sF (ln (vs.getD 0 .av)))
theorem UL (w:Nat→KV):bU Try.prog [51] w 0 = [sE (ln (ao Try.prog (ae Try.prog ah) 51 (w 0)))]:=by kernel_rfl
theorem UM:bD Try.prog 138 QU:=aR funcs mixed UJ UK (L:=9) (n:=9) fun w=>by
  have e:aC Try.prog 138 = [51]:=by kernel_rfl
  rw [e,UL]
  exact (Wj (ln (ao Try.prog (ae Try.prog ah) 51 (w 0)))).trans (by kernel_rfl)
def Mz:List (Nat×(List KV→KR KV)):=[]
def MA:List Lp:=[]
theorem UN:ai Try.prog Mz:=ai.nil
theorem UO:ay Try.prog MA:=ay.nil
def Gm (v:ct):Option (dc):=
  (some ((⟨v.x,v.y,v.z⟩:dc)))
theorem Wk (v:ct):cm Try.prog (bx Try.prog Mz MA (fun _=>false)) 9 9 141 [qI v] = (Gm v).map nH:=by
  unfold Gm
  kernel_rfl
def QV:List KV→KR KV:=bQ Try.prog 141 (bV nH fun vs=>Gm (sC (vs.getD 0 .av)))
theorem UQ (w:Nat→KV):bU Try.prog [41] w 0 = [qI (sC (ao Try.prog (ae Try.prog ah) 41 (w 0)))]:=by kernel_rfl
theorem UR:bD Try.prog 141 QV:=aR funcs mixed UN UO (L:=9) (n:=9) fun w=>by
  have e:aC Try.prog 141 = [41]:=by kernel_rfl
  rw [e,UQ]
  exact (Wk (sC (ao Try.prog (ae Try.prog ah) 41 (w 0)))).trans (by kernel_rfl)
def MB:List (Nat×(List KV→KR KV)):=[(99,mz)]
def MC:List Lp:=[]
theorem UT:ai Try.prog MB:=(ai.cons ll ai.nil)
theorem UU:ay Try.prog MC:=ay.nil
def Ae (m:dN) (v:dc):(Option (Prod Int Int)):=(b6 (aH ((aH ((aH ((0:Int)+(aH (m.e0.e0 * v.e0))))+(aH (m.e0.e1 * v.e1))))+(aH (m.e0.e2 * v.e2)))) (256:Int))
def Af (m:dN) (v:dc):(Option (Prod Int Int)):=(b6 (aH ((aH ((aH ((0:Int)+(aH (m.e1.e0 * v.e0))))+(aH (m.e1.e1 * v.e1))))+(aH (m.e1.e2 * v.e2)))) (256:Int))
def Ag (m:dN) (v:dc):(Option (Prod Int Int)):=(b6 (aH ((aH ((aH ((0:Int)+(aH (m.e2.e0 * v.e0))))+(aH (m.e2.e1 * v.e1))))+(aH (m.e2.e2 * v.e2)))) (256:Int))
def sG (m:dN) (v:dc):Option (dc):=
  (cond (Ae m v).isSome
   (cond (Af m v).isSome
    (cond (Ag m v).isSome
     (some ((⟨((Ae m v).getD default).fst,((Af m v).getD default).fst,((Ag m v).getD default).fst⟩:dc)))
     none)
    none)
   none)
theorem Wl (m:dN) (v:dc):cm Try.prog (bx Try.prog MB MC (fun _=>false)) 9 9 140 [sE m,nH v] = (sG m v).map nH:=by
  unfold sG
  try simp only [bu]
  kernel_rfl
def QW:List KV→KR KV:=bQ Try.prog 140 (bV nH fun vs=>sG (ln (vs.getD 0 .av)) (wk (vs.getD 1 .av)))
theorem UW (w:Nat→KV):bU Try.prog [51,50] w 0 = [sE (ln (ao Try.prog (ae Try.prog ah) 51 (w 0))),nH (wk (ao Try.prog (ae Try.prog ah) 50 (w 1)))]:=by kernel_rfl
theorem UX:bD Try.prog 140 QW:=aR funcs mixed UT UU (L:=9) (n:=9) fun w=>by
  have e:aC Try.prog 140 = [51,50]:=by kernel_rfl
  rw [e,UW]
  exact (Wl (ln (ao Try.prog (ae Try.prog ah) 51 (w 0))) (wk (ao Try.prog (ae Try.prog ah) 50 (w 1)))).trans (by kernel_rfl)
def I0:List (Nat×(List KV→KR KV)):=[]
def I1:List Lp:=[]
theorem Rs:ai Try.prog I0:=ai.nil
theorem Rt:ay Try.prog I1:=ay.nil
def Dd (l:dc):Option (ct):=
  (some ((⟨l.e0,l.e1,l.e2⟩:ct)))
theorem UY (l:dc):cm Try.prog (bx Try.prog I0 I1 (fun _=>false)) 9 9 139 [nH l] = (Dd l).map qI:=by
  unfold Dd
  kernel_rfl
def MD:List KV→KR KV:=bQ Try.prog 139 (bV qI fun vs=>Dd (wk (vs.getD 0 .av)))
theorem Ru (w:Nat→KV):bU Try.prog [50] w 0 = [nH (wk (ao Try.prog (ae Try.prog ah) 50 (w 0)))]:=by kernel_rfl
theorem Rv:bD Try.prog 139 MD:=aR funcs mixed Rs Rt (L:=9) (n:=9) fun w=>by
  have e:aC Try.prog 139 = [50]:=by kernel_rfl
  rw [e,Ru]
  exact (UY (wk (ao Try.prog (ae Try.prog ah) 50 (w 0)))).trans (by kernel_rfl)
def MF:List (Nat×(List KV→KR KV)):=[(139,MD),(140,QW),(141,QV),(124,Pl),(138,QU)]
def MG:List Lp:=[]
theorem UZ:ai Try.prog MF:=(ai.cons Rv (ai.cons UX (ai.cons UR (ai.cons Mu (ai.cons UM ai.nil)))))
theorem U0:ay Try.prog MG:=ay.nil
def Ah (m:dN) (v:ct):(Option Bool):=(sF m)
def vG (m:dN) (v:ct):(Option Bool):=(sD (32768:Int) (Sl.lit [v.x,v.y,v.z]))
def qJ (m:dN) (v:ct):(Option dc):=(sG m (⟨v.x,v.y,v.z⟩:dc))
def sH (m:dN) (v:ct):Option (ct×Int):=
  (cond (Ah m v).isSome
   (cond (!((Ah m v).getD default))
    (some ((⟨(0:Int),(0:Int),(0:Int)⟩:ct),(2:Int)))
    (cond (vG m v).isSome
     (cond (!((vG m v).getD default))
      (some ((⟨(0:Int),(0:Int),(0:Int)⟩:ct),(2:Int)))
      (cond (qJ m v).isSome
       (some ((⟨((qJ m v).getD default).e0,((qJ m v).getD default).e1,((qJ m v).getD default).e2⟩:ct),(0:Int)))
       none))
     none))
   none)
theorem Wm (m:dN) (v:ct):cm Try.prog (bx Try.prog MF MG (fun _=>false)) 9 9 127 [sE m,qI v] = (sH m v).map (fun (r:ct×Int)=>KV.fI [qI r.1,(kI .i64) r.2]):=by
  unfold sH
  try simp only [bu,vG,F8]
  kernel_rfl
def QX:List KV→KR KV:=bQ Try.prog 127 (bV (fun (r:ct×Int)=>KV.fI [qI r.1,(kI .i64) r.2]) fun vs=>sH (ln (vs.getD 0 .av)) (sC (vs.getD 1 .av)))
theorem U1 (w:Nat→KV):bU Try.prog [51,41] w 0 = [sE (ln (ao Try.prog (ae Try.prog ah) 51 (w 0))),qI (sC (ao Try.prog (ae Try.prog ah) 41 (w 1)))]:=by kernel_rfl
theorem U2:bD Try.prog 127 QX:=aR funcs mixed UZ U0 (L:=9) (n:=9) fun w=>by
  have e:aC Try.prog 127 = [51,41]:=by kernel_rfl
  rw [e,U1]
  exact (Wm (ln (ao Try.prog (ae Try.prog ah) 51 (w 0))) (sC (ao Try.prog (ae Try.prog ah) 41 (w 1)))).trans (by kernel_rfl)
def DL:List (Nat×(List KV→KR KV)):=[(127,QX),(108,pH),(82,nI)]
def DM:List Lp:=[]
theorem MH:ai Try.prog DL:=(ai.cons U2 (ai.cons nG (ai.cons na ai.nil)))
theorem MI:ay Try.prog DM:=ay.nil
def pJ (c:aI) (v:ct):(Option Int):=(eP c)
def pK (c:aI) (v:ct):(Option Int):=(j5 v)
def pL (c:aI) (v:ct):(Option (Prod ct Int)):=(sH c.m (⟨(aH (v.x - c.pos.x)),(aH (v.y - c.pos.y)),(aH (v.z - c.pos.z))⟩:ct))
def jw (c:aI) (v:ct):Option (ct×Int):=
  (cond (pJ c v).isSome
   (cond (((pJ c v).getD default) != (0:Int))
    (some ((⟨(0:Int),(0:Int),(0:Int)⟩:ct),((pJ c v).getD default)))
    (cond (pK c v).isSome
     (cond (((pK c v).getD default) != (0:Int))
      (some ((⟨(0:Int),(0:Int),(0:Int)⟩:ct),((pK c v).getD default)))
      (cond (pL c v).isSome
       (some (((pL c v).getD default).fst,((pL c v).getD default).snd))
       none))
     none))
   none)
theorem Pn (c:aI) (v:ct):cm Try.prog (bx Try.prog DL DM (fun _=>false)) 9 9 110 [fh c,qI v] = (jw c v).map (fun (r:ct×Int)=>KV.fI [qI r.1,(kI .i64) r.2]):=by
  unfold jw
  try simp only [bu]
  kernel_rfl
def yn:List KV→KR KV:=bQ Try.prog 110 (bV (fun (r:ct×Int)=>KV.fI [qI r.1,(kI .i64) r.2]) fun vs=>jw (cS (vs.getD 0 .av)) (sC (vs.getD 1 .av)))
theorem MJ (w:Nat→KV):bU Try.prog [53,41] w 0 = [fh (cS (ao Try.prog (ae Try.prog ah) 53 (w 0))),qI (sC (ao Try.prog (ae Try.prog ah) 41 (w 1)))]:=by kernel_rfl
theorem ze:bD Try.prog 110 yn:=aR funcs mixed MH MI (L:=9) (n:=9) fun w=>by
  have e:aC Try.prog 110 = [53,41]:=by kernel_rfl
  rw [e,MJ]
  exact (Pn (cS (ao Try.prog (ae Try.prog ah) 53 (w 0))) (sC (ao Try.prog (ae Try.prog ah) 41 (w 1)))).trans (by kernel_rfl)
structure dF where
  t4:Int
  t14:(Sl bg)
  t15:Int
  t16:Int
instance:Inhabited dF:=⟨⟨default,default,default,default⟩⟩
def oe (x:dF):List KV:=[.int .i64 x.t4,fQ 180 iM x.t14,.int .i64 x.t15,.int .i64 x.t16]
def og (x:dF):List (List KV):=[]
def zf (vs:List KV) (rs:List (List KV)):dF:=⟨intOf (vs.getD 0 .av),gh fq (vs.getD 1 .av),intOf (vs.getD 2 .av),intOf (vs.getD 3 .av)⟩
def BF:ba:=⟨[(4,⟨false,[.k (.int .i64)]⟩),(14,⟨false,[.k (.slice 180)]⟩),(15,⟨false,[.k (.int .i64)]⟩),(16,⟨false,[.k (.int .i64)]⟩)],[],[]⟩
def MK:=eR Try.prog (bx Try.prog [(130,lL)] [] (fun _=>false)) 9 9 128 58 (fp Try.prog 128 58) BF
def nc (x:dF):(Option Int):=(gA (x.t14.get (Int.toNat x.t16)))
def fX (x:dF):bK dF:=
  (cond (decide (x.t16 < x.t15))
   (cond ((decide ((0:Int)≤x.t16)) && (decide (x.t16 < ((x.t14.n:Nat):Int))))
    (cond (nc x).isSome
     (cond (((nc x).getD default) != (0:Int))
      (.out aV.au.ret (⟨((nc x).getD default),x.t14,x.t15,x.t16⟩:dF))
      (.next (⟨x.t4,x.t14,x.t15,(aH (x.t16+(1:Int)))⟩:dF)))
     .fail)
    .fail)
   (.out (aV.au.exit 0) x))
theorem HU (x:dF):MK (oe x) (og x)=bK.enc oe og (fX x):=by
  unfold fX
  try simp only [bK.ej]
  kernel_rfl
def pM:Lp:=⟨128,58,BF,fun vs rs=>fg oe og (goN fX (zf vs rs)) [aV.au.exit 0,aV.au.ret]⟩
theorem ML:pM.Ok Try.prog:=cN funcs mixed (ai.cons ke ai.nil) ay.nil (L:=9) (n:=9) (step:=fX) (ev:=oe) (er:=og) (pa:=zf) rfl (fun wv wr=>⟨by kernel_rfl,by kernel_rfl⟩) HU
theorem Gn:cB Try.prog pM.f pM.p=true:=by kernel_rfl
def Gp:List (Nat×(List KV→KR KV)):=[(130,lL)]
def Gq:List Lp:=[pM]
theorem Po:ai Try.prog Gp:=(ai.cons ke ai.nil)
theorem Pp:ay Try.prog Gq:=(ay.cons ML Gn ay.nil)
def ra (aA:Int) (l:(Sl bg)):(bK dF):=(goN fX (⟨(0:Int),l,((l.n:Nat):Int),(0:Int)⟩:dF))
def nS (aA:Int) (l:(Sl bg)):Option (Int):=
  (cond (decide (aA < (256:Int)))
   (some ((2:Int)))
   (cond (decide (aA > (4096:Int)))
    (some ((2:Int)))
    (cond ((ra aA l).by (aV.au.exit 0))
     (some ((0:Int)))
     (cond ((ra aA l).by aV.au.ret)
      (some ((ra aA l).st.t4))
      none))))
theorem Rw (aA:Int) (l:(Sl bg)):cm Try.prog (bx Try.prog Gp Gq (fun _=>false)) 9 9 128 [(kI .i64) aA,(fQ 180 iM) l] = (nS aA l).map (kI .i64):=by
  unfold nS
  try simp only [bu]
  kernel_rfl
def I2:List KV→KR KV:=bQ Try.prog 128 (bV (kI .i64) fun vs=>nS (intOf (vs.getD 0 .av)) ((gh fq) (vs.getD 1 .av)))
theorem Pq (w:Nat→KV):bU Try.prog [3,204] w 0 = [(kI .i64) (intOf (ao Try.prog (ae Try.prog ah) 3 (w 0))),(fQ 180 iM) ((gh fq) (ao Try.prog (ae Try.prog ah) 204 (w 1)))]:=by kernel_rfl
theorem Pr:bD Try.prog 128 I2:=aR funcs mixed Po Pp (L:=9) (n:=9) fun w=>by
  have e:aC Try.prog 128 = [3,204]:=by kernel_rfl
  rw [e,Pq]
  exact (Rw (intOf (ao Try.prog (ae Try.prog ah) 3 (w 0))) ((gh fq) (ao Try.prog (ae Try.prog ah) 204 (w 1)))).trans (by kernel_rfl)
structure MM where
  e0:Int
  e1:Int
  e2:Int
  e3:Int
instance:Inhabited MM:=⟨⟨default,default,default,default⟩⟩
def agH (x:MM):List KV:=[.int .i64 x.e0,.int .i64 x.e1,.int .i64 x.e2,.int .i64 x.e3]
def abo (x:MM):KV:=.agg (agH x)
def DN:List (Nat×(List KV→KR KV)):=[]
def DP:List Lp:=[]
theorem MN:ai Try.prog DN:=ai.nil
theorem MO:ay Try.prog DP:=ay.nil
def yo (p:bg):Option (MM):=
  (some ((⟨p.p.x,p.p.y,p.u,p.v⟩:MM)))
theorem Ps (p:bg):cm Try.prog (bx Try.prog DN DP (fun _=>false)) 9 9 142 [iM p] = (yo p).map abo:=by
  unfold yo
  kernel_rfl
def Gr:List KV→KR KV:=bQ Try.prog 142 (bV abo fun vs=>yo (fq (vs.getD 0 .av)))
theorem MP (w:Nat→KV):bU Try.prog [180] w 0 = [iM (fq (ao Try.prog (ae Try.prog ah) 180 (w 0)))]:=by kernel_rfl
theorem MQ:bD Try.prog 142 Gr:=aR funcs mixed MN MO (L:=9) (n:=9) fun w=>by
  have e:aC Try.prog 142 = [180]:=by kernel_rfl
  rw [e,MP]
  exact (Ps (fq (ao Try.prog (ae Try.prog ah) 180 (w 0)))).trans (by kernel_rfl)
def MR:List (Nat×(List KV→KR KV)):=[(99,mz),(142,Gr),(128,I2)]
def MS:List Lp:=[]
theorem U3:ai Try.prog MR:=(ai.cons ll (ai.cons MQ (ai.cons Pr ai.nil)))
theorem U4:ay Try.prog MS:=ay.nil
def qK (aA:Int) (a:bg) (b:bg):(Option Int):=(nS aA (Sl.lit [a,b]))
def Ai (aA:Int) (a:bg) (b:bg):(Option (Prod Int Int)):=(b6 (aH ((aH (b.p.x - a.p.x)) * (aH (aA - a.p.z)))) (aH (b.p.z - a.p.z)))
def Aj (aA:Int) (a:bg) (b:bg):(Option (Prod Int Int)):=(b6 (aH ((aH (b.p.y - a.p.y)) * (aH (aA - a.p.z)))) (aH (b.p.z - a.p.z)))
def Ak (aA:Int) (a:bg) (b:bg):(Option (Prod Int Int)):=(b6 (aH ((aH (b.u - a.u)) * (aH (aA - a.p.z)))) (aH (b.p.z - a.p.z)))
def Al (aA:Int) (a:bg) (b:bg):(Option (Prod Int Int)):=(b6 (aH ((aH (b.v - a.v)) * (aH (aA - a.p.z)))) (aH (b.p.z - a.p.z)))
def cE (aA:Int) (a:bg) (b:bg):Option (bg×Int):=
  (cond (qK aA a b).isSome
   (cond (((qK aA a b).getD default) != (0:Int))
    (some ((⟨(⟨(0:Int),(0:Int),(0:Int)⟩:ct),(0:Int),(0:Int)⟩:bg),((qK aA a b).getD default)))
    (cond (decide (a.p.z ≥ aA))
     (some ((⟨(⟨(0:Int),(0:Int),(0:Int)⟩:ct),(0:Int),(0:Int)⟩:bg),(6:Int)))
     (cond (decide (b.p.z < aA))
      (some ((⟨(⟨(0:Int),(0:Int),(0:Int)⟩:ct),(0:Int),(0:Int)⟩:bg),(6:Int)))
      (cond (Ai aA a b).isSome
       (cond (Aj aA a b).isSome
        (cond (Ak aA a b).isSome
         (cond (Al aA a b).isSome
          (some ((⟨(⟨(aH (a.p.x+((Ai aA a b).getD default).fst)),(aH (a.p.y+((Aj aA a b).getD default).fst)),aA⟩:ct),(aH (a.u+((Ak aA a b).getD default).fst)),(aH (a.v+((Al aA a b).getD default).fst))⟩:bg),(0:Int)))
          none)
         none)
        none)
       none))))
   none)
theorem Wn (aA:Int) (a:bg) (b:bg):cm Try.prog (bx Try.prog MR MS (fun _=>false)) 9 9 129 [(kI .i64) aA,iM a,iM b] = (cE aA a b).map (fun (r:bg×Int)=>KV.fI [iM r.1,(kI .i64) r.2]):=by
  unfold cE
  try simp only [bu,qK,acJ]
  kernel_rfl
def zg:List KV→KR KV:=bQ Try.prog 129 (bV (fun (r:bg×Int)=>KV.fI [iM r.1,(kI .i64) r.2]) fun vs=>cE (intOf (vs.getD 0 .av)) (fq (vs.getD 1 .av)) (fq (vs.getD 2 .av)))
theorem U5 (w:Nat→KV):bU Try.prog [3,180,180] w 0 = [(kI .i64) (intOf (ao Try.prog (ae Try.prog ah) 3 (w 0))),iM (fq (ao Try.prog (ae Try.prog ah) 180 (w 1))),iM (fq (ao Try.prog (ae Try.prog ah) 180 (w 2)))]:=by kernel_rfl
theorem yp:bD Try.prog 129 zg:=aR funcs mixed U3 U4 (L:=9) (n:=9) fun w=>by
  have e:aC Try.prog 129 = [3,180,180]:=by kernel_rfl
  rw [e,U5]
  exact (Wn (intOf (ao Try.prog (ae Try.prog ah) 3 (w 0))) (fq (ao Try.prog (ae Try.prog ah) 180 (w 1))) (fq (ao Try.prog (ae Try.prog ah) 180 (w 2)))).trans (by kernel_rfl)
def DQ:List (Nat×(List KV→KR KV)):=[(115,xu)]
def DR:List Lp:=[]
theorem MT:ai Try.prog DQ:=(ai.cons wV ai.nil)
theorem MU:ay Try.prog DR:=ay.nil
def kh (t:aF):(Option (Prod Int Int)):=(ji t)
def kA (t:aF):Option (Int):=
  (cond (kh t).isSome
   (cond (((kh t).getD default).snd == (0:Int))
    (cond (decide (((kh t).getD default).fst≤(0:Int)))
     (some ((6:Int)))
     (some (((kh t).getD default).snd)))
    (some (((kh t).getD default).snd)))
   none)
theorem Pu (t:aF):cm Try.prog (bx Try.prog DQ DR (fun _=>false)) 9 9 86 [c8 t] = (kA t).map (kI .i64):=by
  unfold kA
  try simp only [bu]
  kernel_rfl
def yq:List KV→KR KV:=bQ Try.prog 86 (bV (kI .i64) fun vs=>kA (cK (vs.getD 0 .av)))
theorem MV (w:Nat→KV):bU Try.prog [118] w 0 = [c8 (cK (ao Try.prog (ae Try.prog ah) 118 (w 0)))]:=by kernel_rfl
theorem zh:bD Try.prog 86 yq:=aR funcs mixed MT MU (L:=9) (n:=9) fun w=>by
  have e:aC Try.prog 86 = [118]:=by kernel_rfl
  rw [e,MV]
  exact (Pu (cK (ao Try.prog (ae Try.prog ah) 118 (w 0)))).trans (by kernel_rfl)
def DS:List (Nat×(List KV→KR KV)):=[]
def DT:List Lp:=[]
theorem MW:ai Try.prog DS:=ai.nil
theorem MX:ay Try.prog DT:=ay.nil
def jx (x:Int) (y:Int):Option (Bool):=
  (cond (decide ((min x y) ≥ (0:Int)))
   (some ((decide ((max x y) < (64:Int)))))
   (some (false)))
theorem Pv (x:Int) (y:Int):cm Try.prog (bx Try.prog DS DT (fun _=>false)) 9 9 87 [(kI .i64) x,(kI .i64) y] = (jx x y).map kB:=by
  unfold jx
  try simp only [bu]
  kernel_rfl
def yr:List KV→KR KV:=bQ Try.prog 87 (bV kB fun vs=>jx (intOf (vs.getD 0 .av)) (intOf (vs.getD 1 .av)))
theorem MZ (w:Nat→KV):bU Try.prog [3,3] w 0 = [(kI .i64) (intOf (ao Try.prog (ae Try.prog ah) 3 (w 0))),(kI .i64) (intOf (ao Try.prog (ae Try.prog ah) 3 (w 1)))]:=by kernel_rfl
theorem zi:bD Try.prog 87 yr:=aR funcs mixed MW MX (L:=9) (n:=9) fun w=>by
  have e:aC Try.prog 87 = [3,3]:=by kernel_rfl
  rw [e,MZ]
  exact (Pv (intOf (ao Try.prog (ae Try.prog ah) 3 (w 0))) (intOf (ao Try.prog (ae Try.prog ah) 3 (w 1)))).trans (by kernel_rfl)
def BG:List (Nat×(List KV→KR KV)):=[]
def BH:List Lp:=[]
theorem Kc:ai Try.prog BG:=ai.nil
theorem Kd:ay Try.prog BH:=ay.nil
def nJ (n:Int):Option (Int):=
  (some ((aH ((aH ((8:Int) * n))+(4:Int)))))
theorem M0 (n:Int):cm Try.prog (bx Try.prog BG BH (fun _=>false)) 9 9 120 [(kI .i64) n] = (nJ n).map (kI .i64):=by
  unfold nJ
  kernel_rfl
def DU:List KV→KR KV:=bQ Try.prog 120 (bV (kI .i64) fun vs=>nJ (intOf (vs.getD 0 .av)))
theorem Ke (w:Nat→KV):bU Try.prog [3] w 0 = [(kI .i64) (intOf (ao Try.prog (ae Try.prog ah) 3 (w 0)))]:=by kernel_rfl
theorem Kf:bD Try.prog 120 DU:=aR funcs mixed Kc Kd (L:=9) (n:=9) fun w=>by
  have e:aC Try.prog 120 = [3]:=by kernel_rfl
  rw [e,Ke]
  exact (M0 (intOf (ao Try.prog (ae Try.prog ah) 3 (w 0)))).trans (by kernel_rfl)
def DV:List (Nat×(List KV→KR KV)):=[(120,DU),(87,yr),(86,yq)]
def DW:List Lp:=[]
theorem M1:ai Try.prog DV:=(ai.cons Kf (ai.cons zi (ai.cons zh ai.nil)))
theorem M3:ay Try.prog DW:=ay.nil
def pN (t:aF) (x:Int) (y:Int):(Option Int):=(kA t)
def vb (t:aF) (x:Int) (y:Int):(Option Bool):=(jx x y)
def pO (t:aF) (x:Int) (y:Int):(Option Int):=(nJ y)
def pP (t:aF) (x:Int) (y:Int):(Option Int):=(nJ x)
def iw (t:aF) (x:Int) (y:Int):Option (dc×Int):=
  (cond (pN t x y).isSome
   (cond (((pN t x y).getD default) != (0:Int))
    (some ((⟨(0:Int),(0:Int),(0:Int)⟩:dc),((pN t x y).getD default)))
    (cond (vb t x y).isSome
     (cond (!((vb t x y).getD default))
      (some ((⟨(0:Int),(0:Int),(0:Int)⟩:dc),(2:Int)))
      (some ((⟨(aH ((aH ((aH (t.e2.x - t.e1.x)) * (aH (((pO t x y).getD default) - t.e1.y)))) - (aH ((aH (((pP t x y).getD default) - t.e1.x)) * (aH (t.e2.y - t.e1.y)))))),(aH ((aH ((aH (t.e0.x - t.e2.x)) * (aH (((pO t x y).getD default) - t.e2.y)))) - (aH ((aH (((pP t x y).getD default) - t.e2.x)) * (aH (t.e0.y - t.e2.y)))))),(aH ((aH ((aH (t.e1.x - t.e0.x)) * (aH (((pO t x y).getD default) - t.e0.y)))) - (aH ((aH (((pP t x y).getD default) - t.e0.x)) * (aH (t.e1.y - t.e0.y))))))⟩:dc),(0:Int))))
     none))
   none)
theorem Pw (t:aF) (x:Int) (y:Int):cm Try.prog (bx Try.prog DV DW (fun _=>false)) 9 9 98 [c8 t,(kI .i64) x,(kI .i64) y] = (iw t x y).map (fun (r:dc×Int)=>KV.fI [nH r.1,(kI .i64) r.2]):=by
  unfold iw
  try simp only [bu]
  kernel_rfl
def yu:List KV→KR KV:=bQ Try.prog 98 (bV (fun (r:dc×Int)=>KV.fI [nH r.1,(kI .i64) r.2]) fun vs=>iw (cK (vs.getD 0 .av)) (intOf (vs.getD 1 .av)) (intOf (vs.getD 2 .av)))
theorem M4 (w:Nat→KV):bU Try.prog [118,3,3] w 0 = [c8 (cK (ao Try.prog (ae Try.prog ah) 118 (w 0))),(kI .i64) (intOf (ao Try.prog (ae Try.prog ah) 3 (w 1))),(kI .i64) (intOf (ao Try.prog (ae Try.prog ah) 3 (w 2)))]:=by kernel_rfl
theorem zj:bD Try.prog 98 yu:=aR funcs mixed M1 M3 (L:=9) (n:=9) fun w=>by
  have e:aC Try.prog 98 = [118,3,3]:=by kernel_rfl
  rw [e,M4]
  exact (Pw (cK (ao Try.prog (ae Try.prog ah) 118 (w 0))) (intOf (ao Try.prog (ae Try.prog ah) 3 (w 1))) (intOf (ao Try.prog (ae Try.prog ah) 3 (w 2)))).trans (by kernel_rfl)
def BI:List (Nat×(List KV→KR KV)):=[(98,yu)]
def BJ:List Lp:=[]
theorem Kg:ai Try.prog BI:=(ai.cons zj ai.nil)
theorem Kh:ay Try.prog BJ:=ay.nil
def aa (t:aF) (x:Int) (y:Int):(Option (Prod dc Int)):=(iw t x y)
def kW (t:aF) (x:Int) (y:Int):Option (Bool×Int):=
  (cond (aa t x y).isSome
   (cond (((aa t x y).getD default).snd != (0:Int))
    (some (false,((aa t x y).getD default).snd))
    (cond (decide (t.e2.y < t.e1.y))
     (cond (decide (((aa t x y).getD default).fst.e0 < (0:Int)))
      (some (false,(0:Int)))
      (cond (((aa t x y).getD default).fst.e0 == (0:Int))
       (cond (decide (t.e0.y < t.e2.y))
        (cond (decide (((aa t x y).getD default).fst.e1 < (0:Int)))
         (some (false,(0:Int)))
         (cond (((aa t x y).getD default).fst.e1 == (0:Int))
          (cond (decide (t.e1.y < t.e0.y))
           (cond (decide (((aa t x y).getD default).fst.e2 < (0:Int)))
            (some (false,(0:Int)))
            (cond (((aa t x y).getD default).fst.e2 == (0:Int))
             (some (true,(0:Int)))
             (some (true,(0:Int)))))
           (cond (t.e1.y == t.e0.y)
            (cond (decide (((aa t x y).getD default).fst.e2 < (0:Int)))
             (some (false,(0:Int)))
             (cond (((aa t x y).getD default).fst.e2 == (0:Int))
              (cond (!(decide (t.e1.x > t.e0.x)))
               (some (false,(0:Int)))
               (some (true,(0:Int))))
              (some (true,(0:Int)))))
            (cond (decide (((aa t x y).getD default).fst.e2 < (0:Int)))
             (some (false,(0:Int)))
             (cond (((aa t x y).getD default).fst.e2 == (0:Int))
              (some (false,(0:Int)))
              (some (true,(0:Int)))))))
          (cond (decide (t.e1.y < t.e0.y))
           (cond (decide (((aa t x y).getD default).fst.e2 < (0:Int)))
            (some (false,(0:Int)))
            (cond (((aa t x y).getD default).fst.e2 == (0:Int))
             (some (true,(0:Int)))
             (some (true,(0:Int)))))
           (cond (t.e1.y == t.e0.y)
            (cond (decide (((aa t x y).getD default).fst.e2 < (0:Int)))
             (some (false,(0:Int)))
             (cond (((aa t x y).getD default).fst.e2 == (0:Int))
              (cond (!(decide (t.e1.x > t.e0.x)))
               (some (false,(0:Int)))
               (some (true,(0:Int))))
              (some (true,(0:Int)))))
            (cond (decide (((aa t x y).getD default).fst.e2 < (0:Int)))
             (some (false,(0:Int)))
             (cond (((aa t x y).getD default).fst.e2 == (0:Int))
              (some (false,(0:Int)))
              (some (true,(0:Int)))))))))
        (cond (t.e0.y == t.e2.y)
         (cond (decide (((aa t x y).getD default).fst.e1 < (0:Int)))
          (some (false,(0:Int)))
          (cond (((aa t x y).getD default).fst.e1 == (0:Int))
           (cond (!(decide (t.e0.x > t.e2.x)))
            (some (false,(0:Int)))
            (cond (decide (t.e1.y < t.e0.y))
             (cond (decide (((aa t x y).getD default).fst.e2 < (0:Int)))
              (some (false,(0:Int)))
              (cond (((aa t x y).getD default).fst.e2 == (0:Int))
               (some (true,(0:Int)))
               (some (true,(0:Int)))))
             (cond (t.e1.y == t.e0.y)
              (cond (decide (((aa t x y).getD default).fst.e2 < (0:Int)))
               (some (false,(0:Int)))
               (cond (((aa t x y).getD default).fst.e2 == (0:Int))
                (cond (!(decide (t.e1.x > t.e0.x)))
                 (some (false,(0:Int)))
                 (some (true,(0:Int))))
                (some (true,(0:Int)))))
              (cond (decide (((aa t x y).getD default).fst.e2 < (0:Int)))
               (some (false,(0:Int)))
               (cond (((aa t x y).getD default).fst.e2 == (0:Int))
                (some (false,(0:Int)))
                (some (true,(0:Int))))))))
           (cond (decide (t.e1.y < t.e0.y))
            (cond (decide (((aa t x y).getD default).fst.e2 < (0:Int)))
             (some (false,(0:Int)))
             (cond (((aa t x y).getD default).fst.e2 == (0:Int))
              (some (true,(0:Int)))
              (some (true,(0:Int)))))
            (cond (t.e1.y == t.e0.y)
             (cond (decide (((aa t x y).getD default).fst.e2 < (0:Int)))
              (some (false,(0:Int)))
              (cond (((aa t x y).getD default).fst.e2 == (0:Int))
               (cond (!(decide (t.e1.x > t.e0.x)))
                (some (false,(0:Int)))
                (some (true,(0:Int))))
               (some (true,(0:Int)))))
             (cond (decide (((aa t x y).getD default).fst.e2 < (0:Int)))
              (some (false,(0:Int)))
              (cond (((aa t x y).getD default).fst.e2 == (0:Int))
               (some (false,(0:Int)))
               (some (true,(0:Int)))))))))
         (cond (decide (((aa t x y).getD default).fst.e1 < (0:Int)))
          (some (false,(0:Int)))
          (cond (((aa t x y).getD default).fst.e1 == (0:Int))
           (some (false,(0:Int)))
           (cond (decide (t.e1.y < t.e0.y))
            (cond (decide (((aa t x y).getD default).fst.e2 < (0:Int)))
             (some (false,(0:Int)))
             (cond (((aa t x y).getD default).fst.e2 == (0:Int))
              (some (true,(0:Int)))
              (some (true,(0:Int)))))
            (cond (t.e1.y == t.e0.y)
             (cond (decide (((aa t x y).getD default).fst.e2 < (0:Int)))
              (some (false,(0:Int)))
              (cond (((aa t x y).getD default).fst.e2 == (0:Int))
               (cond (!(decide (t.e1.x > t.e0.x)))
                (some (false,(0:Int)))
                (some (true,(0:Int))))
               (some (true,(0:Int)))))
             (cond (decide (((aa t x y).getD default).fst.e2 < (0:Int)))
              (some (false,(0:Int)))
              (cond (((aa t x y).getD default).fst.e2 == (0:Int))
               (some (false,(0:Int)))
               (some (true,(0:Int)))))))))))
       (cond (decide (t.e0.y < t.e2.y))
        (cond (decide (((aa t x y).getD default).fst.e1 < (0:Int)))
         (some (false,(0:Int)))
         (cond (((aa t x y).getD default).fst.e1 == (0:Int))
          (cond (decide (t.e1.y < t.e0.y))
           (cond (decide (((aa t x y).getD default).fst.e2 < (0:Int)))
            (some (false,(0:Int)))
            (cond (((aa t x y).getD default).fst.e2 == (0:Int))
             (some (true,(0:Int)))
             (some (true,(0:Int)))))
           (cond (t.e1.y == t.e0.y)
            (cond (decide (((aa t x y).getD default).fst.e2 < (0:Int)))
             (some (false,(0:Int)))
             (cond (((aa t x y).getD default).fst.e2 == (0:Int))
              (cond (!(decide (t.e1.x > t.e0.x)))
               (some (false,(0:Int)))
               (some (true,(0:Int))))
              (some (true,(0:Int)))))
            (cond (decide (((aa t x y).getD default).fst.e2 < (0:Int)))
             (some (false,(0:Int)))
             (cond (((aa t x y).getD default).fst.e2 == (0:Int))
              (some (false,(0:Int)))
              (some (true,(0:Int)))))))
          (cond (decide (t.e1.y < t.e0.y))
           (cond (decide (((aa t x y).getD default).fst.e2 < (0:Int)))
            (some (false,(0:Int)))
            (cond (((aa t x y).getD default).fst.e2 == (0:Int))
             (some (true,(0:Int)))
             (some (true,(0:Int)))))
           (cond (t.e1.y == t.e0.y)
            (cond (decide (((aa t x y).getD default).fst.e2 < (0:Int)))
             (some (false,(0:Int)))
             (cond (((aa t x y).getD default).fst.e2 == (0:Int))
              (cond (!(decide (t.e1.x > t.e0.x)))
               (some (false,(0:Int)))
               (some (true,(0:Int))))
              (some (true,(0:Int)))))
            (cond (decide (((aa t x y).getD default).fst.e2 < (0:Int)))
             (some (false,(0:Int)))
             (cond (((aa t x y).getD default).fst.e2 == (0:Int))
              (some (false,(0:Int)))
              (some (true,(0:Int)))))))))
        (cond (t.e0.y == t.e2.y)
         (cond (decide (((aa t x y).getD default).fst.e1 < (0:Int)))
          (some (false,(0:Int)))
          (cond (((aa t x y).getD default).fst.e1 == (0:Int))
           (cond (!(decide (t.e0.x > t.e2.x)))
            (some (false,(0:Int)))
            (cond (decide (t.e1.y < t.e0.y))
             (cond (decide (((aa t x y).getD default).fst.e2 < (0:Int)))
              (some (false,(0:Int)))
              (cond (((aa t x y).getD default).fst.e2 == (0:Int))
               (some (true,(0:Int)))
               (some (true,(0:Int)))))
             (cond (t.e1.y == t.e0.y)
              (cond (decide (((aa t x y).getD default).fst.e2 < (0:Int)))
               (some (false,(0:Int)))
               (cond (((aa t x y).getD default).fst.e2 == (0:Int))
                (cond (!(decide (t.e1.x > t.e0.x)))
                 (some (false,(0:Int)))
                 (some (true,(0:Int))))
                (some (true,(0:Int)))))
              (cond (decide (((aa t x y).getD default).fst.e2 < (0:Int)))
               (some (false,(0:Int)))
               (cond (((aa t x y).getD default).fst.e2 == (0:Int))
                (some (false,(0:Int)))
                (some (true,(0:Int))))))))
           (cond (decide (t.e1.y < t.e0.y))
            (cond (decide (((aa t x y).getD default).fst.e2 < (0:Int)))
             (some (false,(0:Int)))
             (cond (((aa t x y).getD default).fst.e2 == (0:Int))
              (some (true,(0:Int)))
              (some (true,(0:Int)))))
            (cond (t.e1.y == t.e0.y)
             (cond (decide (((aa t x y).getD default).fst.e2 < (0:Int)))
              (some (false,(0:Int)))
              (cond (((aa t x y).getD default).fst.e2 == (0:Int))
               (cond (!(decide (t.e1.x > t.e0.x)))
                (some (false,(0:Int)))
                (some (true,(0:Int))))
               (some (true,(0:Int)))))
             (cond (decide (((aa t x y).getD default).fst.e2 < (0:Int)))
              (some (false,(0:Int)))
              (cond (((aa t x y).getD default).fst.e2 == (0:Int))
               (some (false,(0:Int)))
               (some (true,(0:Int)))))))))
         (cond (decide (((aa t x y).getD default).fst.e1 < (0:Int)))
          (some (false,(0:Int)))
          (cond (((aa t x y).getD default).fst.e1 == (0:Int))
           (some (false,(0:Int)))
           (cond (decide (t.e1.y < t.e0.y))
            (cond (decide (((aa t x y).getD default).fst.e2 < (0:Int)))
             (some (false,(0:Int)))
             (cond (((aa t x y).getD default).fst.e2 == (0:Int))
              (some (true,(0:Int)))
              (some (true,(0:Int)))))
            (cond (t.e1.y == t.e0.y)
             (cond (decide (((aa t x y).getD default).fst.e2 < (0:Int)))
              (some (false,(0:Int)))
              (cond (((aa t x y).getD default).fst.e2 == (0:Int))
               (cond (!(decide (t.e1.x > t.e0.x)))
                (some (false,(0:Int)))
                (some (true,(0:Int))))
               (some (true,(0:Int)))))
             (cond (decide (((aa t x y).getD default).fst.e2 < (0:Int)))
              (some (false,(0:Int)))
              (cond (((aa t x y).getD default).fst.e2 == (0:Int))
               (some (false,(0:Int)))
               (some (true,(0:Int)))))))))))))
     (cond (t.e2.y == t.e1.y)
      (cond (decide (((aa t x y).getD default).fst.e0 < (0:Int)))
       (some (false,(0:Int)))
       (cond (((aa t x y).getD default).fst.e0 == (0:Int))
        (cond (!(decide (t.e2.x > t.e1.x)))
         (some (false,(0:Int)))
         (cond (decide (t.e0.y < t.e2.y))
          (cond (decide (((aa t x y).getD default).fst.e1 < (0:Int)))
           (some (false,(0:Int)))
           (cond (((aa t x y).getD default).fst.e1 == (0:Int))
            (cond (decide (t.e1.y < t.e0.y))
             (cond (decide (((aa t x y).getD default).fst.e2 < (0:Int)))
              (some (false,(0:Int)))
              (cond (((aa t x y).getD default).fst.e2 == (0:Int))
               (some (true,(0:Int)))
               (some (true,(0:Int)))))
             (cond (t.e1.y == t.e0.y)
              (cond (decide (((aa t x y).getD default).fst.e2 < (0:Int)))
               (some (false,(0:Int)))
               (cond (((aa t x y).getD default).fst.e2 == (0:Int))
                (cond (!(decide (t.e1.x > t.e0.x)))
                 (some (false,(0:Int)))
                 (some (true,(0:Int))))
                (some (true,(0:Int)))))
              (cond (decide (((aa t x y).getD default).fst.e2 < (0:Int)))
               (some (false,(0:Int)))
               (cond (((aa t x y).getD default).fst.e2 == (0:Int))
                (some (false,(0:Int)))
                (some (true,(0:Int)))))))
            (cond (decide (t.e1.y < t.e0.y))
             (cond (decide (((aa t x y).getD default).fst.e2 < (0:Int)))
              (some (false,(0:Int)))
              (cond (((aa t x y).getD default).fst.e2 == (0:Int))
               (some (true,(0:Int)))
               (some (true,(0:Int)))))
             (cond (t.e1.y == t.e0.y)
              (cond (decide (((aa t x y).getD default).fst.e2 < (0:Int)))
               (some (false,(0:Int)))
               (cond (((aa t x y).getD default).fst.e2 == (0:Int))
                (cond (!(decide (t.e1.x > t.e0.x)))
                 (some (false,(0:Int)))
                 (some (true,(0:Int))))
                (some (true,(0:Int)))))
              (cond (decide (((aa t x y).getD default).fst.e2 < (0:Int)))
               (some (false,(0:Int)))
               (cond (((aa t x y).getD default).fst.e2 == (0:Int))
                (some (false,(0:Int)))
                (some (true,(0:Int)))))))))
          (cond (t.e0.y == t.e2.y)
           (cond (decide (((aa t x y).getD default).fst.e1 < (0:Int)))
            (some (false,(0:Int)))
            (cond (((aa t x y).getD default).fst.e1 == (0:Int))
             (cond (!(decide (t.e0.x > t.e2.x)))
              (some (false,(0:Int)))
              (cond (decide (t.e1.y < t.e0.y))
               (cond (decide (((aa t x y).getD default).fst.e2 < (0:Int)))
                (some (false,(0:Int)))
                (cond (((aa t x y).getD default).fst.e2 == (0:Int))
                 (some (true,(0:Int)))
                 (some (true,(0:Int)))))
               (cond (t.e1.y == t.e0.y)
                (cond (decide (((aa t x y).getD default).fst.e2 < (0:Int)))
                 (some (false,(0:Int)))
                 (cond (((aa t x y).getD default).fst.e2 == (0:Int))
                  (cond (!(decide (t.e1.x > t.e0.x)))
                   (some (false,(0:Int)))
                   (some (true,(0:Int))))
                  (some (true,(0:Int)))))
                (cond (decide (((aa t x y).getD default).fst.e2 < (0:Int)))
                 (some (false,(0:Int)))
                 (cond (((aa t x y).getD default).fst.e2 == (0:Int))
                  (some (false,(0:Int)))
                  (some (true,(0:Int))))))))
             (cond (decide (t.e1.y < t.e0.y))
              (cond (decide (((aa t x y).getD default).fst.e2 < (0:Int)))
               (some (false,(0:Int)))
               (cond (((aa t x y).getD default).fst.e2 == (0:Int))
                (some (true,(0:Int)))
                (some (true,(0:Int)))))
              (cond (t.e1.y == t.e0.y)
               (cond (decide (((aa t x y).getD default).fst.e2 < (0:Int)))
                (some (false,(0:Int)))
                (cond (((aa t x y).getD default).fst.e2 == (0:Int))
                 (cond (!(decide (t.e1.x > t.e0.x)))
                  (some (false,(0:Int)))
                  (some (true,(0:Int))))
                 (some (true,(0:Int)))))
               (cond (decide (((aa t x y).getD default).fst.e2 < (0:Int)))
                (some (false,(0:Int)))
                (cond (((aa t x y).getD default).fst.e2 == (0:Int))
                 (some (false,(0:Int)))
                 (some (true,(0:Int)))))))))
           (cond (decide (((aa t x y).getD default).fst.e1 < (0:Int)))
            (some (false,(0:Int)))
            (cond (((aa t x y).getD default).fst.e1 == (0:Int))
             (some (false,(0:Int)))
             (cond (decide (t.e1.y < t.e0.y))
              (cond (decide (((aa t x y).getD default).fst.e2 < (0:Int)))
               (some (false,(0:Int)))
               (cond (((aa t x y).getD default).fst.e2 == (0:Int))
                (some (true,(0:Int)))
                (some (true,(0:Int)))))
              (cond (t.e1.y == t.e0.y)
               (cond (decide (((aa t x y).getD default).fst.e2 < (0:Int)))
                (some (false,(0:Int)))
                (cond (((aa t x y).getD default).fst.e2 == (0:Int))
                 (cond (!(decide (t.e1.x > t.e0.x)))
                  (some (false,(0:Int)))
                  (some (true,(0:Int))))
                 (some (true,(0:Int)))))
               (cond (decide (((aa t x y).getD default).fst.e2 < (0:Int)))
                (some (false,(0:Int)))
                (cond (((aa t x y).getD default).fst.e2 == (0:Int))
                 (some (false,(0:Int)))
                 (some (true,(0:Int))))))))))))
        (cond (decide (t.e0.y < t.e2.y))
         (cond (decide (((aa t x y).getD default).fst.e1 < (0:Int)))
          (some (false,(0:Int)))
          (cond (((aa t x y).getD default).fst.e1 == (0:Int))
           (cond (decide (t.e1.y < t.e0.y))
            (cond (decide (((aa t x y).getD default).fst.e2 < (0:Int)))
             (some (false,(0:Int)))
             (cond (((aa t x y).getD default).fst.e2 == (0:Int))
              (some (true,(0:Int)))
              (some (true,(0:Int)))))
            (cond (t.e1.y == t.e0.y)
             (cond (decide (((aa t x y).getD default).fst.e2 < (0:Int)))
              (some (false,(0:Int)))
              (cond (((aa t x y).getD default).fst.e2 == (0:Int))
               (cond (!(decide (t.e1.x > t.e0.x)))
                (some (false,(0:Int)))
                (some (true,(0:Int))))
               (some (true,(0:Int)))))
             (cond (decide (((aa t x y).getD default).fst.e2 < (0:Int)))
              (some (false,(0:Int)))
              (cond (((aa t x y).getD default).fst.e2 == (0:Int))
               (some (false,(0:Int)))
               (some (true,(0:Int)))))))
           (cond (decide (t.e1.y < t.e0.y))
            (cond (decide (((aa t x y).getD default).fst.e2 < (0:Int)))
             (some (false,(0:Int)))
             (cond (((aa t x y).getD default).fst.e2 == (0:Int))
              (some (true,(0:Int)))
              (some (true,(0:Int)))))
            (cond (t.e1.y == t.e0.y)
             (cond (decide (((aa t x y).getD default).fst.e2 < (0:Int)))
              (some (false,(0:Int)))
              (cond (((aa t x y).getD default).fst.e2 == (0:Int))
               (cond (!(decide (t.e1.x > t.e0.x)))
                (some (false,(0:Int)))
                (some (true,(0:Int))))
               (some (true,(0:Int)))))
             (cond (decide (((aa t x y).getD default).fst.e2 < (0:Int)))
              (some (false,(0:Int)))
              (cond (((aa t x y).getD default).fst.e2 == (0:Int))
               (some (false,(0:Int)))
               (some (true,(0:Int)))))))))
         (cond (t.e0.y == t.e2.y)
          (cond (decide (((aa t x y).getD default).fst.e1 < (0:Int)))
           (some (false,(0:Int)))
           (cond (((aa t x y).getD default).fst.e1 == (0:Int))
            (cond (!(decide (t.e0.x > t.e2.x)))
             (some (false,(0:Int)))
             (cond (decide (t.e1.y < t.e0.y))
              (cond (decide (((aa t x y).getD default).fst.e2 < (0:Int)))
               (some (false,(0:Int)))
               (cond (((aa t x y).getD default).fst.e2 == (0:Int))
                (some (true,(0:Int)))
                (some (true,(0:Int)))))
              (cond (t.e1.y == t.e0.y)
               (cond (decide (((aa t x y).getD default).fst.e2 < (0:Int)))
                (some (false,(0:Int)))
                (cond (((aa t x y).getD default).fst.e2 == (0:Int))
                 (cond (!(decide (t.e1.x > t.e0.x)))
                  (some (false,(0:Int)))
                  (some (true,(0:Int))))
                 (some (true,(0:Int)))))
               (cond (decide (((aa t x y).getD default).fst.e2 < (0:Int)))
                (some (false,(0:Int)))
                (cond (((aa t x y).getD default).fst.e2 == (0:Int))
                 (some (false,(0:Int)))
                 (some (true,(0:Int))))))))
            (cond (decide (t.e1.y < t.e0.y))
             (cond (decide (((aa t x y).getD default).fst.e2 < (0:Int)))
              (some (false,(0:Int)))
              (cond (((aa t x y).getD default).fst.e2 == (0:Int))
               (some (true,(0:Int)))
               (some (true,(0:Int)))))
             (cond (t.e1.y == t.e0.y)
              (cond (decide (((aa t x y).getD default).fst.e2 < (0:Int)))
               (some (false,(0:Int)))
               (cond (((aa t x y).getD default).fst.e2 == (0:Int))
                (cond (!(decide (t.e1.x > t.e0.x)))
                 (some (false,(0:Int)))
                 (some (true,(0:Int))))
                (some (true,(0:Int)))))
              (cond (decide (((aa t x y).getD default).fst.e2 < (0:Int)))
               (some (false,(0:Int)))
               (cond (((aa t x y).getD default).fst.e2 == (0:Int))
                (some (false,(0:Int)))
                (some (true,(0:Int)))))))))
          (cond (decide (((aa t x y).getD default).fst.e1 < (0:Int)))
           (some (false,(0:Int)))
           (cond (((aa t x y).getD default).fst.e1 == (0:Int))
            (some (false,(0:Int)))
            (cond (decide (t.e1.y < t.e0.y))
             (cond (decide (((aa t x y).getD default).fst.e2 < (0:Int)))
              (some (false,(0:Int)))
              (cond (((aa t x y).getD default).fst.e2 == (0:Int))
               (some (true,(0:Int)))
               (some (true,(0:Int)))))
             (cond (t.e1.y == t.e0.y)
              (cond (decide (((aa t x y).getD default).fst.e2 < (0:Int)))
               (some (false,(0:Int)))
               (cond (((aa t x y).getD default).fst.e2 == (0:Int))
                (cond (!(decide (t.e1.x > t.e0.x)))
                 (some (false,(0:Int)))
                 (some (true,(0:Int))))
                (some (true,(0:Int)))))
              (cond (decide (((aa t x y).getD default).fst.e2 < (0:Int)))
               (some (false,(0:Int)))
               (cond (((aa t x y).getD default).fst.e2 == (0:Int))
                (some (false,(0:Int)))
                (some (true,(0:Int)))))))))))))
      (cond (decide (((aa t x y).getD default).fst.e0 < (0:Int)))
       (some (false,(0:Int)))
       (cond (((aa t x y).getD default).fst.e0 == (0:Int))
        (some (false,(0:Int)))
        (cond (decide (t.e0.y < t.e2.y))
         (cond (decide (((aa t x y).getD default).fst.e1 < (0:Int)))
          (some (false,(0:Int)))
          (cond (((aa t x y).getD default).fst.e1 == (0:Int))
           (cond (decide (t.e1.y < t.e0.y))
            (cond (decide (((aa t x y).getD default).fst.e2 < (0:Int)))
             (some (false,(0:Int)))
             (cond (((aa t x y).getD default).fst.e2 == (0:Int))
              (some (true,(0:Int)))
              (some (true,(0:Int)))))
            (cond (t.e1.y == t.e0.y)
             (cond (decide (((aa t x y).getD default).fst.e2 < (0:Int)))
              (some (false,(0:Int)))
              (cond (((aa t x y).getD default).fst.e2 == (0:Int))
               (cond (!(decide (t.e1.x > t.e0.x)))
                (some (false,(0:Int)))
                (some (true,(0:Int))))
               (some (true,(0:Int)))))
             (cond (decide (((aa t x y).getD default).fst.e2 < (0:Int)))
              (some (false,(0:Int)))
              (cond (((aa t x y).getD default).fst.e2 == (0:Int))
               (some (false,(0:Int)))
               (some (true,(0:Int)))))))
           (cond (decide (t.e1.y < t.e0.y))
            (cond (decide (((aa t x y).getD default).fst.e2 < (0:Int)))
             (some (false,(0:Int)))
             (cond (((aa t x y).getD default).fst.e2 == (0:Int))
              (some (true,(0:Int)))
              (some (true,(0:Int)))))
            (cond (t.e1.y == t.e0.y)
             (cond (decide (((aa t x y).getD default).fst.e2 < (0:Int)))
              (some (false,(0:Int)))
              (cond (((aa t x y).getD default).fst.e2 == (0:Int))
               (cond (!(decide (t.e1.x > t.e0.x)))
                (some (false,(0:Int)))
                (some (true,(0:Int))))
               (some (true,(0:Int)))))
             (cond (decide (((aa t x y).getD default).fst.e2 < (0:Int)))
              (some (false,(0:Int)))
              (cond (((aa t x y).getD default).fst.e2 == (0:Int))
               (some (false,(0:Int)))
               (some (true,(0:Int)))))))))
         (cond (t.e0.y == t.e2.y)
          (cond (decide (((aa t x y).getD default).fst.e1 < (0:Int)))
           (some (false,(0:Int)))
           (cond (((aa t x y).getD default).fst.e1 == (0:Int))
            (cond (!(decide (t.e0.x > t.e2.x)))
             (some (false,(0:Int)))
             (cond (decide (t.e1.y < t.e0.y))
              (cond (decide (((aa t x y).getD default).fst.e2 < (0:Int)))
               (some (false,(0:Int)))
               (cond (((aa t x y).getD default).fst.e2 == (0:Int))
                (some (true,(0:Int)))
                (some (true,(0:Int)))))
              (cond (t.e1.y == t.e0.y)
               (cond (decide (((aa t x y).getD default).fst.e2 < (0:Int)))
                (some (false,(0:Int)))
                (cond (((aa t x y).getD default).fst.e2 == (0:Int))
                 (cond (!(decide (t.e1.x > t.e0.x)))
                  (some (false,(0:Int)))
                  (some (true,(0:Int))))
                 (some (true,(0:Int)))))
               (cond (decide (((aa t x y).getD default).fst.e2 < (0:Int)))
                (some (false,(0:Int)))
                (cond (((aa t x y).getD default).fst.e2 == (0:Int))
                 (some (false,(0:Int)))
                 (some (true,(0:Int))))))))
            (cond (decide (t.e1.y < t.e0.y))
             (cond (decide (((aa t x y).getD default).fst.e2 < (0:Int)))
              (some (false,(0:Int)))
              (cond (((aa t x y).getD default).fst.e2 == (0:Int))
               (some (true,(0:Int)))
               (some (true,(0:Int)))))
             (cond (t.e1.y == t.e0.y)
              (cond (decide (((aa t x y).getD default).fst.e2 < (0:Int)))
               (some (false,(0:Int)))
               (cond (((aa t x y).getD default).fst.e2 == (0:Int))
                (cond (!(decide (t.e1.x > t.e0.x)))
                 (some (false,(0:Int)))
                 (some (true,(0:Int))))
                (some (true,(0:Int)))))
              (cond (decide (((aa t x y).getD default).fst.e2 < (0:Int)))
               (some (false,(0:Int)))
               (cond (((aa t x y).getD default).fst.e2 == (0:Int))
                (some (false,(0:Int)))
                (some (true,(0:Int)))))))))
          (cond (decide (((aa t x y).getD default).fst.e1 < (0:Int)))
           (some (false,(0:Int)))
           (cond (((aa t x y).getD default).fst.e1 == (0:Int))
            (some (false,(0:Int)))
            (cond (decide (t.e1.y < t.e0.y))
             (cond (decide (((aa t x y).getD default).fst.e2 < (0:Int)))
              (some (false,(0:Int)))
              (cond (((aa t x y).getD default).fst.e2 == (0:Int))
               (some (true,(0:Int)))
               (some (true,(0:Int)))))
             (cond (t.e1.y == t.e0.y)
              (cond (decide (((aa t x y).getD default).fst.e2 < (0:Int)))
               (some (false,(0:Int)))
               (cond (((aa t x y).getD default).fst.e2 == (0:Int))
                (cond (!(decide (t.e1.x > t.e0.x)))
                 (some (false,(0:Int)))
                 (some (true,(0:Int))))
                (some (true,(0:Int)))))
              (cond (decide (((aa t x y).getD default).fst.e2 < (0:Int)))
               (some (false,(0:Int)))
               (cond (((aa t x y).getD default).fst.e2 == (0:Int))
                (some (false,(0:Int)))
                (some (true,(0:Int))))))))))))))))
   none)
theorem M5 (t:aF) (x:Int) (y:Int):cm Try.prog (bx Try.prog BI BJ (fun _=>false)) 9 9 97 [c8 t,(kI .i64) x,(kI .i64) y] = (kW t x y).map (fun (r:Bool×Int)=>KV.fI [kB r.1,(kI .i64) r.2]):=by
  unfold kW
  try simp only [bu]
  kernel_rfl
def DX:List KV→KR KV:=bQ Try.prog 97 (bV (fun (r:Bool×Int)=>KV.fI [kB r.1,(kI .i64) r.2]) fun vs=>kW (cK (vs.getD 0 .av)) (intOf (vs.getD 1 .av)) (intOf (vs.getD 2 .av)))
theorem Ki (w:Nat→KV):bU Try.prog [118,3,3] w 0 = [c8 (cK (ao Try.prog (ae Try.prog ah) 118 (w 0))),(kI .i64) (intOf (ao Try.prog (ae Try.prog ah) 3 (w 1))),(kI .i64) (intOf (ao Try.prog (ae Try.prog ah) 3 (w 2)))]:=by kernel_rfl
theorem Kj:bD Try.prog 97 DX:=aR funcs mixed Kg Kh (L:=9) (n:=9) fun w=>by
  have e:aC Try.prog 97 = [118,3,3]:=by kernel_rfl
  rw [e,Ki]
  exact (M5 (cK (ao Try.prog (ae Try.prog ah) 118 (w 0))) (intOf (ao Try.prog (ae Try.prog ah) 3 (w 1))) (intOf (ao Try.prog (ae Try.prog ah) 3 (w 2)))).trans (by kernel_rfl)
def BL:List (Nat×(List KV→KR KV)):=[(99,mz),(116,IQ)]
def BM:List Lp:=[]
theorem Kk:ai Try.prog BL:=(ai.cons ll (ai.cons O2 ai.nil))
theorem Kl:ay Try.prog BM:=ay.nil
def oh (a:Int) (b:Int) (c:Int) (from_:Int) (Wo:Int):(Option (Prod Int Int)):=(ka (aH ((min (min a b) c) - (4:Int))) (8:Int))
def oi (a:Int) (b:Int) (c:Int) (from_:Int) (Wo:Int):(Option (Prod Int Int)):=(b6 (aH ((max (max a b) c) - (4:Int))) (8:Int))
def gJ (a:Int) (b:Int) (c:Int) (from_:Int) (Wo:Int):Option (Int×Int):=
  (cond (oh a b c from_ Wo).isSome
   (cond (oi a b c from_ Wo).isSome
    (some ((max ((oh a b c from_ Wo).getD default).fst from_),(min ((oi a b c from_ Wo).getD default).fst Wo)))
    none)
   none)
theorem M6 (a:Int) (b:Int) (c:Int) (from_:Int) (Wo:Int):cm Try.prog (bx Try.prog BL BM (fun _=>false)) 9 9 88 [(kI .i64) a,(kI .i64) b,(kI .i64) c,(kI .i64) from_,(kI .i64) Wo] = (gJ a b c from_ Wo).map (fun (r:Int×Int)=>KV.fI [(kI .i64) r.1,(kI .i64) r.2]):=by
  unfold gJ
  try simp only [bu]
  kernel_rfl
def DY:List KV→KR KV:=bQ Try.prog 88 (bV (fun (r:Int×Int)=>KV.fI [(kI .i64) r.1,(kI .i64) r.2]) fun vs=>gJ (intOf (vs.getD 0 .av)) (intOf (vs.getD 1 .av)) (intOf (vs.getD 2 .av)) (intOf (vs.getD 3 .av)) (intOf (vs.getD 4 .av)))
theorem Km (w:Nat→KV):bU Try.prog [3,3,3,3,3] w 0 = [(kI .i64) (intOf (ao Try.prog (ae Try.prog ah) 3 (w 0))),(kI .i64) (intOf (ao Try.prog (ae Try.prog ah) 3 (w 1))),(kI .i64) (intOf (ao Try.prog (ae Try.prog ah) 3 (w 2))),(kI .i64) (intOf (ao Try.prog (ae Try.prog ah) 3 (w 3))),(kI .i64) (intOf (ao Try.prog (ae Try.prog ah) 3 (w 4)))]:=by kernel_rfl
theorem Kn:bD Try.prog 88 DY:=aR funcs mixed Kk Kl (L:=9) (n:=9) fun w=>by
  have e:aC Try.prog 88 = [3,3,3,3,3]:=by kernel_rfl
  rw [e,Km]
  exact (M6 (intOf (ao Try.prog (ae Try.prog ah) 3 (w 0))) (intOf (ao Try.prog (ae Try.prog ah) 3 (w 1))) (intOf (ao Try.prog (ae Try.prog ah) 3 (w 2))) (intOf (ao Try.prog (ae Try.prog ah) 3 (w 3))) (intOf (ao Try.prog (ae Try.prog ah) 3 (w 4)))).trans (by kernel_rfl)
def BN:List (Nat×(List KV→KR KV)):=[(88,DY),(87,yr),(86,yq)]
def BO:List Lp:=[]
theorem Ko:ai Try.prog BN:=(ai.cons Kn (ai.cons zi (ai.cons zh ai.nil)))
theorem Kp:ay Try.prog BO:=ay.nil
def lq (t:aF) (w:dR):(Option Int):=(kA t)
def oj (t:aF) (w:dR):(Option Bool):=(jx w.x0 w.y0)
def om (t:aF) (w:dR):(Option Bool):=(jx w.x1 w.y1)
def iy (t:aF) (w:dR):(Option (Prod Int Int)):=(gJ t.e0.x t.e1.x t.e2.x w.x0 w.x1)
def iz (t:aF) (w:dR):(Option (Prod Int Int)):=(gJ t.e0.y t.e1.y t.e2.y w.y0 w.y1)
def gK (t:aF) (w:dR):Option (dR×Bool×Int):=
  (cond (lq t w).isSome
   (cond (((lq t w).getD default) != (0:Int))
    (some ((⟨(0:Int),(0:Int),(0:Int),(0:Int)⟩:dR),false,((lq t w).getD default)))
    (cond (oj t w).isSome
     (cond (!((oj t w).getD default))
      (some ((⟨(0:Int),(0:Int),(0:Int),(0:Int)⟩:dR),false,(2:Int)))
      (cond (om t w).isSome
       (cond (!((om t w).getD default))
        (some ((⟨(0:Int),(0:Int),(0:Int),(0:Int)⟩:dR),false,(2:Int)))
        (cond (decide (w.x0 > w.x1))
         (some ((⟨(0:Int),(0:Int),(0:Int),(0:Int)⟩:dR),false,(2:Int)))
         (cond (decide (w.y0 > w.y1))
          (some ((⟨(0:Int),(0:Int),(0:Int),(0:Int)⟩:dR),false,(2:Int)))
          (cond (iy t w).isSome
           (cond (iz t w).isSome
            (cond (decide (((iy t w).getD default).fst > ((iy t w).getD default).snd))
             (some ((⟨(0:Int),(0:Int),(0:Int),(0:Int)⟩:dR),false,(0:Int)))
             (cond (decide (((iz t w).getD default).fst > ((iz t w).getD default).snd))
              (some ((⟨(0:Int),(0:Int),(0:Int),(0:Int)⟩:dR),false,(0:Int)))
              (some ((⟨((iy t w).getD default).fst,((iz t w).getD default).fst,((iy t w).getD default).snd,((iz t w).getD default).snd⟩:dR),true,(0:Int)))))
            none)
           none))))
       none))
     none))
   none)
theorem M7 (t:aF) (w:dR):cm Try.prog (bx Try.prog BN BO (fun _=>false)) 9 9 55 [c8 t,Ac w] = (gK t w).map (fun (r:dR×Bool×Int)=>KV.fI [Ac r.1,kB r.2.1,(kI .i64) r.2.2]):=by
  unfold gK
  try simp only [bu]
  kernel_rfl
def rb:List KV→KR KV:=bQ Try.prog 55 (bV (fun (r:dR×Bool×Int)=>KV.fI [Ac r.1,kB r.2.1,(kI .i64) r.2.2]) fun vs=>gK (cK (vs.getD 0 .av)) (Ad (vs.getD 1 .av)))
theorem Kq (w:Nat→KV):bU Try.prog [118,70] w 0 = [c8 (cK (ao Try.prog (ae Try.prog ah) 118 (w 0))),Ac (Ad (ao Try.prog (ae Try.prog ah) 70 (w 1)))]:=by kernel_rfl
theorem rT:bD Try.prog 55 rb:=aR funcs mixed Ko Kp (L:=9) (n:=9) fun w=>by
  have e:aC Try.prog 55 = [118,70]:=by kernel_rfl
  rw [e,Kq]
  exact (M7 (cK (ao Try.prog (ae Try.prog ah) 118 (w 0))) (Ad (ao Try.prog (ae Try.prog ah) 70 (w 1)))).trans (by kernel_rfl)
def M8:List (Nat×(List KV→KR KV)):=[(99,mz),(98,yu),(97,DX)]
def M9:List Lp:=[]
theorem U6:ai Try.prog M8:=(ai.cons ll (ai.cons zj (ai.cons Kj ai.nil)))
theorem U7:ay Try.prog M9:=ay.nil
def qL (t:aF) (x:Int) (y:Int):(Option (Prod Bool Int)):=(kW t x y)
def b9 (t:aF) (x:Int) (y:Int):(Option (Prod dc Int)):=(iw t x y)
def Ao (t:aF) (x:Int) (y:Int):(Option (Prod Int Int)):=(b6 (aH ((aH ((aH ((0:Int)+(aH ((aH (((b9 t x y).getD default).fst.e0 * t.e0.d)) * (1:Int)))))+(aH ((aH (((b9 t x y).getD default).fst.e1 * t.e1.d)) * (1:Int)))))+(aH ((aH (((b9 t x y).getD default).fst.e2 * t.e2.d)) * (1:Int))))) (aH ((aH ((aH ((0:Int)+((b9 t x y).getD default).fst.e0))+((b9 t x y).getD default).fst.e1))+((b9 t x y).getD default).fst.e2)))
def Ap (t:aF) (x:Int) (y:Int):(Option (Prod Int Int)):=(b6 (aH ((aH ((aH ((0:Int)+(aH ((aH (((b9 t x y).getD default).fst.e0 * t.e0.d)) * t.e0.u))))+(aH ((aH (((b9 t x y).getD default).fst.e1 * t.e1.d)) * t.e1.u))))+(aH ((aH (((b9 t x y).getD default).fst.e2 * t.e2.d)) * t.e2.u)))) (aH ((aH ((aH ((0:Int)+(aH ((aH (((b9 t x y).getD default).fst.e0 * t.e0.d)) * (1:Int)))))+(aH ((aH (((b9 t x y).getD default).fst.e1 * t.e1.d)) * (1:Int)))))+(aH ((aH (((b9 t x y).getD default).fst.e2 * t.e2.d)) * (1:Int))))))
def Aq (t:aF) (x:Int) (y:Int):(Option (Prod Int Int)):=(b6 (aH ((aH ((aH ((0:Int)+(aH ((aH (((b9 t x y).getD default).fst.e0 * t.e0.d)) * t.e0.v))))+(aH ((aH (((b9 t x y).getD default).fst.e1 * t.e1.d)) * t.e1.v))))+(aH ((aH (((b9 t x y).getD default).fst.e2 * t.e2.d)) * t.e2.v)))) (aH ((aH ((aH ((0:Int)+(aH ((aH (((b9 t x y).getD default).fst.e0 * t.e0.d)) * (1:Int)))))+(aH ((aH (((b9 t x y).getD default).fst.e1 * t.e1.d)) * (1:Int)))))+(aH ((aH (((b9 t x y).getD default).fst.e2 * t.e2.d)) * (1:Int))))))
def o5 (t:aF) (x:Int) (y:Int):Option (cr×Int):=
  (cond (qL t x y).isSome
   (cond (((qL t x y).getD default).snd != (0:Int))
    (some ((⟨(0:Int),(0:Int),(0:Int),(0:Int),(0:Int)⟩:cr),((qL t x y).getD default).snd))
    (cond (!((qL t x y).getD default).fst)
     (some ((⟨(0:Int),(0:Int),(0:Int),(0:Int),(0:Int)⟩:cr),(6:Int)))
     (cond (b9 t x y).isSome
      (cond (((b9 t x y).getD default).snd != (0:Int))
       (some ((⟨(0:Int),(0:Int),(0:Int),(0:Int),(0:Int)⟩:cr),((b9 t x y).getD default).snd))
       (cond (Ao t x y).isSome
        (cond (Ap t x y).isSome
         (cond (Aq t x y).isSome
          (some ((⟨(aH ((aH ((8:Int) * x))+(4:Int))),(aH ((aH ((8:Int) * y))+(4:Int))),((Ao t x y).getD default).fst,((Ap t x y).getD default).fst,((Aq t x y).getD default).fst⟩:cr),(0:Int)))
          none)
         none)
        none))
      none)))
   none)
theorem Wp (t:aF) (x:Int) (y:Int):cm Try.prog (bx Try.prog M8 M9 (fun _=>false)) 9 9 66 [c8 t,(kI .i64) x,(kI .i64) y] = (o5 t x y).map (fun (r:cr×Int)=>KV.fI [O8 r.1,(kI .i64) r.2]):=by
  unfold o5
  try simp only [bu]
  kernel_rfl
def Gs:List KV→KR KV:=bQ Try.prog 66 (bV (fun (r:cr×Int)=>KV.fI [O8 r.1,(kI .i64) r.2]) fun vs=>o5 (cK (vs.getD 0 .av)) (intOf (vs.getD 1 .av)) (intOf (vs.getD 2 .av)))
theorem U8 (w:Nat→KV):bU Try.prog [118,3,3] w 0 = [c8 (cK (ao Try.prog (ae Try.prog ah) 118 (w 0))),(kI .i64) (intOf (ao Try.prog (ae Try.prog ah) 3 (w 1))),(kI .i64) (intOf (ao Try.prog (ae Try.prog ah) 3 (w 2)))]:=by kernel_rfl
theorem Gu:bD Try.prog 66 Gs:=aR funcs mixed U6 U7 (L:=9) (n:=9) fun w=>by
  have e:aC Try.prog 66 = [118,3,3]:=by kernel_rfl
  rw [e,U8]
  exact (Wp (cK (ao Try.prog (ae Try.prog ah) 118 (w 0))) (intOf (ao Try.prog (ae Try.prog ah) 3 (w 1))) (intOf (ao Try.prog (ae Try.prog ah) 3 (w 2)))).trans (by kernel_rfl)
end
end Go.Proofs.Ytahhdndhkgbcjaa.b
end
