/- Part of the proof of BinsMeet: a machine that runs the program's code over open terms, shown to be the model's, and the plain models of its functions. No conditions. -/
import Derived.Test.YtahhdndhkgbcjaaBp
import Derived.MapKept
import Derived.Laws.IdiomStrings
import Derived.OrdersIn
section
namespace Go.aV
open Go
section
variable {P:Program} {o:Oper}
theorem s4 {ρ:aw} {A:St} {base:Nat} {w:World} {r:Nat} {es kx:List (Value×Value)} {w6:Array MapEntry} {vt:Nat} {l:Loc} (hs:fU ρ A base w) (hg:A.get r=some (.map es)) (eK:ρ r=some l)
    (hm:dG ρ kx w6.toList):b7 base ρ A w ρ (A.put r (.map kx)) { w with heap:=w.heap.setIfInBounds l.cb (.map w6 vt) }:=by
  obtain ⟨l',gN,ok⟩:=hs.rel.map _ _ hg
  rw [eK] at gN; simp at gN; subst gN
  obtain ⟨aU,clock,jl,_⟩:=ok.gL
  have aY:l.cb < w.heap.size:=(Array.getElem?_eq_some_iff.1 jl).1
  have s5:bf.bO (.map es)=true:=rfl
  have hold:∀ k,k≠l.cb→(w.heap.setIfInBounds l.cb (.map w6 vt))[k]? = w.heap[k]?:=fun k hk=>by
    rw [Array.getElem?_setIfInBounds_ne (Ne.symm hk)]
  have cA:(w.heap.setIfInBounds l.cb (.map w6 vt)).size=w.heap.size:=by simp
  have hB:∀ x,(A.put r (.map kx)).get x=if x=r then some (.map kx) else A.get x:=fun x=>St.bt _ _ _ _
  have hmd:∀ o:bf,o.bO=true→o≠.dead:=by intro o h e; subst e; simp [bf.bO] at h
  have ET:∀ x o l2,x≠r→A.get x=some o→o≠.dead→ρ x=some l2→mh ρ base w l2 o→l2.cb≠l.cb:=by
    intro x o l2 hx dy hd kQ dZ e
    cases E4:o.bO with
    | true=>
      obtain ⟨_,_,_,_,e1,_⟩:=hs.rel.apart x r o _ l2 l hx dy hg E4 s5 kQ eK e
      simp [bf.fJ] at e1
    | false=>
      cases o with
      | row cs a8 own a9=>
        have dZ:uF ρ base w l2 cs a8 own a9:=dZ
        have h1:own=false:=E4
        have:=dZ.kv h1
        have:=ok.bO
        omega
      | map _=>simp [bf.bO] at E4
      | iter _ _=>simp [bf.bO] at E4
      | dead=>exact hd rfl
      | loop _ _ _ _ _ _=>simp [bf.bO] at E4
  refine ⟨⟨.po ?_ ?_ ?_,fun b l2 h=>hs.eS b l2 h,by simpa using hs.size,hs.jO⟩,fun _ _=>rfl,⟨rfl,rfl,rfl,Nat.le_of_eq cA.symm,fun k hk hn=>hold k (fun e=>hn ⟨r,_,l,hg,s5,eK,e.symm⟩)⟩,Nat.le_refl _,Nat.min_le_left _ _,fun x hx hxl=>?_,?_⟩
  · intro x o dy hd
    rw [hB] at dy
    split at dy
    · rename_i e; subst e; simp at dy; subst dy
      refine ⟨l,eK,ok.bO,w6,vt,?_,hm⟩
      show (w.heap.setIfInBounds l.cb (.map w6 vt))[l.cb]? = _
      rw [Array.getElem?_setIfInBounds_self_of_lt aY]
    · rename_i e
      obtain ⟨l2,kQ,dZ⟩:=hs.rel.obj dy hd
      exact ⟨l2,kQ,dZ.eU (aw.le_refl _) (hold _ (ET x o l2 e dy hd kQ dZ)) (Nat.le_of_eq cA.symm)⟩
  · have EU:∀ x o,(A.put r (.map kx)).get x=some o→o.bO=true→∃ o',A.get x=some o'∧o'.bO=true∧o'.fJ=o.fJ:=by
      intro x o hx hm
      rw [hB] at hx
      split at hx
      · rename_i e; subst e; simp at hx; subst hx; exact ⟨_,hg,rfl,rfl⟩
      · exact ⟨o,hx,hm,rfl⟩
    intro b1 b2 o1 o2 l1 l2 bo g1 g2 m1 m2 r1 r2 vU
    obtain ⟨p1,q1,n1,k1⟩:=EU _ _ g1 m1
    obtain ⟨p2,q2,n2,k2⟩:=EU _ _ g2 m2
    rw [← k1,← k2]
    exact hs.rel.apart b1 b2 p1 p2 l1 l2 bo q1 q2 n1 n2 r1 r2 vU
  · intro x o aJ f dy hk
    rw [hB] at dy
    split at dy
    · rename_i e; subst e; simp at dy; subst dy; simp [bf.fJ] at hk
    · exact hs.rel.aW x o aJ f dy hk
  · rw [St.K2] at hxl
    have:Nat.min A.low r≤r:=Nat.min_le_right _ _
    rw [hB,if_neg (by omega)]
  · rintro k hk ⟨x,o,l2,dy,hm,kQ,rfl⟩
    rw [hB] at dy
    split at dy
    · rename_i e; subst e
      rw [eK] at kQ; simp at kQ; subst kQ
      exact ⟨x,_,l,hg,s5,eK,rfl⟩
    · exact ⟨x,o,l2,dy,hm,kQ,rfl⟩
theorem dG.length {ρ:aw} : ∀ {es:List (Value×Value)} {l:List MapEntry},dG ρ es l→l.length=es.length
  | [],l,h=>by simp only [dG] at h; subst h; rfl
  | (k,v) :: es,l,h=>by
    simp only [dG] at h
    obtain ⟨e,r,rfl,_,_,h⟩:=h
    simp [dG.length h]
theorem dG.get {ρ:aw} : ∀ {es:List (Value×Value)} {l:List MapEntry},dG ρ es l→∀ (i:Nat) (k v:Value),es[i]? = some (k,v)→∃ e,l[i]? = some e∧VR ρ k e.key∧VR ρ v e.val
  | [],l,h,i,k,v,hi=>by simp at hi
  | (k,v) :: es,l,h,i,k',v',hi=>by
    simp only [dG] at h
    obtain ⟨e,r,rfl,h1,h2,h⟩:=h
    cases i with
    | zero=>simp at hi; obtain ⟨rfl,rfl⟩:=hi; exact ⟨e,rfl,h1,h2⟩
    | succ i=>simp at hi; simpa using dG.get h i k' v' hi
theorem dG.append {ρ:aw} : ∀ {es:List (Value×Value)} {l:List MapEntry} {k v:Value} {e:MapEntry},dG ρ es l→VR ρ k e.key→VR ρ v e.val→dG ρ (es ++ [(k,v)]) (l ++ [e])
  | [],l,k,v,e,h,h1,h2=>by
    simp only [dG] at h; subst h
    simp only [List.nil_append,dG]
    exact ⟨e,[],rfl,h1,h2,rfl⟩
  | (k0,v0) :: es,l,k,v,e,h,h1,h2=>by
    simp only [dG] at h
    obtain ⟨e0,r,rfl,h3,h4,h⟩:=h
    simp only [List.cons_append,dG]
    exact ⟨e0,r ++ [e],rfl,h3,h4,dG.append h h1 h2⟩
theorem dG.modify {ρ:aw} : ∀ {es:List (Value×Value)} {l:List MapEntry} {k v:Value} (f:MapEntry→MapEntry) (i:Nat),dG ρ es l→(∀ e,VR ρ k (f e).key∧VR ρ v (f e).val)→dG ρ (es.set i (k,v)) (l.modify i f)
  | [],l,k,v,f,i,h,_=>by simp only [dG] at h; subst h; simp [dG]
  | (k0,v0) :: es,l,k,v,f,i,h,hf=>by
    simp only [dG] at h
    obtain ⟨e0,r,rfl,h3,h4,h⟩:=h
    cases i with
    | zero=>simp only [List.set_cons_zero,List.modify_zero_cons,dG]; exact ⟨_,r,rfl,(hf e0).1,(hf e0).2,h⟩
    | succ i=>simp only [List.set_cons_succ,List.modify_succ_cons,dG]; exact ⟨e0,_,rfl,h3,h4,dG.modify f i h hf⟩
theorem dG.erase {ρ:aw} : ∀ {es:List (Value×Value)} {l:List MapEntry} (i:Nat),dG ρ es l→dG ρ (es.eraseIdx i) (l.eraseIdx i)
  | [],l,i,h=>by simp only [dG] at h; subst h; simp [dG]
  | (k0,v0) :: es,l,i,h=>by
    simp only [dG] at h
    obtain ⟨e0,r,rfl,h3,h4,h⟩:=h
    cases i with
    | zero=>simpa using h
    | succ i=>simp only [List.eraseIdx_cons_succ,dG]; exact ⟨e0,_,rfl,h3,h4,dG.erase i h⟩
def FR (ρ:aw):Option (Nat×Value)→Option (Nat×Value)→Prop
  | none,r=>r=none
  | some (i,v),r=>∃ v',r=some (i,v')∧VR ρ v v'
theorem Lc {ρ:aw} (d:TypeDesc) (k:Value):∀ (es:List (Value×Value)) (l:List MapEntry) (i:Nat),dG ρ es l→nM es=true→
    (uD d k es i=none→Instr.findNow d k l i=none)∧∀ r,uD d k es i=some r→∃ r',Instr.findNow d k l i=some r'∧FR ρ r r'
  | [],l,i,h,_=>by
    simp only [dG] at h; subst h
    exact ⟨fun h=>by simp [uD] at h,fun r hr=>by simp [uD] at hr; subst hr; exact ⟨none,rfl,rfl⟩⟩
  | (k0,v0) :: es,l,i,h,hf=>by
    simp only [dG] at h
    obtain ⟨e0,r0,rfl,h3,h4,h⟩:=h
    simp only [nM,Bool.and_eq_true] at hf
    have hk:e0.key=k0:=h3.ib hf.1
    have ih:=Lc d k es r0 (i+1) h hf.2
    simp only [uD,Instr.findNow,hk]
    cases hsn:Instr.sameNow d k k0 with
    | none=>exact ⟨fun _=>rfl,fun r hr=>by simp at hr⟩
    | some b=>
      cases b with
      | true=>exact ⟨fun h=>by simp at h,fun r hr=>by simp at hr; subst hr; exact ⟨_,rfl,_,rfl,h4⟩⟩
      | false=>exact ih
theorem Ld {ρ:aw} (kt:TypeId) (k:Value):∀ (es:List (Value×Value)) (l:List MapEntry) (i:Nat),dG ρ es l→nM es=true→
    ∀ r,AE P kt k es i=some r→∃ r',(∀ w,(Instr.findAsking kt k l i).run P w = .ok r' w)∧FR ρ r r'
  | [],l,i,h,_=>by
    simp only [dG] at h; subst h
    intro r hr
    simp [AE] at hr; subst hr; exact ⟨none,fun w=>rfl,rfl⟩
  | (k0,v0) :: es,l,i,h,hf=>by
    simp only [dG] at h
    obtain ⟨e0,r0,rfl,h3,h4,h⟩:=h
    simp only [nM,Bool.and_eq_true] at hf
    have hk:e0.key=k0:=h3.ib hf.1
    intro r hr
    simp only [AE] at hr
    split at hr
    · rename_i he
      simp at hr; subst hr
      refine ⟨some (i,e0.val),fun w=>?_,_,rfl,h4⟩
      simp [Instr.findAsking,hk,dU he w]
    · rename_i he
      obtain ⟨r',h5,h6⟩:=Ld kt k es r0 (i+1) h hf.2 r hr
      refine ⟨r',fun w=>?_,h6⟩
      simp only [Instr.findAsking,hk,Sem.run_bind,dU he w,Result.andThen_ok]
      exact h5 w
    · simp at hr
theorem Ct {ρ:aw} {kt:TypeId} {d:TypeDesc} {k:Value} {es:List (Value×Value)} {l:List MapEntry} {r:Option (Nat×Value)} (hd:P.underlying kt=some d) (h:dG ρ es l) (hf:nM es=true) (hr:Sn P kt d k es=some r) :
    ∃ r',(∀ w,(Instr.findKey kt k l).run P w = .ok r' w)∧FR ρ r r':=by
  have hn:=Lc d k es l 0 h hf
  unfold Sn at hr
  split at hr
  · rename_i q hq
    simp at hr; subst hr
    obtain ⟨r',h1,h2⟩:=hn.2 _ hq
    refine ⟨r',fun w=>?_,h2⟩
    simp only [Instr.findKey,Sem.run_bind,aX hd,Result.andThen_ok,h1]
    rfl
  · rename_i hq
    have h1:=hn.1 hq
    obtain ⟨r',h2,h3⟩:=Ld kt k es l 0 h hf r hr
    refine ⟨r',fun w=>?_,h3⟩
    simp only [Instr.findKey,Sem.run_bind,aX hd,Result.andThen_ok,h1]
    exact h2 w
theorem xi {ρ:aw} {kt:TypeId} {b:Bool} {k k' : Value} {es:List (Value×Value)} (h:zy P kt b k es=true) (hk:VR ρ k k'):k' = k∧flat k=true∧nM es=true∧∀ w,(Instr.checkKey b 10000 kt k).run P w = .ok () w:=by
  unfold zy at h
  simp only [Bool.and_eq_true] at h
  obtain ⟨⟨h1,h2⟩,h3⟩:=h
  cases hp:bM P (Instr.checkKey b 10000 kt k) with
  | none=>rw [hp] at h3; simp at h3
  | some u=>exact ⟨hk.ib h1,h1,h2,fun w=>dU hp w⟩
theorem dG.isEmpty {ρ:aw} {es:List (Value×Value)} {l:Array MapEntry} (h:dG ρ es l.toList):l.isEmpty=es.isEmpty:=by
  have:=h.length
  cases es with
  | nil=>simp at this; simpa using this
  | cons e es=>simp at this; simp; intro h; rw [h] at this; simp at this
theorem VR.E5 {ρ:aw} {r:Nat} {v:Value} (h:VR ρ (.map (some r)) v):∃ l,ρ r=some l∧v = .map (some l.cb):=by simpa only [VR] using h
theorem VR.xj {ρ:aw} {v:Value} (h:VR ρ (.map none) v):v = .map none:=by simpa only [VR] using h
theorem VR.WC {ρ:aw} {ok b:Bool} {v v' : Value} (h:VR ρ v v'):VR ρ (WC ok v b) (if ok then .tuple #[v',.bool b] else v'):=by
  cases ok with
  | true=>exact VR.mkTuple (.cons h (.cons (VR.of_flat rfl) .nil))
  | false=>exact h
theorem ZX {t:TypeId} {r:Option Operand} (ho:o.op = .makeMap t r):dM P o (EJ P t r):=by
  unfold EJ
  split
  · rename_i kt et hu
    intro ρ ev bF obj mk he hf
    have iR:obj = .map []∧mk=fun n=>.map (some n):=by
      unfold NX at hf
      split at hf
      · simp at hf; exact ⟨hf.1.symm,hf.2.symm⟩
      · simp at hf; exact ⟨hf.1.symm,hf.2.symm⟩
      · simp at hf
    obtain ⟨rfl,rfl⟩:=iR
    refine ⟨.map #[] 0,fun n=>.map (some n),rfl,fun w=>?_,fun aq n cb h=>by simp only [VR]; exact ⟨_,h,rfl⟩⟩
    cases r with
    | none=>simp [execOp,ho,Instr.makeMap]
    | some x=>
      have hx:=he x (by simp [da])
      unfold NX at hf
      simp only [da,List.map] at hf
      split at hf
      · rename_i e; simp at e
      · rename_i k n e
        simp at e
        rw [e] at hx
        simp [execOp,ho,Instr.makeMap,hx.bW,aX hu,asInt,asIntOf]
      · simp at hf
  · trivial
theorem A5 {ρ:aw} {kt et:TypeId} {d:TypeDesc} {z v k k' : Value} {ok:Bool} {es:List (Value×Value)} {l:Array MapEntry} (hd:P.underlying kt=some d) (hz:kr P et=some z) (hzf:flat z=true)
    (hm:dG ρ es l.toList) (hk:VR ρ k k') (h:Cd P kt d z ok k es=some v) :
    ∃ v',VR ρ v v'∧∀ w,(do
      Instr.checkKey l.isEmpty 10000 kt k'
      let (v,b) ← match ← Instr.findKey kt k' l.toList with
        | some (_,v)=>pure (v,true)
        | none=>pure (← zeroValue et,false)
      pure (if ok then Value.tuple #[v,.bool b] else v):Sem Value).run P w = .ok v' w:=by
  unfold Cd at h
  cases hc:zy P kt es.isEmpty k es with
  | false=>rw [hc] at h; simp at h
  | true=>
    rw [hc,cond_true] at h
    obtain ⟨rfl,_,hkf,EV⟩:=xi hc hk
    obtain ⟨r,hr,rfl⟩:=Option.map_eq_some_iff.1 h
    obtain ⟨r',h1,h2⟩:=Ct hd hm hkf hr
    rw [hm.isEmpty]
    cases r with
    | none=>
      have h2:r' = none:=h2
      subst h2
      refine ⟨_,VR.WC (VR.of_flat hzf),fun w=>?_⟩
      simp [EV,h1,Hf hz]
    | some p=>
      obtain ⟨i,u⟩:=p
      obtain ⟨u',rfl,h3⟩:=h2
      refine ⟨_,VR.WC h3,fun w=>?_⟩
      simp [EV,h1]
theorem ab6 {t:TypeId} {x ix:Operand} {ok:Bool} (ho:o.op = .lookup t x ix ok):dM P o (Jp P t x ix ok):=by
  unfold Jp
  split
  · rename_i kt et hu
    split
    · rename_i d z hd hz
      cases hzf:flat z with
      | false=>exact True.intro
      | true=>
        rw [cond_true]
        intro ρ A base w ev bF v hs he hf
        have hx:=he x (by simp)
        have hk:=he ix (by simp)
        simp only [List.map] at hf
        unfold Zx at hf
        split at hf
        · rename_i k e
          simp at e
          obtain ⟨e1,e2⟩:=e
          rw [e1] at hx
          have hx:=hx.xj
          rw [← e2] at hf
          obtain ⟨v',h1,h2⟩:=A5 (ρ:=ρ) (l:=#[]) hd hz hzf (by simp [dG]) hk hf
          refine ⟨v',h1,?_⟩
          have h2:=h2 w
          simp only [execOp,ho,Instr.lookup,Sem.run_bind,aX hu,Result.andThen_ok,hx,Sem.run_pure] at h2 ⊢
          exact congrArg (fun r:Result Value=>r.andThen fun a w'=>Result.ok (Next.value a) w') h2
        · rename_i r k e
          simp at e
          obtain ⟨e1,e2⟩:=e
          rw [e1] at hx
          rw [← e2] at hf
          obtain ⟨lc,hl,hx⟩:=hx.E5
          split at hf
          · rename_i es hg
            obtain ⟨l2,hY,dZ⟩:=hs.map _ _ hg
            rw [hl] at hY; simp at hY; subst hY
            obtain ⟨aU,clock,jl,hm⟩:=dZ.gL
            obtain ⟨v',h1,h2⟩:=A5 (l:=aU) hd hz hzf hm hk hf
            refine ⟨v',h1,?_⟩
            have h2:=h2 w
            simp only [execOp,ho,Instr.lookup,Sem.run_bind,aX hu,Result.andThen_ok,hx,MapKept.run_getObj_map jl,Sem.run_pure] at h2 ⊢
            exact congrArg (fun r:Result Value=>r.andThen fun a w'=>Result.ok (Next.value a) w') h2
          · simp at hf
        · simp at hf
    · trivial
  · trivial
theorem Le {ρ:aw} {A B:St} {base:Nat} {w:World} {t kt et:TypeId} {d:TypeDesc} {m k x m' k' x' v:Value} (hu:P.underlying t=some (.map kt et)) (hd:P.underlying kt=some d) (hs:fU ρ A base w)
    (hm:VR ρ m m') (hk:VR ρ k k') (hx:VR ρ x x') (h:EI P kt d A [m,k,x] = some (v,B)):v=undef∧∃ w',(Instr.mapUpdate t m' k' x').run P w = .ok () w'∧b7 base ρ A w ρ B w':=by
  unfold EI at h
  split at h
  · rename_i r k0 x0 e
    simp at e
    obtain ⟨rfl,rfl,rfl⟩:=e
    obtain ⟨lc,hl,rfl⟩:=hm.E5
    split at h
    · rename_i es hg
      obtain ⟨l2,hY,dZ⟩:=hs.rel.map _ _ hg
      rw [hl] at hY; simp at hY; subst hY
      obtain ⟨aU,clock,jl,Og⟩:=dZ.gL
      cases hc:zy P kt false k es with
      | false=>rw [hc] at h; simp at h
      | true=>
        rw [hc,cond_true] at h
        obtain ⟨rfl,hkf0,hkf,EV⟩:=xi hc hk
        obtain ⟨q,hq,h⟩:=Option.bind_eq_some_iff.1 h
        obtain ⟨r',h1,h2⟩:=Ct hd Og hkf hq
        cases q with
        | none=>
          have h2:r' = none:=h2
          subst h2
          simp at h
          obtain ⟨rfl,rfl⟩:=h
          refine ⟨rfl,_,?_,s4 (w6:=aU.push { key:=k',val:=x',born:=clock }) (vt:=clock+1) hs hg hl (by rw [Array.toList_push]; exact Og.append hk hx)⟩
          simp [Instr.mapUpdate,aX hu,MapKept.run_getObj_map jl,EV,h1,MapKept.run_setObj_map _ jl]
        | some p=>
          obtain ⟨i,u⟩:=p
          obtain ⟨u',rfl,h3⟩:=h2
          simp only at h
          cases hsb:Instr.sameBits 10000 (Xz es i k') k' with
          | false=>rw [hsb] at h; simp at h
          | true=>
            rw [hsb] at h
            simp at h
            obtain ⟨rfl,rfl⟩:=h
            have hold:((aU[i]?).map (·.key)).getD k' = Xz es i k':=by
              unfold Xz
              cases hi:es[i]? with
              | none=>
                have:aU[i]? = none:=by
                  rw [Array.getElem?_eq_none_iff]
                  have:=List.getElem?_eq_none_iff.1 hi
                  rw [← Array.length_toList,Og.length]; exact this
                rw [this]; rfl
              | some p=>
                obtain ⟨k1,v1⟩:=p
                obtain ⟨e,h5,h6,h7⟩:=Og.get i k1 v1 hi
                have h5' : aU[i]? = some e:=by simpa using h5
                have HK:flat k1=true:=by
                  have key:∀ (es:List (Value×Value)) (i:Nat),nM es=true→es[i]? = some (k1,v1)→flat k1=true:=by
                    intro es
                    induction es with
                    | nil=>intro i _ h; simp at h
                    | cons e es ih=>
                      intro i hk h
                      simp only [nM,Bool.and_eq_true] at hk
                      cases i with
                      | zero=>simp at h; subst h; exact hk.1
                      | succ i=>exact ih i hk.2 (by simpa using h)
                  exact key es i hkf hi
                rw [h5']
                simp only [Option.map_some,Option.getD_some]
                exact h6.ib HK
            refine ⟨rfl,_,?_,s4 (w6:=aU.modify i fun e=>{ e with key:=k',val:=x' }) (vt:=clock) hs hg hl (by rw [Array.toList_modify]; exact Og.modify _ i fun e=>⟨hk,hx⟩)⟩
            simp [Instr.mapUpdate,aX hu,MapKept.run_getObj_map jl,EV,h1,hold,Instr.keyThatStays,hsb,MapKept.run_setObj_map _ jl]
    · simp at h
  · simp at h
theorem Ih {t:TypeId} {m k x:Operand} (ho:o.op = .mapUpdate t m k x∨o.op = .insert t m k x):dM P o (vm P t m k x):=by
  unfold vm
  split
  · rename_i kt et hu
    split
    · rename_i d hd
      intro ρ A B base w ev bF v hs he hf
      simp only [List.map] at hf
      obtain ⟨rfl,w',h1,h2⟩:=Le hu hd hs (he m (by simp)) (he k (by simp)) (he x (by simp)) hf
      refine ⟨ρ,undef,.skip,w',?_,rfl,VR.of_flat (by simp [undef,flat,sL,kO]),h2⟩
      rcases ho with ho | ho <;> simp [execOp,ho,h1]
    · trivial
  · trivial
theorem oO:flat fT=true:=rfl
theorem ab7 {argTypes:Array TypeId} {args:Array Operand} (ho:o.op = .call ⟨.builtin .delete,args,argTypes⟩):dM P o (Jq P argTypes.toList args.toList):=by
  unfold Jq
  split
  · rename_i t rest rB
    have DA:argTypes[0]? = some t:=by rw [← Array.getElem?_toList,rB]; rfl
    split
    · rename_i kt et hu
      split
      · rename_i d hd
        intro ρ A B base w ev bF v hs he hf
        have hm:=he.map
        unfold Zy at hf
        split at hf
        · rename_i k e1
          rw [e1] at hm
          obtain ⟨m',r1,e2,SS,hm⟩:=hm.cons_inv
          obtain ⟨k',r2,e3,hkv,hm⟩:=hm.cons_inv
          have:=hm.bh
          subst this e3
          have e4:args.map bF = #[m',k']:=by apply Array.ext'; simpa using e2
          have:=SS.xj
          subst this
          cases hc:zy P kt true k [] with
          | false=>rw [hc] at hf; simp at hf
          | true=>
            rw [hc] at hf
            simp at hf
            obtain ⟨rfl,rfl⟩:=hf
            obtain ⟨rfl,_,hkf,EV⟩:=xi hc hkv
            refine ⟨ρ,fT,.value fT,w,?_,rfl,VR.of_flat oO,.refl hs⟩
            simp [execOp,ho,resolve,invoke,builtin,e4,Builtin.delete_,DA,aX hu,EV,fT]
        · rename_i r k e1
          rw [e1] at hm
          obtain ⟨m',r1,e2,SS,hm⟩:=hm.cons_inv
          obtain ⟨k',r2,e3,hkv,hm⟩:=hm.cons_inv
          have:=hm.bh
          subst this e3
          have e4:args.map bF = #[m',k']:=by apply Array.ext'; simpa using e2
          obtain ⟨lc,hl,rfl⟩:=SS.E5
          split at hf
          · rename_i es hg
            obtain ⟨l2,hY,dZ⟩:=hs.rel.map _ _ hg
            rw [hl] at hY; simp at hY; subst hY
            obtain ⟨aU,clock,jl,Og⟩:=dZ.gL
            cases hc:zy P kt es.isEmpty k es with
            | false=>rw [hc] at hf; simp at hf
            | true=>
              rw [hc,cond_true] at hf
              obtain ⟨rfl,_,hkf,EV⟩:=xi hc hkv
              obtain ⟨q,hq,A6⟩:=Option.map_eq_some_iff.1 hf
              obtain ⟨r',h1,h2⟩:=Ct hd Og hkf hq
              rw [← Og.isEmpty] at EV
              cases q with
              | none=>
                have h2:r' = none:=h2
                subst h2
                simp at A6
                obtain ⟨rfl,rfl⟩:=A6
                refine ⟨ρ,fT,.value fT,_,?_,rfl,VR.of_flat oO,s4 (w6:=aU) (vt:=clock) hs hg hl Og⟩
                simp [execOp,ho,resolve,invoke,builtin,e4,Builtin.delete_,DA,aX hu,MapKept.run_getObj_map jl,EV,h1,MapKept.run_setObj_map _ jl,fT]
              | some p=>
                obtain ⟨i,u⟩:=p
                obtain ⟨u',rfl,h3⟩:=h2
                simp at A6
                obtain ⟨rfl,rfl⟩:=A6
                refine ⟨ρ,fT,.value fT,_,?_,rfl,VR.of_flat oO,s4 (w6:=aU.eraseIdxIfInBounds i) (vt:=clock) hs hg hl (by rw [Array.toList_eraseIdxIfInBounds]; exact Og.erase i)⟩
                simp [execOp,ho,resolve,invoke,builtin,e4,Builtin.delete_,DA,aX hu,MapKept.run_getObj_map jl,EV,h1,MapKept.run_setObj_map _ jl,fT]
          · simp at hf
        · simp at hf
      · trivial
    · trivial
  · trivial
theorem ael {argTypes:Array TypeId} {args:Array Operand} (ho:o.op = .call ⟨.builtin .clear,args,argTypes⟩):dM P o (NY P argTypes.toList args.toList):=by
  unfold NY
  split
  · rename_i t rB
    have DA:argTypes[0]? = some t:=by rw [← Array.getElem?_toList,rB]; rfl
    split
    · rename_i kt et hu
      intro ρ A B base w ev bF v hs he hf
      have hm:=he.map
      unfold Sp at hf
      split at hf
      · rename_i e1
        simp at hf
        obtain ⟨rfl,rfl⟩:=hf
        rw [e1] at hm
        obtain ⟨m',r1,e2,SS,hm⟩:=hm.cons_inv
        have:=hm.bh
        subst this
        have e4:args.map bF = #[m']:=by apply Array.ext'; simpa using e2
        have:=SS.xj
        subst this
        refine ⟨ρ,fT,.value fT,w,?_,rfl,VR.of_flat oO,.refl hs⟩
        simp [execOp,ho,resolve,invoke,builtin,e4,Builtin.clear_,DA,aX hu,fT]
      · rename_i r e1
        rw [e1] at hm
        obtain ⟨m',r1,e2,SS,hm⟩:=hm.cons_inv
        have:=hm.bh
        subst this
        have e4:args.map bF = #[m']:=by apply Array.ext'; simpa using e2
        obtain ⟨lc,hl,rfl⟩:=SS.E5
        split at hf
        · rename_i es hg
          simp at hf
          obtain ⟨rfl,rfl⟩:=hf
          obtain ⟨l2,hY,dZ⟩:=hs.rel.map _ _ hg
          rw [hl] at hY; simp at hY; subst hY
          obtain ⟨aU,clock,jl,Og⟩:=dZ.gL
          refine ⟨ρ,fT,.value fT,_,?_,rfl,VR.of_flat oO,s4 (w6:=#[]) (vt:=clock) hs hg hl rfl⟩
          simp [execOp,ho,resolve,invoke,builtin,e4,Builtin.clear_,DA,aX hu,MapKept.run_getObj_map jl,MapKept.run_setObj_map _ jl,fT]
        · simp at hf
      · simp at hf
    · rename_i e hu
      split
      · rename_i z hz
        cases hzc:(flat z && Nat.ble 1 z.cells.size) with
        | false=>exact True.intro
        | true=>
          rw [cond_true]
          obtain ⟨HJ,wH⟩:=Bool.and_eq_true_iff.1 hzc
          have wH:=Nat.le_of_ble_eq_true wH
          intro ρ A B base w ev bF v hs he hf
          have hm:=he.map
          unfold WD at hf
          split at hf
          · rename_i n c e1
            simp at hf
            obtain ⟨rfl,rfl⟩:=hf
            rw [e1] at hm
            obtain ⟨m',r1,e2,SS,hm⟩:=hm.cons_inv
            have:=hm.bh
            subst this
            have e4:args.map bF = #[m']:=by apply Array.ext'; simpa using e2
            have:=SS.eO
            subst this
            refine ⟨ρ,fT,.value fT,w,?_,rfl,VR.of_flat oO,.refl hs⟩
            simp [execOp,ho,resolve,invoke,builtin,e4,Builtin.clear_,DA,aX hu,fT]
          · rename_i a n c e1
            rw [e1] at hm
            obtain ⟨m',r1,e2,SS,hm⟩:=hm.cons_inv
            have:=hm.bh
            subst this
            have e4:args.map bF = #[m']:=by apply Array.ext'; simpa using e2
            obtain ⟨vV,Cp,lc,a',c',hl,nz,EW,j8,rfl⟩:=SS.jF
            cases hn:Nat.beq n 0 with
            | true=>
              rw [hn] at hf
              simp at hf
              obtain ⟨rfl,rfl⟩:=hf
              have:=Nat.eq_of_beq_eq_true hn
              subst this
              refine ⟨ρ,fT,.value fT,w,?_,rfl,VR.of_flat oO,.refl hs⟩
              simp [execOp,ho,resolve,invoke,builtin,e4,Builtin.clear_,DA,aX hu,fT]
            | false=>
              rw [hn,cond_false] at hf
              have hn0:=Nat.ne_of_beq_eq_false hn
              obtain ⟨B',hX,hf⟩:=Option.map_eq_some_iff.1 hf
              simp at hf
              obtain ⟨rfl,rfl⟩:=hf
              obtain ⟨w',h5,h6⟩:=vq (P:=P) hs hX hl ((yP HJ).repeat n)
              have:=EW (by omega)
              subst this
              have e5:Builtin.zeroCells z.cells n=⟨dz z.cells.toList n⟩:=Jy z.cells n wH
              refine ⟨ρ,fT,.value fT,w',?_,rfl,VR.of_flat oO,h6⟩
              obtain ⟨m,rfl⟩:=Nat.exists_eq_succ_of_ne_zero hn0
              simp [execOp,ho,resolve,invoke,builtin,e4,Builtin.clear_,DA,aX hu,Hf hz,e5,h5,fT]
          · simp at hf
      · trivial
    · trivial
  · trivial
theorem ahx {argTypes:Array TypeId} {args:Array Operand} (ho:o.op = .call ⟨.builtin .len,args,argTypes⟩):dM P o (KS P argTypes.toList args.toList):=by
  unfold KS
  split
  · rename_i t et
    have rB:argTypes[0]? = some t:=by rw [← Array.getElem?_toList,et]; rfl
    split
    · rename_i e hu; exact aeh ho rB hu
    · rename_i hu; exact ab4 ho rB hu
    · rename_i kt et' hu
      intro ρ A base w ev bF v hs he hf
      have hm:=he.map
      unfold Zz at hf
      split at hf
      · rename_i e1
        rw [e1] at hm
        obtain ⟨y,ys,e2,h1,h2⟩:=hm.cons_inv
        have:=h2.bh
        subst this
        simp at hf; subst hf
        have:=h1.xj
        subst this
        refine ⟨_,VR.of_flat rfl,?_⟩
        have e3:(args.map bF)[0]? = some (.map none):=by rw [jk,e2]; rfl
        simp [execOp,ho,resolve,invoke,builtin,Builtin.len_,rB,e3,aX hu,goInt]
      · rename_i r e1
        rw [e1] at hm
        obtain ⟨y,ys,e2,h1,h2⟩:=hm.cons_inv
        have:=h2.bh
        subst this
        obtain ⟨lc,hl,rfl⟩:=h1.E5
        split at hf
        · rename_i es hg
          simp at hf; subst hf
          obtain ⟨l2,hY,dZ⟩:=hs.map _ _ hg
          rw [hl] at hY; simp at hY; subst hY
          obtain ⟨aU,clock,jl,Og⟩:=dZ.gL
          refine ⟨_,VR.of_flat rfl,?_⟩
          have e3:(args.map bF)[0]? = some (.map (some lc.cb)):=by rw [jk,e2]; rfl
          have cA:aU.size=es.length:=by rw [← Array.length_toList,Og.length]
          simp [execOp,ho,resolve,invoke,builtin,Builtin.len_,rB,e3,aX hu,goInt,MapKept.run_getObj_map jl,cA]
        · simp at hf
      · simp at hf
    · trivial
  · trivial
end
end Go.aV
end
section
namespace Go.aV
open Go
section
variable {P:Program} {o:Oper}
theorem XZ {l:List UInt8} : ∀ {cs:List Value},yK cs=some l→cs=gi l:=by
  intro cs
  induction cs generalizing l with
  | nil=>intro h; simp [yK] at h; subst h; rfl
  | cons c cs ih=>
    intro h
    cases c with
    | int k n=>
      cases k <;> cases n <;> simp only [yK] at h <;> try (simp at h; done)
      rename_i m
      cases hb:Nat.blt m 256 with
      | false=>rw [hb] at h; simp at h
      | true=>
        rw [hb,cond_true] at h
        obtain ⟨r,hr,rfl⟩:=Option.map_eq_some_iff.1 h
        rw [Nat.blt_eq] at hb
        rw [ih hr]
        simp only [gi,List.map_cons,List.cons.injEq,and_true]
        have:(UInt8.ofNat m).toNat=m:=by simp; omega
        rw [this]
        rfl
    | _=>simp [yK] at h
theorem VV {ρ:aw} (l:List UInt8):bS ρ (gi l) (gi l):=by
  induction l with
  | nil=>exact .nil
  | cons x l ih=>exact .cons (by simp [VR]) ih
theorem E6:∀ (l:List UInt8),kO (gi l)=true
  | []=>rfl
  | x :: l=>by show (true && kO (gi l))=true; rw [E6 l]; rfl
theorem SU {e:TypeId} (h:isByte P e=true):P.underlying e=some (.int .u8):=by
  unfold isByte at h
  split at h
  · rename_i h'; exact h'
  · simp at h
theorem Rc {ρ:aw} {A:St} {base:Nat} {w:World} {cs bk:List Value} {c:Array Value} {n aJ f:Nat} {fr:Nat×Nat} (T:TypeId) (SM:n=1) (hs:fU ρ A base w) (hc:bS ρ cs bk) (h1:∀ v ∈ cs,scalar v=true)
    (Ig:∀ (j:Nat) (v:Value),bk[j]? = some v→c[j]? = some v) (cA:cs.length≤c.size) (sY:c.size≤fr.1) :
    b7 base ρ A w (ρ.set A.next ⟨w.heap.size,0,c.size,n⟩) (A.grow aJ f cs n) (w.alloc (.cells c T fr)):=by
  refine uJ (o:=.row cs n true (some (aJ,f))) hs (fun x=>A4 _ _ _ _ _ _) (fun g x h=>?_) (fun g f' h=>?_) (by simp [St.grow]) (by simp [St.grow]) (fun x hx _=>by rw [A4,if_neg (by omega)]) rfl ?_
  · rw [qy]; split
    · rename_i e; subst e; simp [h]
    · exact h
  · simp [bf.fJ] at h; rw [qy,h.1]; simp
  · refine ⟨fun i v hi=>?_,fun h=>by simp at h,fun _=>hs.size,fun _ j hj=>?_,by simpa using cA,fun _ h=>by simp at h,rfl,by simp,fun _ h=>absurd SM h⟩
    · obtain ⟨v',h2,h3⟩:=hc.get hi
      refine ⟨v',?_,h3.mono (hs.xh _),h1 v (List.mem_of_getElem? hi)⟩
      rw [Nat.zero_add,World.cell?_alloc_mark]
      exact Ig i v' h2
    · simp only at hj ⊢
      rw [World.cell?_alloc_mark]
      refine ⟨?_,?_⟩
      · rw [Array.getElem?_eq_getElem (by omega)]
        rfl
      · have:(w.alloc (.cells c T fr)).heap[w.heap.size]? = some (.cells c T fr):=by
          show (w.heap.push (.cells c T fr))[w.heap.size]? = _
          simp
        simp only [World.frozen?,this]
        have nX : ¬ (fr.1≤j):=by omega
        simp [nX]
theorem Oh {ρ:aw} {A:St} {base:Nat} {w:World} {src dst e:TypeId} {x x' v:Value} (hs:Rel ρ A.get A.members base w) (h1:P.underlying src=some (.slice e)) (h2:P.underlying dst=some .string) (he:P.underlying e=some (.int .u8))
    (hx:VR ρ x x') (h:xO A [x] = some v):VR ρ v v∧(convert src dst x').run P w = .ok v w:=by
  unfold xO at h
  split at h
  · rename_i n c e1
    simp at e1; subst e1
    simp at h; subst h
    have:=hx.eO
    subst this
    refine ⟨VR.of_flat rfl,?_⟩
    rw [run_convert_bytes_string w src dst e none n c h1 he h2]
    rfl
  · rename_i a n c e1
    simp at e1; subst e1
    obtain ⟨l,hl,rfl⟩:=Option.map_eq_some_iff.1 h
    obtain ⟨cs,Cm,hb⟩:=Option.bind_eq_some_iff.1 hl
    have:=XZ hb
    subst this
    obtain ⟨vV,Cp,lc,a',c',eK,nz,EW,j8,rfl⟩:=hx.jF
    obtain ⟨bk,q1,q2,q3,q4⟩:=pn (P:=P) hs Cm eK
    have afy:bk=gi l:=q1.ib (E6 l)
    subst afy
    have hlen:l.length=n:=by simpa [gi] using q2
    refine ⟨VR.of_flat rfl,?_⟩
    rw [run_convert_bytes_string w src dst e (some a') n c' h1 he h2]
    have wL:(loadCells a' n).run P w = .ok (gi l).toArray w:=by
      by_cases hc:c' = 0
      · have hn0:n=0:=by omega
        subst hn0
        have:l = []:=List.eq_nil_of_length_eq_zero hlen
        subst this
        exact run_loadCells_list w a' [] (by simp)
      · rw [EW hc]; exact q4
    have oM:gi l=(l.map (fun b=>(b.toNat:Int))).map (Value.int .u8):=by simp [gi]
    rw [oM] at wL
    rw [run_bytesToString w a' n c' _ wL,foldl_push_byteCells]
    have SV:ByteArray.empty.data = #[]:=rfl
    rw [SV]
    simp
  · simp at h
theorem Oi {ρ:aw} {A B:St} {base:Nat} {w:World} {src dst e:TypeId} {x x' v:Value} (hs:fU ρ A base w) (h1:P.underlying src=some .string) (h2:P.underlying dst=some (.slice e)) (he:P.underlying e=some (.int .u8))
    (hx:VR ρ x x') (h:Ce A [x] = some (v,B)):∃ aq v' w',(convert src dst x').run P w = .ok v' w'∧VR aq v v'∧b7 base ρ A w aq B w':=by
  unfold Ce at h
  split at h
  · rename_i s e1
    simp at e1; subst e1
    simp at h
    obtain ⟨rfl,rfl⟩:=h
    have:=hx.j9
    subst this
    have hr:=run_bytes_of_string (P:=P) w src dst e s h1 h2 he
    have XW:=grownCap_ge w s.size 0 e
    have hds:s.data.size=s.size:=rfl
    have Cr:(bytesRow s (grownCap w s.size 0 e)).size=grownCap w s.size 0 e:=by
      unfold bytesRow
      simp [hds]
      omega
    have hdr:=b7.drew (w:=w) hs
    have Oa:=Rc (w:=w.drew) (n:=1) (aJ:=A.next) (f:=0) (c:=bytesRow s (grownCap w s.size 0 e)) (fr:=((bytesRow s (grownCap w s.size 0 e)).size,(bytesRow s (grownCap w s.size 0 e)).size+1)) e rfl hdr.cW
      (VV s.data.toList) (fun v hv=>by
        obtain ⟨b,_,rfl⟩:=List.mem_map.1 hv
        rfl) (fun j v hj=>by
        unfold bytesRow
        have aY:j < s.data.size:=by
          have:=(List.getElem?_eq_some_iff.1 hj).1
          simpa [gi] using this
        rw [Array.getElem?_append_left (by simpa using aY)]
        simpa [gi] using hj) (by rw [Cr]; simp [gi,hds]; exact XW) (Nat.le_refl _)
    refine ⟨_,_,_,hr,?_,hdr.trans Oa⟩
    simp only [VR]
    refine ⟨trivial,Nat.le_refl _,_,⟨w.heap.size,0,none⟩,grownCap w s.size 0 e,aw.gk _ _ _,XW,fun _=>rfl,?_,rfl⟩
    rw [Cr]
    show 0+0+grownCap w s.size 0 e * 1≤grownCap w s.size 0 e
    omega
  · simp at h
theorem afz {src dst:TypeId} {x:Operand} (ho:o.op = .convert src dst x):dM P o (vQ P src dst x):=by
  unfold vQ
  split
  · rename_i e h1 h2
    cases hb:isByte P e with
    | false=>exact True.intro
    | true=>
      rw [cond_true]
      intro ρ A base w ev bF v hs he hf
      obtain ⟨h3,h4⟩:=Oh hs h1 h2 (SU hb) (he x (by simp)) hf
      exact ⟨v,h3,by simp [execOp,ho,h4]⟩
  · rename_i e h1 h2
    cases hb:isByte P e with
    | false=>exact True.intro
    | true=>
      rw [cond_true]
      intro ρ A B base w ev bF v hs he hf
      obtain ⟨aq,v',w',h3,h4,h5⟩:=Oi hs h1 h2 (SU hb) (he x (by simp)) hf
      exact ⟨aq,v',.value v',w',by simp [execOp,ho,h3],rfl,h4,h5⟩
  · rename_i h1 h2
    intro ρ ev bF v he hf
    simp only [List.map] at hf
    unfold Sq at hf
    split at hf
    · rename_i s e
      simp at e hf
      subst hf
      have hx:=he x (by simp)
      rw [e] at hx
      refine ⟨_,VR.of_flat rfl,fun w=>?_⟩
      simp [execOp,ho,convert,aX h1,aX h2,hx.j9]
    · simp at hf
  · exact ZT ho
theorem VW {ρ:aw} {A:St} {base:Nat} {w:World} {r:Nat} {s:List UInt8} {pos Lf:Nat} {l:Loc} (hs:fU ρ A base w) (hg:A.get r=some (.iter s pos)) (eK:ρ r=some l) :
    b7 base ρ A w ρ (A.put r (.iter s Lf)) { w with heap:=w.heap.setIfInBounds l.cb (.stringIter ⟨⟨s⟩⟩ Lf) }:=by
  obtain ⟨l',gN,ok⟩:=hs.rel.iter _ _ _ hg
  rw [eK] at gN; simp at gN; subst gN
  obtain ⟨DB,jl⟩:=ok.gL
  have aY:l.cb < w.heap.size:=(Array.getElem?_eq_some_iff.1 jl).1
  have s5:bf.bO (.iter s pos)=true:=rfl
  have hold:∀ k,k≠l.cb→(w.heap.setIfInBounds l.cb (.stringIter ⟨⟨s⟩⟩ Lf))[k]? = w.heap[k]?:=fun k hk=>by
    rw [Array.getElem?_setIfInBounds_ne (Ne.symm hk)]
  have cA:(w.heap.setIfInBounds l.cb (.stringIter ⟨⟨s⟩⟩ Lf)).size=w.heap.size:=by simp
  have hB:∀ x,(A.put r (.iter s Lf)).get x=if x=r then some (.iter s Lf) else A.get x:=fun x=>St.bt _ _ _ _
  have hmd:∀ o:bf,o.bO=true→o≠.dead:=by intro o h e; subst e; simp [bf.bO] at h
  have ET:∀ x o l2,x≠r→A.get x=some o→o≠.dead→ρ x=some l2→mh ρ base w l2 o→l2.cb≠l.cb:=by
    intro x o l2 hx dy hd kQ dZ e
    cases E4:o.bO with
    | true=>
      obtain ⟨_,_,_,_,e1,_⟩:=hs.rel.apart x r o _ l2 l hx dy hg E4 s5 kQ eK e
      simp [bf.fJ] at e1
    | false=>
      cases o with
      | row cs a8 own a9=>
        have dZ:uF ρ base w l2 cs a8 own a9:=dZ
        have h1:own=false:=E4
        have:=dZ.kv h1
        have:=ok.bO
        omega
      | map _=>simp [bf.bO] at E4
      | iter _ _=>simp [bf.bO] at E4
      | dead=>exact hd rfl
      | loop _ _ _ _ _ _=>simp [bf.bO] at E4
  refine ⟨⟨.po ?_ ?_ ?_,fun b l2 h=>hs.eS b l2 h,by simpa using hs.size,hs.jO⟩,fun _ _=>rfl,⟨rfl,rfl,rfl,Nat.le_of_eq cA.symm,fun k hk hn=>hold k (fun e=>hn ⟨r,_,l,hg,s5,eK,e.symm⟩)⟩,Nat.le_refl _,Nat.min_le_left _ _,fun x hx hxl=>?_,?_⟩
  · intro x o dy hd
    rw [hB] at dy
    split at dy
    · rename_i e; subst e; simp at dy; subst dy
      refine ⟨l,eK,ok.bO,DB,?_⟩
      show (w.heap.setIfInBounds l.cb (.stringIter ⟨⟨s⟩⟩ Lf))[l.cb]? = _
      rw [Array.getElem?_setIfInBounds_self_of_lt aY]
    · rename_i e
      obtain ⟨l2,kQ,dZ⟩:=hs.rel.obj dy hd
      exact ⟨l2,kQ,dZ.eU (aw.le_refl _) (hold _ (ET x o l2 e dy hd kQ dZ)) (Nat.le_of_eq cA.symm)⟩
  · have EU:∀ x o,(A.put r (.iter s Lf)).get x=some o→o.bO=true→∃ o',A.get x=some o'∧o'.bO=true∧o'.fJ=o.fJ:=by
      intro x o hx hm
      rw [hB] at hx
      split at hx
      · rename_i e; subst e; simp at hx; subst hx; exact ⟨_,hg,rfl,rfl⟩
      · exact ⟨o,hx,hm,rfl⟩
    intro b1 b2 o1 o2 l1 l2 bo g1 g2 m1 m2 r1 r2 vU
    obtain ⟨p1,q1,n1,k1⟩:=EU _ _ g1 m1
    obtain ⟨p2,q2,n2,k2⟩:=EU _ _ g2 m2
    rw [← k1,← k2]
    exact hs.rel.apart b1 b2 p1 p2 l1 l2 bo q1 q2 n1 n2 r1 r2 vU
  · intro x o aJ f dy hk
    rw [hB] at dy
    split at dy
    · rename_i e; subst e; simp at dy; subst dy; simp [bf.fJ] at hk
    · exact hs.rel.aW x o aJ f dy hk
  · rw [St.K2] at hxl
    have:Nat.min A.low r≤r:=Nat.min_le_right _ _
    rw [hB,if_neg (by omega)]
  · rintro k hk ⟨x,o,l2,dy,hm,kQ,rfl⟩
    rw [hB] at dy
    split at dy
    · rename_i e; subst e
      rw [eK] at kQ; simp at kQ; subst kQ
      exact ⟨x,_,l,hg,s5,eK,rfl⟩
    · exact ⟨x,o,l2,dy,hm,kQ,rfl⟩
theorem aem {t:TypeId} {x:Operand} (ho:o.op = .range t x):dM P o (NZ P t x):=by
  unfold NZ
  split
  · rename_i hu
    intro ρ ev bF obj mk he hf
    simp only [List.map] at hf
    unfold acY at hf
    split at hf
    · rename_i s e
      simp at e
      have hx:=he x (by simp)
      rw [e] at hx
      have hx:=hx.j9
      simp at hf
      obtain ⟨rfl,rfl⟩:=hf
      refine ⟨.stringIter s 0,fun n=>.pointer (some ⟨n,0,none⟩),?_,fun w=>?_,fun aq n cb h=>VR.rz (a:=⟨n,0,none⟩) rfl h⟩
      · show Obj.stringIter s 0 = .stringIter ⟨⟨s.data.toList⟩⟩ 0
        rfl
      · simp [execOp,ho,Instr.range,aX hu,hx]
    · simp at hf
  · trivial
theorem A7 {w:World} {r:Nat} {s:ByteArray} {pos:Nat} (hb:w.heap[r]? = some (.stringIter s pos)):(getObj r).run P w = .ok (.stringIter s pos) w:=by
  simp [getObj,Sem.run,hb]
theorem Oj {w:World} {r:Nat} {s:ByteArray} {pos:Nat} (o:Obj) (hb:w.heap[r]? = some (.stringIter s pos)):(setObj r o).run P w = .ok () { w with heap:=w.heap.setIfInBounds r o }:=by
  simp [setObj,Sem.run,hb]
theorem afA {it:Operand} {b:Bool} (ho:o.op = .next it b):dM P o (cond b (.act abJ [it]) .bad):=by
  cases b with
  | false=>trivial
  | true=>
    rw [cond_true]
    intro ρ A B base w ev bF v hs he hf
    simp only [List.map] at hf
    unfold abJ at hf
    split at hf
    · rename_i a e
      simp at e
      have hx:=he it (by simp)
      rw [e] at hx
      obtain ⟨vV,l,hl,hx⟩:=hx.eF
      cases ha0:Nat.beq a.off 0 with
      | false=>rw [ha0] at hf; simp at hf
      | true=>
        rw [ha0,cond_true] at hf
        have ha0:=Nat.eq_of_beq_eq_true ha0
        split at hf
        · rename_i s pos hg
          obtain ⟨l2,hY,ok⟩:=hs.rel.iter _ _ _ hg
          rw [hl] at hY; simp at hY; subst hY
          obtain ⟨DB,jl⟩:=ok.gL
          have cA:(⟨⟨s⟩⟩:ByteArray).size=s.length:=rfl
          rw [DB,ha0] at hx
          cases aY:Nat.blt pos s.length with
          | true=>
            rw [aY,cond_true] at hf
            rw [Nat.blt_eq] at aY
            split at hf
            rename_i c width ajC
            simp at hf
            obtain ⟨rfl,rfl⟩:=hf
            refine ⟨ρ,.tuple #[.bool true,.int .i64 (Int.ofNat pos),.int .i32 c],.value _,_,?_,rfl,VR.of_flat rfl,VW (Lf:=pos+width) hs hg hl⟩
            simp [execOp,ho,Instr.next,hx,A7 jl,cA,aY,ajC,Oj _ jl,goInt]
          | false=>
            rw [aY,cond_false] at hf
            have XW : ¬ pos < s.length:=fun h=>by rw [← Nat.blt_eq] at h; rw [h] at aY; simp at aY
            simp at hf
            obtain ⟨rfl,rfl⟩:=hf
            refine ⟨ρ,.tuple #[.bool false],.value _,w,?_,rfl,VR.of_flat rfl,.refl hs⟩
            simp [execOp,ho,Instr.next,hx,A7 jl,cA,XW]
        · simp at hf
    · simp at hf
theorem jm (P:Program) (o:Oper):dM P o (compile P o.op):=by
  cases ho:o.op with
  | move x=>exact afp ho
  | assign x=>exact ab0 ho
  | pick c a b=>exact afq ho
  | alloc t=>exact aeb ho
  | box t x=>exact aht ho
  | build t parts=>exact aeg ho
  | buildSlice t len parts=>exact SG ho
  | load t a=>exact afr ho
  | store t a x=>exact aec ho
  | nilCheck x=>exact XQ ho
  | binOp op t x y yt=>exact ahu ho
  | unOp op t x=>exact aiQ ho
  | convert src dst x=>exact afz ho
  | makeFunc fn first cap=>exact XR ho
  | fieldAddr s x f=>exact VO ho
  | field t x f=>exact aed ho
  | indexAddr t x ix=>exact VP ho
  | index t x ix=>exact aee ho
  | extract t i=>exact ZU ho
  | slice t x lo hi mx=>exact ok_slice ho
  | makeSlice t l c=>exact VU ho
  | makeInterface t x=>exact aei ho
  | range t x=>exact aem ho
  | next it b=>exact afA ho
  | makeMap t r=>exact ZX ho
  | lookup t x ix ok=>exact ab6 ho
  | mapUpdate t m k x=>exact Ih (.inl ho)
  | insert t m k x=>exact Ih (.inr ho)
  | call c=>
    show dM P o (qt P c)
    unfold qt
    split
    · rename_i f hf; exact aft ho hf
    · rename_i b hb
      obtain ⟨callee,args,argTypes⟩:=c
      simp only at hb
      subst hb
      unfold vR
      split
      · exact ahx ho
      · exact ahv ho
      · exact ahw ho
      · exact ab5 ho
      · exact afx ho
      · exact ab7 ho
      · exact ael ho
      · trivial
    · trivial
  | _=>trivial
end
end Go.aV
end
section
namespace Go.aV
noncomputable section
open Go
abbrev Fr (r:Option Nat):Fence:={ Fence.wide with round:=r }
mutual
theorem Ol:∀ {v w:Value},jV v w=true→v=w
  | .bool a,w,h=>by cases w <;> simp_all [jV]
  | .int k a,w,h=>by cases w <;> simp_all [jV]
  | .float k a,w,h=>by cases w <;> simp_all [jV]
  | .complex k a b,w,h=>by cases w <;> simp_all [jV]
  | .string a,w,h=>by
    cases w with
    | string b=>
      simp only [jV,decide_eq_true_eq] at h
      obtain ⟨⟨a⟩⟩:=a
      obtain ⟨⟨b⟩⟩:=b
      simp_all
    | _=>simp [jV] at h
  | .pointer a,w,h=>by cases w <;> simp_all [jV]
  | .slice a n c,w,h=>by cases w <;> simp_all [jV]
  | .map a,w,h=>by cases w <;> simp_all [jV]
  | .chan a,w,h=>by cases w <;> simp [jV] at h
  | .func fn f c,w,h=>by
    cases w with
    | func gn g d=>
      simp only [jV,Bool.and_eq_true,decide_eq_true_eq] at h
      rw [h.1.1,Hg h.1.2,Hg h.2]
    | _=>simp [jV] at h
  | .nilFunc,w,h=>by cases w <;> simp_all [jV]
  | .iface t v,w,h=>by
    cases w with
    | iface u x=>
      simp only [jV,Bool.and_eq_true,beq_iff_eq] at h
      rw [h.1,Ol h.2]
    | _=>simp [jV] at h
  | .nilIface,w,h=>by cases w <;> simp_all [jV]
  | .agg a,w,h=>by
    cases w with
    | agg b=>simp only [jV] at h; rw [Hg h]
    | _=>simp [jV] at h
  | .tuple a,w,h=>by
    cases w with
    | tuple b=>simp only [jV] at h; rw [Hg h]
    | _=>simp [jV] at h
theorem Hg:∀ {v w:Array Value},N5 v w=true→v=w
  | ⟨l⟩,⟨m⟩,h=>by simp only [N5] at h; rw [WQ h]
theorem WQ:∀ {v w:List Value},N6 v w=true→v=w
  | [],w,h=>by cases w <;> simp_all [N6]
  | x :: l,w,h=>by
    cases w with
    | nil=>simp [N6] at h
    | cons y m=>
      simp only [N6,Bool.and_eq_true] at h
      rw [Ol h.1,WQ h.2]
end
def aw.res (ρ:aw) (n:Nat):aw:=fun b=>if b < n then ρ b else none
theorem aw.X0 (ρ:aw) (n:Nat):(ρ.res n).le ρ:=fun b l h=>by unfold aw.res at h; split at h <;> simp_all
theorem aw.pr (ρ:aw) {n m:Nat} (h:n≤m):(ρ.res n).le (ρ.res m):=fun b l e=>by
  unfold aw.res at e ⊢
  split at e
  · rw [if_pos (by omega)]; exact e
  · simp at e
theorem aw.vW {ρ aq:aw} (h:ρ.le aq) (n:Nat):(ρ.res n).le (aq.res n):=fun b l e=>by
  unfold aw.res at e ⊢
  split at e
  · rename_i hb; rw [if_pos hb]; exact h _ _ e
  · simp at e
theorem aw.Lg {ρ:aw} {n b:Nat} {l:Loc} (h:ρ.res n b=some l):b < n∧ρ b=some l:=by
  unfold aw.res at h
  split at h
  · exact ⟨‹_›,h⟩
  · simp at h
theorem aw.qR {ρ:aw} {n b:Nat} (h:b < n):ρ.res n b=ρ b:=by unfold aw.res; rw [if_pos h]
theorem Jv.under {ρ:aw} {n:Nat} {fn qw:Fn} (hu:XE n fn=true) (h:Jv ρ fn qw):Jv (ρ.res n) fn qw:=by
  cases fn with
  | yield r=>
    obtain ⟨l,h1,h2⟩:=h
    simp only [XE] at hu
    rw [Nat.blt_eq] at hu
    exact ⟨l,by rw [aw.qR hu]; exact h1,h2⟩
  | _=>exact h
mutual
theorem VR.under {ρ:aw} {n:Nat} : ∀ {v v' : Value},aV.under n v=true→VR ρ v v'→VR (ρ.res n) v v'
  | .bool b,v,_,hv=>by simpa [VR] using hv
  | .int k n,v,_,hv=>by simpa [VR] using hv
  | .float k x,v,_,hv=>by simpa [VR] using hv
  | .complex k x y,v,_,hv=>by simpa [VR] using hv
  | .string s,v,_,hv=>by simpa [VR] using hv
  | .pointer none,v,_,hv=>by simpa [VR] using hv
  | .pointer (some a),v,hu,hv=>by
    simp only [aV.under] at hu
    rw [Nat.blt_eq] at hu
    simp only [VR] at hv ⊢
    rw [aw.qR hu]
    exact hv
  | .slice none n c,v,_,hv=>by simpa [VR] using hv
  | .slice (some a) n c,v,hu,hv=>by
    simp only [aV.under] at hu
    rw [Nat.blt_eq] at hu
    simp only [VR] at hv ⊢
    rw [aw.qR hu]
    exact hv
  | .map none,v,_,hv=>by simpa [VR] using hv
  | .map (some r),v,hu,hv=>by
    simp only [aV.under] at hu
    rw [Nat.blt_eq] at hu
    simp only [VR] at hv ⊢
    rw [aw.qR hu]
    exact hv
  | .chan _,_,_,_=>by simp [VR]
  | .func fn f c,v,hu,hv=>by
    simp only [aV.under,Bool.and_eq_true] at hu
    simp only [VR] at hv ⊢
    obtain ⟨f',c',h2,h3,qw,h4,h5⟩:=hv
    exact ⟨f',c',lI.under hu.1.2 h2,lI.under hu.2 h3,qw,Jv.under hu.1.1 h4,h5⟩
  | .nilFunc,v,_,hv=>by simpa [VR] using hv
  | .iface t x,v,hu,hv=>by
    simp only [aV.under] at hu
    simp only [VR] at hv ⊢
    obtain ⟨x',h2,h3⟩:=hv
    exact ⟨x',VR.under hu h2,h3⟩
  | .nilIface,v,_,hv=>by simpa [VR] using hv
  | .agg cs,v,hu,hv=>by
    simp only [aV.under] at hu
    simp only [VR] at hv ⊢
    obtain ⟨x',h2,h3⟩:=hv
    exact ⟨x',lI.under hu h2,h3⟩
  | .tuple cs,v,hu,hv=>by
    simp only [aV.under] at hu
    simp only [VR] at hv ⊢
    obtain ⟨x',h2,h3⟩:=hv
    exact ⟨x',lI.under hu h2,h3⟩
theorem lI.under {ρ:aw} {n:Nat} : ∀ {v v' : Array Value},aV.G8 n v=true→lI ρ v v'→lI (ρ.res n) v v'
  | ⟨l⟩,a,hu,hv=>by simp only [aV.G8] at hu; simp only [lI] at hv ⊢; exact bS.under hu hv
theorem bS.under {ρ:aw} {n:Nat} : ∀ {v v' : List Value},aV.R3 n v=true→bS ρ v v'→bS (ρ.res n) v v'
  | [],l,_,hv=>by simpa [bS] using hv
  | x :: xs,l,hu,hv=>by
    simp only [aV.R3,Bool.and_eq_true] at hu
    simp only [bS] at hv ⊢
    obtain ⟨y,ys,e,h1,h2⟩:=hv
    exact ⟨y,ys,e,VR.under hu.1 h1,bS.under hu.2 h2⟩
end
theorem Cu {acc:List Nat} {j:Nat} : ∀ {es:List Edge},Nat.testBit (gE acc es) j=true→∃ e ∈ es,binds e=true∧(j=e.on∨cP acc e.on j=true)
  | [],h=>by simp [gE] at h
  | e :: es,h=>by
    simp only [gE] at h
    cases hb:binds e with
    | false=>
      rw [hb,cond_false] at h
      obtain ⟨e',h1,h2⟩:=Cu h
      exact ⟨e',by simp [h1],h2⟩
    | true=>
      rw [hb,cond_true] at h
      have e1:∀ a b:Nat,Nat.lor a b=a ||| b:=fun _ _=>rfl
      have e2:Nat.shiftLeft 1 e.on=1 <<< e.on:=rfl
      rw [e1,e1,e2,Nat.testBit_or,Nat.testBit_or,Bool.or_eq_true,Bool.or_eq_true] at h
      rcases h with (h | h) | h
      · refine ⟨e,by simp,hb,.inl ?_⟩
        rw [Nat.one_shiftLeft,Nat.testBit_two_pow] at h
        exact (of_decide_eq_true h).symm
      · exact ⟨e,by simp,hb,.inr h⟩
      · obtain ⟨e',h1,h2⟩:=Cu h
        exact ⟨e',by simp [h1],h2⟩
theorem yR:∀ (os:List Oper) (acc:List Nat),∃ r,az acc os=acc ++ r∧r.length=os.length
  | [],acc=>⟨[],by simp [az]⟩
  | o :: os,acc=>by
    obtain ⟨r,h1,h2⟩:=yR os (acc ++ [gE acc o.after.toList])
    exact ⟨gE acc o.after.toList :: r,by simp [az,h1],by simp [h2]⟩
theorem Hh:∀ (os:List Oper) (acc:List Nat) (i j:Nat) (o:Oper),os[i]? = some o→(∀ e ∈ o.after.toList,binds e=true→e.on < acc.length+i)→
    cP (az acc os) (acc.length+i) j=true→∃ e ∈ o.after.toList,binds e=true∧(j=e.on∨cP (az acc os) e.on j=true)
  | [],acc,i,j,o,ho,_,_=>by simp at ho
  | o0 :: os,acc,0,j,o,ho,hf,h=>by
    simp at ho
    subst ho
    obtain ⟨r,h1,_⟩:=yR os (acc ++ [gE acc o0.after.toList])
    have e0:az acc (o0 :: os)=acc ++ [gE acc o0.after.toList] ++ r:=by simp only [az]; exact h1
    rw [e0] at h ⊢
    have e1:(acc ++ [gE acc o0.after.toList] ++ r).getD (acc.length+0) 0=gE acc o0.after.toList:=by simp [List.getD]
    unfold cP at h
    rw [e1] at h
    obtain ⟨e,h2,h3,h4⟩:=Cu h
    refine ⟨e,h2,h3,h4.imp id fun h5=>?_⟩
    have aY:=hf e h2 h3
    unfold cP at h5 ⊢
    have:(acc ++ [gE acc o0.after.toList] ++ r).getD e.on 0=acc.getD e.on 0:=by
      simp only [List.getD,List.append_assoc]
      rw [List.getElem?_append_left (by simpa using aY)]
    rw [this]
    exact h5
  | o0 :: os,acc,i+1,j,o,ho,hf,h=>by
    have hlen:(acc ++ [gE acc o0.after.toList]).length+i=acc.length+(i+1):=by simp; omega
    have:=Hh os (acc ++ [gE acc o0.after.toList]) i j o (by simpa using ho) (by rw [hlen]; exact hf) (by rw [hlen]; exact h)
    simpa only [az] using this
theorem Lh {acc:List Nat} {e:Edge} : ∀ {es:List Edge},e ∈ es→binds e=true→Nat.testBit (gE acc es) e.on=true∧∀ k,cP acc e.on k=true→Nat.testBit (gE acc es) k=true
  | [],h,_=>by simp at h
  | x :: es,h,hb=>by
    have e1:∀ a b:Nat,Nat.lor a b=a ||| b:=fun _ _=>rfl
    have e2:∀ n,Nat.shiftLeft 1 n=1 <<< n:=fun _=>rfl
    simp only [gE]
    rcases List.mem_cons.1 h with rfl | h
    · rw [hb,cond_true]
      simp only [e1,e2,Nat.testBit_or,Bool.or_eq_true]
      refine ⟨.inl (.inl ?_),fun k hk=>.inl (.inr hk)⟩
      rw [Nat.one_shiftLeft,Nat.testBit_two_pow]
      simp
    · obtain ⟨h1,h2⟩:=Lh h hb
      cases hx:binds x with
      | false=>rw [cond_false]; exact ⟨h1,h2⟩
      | true=>
        rw [cond_true]
        simp only [e1,e2,Nat.testBit_or,Bool.or_eq_true]
        exact ⟨.inr h1,fun k hk=>.inr (h2 k hk)⟩
theorem WR:∀ (os:List Oper) (acc:List Nat) (i:Nat) (o:Oper),os[i]? = some o→∀ e ∈ o.after.toList,binds e=true→e.on < acc.length+i→
    cP (az acc os) (acc.length+i) e.on=true∧∀ k,cP (az acc os) e.on k=true→cP (az acc os) (acc.length+i) k=true
  | [],acc,i,o,ho,_,_,_,_=>by simp at ho
  | o0 :: os,acc,0,o,ho,e,he,hb,aY=>by
    simp at ho
    subst ho
    obtain ⟨r,h1,_⟩:=yR os (acc ++ [gE acc o0.after.toList])
    have e0:az acc (o0 :: os)=acc ++ [gE acc o0.after.toList] ++ r:=by simp only [az]; exact h1
    rw [e0]
    have e1:(acc ++ [gE acc o0.after.toList] ++ r).getD (acc.length+0) 0=gE acc o0.after.toList:=by simp [List.getD]
    have e2:(acc ++ [gE acc o0.after.toList] ++ r).getD e.on 0=acc.getD e.on 0:=by
      simp only [List.getD,List.append_assoc]
      rw [List.getElem?_append_left (by simpa using aY)]
    obtain ⟨h2,h3⟩:=Lh (acc:=acc) he hb
    unfold cP
    rw [e1,e2]
    exact ⟨h2,fun k hk=>h3 k hk⟩
  | o0 :: os,acc,i+1,o,ho,e,he,hb,aY=>by
    have hlen:(acc ++ [gE acc o0.after.toList]).length+i=acc.length+(i+1):=by simp; omega
    have:=WR os (acc ++ [gE acc o0.after.toList]) i o (by simpa using ho) e he hb (by rw [hlen]; exact aY)
    rw [hlen] at this
    simpa only [az] using this
structure fN (P:Program) (all:List Oper):Prop where
  back:∀ i o,all[i]? = some o→∀ e ∈ o.after.toList,binds e=true→e.on < i
  apart:∀ i j x y,all[i]? = some y→all[j]? = some x→j < i→nW P all x y=true→cP (az [] all) i j=true
theorem Ii {P:Program} {all:List Oper} {b:List Nat} {i:Nat} {y:Oper} : ∀ (xs:List Oper) (k:Nat),AL P all b i y xs k=true→∀ (j:Nat) (x:Oper),xs[j]? = some x→k+j < i→nW P all x y=true→cP b i (k+j)=true
  | [],k,_,j,x,hx,_,_=>by simp at hx
  | x0 :: xs,k,h,0,x,hx,aY,hc=>by
    simp at hx
    subst hx
    simp only [AL,Bool.and_eq_true,Bool.or_eq_true,Bool.not_eq_true'] at h
    rcases h.1 with (h1 | h1) | h1
    · have:=Nat.le_of_ble_eq_true h1; omega
    · rw [hc] at h1; simp at h1
    · exact h1
  | x0 :: xs,k,h,j+1,x,hx,aY,hc=>by
    simp only [AL,Bool.and_eq_true] at h
    have:=Ii xs (k+1) h.2 j x (by simpa using hx) (by omega) hc
    rwa [show k+1+j=k+(j+1) by omega] at this
theorem rC {P:Program} {all:List Oper} {b:List Nat} : ∀ (os:List Oper) (k:Nat),qv P all b os k=true→∀ (i:Nat) (o:Oper),os[i]? = some o→
    (∀ e ∈ o.after.toList,binds e=true→e.on < k+i)∧AL P all b (k+i) o all 0=true
  | [],k,_,i,o,ho=>by simp at ho
  | o0 :: os,k,h,0,o,ho=>by
    simp at ho
    subst ho
    simp only [qv,Bool.and_eq_true,List.all_eq_true] at h
    refine ⟨fun e he hb=>?_,h.1.2⟩
    have:=h.1.1 e he
    rw [hb] at this
    simp at this
    exact this
  | o0 :: os,k,h,i+1,o,ho=>by
    simp only [qv,Bool.and_eq_true] at h
    have:=rC os (k+1) h.2 i o (by simpa using ho)
    rwa [show k+1+i=k+(i+1) by omega] at this
theorem nA {P:Program} {all:List Oper} (h:mb P all=true):fN P all:=by
  unfold mb at h
  refine ⟨fun i o ho=>?_,fun i j x y hy hx aY hc=>?_⟩
  · have:=(rC all 0 h i o ho).1
    simpa using this
  · have:=Ii all 0 (rC all 0 h i y hy).2 j x hx (by simpa using aY) hc
    simpa using this
theorem WS {all:List Oper} {i j:Nat} (h:all[i]? = none):cP (az [] all) i j=false:=by
  obtain ⟨r,h1,h2⟩:=yR all []
  rw [List.nil_append] at h1
  unfold cP
  rw [h1]
  have:r[i]? = none:=by
    rw [List.getElem?_eq_none_iff] at h ⊢
    omega
  simp [List.getD,this]
theorem Li {P:Program} {all:List Oper} (hf:fN P all):∀ {i j:Nat},cP (az [] all) i j=true→j < i:=by
  intro i
  induction i using Nat.strongRecOn with
  | _ i ih=>
    intro j h
    cases ho:all[i]? with
    | none=>rw [WS ho] at h; simp at h
    | some o=>
      obtain ⟨e,h1,h2,h3⟩:=Hh all [] i j o ho (by simpa using hf.back i o ho) (by simpa using h)
      have aY:=hf.back i o ho e h1 h2
      rcases h3 with rfl | h3
      · exact aY
      · have:=ih e.on aY h3; omega
theorem SW {P:Program} {all:List Oper} (hf:fN P all):∀ {i j k:Nat},cP (az [] all) i j=true→cP (az [] all) j k=true→cP (az [] all) i k=true:=by
  intro i
  induction i using Nat.strongRecOn with
  | _ i ih=>
    intro j k h hk
    cases ho:all[i]? with
    | none=>rw [WS ho] at h; simp at h
    | some o=>
      obtain ⟨e,h1,h2,h3⟩:=Hh all [] i j o ho (by simpa using hf.back i o ho) (by simpa using h)
      have aY:=hf.back i o ho e h1 h2
      have ab8:=(WR all [] i o ho e h1 h2 (by simpa using aY)).2 k
      simp only [List.length_nil,Nat.zero_add] at ab8
      rcases h3 with rfl | h3
      · exact ab8 hk
      · exact ab8 (ih e.on aY h3 hk)
def fc (all:List Oper) (S:Nat→Bool):Prop:=∀ i j,S i=true→cP (az [] all) i j=true→S j=true
def gU (all:List Oper) (S:Nat→Bool) (i:Nat):Prop:=∀ o,all[i]? = some o→∀ e ∈ o.after.toList,binds e=true→S e.on=true
theorem fc.ready {P:Program} {all:List Oper} (hf:fN P all) {S:Nat→Bool} (hc:fc all S) {i:Nat} {o:Oper} (ho:all[i]? = some o) (hr:gU all S i):∀ j,cP (az [] all) i j=true→S j=true:=by
  intro j hj
  obtain ⟨e,h1,h2,h3⟩:=Hh all [] i j o ho (by simpa using hf.back i o ho) (by simpa using hj)
  have hs:=hr o ho e h1 h2
  rcases h3 with rfl | h3
  · exact hs
  · exact hc _ _ hs h3
def aZ (S:Nat→Bool) (i:Nat):Nat→Bool:=fun j=>S j || Nat.beq j i
theorem fc.insert {P:Program} {all:List Oper} (hf:fN P all) {S:Nat→Bool} (hc:fc all S) {i:Nat} {o:Oper} (ho:all[i]? = some o) (hr:gU all S i):fc all (aZ S i):=by
  intro a b h1 h2
  simp only [aZ,Bool.or_eq_true] at h1 ⊢
  rcases h1 with h1 | h1
  · exact .inl (hc a b h1 h2)
  · have:=Nat.eq_of_beq_eq_true h1
    subst this
    exact .inl (hc.ready hf ho hr b h2)
theorem WT (e:Edge):Region.binds .any e=binds e:=by
  unfold Region.binds binds
  cases e.ground <;> rfl
theorem yS {all:List Oper} {aW:Array Bool} {i:Nat} (h:i ∈ Region.ready .any ⟨all⟩ aW):i < all.length∧aW.getD i true=false∧gU all (fun j=>aW.getD j false) i:=by
  unfold Region.ready at h
  rw [List.mem_filter,List.mem_range] at h
  obtain ⟨h1,h2⟩:=h
  simp only [Bool.and_eq_true,Bool.not_eq_true'] at h2
  refine ⟨by simpa using h1,h2.1,fun o ho e he hb=>?_⟩
  have e1:(⟨all⟩:Array Oper)[i]? = some o:=by simpa using ho
  rw [e1] at h2
  simp only [Option.map_some,Option.getD_some] at h2
  have:=Array.all_eq_true'.1 h2.2 e (by simpa using he)
  rw [WT,hb] at this
  simpa using this
theorem SX {P:Program} {all:List Oper} (hf:fN P all) {aW:Array Bool} (hl:aW.size=all.length) (h:Region.ready .any ⟨all⟩ aW = []):∀ i,i < all.length→aW.getD i false=true:=by
  intro i
  induction i using Nat.strongRecOn with
  | _ i ih=>
    intro hi
    cases hc:aW.getD i false with
    | true=>rfl
    | false=>
      exfalso
      obtain ⟨o,ho⟩:∃ o,all[i]? = some o:=⟨_,List.getElem?_eq_getElem hi⟩
      have hm:i ∈ Region.ready .any ⟨all⟩ aW:=by
        unfold Region.ready
        rw [List.mem_filter,List.mem_range]
        refine ⟨by simpa using hi,?_⟩
        have e1:(⟨all⟩:Array Oper)[i]? = some o:=by simpa using ho
        rw [e1]
        have e2:aW.getD i true=false:=by
          have:i < aW.size:=by omega
          simpa [Array.getD_eq_getD_getElem?,this] using hc
        simp only [e2,Bool.not_false,Bool.true_and,Option.map_some,Option.getD_some]
        rw [Array.all_eq_true']
        intro e he
        cases hb:binds e with
        | false=>rw [WT,hb]; rfl
        | true=>
          have aY:=hf.back i o ho e (by simpa using he) hb
          rw [ih e.on aY (by omega)]
          simp
      rw [h] at hm
      simp at hm
theorem count_set:∀ (l:List Bool) (i:Nat),l[i]? = some false→((l.set i true).filter (!·)).length+1=(l.filter (!·)).length
  | [],i,h=>by simp at h
  | x :: l,0,h=>by
    simp at h
    subst h
    simp
  | x :: l,i+1,h=>by
    have:=count_set l i (by simpa using h)
    cases x <;> simp at this ⊢ <;> omega
theorem Qj {P:Program} {all:List Oper} {r:Option Nat} (hf:fN P all) {Q:Exit→Act→World→Prop} (I:(Nat→Bool)→Act→World→Prop) (hI:∀ S S' a w,(∀ i,i < all.length→S i=S' i)→I S a w→I S' a w)
    (step:∀ S a w i o,I S a w→fc all S→all[i]? = some o→S i=false→gU all S i→(∀ j,S j=true→j < all.length)→wpOpIn (Fr r) 0 P ⟨all⟩ Q i (I (aZ S i)) a w)
    (fin:∀ S a w,(∀ i,i < all.length→S i=true)→I S a w→Q .normal a w) :
    ∀ (fuel:Nat) (aW:Array Bool) (a:Act) (w:World),aW.size=all.length→(aW.toList.filter (!·)).length=fuel→fc all (fun j=>aW.getD j false)→I (fun j=>aW.getD j false) a w→wpAnyIn (Fr r) 0 P .any ⟨all⟩ Q fuel aW a w
  | 0,aW,a,w,hs,hn,hc,h=>by
    have eZ:∀ i,i < all.length→aW.getD i false=true:=by
      intro i hi
      have:i < aW.size:=by omega
      cases hb:aW.getD i false with
      | true=>rfl
      | false=>
        exfalso
        have hg:aW[i] = false:=by simpa [Array.getD_eq_getD_getElem?,this] using hb
        have hm:aW[i] ∈ aW.toList.filter (!·):=by
          rw [List.mem_filter]
          exact ⟨by simp,by simp [hg]⟩
        rw [List.length_eq_zero_iff.1 hn] at hm
        simp at hm
    refine ⟨?_,fin _ a w eZ h⟩
    cases hr:Region.ready .any ⟨all⟩ aW with
    | nil=>rfl
    | cons i r=>
      have:=yS (all:=all) (aW:=aW) (i:=i) (by rw [hr]; simp)
      have h1:=eZ i this.1
      have h2:aW.getD i true=true:=by
        have aY:i < aW.size:=by omega
        simpa [Array.getD_eq_getD_getElem?,aY] using h1
      rw [h2] at this
      simp at this
  | fuel+1,aW,a,w,hs,hn,hc,h=>by
    refine ⟨fun hr=>fin _ a w (SX hf hs hr) h,fun i hi=>?_⟩
    obtain ⟨aY,hl,hJ⟩:=yS hi
    obtain ⟨o,ho⟩:∃ o,all[i]? = some o:=⟨_,List.getElem?_eq_getElem aY⟩
    have A8:i < aW.size:=by omega
    have dQ:aW.getD i false=false:=by simpa [Array.getD_eq_getD_getElem?,A8] using hl
    have SY:∀ j,j < all.length→aZ (fun j=>aW.getD j false) i j=(aW.setIfInBounds i true).getD j false:=by
      intro j hj
      by_cases e:j=i
      · subst e
        simp [aZ,Array.getD_eq_getD_getElem?,A8]
      · have:Nat.beq j i=false:=by
          cases hb:Nat.beq j i with
          | false=>rfl
          | true=>exact absurd (Nat.eq_of_beq_eq_true hb) e
        simp [aZ,this,Array.getD_eq_getD_getElem?,Array.getElem?_setIfInBounds_ne (Ne.symm e)]
    refine wpOpIn_mono (fun a' w' h'=>?_) (step _ a w i o h hc ho dQ hJ (fun j hj=>by
      rcases Nat.lt_or_ge j all.length with h1 | h1
      · exact h1
      · have:aW.getD j false=false:=by
          rw [Array.getD_eq_getD_getElem?,Array.getElem?_eq_none (by omega)]
          rfl
        rw [this] at hj; simp at hj))
    refine Qj hf I hI step fin fuel _ a' w' (by simpa using hs) ?_ ?_ (hI _ _ a' w' SY h')
    · rw [Array.toList_setIfInBounds]
      have:=count_set aW.toList i (by simpa [Array.getD_eq_getD_getElem?,A8] using dQ)
      omega
    · intro x y hx hy
      have hb:∀ z,(aW.setIfInBounds i true).getD z false=true ↔ aZ (fun j=>aW.getD j false) i z=true:=by
        intro z
        rcases Nat.lt_or_ge z all.length with h1 | h1
        · rw [SY z h1]
        · have e1:(aW.setIfInBounds i true).getD z false=false:=by
            rw [Array.getD_eq_getD_getElem?,Array.getElem?_eq_none (by simp; omega)]
            rfl
          have e2:aW.getD z false=false:=by
            rw [Array.getD_eq_getD_getElem?,Array.getElem?_eq_none (by omega)]
            rfl
          have e3:Nat.beq z i=false:=by
            cases hb:Nat.beq z i with
            | false=>rfl
            | true=>have:=Nat.eq_of_beq_eq_true hb; omega
          simp [aZ,e1,e2,e3]
      rw [hb] at hx ⊢
      exact hc.insert hf ho hJ x y hx hy
theorem xk {P:Program} {all:List Oper} (hf:fN P all) {Q:Exit→Act→World→Prop} (I:(Nat→Bool)→Act→World→Prop) (hI:∀ S S' a w,(∀ i,i < all.length→S i=S' i)→I S a w→I S' a w)
    (step:∀ S a w i o,I S a w→fc all S→all[i]? = some o→S i=false→gU all S i→(∀ j,S j=true→j < all.length)→wpOp P ⟨all⟩ Q i (I (aZ S i)) a w)
    (fin:∀ S a w,(∀ i,i < all.length→S i=true)→I S a w→Q .normal a w) :
    ∀ (fuel:Nat) (aW:Array Bool) (a:Act) (w:World),aW.size=all.length→(aW.toList.filter (!·)).length=fuel→fc all (fun j=>aW.getD j false)→I (fun j=>aW.getD j false) a w→wpAny P .any ⟨all⟩ Q fuel aW a w
  | 0,aW,a,w,hs,hn,hc,h=>by
    have eZ:∀ i,i < all.length→aW.getD i false=true:=by
      intro i hi
      have:i < aW.size:=by omega
      cases hb:aW.getD i false with
      | true=>rfl
      | false=>
        exfalso
        have hg:aW[i] = false:=by simpa [Array.getD_eq_getD_getElem?,this] using hb
        have hm:aW[i] ∈ aW.toList.filter (!·):=by
          rw [List.mem_filter]
          exact ⟨by simp,by simp [hg]⟩
        rw [List.length_eq_zero_iff.1 hn] at hm
        simp at hm
    refine ⟨?_,fin _ a w eZ h⟩
    cases hr:Region.ready .any ⟨all⟩ aW with
    | nil=>rfl
    | cons i r=>
      have:=yS (all:=all) (aW:=aW) (i:=i) (by rw [hr]; simp)
      have h1:=eZ i this.1
      have h2:aW.getD i true=true:=by
        have aY:i < aW.size:=by omega
        simpa [Array.getD_eq_getD_getElem?,aY] using h1
      rw [h2] at this
      simp at this
  | fuel+1,aW,a,w,hs,hn,hc,h=>by
    refine ⟨fun hr=>fin _ a w (SX hf hs hr) h,fun i hi=>?_⟩
    obtain ⟨aY,hl,hJ⟩:=yS hi
    obtain ⟨o,ho⟩:∃ o,all[i]? = some o:=⟨_,List.getElem?_eq_getElem aY⟩
    have A8:i < aW.size:=by omega
    have dQ:aW.getD i false=false:=by simpa [Array.getD_eq_getD_getElem?,A8] using hl
    have SY:∀ j,j < all.length→aZ (fun j=>aW.getD j false) i j=(aW.setIfInBounds i true).getD j false:=by
      intro j hj
      by_cases e:j=i
      · subst e
        simp [aZ,Array.getD_eq_getD_getElem?,A8]
      · have:Nat.beq j i=false:=by
          cases hb:Nat.beq j i with
          | false=>rfl
          | true=>exact absurd (Nat.eq_of_beq_eq_true hb) e
        simp [aZ,this,Array.getD_eq_getD_getElem?,Array.getElem?_setIfInBounds_ne (Ne.symm e)]
    refine wpOp_mono (fun a' w' h'=>?_) (step _ a w i o h hc ho dQ hJ (fun j hj=>by
      rcases Nat.lt_or_ge j all.length with h1 | h1
      · exact h1
      · have:aW.getD j false=false:=by
          rw [Array.getD_eq_getD_getElem?,Array.getElem?_eq_none (by omega)]
          rfl
        rw [this] at hj; simp at hj))
    refine xk hf I hI step fin fuel _ a' w' (by simpa using hs) ?_ ?_ (hI _ _ a' w' SY h')
    · rw [Array.toList_setIfInBounds]
      have:=count_set aW.toList i (by simpa [Array.getD_eq_getD_getElem?,A8] using dQ)
      omega
    · intro x y hx hy
      have hb:∀ z,(aW.setIfInBounds i true).getD z false=true ↔ aZ (fun j=>aW.getD j false) i z=true:=by
        intro z
        rcases Nat.lt_or_ge z all.length with h1 | h1
        · rw [SY z h1]
        · have e1:(aW.setIfInBounds i true).getD z false=false:=by
            rw [Array.getD_eq_getD_getElem?,Array.getElem?_eq_none (by simp; omega)]
            rfl
          have e2:aW.getD z false=false:=by
            rw [Array.getD_eq_getD_getElem?,Array.getElem?_eq_none (by omega)]
            rfl
          have e3:Nat.beq z i=false:=by
            cases hb:Nat.beq z i with
            | false=>rfl
            | true=>have:=Nat.eq_of_beq_eq_true hb; omega
          simp [aZ,e1,e2,e3]
      rw [hb] at hx ⊢
      exact hc.insert hf ho hJ x y hx hy
end
end Go.aV
end
section
namespace Go.aV
noncomputable section
open Go
def jn (all:List Oper) (i:Nat):Option Tmp:=(all[i]?).bind (·.dst)
def oP (all:List Oper) (t0:Tm):List Rec→Tm
  | []=>t0
  | r :: R=>sP (oP all t0 R) (jn all r.i) r.v
def Valid (P:Program) (call:ca) (all:List Oper) (A0:St) (t0:Tm):List Rec→Prop
  | []=>True
  | r :: R=>Valid P call all A0 t0 R∧r.i=R.length∧∃ o,all[R.length]? = some o∧sS P call (az [] all) all A0 R R.length (oP all t0 R) o=some r
theorem aen {call:ca} {b:List Nat} {A0:St} {R:List Rec} {i:Nat} {t:Tm} {ins:ph} {r:Rec} (h:fM call b A0 R i t ins=some r):r.i=i:=by
  cases ins with
  | pure f xs=>simp only [fM] at h; obtain ⟨v,_,rfl⟩:=Option.map_eq_some_iff.1 h; rfl
  | read f xs=>simp only [fM] at h; obtain ⟨v,_,rfl⟩:=Option.map_eq_some_iff.1 h; rfl
  | make f xs=>simp only [fM] at h; obtain ⟨v,_,rfl⟩:=Option.map_eq_some_iff.1 h; rfl
  | act f xs=>
    simp only [fM] at h
    obtain ⟨v,_,h⟩:=Option.bind_eq_some_iff.1 h
    cases hb:Nat.ble (dP A0 R) v.2.next <;> rw [hb] at h <;> simp at h
    subst h; rfl
  | call f xs=>
    simp only [fM] at h
    obtain ⟨p,_,h⟩:=Option.bind_eq_some_iff.1 h
    obtain ⟨v,_,h⟩:=Option.bind_eq_some_iff.1 h
    cases hb:Nat.ble (dP A0 R) v.2.next <;> rw [hb] at h <;> simp at h
    subst h; rfl
  | bad=>simp [fM] at h
theorem ahy {P:Program} {call:ca} {b:List Nat} {all:List Oper} {A0:St} {R:List Rec} {i:Nat} {t:Tm} {o:Oper} {r:Rec} (h:sS P call b all A0 R i t o=some r):r.i=i:=by
  unfold sS at h
  obtain ⟨wd,_,h⟩:=Option.bind_eq_some_iff.1 h
  cases wd with
  | true=>exact aen h
  | false=>simp at h; subst h; rfl
theorem Lj {P:Program} {call:ca} {all:List Oper} {A0:St} {t0:Tm} : ∀ (os:List Oper) (R R' : List Rec) (t' : Tm),all.drop R.length=os→Valid P call all A0 t0 R→
    qP P call (az [] all) all A0 os R.length R (oP all t0 R)=some (R',t')→Valid P call all A0 t0 R'∧t' = oP all t0 R'∧R'.length=R.length+os.length
  | [],R,R',t',_,hv,h=>by
    simp only [qP,Option.some.injEq,Prod.mk.injEq] at h
    obtain ⟨rfl,rfl⟩:=h
    exact ⟨hv,rfl,by simp⟩
  | o :: os,R,R',t',hd,hv,h=>by
    simp only [qP] at h
    obtain ⟨r,hr,h⟩:=Option.bind_eq_some_iff.1 h
    have ho:all[R.length]? = some o:=by
      have:(all.drop R.length)[0]? = some o:=by rw [hd]; rfl
      rw [List.getElem?_drop] at this
      simpa using this
    have hi:=ahy hr
    have wM:all.drop (R.length+1)=os:=by rw [← List.drop_drop,hd]; rfl
    have:=Lj os (r :: R) R' t' (by simpa using wM) ⟨hv,hi,o,ho,hr⟩ (by
      have e:oP all t0 (r :: R)=sP (oP all t0 R) o.dst r.v:=by simp [oP,jn,hi,ho]
      rw [e]
      exact h)
    refine ⟨this.1,this.2.1,?_⟩
    rw [this.2.2]
    simp
    omega
theorem Valid.at {P:Program} {call:ca} {all:List Oper} {A0:St} {t0:Tm} : ∀ {R:List Rec} {r:Rec},Valid P call all A0 t0 R→r ∈ R→
    ∃ R0 R1,R=R1 ++ r :: R0∧Valid P call all A0 t0 R0∧r.i=R0.length∧∃ o,all[r.i]? = some o∧sS P call (az [] all) all A0 R0 r.i (oP all t0 R0) o=some r
  | [],r,_,h=>by simp at h
  | x :: R,r,hv,h=>by
    obtain ⟨h1,h2,o,h3,h4⟩:=hv
    rcases List.mem_cons.1 h with rfl | h
    · exact ⟨R,[],rfl,h1,h2,o,by rw [h2]; exact h3,by rw [h2]; exact h4⟩
    · obtain ⟨R0,R1,e,h5,h6,h7⟩:=Valid.at h1 h
      exact ⟨R0,x :: R1,by rw [e]; rfl,h5,h6,h7⟩
theorem Valid.lt {P:Program} {call:ca} {all:List Oper} {A0:St} {t0:Tm} {R:List Rec} (hv:Valid P call all A0 t0 R):∀ {r:Rec},r ∈ R→r.i < R.length:=by
  intro r hr
  obtain ⟨R0,R1,e,_,h,_⟩:=hv.at hr
  rw [e,h]
  simp
  omega
theorem Valid.get {P:Program} {call:ca} {all:List Oper} {A0:St} {t0:Tm} : ∀ {R:List Rec},Valid P call all A0 t0 R→∀ {i:Nat},i < R.length→∃ r ∈ R,r.i=i
  | [],_,i,h=>by simp at h
  | x :: R,hv,i,h=>by
    obtain ⟨h1,h2,_⟩:=hv
    by_cases e:i=R.length
    · exact ⟨x,by simp,by rw [h2,e]⟩
    · obtain ⟨r,hr,he⟩:=Valid.get h1 (i:=i) (by simp at h; omega)
      exact ⟨r,by simp [hr],he⟩
theorem Valid.inj {P:Program} {call:ca} {all:List Oper} {A0:St} {t0:Tm} : ∀ {R:List Rec},Valid P call all A0 t0 R→∀ {r s:Rec},r ∈ R→s ∈ R→r.i=s.i→r=s
  | [],_,r,s,h,_,_=>by simp at h
  | x :: R,hv,r,s,hr,hs,e=>by
    obtain ⟨h1,h2,_⟩:=hv
    rcases List.mem_cons.1 hr with hr | SZ
    · rcases List.mem_cons.1 hs with hs | ZY
      · rw [hr,hs]
      · have:=Valid.lt h1 ZY; rw [hr] at e; omega
    · rcases List.mem_cons.1 hs with hs | ZY
      · have:=Valid.lt h1 SZ; rw [hs] at e; omega
      · exact Valid.inj h1 SZ ZY e
theorem E7 {P:Program} {call:ca} {b:List Nat} {all:List Oper} {A0:St} {R:List Rec} {i:Nat} {t:Tm} {o:Oper} {r:Rec} (h:sS P call b all A0 R i t o=some r) :
    dP A0 R≤r.nx∧(∀ id ob,r.gp = .make id ob→id=dP A0 R∧r.nx=id+1)∧(∀ B,r.gp = .act B→r.nx=B.next)∧((∀ B,r.gp≠.act B)→(∀ id ob,r.gp≠.make id ob)→r.nx=dP A0 R):=by
  unfold sS at h
  obtain ⟨wd,_,h⟩:=Option.bind_eq_some_iff.1 h
  cases wd with
  | false=>simp at h; subst h; simp
  | true=>
    rw [cond_true] at h
    generalize compile P o.op=ins at h
    cases ins with
    | pure f xs=>simp only [fM] at h; obtain ⟨v,_,rfl⟩:=Option.map_eq_some_iff.1 h; simp
    | read f xs=>simp only [fM] at h; obtain ⟨v,_,rfl⟩:=Option.map_eq_some_iff.1 h; simp
    | make f xs=>simp only [fM] at h; obtain ⟨v,_,rfl⟩:=Option.map_eq_some_iff.1 h; simp
    | act f xs=>
      simp only [fM] at h
      obtain ⟨v,_,h⟩:=Option.bind_eq_some_iff.1 h
      cases hb:Nat.ble (dP A0 R) v.2.next <;> rw [hb] at h <;> simp at h
      subst h
      simpa using Nat.le_of_ble_eq_true hb
    | call f xs=>
      simp only [fM] at h
      obtain ⟨p,_,h⟩:=Option.bind_eq_some_iff.1 h
      obtain ⟨v,_,h⟩:=Option.bind_eq_some_iff.1 h
      cases hb:Nat.ble (dP A0 R) v.2.next <;> rw [hb] at h <;> simp at h
      subst h
      simpa using Nat.le_of_ble_eq_true hb
    | bad=>simp [fM] at h
theorem Valid.vX {P:Program} {call:ca} {all:List Oper} {A0:St} {t0:Tm} : ∀ {R:List Rec},Valid P call all A0 t0 R→A0.next≤dP A0 R
  | [],_=>Nat.le_refl _
  | x :: R,hv=>by
    obtain ⟨h1,h2,o,h3,h4⟩:=hv
    have:=(E7 h4).1
    exact Nat.le_trans (Valid.vX h1) this
theorem Valid.nB {P:Program} {call:ca} {all:List Oper} {A0:St} {t0:Tm} : ∀ {R:List Rec},Valid P call all A0 t0 R→∀ {r:Rec},r ∈ R→r.nx≤dP A0 R
  | [],_,r,h=>by simp at h
  | x :: R,hv,r,hr=>by
    obtain ⟨h1,h2,o,h3,h4⟩:=hv
    rcases List.mem_cons.1 hr with rfl | hr
    · exact Nat.le_refl _
    · exact Nat.le_trans (Valid.nB h1 hr) (E7 h4).1
theorem Valid.order {P:Program} {call:ca} {all:List Oper} {A0:St} {t0:Tm} {R:List Rec} (hv:Valid P call all A0 t0 R) {r s:Rec} (hr:r ∈ R) (hs:s ∈ R) (aY:r.i < s.i) :
    ∃ R0,(∃ o,sS P call (az [] all) all A0 R0 s.i (oP all t0 R0) o=some s)∧r.nx≤dP A0 R0:=by
  obtain ⟨R0,R1,e,h5,h6,o,h7,h8⟩:=hv.at hs
  refine ⟨R0,⟨o,h8⟩,?_⟩
  have hm:r ∈ R0:=by
    obtain ⟨r',rD,wJ⟩:=h5.get (i:=r.i) (by omega)
    have:r=r':=hv.inj hr (by rw [e]; simp [rD]) wJ.symm
    rw [this]; exact rD
  exact h5.nB hm
end
end Go.aV
end
section
namespace Go.aV
noncomputable section
open Go
def gv (r:Rec):Prop:=∃ B,r.gp = .act B
theorem sk:∀ {R:List Rec} {e:Nat},R.Pairwise (fun x y=>y.i < x.i)→dn R=some e→∃ r ∈ R,r.i=e∧gv r∧∀ s ∈ R,gv s→s.i≤e
  | [],e,_,h=>by simp [dn] at h
  | r :: R,e,hp,h=>by
    rw [List.pairwise_cons] at hp
    simp only [dn] at h
    split at h
    · rename_i B hB
      simp at h; subst h
      refine ⟨r,by simp,rfl,⟨B,hB⟩,fun s hs _=>?_⟩
      rcases List.mem_cons.1 hs with rfl | hs
      · exact Nat.le_refl _
      · exact Nat.le_of_lt (hp.1 s hs)
    · rename_i hn
      obtain ⟨x,hx,h1,h2,h3⟩:=sk hp.2 h
      refine ⟨x,by simp [hx],h1,h2,fun s hs ha=>?_⟩
      rcases List.mem_cons.1 hs with rfl | hs
      · obtain ⟨B,hB⟩:=ha; exact absurd hB (hn B)
      · exact h3 s hs ha
theorem E8:∀ {R:List Rec},dn R=none→∀ s ∈ R,¬ gv s
  | [],_,s,hs,_=>by simp at hs
  | r :: R,h,s,hs,ha=>by
    simp only [dn] at h
    split at h
    · simp at h
    · rename_i hn
      rcases List.mem_cons.1 hs with rfl | hs
      · obtain ⟨B,hB⟩:=ha; exact hn B hB
      · exact E8 h s hs ha
theorem xR {A0:St} {e:Nat} : ∀ {R:List Rec} {r:Rec} {B:St},(∀ s ∈ R,s.i=e→s=r)→r ∈ R→r.i=e→r.gp = .act B→Cg A0 e R=B
  | [],r,B,_,h,_,_=>by simp at h
  | x :: R,r,B,hu,hr,he,hB=>by
    simp only [Cg]
    by_cases hx:x.i=e
    · have:=hu x (by simp) hx
      subst this
      rw [hB]
      simp [hx]
    · have rD:r ∈ R:=by
        rcases List.mem_cons.1 hr with rfl | h
        · exact absurd he hx
        · exact h
      have ih:=xR (A0:=A0) (fun s hs=>hu s (by simp [hs])) rD he hB
      have hb:Nat.beq x.i e=false:=by
        cases hb:Nat.beq x.i e with
        | false=>rfl
        | true=>exact absurd (Nat.eq_of_beq_eq_true hb) hx
      split
      · rw [hb,cond_false]; exact ih
      · exact ih
theorem vY {gT:Nat→Bool} {A:St} {x:Nat} {o:bf} : ∀ {R:List Rec},(jU gT A R).get x=some o→(∃ r ∈ R,gT r.i=true∧r.gp = .make x o)∨(A.get x=some o∧∀ r ∈ R,gT r.i=true→∀ o',r.gp≠.make x o')
  | [],h=>.inr ⟨h,by simp⟩
  | r :: R,h=>by
    simp only [jU] at h
    split at h
    · rename_i id ob hd
      cases hs:gT r.i with
      | true=>
        rw [hs,cond_true] at h
        simp only [St.lay,St.get,Trie.fv] at h
        by_cases hx:x=id
        · rw [if_pos hx] at h
          simp at h; subst h; subst hx
          exact .inl ⟨r,by simp,hs,hd⟩
        · rw [if_neg hx] at h
          rcases vY (R:=R) h with ⟨r',h1,h2,h3⟩ | ⟨h1,h2⟩
          · exact .inl ⟨r',by simp [h1],h2,h3⟩
          · refine .inr ⟨h1,fun r' rD K7 o'=>?_⟩
            rcases List.mem_cons.1 rD with rfl | rD
            · rw [hd]; intro e; simp at e; exact hx e.1.symm
            · exact h2 r' rD K7 o'
      | false=>
        rw [hs,cond_false] at h
        rcases vY (R:=R) h with ⟨r',h1,h2,h3⟩ | ⟨h1,h2⟩
        · exact .inl ⟨r',by simp [h1],h2,h3⟩
        · refine .inr ⟨h1,fun r' rD K7 o'=>?_⟩
          rcases List.mem_cons.1 rD with rfl | rD
          · rw [hs] at K7; simp at K7
          · exact h2 r' rD K7 o'
    · rename_i hn
      rcases vY (R:=R) h with ⟨r',h1,h2,h3⟩ | ⟨h1,h2⟩
      · exact .inl ⟨r',by simp [h1],h2,h3⟩
      · refine .inr ⟨h1,fun r' rD K7 o'=>?_⟩
        rcases List.mem_cons.1 rD with rfl | rD
        · exact hn x o'
        · exact h2 r' rD K7 o'
theorem Ij {gT:Nat→Bool} {A:St} {x:Nat} : ∀ {R:List Rec},(∀ r ∈ R,gT r.i=true→∀ o',r.gp≠.make x o')→(jU gT A R).get x=A.get x
  | [],_=>rfl
  | r :: R,h=>by
    have ih:=Ij (gT:=gT) (A:=A) (x:=x) (R:=R) fun r' rD=>h r' (by simp [rD])
    simp only [jU]
    split
    · rename_i id ob hd
      cases hs:gT r.i with
      | true=>
        rw [cond_true]
        simp only [St.lay,St.get,Trie.fv]
        rw [if_neg (fun e=>by subst e; exact h r (by simp) hs ob hd)]
        exact ih
      | false=>rw [cond_false]; exact ih
    · exact ih
theorem Ll {gT:Nat→Bool} {A:St} : ∀ {R:List Rec},(jU gT A R).members=A.members∧(jU gT A R).low=A.low∧(jU gT A R).next=A.next
  | []=>⟨rfl,rfl,rfl⟩
  | r :: R=>by
    have ih:=Ll (gT:=gT) (A:=A) (R:=R)
    simp only [jU]
    split
    · cases gT r.i with
      | true=>exact ih
      | false=>exact ih
    · exact ih
def JA (A0:St) (R:List Rec):Prop:=∀ r ∈ R,r.nx=A0.next∧(r.gp = .val∨∃ f vs,r.gp = .read f vs)
def Still (b:List Nat) (A0:St) (R:List Rec) (r:Rec):Prop:=(∀ s ∈ R,∀ id o,s.gp≠.make id o)∧∀ e,e ∈ ia R→EO b r.i e R=true→(mP A0 R e).next≤r.nx
def JB (b:List Nat) (A0:St) (R:List Rec):Prop:=∀ r ∈ R,∀ f vs,r.gp = .read f vs→(under r.nx r.v=true∨Still b A0 R r)∧∀ e,e ∈ ia R→EO b r.i e R=true→f (gM b A0 R e (cP b r.i)) vs=some r.v
structure Setup (P:Program) (call:ca) (all:List Oper) (A0:St) (t0:Tm) (R:List Rec):Prop where
  facts:fN P all
  valid:Valid P call all A0 t0 R
  len:R.length=all.length
  chain:nw (az [] all) R=true
  reads:JB (az [] all) A0 R
theorem Valid.sorted {P:Program} {call:ca} {all:List Oper} {A0:St} {t0:Tm} : ∀ {R:List Rec},Valid P call all A0 t0 R→R.Pairwise (fun x y=>y.i < x.i)
  | [],_=>.nil
  | r :: R,h=>by
    rw [List.pairwise_cons]
    exact ⟨fun s hs=>by have:=h.1.lt hs; rw [h.2.1]; exact this,Valid.sorted h.1⟩
theorem rE {P:Program} {call:ca} {all:List Oper} {A0:St} {t0:Tm} (hf:fN P all):∀ {R:List Rec},Valid P call all A0 t0 R→nw (az [] all) R=true→
    ∀ {r s:Rec},r ∈ R→s ∈ R→gv r→gv s→s.i < r.i→cP (az [] all) r.i s.i=true
  | [],_,_,r,s,h,_,_,_,_=>by simp at h
  | x :: R,hv,hc,r,s,hr,hs,ar,akK,aY=>by
    simp only [nw,Bool.and_eq_true] at hc
    have ZZ:s ∈ R:=by
      rcases List.mem_cons.1 hs with h | h
      · rcases List.mem_cons.1 hr with h' | h'
        · rw [h,h'] at aY; omega
        · have:=hv.1.lt h'; have:=hv.2.1; rw [h] at aY; omega
      · exact h
    rcases List.mem_cons.1 hr with h | h
    · subst h
      obtain ⟨B,hB⟩:=ar
      rw [hB] at hc
      cases he:dn R with
      | none=>exact absurd akK (E8 he s ZZ)
      | some e=>
        rw [he] at hc
        obtain ⟨y,hy,h1,h2,h3⟩:=sk hv.1.sorted he
        have hle:=h3 s ZZ akK
        by_cases hse:s.i=e
        · rw [hse]; exact hc.1
        · have:=rE hf hv.1 hc.2 hy ZZ h2 akK (by omega)
          rw [h1] at this
          exact SW hf hc.1 this
    · exact rE hf hv.1 hc.2 h ZZ ar akK aY
def lS (R:List Rec) (S:Nat→Bool):Option Nat:=dn (R.filter fun r=>S r.i)
def cg (A0:St) (R:List Rec) (S:Nat→Bool):St:=mP A0 R (lS R S)
def writer (all:List Oper) (R:List Rec) (S:Nat→Bool) (x:Nat):Option Rec:=R.find? fun r=>S r.i && (jn all r.i == some x)
def valOf (all:List Oper) (t0:Tm) (R:List Rec) (S:Nat→Bool) (x:Nat):Value:=
  match writer all R S x with
  | some r=>r.v
  | none=>(t0.get x).getD undef
def S0 (all:List Oper) (A0:St) (R:List Rec) (S:Nat→Bool) (x:Nat):Nat:=
  match writer all R S x with
  | some r=>r.nx
  | none=>A0.next
structure Inv (all:List Oper) (A0:St) (t0:Tm) (R:List Rec) (N:Nat) (d0:List Deferred) (base:Nat) (qd:aw) (w0:World) (S:Nat→Bool) (a:Act) (w:World) (ρ:aw):Prop where
  size:a.tmps.size=N
  defers:a.defers=d0
  tm:∀ x,VR (ρ.res (S0 all A0 R S x)) (valOf all t0 R S x) (a.tmps.getD x undef)
  core:b7 base qd A0 w0 (ρ.res (cg A0 R S).next) (cg A0 R S) w
  news:∀ r ∈ R,S r.i=true→∀ id o,r.gp = .make id o→Dy (az [] all) (lS R S) r.i=false→
    ∃ c cb,ρ id=some (mT o cb)∧uK (ρ.res r.nx) o c∧w.heap[cb]? = some c∧w0.heap.size≤cb∧¬ AU (ρ.res (cg A0 R S).next) (cg A0 R S) cb
  uN:∀ r ∈ R,∀ s ∈ R,S r.i=true→S s.i=true→∀ id o lX o',r.gp = .make id o→s.gp = .make lX o'→Dy (az [] all) (lS R S) r.i=false→Dy (az [] all) (lS R S) s.i=false→
    r.i≠s.i→∀ l l',ρ id=some l→ρ lX=some l'→l.cb≠l'.cb
  Lm:∀ r ∈ R,S r.i=false→∀ id o,r.gp = .make id o→ρ id=none
  eS:∀ bl l,ρ bl=some l→bl < (cg A0 R S).next∨∃ r ∈ R,S r.i=true∧∃ o,r.gp = .make bl o
theorem xC (o:bf) (cb:Nat):(mT o cb).cb=cb:=by cases o <;> rfl
theorem uK.obj {ρ:aw} {o:bf} {c:Obj} {base cb:Nat} {w:World} (h:uK ρ o c) (hw:w.heap[cb]? = some c) (hb:base≤cb):mh ρ base w (mT o cb) o∧o.bO=true∧o.fJ=none∧o≠.dead:=by
  have aY:cb < w.heap.size:=(Array.getElem?_eq_some_iff.1 hw).1
  unfold uK at h
  split at h
  · rename_i cs a8
    obtain ⟨a,T,rfl,h1,h2⟩:=h
    have hlen:a.size=cs.length:=h1.length
    have iY:∀ i,w.cell? ⟨cb,i,none⟩=a[i]?:=fun i=>by simp [World.cell?,hw]
    have sY:∀ i,w.frozen? ⟨cb,i,none⟩=false:=fun i=>by simp [World.frozen?,hw]
    refine ⟨⟨fun i v hi=>?_,fun h=>by simp at h,fun _=>hb,fun _ j hj=>?_,by simp [mT],fun _ _=>by simp [mT],rfl,aY,fun _ _ j=>sY j⟩,rfl,rfl,by simp⟩
    · obtain ⟨v',h3,h4⟩:=h1.get hi
      exact ⟨v',by simp only [mT,Nat.zero_add]; rw [iY]; simpa using h3,h4,h2 v (List.mem_of_getElem? hi)⟩
    · simp only [mT] at hj ⊢
      rw [iY,sY,Array.getElem?_eq_getElem (by omega)]
      exact ⟨rfl,rfl⟩
  · subst h
    exact ⟨⟨hb,#[],0,hw,rfl⟩,rfl,rfl,by simp⟩
  · rename_i s
    subst h
    exact ⟨⟨hb,rfl,hw⟩,rfl,rfl,by simp⟩
  · exact h.elim
theorem uK.mono {ρ aq:aw} (hle:ρ.le aq) {o:bf} {c:Obj} (h:uK ρ o c):uK aq o c:=by
  unfold uK at h ⊢
  split at h
  · obtain ⟨a,T,h1,h2,h3⟩:=h; exact ⟨a,T,h1,h2.mono hle,h3⟩
  · exact h
  · exact h
  · exact h.elim
section
variable {P:Program} {call:ca} {all:List Oper} {A0:St} {t0:Tm} {R:List Rec} {N:Nat} {d0:List Deferred} {base:Nat} {qd:aw} {w0:World}
theorem Setup.vZ (hS:Setup P call all A0 t0 R) {r:Rec} {id:Nat} {o:bf} (hr:r ∈ R) (hd:r.gp = .make id o):A0.next≤id∧r.nx=id+1:=by
  obtain ⟨R0,R1,e,h5,h6,op,h7,h8⟩:=hS.valid.at hr
  obtain ⟨h9,wN⟩:=(E7 h8).2.1 id o hd
  exact ⟨by rw [h9]; exact h5.vX,wN⟩
theorem Setup.Ln (hS:Setup P call all A0 t0 R) {r s:Rec} {id:Nat} {o:bf} (hr:r ∈ R) (hs:s ∈ R) (hd:s.gp = .make id o) (aY:r.i < s.i):r.nx≤id:=by
  obtain ⟨R0,⟨op,h1⟩,h2⟩:=hS.valid.order hr hs aY
  rw [((E7 h1).2.1 id o hd).1]
  exact h2
theorem Setup.WU (hS:Setup P call all A0 t0 R) {r s:Rec} {id:Nat} {o o' : bf} (hr:r ∈ R) (hs:s ∈ R) (hd:r.gp = .make id o) (wM:s.gp = .make id o'):r=s:=by
  rcases Nat.lt_trichotomy r.i s.i with h | h | h
  · have h1:=hS.Ln hr hs wM h
    have h2:=(hS.vZ hr hd).2
    omega
  · exact hS.valid.inj hr hs h
  · have h1:=hS.Ln hs hr hd h
    have h2:=(hS.vZ hs wM).2
    omega
theorem Setup.last (hS:Setup P call all A0 t0 R) (S:Nat→Bool):(lS R S=none∧cg A0 R S=A0∧∀ s ∈ R,gv s→S s.i=false)∨
    ∃ e ∈ R,lS R S=some e.i∧S e.i=true∧e.gp = .act (cg A0 R S)∧e.nx=(cg A0 R S).next∧∀ s ∈ R,gv s→S s.i=true→s.i≤e.i:=by
  cases h:lS R S with
  | none=>
    refine .inl ⟨rfl,by simp [cg,h,mP],fun s hs ha=>?_⟩
    cases En:S s.i with
    | false=>rfl
    | true=>exact absurd ha (E8 h s (by simp [hs,En]))
  | some e=>
    obtain ⟨r,hr,h1,⟨B,h2⟩,h3⟩:=sk (hS.valid.sorted.filter _) h
    rw [List.mem_filter] at hr
    have rF:cg A0 R S=B:=by
      simp only [cg,h,mP]
      exact xR (fun s hs he=>hS.valid.inj hs hr.1 (by rw [he,h1])) hr.1 h1 h2
    refine .inr ⟨r,hr.1,by rw [h1],hr.2,by rw [rF]; exact h2,?_,fun s hs ha En=>by rw [h1]; exact h3 s (by simp [hs,En]) ha⟩
    obtain ⟨R0,R1,e',h5,h6,op,h7,h8⟩:=hS.valid.at hr.1
    rw [rF]
    exact (E7 h8).2.2.1 B h2
theorem Inv.view (hS:Setup P call all A0 t0 R) (uj:fU qd A0 base w0) {S:Nat→Bool} {a:Act} {w:World} {ρ:aw} (hI:Inv all A0 t0 R N d0 base qd w0 S a w ρ) (gT:Nat→Bool) (WV:∀ r ∈ R,∀ id o,r.gp = .make id o→gT r.i=true→S r.i=true)
    (n:Nat) (hn:(cg A0 R S).next≤n) (hn2:∀ r ∈ R,∀ id o,r.gp = .make id o→gT r.i=true→Dy (az [] all) (lS R S) r.i=false→r.nx≤n) :
    b7 base qd A0 w0 (ρ.res n) ((gM (az [] all) A0 R (lS R S) gT).at n) w:=by
  have jo:=hI.core
  have qz:=jo.cW
  have hle:(ρ.res (cg A0 R S).next).le (ρ.res n):=ρ.pr hn
  have eM:∀ x o,(gM (az [] all) A0 R (lS R S) gT).get x=some o→(∃ r ∈ R,S r.i=true∧gT r.i=true∧Dy (az [] all) (lS R S) r.i=false∧r.gp = .make x o)∨
      ((cg A0 R S).get x=some o∧∀ r ∈ R,gT r.i=true→Dy (az [] all) (lS R S) r.i=false→∀ o',r.gp≠.make x o'):=by
    intro x o h
    rcases vY h with ⟨r,h1,h2,h3⟩ | ⟨h1,h2⟩
    · simp only [Bool.and_eq_true,Bool.not_eq_true'] at h2
      exact .inl ⟨r,h1,WV r h1 x o h3 h2.1,h2.1,h2.2,h3⟩
    · exact .inr ⟨h1,fun r hr hs hb o'=>h2 r hr (by simp [hs,hb]) o'⟩
  obtain ⟨hm,hl,_⟩:=Ll (gT:=fun j=>gT j && !Dy (az [] all) (lS R S) j) (A:=cg A0 R S) (R:=R)
  have lQ:∀ x o,(∃ r ∈ R,S r.i=true∧gT r.i=true∧Dy (az [] all) (lS R S) r.i=false∧r.gp = .make x o)→∃ cb,(ρ.res n) x=some (mT o cb)∧mh (ρ.res n) base w (mT o cb) o∧o.fJ=none∧
      w0.heap.size≤cb∧¬ AU (ρ.res (cg A0 R S).next) (cg A0 R S) cb:=by
    rintro x o ⟨r,h1,h2,h3,h4,h5⟩
    obtain ⟨c,cb,h6,h7,h8,h9,wN⟩:=hI.news r h1 h2 x o h5 h4
    have hx:x < n:=by have:=(hS.vZ h1 h5).2; have:=hn2 r h1 x o h5 h3 h4; omega
    have h0:=uj.size
    obtain ⟨k1,k2,k3,k4⟩:=(h7.mono (ρ.pr (hn2 r h1 x o h5 h3 h4))).obj (base:=base) h8 (by omega)
    exact ⟨cb,by rw [aw.qR hx]; exact h6,k1,k3,h9,wN⟩
  have A9:∀ x o l,(cg A0 R S).get x=some o→o≠.dead→(ρ.res n) x=some l→(ρ.res (cg A0 R S).next) x=some l:=by
    intro x o l hx hd hr
    obtain ⟨l',h1,_⟩:=qz.rel.obj hx hd
    have:=hle _ _ h1
    rw [hr] at this
    simp at this; subst this
    exact h1
  refine ⟨⟨.po ?_ ?_ ?_,?_,qz.size,qz.jO.mono hle⟩,?_,jo.kept,Nat.le_trans jo.next hn,?_,?_,?_⟩
  · intro x o hx hd
    rcases eM x o hx with h | ⟨h,_⟩
    · obtain ⟨cb,h1,h2,_⟩:=lQ x o h
      exact ⟨_,h1,h2⟩
    · obtain ⟨l,h1,h2⟩:=qz.rel.obj h hd
      exact ⟨l,hle _ _ h1,h2.eU hle rfl (Nat.le_refl _)⟩
  · intro b1 b2 o1 o2 l1 l2 bo g1 g2 m1 m2 r1 r2 vU
    have hd1:o1≠.dead:=by intro e; subst e; simp [bf.bO] at m1
    have hd2:o2≠.dead:=by intro e; subst e; simp [bf.bO] at m2
    rcases eM b1 o1 g1 with h1 | ⟨h1,_⟩ <;> rcases eM b2 o2 g2 with h2 | ⟨h2,_⟩
    · obtain ⟨r,a1,a2,a3,a4,a5⟩:=h1
      obtain ⟨s,c1,c2,c3,c4,c5⟩:=h2
      have hri:r.i≠s.i:=fun e=>by
        have:=hS.valid.inj a1 c1 e
        subst this
        rw [a5] at c5; simp at c5
        exact bo c5.1
      exact absurd vU (hI.uN r a1 s c1 a2 c2 b1 o1 b2 o2 a5 c5 a4 c4 hri l1 l2 (ρ.X0 n _ _ r1) (ρ.X0 n _ _ r2))
    · obtain ⟨cb,e1,_,_,_,e5⟩:=lQ b1 o1 h1
      rw [r1] at e1; simp at e1
      have ajD:l1.cb=cb:=by rw [e1,xC]
      exact absurd ⟨b2,o2,l2,h2,m2,A9 b2 o2 l2 h2 hd2 r2,by rw [← vU,ajD]⟩ e5
    · obtain ⟨cb,e1,_,_,_,e5⟩:=lQ b2 o2 h2
      rw [r2] at e1; simp at e1
      have ajE:l2.cb=cb:=by rw [e1,xC]
      exact absurd ⟨b1,o1,l1,h1,m1,A9 b1 o1 l1 h1 hd1 r1,by rw [vU,ajE]⟩ e5
    · exact qz.rel.apart b1 b2 o1 o2 l1 l2 bo h1 h2 m1 m2 (A9 b1 o1 l1 h1 hd1 r1) (A9 b2 o2 l2 h2 hd2 r2) vU
  · intro x o aJ f hx hk
    rcases eM x o hx with h | ⟨h,_⟩
    · obtain ⟨cb,_,_,h3,_⟩:=lQ x o h
      rw [hk] at h3; simp at h3
    · show x ∈ (gM (az [] all) A0 R (lS R S) gT).members aJ
      rw [show (gM (az [] all) A0 R (lS R S) gT).members=(cg A0 R S).members from hm]
      exact qz.rel.aW x o aJ f h hk
  · intro b l h; exact (aw.Lg h).1
  · intro b hb
    have h1:=jo.ext b hb
    have:b < (cg A0 R S).next:=Nat.lt_of_lt_of_le hb jo.next
    rw [aw.qR this] at h1
    rw [aw.qR (by omega)]
    exact h1
  · show (gM (az [] all) A0 R (lS R S) gT).low≤A0.low
    rw [show (gM (az [] all) A0 R (lS R S) gT).low=(cg A0 R S).low from hl]
    exact jo.low
  · intro b hb hbl
    show (gM (az [] all) A0 R (lS R S) gT).get b=A0.get b
    have ajF:b < (cg A0 R S).low:=by
      rw [← show (gM (az [] all) A0 R (lS R S) gT).low=(cg A0 R S).low from hl]; exact hbl
    rw [← jo.same b hb ajF]
    refine Ij fun r hr _ o' e=>?_
    have:=(hS.vZ hr e).1
    omega
  · rintro k hk ⟨b,o,l,hg,VM,hr,rfl⟩
    have hd:o≠.dead:=by intro e; subst e; simp [bf.bO] at VM
    rcases eM b o hg with h | ⟨h,_⟩
    · obtain ⟨cb,e1,_,_,e4,_⟩:=lQ b o h
      rw [hr] at e1; simp at e1
      rw [e1,xC] at hk
      omega
    · exact jo.SA _ hk ⟨b,o,l,h,VM,A9 b o l h hd hr,rfl⟩
theorem fy {x:Nat} : ∀ {xs:List Operand},Operand.tmp x ∈ xs→x ∈ k7 xs
  | [],h=>by simp at h
  | .tmp t :: xs,h=>by
    rcases List.mem_cons.1 h with h | h
    · simp at h; subst h; simp [k7]
    · simp [k7,fy h]
  | .const _ :: xs,h=>by
    rcases List.mem_cons.1 h with h | h
    · simp at h
    · simpa [k7] using fy h
  | .global _ :: xs,h=>by
    rcases List.mem_cons.1 h with h | h
    · simp at h
    · simpa [k7] using fy h
  | .func _ :: xs,h=>by
    rcases List.mem_cons.1 h with h | h
    · simp at h
    · simpa [k7] using fy h
theorem xS:∀ (R0:List Rec) (x:Nat),(oP all t0 R0).get x=match R0.find? (fun r=>jn all r.i == some x) with | some r=>some r.v | none=>t0.get x
  | [],x=>rfl
  | r :: R0,x=>by
    simp only [oP,List.find?_cons]
    cases hd:jn all r.i with
    | none=>simp only [sP]; rw [xS R0 x]; rfl
    | some d=>
      simp only [sP,Trie.fv]
      by_cases h:x=d
      · subst h; simp
      · rw [if_neg h,xS R0 x]
        have:(some d == some x)=false:=by simp; exact fun e=>h e.symm
        rw [this]
theorem VX (hS:Setup P call all A0 t0 R) {S:Nat→Bool} (hc:fc all S) {r:Rec} (hr:r ∈ R) {o:Oper} (ho:all[r.i]? = some o) (dQ:S r.i=false) (hJ:gU all S r.i)
    {x:Nat} (hx:x ∈ looks P all o):∃ R0,(∀ R1 R2,R=R1 ++ r :: R2→R2=R0)∧writer all R S x=R0.find? (fun r=>jn all r.i == some x):=by
  obtain ⟨R0,R1,e,h5,h6,o',h7,h8⟩:=hS.valid.at hr
  refine ⟨R0,fun R1' R2' e'=>?_,?_⟩
  · have hl:R2'.length=R0.length:=by
      have hv:=hS.valid
      rw [e'] at hv
      have key:∀ (X:List Rec),Valid P call all A0 t0 (X ++ r :: R2')→r.i=R2'.length:=by
        intro X
        induction X with
        | nil=>intro h; exact h.2.1
        | cons y X ih=>intro h; exact ih h.1
      rw [← key R1' hv,h6]
    have:=congrArg (fun l=>l.drop (l.length - R0.length)) (e.symm.trans e')
    simp only [List.length_append,List.length_cons,hl] at this
    have e1:(R1 ++ r :: R0).drop (R1.length+(R0.length+1) - R0.length)=R0:=by
      rw [show R1.length+(R0.length+1) - R0.length=R1.length+1 by omega,← List.drop_drop,List.drop_left]
      rfl
    have e2:(R1' ++ r :: R2').drop (R1'.length+(R0.length+1) - R0.length)=R2':=by
      rw [show R1'.length+(R0.length+1) - R0.length=R1'.length+1 by omega,← List.drop_drop,List.drop_left]
      rfl
    rw [e1,e2] at this
    exact this.symm
  · have aik:∀ s ∈ R,s.i≠r.i→jn all s.i=some x→(S s.i=true ↔ s.i < r.i):=by
      intro s hs bo hd
      obtain ⟨os,Cv⟩:∃ os,all[s.i]? = some os:=by
        cases h:all[s.i]? with
        | none=>simp [jn,h] at hd
        | some os=>exact ⟨os,rfl⟩
      have jd:os.dst=some x:=by simpa [jn,Cv] using hd
      have Lo:nW P all os o=true:=by
        unfold nW
        have:AK os.dst (looks P all o)=true:=by
          rw [jd]
          simp only [AK,List.any_eq_true]
          exact ⟨x,hx,by simp⟩
        rw [this]; rfl
      have ajG:nW P all o os=true:=by
        unfold nW at Lo ⊢
        simp only [Bool.or_eq_true] at Lo ⊢
        have ajH:∀ d e,sR d e=sR e d:=by
          intro d e
          cases d <;> cases e <;> simp [sR]
          rename_i p q
          rw [Bool.eq_iff_iff]; simp; exact eq_comm
        rw [ajH o.dst os.dst]
        rcases Lo with (h | h) | h
        · exact .inl (.inr h)
        · exact .inl (.inl h)
        · exact .inr h
      constructor
      · intro En
        rcases Nat.lt_or_ge s.i r.i with h | h
        · exact h
        · have aY:r.i < s.i:=by omega
          have:=hS.facts.apart s.i r.i o os Cv ho aY ajG
          have:=hc _ _ En this
          rw [dQ] at this; simp at this
      · intro aY
        exact hc.ready hS.facts ho hJ _ (hS.facts.apart r.i s.i os o ho Cv aY Lo)
    unfold writer
    rw [e,List.find?_append]
    have hv:=hS.valid
    have h1:R1.find? (fun r=>S r.i && (jn all r.i == some x))=none:=by
      rw [List.find?_eq_none]
      intro s hs E9
      simp only [Bool.and_eq_true,beq_iff_eq] at E9
      have ZZ:s ∈ R:=by rw [e]; simp [hs]
      have hgt:r.i < s.i:=by
        have hp:=hv.sorted
        rw [e,List.pairwise_append] at hp
        exact hp.2.2 s hs r (by simp)
      have:=(aik s ZZ (by omega) E9.2).1 E9.1
      omega
    rw [h1]
    simp only [Option.none_or,List.find?_cons,dQ,Bool.false_and]
    have h2:∀ (l:List Rec),(∀ s ∈ l,s ∈ R0)→l.find? (fun r=>S r.i && (jn all r.i == some x))=l.find? (fun r=>jn all r.i == some x):=by
      intro l
      induction l with
      | nil=>intro _; rfl
      | cons s l ih=>
        intro hl
        simp only [List.find?_cons]
        have uj:s ∈ R0:=hl s (by simp)
        have ZZ:s ∈ R:=by rw [e]; simp [uj]
        have aY:s.i < r.i:=by rw [h6]; exact h5.lt uj
        cases hd:(jn all s.i == some x) with
        | false=>simp only [Bool.and_false]; exact ih (fun y hy=>hl y (by simp [hy]))
        | true=>
          have:=(aik s ZZ (by omega) (by simpa using hd)).2 aY
          simp [this]
    exact h2 R0 (fun s hs=>hs)
end
end
end Go.aV
end
section
namespace Go.aV
noncomputable section
open Go
theorem s6 {p q:Rec→Bool} : ∀ (l:List Rec),(∀ s ∈ l,gv s→p s=q s)→dn (l.filter p)=dn (l.filter q)
  | [],_=>rfl
  | s :: l,h=>by
    have ih:=s6 l fun x hx=>h x (by simp [hx])
    cases hd:s.gp with
    | act B=>
      have:=h s (by simp) ⟨B,hd⟩
      rw [List.filter_cons,List.filter_cons,this]
      split
      · simp only [dn,hd]
      · exact ih
    | _=>
      rw [List.filter_cons,List.filter_cons]
      split <;> split <;> first | exact ih | (simp only [dn,hd]; exact ih)
theorem Ik:∀ (l m:List Rec),(∀ s ∈ l,¬ gv s)→dn (l ++ m)=dn m
  | [],m,_=>rfl
  | s :: l,m,h=>by
    have ih:=Ik l m fun x hx=>h x (by simp [hx])
    have hs:=h s (by simp)
    simp only [List.cons_append,dn]
    split
    · rename_i B hB; exact absurd ⟨B,hB⟩ hs
    · exact ih
theorem Lq {gT:Nat→Bool} {A:St} : ∀ (l m:List Rec),(∀ s ∈ l,gT s.i=false)→jU gT A (l ++ m)=jU gT A m
  | [],m,_=>rfl
  | s :: l,m,h=>by
    have ih:=Lq (A:=A) l m fun x hx=>h x (by simp [hx])
    simp only [List.cons_append,jU]
    split
    · rw [h s (by simp),cond_false]; exact ih
    · exact ih
theorem find_congr {p q:Rec→Bool} : ∀ (l:List Rec),(∀ s ∈ l,p s=q s)→l.find? p=l.find? q
  | [],_=>rfl
  | s :: l,h=>by
    simp only [List.find?_cons,h s (by simp),find_congr l fun x hx=>h x (by simp [hx])]
theorem lJ (S:Nat→Bool) (i:Nat):aZ S i i=true:=by simp [aZ]
theorem fA {S:Nat→Bool} {i j:Nat} (h:j≠i):aZ S i j=S j:=by
  have:Nat.beq j i=false:=by
    cases hb:Nat.beq j i with
    | false=>rfl
    | true=>exact absurd (Nat.eq_of_beq_eq_true hb) h
  simp [aZ,this]
theorem fU.eU {ρ aq:aw} {A:St} {base:Nat} {w w' : World} (hs:fU ρ A base w) (hle:ρ.le aq) (ajI:∀ b l,aq b=some l→b < A.next) (hw:∀ k,k < w.heap.size→w'.heap[k]? = w.heap[k]?) (cA:w.heap.size≤w'.heap.size):fU aq A base w':=by
  have Om:∀ b o l,A.get b=some o→o≠.dead→aq b=some l→ρ b=some l:=by
    intro b o l hg hd hr
    obtain ⟨l',h1,_⟩:=hs.rel.obj hg hd
    have:=hle _ _ h1
    rw [hr] at this; simp at this; subst this
    exact h1
  refine ⟨.po (fun b o hg hd=>?_) ?_ hs.rel.aW,ajI,Nat.le_trans hs.size cA,hs.jO.mono hle⟩
  · obtain ⟨l,h1,h2⟩:=hs.rel.obj hg hd
    exact ⟨l,hle _ _ h1,h2.eU hle (hw _ (h2.lt hd)) cA⟩
  · intro b1 b2 o1 o2 l1 l2 bo g1 g2 m1 m2 r1 r2 vU
    exact hs.rel.apart b1 b2 o1 o2 l1 l2 bo g1 g2 m1 m2 (Om b1 o1 l1 g1 (by intro e; subst e; simp [bf.bO] at m1) r1) (Om b2 o2 l2 g2 (by intro e; subst e; simp [bf.bO] at m2) r2) vU
theorem AU.eU {ρ aq:aw} {A:St} {base:Nat} {w:World} {k:Nat} (hs:fU ρ A base w) (hle:ρ.le aq) (h:AU aq A k):AU ρ A k:=by
  obtain ⟨b,o,l,hg,hm,hr,rfl⟩:=h
  obtain ⟨l',h1,_⟩:=hs.rel.obj hg (by intro e; subst e; simp [bf.bO] at hm)
  have:=hle _ _ h1
  rw [hr] at this; simp at this; subst this
  exact ⟨b,o,l,hg,hm,h1,rfl⟩
theorem AU.lt {ρ:aw} {A:St} {base:Nat} {w:World} {k:Nat} (hs:fU ρ A base w) (h:AU ρ A k):k < w.heap.size:=by
  obtain ⟨b,o,l,hg,hm,hr,rfl⟩:=h
  have hd:o≠.dead:=by intro e; subst e; simp [bf.bO] at hm
  obtain ⟨l',h1,h2⟩:=hs.rel.obj hg hd
  rw [hr] at h1; simp at h1; subst h1
  exact h2.lt hd
section
variable {P:Program} {call:ca} {all:List Oper} {A0:St} {t0:Tm} {R:List Rec} {N:Nat} {d0:List Deferred} {base:Nat} {qd:aw} {w0:World}
theorem S1 (hS:Setup P call all A0 t0 R) {S:Nat→Bool} (hc:fc all S) {r:Rec} (hr:r ∈ R) {o:Oper} (ho:all[r.i]? = some o) (dQ:S r.i=false) (x:Nat) :
    writer all R (aZ S r.i) x=if o.dst=some x then some r else writer all R S x:=by
  have hd:jn all r.i=o.dst:=by simp [jn,ho]
  by_cases h:o.dst=some x
  · rw [if_pos h]
    obtain ⟨R0,R1,e,_⟩:=hS.valid.at hr
    unfold writer
    rw [e,List.find?_append]
    have h1:R1.find? (fun s=>aZ S r.i s.i && (jn all s.i == some x))=none:=by
      rw [List.find?_eq_none]
      intro s hs E9
      simp only [Bool.and_eq_true,beq_iff_eq] at E9
      have hgt:r.i < s.i:=by
        have hp:=hS.valid.sorted
        rw [e,List.pairwise_append] at hp
        exact hp.2.2 s hs r (by simp)
      rw [fA (by omega)] at E9
      obtain ⟨os,Cv⟩:∃ os,all[s.i]? = some os:=by
        cases h' : all[s.i]? with
        | none=>simp [jn,h'] at E9
        | some os=>exact ⟨os,rfl⟩
      have hds:os.dst=some x:=by simpa [jn,Cv] using E9.2
      have Lo:nW P all o os=true:=by
        unfold nW
        have:sR o.dst os.dst=true:=by rw [h,hds]; simp [sR]
        rw [this]; simp
      have:=hc _ _ E9.1 (hS.facts.apart s.i r.i o os Cv ho hgt Lo)
      rw [dQ] at this; simp at this
    rw [h1]
    simp [lJ,hd,h]
  · rw [if_neg h]
    refine find_congr R fun s hs=>?_
    by_cases e:s.i=r.i
    · have:(jn all s.i == some x)=false:=by rw [e,hd]; simpa using h
      simp [this]
    · rw [fA e]
theorem aeo (hS:Setup P call all A0 t0 R) {S:Nat→Bool} {a:Act} {w:World} {ρ:aw} (hI:Inv all A0 t0 R N d0 base qd w0 S a w ρ) (hc:fc all S) {r:Rec} {o:Oper} {R0 R1:List Rec} (hr:r ∈ R) (e:R=R1 ++ r :: R0) (hv:Valid P call all A0 t0 R0)
    (ho:all[r.i]? = some o) (dQ:S r.i=false) (hJ:gU all S r.i) {x:Nat} (hx:x ∈ looks P all o) :
    VR (ρ.res (dP A0 R0)) (((oP all t0 R0).get x).getD undef) (a.tmps.getD x undef):=by
  obtain ⟨R0',h1,h2⟩:=VX hS hc hr ho dQ hJ hx
  have:=h1 R1 R0 e
  subst this
  have ht:=hI.tm x
  unfold S0 valOf at ht
  rw [h2] at ht
  rw [xS]
  cases hf:R0.find? (fun r=>jn all r.i == some x) with
  | none=>rw [hf] at ht; exact ht.mono (ρ.pr hv.vX)
  | some s=>rw [hf] at ht; exact ht.mono (ρ.pr (hv.nB (List.mem_of_find?_eq_some hf)))
theorem X1 {ρ:aw} {t:Tm} {a:Act} {o:Oper} {wd:Bool} (h:∀ d ∈ sh all o,VR ρ ((t.get d).getD undef) (a.tmps.getD d undef)∧(t.get d≠none→d < a.tmps.size)) (hw:sQ all t o.guard=some wd) :
    Region.wanted o (yielded ⟨all⟩ a.tmps)=wd:=by
  unfold sQ at hw
  unfold Region.wanted
  split at hw
  · rename_i hg; simp at hw; rw [hg]; exact hw.symm
  · rename_i j want hg
    rw [hg]
    simp only
    unfold yielded
    have e:(⟨all⟩:Array Oper)[j]? = all[j]?:=by simp
    rw [e]
    cases hd:(all[j]?).bind (·.dst) with
    | none=>rw [hd] at hw; simp [gj] at hw; subst hw; simp
    | some d=>
      rw [hd] at hw
      simp only [Option.bind_some] at hw ⊢
      obtain ⟨hv,aY⟩:=h d (by simp [sh,hg,hd])
      cases ht:t.get d with
      | none=>
        rw [ht] at hw hv
        simp [gj] at hw; subst hw
        simp only [Option.getD_none] at hv
        have hu:a.tmps.getD d undef=undef:=hv.ib (by simp [undef,flat,sL,kO])
        cases hc:a.tmps[d]? with
        | none=>simp
        | some u=>
          have:a.tmps.getD d undef=u:=by simp [Array.getD_eq_getD_getElem?,hc]
          rw [hu] at this
          subst this
          simp [undef]
      | some v=>
        have aY:=aY (by rw [ht]; simp)
        rw [ht] at hw hv
        simp only [Option.getD_some] at hv
        have hc:a.tmps[d]? = some (a.tmps.getD d undef):=by simp [Array.getD_eq_getD_getElem?,aY]
        rw [hc]
        generalize a.tmps.getD d undef=u at hv
        cases v with
        | bool b=>
          simp [gj] at hw
          have:=hv.cF
          subst this
          subst hw
          cases b <;> cases want <;> rfl
        | tuple cs=>
          simp [gj] at hw
          obtain ⟨bk,rfl,_⟩:=hv.xQ
          subst hw
          rfl
        | _=>simp [gj] at hw
theorem aep {a:Act} {dst:Option Tmp} {v' : Value} {x:Nat} (hd:∀ d,dst=some d→d < a.tmps.size):(a.put dst v').tmps.getD x undef=if dst=some x then v' else a.tmps.getD x undef:=by
  cases dst with
  | none=>simp [Act.put]
  | some d=>
    have:=hd d rfl
    simp only [Act.put]
    by_cases h:x=d
    · subst h; simp [Array.getD_eq_getD_getElem?,this]
    · rw [if_neg (by simpa using fun e=>h e.symm)]
      simp [Array.getD_eq_getD_getElem?,Array.getElem?_setIfInBounds_ne (Ne.symm h)]
theorem JC (hS:Setup P call all A0 t0 R) {S:Nat→Bool} {a:Act} {w:World} {ρ aq:aw} (hI:Inv all A0 t0 R N d0 base qd w0 S a w ρ) (hc:fc all S) {r:Rec} {o:Oper} (hr:r ∈ R) (ho:all[r.i]? = some o) (dQ:S r.i=false)
    (jd:∀ d,o.dst=some d→d < N) (hle:ρ.le aq) {v' : Value} (hv:VR (aq.res r.nx) r.v v') :
    ∀ x,VR (aq.res (S0 all A0 R (aZ S r.i) x)) (valOf all t0 R (aZ S r.i) x) ((a.put o.dst v').tmps.getD x undef):=by
  intro x
  rw [aep (by rw [hI.size]; exact jd)]
  unfold S0 valOf
  rw [S1 hS hc hr ho dQ]
  by_cases h:o.dst=some x
  · simp only [if_pos h]; exact hv
  · simp only [if_neg h]
    exact (hI.tm x).mono (aw.vW hle _)
theorem S2 {S:Nat→Bool} {r:Rec} (hS:Setup P call all A0 t0 R) (hr:r ∈ R) (zD : ¬ gv r):lS R (aZ S r.i)=lS R S:=by
  refine s6 R fun s hs ha=>?_
  by_cases e:s.i=r.i
  · exact absurd (hS.valid.inj hs hr e ▸ ha) zD
  · exact fA e
theorem Inv.plain (hS:Setup P call all A0 t0 R) {S:Nat→Bool} {a:Act} {w:World} {ρ:aw} (hI:Inv all A0 t0 R N d0 base qd w0 S a w ρ) (hc:fc all S) {r:Rec} {o:Oper} (hr:r ∈ R) (ho:all[r.i]? = some o) (dQ:S r.i=false)
    (jd:∀ d,o.dst=some d→d < N) (zD : ¬ gv r) (Z0:∀ id ob,r.gp≠.make id ob) {v' : Value} (hv:VR (ρ.res r.nx) r.v v'):Inv all A0 t0 R N d0 base qd w0 (aZ S r.i) (a.put o.dst v') w ρ:=by
  have hl:=S2 (S:=S) hS hr zD
  have rF:cg A0 R (aZ S r.i)=cg A0 R S:=by simp only [cg,hl]
  have Em:∀ s ∈ R,aZ S r.i s.i=true→∀ id ob,s.gp = .make id ob→S s.i=true:=by
    intro s hs h id ob hd
    by_cases e:s.i=r.i
    · have:=hS.valid.inj hs hr e
      subst this
      exact absurd hd (Z0 id ob)
    · rwa [fA e] at h
  refine ⟨?_,?_,JC hS hI hc hr ho dQ jd (aw.le_refl _) hv,?_,?_,?_,?_,?_⟩
  · rw [← hI.size]; cases o.dst <;> simp [Act.put]
  · rw [← hI.defers]; cases o.dst <;> rfl
  · rw [rF]; exact hI.core
  · rw [rF,hl]; intro s hs h id ob hd hb; exact hI.news s hs (Em s hs h id ob hd) id ob hd hb
  · rw [hl]; intro s hs u hu h1 h2 id ob lX VY d1 d2; exact hI.uN s hs u hu (Em s hs h1 id ob d1) (Em u hu h2 lX VY d2) id ob lX VY d1 d2
  · intro s hs h id ob hd
    have bo:s.i≠r.i:=fun e=>by rw [e,lJ] at h; simp at h
    rw [fA bo] at h
    exact hI.Lm s hs h id ob hd
  · rw [rF]
    intro b l h
    rcases hI.eS b l h with h | ⟨s,hs,h1,h2⟩
    · exact .inl h
    · exact .inr ⟨s,hs,by unfold aZ; rw [h1]; rfl,h2⟩
theorem Inv.made (hS:Setup P call all A0 t0 R) {S:Nat→Bool} {a:Act} {w:World} {ρ:aw} (hI:Inv all A0 t0 R N d0 base qd w0 S a w ρ) (hc:fc all S) {r:Rec} {o:Oper} (hr:r ∈ R) (ho:all[r.i]? = some o) (dQ:S r.i=false)
    (jd:∀ d,o.dst=some d→d < N) {id:Nat} {ob:bf} (hd:r.gp = .make id ob) {c:Obj} {n:Nat} (lQ:uK (ρ.res n) ob c) (hn:n≤r.nx) {v' : Value} (hv:∀ aq:aw,aq id=some (mT ob w.heap.size)→VR aq r.v v') :
    Inv all A0 t0 R N d0 base qd w0 (aZ S r.i) (a.put o.dst v') (w.alloc c) (ρ.set id (mT ob w.heap.size)):=by
  have zD : ¬ gv r:=by rintro ⟨B,hB⟩; rw [hd] at hB; simp at hB
  have hl:=S2 (S:=S) hS hr zD
  have rF:cg A0 R (aZ S r.i)=cg A0 R S:=by simp only [cg,hl]
  have hun:=hI.Lm r hr dQ id ob hd
  have hle:ρ.le (ρ.set id (mT ob w.heap.size)):=by
    intro b l h
    rw [aw.eX]
    · exact h
    · intro e; subst e; rw [hun] at h; simp at h
  obtain ⟨hid,Lr⟩:=hS.vZ hr hd
  have hold:∀ k,k < w.heap.size→(w.alloc c).heap[k]? = w.heap[k]?:=fun k hk=>RowKit.Below.heap_alloc _ _ _ hk
  have cA:w.heap.size≤(w.alloc c).heap.size:=by simp
  have qz:=hI.core.cW
  have ail:=aw.vW hle (cg A0 R S).next
  have ac9:∀ k,AU ((ρ.set id (mT ob w.heap.size)).res (cg A0 R S).next) (cg A0 R S) k→AU (ρ.res (cg A0 R S).next) (cg A0 R S) k:=fun k h=>h.eU qz ail
  refine ⟨?_,?_,JC hS hI hc hr ho dQ jd hle (hv _ (by rw [aw.qR (by omega),aw.gk])),?_,?_,?_,?_,?_⟩
  · rw [← hI.size]; cases o.dst <;> simp [Act.put]
  · rw [← hI.defers]; cases o.dst <;> rfl
  · rw [rF]
    have jo:=hI.core
    refine ⟨qz.eU ail (fun b l h=>(aw.Lg h).1) hold cA,fun b hb=>?_,⟨jo.kept.os,jo.kept.tape,jo.kept.output,Nat.le_trans jo.kept.size cA,fun k hk hn=>?_⟩,jo.next,jo.low,jo.same,fun k hk h=>jo.SA k hk (ac9 k h)⟩
    · have h1:=jo.ext b hb
      have:b < (cg A0 R S).next:=Nat.lt_of_lt_of_le hb jo.next
      rw [aw.qR this] at h1 ⊢
      rw [aw.eX _ _ (by omega)]
      exact h1
    · rw [hold k (Nat.lt_of_lt_of_le hk jo.kept.size)]; exact jo.kept.block k hk hn
  · rw [rF,hl]
    intro s hs h lX VY wM hb
    by_cases e:s.i=r.i
    · have:=hS.valid.inj hs hr e
      subst this
      rw [hd] at wM; simp at wM
      obtain ⟨rfl,rfl⟩:=wM
      refine ⟨c,w.heap.size,aw.gk _ _ _,lQ.mono (aw.le_trans (ρ.pr hn) (aw.vW hle _)),(MapKept.heap_alloc w c).1,hI.core.kept.size,fun h=>?_⟩
      have:=(ac9 _ h).lt qz
      omega
    · rw [fA e] at h
      obtain ⟨c',cb,h1,h2,h3,h4,h5⟩:=hI.news s hs h lX VY wM hb
      exact ⟨c',cb,hle _ _ h1,h2.mono (aw.vW hle _),by rw [hold cb (Array.getElem?_eq_some_iff.1 h3).1]; exact h3,h4,fun h=>h5 (ac9 _ h)⟩
  · rw [hl]
    have ada:∀ s ∈ R,aZ S r.i s.i=true→∀ lX VY,s.gp = .make lX VY→Dy (az [] all) (lS R S) s.i=false→∀ l,(ρ.set id (mT ob w.heap.size)) lX=some l→
        (s.i=r.i∧l.cb=w.heap.size)∨(s.i≠r.i∧S s.i=true∧ρ lX=some l∧l.cb < w.heap.size):=by
      intro s hs h lX VY wM hb l gN
      by_cases e:s.i=r.i
      · have:=hS.valid.inj hs hr e
        subst this
        rw [hd] at wM; simp at wM
        rw [← wM.1,aw.gk] at gN
        simp at gN
        exact .inl ⟨rfl,by rw [← gN,xC]⟩
      · rw [fA e] at h
        have bo:lX≠id:=fun e'=>by
          subst e'
          exact e (by rw [hS.WU hs hr wM hd])
        rw [aw.eX _ _ bo] at gN
        obtain ⟨c',cb,h1,_,h3,_⟩:=hI.news s hs h lX VY wM hb
        rw [h1] at gN; simp at gN
        exact .inr ⟨e,h,by rw [h1,gN],by rw [← gN,xC]; exact (Array.getElem?_eq_some_iff.1 h3).1⟩
    intro s hs u hu h1 h2 id1 ob1 id2 ob2 d1 d2 b1 b2 bo l1 l2 e1 e2
    rcases ada s hs h1 id1 ob1 d1 b1 l1 e1 with ⟨p1,p2⟩ | ⟨p1,p2,p3,p4⟩ <;> rcases ada u hu h2 id2 ob2 d2 b2 l2 e2 with ⟨q1,q2⟩ | ⟨q1,q2,q3,q4⟩
    · omega
    · omega
    · omega
    · exact hI.uN s hs u hu p2 q2 id1 ob1 id2 ob2 d1 d2 b1 b2 bo l1 l2 p3 q3
  · intro s hs h lX VY wM
    have bo:s.i≠r.i:=fun e=>by rw [e,lJ] at h; simp at h
    rw [fA bo] at h
    have S3:lX≠id:=fun e'=>by
      subst e'
      exact bo (by rw [hS.WU hs hr wM hd])
    rw [aw.eX _ _ S3]
    exact hI.Lm s hs h lX VY wM
  · rw [rF]
    intro b l h
    by_cases e:b=id
    · subst e; exact .inr ⟨r,hr,lJ _ _,ob,hd⟩
    · rw [aw.eX _ _ e] at h
      rcases hI.eS b l h with h | ⟨s,hs,h1,h2⟩
      · exact .inl h
      · exact .inr ⟨s,hs,by unfold aZ; rw [h1]; rfl,h2⟩
theorem ahz (hS:Setup P call all A0 t0 R) {S:Nat→Bool} (hc:fc all S) {r:Rec} {R0 R1:List Rec} (hr:r ∈ R) (e:R=R1 ++ r :: R0) (hv:Valid P call all A0 t0 R0) (hi:r.i=R0.length) (ha:gv r) (dQ:S r.i=false)
    {o:Oper} (ho:all[r.i]? = some o) (hJ:gU all S r.i) :
    lS R S=dn R0∧gM (az [] all) A0 R0 (dn R0) (cP (az [] all) r.i)=gM (az [] all) A0 R (lS R S) (cP (az [] all) r.i):=by
  have hp:=hS.valid.sorted
  have hR1:∀ s ∈ R1,r.i < s.i:=fun s hs=>by
    rw [e,List.pairwise_append] at hp
    exact hp.2.2 s hs r (by simp)
  have hR0:∀ s ∈ R0,s.i < r.i:=fun s hs=>by rw [hi]; exact hv.lt hs
  have aiS:∀ s ∈ R0,gv s→S s.i=true:=fun s hs h=>
    hc.ready hS.facts ho hJ _ (rE hS.facts hS.valid hS.chain hr (by rw [e]; simp [hs]) ha h (hR0 s hs))
  have aiT:∀ s ∈ R1,gv s→S s.i=false:=fun s hs h=>by
    cases En:S s.i with
    | false=>rfl
    | true=>
      have:=hc _ _ En (rE hS.facts hS.valid hS.chain (by rw [e]; simp [hs]) hr h ha (hR1 s hs))
      rw [dQ] at this; simp at this
  have h1:lS R S=dn R0:=by
    unfold lS
    rw [e,List.filter_append,Ik]
    · have ajJ : ¬ (S r.i=true):=by rw [dQ]; simp
      rw [List.filter_cons,if_neg ajJ]
      have:R0=R0.filter (fun _=>true):=(List.filter_eq_self.2 fun _ _=>rfl).symm
      conv=>rhs; rw [this]
      exact s6 R0 fun s hs h=>aiS s hs h
    · intro s hs h
      rw [List.mem_filter] at hs
      rw [aiT s hs.1 h] at hs
      exact absurd hs.2 (by simp)
  refine ⟨h1,?_⟩
  rw [h1]
  unfold gM
  have h2:mP A0 R (dn R0)=mP A0 R0 (dn R0):=by
    cases hl:dn R0 with
    | none=>rfl
    | some k=>
      obtain ⟨y,hy,h3,⟨B,h4⟩,_⟩:=sk hv.sorted hl
      simp only [mP]
      rw [xR (fun s hs he=>hS.valid.inj hs (by rw [e]; simp [hy]) (by rw [he,h3])) (by rw [e]; simp [hy]) h3 h4,xR (fun s hs he=>hv.inj hs hy (by rw [he,h3])) hy h3 h4]
  rw [h2]
  conv=>rhs; rw [e,show R1 ++ r :: R0=(R1 ++ [r]) ++ R0 by simp]
  refine (Lq (R1 ++ [r]) R0 fun s hs=>?_).symm
  have XW:r.i≤s.i:=by
    rcases List.mem_append.1 hs with h | h
    · exact Nat.le_of_lt (hR1 s h)
    · simp at h; rw [h]; exact Nat.le_refl _
  cases hb:cP (az [] all) r.i s.i with
  | false=>rfl
  | true=>have:=Li hS.facts hb; omega
theorem Inv.afB (hS:Setup P call all A0 t0 R) (uj:fU qd A0 base w0) {S:Nat→Bool} {a:Act} {w:World} {ρ:aw} (hI:Inv all A0 t0 R N d0 base qd w0 S a w ρ) (hc:fc all S) {r:Rec} {o:Oper} {R0 R1:List Rec} (hr:r ∈ R) (e:R=R1 ++ r :: R0)
    (hv:Valid P call all A0 t0 R0) (hi:r.i=R0.length) (ho:all[r.i]? = some o) (dQ:S r.i=false) (hJ:gU all S r.i) (jd:∀ d,o.dst=some d→d < N) {B:St} (hd:r.gp = .act B) (Lr:dP A0 R0≤r.nx) (hB:r.nx=B.next) :
    b7 base qd A0 w0 (ρ.res (dP A0 R0)) ((gM (az [] all) A0 R0 (dn R0) (cP (az [] all) r.i)).at (dP A0 R0)) w∧
    ∀ iU v' w',b7 base (ρ.res (dP A0 R0)) ((gM (az [] all) A0 R0 (dn R0) (cP (az [] all) r.i)).at (dP A0 R0)) w iU B w'→VR iU r.v v'→
      ∃ aq,Inv all A0 t0 R N d0 base qd w0 (aZ S r.i) (a.put o.dst v') w' aq:=by
  have ha:gv r:=⟨B,hd⟩
  obtain ⟨hlS,Ig⟩:=ahz hS hc hr e hv hi ha dQ ho hJ
  have hp:=hS.valid.sorted
  have hR1:∀ s ∈ R1,r.i < s.i:=fun s hs=>by
    rw [e,List.pairwise_append] at hp
    exact hp.2.2 s hs r (by simp)
  have adb:∀ s ∈ R,s.i < r.i→s ∈ R0:=fun s hs aY=>by
    rw [e] at hs
    rcases List.mem_append.1 hs with h | h
    · have:=hR1 s h; omega
    · rcases List.mem_cons.1 h with h | h
      · rw [h] at aY; omega
      · exact h
  have hcn:(cg A0 R S).next≤dP A0 R0:=by
    rcases hS.last S with ⟨_,h2,_⟩ | ⟨y,hy,h1,h2,h3,h4,h5⟩
    · rw [h2]; exact hv.vX
    · rw [← h4]
      refine hv.nB (adb y hy ?_)
      rw [hlS] at h1
      obtain ⟨z,hz,h6,_⟩:=sk hv.sorted h1
      rw [← h6,hi]; exact hv.lt hz
  have ahA:∀ s ∈ R,cP (az [] all) r.i s.i=true→s ∈ R0:=fun s hs h=>adb s hs (Li hS.facts h)
  have mU:=hI.view hS uj (cP (az [] all) r.i) (fun s hs id ob _ h=>hc.ready hS.facts ho hJ _ h) (dP A0 R0) hcn (fun s hs id ob _ h _=>hv.nB (ahA s hs h))
  rw [← Ig] at mU
  refine ⟨mU,fun iU v' w' hg hvr=>?_⟩
  have aiU:∀ s ∈ R,S s.i=true→∀ id ob,s.gp = .make id ob→id < dP A0 R0∨B.next≤id:=by
    intro s hs En id ob hm
    rcases Nat.lt_trichotomy s.i r.i with h | h | h
    · have:=hv.nB (adb s hs h)
      have:=(hS.vZ hs hm).2
      left; omega
    · rw [h,dQ] at En; simp at En
    · have:=hS.Ln hr hs hm h
      right; omega
  have K5:∀ b,b < dP A0 R0→iU b=ρ b:=fun b hb=>by
    have:=hg.ext b hb
    rw [aw.qR hb] at this
    exact this
  have ajK:∀ b l,iU b=some l→b < B.next:=hg.cW.eS
  let aq:aw:=fun b=>if b < B.next then iU b else ρ b
  have hle:ρ.le aq:=by
    intro b l h
    show (if b < B.next then iU b else ρ b)=some l
    split
    · rename_i hb
      by_cases hb0:b < dP A0 R0
      · rw [K5 b hb0]; exact h
      · rcases hI.eS b l h with h1 | ⟨s,hs,h1,ob,h2⟩
        · omega
        · rcases aiU s hs h1 b ob h2 with h3 | h3 <;> omega
    · exact h
  have DC:aq.res B.next=iU:=by
    funext b
    unfold aw.res
    by_cases hb:b < B.next
    · rw [if_pos hb]; show (if b < B.next then iU b else ρ b)=iU b; rw [if_pos hb]
    · rw [if_neg hb]
      cases h:iU b with
      | none=>rfl
      | some l=>exact absurd (ajK b l h) hb
  have gN:lS R (aZ S r.i)=some r.i:=by
    have ajL:∀ s ∈ R,gv s→S s.i=true→s.i < r.i:=by
      intro s hs h En
      rcases Nat.lt_trichotomy s.i r.i with h1 | h1 | h1
      · exact h1
      · rw [h1,dQ] at En; simp at En
      · have:=hc _ _ En (rE hS.facts hS.valid hS.chain hs hr h ha h1)
        rw [dQ] at this; simp at this
    rcases hS.last (aZ S r.i) with ⟨_,_,h3⟩ | ⟨y,hy,h1,h2,h3,_,h5⟩
    · have:=h3 r hr ha
      rw [lJ] at this; simp at this
    · have h6:=h5 r hr ha (lJ _ _)
      rw [h1]
      by_cases hyr:y.i=r.i
      · rw [hyr]
      · rw [fA hyr] at h2
        have:=ajL y hy ⟨_,h3⟩ h2
        omega
  have X2:cg A0 R (aZ S r.i)=B:=by
    simp only [cg,gN,mP]
    exact xR (fun s hs he=>hS.valid.inj hs hr he) hr rfl hd
  have hold:∀ s ∈ R,aZ S r.i s.i=true→∀ id ob,s.gp = .make id ob→cP (az [] all) r.i s.i=false→S s.i=true∧Dy (az [] all) (lS R S) s.i=false:=by
    intro s hs h id ob hm hb
    have bo:s.i≠r.i:=fun e'=>by
      have:=hS.valid.inj hs hr e'
      subst this
      rw [hd] at hm; simp at hm
    rw [fA bo] at h
    refine ⟨h,?_⟩
    cases hl:lS R S with
    | none=>rfl
    | some k=>
      cases hk:cP (az [] all) k s.i with
      | false=>exact hk
      | true=>
        exfalso
        rw [hlS] at hl
        obtain ⟨z,hz,h6,h7,_⟩:=sk hv.sorted hl
        have h8:=rE hS.facts hS.valid hS.chain hr (by rw [e]; simp [hz]) ha h7 (by rw [hi]; exact hv.lt hz)
        rw [h6] at h8
        rw [SW hS.facts h8 hk] at hb
        simp at hb
  have aiV:∀ s ∈ R,S s.i=true→∀ id ob,s.gp = .make id ob→Dy (az [] all) (lS R S) s.i=false→cP (az [] all) r.i s.i=false→∀ c cb,ρ id=some (mT ob cb)→w.heap[cb]? = some c→¬ AU (ρ.res (cg A0 R S).next) (cg A0 R S) cb→
      ¬ AU (ρ.res (dP A0 R0)) ((gM (az [] all) A0 R0 (dn R0) (cP (az [] all) r.i)).at (dP A0 R0)) cb:=by
    rintro s hs En id ob hm hbe hb c cb eK hw hni ⟨x,ox,lx,hx,Ra,hrx,rfl⟩
    have hdx:ox≠.dead:=by intro e'; subst e'; simp [bf.bO] at Ra
    rw [Ig] at hx
    rcases vY hx with ⟨u,hu,WV,hmu⟩ | ⟨hcx,_⟩
    · simp only [Bool.and_eq_true,Bool.not_eq_true'] at WV
      have hus:=hc.ready hS.facts ho hJ _ WV.1
      have bo:s.i≠u.i:=fun e'=>by rw [e',WV.1] at hb; simp at hb
      exact hI.uN s hs u hu En hus id ob x ox hm hmu hbe WV.2 bo _ _ eK (ρ.X0 _ _ _ hrx) (by rw [xC])
    · obtain ⟨l',h1,_⟩:=hI.core.cW.rel.obj hcx hdx
      have:=ρ.pr hcn _ _ h1
      rw [hrx] at this; simp at this; subst this
      exact hni ⟨x,ox,lx,hcx,Ra,h1,rfl⟩
  refine ⟨aq,?_,?_,JC hS hI hc hr ho dQ jd hle (by rw [hB,DC]; exact hvr),?_,?_,?_,?_,?_⟩
  · rw [← hI.size]; cases o.dst <;> simp [Act.put]
  · rw [← hI.defers]; cases o.dst <;> rfl
  · rw [X2,DC]; exact mU.trans hg
  · rw [X2,gN,DC]
    intro s hs h id ob hm hb
    obtain ⟨h1,h2⟩:=hold s hs h id ob hm hb
    obtain ⟨c,cb,h3,h4,h5,h6,h7⟩:=hI.news s hs h1 id ob hm h2
    have hn:=aiV s hs h1 id ob hm h2 hb c cb h3 h5 h7
    have aY:=(Array.getElem?_eq_some_iff.1 h5).1
    exact ⟨c,cb,hle _ _ h3,h4.mono (aw.vW hle _),by rw [hg.kept.block cb aY hn]; exact h5,h6,fun hk=>hn (hg.SA cb aY hk)⟩
  · rw [gN]
    intro s hs u hu h1 h2 id1 ob1 id2 ob2 d1 d2 b1 b2 bo l1 l2 e1 e2
    obtain ⟨p1,p2⟩:=hold s hs h1 id1 ob1 d1 b1
    obtain ⟨q1,q2⟩:=hold u hu h2 id2 ob2 d2 b2
    obtain ⟨_,cb,p3,_⟩:=hI.news s hs p1 id1 ob1 d1 p2
    obtain ⟨_,cb',q3,_⟩:=hI.news u hu q1 id2 ob2 d2 q2
    rw [hle _ _ p3] at e1
    rw [hle _ _ q3] at e2
    simp at e1 e2
    subst e1 e2
    exact hI.uN s hs u hu p1 q1 id1 ob1 id2 ob2 d1 d2 p2 q2 bo _ _ p3 q3
  · intro s hs h id ob hm
    have bo:s.i≠r.i:=fun e'=>by rw [e',lJ] at h; simp at h
    rw [fA bo] at h
    have h0:=hI.Lm s hs h id ob hm
    show (if id < B.next then iU id else ρ id)=none
    split
    · rename_i hb
      rcases Nat.lt_or_ge s.i r.i with h1 | h1
      · have:=hv.nB (adb s hs h1)
        have:=(hS.vZ hs hm).2
        rw [K5 id (by omega)]; exact h0
      · have:=hS.Ln hr hs hm (by omega)
        omega
    · exact h0
  · rw [X2]
    intro b l h
    have h:(if b < B.next then iU b else ρ b)=some l:=h
    split at h
    · exact .inl ‹_›
    · rename_i hb
      rcases hI.eS b l h with h1 | ⟨s,hs,h1,h2⟩
      · omega
      · exact .inr ⟨s,hs,by unfold aZ; rw [h1]; rfl,h2⟩
end
end
end Go.aV
end
section
namespace Go.aV
noncomputable section
open Go
structure TR (ρ:aw) (t:Tm) (N:Nat) (a:Act):Prop where
  size:a.tmps.size=N
  val:∀ i,VR ρ ((t.get i).getD undef) (a.tmps.getD i undef)
  none:∀ i,N≤i→t.get i=Option.none
  jO:K1 ρ
theorem VR.undef {ρ:aw} : VR ρ undef undef:=VR.of_flat (by simp [Go.undef,flat,sL,kO])
def Round (P:Program) (l:Nat) (args:Array Value) (w:World) (R:Ending→World→Prop):Prop:=
  ∃ f tmps assign body,(Instr.yield l args).run P w = .ok (.round l f tmps assign body) w∧RoundIn Fence.wide 0 P l f tmps assign body w R
def n4 (P:Program) (call:ca):Prop:=
  ∀ f args A v B,call f args A=some (v,B)→
    (Nat.blt f yB = true → ∃ fn, P.funcs[f]? = some fn ∧ fn.body.isSome = true ∧ (fn.name == "runtime.NumGoroutine") = false) ∧
    ∀ (ρ:aw) (cD:List Value) (base:Nat) (w:World),bS ρ args cD→fU ρ A base w→
      (Nat.blt f yB=true→Calls P f cD.toArray w fun e w'=>∃ aq v',e = .returned v'∧VR aq v v'∧b7 base ρ A w aq B w')∧
      (Nat.blt f yB=false→∀ loc,ρ (Nat.sub f yB)=some loc→Round P loc.cb cD.toArray w fun e w'=>∃ aq v',e = .returned v'∧VR aq v v'∧b7 base ρ A w aq B w')
theorem Z1 {P:Program} {o:Oper} {r:Option Nat} {a:Act} {w:World} {next:Act→World→Prop} {Q:Exit→Act→World→Prop} (hnd:∀ c,o.op≠.defer c)
    (h:o.uponIn (Fr r) 0 P a next Q ((execOp a.eval o).run P w)):o.wpIn (Fr r) 0 P a w next Q:=by
  refine ⟨fun _ _=>trivial,?_⟩
  rw [Oper.semAt_eq _ _ _ hnd]
  exact h
theorem S4 {args:List Value} {v:Value} {g:FuncId} {vs:List Value} (h:fw args v=some (g,vs)) (hg:Nat.blt g yB=false):∃ l,v = .func (.yield l) ⟨[]⟩ ⟨[]⟩∧Nat.sub g yB=l∧vs=args:=by
  unfold fw at h
  split at h
  · rename_i g' first cap
    cases hb:Nat.blt g' yB with
    | false=>rw [hb] at h; simp at h
    | true=>
      rw [hb] at h
      simp only [cond_true,Option.some.injEq,Prod.mk.injEq] at h
      rw [h.1,hg] at hb
      simp at hb
  · rename_i l
    simp only [Option.some.injEq,Prod.mk.injEq] at h
    exact ⟨l,rfl,by rw [← h.1]; exact Nat.add_sub_cancel_left ..,h.2.symm⟩
  · simp at h
theorem Z2 {P:Program} {call:ca} {o:Oper} {r:Option Nat} {f:Operand} {xs:List Operand} {g:FuncId} {vs:List Value} {A B:St} {v:Value} {ρ:aw} {ev:Operand→Value} {a:Act} {base:Nat} {w:World} {next:Act→World→Prop} {Q:Exit→Act→World→Prop}
    (bH:dM P o (.call f xs)) (dC:n4 P call) (jg:ny ρ ev a.eval (f :: xs)) (Dz:fw (xs.map ev) (ev f)=some (g,vs)) (h:call g vs A=some (v,B)) (hs:fU ρ A base w)
    (hk:∀ aq v' w',VR aq v v'→b7 base ρ A w aq B w'→next (a.put o.dst v') w'):o.uponIn (Fr r) 0 P a next Q ((execOp a.eval o).run P w):=by
  obtain ⟨Jx,hc⟩:=dC _ _ _ _ _ h
  cases hb:Nat.blt g yB with
  | true=>
    obtain ⟨bN,h1,h2⟩:=bH.2 ρ _ _ _ _ jg hb Dz (Jx hb)
    rw [h2 w]
    refine ⟨fun h=>by simp [Fence.wide] at h,?_⟩
    have h3:=(callsIn_wide (n:=0)).2 ((hc ρ bN base w h1 hs).1 hb)
    refine CallsIn.mono (F:=Fr r) (n:=0) (R:=fun e w'=>∃ aq v',e = .returned v'∧VR aq v v'∧b7 base ρ A w aq B w') h3 ?_
    rintro e w' ⟨aq,v',rfl,h4,h5⟩
    exact hk aq v' w' h4 h5
  | false=>
    obtain ⟨l,e1,e2,rfl⟩:=S4 Dz hb
    obtain ⟨loc,bN,h0,h1,h2⟩:=bH.1 ρ _ _ l jg e1
    obtain ⟨f',tmps,assign,body,h3,h4⟩:=(hc ρ bN base w h1 hs).2 hb loc (by rw [e2]; exact h0)
    rw [h2 w,h3]
    refine ⟨fun h=>by simp [Fence.wide] at h,?_⟩
    refine RoundIn.mono (F:=Fr r) (n:=0) (R:=fun e w'=>∃ aq v',e = .returned v'∧VR aq v v'∧b7 base ρ A w aq B w') h4 ?_
    rintro e w' ⟨aq,v',rfl,h4,h5⟩
    exact hk aq v' w' h4 h5
section
variable {P:Program} {call:ca} {all:List Oper} {A0:St} {t0:Tm} {R:List Rec} {N:Nat} {d0:List Deferred} {base:Nat} {qd:aw} {w0:World}
theorem Inv.congr (hS:Setup P call all A0 t0 R) {S S' : Nat→Bool} {a:Act} {w:World} {ρ:aw} (h:∀ i,i < all.length→S i=S' i) (hI:Inv all A0 t0 R N d0 base qd w0 S a w ρ):Inv all A0 t0 R N d0 base qd w0 S' a w ρ:=by
  have hR:∀ r ∈ R,S r.i=S' r.i:=fun r hr=>h _ (by rw [← hS.len]; exact hS.valid.lt hr)
  have hl:lS R S' = lS R S:=(s6 R fun s hs _=>hR s hs).symm
  have hw:∀ x,writer all R S' x=writer all R S x:=fun x=>(find_congr R fun s hs=>by rw [hR s hs]).symm
  have hc:cg A0 R S' = cg A0 R S:=by simp only [cg,hl]
  refine ⟨hI.size,hI.defers,fun x=>?_,by rw [hc]; exact hI.core,?_,?_,?_,?_⟩
  · unfold S0 valOf; rw [hw]; exact hI.tm x
  · rw [hc,hl]; intro r hr h1; exact hI.news r hr (by rw [hR r hr]; exact h1)
  · rw [hl]; intro r hr s hs h1 h2; exact hI.uN r hr s hs (by rw [hR r hr]; exact h1) (by rw [hR s hs]; exact h2)
  · intro r hr h1; exact hI.Lm r hr (by rw [hR r hr]; exact h1)
  · rw [hc]
    intro b l h1
    rcases hI.eS b l h1 with h2 | ⟨s,hs,h2,h3⟩
    · exact .inl h2
    · exact .inr ⟨s,hs,by rw [← hR s hs]; exact h2,h3⟩
theorem X3 {o:Oper} {d:Tmp} (h:d ∈ sh all o):d ∈ looks P all o:=by unfold looks; simp [h]
theorem aeq {o:Oper} {x:Tmp} (h:Operand.tmp x ∈ abQ (compile P o.op)):x ∈ looks P all o:=by unfold looks; simp [fy h]
theorem Il {b:List Nat} {es:List (Option Nat)} : ∀ {rs:List Rec},AO b A0 R es rs=true→∀ r ∈ rs,∀ f vs,r.gp = .read f vs→under r.nx r.v=true∧KX b A0 R r f vs es=true
  | [],_,r,h,_,_,_=>by simp at h
  | x :: rs,h,r,hr,f,vs,hd=>by
    simp only [AO,Bool.and_eq_true] at h
    rcases List.mem_cons.1 hr with e | hr
    · subst e
      rw [hd] at h
      simpa using h.1
    · exact Il h.2 r hr f vs hd
theorem Ls {b:List Nat} {r:Rec} {f:St→List Value→Option Value} {vs:List Value} {e:Option Nat} : ∀ {es:List (Option Nat)},KX b A0 R r f vs es=true→e ∈ es→EO b r.i e R=true→f (gM b A0 R e (cP b r.i)) vs=some r.v
  | [],_,h,_=>by simp at h
  | x :: es,h,he,hm=>by
    simp only [KX,Bool.and_eq_true] at h
    rcases List.mem_cons.1 he with rfl | he
    · have h1:=h.1
      rw [hm,cond_true] at h1
      unfold afj at h1
      split at h1
      · rename_i u hu; rw [hu,Ol h1]
      · simp at h1
    · exact Ls h.2 he hm
theorem VZ {b:List Nat} {R:List Rec} (h:AO b A0 R (ia R) R=true):JB b A0 R:=fun r hr f vs hd=>by
  obtain ⟨h1,h2⟩:=Il h r hr f vs hd
  exact ⟨.inl h1,fun e he hm=>Ls h2 he hm⟩
theorem Lt:∀ {R:List Rec} {r:Rec},r ∈ R→gv r→some r.i ∈ ia R
  | [],r,h,_=>by simp at h
  | x :: R,r,h,ha=>by
    simp only [ia]
    rcases List.mem_cons.1 h with rfl | h
    · obtain ⟨B,hB⟩:=ha; rw [hB]; simp
    · have:=Lt h ha
      split
      · simp [this]
      · exact this
theorem Im:∀ (R:List Rec),none ∈ ia R
  | []=>by simp [ia]
  | x :: R=>by
    simp only [ia]
    have:=Im R
    split
    · simp [this]
    · exact this
theorem S5 {b:List Nat} {i:Nat} {e:Option Nat} : ∀ {R:List Rec},(∀ r ∈ R,gv r→match e with | some e=>(cP b i r.i=true→r.i≤e)∧(cP b r.i i=true→e < r.i) | none=>cP b i r.i=false)→EO b i e R=true
  | [],_=>rfl
  | r :: R,h=>by
    simp only [EO,Bool.and_eq_true]
    refine ⟨?_,S5 fun s hs=>h s (by simp [hs])⟩
    split
    · rename_i B hB
      have:=h r (by simp) ⟨B,hB⟩
      cases e with
      | none=>simp only at this ⊢; simp [this]
      | some e=>
        simp only at this ⊢
        simp only [Bool.and_eq_true,Bool.or_eq_true,Bool.not_eq_true']
        refine ⟨?_,?_⟩
        · cases hb:cP b i r.i with
          | false=>exact .inl rfl
          | true=>exact .inr (by rw [Nat.ble_eq]; exact this.1 hb)
        · cases hb:cP b r.i i with
          | false=>exact .inl rfl
          | true=>exact .inr (by rw [Nat.blt_eq]; exact this.2 hb)
    · rfl
theorem ab9 (hS:Setup P call all A0 t0 R) {S:Nat→Bool} (hc:fc all S) {r:Rec} {o:Oper} (ho:all[r.i]? = some o) (dQ:S r.i=false) (hJ:gU all S r.i) :
    lS R S ∈ ia R∧EO (az [] all) r.i (lS R S) R=true:=by
  rcases hS.last S with ⟨h1,_,h3⟩ | ⟨y,hy,h1,h2,h3,_,h5⟩
  · rw [h1]
    refine ⟨Im R,S5 fun s hs ha=>?_⟩
    cases hb:cP (az [] all) r.i s.i with
    | false=>rfl
    | true=>
      have:=hc.ready hS.facts ho hJ _ hb
      rw [h3 s hs ha] at this; simp at this
  · rw [h1]
    refine ⟨Lt hy ⟨_,h3⟩,S5 fun s hs ha=>⟨fun hb=>h5 s hs ha (hc.ready hS.facts ho hJ _ hb),fun hb=>?_⟩⟩
    have Z3:S s.i=false:=by
      cases En:S s.i with
      | false=>rfl
      | true=>
        have:=hc _ _ En hb
        rw [dQ] at this; simp at this
    rcases Nat.lt_trichotomy y.i s.i with h | h | h
    · exact h
    · rw [← h,h2] at Z3; simp at Z3
    · have:=hc _ _ h2 (rE hS.facts hS.valid hS.chain hy hs ⟨_,h3⟩ ha h)
      rw [Z3] at this; simp at this
theorem VR.afC {ρ:aw} {n m:Nat} {v v' : Value} (hv:VR ((ρ.res n).res m) v v'):VR (ρ.res m) v v':=by
  refine hv.mono fun b l e=>?_
  obtain ⟨h1,h2⟩:=aw.Lg e
  obtain ⟨_,h3⟩:=aw.Lg h2
  rw [aw.qR h1]; exact h3
theorem Inv.jO {S:Nat→Bool} {a:Act} {w:World} {ρ:aw} (hI:Inv all A0 t0 R N d0 base qd w0 S a w ρ) (uj:fU qd A0 base w0) {n:Nat} (hn:A0.next≤n):K1 (ρ.res n):=fun g hg=>by
  obtain ⟨l,e,h⟩:=uj.jO g hg
  have h1:=uj.eS g l e
  have h2:=hI.core.ext g h1
  rw [e] at h2
  obtain ⟨_,h3⟩:=aw.Lg h2
  exact ⟨l,by rw [aw.qR (by omega)]; exact h3,h⟩
theorem Z4 (dC:n4 P call) (hS:Setup P call all A0 t0 R) (uj:fU qd A0 base w0) (Fa:all.all (mc N)=true) (ht0:∀ x,N≤x→t0.get x=none) {Q:Exit→Act→World→Prop} {S:Nat→Bool} {a:Act} {w:World} {i:Nat} {o:Oper}
    (hI:∃ ρ,Inv all A0 t0 R N d0 base qd w0 S a w ρ) (hc:fc all S) (ho:all[i]? = some o) (dQ:S i=false) (hJ:gU all S i) {rd:Option Nat} :
    wpOpIn (Fr rd) 0 P ⟨all⟩ Q i (fun a' w'=>∃ ρ,Inv all A0 t0 R N d0 base qd w0 (aZ S i) a' w' ρ) a w:=by
  obtain ⟨ρ,hI⟩:=hI
  have aY:i < all.length:=(List.getElem?_eq_some_iff.1 ho).1
  obtain ⟨r,hr,rfl⟩:=hS.valid.get (i:=i) (by rw [hS.len]; exact aY)
  obtain ⟨R0,R1,e,hv,hi,o',Rd,ef⟩:=hS.valid.at hr
  rw [ho] at Rd
  simp at Rd
  subst Rd
  have jd:∀ d,o.dst=some d→d < N:=by
    intro d ed
    have:=List.all_eq_true.1 Fa o (List.mem_of_getElem? ho)
    unfold mc at this
    rw [ed] at this
    simp only at this
    rw [Nat.blt_eq] at this
    exact this
  have X4:(⟨all⟩:Array Oper)[r.i]? = some o:=by simpa using ho
  have aim:∀ x ∈ looks P all o,VR (ρ.res (dP A0 R0)) (((oP all t0 R0).get x).getD undef) (a.tmps.getD x undef):=fun x hx=>aeo hS hI hc hr e hv ho dQ hJ hx
  have htN:∀ (R0:List Rec) (x:Nat),N≤x→(oP all t0 R0).get x=none:=by
    intro R0 x hx
    induction R0 with
    | nil=>exact ht0 x hx
    | cons s R0 ih=>
      simp only [oP]
      cases hds:jn all s.i with
      | none=>exact ih
      | some d=>
        simp only [sP,Trie.fv]
        have hd:d < N:=by
          unfold jn at hds
          obtain ⟨os,h1,h2⟩:=Option.bind_eq_some_iff.1 hds
          have:=List.all_eq_true.1 Fa os (List.mem_of_getElem? h1)
          unfold mc at this
          rw [h2] at this
          simp only at this
          rw [Nat.blt_eq] at this
          exact this
        rw [if_neg (fun e=>by rw [e] at hx; exact absurd hd (Nat.not_lt_of_le hx))]
        exact ih
  unfold sS at ef
  obtain ⟨wd,Eo,ef⟩:=Option.bind_eq_some_iff.1 ef
  have Cw:Region.wanted o (yielded ⟨all⟩ a.tmps)=wd:=X1 (fun d hd=>⟨aim d (X3 hd),fun bo=>by
    rw [hI.size]
    rcases Nat.lt_or_ge d N with h | h
    · exact h
    · exact absurd (htN R0 d h) bo⟩) Eo
  unfold wpOpIn
  rw [X4]
  simp only [Cw]
  cases wd with
  | false=>
    simp only [cond_false,Option.some.injEq] at ef
    have v7:r.gp = .val:=by rw [← ef]
    have X5:r.v=undef:=by rw [← ef]
    simp only [Bool.false_eq_true,if_false]
    exact ⟨fun _ _=>trivial,ρ,hI.plain hS hc hr ho dQ jd (by rintro ⟨B,hB⟩; rw [v7] at hB; simp at hB) (fun id ob h=>by rw [v7] at h; simp at h) (by rw [X5]; exact VR.undef)⟩
  | true=>
    simp only [cond_true] at ef
    simp only [if_true]
    refine Z1 (fun c e=>by rw [e] at ef; simp [compile,fM] at ef) ?_
    have bH:=jm P o
    have jg:ny (ρ.res (dP A0 R0)) (jj (oP all t0 R0)) a.eval (abQ (compile P o.op)):=by
      intro x hx
      cases x with
      | tmp x=>exact aim x (aeq hx)
      | const v=>
        simp only [jj,Act.eval]
        cases hf:flat v with
        | true=>exact VR.of_flat hf
        | false=>simp [VR]
      | global g=>exact (hI.jO uj hv.vX).ev g
      | func f=>exact VR.Hd (l:=[]) (m:=[]) (.func f) rfl .nil .nil
    generalize compile P o.op=ins at ef bH jg
    cases ins with
    | pure f xs=>
      simp only [fM] at ef
      obtain ⟨v,AW,ef⟩:=Option.map_eq_some_iff.1 ef
      have v7:r.gp = .val:=by rw [← ef]
      have X5:r.v=v:=by rw [← ef]
      have Lr:r.nx=dP A0 R0:=by rw [← ef]
      obtain ⟨v',h1,h2⟩:=bH _ _ _ _ jg AW
      rw [h2 w]
      exact ⟨ρ,hI.plain hS hc hr ho dQ jd (by rintro ⟨B,hB⟩; rw [v7] at hB; simp at hB) (fun id ob h=>by rw [v7] at h; simp at h) (by rw [X5,Lr]; exact h1)⟩
    | read f xs=>
      simp only [fM] at ef
      obtain ⟨v,AW,ef⟩:=Option.map_eq_some_iff.1 ef
      have v7:r.gp = .read f (xs.map (jj (oP all t0 R0))):=by rw [← ef]
      obtain ⟨hun,hro⟩:=hS.reads r hr _ _ v7
      obtain ⟨hm1,hm2⟩:=ab9 hS hc ho dQ hJ
      have n5:=hro _ hm1 hm2
      rcases hun with hun | ade
      rotate_left
      ·
        have Fb:=ade.1
        have rF:(cg A0 R S).next≤r.nx:=ade.2 _ hm1 hm2
        have mU:=hI.view hS uj (cP (az [] all) r.i) (fun s hs id ob h=>(Fb s hs id ob h).elim) r.nx rF (fun s hs id ob h=>(Fb s hs id ob h).elim)
        have sm:Rel (ρ.res r.nx) (gM (az [] all) A0 R (lS R S) (cP (az [] all) r.i)).get (gM (az [] all) A0 R (lS R S) (cP (az [] all) r.i)).members base w:=mU.cW.rel
        have ajM:r.nx=dP A0 R0:=by rw [← ef]
        obtain ⟨v',h1,h2⟩:=bH _ _ _ _ _ _ _ sm (fun x hx=>by have:=jg x hx; rwa [← ajM] at this) n5
        rw [h2]
        exact ⟨ρ,hI.plain hS hc hr ho dQ jd (by rintro ⟨B,hB⟩; rw [v7] at hB; simp at hB) (fun id ob h=>by rw [v7] at h; simp at h) h1⟩
      have Lr:r.nx=dP A0 R0:=by rw [← ef]
      let n:=(cg A0 R S).next+dP A0 R
      have mU:=hI.view hS uj (cP (az [] all) r.i) (fun s hs id ob _ h=>hc.ready hS.facts ho hJ _ h) n (Nat.le_add_right _ _) (fun s hs id ob _ _ _=>Nat.le_trans (hS.valid.nB hs) (Nat.le_add_left _ _))
      have hn0:dP A0 R0≤n:=by
        have:=hS.valid.nB hr
        rw [← Lr]
        exact Nat.le_trans this (Nat.le_add_left _ _)
      have sm:Rel (ρ.res n) (gM (az [] all) A0 R (lS R S) (cP (az [] all) r.i)).get (gM (az [] all) A0 R (lS R S) (cP (az [] all) r.i)).members base w:=mU.cW.rel
      obtain ⟨v',h1,h2⟩:=bH _ _ _ _ _ _ _ sm (fun x hx=>(jg x hx).mono (ρ.pr hn0)) n5
      rw [h2]
      refine ⟨ρ,hI.plain hS hc hr ho dQ jd (by rintro ⟨B,hB⟩; rw [v7] at hB; simp at hB) (fun id ob h=>by rw [v7] at h; simp at h) ?_⟩
      exact VR.afC (VR.under hun h1)
    | make f xs=>
      simp only [fM] at ef
      obtain ⟨⟨ob,mk⟩,AW,ef⟩:=Option.map_eq_some_iff.1 ef
      have v7:r.gp = .make (dP A0 R0) ob:=by rw [← ef]
      have X5:r.v=mk (dP A0 R0):=by rw [← ef]
      have Lr:r.nx=dP A0 R0+1:=by rw [← ef]
      obtain ⟨c,mk',h1,h2,h3⟩:=bH _ _ _ _ _ jg AW
      rw [h2 w]
      exact ⟨_,hI.made hS hc hr ho dQ jd v7 h1 (by omega) (fun aq h=>by rw [X5]; exact h3 _ _ _ h)⟩
    | act f xs=>
      simp only [fM] at ef
      obtain ⟨⟨v,B⟩,AW,ef⟩:=Option.bind_eq_some_iff.1 ef
      cases hb:Nat.ble (dP A0 R0) B.next with
      | false=>rw [hb] at ef; simp at ef
      | true=>
        rw [hb] at ef
        simp only [cond_true,Option.some.injEq] at ef
        have v7:r.gp = .act B:=by rw [← ef]
        have X5:r.v=v:=by rw [← ef]
        have Lr:r.nx=B.next:=by rw [← ef]
        obtain ⟨mU,afD⟩:=hI.afB hS uj hc hr e hv hi ho dQ hJ jd v7 (by rw [Lr]; exact Nat.le_of_ble_eq_true hb) Lr
        obtain ⟨iU,v',nx,w',h1,h2,h3,h4⟩:=bH _ _ _ _ w _ _ _ mU.cW jg AW
        rw [h1]
        have S6:=afD iU v' w' h4 (by rw [X5]; exact h3)
        cases nx with
        | value u=>
          have:u=v':=h2
          subst this
          exact S6
        | skip=>
          have:v' = undef:=h2
          subst this
          exact S6
        | _=>exact h2.elim
    | call f args=>
      simp only [fM] at ef
      obtain ⟨⟨g,vs⟩,Dz,ef⟩:=Option.bind_eq_some_iff.1 ef
      obtain ⟨⟨v,B⟩,AW,ef⟩:=Option.bind_eq_some_iff.1 ef
      cases hb:Nat.ble (dP A0 R0) B.next with
      | false=>rw [hb] at ef; simp at ef
      | true=>
        rw [hb] at ef
        simp only [cond_true,Option.some.injEq] at ef
        have v7:r.gp = .act B:=by rw [← ef]
        have X5:r.v=v:=by rw [← ef]
        have Lr:r.nx=B.next:=by rw [← ef]
        obtain ⟨mU,afD⟩:=hI.afB hS uj hc hr e hv hi ho dQ hJ jd v7 (by rw [Lr]; exact Nat.le_of_ble_eq_true hb) Lr
        exact Z2 bH dC jg Dz AW mU.cW fun iU v' w' h3 h4=>afD iU v' w' h4 (by rw [X5]; exact h3)
    | bad=>simp [fM] at ef
theorem Fc {P:Program} {call:ca} {rd:Option Nat} (dC:n4 P call) (hm:P.follows .mixedOrders=true) {id:Nat} {all:List Oper} {N base:Nat} (Fa:all.all (mc N)=true) {t t1:Tm} {A:St} {R:List Rec} {ρ:aw} {a:Act} {w:World} {Q:Exit→Act→World→Prop}
    (bH:mb P all=true) (X6:qP P call (az [] all) all A all 0 [] t=some (R,t1)) (afE:nw (az [] all) R=true) (ahB:JB (az [] all) A R) (ht:TR ρ t N a) (hs:fU ρ A base w)
    (hq:∀ aq a' w',TR aq t1 N a'→a'.defers=a.defers→b7 base ρ A w aq ((gM (az [] all) A R (dn R) (fun _=>true)).at (dP A R)) w'→Q .normal a' w'):(Code.region id ⟨all⟩ true).wpIn (Fr rd) 0 P Q a w:=by
      obtain ⟨hv,rfl,hlen⟩:=Lj (P:=P) (call:=call) (all:=all) (A0:=A) (t0:=t) all [] R t1 (by simp) trivial X6
      have hS:Setup P call all A t R:=⟨nA bH,hv,by simpa using hlen,afE,ahB⟩
      have hsd:fU ρ A base w.drew:=(b7.drew hs).cW
      refine wpIn_region_any hm ?_
      show wpAnyIn (Fr rd) 0 P .any ⟨all⟩ Q all.length (Array.replicate all.length false) a w.drew
      have qe:∀ i,(Array.replicate all.length false).getD i false=false:=by
        intro i
        rw [Array.getD_eq_getD_getElem?,Array.getElem?_replicate]
        split <;> rfl
      have Fb:∀ i,(fun j=>(Array.replicate all.length false).getD j false) i=true→False:=fun i h=>by
        have h2:(Array.replicate all.length false).getD i false=true:=h
        rw [qe] at h2
        simp at h2
      refine Qj hS.facts (fun S a' w'=>∃ aq,Inv all A t R N a.defers base ρ w.drew S a' w' aq) (fun S S' a' w' S7 ⟨aq,hI⟩=>⟨aq,hI.congr hS S7⟩)
        (fun S a' w' i o hI hc ho dQ hJ _=>Z4 dC hS hsd Fa ht.none hI hc ho dQ hJ) ?_ all.length _ a w.drew (by simp) ?_ (fun i j hi _=>(Fb i hi).elim) ⟨ρ,?_⟩
      · rintro S a' w' eZ ⟨aq,hI⟩
        have mU:=hI.view hS hsd (fun _=>true) (fun r hr _ _ _ _=>eZ _ (by rw [← hS.len]; exact hS.valid.lt hr)) (dP A R) ?_ (fun r hr _ _ _ _ _=>hS.valid.nB hr)
        · have hlS:lS R S=dn R:=by
            have:R=R.filter (fun _=>true):=(List.filter_eq_self.2 fun _ _=>rfl).symm
            conv=>rhs; rw [this]
            exact s6 R fun s hs _=>eZ _ (by rw [← hS.len]; exact hS.valid.lt hs)
          rw [hlS] at mU
          refine hq (aq.res (dP A R)) a' w' ⟨hI.size,fun x=>?_,fun x hx=>?_,hI.jO hsd hS.valid.vX⟩ hI.defers ((b7.drew hs).trans mU)
          · have h1:=hI.tm x
            have hw:writer all R S x=R.find? (fun r=>jn all r.i == some x):=find_congr R fun s hs=>by rw [eZ _ (by rw [← hS.len]; exact hS.valid.lt hs)]; simp
            unfold S0 valOf at h1
            rw [hw] at h1
            rw [xS]
            cases hf:R.find? (fun r=>jn all r.i == some x) with
            | none=>rw [hf] at h1; exact h1.mono (aq.pr hS.valid.vX)
            | some s=>rw [hf] at h1; exact h1.mono (aq.pr (hS.valid.nB (List.mem_of_find?_eq_some hf)))
          · rw [xS]
            cases hf:R.find? (fun r=>jn all r.i == some x) with
            | none=>exact ht.none x hx
            | some s=>
              exfalso
              have h1:=List.find?_some hf
              simp only [beq_iff_eq] at h1
              unfold jn at h1
              obtain ⟨os,h2,h3⟩:=Option.bind_eq_some_iff.1 h1
              have:=List.all_eq_true.1 Fa os (List.mem_of_getElem? h2)
              unfold mc at this
              rw [h3] at this
              simp only at this
              rw [Nat.blt_eq] at this
              omega
        · rcases hS.last S with ⟨_,h2,_⟩ | ⟨y,hy,h1,h2,h3,h4,h5⟩
          · rw [h2]; exact hS.valid.vX
          · rw [← h4]; exact hS.valid.nB hy
      · simp
      · have ahC:∀ i,(fun j=>(Array.replicate all.length false).getD j false) i=false:=qe
        have hl:lS R (fun j=>(Array.replicate all.length false).getD j false)=none:=by
          have:R.filter (fun r=>(fun j=>(Array.replicate all.length false).getD j false) r.i) = []:=by
            rw [List.filter_eq_nil_iff]
            intro r _
            rw [ahC]; simp
          unfold lS
          rw [this]
          rfl
        have hw:∀ x,writer all R (fun j=>(Array.replicate all.length false).getD j false) x=none:=by
          intro x
          unfold writer
          rw [List.find?_eq_none]
          intro r _ E9
          exact Fb r.i (Bool.and_eq_true_iff.1 E9).1
        have rF:cg A R (fun j=>(Array.replicate all.length false).getD j false)=A:=by unfold cg; rw [hl]; rfl
        have DC:ρ.res A.next=ρ:=by
          funext b
          unfold aw.res
          split
          · rfl
          · rename_i hb
            cases eK:ρ b with
            | none=>rfl
            | some l=>exact absurd (hs.eS b l eK) hb
        refine ⟨ht.size,rfl,fun x=>?_,?_,?_,?_,?_,?_⟩
        · unfold S0 valOf
          rw [hw]
          show VR (ρ.res A.next) _ _
          rw [DC]
          exact ht.val x
        · rw [rF,DC]; exact b7.refl hsd
        · intro r hr h1; exact (Fb r.i h1).elim
        · intro r hr s K7 h1; exact (Fb r.i h1).elim
        · intro r hr _ idn ob hd
          cases eK:ρ idn with
          | none=>rfl
          | some l=>
            have h1:=hs.eS idn l eK
            have h2:=(hS.vZ hr hd).1
            omega
        · rw [rF]; intro b l h1; exact .inl (hs.eS b l h1)
end
theorem X7 {P:Program} {call:ca} {rd:Option Nat} (dC:n4 P call) (hm:P.follows .mixedOrders=true) {id:Nat} {all:List Oper} {N base:Nat} (Fa:all.all (mc N)=true) {t t' : Tm} {A B:St} {ρ:aw} {a:Act} {w:World} {Q:Exit→Act→World→Prop}
    (h:KY P call all t A=some (t',B)) (ht:TR ρ t N a) (hs:fU ρ A base w) (hq:∀ aq a' w',TR aq t' N a'→a'.defers=a.defers→b7 base ρ A w aq B w'→Q .normal a' w'):(Code.region id ⟨all⟩ true).wpIn (Fr rd) 0 P Q a w:=by
  unfold KY at h
  cases bH:mb P all with
  | false=>rw [bH] at h; simp at h
  | true=>
    rw [bH,cond_true] at h
    obtain ⟨⟨R,t1⟩,X6,h⟩:=Option.bind_eq_some_iff.1 h
    cases EV:(nw (az [] all) R && AO (az [] all) A R (ia R) R) with
    | false=>simp only [EV] at h; simp at h
    | true=>
      simp only [EV,cond_true,Option.some.injEq,Prod.mk.injEq] at h
      obtain ⟨rfl,rfl⟩:=h
      obtain ⟨afE,ajN⟩:=Bool.and_eq_true_iff.1 EV
      exact Fc dC hm Fa bH X6 afE (VZ ajN) ht hs hq
theorem v8 {A0:St} : ∀ {R:List Rec},JA A0 R→dn R=none∧dP A0 R=A0.next∧ia R = [none]∧∀ gT A,jU gT A R=A
  | [],_=>⟨rfl,rfl,rfl,fun _ _=>rfl⟩
  | r :: R,h=>by
    obtain ⟨h1,h2,h3,h4⟩:=v8 (R:=R) fun s hs=>h s (by simp [hs])
    obtain ⟨h5,h6⟩:=h r (by simp)
    rcases h6 with h6 | ⟨f,vs,h6⟩ <;> exact ⟨by simp [dn,h6,h1],h5,by simp [ia,h6,h3],fun gT A=>by simp [jU,h6,h4]⟩
theorem Fe {A0:St} {R:List Rec} (h:JA A0 R) (b:List Nat) (gT:Nat→Bool):gM b A0 R none gT=A0:=by
  unfold gM
  rw [(v8 h).2.2.2]
  rfl
theorem Lu {A0:St} (b:List Nat):∀ {R:List Rec},JA A0 R→nw b R=true
  | [],_=>rfl
  | r :: R,h=>by
    have ih:=Lu b (R:=R) fun s hs=>h s (by simp [hs])
    rcases (h r (by simp)).2 with h6 | ⟨f,vs,h6⟩ <;> simp [nw,h6,ih]
theorem X8 {A0:St} {R:List Rec} {b:List Nat} {r:Rec} (h:JA A0 R) (hr:r ∈ R):Still b A0 R r:=
  ⟨fun s hs id ob e=>by rcases (h s hs).2 with h1 | ⟨f,vs,h1⟩ <;> rw [h1] at e <;> simp at e,fun e he _=>by
    rw [(v8 h).2.2.1] at he
    simp at he
    subst he
    exact Nat.le_of_eq (h r hr).1.symm⟩
def S8 (A0:St) (R:List Rec):Prop:=∀ r ∈ R,∀ f vs,r.gp = .read f vs→f A0 vs=some r.v
theorem Lv {P:Program} {call:ca} {b:List Nat} {all:List Oper} {A0:St} : ∀ (os:List Oper) (i:Nat) (R:List Rec) (t t' : Tm) (B:St),(os.all fun o=>AP (compile P o.op))=true→JA A0 R→S8 A0 R→
    opsV P call all os t A0=some (t',B)→B=A0∧∃ R',qP P call b all A0 os i R t=some (R',t')∧JA A0 R'∧S8 A0 R'
  | [],i,R,t,t',B,_,hq,hr,h=>by
    simp only [WK,Option.some.injEq,Prod.mk.injEq] at h
    obtain ⟨rfl,rfl⟩:=h
    exact ⟨rfl,R,rfl,hq,hr⟩
  | o :: os,i,R,t,t',B,hl,hq,hr,h=>by
    rw [List.all_cons,Bool.and_eq_true] at hl
    obtain ⟨Cq,hY⟩:=hl
    simp only [Su] at h
    obtain ⟨wd,Eo,h⟩:=Option.bind_eq_some_iff.1 h
    obtain ⟨q1,q2,q3,q4⟩:=v8 hq
    have mU:=Fe hq b (cP b i)
    have step:∀ r:Rec,sS P call b all A0 R i t o=some r→r.nx=A0.next→(r.gp = .val∨∃ f vs,r.gp = .read f vs)→(∀ f vs,r.gp = .read f vs→f A0 vs=some r.v)→opsV P call all os (sP t o.dst r.v) A0=some (t',B)→
        B=A0∧∃ R',qP P call b all A0 (o :: os) i R t=some (R',t')∧JA A0 R'∧S8 A0 R':=by
      intro r h1 h2 h3 h4 h5
      obtain ⟨e,R',h6,h7,h8⟩:=Lv os (Nat.succ i) (r :: R) _ t' B hY (fun s hs=>by
        rcases List.mem_cons.1 hs with rfl | hs
        · exact ⟨h2,h3⟩
        · exact hq s hs) (fun s hs=>by
        rcases List.mem_cons.1 hs with rfl | hs
        · exact h4
        · exact hr s hs) h5
      exact ⟨e,R',by simp only [qP,h1,Option.bind_some]; exact h6,h7,h8⟩
    cases wd with
    | false=>
      rw [cond_false] at h
      exact step ⟨i,undef,dP A0 R,.val⟩ (by simp [sS,Eo]) q2 (.inl rfl) (fun f vs hd=>by simp at hd) h
    | true=>
      rw [cond_true] at h
      obtain ⟨⟨v,C⟩,h1,h2⟩:=Option.bind_eq_some_iff.1 h
      cases hc:compile P o.op with
      | pure f xs=>
        rw [hc] at h1
        simp only [kZ] at h1
        obtain ⟨u,hu,he⟩:=Option.map_eq_some_iff.1 h1
        simp at he
        obtain ⟨rfl,rfl⟩:=he
        exact step ⟨i,u,dP A0 R,.val⟩ (by simp [sS,Eo,hc,fM,hu]) q2 (.inl rfl) (fun f vs hd=>by simp at hd) h2
      | read f xs=>
        rw [hc] at h1
        simp only [kZ] at h1
        obtain ⟨u,hu,he⟩:=Option.map_eq_some_iff.1 h1
        simp at he
        obtain ⟨rfl,rfl⟩:=he
        exact step ⟨i,u,dP A0 R,.read f (xs.map (jj t))⟩ (by simp [sS,Eo,hc,fM,q1,mU,hu]) q2 (.inr ⟨_,_,rfl⟩) (fun f' vs hd=>by simp at hd; obtain ⟨rfl,rfl⟩:=hd; exact hu) h2
      | make f xs=>rw [hc] at Cq; simp [AP] at Cq
      | act f xs=>rw [hc] at Cq; simp [AP] at Cq
      | call f xs=>rw [hc] at Cq; simp [AP] at Cq
      | bad=>rw [hc] at Cq; simp [AP] at Cq
theorem X9 {P:Program} {call:ca} {rd:Option Nat} (dC:n4 P call) (hm:P.follows .mixedOrders=true) {id:Nat} {all:List Oper} {N base:Nat} (Fa:all.all (mc N)=true) {t t' : Tm} {A B:St} {ρ:aw} {a:Act} {w:World} {Q:Exit→Act→World→Prop}
    (hqv:G9 P all=true) (h:opsV P call all all t A=some (t',B)) (ht:TR ρ t N a) (hs:fU ρ A base w) (hq:∀ aq a' w',TR aq t' N a'→a'.defers=a.defers→b7 base ρ A w aq B w'→Q .normal a' w'):(Code.region id ⟨all⟩ true).wpIn (Fr rd) 0 P Q a w:=by
  obtain ⟨bH,hl⟩:=Bool.and_eq_true_iff.1 hqv
  obtain ⟨rfl,R,X6,h1,h2⟩:=Lv (b:=az [] all) all 0 [] t t' B hl (fun r hr=>by simp at hr) (fun r hr=>by simp at hr) h
  obtain ⟨q1,q2,q3,q4⟩:=v8 h1
  refine Fc dC hm Fa bH X6 (Lu _ h1) (fun r hr f vs hd=>⟨.inr (X8 h1 hr),fun e he _=>?_⟩) ht hs fun aq a' w' uk um hg=>?_
  · rw [q3] at he
    simp at he
    subst he
    rw [Fe h1]
    exact h2 r hr f vs hd
  · rw [q1,Fe h1,q2] at hg
    exact hq aq a' w' uk um hg
end
end Go.aV
end
