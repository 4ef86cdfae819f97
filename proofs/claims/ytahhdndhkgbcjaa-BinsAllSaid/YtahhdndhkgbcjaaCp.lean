/- Part of the proof of BinsAll: a machine that runs the program's code over open terms, shown to be the model's, and the plain models of its functions. No conditions. -/
import Derived.Test.YtahhdndhkgbcjaaBp
import Derived.MapKept
import Derived.Laws.IdiomStrings
import Derived.OrdersIn
section
namespace Go.av
open Go
section
variable {P:Program} {o:Oper}
theorem vg {ρ:ao} {A:St} {base:Nat} {w:World} {r:Nat} {es nB:List (Value×Value)} {yy:Array MapEntry} {xk:Nat} {l:Loc} (hs:jC ρ A base w) (hg:A.get r=some (.map es)) (gL:ρ r=some l)
    (hm:fw ρ nB yy.toList):da base ρ A w ρ (A.put r (.map nB)) { w with heap:=w.heap.setIfInBounds l.cb (.map yy xk) }:=by
  obtain ⟨l',ka,ok⟩:=hs.rel.map _ _ hg
  rw [gL] at ka; simp at ka; subst ka
  obtain ⟨a7,clock,mc,_⟩:=ok.j7
  have aL:l.cb < w.heap.size:=(Array.getElem?_eq_some_iff.1 mc).1
  have vh:bD.cG (.map es)=true:=rfl
  have hold:∀ k,k≠l.cb→(w.heap.setIfInBounds l.cb (.map yy xk))[k]? = w.heap[k]?:=fun k hk=>by
    rw [Array.getElem?_setIfInBounds_ne (Ne.symm hk)]
  have du:(w.heap.setIfInBounds l.cb (.map yy xk)).size=w.heap.size:=by simp
  have hB:∀ x,(A.put r (.map nB)).get x=if x=r then some (.map nB) else A.get x:=fun x=>St.bO _ _ _ _
  have hmd:∀ o:bD,o.cG=true→o≠.dead:=by intro o h e; subst e; simp [bD.cG] at h
  have Fk:∀ x o l2,x≠r→A.get x=some o→o≠.dead→ρ x=some l2→pr ρ base w l2 o→l2.cb≠l.cb:=by
    intro x o l2 hx fa hd n7 fY e
    cases Ft:o.cG with
    | true=>
      obtain ⟨_,_,_,_,e1,_⟩:=hs.rel.apart x r o _ l2 l hx fa hg Ft vh n7 gL e
      simp [bD.jb] at e1
    | false=>
      cases o with
      | row cs bm own bo=>
        have fY:wz ρ base w l2 cs bm own bo:=fY
        have h1:own=false:=Ft
        have:=fY.nA h1
        have:=ok.cG
        omega
      | map _=>simp [bD.cG] at Ft
      | iter _ _=>simp [bD.cG] at Ft
      | dead=>exact hd rfl
      | loop _ _ _ _ _ _=>simp [bD.cG] at Ft
  refine ⟨⟨.rZ ?_ ?_ ?_,fun b l2 h=>hs.gk b l2 h,by simpa using hs.size,hs.mS⟩,fun _ _=>rfl,⟨rfl,rfl,rfl,Nat.le_of_eq du.symm,fun k hk hn=>hold k (fun e=>hn ⟨r,_,l,hg,vh,gL,e.symm⟩)⟩,Nat.le_refl _,Nat.min_le_left _ _,fun x hx Zc=>?_,?_⟩
  · intro x o fa hd
    rw [hB] at fa
    split at fa
    · rename_i e; subst e; simp at fa; subst fa
      refine ⟨l,gL,ok.cG,yy,xk,?_,hm⟩
      show (w.heap.setIfInBounds l.cb (.map yy xk))[l.cb]? = _
      rw [Array.getElem?_setIfInBounds_self_of_lt aL]
    · rename_i e
      obtain ⟨l2,n7,fY⟩:=hs.rel.obj fa hd
      exact ⟨l2,n7,fY.gY (ao.le_refl _) (hold _ (Fk x o l2 e fa hd n7 fY)) (Nat.le_of_eq du.symm)⟩
  · have Fl:∀ x o,(A.put r (.map nB)).get x=some o→o.cG=true→∃ o',A.get x=some o'∧o'.cG=true∧o'.jb=o.jb:=by
      intro x o hx hm
      rw [hB] at hx
      split at hx
      · rename_i e; subst e; simp at hx; subst hx; exact ⟨_,hg,rfl,rfl⟩
      · exact ⟨o,hx,hm,rfl⟩
    intro b1 b2 o1 o2 l1 l2 bR g1 g2 m1 m2 r1 r2 xG
    obtain ⟨p1,q1,n1,k1⟩:=Fl _ _ g1 m1
    obtain ⟨p2,q2,n2,k2⟩:=Fl _ _ g2 m2
    rw [← k1,← k2]
    exact hs.rel.apart b1 b2 p1 p2 l1 l2 bR q1 q2 n1 n2 r1 r2 xG
  · intro x o aW f fa hk
    rw [hB] at fa
    split at fa
    · rename_i e; subst e; simp at fa; subst fa; simp [bD.jb] at hk
    · exact hs.rel.ba x o aW f fa hk
  · rw [St.Ku] at Zc
    have:Nat.min A.low r≤r:=Nat.min_le_right _ _
    rw [hB,if_neg (by omega)]
  · rintro k hk ⟨x,o,l2,fa,hm,n7,rfl⟩
    rw [hB] at fa
    split at fa
    · rename_i e; subst e
      rw [gL] at n7; simp at n7; subst n7
      exact ⟨x,_,l,hg,vh,gL,rfl⟩
    · exact ⟨x,o,l2,fa,hm,n7,rfl⟩
theorem fw.length {ρ:ao} : ∀ {es:List (Value×Value)} {l:List MapEntry},fw ρ es l→l.length=es.length
  | [],l,h=>by simp only [fw] at h; subst h; rfl
  | (k,v) :: es,l,h=>by
    simp only [fw] at h
    obtain ⟨e,r,rfl,_,_,h⟩:=h
    simp [fw.length h]
theorem fw.get {ρ:ao} : ∀ {es:List (Value×Value)} {l:List MapEntry},fw ρ es l→∀ (i:Nat) (k v:Value),es[i]? = some (k,v)→∃ e,l[i]? = some e∧VR ρ k e.key∧VR ρ v e.val
  | [],l,h,i,k,v,hi=>by simp at hi
  | (k,v) :: es,l,h,i,k',v',hi=>by
    simp only [fw] at h
    obtain ⟨e,r,rfl,h1,h2,h⟩:=h
    cases i with
    | zero=>simp at hi; obtain ⟨rfl,rfl⟩:=hi; exact ⟨e,rfl,h1,h2⟩
    | succ i=>simp at hi; simpa using fw.get h i k' v' hi
theorem fw.append {ρ:ao} : ∀ {es:List (Value×Value)} {l:List MapEntry} {k v:Value} {e:MapEntry},fw ρ es l→VR ρ k e.key→VR ρ v e.val→fw ρ (es ++ [(k,v)]) (l ++ [e])
  | [],l,k,v,e,h,h1,h2=>by
    simp only [fw] at h; subst h
    simp only [List.nil_append,fw]
    exact ⟨e,[],rfl,h1,h2,rfl⟩
  | (k0,v0) :: es,l,k,v,e,h,h1,h2=>by
    simp only [fw] at h
    obtain ⟨e0,r,rfl,h3,h4,h⟩:=h
    simp only [List.cons_append,fw]
    exact ⟨e0,r ++ [e],rfl,h3,h4,fw.append h h1 h2⟩
theorem fw.modify {ρ:ao} : ∀ {es:List (Value×Value)} {l:List MapEntry} {k v:Value} (f:MapEntry→MapEntry) (i:Nat),fw ρ es l→(∀ e,VR ρ k (f e).key∧VR ρ v (f e).val)→fw ρ (es.set i (k,v)) (l.modify i f)
  | [],l,k,v,f,i,h,_=>by simp only [fw] at h; subst h; simp [fw]
  | (k0,v0) :: es,l,k,v,f,i,h,hf=>by
    simp only [fw] at h
    obtain ⟨e0,r,rfl,h3,h4,h⟩:=h
    cases i with
    | zero=>simp only [List.set_cons_zero,List.modify_zero_cons,fw]; exact ⟨_,r,rfl,(hf e0).1,(hf e0).2,h⟩
    | succ i=>simp only [List.set_cons_succ,List.modify_succ_cons,fw]; exact ⟨e0,_,rfl,h3,h4,fw.modify f i h hf⟩
theorem fw.erase {ρ:ao} : ∀ {es:List (Value×Value)} {l:List MapEntry} (i:Nat),fw ρ es l→fw ρ (es.eraseIdx i) (l.eraseIdx i)
  | [],l,i,h=>by simp only [fw] at h; subst h; simp [fw]
  | (k0,v0) :: es,l,i,h=>by
    simp only [fw] at h
    obtain ⟨e0,r,rfl,h3,h4,h⟩:=h
    cases i with
    | zero=>simpa using h
    | succ i=>simp only [List.eraseIdx_cons_succ,fw]; exact ⟨e0,_,rfl,h3,h4,fw.erase i h⟩
def FR (ρ:ao):Option (Nat×Value)→Option (Nat×Value)→Prop
  | none,r=>r=none
  | some (i,v),r=>∃ v',r=some (i,v')∧VR ρ v v'
theorem KC {ρ:ao} (d:TypeDesc) (k:Value):∀ (es:List (Value×Value)) (l:List MapEntry) (i:Nat),fw ρ es l→qI es=true→
    (wx d k es i=none→Instr.findNow d k l i=none)∧∀ r,wx d k es i=some r→∃ r',Instr.findNow d k l i=some r'∧FR ρ r r'
  | [],l,i,h,_=>by
    simp only [fw] at h; subst h
    exact ⟨fun h=>by simp [wx] at h,fun r hr=>by simp [wx] at hr; subst hr; exact ⟨none,rfl,rfl⟩⟩
  | (k0,v0) :: es,l,i,h,hf=>by
    simp only [fw] at h
    obtain ⟨e0,r0,rfl,h3,h4,h⟩:=h
    simp only [qI,Bool.and_eq_true] at hf
    have hk:e0.key=k0:=h3.kO hf.1
    have ih:=KC d k es r0 (i+1) h hf.2
    simp only [wx,Instr.findNow,hk]
    cases hsn:Instr.sameNow d k k0 with
    | none=>exact ⟨fun _=>rfl,fun r hr=>by simp at hr⟩
    | some b=>
      cases b with
      | true=>exact ⟨fun h=>by simp at h,fun r hr=>by simp at hr; subst hr; exact ⟨_,rfl,_,rfl,h4⟩⟩
      | false=>exact ih
theorem KD {ρ:ao} (kt:TypeId) (k:Value):∀ (es:List (Value×Value)) (l:List MapEntry) (i:Nat),fw ρ es l→qI es=true→
    ∀ r,BP P kt k es i=some r→∃ r',(∀ w,(Instr.findAsking kt k l i).run P w = .ok r' w)∧FR ρ r r'
  | [],l,i,h,_=>by
    simp only [fw] at h; subst h
    intro r hr
    simp [BP] at hr; subst hr; exact ⟨none,fun w=>rfl,rfl⟩
  | (k0,v0) :: es,l,i,h,hf=>by
    simp only [fw] at h
    obtain ⟨e0,r0,rfl,h3,h4,h⟩:=h
    simp only [qI,Bool.and_eq_true] at hf
    have hk:e0.key=k0:=h3.kO hf.1
    intro r hr
    simp only [BP] at hr
    split at hr
    · rename_i he
      simp at hr; subst hr
      refine ⟨some (i,e0.val),fun w=>?_,_,rfl,h4⟩
      simp [Instr.findAsking,hk,fR he w]
    · rename_i he
      obtain ⟨r',h5,h6⟩:=KD kt k es r0 (i+1) h hf.2 r hr
      refine ⟨r',fun w=>?_,h6⟩
      simp only [Instr.findAsking,hk,Sem.run_bind,fR he w,Result.andThen_ok]
      exact h5 w
    · simp at hr
theorem Dr {ρ:ao} {kt:TypeId} {d:TypeDesc} {k:Value} {es:List (Value×Value)} {l:List MapEntry} {r:Option (Nat×Value)} (hd:P.underlying kt=some d) (h:fw ρ es l) (hf:qI es=true) (hr:PK P kt d k es=some r) :
    ∃ r',(∀ w,(Instr.findKey kt k l).run P w = .ok r' w)∧FR ρ r r':=by
  have hn:=KC d k es l 0 h hf
  unfold PK at hr
  split at hr
  · rename_i q hq
    simp at hr; subst hr
    obtain ⟨r',h1,h2⟩:=hn.2 _ hq
    refine ⟨r',fun w=>?_,h2⟩
    simp only [Instr.findKey,Sem.run_bind,bb hd,Result.andThen_ok,h1]
    rfl
  · rename_i hq
    have h1:=hn.1 hq
    obtain ⟨r',h2,h3⟩:=KD kt k es l 0 h hf r hr
    refine ⟨r',fun w=>?_,h3⟩
    simp only [Instr.findKey,Sem.run_bind,bb hd,Result.andThen_ok,h1]
    exact h2 w
theorem yL {ρ:ao} {kt:TypeId} {b:Bool} {k k' : Value} {es:List (Value×Value)} (h:Bc P kt b k es=true) (hk:VR ρ k k'):k' = k∧flat k=true∧qI es=true∧∀ w,(Instr.checkKey b 10000 kt k).run P w = .ok () w:=by
  unfold Bc at h
  simp only [Bool.and_eq_true] at h
  obtain ⟨⟨h1,h2⟩,h3⟩:=h
  cases hp:cF P (Instr.checkKey b 10000 kt k) with
  | none=>rw [hp] at h3; simp at h3
  | some u=>exact ⟨hk.kO h1,h1,h2,fun w=>fR hp w⟩
theorem fw.isEmpty {ρ:ao} {es:List (Value×Value)} {l:Array MapEntry} (h:fw ρ es l.toList):l.isEmpty=es.isEmpty:=by
  have:=h.length
  cases es with
  | nil=>simp at this; simpa using this
  | cons e es=>simp at this; simp; intro h; rw [h] at this; simp at this
theorem VR.Fu {ρ:ao} {r:Nat} {v:Value} (h:VR ρ (.map (some r)) v):∃ l,ρ r=some l∧v = .map (some l.cb):=by simpa only [VR] using h
theorem VR.yM {ρ:ao} {v:Value} (h:VR ρ (.map none) v):v = .map none:=by simpa only [VR] using h
theorem VR.Tw {ρ:ao} {ok b:Bool} {v v' : Value} (h:VR ρ v v'):VR ρ (Tw ok v b) (if ok then .tuple #[v',.bool b] else v'):=by
  cases ok with
  | true=>exact VR.mkTuple (.cons h (.cons (VR.of_flat rfl) .nil))
  | false=>exact h
theorem Xa {t:TypeId} {r:Option Operand} (ho:o.op = .makeMap t r):fC P o (E9 P t r):=by
  unfold E9
  split
  · rename_i kt et hu
    intro ρ ev cr obj mk he hf
    have iR:obj = .map []∧mk=fun n=>.map (some n):=by
      unfold Mn at hf
      split at hf
      · simp at hf; exact ⟨hf.1.symm,hf.2.symm⟩
      · simp at hf; exact ⟨hf.1.symm,hf.2.symm⟩
      · simp at hf
    obtain ⟨rfl,rfl⟩:=iR
    refine ⟨.map #[] 0,fun n=>.map (some n),rfl,fun w=>?_,fun ak n cb h=>by simp only [VR]; exact ⟨_,h,rfl⟩⟩
    cases r with
    | none=>simp [execOp,ho,Instr.makeMap]
    | some x=>
      have hx:=he x (by simp [eC])
      unfold Mn at hf
      simp only [eC,List.map] at hf
      split at hf
      · rename_i e; simp at e
      · rename_i k n e
        simp at e
        rw [e] at hx
        simp [execOp,ho,Instr.makeMap,hx.cS,bb hu,asInt,asIntOf]
      · simp at hf
  · trivial
theorem Cb {ρ:ao} {kt et:TypeId} {d:TypeDesc} {z v k k' : Value} {ok:Bool} {es:List (Value×Value)} {l:Array MapEntry} (hd:P.underlying kt=some d) (hz:pW P et=some z) (hzf:flat z=true)
    (hm:fw ρ es l.toList) (hk:VR ρ k k') (h:Db P kt d z ok k es=some v) :
    ∃ v',VR ρ v v'∧∀ w,(do
      Instr.checkKey l.isEmpty 10000 kt k'
      let (v,b) ← match ← Instr.findKey kt k' l.toList with
        | some (_,v)=>pure (v,true)
        | none=>pure (← zeroValue et,false)
      pure (if ok then Value.tuple #[v,.bool b] else v):Sem Value).run P w = .ok v' w:=by
  unfold Db at h
  cases hc:Bc P kt es.isEmpty k es with
  | false=>rw [hc] at h; simp at h
  | true=>
    rw [hc,cond_true] at h
    obtain ⟨rfl,_,Zm,Fm⟩:=yL hc hk
    obtain ⟨r,hr,rfl⟩:=Option.map_eq_some_iff.1 h
    obtain ⟨r',h1,h2⟩:=Dr hd hm Zm hr
    rw [hm.isEmpty]
    cases r with
    | none=>
      have h2:r' = none:=h2
      subst h2
      refine ⟨_,VR.Tw (VR.of_flat hzf),fun w=>?_⟩
      simp [Fm,h1,Ha hz]
    | some p=>
      obtain ⟨i,u⟩:=p
      obtain ⟨u',rfl,h3⟩:=h2
      refine ⟨_,VR.Tw h3,fun w=>?_⟩
      simp [Fm,h1]
theorem Zn {t:TypeId} {x ix:Operand} {ok:Bool} (ho:o.op = .lookup t x ix ok):fC P o (Je P t x ix ok):=by
  unfold Je
  split
  · rename_i kt et hu
    split
    · rename_i d z hd hz
      cases hzf:flat z with
      | false=>exact True.intro
      | true=>
        rw [cond_true]
        intro ρ A base w ev cr v hs he hf
        have hx:=he x (by simp)
        have hk:=he ix (by simp)
        simp only [List.map] at hf
        unfold WD at hf
        split at hf
        · rename_i k e
          simp at e
          obtain ⟨e1,e2⟩:=e
          rw [e1] at hx
          have hx:=hx.yM
          rw [← e2] at hf
          obtain ⟨v',h1,h2⟩:=Cb (ρ:=ρ) (l:=#[]) hd hz hzf (by simp [fw]) hk hf
          refine ⟨v',h1,?_⟩
          have h2:=h2 w
          simp only [execOp,ho,Instr.lookup,Sem.run_bind,bb hu,Result.andThen_ok,hx,Sem.run_pure] at h2 ⊢
          exact congrArg (fun r:Result Value=>r.andThen fun a w'=>Result.ok (Next.value a) w') h2
        · rename_i r k e
          simp at e
          obtain ⟨e1,e2⟩:=e
          rw [e1] at hx
          rw [← e2] at hf
          obtain ⟨lc,hl,hx⟩:=hx.Fu
          split at hf
          · rename_i es hg
            obtain ⟨l2,kK,fY⟩:=hs.map _ _ hg
            rw [hl] at kK; simp at kK; subst kK
            obtain ⟨a7,clock,mc,hm⟩:=fY.j7
            obtain ⟨v',h1,h2⟩:=Cb (l:=a7) hd hz hzf hm hk hf
            refine ⟨v',h1,?_⟩
            have h2:=h2 w
            simp only [execOp,ho,Instr.lookup,Sem.run_bind,bb hu,Result.andThen_ok,hx,MapKept.run_getObj_map mc,Sem.run_pure] at h2 ⊢
            exact congrArg (fun r:Result Value=>r.andThen fun a w'=>Result.ok (Next.value a) w') h2
          · simp at hf
        · simp at hf
    · trivial
  · trivial
theorem KF {ρ:ao} {A B:St} {base:Nat} {w:World} {t kt et:TypeId} {d:TypeDesc} {m k x m' k' x' v:Value} (hu:P.underlying t=some (.map kt et)) (hd:P.underlying kt=some d) (hs:jC ρ A base w)
    (hm:VR ρ m m') (hk:VR ρ k k') (hx:VR ρ x x') (h:E8 P kt d A [m,k,x] = some (v,B)):v=undef∧∃ w',(Instr.mapUpdate t m' k' x').run P w = .ok () w'∧da base ρ A w ρ B w':=by
  unfold E8 at h
  split at h
  · rename_i r k0 x0 e
    simp at e
    obtain ⟨rfl,rfl,rfl⟩:=e
    obtain ⟨lc,hl,rfl⟩:=hm.Fu
    split at h
    · rename_i es hg
      obtain ⟨l2,kK,fY⟩:=hs.rel.map _ _ hg
      rw [hl] at kK; simp at kK; subst kK
      obtain ⟨a7,clock,mc,MD⟩:=fY.j7
      cases hc:Bc P kt false k es with
      | false=>rw [hc] at h; simp at h
      | true=>
        rw [hc,cond_true] at h
        obtain ⟨rfl,hkf0,Zm,Fm⟩:=yL hc hk
        obtain ⟨q,hq,h⟩:=Option.bind_eq_some_iff.1 h
        obtain ⟨r',h1,h2⟩:=Dr hd MD Zm hq
        cases q with
        | none=>
          have h2:r' = none:=h2
          subst h2
          simp at h
          obtain ⟨rfl,rfl⟩:=h
          refine ⟨rfl,_,?_,vg (yy:=a7.push { key:=k',val:=x',born:=clock }) (xk:=clock+1) hs hg hl (by rw [Array.toList_push]; exact MD.append hk hx)⟩
          simp [Instr.mapUpdate,bb hu,MapKept.run_getObj_map mc,Fm,h1,MapKept.run_setObj_map _ mc]
        | some p=>
          obtain ⟨i,u⟩:=p
          obtain ⟨u',rfl,h3⟩:=h2
          simp only at h
          cases hsb:Instr.sameBits 10000 (Uz es i k') k' with
          | false=>rw [hsb] at h; simp at h
          | true=>
            rw [hsb] at h
            simp at h
            obtain ⟨rfl,rfl⟩:=h
            have hold:((a7[i]?).map (·.key)).getD k' = Uz es i k':=by
              unfold Uz
              cases hi:es[i]? with
              | none=>
                have:a7[i]? = none:=by
                  rw [Array.getElem?_eq_none_iff]
                  have:=List.getElem?_eq_none_iff.1 hi
                  rw [← Array.length_toList,MD.length]; exact this
                rw [this]; rfl
              | some p=>
                obtain ⟨k1,v1⟩:=p
                obtain ⟨e,h5,h6,h7⟩:=MD.get i k1 v1 hi
                have h5' : a7[i]? = some e:=by simpa using h5
                have B9:flat k1=true:=by
                  have key:∀ (es:List (Value×Value)) (i:Nat),qI es=true→es[i]? = some (k1,v1)→flat k1=true:=by
                    intro es
                    induction es with
                    | nil=>intro i _ h; simp at h
                    | cons e es ih=>
                      intro i hk h
                      simp only [qI,Bool.and_eq_true] at hk
                      cases i with
                      | zero=>simp at h; subst h; exact hk.1
                      | succ i=>exact ih i hk.2 (by simpa using h)
                  exact key es i Zm hi
                rw [h5']
                simp only [Option.map_some,Option.getD_some]
                exact h6.kO B9
            refine ⟨rfl,_,?_,vg (yy:=a7.modify i fun e=>{ e with key:=k',val:=x' }) (xk:=clock) hs hg hl (by rw [Array.toList_modify]; exact MD.modify _ i fun e=>⟨hk,hx⟩)⟩
            simp [Instr.mapUpdate,bb hu,MapKept.run_getObj_map mc,Fm,h1,hold,Instr.keyThatStays,hsb,MapKept.run_setObj_map _ mc]
    · simp at h
  · simp at h
theorem H9 {t:TypeId} {m k x:Operand} (ho:o.op = .mapUpdate t m k x∨o.op = .insert t m k x):fC P o (xf P t m k x):=by
  unfold xf
  split
  · rename_i kt et hu
    split
    · rename_i d hd
      intro ρ A B base w ev cr v hs he hf
      simp only [List.map] at hf
      obtain ⟨rfl,w',h1,h2⟩:=KF hu hd hs (he m (by simp)) (he k (by simp)) (he x (by simp)) hf
      refine ⟨ρ,undef,.skip,w',?_,rfl,VR.of_flat (by simp [undef,flat,uZ,n6]),h2⟩
      rcases ho with ho | ho <;> simp [execOp,ho,h1]
    · trivial
  · trivial
theorem rD:flat ju=true:=rfl
theorem Zo {argTypes:Array TypeId} {args:Array Operand} (ho:o.op = .call ⟨.builtin .delete,args,argTypes⟩):fC P o (Jf P argTypes.toList args.toList):=by
  unfold Jf
  split
  · rename_i t rest tW
    have Er:argTypes[0]? = some t:=by rw [← Array.getElem?_toList,tW]; rfl
    split
    · rename_i kt et hu
      split
      · rename_i d hd
        intro ρ A B base w ev cr v hs he hf
        have hm:=he.map
        unfold WG at hf
        split at hf
        · rename_i k e1
          rw [e1] at hm
          obtain ⟨m',r1,e2,Qn,hm⟩:=hm.cons_inv
          obtain ⟨k',r2,e3,hkv,hm⟩:=hm.cons_inv
          have:=hm.bJ
          subst this e3
          have e4:args.map cr = #[m',k']:=by apply Array.ext'; simpa using e2
          have:=Qn.yM
          subst this
          cases hc:Bc P kt true k [] with
          | false=>rw [hc] at hf; simp at hf
          | true=>
            rw [hc] at hf
            simp at hf
            obtain ⟨rfl,rfl⟩:=hf
            obtain ⟨rfl,_,Zm,Fm⟩:=yL hc hkv
            refine ⟨ρ,ju,.value ju,w,?_,rfl,VR.of_flat rD,.refl hs⟩
            simp [execOp,ho,resolve,invoke,builtin,e4,Builtin.delete_,Er,bb hu,Fm,ju]
        · rename_i r k e1
          rw [e1] at hm
          obtain ⟨m',r1,e2,Qn,hm⟩:=hm.cons_inv
          obtain ⟨k',r2,e3,hkv,hm⟩:=hm.cons_inv
          have:=hm.bJ
          subst this e3
          have e4:args.map cr = #[m',k']:=by apply Array.ext'; simpa using e2
          obtain ⟨lc,hl,rfl⟩:=Qn.Fu
          split at hf
          · rename_i es hg
            obtain ⟨l2,kK,fY⟩:=hs.rel.map _ _ hg
            rw [hl] at kK; simp at kK; subst kK
            obtain ⟨a7,clock,mc,MD⟩:=fY.j7
            cases hc:Bc P kt es.isEmpty k es with
            | false=>rw [hc] at hf; simp at hf
            | true=>
              rw [hc,cond_true] at hf
              obtain ⟨rfl,_,Zm,Fm⟩:=yL hc hkv
              obtain ⟨q,hq,Cc⟩:=Option.map_eq_some_iff.1 hf
              obtain ⟨r',h1,h2⟩:=Dr hd MD Zm hq
              rw [← MD.isEmpty] at Fm
              cases q with
              | none=>
                have h2:r' = none:=h2
                subst h2
                simp at Cc
                obtain ⟨rfl,rfl⟩:=Cc
                refine ⟨ρ,ju,.value ju,_,?_,rfl,VR.of_flat rD,vg (yy:=a7) (xk:=clock) hs hg hl MD⟩
                simp [execOp,ho,resolve,invoke,builtin,e4,Builtin.delete_,Er,bb hu,MapKept.run_getObj_map mc,Fm,h1,MapKept.run_setObj_map _ mc,ju]
              | some p=>
                obtain ⟨i,u⟩:=p
                obtain ⟨u',rfl,h3⟩:=h2
                simp at Cc
                obtain ⟨rfl,rfl⟩:=Cc
                refine ⟨ρ,ju,.value ju,_,?_,rfl,VR.of_flat rD,vg (yy:=a7.eraseIdxIfInBounds i) (xk:=clock) hs hg hl (by rw [Array.toList_eraseIdxIfInBounds]; exact MD.erase i)⟩
                simp [execOp,ho,resolve,invoke,builtin,e4,Builtin.delete_,Er,bb hu,MapKept.run_getObj_map mc,Fm,h1,MapKept.run_setObj_map _ mc,ju]
          · simp at hf
        · simp at hf
      · trivial
    · trivial
  · trivial
theorem abO {argTypes:Array TypeId} {args:Array Operand} (ho:o.op = .call ⟨.builtin .clear,args,argTypes⟩):fC P o (Mo P argTypes.toList args.toList):=by
  unfold Mo
  split
  · rename_i t tW
    have Er:argTypes[0]? = some t:=by rw [← Array.getElem?_toList,tW]; rfl
    split
    · rename_i kt et hu
      intro ρ A B base w ev cr v hs he hf
      have hm:=he.map
      unfold PL at hf
      split at hf
      · rename_i e1
        simp at hf
        obtain ⟨rfl,rfl⟩:=hf
        rw [e1] at hm
        obtain ⟨m',r1,e2,Qn,hm⟩:=hm.cons_inv
        have:=hm.bJ
        subst this
        have e4:args.map cr = #[m']:=by apply Array.ext'; simpa using e2
        have:=Qn.yM
        subst this
        refine ⟨ρ,ju,.value ju,w,?_,rfl,VR.of_flat rD,.refl hs⟩
        simp [execOp,ho,resolve,invoke,builtin,e4,Builtin.clear_,Er,bb hu,ju]
      · rename_i r e1
        rw [e1] at hm
        obtain ⟨m',r1,e2,Qn,hm⟩:=hm.cons_inv
        have:=hm.bJ
        subst this
        have e4:args.map cr = #[m']:=by apply Array.ext'; simpa using e2
        obtain ⟨lc,hl,rfl⟩:=Qn.Fu
        split at hf
        · rename_i es hg
          simp at hf
          obtain ⟨rfl,rfl⟩:=hf
          obtain ⟨l2,kK,fY⟩:=hs.rel.map _ _ hg
          rw [hl] at kK; simp at kK; subst kK
          obtain ⟨a7,clock,mc,MD⟩:=fY.j7
          refine ⟨ρ,ju,.value ju,_,?_,rfl,VR.of_flat rD,vg (yy:=#[]) (xk:=clock) hs hg hl rfl⟩
          simp [execOp,ho,resolve,invoke,builtin,e4,Builtin.clear_,Er,bb hu,MapKept.run_getObj_map mc,MapKept.run_setObj_map _ mc,ju]
        · simp at hf
      · simp at hf
    · rename_i e hu
      split
      · rename_i z hz
        cases hzc:(flat z && Nat.ble 1 z.cells.size) with
        | false=>exact True.intro
        | true=>
          rw [cond_true]
          obtain ⟨UT,Dj⟩:=Bool.and_eq_true_iff.1 hzc
          have Dj:=Nat.le_of_ble_eq_true Dj
          intro ρ A B base w ev cr v hs he hf
          have hm:=he.map
          unfold Tx at hf
          split at hf
          · rename_i n c e1
            simp at hf
            obtain ⟨rfl,rfl⟩:=hf
            rw [e1] at hm
            obtain ⟨m',r1,e2,Qn,hm⟩:=hm.cons_inv
            have:=hm.bJ
            subst this
            have e4:args.map cr = #[m']:=by apply Array.ext'; simpa using e2
            have:=Qn.gZ
            subst this
            refine ⟨ρ,ju,.value ju,w,?_,rfl,VR.of_flat rD,.refl hs⟩
            simp [execOp,ho,resolve,invoke,builtin,e4,Builtin.clear_,Er,bb hu,ju]
          · rename_i a n c e1
            rw [e1] at hm
            obtain ⟨m',r1,e2,Qn,hm⟩:=hm.cons_inv
            have:=hm.bJ
            subst this
            have e4:args.map cr = #[m']:=by apply Array.ext'; simpa using e2
            obtain ⟨qt,Dm,lc,a',c',hl,qu,Fo,ni,rfl⟩:=Qn.mG
            cases hn:Nat.beq n 0 with
            | true=>
              rw [hn] at hf
              simp at hf
              obtain ⟨rfl,rfl⟩:=hf
              have:=Nat.eq_of_beq_eq_true hn
              subst this
              refine ⟨ρ,ju,.value ju,w,?_,rfl,VR.of_flat rD,.refl hs⟩
              simp [execOp,ho,resolve,invoke,builtin,e4,Builtin.clear_,Er,bb hu,ju]
            | false=>
              rw [hn,cond_false] at hf
              have hn0:=Nat.ne_of_beq_eq_false hn
              obtain ⟨B',gm,hf⟩:=Option.map_eq_some_iff.1 hf
              simp at hf
              obtain ⟨rfl,rfl⟩:=hf
              obtain ⟨w',h5,h6⟩:=xi (P:=P) hs gm hl ((Aw UT).repeat n)
              have:=Fo (by omega)
              subst this
              have e5:Builtin.zeroCells z.cells n=⟨ff z.cells.toList n⟩:=Jo z.cells n Dj
              refine ⟨ρ,ju,.value ju,w',?_,rfl,VR.of_flat rD,h6⟩
              obtain ⟨m,rfl⟩:=Nat.exists_eq_succ_of_ne_zero hn0
              simp [execOp,ho,resolve,invoke,builtin,e4,Builtin.clear_,Er,bb hu,Ha hz,e5,h5,ju]
          · simp at hf
      · trivial
    · trivial
  · trivial
theorem ae2 {argTypes:Array TypeId} {args:Array Operand} (ho:o.op = .call ⟨.builtin .len,args,argTypes⟩):fC P o (Km P argTypes.toList args.toList):=by
  unfold Km
  split
  · rename_i t et
    have tW:argTypes[0]? = some t:=by rw [← Array.getElem?_toList,et]; rfl
    split
    · rename_i e hu; exact abK ho tW hu
    · rename_i hu; exact Zi ho tW hu
    · rename_i kt et' hu
      intro ρ A base w ev cr v hs he hf
      have hm:=he.map
      unfold WH at hf
      split at hf
      · rename_i e1
        rw [e1] at hm
        obtain ⟨y,ys,e2,h1,h2⟩:=hm.cons_inv
        have:=h2.bJ
        subst this
        simp at hf; subst hf
        have:=h1.yM
        subst this
        refine ⟨_,VR.of_flat rfl,?_⟩
        have e3:(args.map cr)[0]? = some (.map none):=by rw [mb,e2]; rfl
        simp [execOp,ho,resolve,invoke,builtin,Builtin.len_,tW,e3,bb hu,goInt]
      · rename_i r e1
        rw [e1] at hm
        obtain ⟨y,ys,e2,h1,h2⟩:=hm.cons_inv
        have:=h2.bJ
        subst this
        obtain ⟨lc,hl,rfl⟩:=h1.Fu
        split at hf
        · rename_i es hg
          simp at hf; subst hf
          obtain ⟨l2,kK,fY⟩:=hs.map _ _ hg
          rw [hl] at kK; simp at kK; subst kK
          obtain ⟨a7,clock,mc,MD⟩:=fY.j7
          refine ⟨_,VR.of_flat rfl,?_⟩
          have e3:(args.map cr)[0]? = some (.map (some lc.cb)):=by rw [mb,e2]; rfl
          have du:a7.size=es.length:=by rw [← Array.length_toList,MD.length]
          simp [execOp,ho,resolve,invoke,builtin,Builtin.len_,tW,e3,bb hu,goInt,MapKept.run_getObj_map mc,du]
        · simp at hf
      · simp at hf
    · trivial
  · trivial
end
end Go.av
end
section
namespace Go.av
open Go
section
variable {P:Program} {o:Oper}
theorem U3 {l:List UInt8} : ∀ {cs:List Value},Ap cs=some l→cs=jD l:=by
  intro cs
  induction cs generalizing l with
  | nil=>intro h; simp [Ap] at h; subst h; rfl
  | cons c cs ih=>
    intro h
    cases c with
    | int k n=>
      cases k <;> cases n <;> simp only [Ap] at h <;> try (simp at h; done)
      rename_i m
      cases hb:Nat.blt m 256 with
      | false=>rw [hb] at h; simp at h
      | true=>
        rw [hb,cond_true] at h
        obtain ⟨r,hr,rfl⟩:=Option.map_eq_some_iff.1 h
        rw [Nat.blt_eq] at hb
        rw [ih hr]
        simp only [jD,List.map_cons,List.cons.injEq,and_true]
        have:(UInt8.ofNat m).toNat=m:=by simp; omega
        rw [this]
        rfl
    | _=>simp [Ap] at h
theorem SR {ρ:ao} (l:List UInt8):cO ρ (jD l) (jD l):=by
  induction l with
  | nil=>exact .nil
  | cons x l ih=>exact .cons (by simp [VR]) ih
theorem Fv:∀ (l:List UInt8),n6 (jD l)=true
  | []=>rfl
  | x :: l=>by show (true && n6 (jD l))=true; rw [Fv l]; rfl
theorem Qo {e:TypeId} (h:isByte P e=true):P.underlying e=some (.int .u8):=by
  unfold isByte at h
  split at h
  · rename_i h'; exact h'
  · simp at h
theorem OK {ρ:ao} {A:St} {base:Nat} {w:World} {cs bI:List Value} {c:Array Value} {n aW f:Nat} {fr:Nat×Nat} (T:TypeId) (Qi:n=1) (hs:jC ρ A base w) (hc:cO ρ cs bI) (h1:∀ v ∈ cs,scalar v=true)
    (H8:∀ (j:Nat) (v:Value),bI[j]? = some v→c[j]? = some v) (du:cs.length≤c.size) (wC:c.size≤fr.1) :
    da base ρ A w (ρ.set A.next ⟨w.heap.size,0,c.size,n⟩) (A.grow aW f cs n) (w.alloc (.cells c T fr)):=by
  refine wD (o:=.row cs n true (some (aW,f))) hs (fun x=>Ca _ _ _ _ _ _) (fun g x h=>?_) (fun g f' h=>?_) (by simp [St.grow]) (by simp [St.grow]) (fun x hx _=>by rw [Ca,if_neg (by omega)]) rfl ?_
  · rw [ti]; split
    · rename_i e; subst e; simp [h]
    · exact h
  · simp [bD.jb] at h; rw [ti,h.1]; simp
  · refine ⟨fun i v hi=>?_,fun h=>by simp at h,fun _=>hs.size,fun _ j hj=>?_,by simpa using du,fun _ h=>by simp at h,rfl,by simp,fun _ h=>absurd Qi h⟩
    · obtain ⟨v',h2,h3⟩:=hc.get hi
      refine ⟨v',?_,h3.mono (hs.yK _),h1 v (List.mem_of_getElem? hi)⟩
      rw [Nat.zero_add,World.cell?_alloc_mark]
      exact H8 i v' h2
    · simp only at hj ⊢
      rw [World.cell?_alloc_mark]
      refine ⟨?_,?_⟩
      · rw [Array.getElem?_eq_getElem (by omega)]
        rfl
      · have:(w.alloc (.cells c T fr)).heap[w.heap.size]? = some (.cells c T fr):=by
          show (w.heap.push (.cells c T fr))[w.heap.size]? = _
          simp
        simp only [World.frozen?,this]
        have tX : ¬ (fr.1≤j):=by omega
        simp [tX]
theorem MF {ρ:ao} {A:St} {base:Nat} {w:World} {src dst e:TypeId} {x x' v:Value} (hs:Rel ρ A.get A.members base w) (h1:P.underlying src=some (.slice e)) (h2:P.underlying dst=some .string) (he:P.underlying e=some (.int .u8))
    (hx:VR ρ x x') (h:zq A [x] = some v):VR ρ v v∧(convert src dst x').run P w = .ok v w:=by
  unfold zq at h
  split at h
  · rename_i n c e1
    simp at e1; subst e1
    simp at h; subst h
    have:=hx.gZ
    subst this
    refine ⟨VR.of_flat rfl,?_⟩
    rw [run_convert_bytes_string w src dst e none n c h1 he h2]
    rfl
  · rename_i a n c e1
    simp at e1; subst e1
    obtain ⟨l,hl,rfl⟩:=Option.map_eq_some_iff.1 h
    obtain ⟨cs,Dk,hb⟩:=Option.bind_eq_some_iff.1 hl
    have:=U3 hb
    subst this
    obtain ⟨qt,Dm,lc,a',c',gL,qu,Fo,ni,rfl⟩:=hx.mG
    obtain ⟨bI,q1,q2,q3,q4⟩:=rY (P:=P) hs Dk gL
    have ac8:bI=jD l:=q1.kO (Fv l)
    subst ac8
    have hlen:l.length=n:=by simpa [jD] using q2
    refine ⟨VR.of_flat rfl,?_⟩
    rw [run_convert_bytes_string w src dst e (some a') n c' h1 he h2]
    have yj:(loadCells a' n).run P w = .ok (jD l).toArray w:=by
      by_cases hc:c' = 0
      · have hn0:n=0:=by omega
        subst hn0
        have:l = []:=List.eq_nil_of_length_eq_zero hlen
        subst this
        exact run_loadCells_list w a' [] (by simp)
      · rw [Fo hc]; exact q4
    have rC:jD l=(l.map (fun b=>(b.toNat:Int))).map (Value.int .u8):=by simp [jD]
    rw [rC] at yj
    rw [run_bytesToString w a' n c' _ yj,foldl_push_byteCells]
    have Qp:ByteArray.empty.data = #[]:=rfl
    rw [Qp]
    simp
  · simp at h
theorem MG {ρ:ao} {A B:St} {base:Nat} {w:World} {src dst e:TypeId} {x x' v:Value} (hs:jC ρ A base w) (h1:P.underlying src=some .string) (h2:P.underlying dst=some (.slice e)) (he:P.underlying e=some (.int .u8))
    (hx:VR ρ x x') (h:Dc A [x] = some (v,B)):∃ ak v' w',(convert src dst x').run P w = .ok v' w'∧VR ak v v'∧da base ρ A w ak B w':=by
  unfold Dc at h
  split at h
  · rename_i s e1
    simp at e1; subst e1
    simp at h
    obtain ⟨rfl,rfl⟩:=h
    have:=hx.nj
    subst this
    have hr:=run_bytes_of_string (P:=P) w src dst e s h1 h2 he
    have Jp:=grownCap_ge w s.size 0 e
    have Zp:s.data.size=s.size:=rfl
    have Dp:(bytesRow s (grownCap w s.size 0 e)).size=grownCap w s.size 0 e:=by
      unfold bytesRow
      simp [Zp]
      omega
    have hdr:=da.drew (w:=w) hs
    have Mw:=OK (w:=w.drew) (n:=1) (aW:=A.next) (f:=0) (c:=bytesRow s (grownCap w s.size 0 e)) (fr:=((bytesRow s (grownCap w s.size 0 e)).size,(bytesRow s (grownCap w s.size 0 e)).size+1)) e rfl hdr.dz
      (SR s.data.toList) (fun v hv=>by
        obtain ⟨b,_,rfl⟩:=List.mem_map.1 hv
        rfl) (fun j v hj=>by
        unfold bytesRow
        have aL:j < s.data.size:=by
          have:=(List.getElem?_eq_some_iff.1 hj).1
          simpa [jD] using this
        rw [Array.getElem?_append_left (by simpa using aL)]
        simpa [jD] using hj) (by rw [Dp]; simp [jD,Zp]; exact Jp) (Nat.le_refl _)
    refine ⟨_,_,_,hr,?_,hdr.trans Mw⟩
    simp only [VR]
    refine ⟨trivial,Nat.le_refl _,_,⟨w.heap.size,0,none⟩,grownCap w s.size 0 e,ao.jF _ _ _,Jp,fun _=>rfl,?_,rfl⟩
    rw [Dp]
    show 0+0+grownCap w s.size 0 e * 1≤grownCap w s.size 0 e
    omega
  · simp at h
theorem ac9 {src dst:TypeId} {x:Operand} (ho:o.op = .convert src dst x):fC P o (xC P src dst x):=by
  unfold xC
  split
  · rename_i e h1 h2
    cases hb:isByte P e with
    | false=>exact True.intro
    | true=>
      rw [cond_true]
      intro ρ A base w ev cr v hs he hf
      obtain ⟨h3,h4⟩:=MF hs h1 h2 (Qo hb) (he x (by simp)) hf
      exact ⟨v,h3,by simp [execOp,ho,h4]⟩
  · rename_i e h1 h2
    cases hb:isByte P e with
    | false=>exact True.intro
    | true=>
      rw [cond_true]
      intro ρ A B base w ev cr v hs he hf
      obtain ⟨ak,v',w',h3,h4,h5⟩:=MG hs h1 h2 (Qo hb) (he x (by simp)) hf
      exact ⟨ak,v',.value v',w',by simp [execOp,ho,h3],rfl,h4,h5⟩
  · rename_i h1 h2
    intro ρ ev cr v he hf
    simp only [List.map] at hf
    unfold PM at hf
    split at hf
    · rename_i s e
      simp at e hf
      subst hf
      have hx:=he x (by simp)
      rw [e] at hx
      refine ⟨_,VR.of_flat rfl,fun w=>?_⟩
      simp [execOp,ho,convert,bb h1,bb h2,hx.nj]
    · simp at hf
  · exact W5 ho
theorem SS {ρ:ao} {A:St} {base:Nat} {w:World} {r:Nat} {s:List UInt8} {pos KG:Nat} {l:Loc} (hs:jC ρ A base w) (hg:A.get r=some (.iter s pos)) (gL:ρ r=some l) :
    da base ρ A w ρ (A.put r (.iter s KG)) { w with heap:=w.heap.setIfInBounds l.cb (.stringIter ⟨⟨s⟩⟩ KG) }:=by
  obtain ⟨l',ka,ok⟩:=hs.rel.iter _ _ _ hg
  rw [gL] at ka; simp at ka; subst ka
  obtain ⟨Et,mc⟩:=ok.j7
  have aL:l.cb < w.heap.size:=(Array.getElem?_eq_some_iff.1 mc).1
  have vh:bD.cG (.iter s pos)=true:=rfl
  have hold:∀ k,k≠l.cb→(w.heap.setIfInBounds l.cb (.stringIter ⟨⟨s⟩⟩ KG))[k]? = w.heap[k]?:=fun k hk=>by
    rw [Array.getElem?_setIfInBounds_ne (Ne.symm hk)]
  have du:(w.heap.setIfInBounds l.cb (.stringIter ⟨⟨s⟩⟩ KG)).size=w.heap.size:=by simp
  have hB:∀ x,(A.put r (.iter s KG)).get x=if x=r then some (.iter s KG) else A.get x:=fun x=>St.bO _ _ _ _
  have hmd:∀ o:bD,o.cG=true→o≠.dead:=by intro o h e; subst e; simp [bD.cG] at h
  have Fk:∀ x o l2,x≠r→A.get x=some o→o≠.dead→ρ x=some l2→pr ρ base w l2 o→l2.cb≠l.cb:=by
    intro x o l2 hx fa hd n7 fY e
    cases Ft:o.cG with
    | true=>
      obtain ⟨_,_,_,_,e1,_⟩:=hs.rel.apart x r o _ l2 l hx fa hg Ft vh n7 gL e
      simp [bD.jb] at e1
    | false=>
      cases o with
      | row cs bm own bo=>
        have fY:wz ρ base w l2 cs bm own bo:=fY
        have h1:own=false:=Ft
        have:=fY.nA h1
        have:=ok.cG
        omega
      | map _=>simp [bD.cG] at Ft
      | iter _ _=>simp [bD.cG] at Ft
      | dead=>exact hd rfl
      | loop _ _ _ _ _ _=>simp [bD.cG] at Ft
  refine ⟨⟨.rZ ?_ ?_ ?_,fun b l2 h=>hs.gk b l2 h,by simpa using hs.size,hs.mS⟩,fun _ _=>rfl,⟨rfl,rfl,rfl,Nat.le_of_eq du.symm,fun k hk hn=>hold k (fun e=>hn ⟨r,_,l,hg,vh,gL,e.symm⟩)⟩,Nat.le_refl _,Nat.min_le_left _ _,fun x hx Zc=>?_,?_⟩
  · intro x o fa hd
    rw [hB] at fa
    split at fa
    · rename_i e; subst e; simp at fa; subst fa
      refine ⟨l,gL,ok.cG,Et,?_⟩
      show (w.heap.setIfInBounds l.cb (.stringIter ⟨⟨s⟩⟩ KG))[l.cb]? = _
      rw [Array.getElem?_setIfInBounds_self_of_lt aL]
    · rename_i e
      obtain ⟨l2,n7,fY⟩:=hs.rel.obj fa hd
      exact ⟨l2,n7,fY.gY (ao.le_refl _) (hold _ (Fk x o l2 e fa hd n7 fY)) (Nat.le_of_eq du.symm)⟩
  · have Fl:∀ x o,(A.put r (.iter s KG)).get x=some o→o.cG=true→∃ o',A.get x=some o'∧o'.cG=true∧o'.jb=o.jb:=by
      intro x o hx hm
      rw [hB] at hx
      split at hx
      · rename_i e; subst e; simp at hx; subst hx; exact ⟨_,hg,rfl,rfl⟩
      · exact ⟨o,hx,hm,rfl⟩
    intro b1 b2 o1 o2 l1 l2 bR g1 g2 m1 m2 r1 r2 xG
    obtain ⟨p1,q1,n1,k1⟩:=Fl _ _ g1 m1
    obtain ⟨p2,q2,n2,k2⟩:=Fl _ _ g2 m2
    rw [← k1,← k2]
    exact hs.rel.apart b1 b2 p1 p2 l1 l2 bR q1 q2 n1 n2 r1 r2 xG
  · intro x o aW f fa hk
    rw [hB] at fa
    split at fa
    · rename_i e; subst e; simp at fa; subst fa; simp [bD.jb] at hk
    · exact hs.rel.ba x o aW f fa hk
  · rw [St.Ku] at Zc
    have:Nat.min A.low r≤r:=Nat.min_le_right _ _
    rw [hB,if_neg (by omega)]
  · rintro k hk ⟨x,o,l2,fa,hm,n7,rfl⟩
    rw [hB] at fa
    split at fa
    · rename_i e; subst e
      rw [gL] at n7; simp at n7; subst n7
      exact ⟨x,_,l,hg,vh,gL,rfl⟩
    · exact ⟨x,o,l2,fa,hm,n7,rfl⟩
theorem abP {t:TypeId} {x:Operand} (ho:o.op = .range t x):fC P o (Mp P t x):=by
  unfold Mp
  split
  · rename_i hu
    intro ρ ev cr obj mk he hf
    simp only [List.map] at hf
    unfold aao at hf
    split at hf
    · rename_i s e
      simp at e
      have hx:=he x (by simp)
      rw [e] at hx
      have hx:=hx.nj
      simp at hf
      obtain ⟨rfl,rfl⟩:=hf
      refine ⟨.stringIter s 0,fun n=>.pointer (some ⟨n,0,none⟩),?_,fun w=>?_,fun ak n cb h=>VR.tU (a:=⟨n,0,none⟩) rfl h⟩
      · show Obj.stringIter s 0 = .stringIter ⟨⟨s.data.toList⟩⟩ 0
        rfl
      · simp [execOp,ho,Instr.range,bb hu,hx]
    · simp at hf
  · trivial
theorem Cd {w:World} {r:Nat} {s:ByteArray} {pos:Nat} (hb:w.heap[r]? = some (.stringIter s pos)):(getObj r).run P w = .ok (.stringIter s pos) w:=by
  simp [getObj,Sem.run,hb]
theorem MH {w:World} {r:Nat} {s:ByteArray} {pos:Nat} (o:Obj) (hb:w.heap[r]? = some (.stringIter s pos)):(setObj r o).run P w = .ok () { w with heap:=w.heap.setIfInBounds r o }:=by
  simp [setObj,Sem.run,hb]
theorem ada {it:Operand} {b:Bool} (ho:o.op = .next it b):fC P o (cond b (.act YV [it]) .bad):=by
  cases b with
  | false=>trivial
  | true=>
    rw [cond_true]
    intro ρ A B base w ev cr v hs he hf
    simp only [List.map] at hf
    unfold YV at hf
    split at hf
    · rename_i a e
      simp at e
      have hx:=he it (by simp)
      rw [e] at hx
      obtain ⟨qt,l,hl,hx⟩:=hx.gG
      cases ha0:Nat.beq a.off 0 with
      | false=>rw [ha0] at hf; simp at hf
      | true=>
        rw [ha0,cond_true] at hf
        have ha0:=Nat.eq_of_beq_eq_true ha0
        split at hf
        · rename_i s pos hg
          obtain ⟨l2,kK,ok⟩:=hs.rel.iter _ _ _ hg
          rw [hl] at kK; simp at kK; subst kK
          obtain ⟨Et,mc⟩:=ok.j7
          have du:(⟨⟨s⟩⟩:ByteArray).size=s.length:=rfl
          rw [Et,ha0] at hx
          cases aL:Nat.blt pos s.length with
          | true=>
            rw [aL,cond_true] at hf
            rw [Nat.blt_eq] at aL
            split at hf
            rename_i c width ag1
            simp at hf
            obtain ⟨rfl,rfl⟩:=hf
            refine ⟨ρ,.tuple #[.bool true,.int .i64 (Int.ofNat pos),.int .i32 c],.value _,_,?_,rfl,VR.of_flat rfl,SS (KG:=pos+width) hs hg hl⟩
            simp [execOp,ho,Instr.next,hx,Cd mc,du,aL,ag1,MH _ mc,goInt]
          | false=>
            rw [aL,cond_false] at hf
            have Jp : ¬ pos < s.length:=fun h=>by rw [← Nat.blt_eq] at h; rw [h] at aL; simp at aL
            simp at hf
            obtain ⟨rfl,rfl⟩:=hf
            refine ⟨ρ,.tuple #[.bool false],.value _,w,?_,rfl,VR.of_flat rfl,.refl hs⟩
            simp [execOp,ho,Instr.next,hx,Cd mc,du,Jp]
        · simp at hf
    · simp at hf
theorem mf (P:Program) (o:Oper):fC P o (compile P o.op):=by
  cases ho:o.op with
  | move x=>exact acY ho
  | assign x=>exact Ze ho
  | pick c a b=>exact acZ ho
  | alloc t=>exact abE ho
  | box t x=>exact aeY ho
  | build t parts=>exact abJ ho
  | buildSlice t len parts=>exact Qc ho
  | load t a=>exact ac0 ho
  | store t a x=>exact abF ho
  | nilCheck x=>exact UU ho
  | binOp op t x y yt=>exact aeZ ho
  | unOp op t x=>exact agl ho
  | convert src dst x=>exact ac9 ho
  | makeFunc fn first cap=>exact UW ho
  | fieldAddr s x f=>exact SL ho
  | field t x f=>exact abG ho
  | indexAddr t x ix=>exact SM ho
  | index t x ix=>exact abH ho
  | extract t i=>exact W6 ho
  | slice t x lo hi mx=>exact ok_slice ho
  | makeSlice t l c=>exact SQ ho
  | makeInterface t x=>exact abL ho
  | range t x=>exact abP ho
  | next it b=>exact ada ho
  | makeMap t r=>exact Xa ho
  | lookup t x ix ok=>exact Zn ho
  | mapUpdate t m k x=>exact H9 (.inl ho)
  | insert t m k x=>exact H9 (.inr ho)
  | call c=>
    show fC P o (ta P c)
    unfold ta
    split
    · rename_i f hf; exact ac2 ho hf
    · rename_i b hb
      obtain ⟨callee,args,argTypes⟩:=c
      simp only at hb
      subst hb
      unfold xD
      split
      · exact ae2 ho
      · exact ae0 ho
      · exact ae1 ho
      · exact Zl ho
      · exact ac7 ho
      · exact Zo ho
      · exact abO ho
      · trivial
    · trivial
  | _=>trivial
end
end Go.av
end
section
namespace Go.av
noncomputable section
open Go
abbrev Fr (r:Option Nat):Fence:={ Fence.wide with round:=r }
mutual
theorem MI:∀ {v w:Value},m5 v w=true→v=w
  | .bool a,w,h=>by cases w <;> simp_all [m5]
  | .int k a,w,h=>by cases w <;> simp_all [m5]
  | .float k a,w,h=>by cases w <;> simp_all [m5]
  | .complex k a b,w,h=>by cases w <;> simp_all [m5]
  | .string a,w,h=>by
    cases w with
    | string b=>
      simp only [m5,decide_eq_true_eq] at h
      obtain ⟨⟨a⟩⟩:=a
      obtain ⟨⟨b⟩⟩:=b
      simp_all
    | _=>simp [m5] at h
  | .pointer a,w,h=>by cases w <;> simp_all [m5]
  | .slice a n c,w,h=>by cases w <;> simp_all [m5]
  | .map a,w,h=>by cases w <;> simp_all [m5]
  | .chan a,w,h=>by cases w <;> simp [m5] at h
  | .func fn f c,w,h=>by
    cases w with
    | func gn g d=>
      simp only [m5,Bool.and_eq_true,decide_eq_true_eq] at h
      rw [h.1.1,Hb h.1.2,Hb h.2]
    | _=>simp [m5] at h
  | .nilFunc,w,h=>by cases w <;> simp_all [m5]
  | .iface t v,w,h=>by
    cases w with
    | iface u x=>
      simp only [m5,Bool.and_eq_true,beq_iff_eq] at h
      rw [h.1,MI h.2]
    | _=>simp [m5] at h
  | .nilIface,w,h=>by cases w <;> simp_all [m5]
  | .agg a,w,h=>by
    cases w with
    | agg b=>simp only [m5] at h; rw [Hb h]
    | _=>simp [m5] at h
  | .tuple a,w,h=>by
    cases w with
    | tuple b=>simp only [m5] at h; rw [Hb h]
    | _=>simp [m5] at h
theorem Hb:∀ {v w:Array Value},Mr v w=true→v=w
  | ⟨l⟩,⟨m⟩,h=>by simp only [Mr] at h; rw [TH h]
theorem TH:∀ {v w:List Value},Ms v w=true→v=w
  | [],w,h=>by cases w <;> simp_all [Ms]
  | x :: l,w,h=>by
    cases w with
    | nil=>simp [Ms] at h
    | cons y m=>
      simp only [Ms,Bool.and_eq_true] at h
      rw [MI h.1,TH h.2]
end
def ao.res (ρ:ao) (n:Nat):ao:=fun b=>if b < n then ρ b else none
theorem ao.U4 (ρ:ao) (n:Nat):(ρ.res n).le ρ:=fun b l h=>by unfold ao.res at h; split at h <;> simp_all
theorem ao.r6 (ρ:ao) {n m:Nat} (h:n≤m):(ρ.res n).le (ρ.res m):=fun b l e=>by
  unfold ao.res at e ⊢
  split at e
  · rw [if_pos (by omega)]; exact e
  · simp at e
theorem ao.xH {ρ ak:ao} (h:ρ.le ak) (n:Nat):(ρ.res n).le (ak.res n):=fun b l e=>by
  unfold ao.res at e ⊢
  split at e
  · rename_i hb; rw [if_pos hb]; exact h _ _ e
  · simp at e
theorem ao.KH {ρ:ao} {n b:Nat} {l:Loc} (h:ρ.res n b=some l):b < n∧ρ b=some l:=by
  unfold ao.res at h
  split at h
  · exact ⟨‹_›,h⟩
  · simp at h
theorem ao.tJ {ρ:ao} {n b:Nat} (h:b < n):ρ.res n b=ρ b:=by unfold ao.res; rw [if_pos h]
theorem Jk.under {ρ:ao} {n:Nat} {fn tg:Fn} (hu:UF n fn=true) (h:Jk ρ fn tg):Jk (ρ.res n) fn tg:=by
  cases fn with
  | yield r=>
    obtain ⟨l,h1,h2⟩:=h
    simp only [UF] at hu
    rw [Nat.blt_eq] at hu
    exact ⟨l,by rw [ao.tJ hu]; exact h1,h2⟩
  | _=>exact h
mutual
theorem VR.under {ρ:ao} {n:Nat} : ∀ {v v' : Value},av.under n v=true→VR ρ v v'→VR (ρ.res n) v v'
  | .bool b,v,_,hv=>by simpa [VR] using hv
  | .int k n,v,_,hv=>by simpa [VR] using hv
  | .float k x,v,_,hv=>by simpa [VR] using hv
  | .complex k x y,v,_,hv=>by simpa [VR] using hv
  | .string s,v,_,hv=>by simpa [VR] using hv
  | .pointer none,v,_,hv=>by simpa [VR] using hv
  | .pointer (some a),v,hu,hv=>by
    simp only [av.under] at hu
    rw [Nat.blt_eq] at hu
    simp only [VR] at hv ⊢
    rw [ao.tJ hu]
    exact hv
  | .slice none n c,v,_,hv=>by simpa [VR] using hv
  | .slice (some a) n c,v,hu,hv=>by
    simp only [av.under] at hu
    rw [Nat.blt_eq] at hu
    simp only [VR] at hv ⊢
    rw [ao.tJ hu]
    exact hv
  | .map none,v,_,hv=>by simpa [VR] using hv
  | .map (some r),v,hu,hv=>by
    simp only [av.under] at hu
    rw [Nat.blt_eq] at hu
    simp only [VR] at hv ⊢
    rw [ao.tJ hu]
    exact hv
  | .chan _,_,_,_=>by simp [VR]
  | .func fn f c,v,hu,hv=>by
    simp only [av.under,Bool.and_eq_true] at hu
    simp only [VR] at hv ⊢
    obtain ⟨f',c',h2,h3,tg,h4,h5⟩:=hv
    exact ⟨f',c',oX.under hu.1.2 h2,oX.under hu.2 h3,tg,Jk.under hu.1.1 h4,h5⟩
  | .nilFunc,v,_,hv=>by simpa [VR] using hv
  | .iface t x,v,hu,hv=>by
    simp only [av.under] at hu
    simp only [VR] at hv ⊢
    obtain ⟨x',h2,h3⟩:=hv
    exact ⟨x',VR.under hu h2,h3⟩
  | .nilIface,v,_,hv=>by simpa [VR] using hv
  | .agg cs,v,hu,hv=>by
    simp only [av.under] at hu
    simp only [VR] at hv ⊢
    obtain ⟨x',h2,h3⟩:=hv
    exact ⟨x',oX.under hu h2,h3⟩
  | .tuple cs,v,hu,hv=>by
    simp only [av.under] at hu
    simp only [VR] at hv ⊢
    obtain ⟨x',h2,h3⟩:=hv
    exact ⟨x',oX.under hu h2,h3⟩
theorem oX.under {ρ:ao} {n:Nat} : ∀ {v v' : Array Value},av.GY n v=true→oX ρ v v'→oX (ρ.res n) v v'
  | ⟨l⟩,a,hu,hv=>by simp only [av.GY] at hu; simp only [oX] at hv ⊢; exact cO.under hu hv
theorem cO.under {ρ:ao} {n:Nat} : ∀ {v v' : List Value},av.Pj n v=true→cO ρ v v'→cO (ρ.res n) v v'
  | [],l,_,hv=>by simpa [cO] using hv
  | x :: xs,l,hu,hv=>by
    simp only [av.Pj,Bool.and_eq_true] at hu
    simp only [cO] at hv ⊢
    obtain ⟨y,ys,e,h1,h2⟩:=hv
    exact ⟨y,ys,e,VR.under hu.1 h1,cO.under hu.2 h2⟩
end
theorem Dt {acc:List Nat} {j:Nat} : ∀ {es:List Edge},Nat.testBit (jS acc es) j=true→∃ e ∈ es,binds e=true∧(j=e.on∨dV acc e.on j=true)
  | [],h=>by simp [jS] at h
  | e :: es,h=>by
    simp only [jS] at h
    cases hb:binds e with
    | false=>
      rw [hb,cond_false] at h
      obtain ⟨e',h1,h2⟩:=Dt h
      exact ⟨e',by simp [h1],h2⟩
    | true=>
      rw [hb,cond_true] at h
      have e1:∀ a b:Nat,Nat.lor a b=a ||| b:=fun _ _=>rfl
      have e2:Nat.shiftLeft 1 e.on=1 <<< e.on:=rfl
      rw [e1,e1,e2,Nat.testBit_or,Nat.testBit_or,Bool.or_eq_true,Bool.or_eq_true] at h
      rcases h with (h | h) | h
      · refine ⟨e,by simp,hb,.inl ?_⟩
        rw [Nat.one_shiftLeft,Nat.testBit_two_pow] at h
        exact (of_decide_eq_true h).symm
      · exact ⟨e,by simp,hb,.inr h⟩
      · obtain ⟨e',h1,h2⟩:=Dt h
        exact ⟨e',by simp [h1],h2⟩
theorem Ay:∀ (os:List Oper) (acc:List Nat),∃ r,az acc os=acc ++ r∧r.length=os.length
  | [],acc=>⟨[],by simp [az]⟩
  | o :: os,acc=>by
    obtain ⟨r,h1,h2⟩:=Ay os (acc ++ [jS acc o.after.toList])
    exact ⟨jS acc o.after.toList :: r,by simp [az,h1],by simp [h2]⟩
theorem Hc:∀ (os:List Oper) (acc:List Nat) (i j:Nat) (o:Oper),os[i]? = some o→(∀ e ∈ o.after.toList,binds e=true→e.on < acc.length+i)→
    dV (az acc os) (acc.length+i) j=true→∃ e ∈ o.after.toList,binds e=true∧(j=e.on∨dV (az acc os) e.on j=true)
  | [],acc,i,j,o,ho,_,_=>by simp at ho
  | o0 :: os,acc,0,j,o,ho,hf,h=>by
    simp at ho
    subst ho
    obtain ⟨r,h1,_⟩:=Ay os (acc ++ [jS acc o0.after.toList])
    have e0:az acc (o0 :: os)=acc ++ [jS acc o0.after.toList] ++ r:=by simp only [az]; exact h1
    rw [e0] at h ⊢
    have e1:(acc ++ [jS acc o0.after.toList] ++ r).getD (acc.length+0) 0=jS acc o0.after.toList:=by simp [List.getD]
    unfold dV at h
    rw [e1] at h
    obtain ⟨e,h2,h3,h4⟩:=Dt h
    refine ⟨e,h2,h3,h4.imp id fun h5=>?_⟩
    have aL:=hf e h2 h3
    unfold dV at h5 ⊢
    have:(acc ++ [jS acc o0.after.toList] ++ r).getD e.on 0=acc.getD e.on 0:=by
      simp only [List.getD,List.append_assoc]
      rw [List.getElem?_append_left (by simpa using aL)]
    rw [this]
    exact h5
  | o0 :: os,acc,i+1,j,o,ho,hf,h=>by
    have hlen:(acc ++ [jS acc o0.after.toList]).length+i=acc.length+(i+1):=by simp; omega
    have:=Hc os (acc ++ [jS acc o0.after.toList]) i j o (by simpa using ho) (by rw [hlen]; exact hf) (by rw [hlen]; exact h)
    simpa only [az] using this
theorem KI {acc:List Nat} {e:Edge} : ∀ {es:List Edge},e ∈ es→binds e=true→Nat.testBit (jS acc es) e.on=true∧∀ k,dV acc e.on k=true→Nat.testBit (jS acc es) k=true
  | [],h,_=>by simp at h
  | x :: es,h,hb=>by
    have e1:∀ a b:Nat,Nat.lor a b=a ||| b:=fun _ _=>rfl
    have e2:∀ n,Nat.shiftLeft 1 n=1 <<< n:=fun _=>rfl
    simp only [jS]
    rcases List.mem_cons.1 h with rfl | h
    · rw [hb,cond_true]
      simp only [e1,e2,Nat.testBit_or,Bool.or_eq_true]
      refine ⟨.inl (.inl ?_),fun k hk=>.inl (.inr hk)⟩
      rw [Nat.one_shiftLeft,Nat.testBit_two_pow]
      simp
    · obtain ⟨h1,h2⟩:=KI h hb
      cases hx:binds x with
      | false=>rw [cond_false]; exact ⟨h1,h2⟩
      | true=>
        rw [cond_true]
        simp only [e1,e2,Nat.testBit_or,Bool.or_eq_true]
        exact ⟨.inr h1,fun k hk=>.inr (h2 k hk)⟩
theorem TI:∀ (os:List Oper) (acc:List Nat) (i:Nat) (o:Oper),os[i]? = some o→∀ e ∈ o.after.toList,binds e=true→e.on < acc.length+i→
    dV (az acc os) (acc.length+i) e.on=true∧∀ k,dV (az acc os) e.on k=true→dV (az acc os) (acc.length+i) k=true
  | [],acc,i,o,ho,_,_,_,_=>by simp at ho
  | o0 :: os,acc,0,o,ho,e,he,hb,aL=>by
    simp at ho
    subst ho
    obtain ⟨r,h1,_⟩:=Ay os (acc ++ [jS acc o0.after.toList])
    have e0:az acc (o0 :: os)=acc ++ [jS acc o0.after.toList] ++ r:=by simp only [az]; exact h1
    rw [e0]
    have e1:(acc ++ [jS acc o0.after.toList] ++ r).getD (acc.length+0) 0=jS acc o0.after.toList:=by simp [List.getD]
    have e2:(acc ++ [jS acc o0.after.toList] ++ r).getD e.on 0=acc.getD e.on 0:=by
      simp only [List.getD,List.append_assoc]
      rw [List.getElem?_append_left (by simpa using aL)]
    obtain ⟨h2,h3⟩:=KI (acc:=acc) he hb
    unfold dV
    rw [e1,e2]
    exact ⟨h2,fun k hk=>h3 k hk⟩
  | o0 :: os,acc,i+1,o,ho,e,he,hb,aL=>by
    have hlen:(acc ++ [jS acc o0.after.toList]).length+i=acc.length+(i+1):=by simp; omega
    have:=TI os (acc ++ [jS acc o0.after.toList]) i o (by simpa using ho) e he hb (by rw [hlen]; exact aL)
    rw [hlen] at this
    simpa only [az] using this
structure jg (P:Program) (all:List Oper):Prop where
  back:∀ i o,all[i]? = some o→∀ e ∈ o.after.toList,binds e=true→e.on < i
  apart:∀ i j x y,all[i]? = some y→all[j]? = some x→j < i→qN P all x y=true→dV (az [] all) i j=true
theorem Ia {P:Program} {all:List Oper} {b:List Nat} {i:Nat} {y:Oper} : ∀ (xs:List Oper) (k:Nat),BV P all b i y xs k=true→∀ (j:Nat) (x:Oper),xs[j]? = some x→k+j < i→qN P all x y=true→dV b i (k+j)=true
  | [],k,_,j,x,hx,_,_=>by simp at hx
  | x0 :: xs,k,h,0,x,hx,aL,hc=>by
    simp at hx
    subst hx
    simp only [BV,Bool.and_eq_true,Bool.or_eq_true,Bool.not_eq_true'] at h
    rcases h.1 with (h1 | h1) | h1
    · have:=Nat.le_of_ble_eq_true h1; omega
    · rw [hc] at h1; simp at h1
    · exact h1
  | x0 :: xs,k,h,j+1,x,hx,aL,hc=>by
    simp only [BV,Bool.and_eq_true] at h
    have:=Ia xs (k+1) h.2 j x (by simpa using hx) (by omega) hc
    rwa [show k+1+j=k+(j+1) by omega] at this
theorem tY {P:Program} {all:List Oper} {b:List Nat} : ∀ (os:List Oper) (k:Nat),tf P all b os k=true→∀ (i:Nat) (o:Oper),os[i]? = some o→
    (∀ e ∈ o.after.toList,binds e=true→e.on < k+i)∧BV P all b (k+i) o all 0=true
  | [],k,_,i,o,ho=>by simp at ho
  | o0 :: os,k,h,0,o,ho=>by
    simp at ho
    subst ho
    simp only [tf,Bool.and_eq_true,List.all_eq_true] at h
    refine ⟨fun e he hb=>?_,h.1.2⟩
    have:=h.1.1 e he
    rw [hb] at this
    simp at this
    exact this
  | o0 :: os,k,h,i+1,o,ho=>by
    simp only [tf,Bool.and_eq_true] at h
    have:=tY os (k+1) h.2 i o (by simpa using ho)
    rwa [show k+1+i=k+(i+1) by omega] at this
theorem qv {P:Program} {all:List Oper} (h:pj P all=true):jg P all:=by
  unfold pj at h
  refine ⟨fun i o ho=>?_,fun i j x y hy hx aL hc=>?_⟩
  · have:=(tY all 0 h i o ho).1
    simpa using this
  · have:=Ia all 0 (tY all 0 h i y hy).2 j x hx (by simpa using aL) hc
    simpa using this
theorem TJ {all:List Oper} {i j:Nat} (h:all[i]? = none):dV (az [] all) i j=false:=by
  obtain ⟨r,h1,h2⟩:=Ay all []
  rw [List.nil_append] at h1
  unfold dV
  rw [h1]
  have:r[i]? = none:=by
    rw [List.getElem?_eq_none_iff] at h ⊢
    omega
  simp [List.getD,this]
theorem KK {P:Program} {all:List Oper} (hf:jg P all):∀ {i j:Nat},dV (az [] all) i j=true→j < i:=by
  intro i
  induction i using Nat.strongRecOn with
  | _ i ih=>
    intro j h
    cases ho:all[i]? with
    | none=>rw [TJ ho] at h; simp at h
    | some o=>
      obtain ⟨e,h1,h2,h3⟩:=Hc all [] i j o ho (by simpa using hf.back i o ho) (by simpa using h)
      have aL:=hf.back i o ho e h1 h2
      rcases h3 with rfl | h3
      · exact aL
      · have:=ih e.on aL h3; omega
theorem Qq {P:Program} {all:List Oper} (hf:jg P all):∀ {i j k:Nat},dV (az [] all) i j=true→dV (az [] all) j k=true→dV (az [] all) i k=true:=by
  intro i
  induction i using Nat.strongRecOn with
  | _ i ih=>
    intro j k h hk
    cases ho:all[i]? with
    | none=>rw [TJ ho] at h; simp at h
    | some o=>
      obtain ⟨e,h1,h2,h3⟩:=Hc all [] i j o ho (by simpa using hf.back i o ho) (by simpa using h)
      have aL:=hf.back i o ho e h1 h2
      have Zq:=(TI all [] i o ho e h1 h2 (by simpa using aL)).2 k
      simp only [List.length_nil,Nat.zero_add] at Zq
      rcases h3 with rfl | h3
      · exact Zq hk
      · exact Zq (ih e.on aL h3 hk)
def ir (all:List Oper) (S:Nat→Bool):Prop:=∀ i j,S i=true→dV (az [] all) i j=true→S j=true
def ki (all:List Oper) (S:Nat→Bool) (i:Nat):Prop:=∀ o,all[i]? = some o→∀ e ∈ o.after.toList,binds e=true→S e.on=true
theorem ir.ready {P:Program} {all:List Oper} (hf:jg P all) {S:Nat→Bool} (hc:ir all S) {i:Nat} {o:Oper} (ho:all[i]? = some o) (hr:ki all S i):∀ j,dV (az [] all) i j=true→S j=true:=by
  intro j hj
  obtain ⟨e,h1,h2,h3⟩:=Hc all [] i j o ho (by simpa using hf.back i o ho) (by simpa using hj)
  have hs:=hr o ho e h1 h2
  rcases h3 with rfl | h3
  · exact hs
  · exact hc _ _ hs h3
def a9 (S:Nat→Bool) (i:Nat):Nat→Bool:=fun j=>S j || Nat.beq j i
theorem ir.insert {P:Program} {all:List Oper} (hf:jg P all) {S:Nat→Bool} (hc:ir all S) {i:Nat} {o:Oper} (ho:all[i]? = some o) (hr:ki all S i):ir all (a9 S i):=by
  intro a b h1 h2
  simp only [a9,Bool.or_eq_true] at h1 ⊢
  rcases h1 with h1 | h1
  · exact .inl (hc a b h1 h2)
  · have:=Nat.eq_of_beq_eq_true h1
    subst this
    exact .inl (hc.ready hf ho hr b h2)
theorem TK (e:Edge):Region.binds .any e=binds e:=by
  unfold Region.binds binds
  cases e.ground <;> rfl
theorem Az {all:List Oper} {ba:Array Bool} {i:Nat} (h:i ∈ Region.ready .any ⟨all⟩ ba):i < all.length∧ba.getD i true=false∧ki all (fun j=>ba.getD j false) i:=by
  unfold Region.ready at h
  rw [List.mem_filter,List.mem_range] at h
  obtain ⟨h1,h2⟩:=h
  simp only [Bool.and_eq_true,Bool.not_eq_true'] at h2
  refine ⟨by simpa using h1,h2.1,fun o ho e he hb=>?_⟩
  have e1:(⟨all⟩:Array Oper)[i]? = some o:=by simpa using ho
  rw [e1] at h2
  simp only [Option.map_some,Option.getD_some] at h2
  have:=Array.all_eq_true'.1 h2.2 e (by simpa using he)
  rw [TK,hb] at this
  simpa using this
theorem Qr {P:Program} {all:List Oper} (hf:jg P all) {ba:Array Bool} (hl:ba.size=all.length) (h:Region.ready .any ⟨all⟩ ba = []):∀ i,i < all.length→ba.getD i false=true:=by
  intro i
  induction i using Nat.strongRecOn with
  | _ i ih=>
    intro hi
    cases hc:ba.getD i false with
    | true=>rfl
    | false=>
      exfalso
      obtain ⟨o,ho⟩:∃ o,all[i]? = some o:=⟨_,List.getElem?_eq_getElem hi⟩
      have hm:i ∈ Region.ready .any ⟨all⟩ ba:=by
        unfold Region.ready
        rw [List.mem_filter,List.mem_range]
        refine ⟨by simpa using hi,?_⟩
        have e1:(⟨all⟩:Array Oper)[i]? = some o:=by simpa using ho
        rw [e1]
        have e2:ba.getD i true=false:=by
          have:i < ba.size:=by omega
          simpa [Array.getD_eq_getD_getElem?,this] using hc
        simp only [e2,Bool.not_false,Bool.true_and,Option.map_some,Option.getD_some]
        rw [Array.all_eq_true']
        intro e he
        cases hb:binds e with
        | false=>rw [TK,hb]; rfl
        | true=>
          have aL:=hf.back i o ho e (by simpa using he) hb
          rw [ih e.on aL (by omega)]
          simp
      rw [h] at hm
      simp at hm
theorem count_set:∀ (l:List Bool) (i:Nat),l[i]? = some false→((l.set i true).filter (!·)).length+1=(l.filter (!·)).length
  | [],i,h=>by simp at h
  | x :: l,0,h=>by
    simp at h
    subst h
    simp
  | x :: l,i+1,h=>by
    have:=count_set l i (by simpa using h)
    cases x <;> simp at this ⊢ <;> omega
theorem NN {P:Program} {all:List Oper} {r:Option Nat} (hf:jg P all) {Q:Exit→Act→World→Prop} (I:(Nat→Bool)→Act→World→Prop) (hI:∀ S S' a w,(∀ i,i < all.length→S i=S' i)→I S a w→I S' a w)
    (step:∀ S a w i o,I S a w→ir all S→all[i]? = some o→S i=false→ki all S i→(∀ j,S j=true→j < all.length)→wpOpIn (Fr r) 0 P ⟨all⟩ Q i (I (a9 S i)) a w)
    (fin:∀ S a w,(∀ i,i < all.length→S i=true)→I S a w→Q .normal a w) :
    ∀ (fuel:Nat) (ba:Array Bool) (a:Act) (w:World),ba.size=all.length→(ba.toList.filter (!·)).length=fuel→ir all (fun j=>ba.getD j false)→I (fun j=>ba.getD j false) a w→wpAnyIn (Fr r) 0 P .any ⟨all⟩ Q fuel ba a w
  | 0,ba,a,w,hs,hn,hc,h=>by
    have im:∀ i,i < all.length→ba.getD i false=true:=by
      intro i hi
      have:i < ba.size:=by omega
      cases hb:ba.getD i false with
      | true=>rfl
      | false=>
        exfalso
        have hg:ba[i] = false:=by simpa [Array.getD_eq_getD_getElem?,this] using hb
        have hm:ba[i] ∈ ba.toList.filter (!·):=by
          rw [List.mem_filter]
          exact ⟨by simp,by simp [hg]⟩
        rw [List.length_eq_zero_iff.1 hn] at hm
        simp at hm
    refine ⟨?_,fin _ a w im h⟩
    cases hr:Region.ready .any ⟨all⟩ ba with
    | nil=>rfl
    | cons i r=>
      have:=Az (all:=all) (ba:=ba) (i:=i) (by rw [hr]; simp)
      have h1:=im i this.1
      have h2:ba.getD i true=true:=by
        have aL:i < ba.size:=by omega
        simpa [Array.getD_eq_getD_getElem?,aL] using h1
      rw [h2] at this
      simp at this
  | fuel+1,ba,a,w,hs,hn,hc,h=>by
    refine ⟨fun hr=>fin _ a w (Qr hf hs hr) h,fun i hi=>?_⟩
    obtain ⟨aL,hl,jv⟩:=Az hi
    obtain ⟨o,ho⟩:∃ o,all[i]? = some o:=⟨_,List.getElem?_eq_getElem aL⟩
    have Ce:i < ba.size:=by omega
    have fP:ba.getD i false=false:=by simpa [Array.getD_eq_getD_getElem?,Ce] using hl
    have Qs:∀ j,j < all.length→a9 (fun j=>ba.getD j false) i j=(ba.setIfInBounds i true).getD j false:=by
      intro j hj
      by_cases e:j=i
      · subst e
        simp [a9,Array.getD_eq_getD_getElem?,Ce]
      · have:Nat.beq j i=false:=by
          cases hb:Nat.beq j i with
          | false=>rfl
          | true=>exact absurd (Nat.eq_of_beq_eq_true hb) e
        simp [a9,this,Array.getD_eq_getD_getElem?,Array.getElem?_setIfInBounds_ne (Ne.symm e)]
    refine wpOpIn_mono (fun a' w' h'=>?_) (step _ a w i o h hc ho fP jv (fun j hj=>by
      rcases Nat.lt_or_ge j all.length with h1 | h1
      · exact h1
      · have:ba.getD j false=false:=by
          rw [Array.getD_eq_getD_getElem?,Array.getElem?_eq_none (by omega)]
          rfl
        rw [this] at hj; simp at hj))
    refine NN hf I hI step fin fuel _ a' w' (by simpa using hs) ?_ ?_ (hI _ _ a' w' Qs h')
    · rw [Array.toList_setIfInBounds]
      have:=count_set ba.toList i (by simpa [Array.getD_eq_getD_getElem?,Ce] using fP)
      omega
    · intro x y hx hy
      have hb:∀ z,(ba.setIfInBounds i true).getD z false=true ↔ a9 (fun j=>ba.getD j false) i z=true:=by
        intro z
        rcases Nat.lt_or_ge z all.length with h1 | h1
        · rw [Qs z h1]
        · have e1:(ba.setIfInBounds i true).getD z false=false:=by
            rw [Array.getD_eq_getD_getElem?,Array.getElem?_eq_none (by simp; omega)]
            rfl
          have e2:ba.getD z false=false:=by
            rw [Array.getD_eq_getD_getElem?,Array.getElem?_eq_none (by omega)]
            rfl
          have e3:Nat.beq z i=false:=by
            cases hb:Nat.beq z i with
            | false=>rfl
            | true=>have:=Nat.eq_of_beq_eq_true hb; omega
          simp [a9,e1,e2,e3]
      rw [hb] at hx ⊢
      exact hc.insert hf ho jv x y hx hy
theorem yN {P:Program} {all:List Oper} (hf:jg P all) {Q:Exit→Act→World→Prop} (I:(Nat→Bool)→Act→World→Prop) (hI:∀ S S' a w,(∀ i,i < all.length→S i=S' i)→I S a w→I S' a w)
    (step:∀ S a w i o,I S a w→ir all S→all[i]? = some o→S i=false→ki all S i→(∀ j,S j=true→j < all.length)→wpOp P ⟨all⟩ Q i (I (a9 S i)) a w)
    (fin:∀ S a w,(∀ i,i < all.length→S i=true)→I S a w→Q .normal a w) :
    ∀ (fuel:Nat) (ba:Array Bool) (a:Act) (w:World),ba.size=all.length→(ba.toList.filter (!·)).length=fuel→ir all (fun j=>ba.getD j false)→I (fun j=>ba.getD j false) a w→wpAny P .any ⟨all⟩ Q fuel ba a w
  | 0,ba,a,w,hs,hn,hc,h=>by
    have im:∀ i,i < all.length→ba.getD i false=true:=by
      intro i hi
      have:i < ba.size:=by omega
      cases hb:ba.getD i false with
      | true=>rfl
      | false=>
        exfalso
        have hg:ba[i] = false:=by simpa [Array.getD_eq_getD_getElem?,this] using hb
        have hm:ba[i] ∈ ba.toList.filter (!·):=by
          rw [List.mem_filter]
          exact ⟨by simp,by simp [hg]⟩
        rw [List.length_eq_zero_iff.1 hn] at hm
        simp at hm
    refine ⟨?_,fin _ a w im h⟩
    cases hr:Region.ready .any ⟨all⟩ ba with
    | nil=>rfl
    | cons i r=>
      have:=Az (all:=all) (ba:=ba) (i:=i) (by rw [hr]; simp)
      have h1:=im i this.1
      have h2:ba.getD i true=true:=by
        have aL:i < ba.size:=by omega
        simpa [Array.getD_eq_getD_getElem?,aL] using h1
      rw [h2] at this
      simp at this
  | fuel+1,ba,a,w,hs,hn,hc,h=>by
    refine ⟨fun hr=>fin _ a w (Qr hf hs hr) h,fun i hi=>?_⟩
    obtain ⟨aL,hl,jv⟩:=Az hi
    obtain ⟨o,ho⟩:∃ o,all[i]? = some o:=⟨_,List.getElem?_eq_getElem aL⟩
    have Ce:i < ba.size:=by omega
    have fP:ba.getD i false=false:=by simpa [Array.getD_eq_getD_getElem?,Ce] using hl
    have Qs:∀ j,j < all.length→a9 (fun j=>ba.getD j false) i j=(ba.setIfInBounds i true).getD j false:=by
      intro j hj
      by_cases e:j=i
      · subst e
        simp [a9,Array.getD_eq_getD_getElem?,Ce]
      · have:Nat.beq j i=false:=by
          cases hb:Nat.beq j i with
          | false=>rfl
          | true=>exact absurd (Nat.eq_of_beq_eq_true hb) e
        simp [a9,this,Array.getD_eq_getD_getElem?,Array.getElem?_setIfInBounds_ne (Ne.symm e)]
    refine wpOp_mono (fun a' w' h'=>?_) (step _ a w i o h hc ho fP jv (fun j hj=>by
      rcases Nat.lt_or_ge j all.length with h1 | h1
      · exact h1
      · have:ba.getD j false=false:=by
          rw [Array.getD_eq_getD_getElem?,Array.getElem?_eq_none (by omega)]
          rfl
        rw [this] at hj; simp at hj))
    refine yN hf I hI step fin fuel _ a' w' (by simpa using hs) ?_ ?_ (hI _ _ a' w' Qs h')
    · rw [Array.toList_setIfInBounds]
      have:=count_set ba.toList i (by simpa [Array.getD_eq_getD_getElem?,Ce] using fP)
      omega
    · intro x y hx hy
      have hb:∀ z,(ba.setIfInBounds i true).getD z false=true ↔ a9 (fun j=>ba.getD j false) i z=true:=by
        intro z
        rcases Nat.lt_or_ge z all.length with h1 | h1
        · rw [Qs z h1]
        · have e1:(ba.setIfInBounds i true).getD z false=false:=by
            rw [Array.getD_eq_getD_getElem?,Array.getElem?_eq_none (by simp; omega)]
            rfl
          have e2:ba.getD z false=false:=by
            rw [Array.getD_eq_getD_getElem?,Array.getElem?_eq_none (by omega)]
            rfl
          have e3:Nat.beq z i=false:=by
            cases hb:Nat.beq z i with
            | false=>rfl
            | true=>have:=Nat.eq_of_beq_eq_true hb; omega
          simp [a9,e1,e2,e3]
      rw [hb] at hx ⊢
      exact hc.insert hf ho jv x y hx hy
end
end Go.av
end
section
namespace Go.av
noncomputable section
open Go
def mg (all:List Oper) (i:Nat):Option Tmp:=(all[i]?).bind (·.dst)
def rE (all:List Oper) (t0:Tm):List Rec→Tm
  | []=>t0
  | r :: R=>u5 (rE all t0 R) (mg all r.i) r.v
def Valid (P:Program) (call:db) (all:List Oper) (A0:St) (t0:Tm):List Rec→Prop
  | []=>True
  | r :: R=>Valid P call all A0 t0 R∧r.i=R.length∧∃ o,all[R.length]? = some o∧u9 P call (az [] all) all A0 R R.length (rE all t0 R) o=some r
theorem abQ {call:db} {b:List Nat} {A0:St} {R:List Rec} {i:Nat} {t:Tm} {ins:rV} {r:Rec} (h:je call b A0 R i t ins=some r):r.i=i:=by
  cases ins with
  | pure f xs=>simp only [je] at h; obtain ⟨v,_,rfl⟩:=Option.map_eq_some_iff.1 h; rfl
  | read f xs=>simp only [je] at h; obtain ⟨v,_,rfl⟩:=Option.map_eq_some_iff.1 h; rfl
  | make f xs=>simp only [je] at h; obtain ⟨v,_,rfl⟩:=Option.map_eq_some_iff.1 h; rfl
  | act f xs=>
    simp only [je] at h
    obtain ⟨v,_,h⟩:=Option.bind_eq_some_iff.1 h
    cases hb:Nat.ble (fK A0 R) v.2.next <;> rw [hb] at h <;> simp at h
    subst h; rfl
  | call f xs=>
    simp only [je] at h
    obtain ⟨p,_,h⟩:=Option.bind_eq_some_iff.1 h
    obtain ⟨v,_,h⟩:=Option.bind_eq_some_iff.1 h
    cases hb:Nat.ble (fK A0 R) v.2.next <;> rw [hb] at h <;> simp at h
    subst h; rfl
  | bad=>simp [je] at h
theorem ae3 {P:Program} {call:db} {b:List Nat} {all:List Oper} {A0:St} {R:List Rec} {i:Nat} {t:Tm} {o:Oper} {r:Rec} (h:u9 P call b all A0 R i t o=some r):r.i=i:=by
  unfold u9 at h
  obtain ⟨wd,_,h⟩:=Option.bind_eq_some_iff.1 h
  cases wd with
  | true=>exact abQ h
  | false=>simp at h; subst h; rfl
theorem KL {P:Program} {call:db} {all:List Oper} {A0:St} {t0:Tm} : ∀ (os:List Oper) (R R' : List Rec) (t' : Tm),all.drop R.length=os→Valid P call all A0 t0 R→
    tH P call (az [] all) all A0 os R.length R (rE all t0 R)=some (R',t')→Valid P call all A0 t0 R'∧t' = rE all t0 R'∧R'.length=R.length+os.length
  | [],R,R',t',_,hv,h=>by
    simp only [tH,Option.some.injEq,Prod.mk.injEq] at h
    obtain ⟨rfl,rfl⟩:=h
    exact ⟨hv,rfl,by simp⟩
  | o :: os,R,R',t',hd,hv,h=>by
    simp only [tH] at h
    obtain ⟨r,hr,h⟩:=Option.bind_eq_some_iff.1 h
    have ho:all[R.length]? = some o:=by
      have:(all.drop R.length)[0]? = some o:=by rw [hd]; rfl
      rw [List.getElem?_drop] at this
      simpa using this
    have hi:=ae3 hr
    have zw:all.drop (R.length+1)=os:=by rw [← List.drop_drop,hd]; rfl
    have:=KL os (r :: R) R' t' (by simpa using zw) ⟨hv,hi,o,ho,hr⟩ (by
      have e:rE all t0 (r :: R)=u5 (rE all t0 R) o.dst r.v:=by simp [rE,mg,hi,ho]
      rw [e]
      exact h)
    refine ⟨this.1,this.2.1,?_⟩
    rw [this.2.2]
    simp
    omega
theorem Valid.at {P:Program} {call:db} {all:List Oper} {A0:St} {t0:Tm} : ∀ {R:List Rec} {r:Rec},Valid P call all A0 t0 R→r ∈ R→
    ∃ R0 R1,R=R1 ++ r :: R0∧Valid P call all A0 t0 R0∧r.i=R0.length∧∃ o,all[r.i]? = some o∧u9 P call (az [] all) all A0 R0 r.i (rE all t0 R0) o=some r
  | [],r,_,h=>by simp at h
  | x :: R,r,hv,h=>by
    obtain ⟨h1,h2,o,h3,h4⟩:=hv
    rcases List.mem_cons.1 h with rfl | h
    · exact ⟨R,[],rfl,h1,h2,o,by rw [h2]; exact h3,by rw [h2]; exact h4⟩
    · obtain ⟨R0,R1,e,h5,h6,h7⟩:=Valid.at h1 h
      exact ⟨R0,x :: R1,by rw [e]; rfl,h5,h6,h7⟩
theorem Valid.lt {P:Program} {call:db} {all:List Oper} {A0:St} {t0:Tm} {R:List Rec} (hv:Valid P call all A0 t0 R):∀ {r:Rec},r ∈ R→r.i < R.length:=by
  intro r hr
  obtain ⟨R0,R1,e,_,h,_⟩:=hv.at hr
  rw [e,h]
  simp
  omega
theorem Valid.get {P:Program} {call:db} {all:List Oper} {A0:St} {t0:Tm} : ∀ {R:List Rec},Valid P call all A0 t0 R→∀ {i:Nat},i < R.length→∃ r ∈ R,r.i=i
  | [],_,i,h=>by simp at h
  | x :: R,hv,i,h=>by
    obtain ⟨h1,h2,_⟩:=hv
    by_cases e:i=R.length
    · exact ⟨x,by simp,by rw [h2,e]⟩
    · obtain ⟨r,hr,he⟩:=Valid.get h1 (i:=i) (by simp at h; omega)
      exact ⟨r,by simp [hr],he⟩
theorem Valid.inj {P:Program} {call:db} {all:List Oper} {A0:St} {t0:Tm} : ∀ {R:List Rec},Valid P call all A0 t0 R→∀ {r s:Rec},r ∈ R→s ∈ R→r.i=s.i→r=s
  | [],_,r,s,h,_,_=>by simp at h
  | x :: R,hv,r,s,hr,hs,e=>by
    obtain ⟨h1,h2,_⟩:=hv
    rcases List.mem_cons.1 hr with hr | Qt
    · rcases List.mem_cons.1 hs with hs | Zr
      · rw [hr,hs]
      · have:=Valid.lt h1 Zr; rw [hr] at e; omega
    · rcases List.mem_cons.1 hs with hs | Zr
      · have:=Valid.lt h1 Qt; rw [hs] at e; omega
      · exact Valid.inj h1 Qt Zr e
theorem Fw {P:Program} {call:db} {b:List Nat} {all:List Oper} {A0:St} {R:List Rec} {i:Nat} {t:Tm} {o:Oper} {r:Rec} (h:u9 P call b all A0 R i t o=some r) :
    fK A0 R≤r.nx∧(∀ id ob,r.jH = .make id ob→id=fK A0 R∧r.nx=id+1)∧(∀ B,r.jH = .act B→r.nx=B.next)∧((∀ B,r.jH≠.act B)→(∀ id ob,r.jH≠.make id ob)→r.nx=fK A0 R):=by
  unfold u9 at h
  obtain ⟨wd,_,h⟩:=Option.bind_eq_some_iff.1 h
  cases wd with
  | false=>simp at h; subst h; simp
  | true=>
    rw [cond_true] at h
    generalize compile P o.op=ins at h
    cases ins with
    | pure f xs=>simp only [je] at h; obtain ⟨v,_,rfl⟩:=Option.map_eq_some_iff.1 h; simp
    | read f xs=>simp only [je] at h; obtain ⟨v,_,rfl⟩:=Option.map_eq_some_iff.1 h; simp
    | make f xs=>simp only [je] at h; obtain ⟨v,_,rfl⟩:=Option.map_eq_some_iff.1 h; simp
    | act f xs=>
      simp only [je] at h
      obtain ⟨v,_,h⟩:=Option.bind_eq_some_iff.1 h
      cases hb:Nat.ble (fK A0 R) v.2.next <;> rw [hb] at h <;> simp at h
      subst h
      simpa using Nat.le_of_ble_eq_true hb
    | call f xs=>
      simp only [je] at h
      obtain ⟨p,_,h⟩:=Option.bind_eq_some_iff.1 h
      obtain ⟨v,_,h⟩:=Option.bind_eq_some_iff.1 h
      cases hb:Nat.ble (fK A0 R) v.2.next <;> rw [hb] at h <;> simp at h
      subst h
      simpa using Nat.le_of_ble_eq_true hb
    | bad=>simp [je] at h
theorem Valid.xI {P:Program} {call:db} {all:List Oper} {A0:St} {t0:Tm} : ∀ {R:List Rec},Valid P call all A0 t0 R→A0.next≤fK A0 R
  | [],_=>Nat.le_refl _
  | x :: R,hv=>by
    obtain ⟨h1,h2,o,h3,h4⟩:=hv
    have:=(Fw h4).1
    exact Nat.le_trans (Valid.xI h1) this
theorem Valid.qw {P:Program} {call:db} {all:List Oper} {A0:St} {t0:Tm} : ∀ {R:List Rec},Valid P call all A0 t0 R→∀ {r:Rec},r ∈ R→r.nx≤fK A0 R
  | [],_,r,h=>by simp at h
  | x :: R,hv,r,hr=>by
    obtain ⟨h1,h2,o,h3,h4⟩:=hv
    rcases List.mem_cons.1 hr with rfl | hr
    · exact Nat.le_refl _
    · exact Nat.le_trans (Valid.qw h1 hr) (Fw h4).1
theorem Valid.order {P:Program} {call:db} {all:List Oper} {A0:St} {t0:Tm} {R:List Rec} (hv:Valid P call all A0 t0 R) {r s:Rec} (hr:r ∈ R) (hs:s ∈ R) (aL:r.i < s.i) :
    ∃ R0,(∃ o,u9 P call (az [] all) all A0 R0 s.i (rE all t0 R0) o=some s)∧r.nx≤fK A0 R0:=by
  obtain ⟨R0,R1,e,h5,h6,o,h7,h8⟩:=hv.at hs
  refine ⟨R0,⟨o,h8⟩,?_⟩
  have hm:r ∈ R0:=by
    obtain ⟨r',vZ,zv⟩:=h5.get (i:=r.i) (by omega)
    have:r=r':=hv.inj hr (by rw [e]; simp [vZ]) zv.symm
    rw [this]; exact vZ
  exact h5.qw hm
end
end Go.av
end
section
namespace Go.av
noncomputable section
open Go
def jK (r:Rec):Prop:=∃ B,r.jH = .act B
theorem uE:∀ {R:List Rec} {e:Nat},R.Pairwise (fun x y=>y.i < x.i)→eM R=some e→∃ r ∈ R,r.i=e∧jK r∧∀ s ∈ R,jK s→s.i≤e
  | [],e,_,h=>by simp [eM] at h
  | r :: R,e,hp,h=>by
    rw [List.pairwise_cons] at hp
    simp only [eM] at h
    split at h
    · rename_i B hB
      simp at h; subst h
      refine ⟨r,by simp,rfl,⟨B,hB⟩,fun s hs _=>?_⟩
      rcases List.mem_cons.1 hs with rfl | hs
      · exact Nat.le_refl _
      · exact Nat.le_of_lt (hp.1 s hs)
    · rename_i hn
      obtain ⟨x,hx,h1,h2,h3⟩:=uE hp.2 h
      refine ⟨x,by simp [hx],h1,h2,fun s hs ha=>?_⟩
      rcases List.mem_cons.1 hs with rfl | hs
      · obtain ⟨B,hB⟩:=ha; exact absurd hB (hn B)
      · exact h3 s hs ha
theorem Fx:∀ {R:List Rec},eM R=none→∀ s ∈ R,¬ jK s
  | [],_,s,hs,_=>by simp at hs
  | r :: R,h,s,hs,ha=>by
    simp only [eM] at h
    split at h
    · simp at h
    · rename_i hn
      rcases List.mem_cons.1 hs with rfl | hs
      · obtain ⟨B,hB⟩:=ha; exact hn B hB
      · exact Fx h s hs ha
theorem zx {A0:St} {e:Nat} : ∀ {R:List Rec} {r:Rec} {B:St},(∀ s ∈ R,s.i=e→s=r)→r ∈ R→r.i=e→r.jH = .act B→De A0 e R=B
  | [],r,B,_,h,_,_=>by simp at h
  | x :: R,r,B,hu,hr,he,hB=>by
    simp only [De]
    by_cases hx:x.i=e
    · have:=hu x (by simp) hx
      subst this
      rw [hB]
      simp [hx]
    · have vZ:r ∈ R:=by
        rcases List.mem_cons.1 hr with rfl | h
        · exact absurd he hx
        · exact h
      have ih:=zx (A0:=A0) (fun s hs=>hu s (by simp [hs])) vZ he hB
      have hb:Nat.beq x.i e=false:=by
        cases hb:Nat.beq x.i e with
        | false=>rfl
        | true=>exact absurd (Nat.eq_of_beq_eq_true hb) hx
      split
      · rw [hb,cond_false]; exact ih
      · exact ih
theorem xJ {kh:Nat→Bool} {A:St} {x:Nat} {o:bD} : ∀ {R:List Rec},(m4 kh A R).get x=some o→(∃ r ∈ R,kh r.i=true∧r.jH = .make x o)∨(A.get x=some o∧∀ r ∈ R,kh r.i=true→∀ o',r.jH≠.make x o')
  | [],h=>.inr ⟨h,by simp⟩
  | r :: R,h=>by
    simp only [m4] at h
    split at h
    · rename_i id ob hd
      cases hs:kh r.i with
      | true=>
        rw [hs,cond_true] at h
        simp only [St.lay,St.get,Trie.iP] at h
        by_cases hx:x=id
        · rw [if_pos hx] at h
          simp at h; subst h; subst hx
          exact .inl ⟨r,by simp,hs,hd⟩
        · rw [if_neg hx] at h
          rcases xJ (R:=R) h with ⟨r',h1,h2,h3⟩ | ⟨h1,h2⟩
          · exact .inl ⟨r',by simp [h1],h2,h3⟩
          · refine .inr ⟨h1,fun r' vZ Kz o'=>?_⟩
            rcases List.mem_cons.1 vZ with rfl | vZ
            · rw [hd]; intro e; simp at e; exact hx e.1.symm
            · exact h2 r' vZ Kz o'
      | false=>
        rw [hs,cond_false] at h
        rcases xJ (R:=R) h with ⟨r',h1,h2,h3⟩ | ⟨h1,h2⟩
        · exact .inl ⟨r',by simp [h1],h2,h3⟩
        · refine .inr ⟨h1,fun r' vZ Kz o'=>?_⟩
          rcases List.mem_cons.1 vZ with rfl | vZ
          · rw [hs] at Kz; simp at Kz
          · exact h2 r' vZ Kz o'
    · rename_i hn
      rcases xJ (R:=R) h with ⟨r',h1,h2,h3⟩ | ⟨h1,h2⟩
      · exact .inl ⟨r',by simp [h1],h2,h3⟩
      · refine .inr ⟨h1,fun r' vZ Kz o'=>?_⟩
        rcases List.mem_cons.1 vZ with rfl | vZ
        · exact hn x o'
        · exact h2 r' vZ Kz o'
theorem Ib {kh:Nat→Bool} {A:St} {x:Nat} : ∀ {R:List Rec},(∀ r ∈ R,kh r.i=true→∀ o',r.jH≠.make x o')→(m4 kh A R).get x=A.get x
  | [],_=>rfl
  | r :: R,h=>by
    have ih:=Ib (kh:=kh) (A:=A) (x:=x) (R:=R) fun r' vZ=>h r' (by simp [vZ])
    simp only [m4]
    split
    · rename_i id ob hd
      cases hs:kh r.i with
      | true=>
        rw [cond_true]
        simp only [St.lay,St.get,Trie.iP]
        rw [if_neg (fun e=>by subst e; exact h r (by simp) hs ob hd)]
        exact ih
      | false=>rw [cond_false]; exact ih
    · exact ih
theorem KM {kh:Nat→Bool} {A:St} : ∀ {R:List Rec},(m4 kh A R).members=A.members∧(m4 kh A R).low=A.low∧(m4 kh A R).next=A.next
  | []=>⟨rfl,rfl,rfl⟩
  | r :: R=>by
    have ih:=KM (kh:=kh) (A:=A) (R:=R)
    simp only [m4]
    split
    · cases kh r.i with
      | true=>exact ih
      | false=>exact ih
    · exact ih
def Jq (A0:St) (R:List Rec):Prop:=∀ r ∈ R,r.nx=A0.next∧(r.jH = .val∨∃ f vs,r.jH = .read f vs)
def Still (b:List Nat) (A0:St) (R:List Rec) (r:Rec):Prop:=(∀ s ∈ R,∀ id o,s.jH≠.make id o)∧∀ e,e ∈ kN R→Fg b r.i e R=true→(pX A0 R e).next≤r.nx
def Jr (b:List Nat) (A0:St) (R:List Rec):Prop:=∀ r ∈ R,∀ f vs,r.jH = .read f vs→(under r.nx r.v=true∨Still b A0 R r)∧∀ e,e ∈ kN R→Fg b r.i e R=true→f (j9 b A0 R e (dV b r.i)) vs=some r.v
structure Setup (P:Program) (call:db) (all:List Oper) (A0:St) (t0:Tm) (R:List Rec):Prop where
  facts:jg P all
  valid:Valid P call all A0 t0 R
  len:R.length=all.length
  chain:qp (az [] all) R=true
  reads:Jr (az [] all) A0 R
theorem Valid.sorted {P:Program} {call:db} {all:List Oper} {A0:St} {t0:Tm} : ∀ {R:List Rec},Valid P call all A0 t0 R→R.Pairwise (fun x y=>y.i < x.i)
  | [],_=>.nil
  | r :: R,h=>by
    rw [List.pairwise_cons]
    exact ⟨fun s hs=>by have:=h.1.lt hs; rw [h.2.1]; exact this,Valid.sorted h.1⟩
theorem tZ {P:Program} {call:db} {all:List Oper} {A0:St} {t0:Tm} (hf:jg P all):∀ {R:List Rec},Valid P call all A0 t0 R→qp (az [] all) R=true→
    ∀ {r s:Rec},r ∈ R→s ∈ R→jK r→jK s→s.i < r.i→dV (az [] all) r.i s.i=true
  | [],_,_,r,s,h,_,_,_,_=>by simp at h
  | x :: R,hv,hc,r,s,hr,hs,ar,ah7,aL=>by
    simp only [qp,Bool.and_eq_true] at hc
    have Xb:s ∈ R:=by
      rcases List.mem_cons.1 hs with h | h
      · rcases List.mem_cons.1 hr with h' | h'
        · rw [h,h'] at aL; omega
        · have:=hv.1.lt h'; have:=hv.2.1; rw [h] at aL; omega
      · exact h
    rcases List.mem_cons.1 hr with h | h
    · subst h
      obtain ⟨B,hB⟩:=ar
      rw [hB] at hc
      cases he:eM R with
      | none=>exact absurd ah7 (Fx he s Xb)
      | some e=>
        rw [he] at hc
        obtain ⟨y,hy,h1,h2,h3⟩:=uE hv.1.sorted he
        have hle:=h3 s Xb ah7
        by_cases hse:s.i=e
        · rw [hse]; exact hc.1
        · have:=tZ hf hv.1 hc.2 hy Xb h2 ah7 (by omega)
          rw [h1] at this
          exact Qq hf hc.1 this
    · exact tZ hf hv.1 hc.2 h Xb ar ah7 aL
def lS (R:List Rec) (S:Nat→Bool):Option Nat:=eM (R.filter fun r=>S r.i)
def di (A0:St) (R:List Rec) (S:Nat→Bool):St:=pX A0 R (lS R S)
def writer (all:List Oper) (R:List Rec) (S:Nat→Bool) (x:Nat):Option Rec:=R.find? fun r=>S r.i && (mg all r.i == some x)
def valOf (all:List Oper) (t0:Tm) (R:List Rec) (S:Nat→Bool) (x:Nat):Value:=
  match writer all R S x with
  | some r=>r.v
  | none=>(t0.get x).getD undef
def Qu (all:List Oper) (A0:St) (R:List Rec) (S:Nat→Bool) (x:Nat):Nat:=
  match writer all R S x with
  | some r=>r.nx
  | none=>A0.next
structure Inv (all:List Oper) (A0:St) (t0:Tm) (R:List Rec) (N:Nat) (d0:List Deferred) (base:Nat) (sR:ao) (w0:World) (S:Nat→Bool) (a:Act) (w:World) (ρ:ao):Prop where
  size:a.tmps.size=N
  defers:a.defers=d0
  tm:∀ x,VR (ρ.res (Qu all A0 R S x)) (valOf all t0 R S x) (a.tmps.getD x undef)
  core:da base sR A0 w0 (ρ.res (di A0 R S).next) (di A0 R S) w
  news:∀ r ∈ R,S r.i=true→∀ id o,r.jH = .make id o→Eo (az [] all) (lS R S) r.i=false→
    ∃ c cb,ρ id=some (p8 o cb)∧wF (ρ.res r.nx) o c∧w.heap[cb]? = some c∧w0.heap.size≤cb∧¬ B4 (ρ.res (di A0 R S).next) (di A0 R S) cb
  wI:∀ r ∈ R,∀ s ∈ R,S r.i=true→S s.i=true→∀ id o pd o',r.jH = .make id o→s.jH = .make pd o'→Eo (az [] all) (lS R S) r.i=false→Eo (az [] all) (lS R S) s.i=false→
    r.i≠s.i→∀ l l',ρ id=some l→ρ pd=some l'→l.cb≠l'.cb
  KN:∀ r ∈ R,S r.i=false→∀ id o,r.jH = .make id o→ρ id=none
  gk:∀ bl l,ρ bl=some l→bl < (di A0 R S).next∨∃ r ∈ R,S r.i=true∧∃ o,r.jH = .make bl o
theorem ze (o:bD) (cb:Nat):(p8 o cb).cb=cb:=by cases o <;> rfl
theorem wF.obj {ρ:ao} {o:bD} {c:Obj} {base cb:Nat} {w:World} (h:wF ρ o c) (hw:w.heap[cb]? = some c) (hb:base≤cb):pr ρ base w (p8 o cb) o∧o.cG=true∧o.jb=none∧o≠.dead:=by
  have aL:cb < w.heap.size:=(Array.getElem?_eq_some_iff.1 hw).1
  unfold wF at h
  split at h
  · rename_i cs bm
    obtain ⟨a,T,rfl,h1,h2⟩:=h
    have hlen:a.size=cs.length:=h1.length
    have lJ:∀ i,w.cell? ⟨cb,i,none⟩=a[i]?:=fun i=>by simp [World.cell?,hw]
    have wC:∀ i,w.frozen? ⟨cb,i,none⟩=false:=fun i=>by simp [World.frozen?,hw]
    refine ⟨⟨fun i v hi=>?_,fun h=>by simp at h,fun _=>hb,fun _ j hj=>?_,by simp [p8],fun _ _=>by simp [p8],rfl,aL,fun _ _ j=>wC j⟩,rfl,rfl,by simp⟩
    · obtain ⟨v',h3,h4⟩:=h1.get hi
      exact ⟨v',by simp only [p8,Nat.zero_add]; rw [lJ]; simpa using h3,h4,h2 v (List.mem_of_getElem? hi)⟩
    · simp only [p8] at hj ⊢
      rw [lJ,wC,Array.getElem?_eq_getElem (by omega)]
      exact ⟨rfl,rfl⟩
  · subst h
    exact ⟨⟨hb,#[],0,hw,rfl⟩,rfl,rfl,by simp⟩
  · rename_i s
    subst h
    exact ⟨⟨hb,rfl,hw⟩,rfl,rfl,by simp⟩
  · exact h.elim
theorem wF.mono {ρ ak:ao} (hle:ρ.le ak) {o:bD} {c:Obj} (h:wF ρ o c):wF ak o c:=by
  unfold wF at h ⊢
  split at h
  · obtain ⟨a,T,h1,h2,h3⟩:=h; exact ⟨a,T,h1,h2.mono hle,h3⟩
  · exact h
  · exact h
  · exact h.elim
section
variable {P:Program} {call:db} {all:List Oper} {A0:St} {t0:Tm} {R:List Rec} {N:Nat} {d0:List Deferred} {base:Nat} {sR:ao} {w0:World}
theorem Setup.xK (hS:Setup P call all A0 t0 R) {r:Rec} {id:Nat} {o:bD} (hr:r ∈ R) (hd:r.jH = .make id o):A0.next≤id∧r.nx=id+1:=by
  obtain ⟨R0,R1,e,h5,h6,op,h7,h8⟩:=hS.valid.at hr
  obtain ⟨h9,vi⟩:=(Fw h8).2.1 id o hd
  exact ⟨by rw [h9]; exact h5.xI,vi⟩
theorem Setup.KO (hS:Setup P call all A0 t0 R) {r s:Rec} {id:Nat} {o:bD} (hr:r ∈ R) (hs:s ∈ R) (hd:s.jH = .make id o) (aL:r.i < s.i):r.nx≤id:=by
  obtain ⟨R0,⟨op,h1⟩,h2⟩:=hS.valid.order hr hs aL
  rw [((Fw h1).2.1 id o hd).1]
  exact h2
theorem Setup.TL (hS:Setup P call all A0 t0 R) {r s:Rec} {id:Nat} {o o' : bD} (hr:r ∈ R) (hs:s ∈ R) (hd:r.jH = .make id o) (zw:s.jH = .make id o'):r=s:=by
  rcases Nat.lt_trichotomy r.i s.i with h | h | h
  · have h1:=hS.KO hr hs zw h
    have h2:=(hS.xK hr hd).2
    omega
  · exact hS.valid.inj hr hs h
  · have h1:=hS.KO hs hr hd h
    have h2:=(hS.xK hs zw).2
    omega
theorem Setup.last (hS:Setup P call all A0 t0 R) (S:Nat→Bool):(lS R S=none∧di A0 R S=A0∧∀ s ∈ R,jK s→S s.i=false)∨
    ∃ e ∈ R,lS R S=some e.i∧S e.i=true∧e.jH = .act (di A0 R S)∧e.nx=(di A0 R S).next∧∀ s ∈ R,jK s→S s.i=true→s.i≤e.i:=by
  cases h:lS R S with
  | none=>
    refine .inl ⟨rfl,by simp [di,h,pX],fun s hs ha=>?_⟩
    cases EL:S s.i with
    | false=>rfl
    | true=>exact absurd ha (Fx h s (by simp [hs,EL]))
  | some e=>
    obtain ⟨r,hr,h1,⟨B,h2⟩,h3⟩:=uE (hS.valid.sorted.filter _) h
    rw [List.mem_filter] at hr
    have ua:di A0 R S=B:=by
      simp only [di,h,pX]
      exact zx (fun s hs he=>hS.valid.inj hs hr.1 (by rw [he,h1])) hr.1 h1 h2
    refine .inr ⟨r,hr.1,by rw [h1],hr.2,by rw [ua]; exact h2,?_,fun s hs ha EL=>by rw [h1]; exact h3 s (by simp [hs,EL]) ha⟩
    obtain ⟨R0,R1,e',h5,h6,op,h7,h8⟩:=hS.valid.at hr.1
    rw [ua]
    exact (Fw h8).2.2.1 B h2
theorem Inv.view (hS:Setup P call all A0 t0 R) (vY:jC sR A0 base w0) {S:Nat→Bool} {a:Act} {w:World} {ρ:ao} (hI:Inv all A0 t0 R N d0 base sR w0 S a w ρ) (kh:Nat→Bool) (TM:∀ r ∈ R,∀ id o,r.jH = .make id o→kh r.i=true→S r.i=true)
    (n:Nat) (hn:(di A0 R S).next≤n) (hn2:∀ r ∈ R,∀ id o,r.jH = .make id o→kh r.i=true→Eo (az [] all) (lS R S) r.i=false→r.nx≤n) :
    da base sR A0 w0 (ρ.res n) ((j9 (az [] all) A0 R (lS R S) kh).at n) w:=by
  have lK:=hI.core
  have tj:=lK.dz
  have hle:(ρ.res (di A0 R S).next).le (ρ.res n):=ρ.r6 hn
  have gp:∀ x o,(j9 (az [] all) A0 R (lS R S) kh).get x=some o→(∃ r ∈ R,S r.i=true∧kh r.i=true∧Eo (az [] all) (lS R S) r.i=false∧r.jH = .make x o)∨
      ((di A0 R S).get x=some o∧∀ r ∈ R,kh r.i=true→Eo (az [] all) (lS R S) r.i=false→∀ o',r.jH≠.make x o'):=by
    intro x o h
    rcases xJ h with ⟨r,h1,h2,h3⟩ | ⟨h1,h2⟩
    · simp only [Bool.and_eq_true,Bool.not_eq_true'] at h2
      exact .inl ⟨r,h1,TM r h1 x o h3 h2.1,h2.1,h2.2,h3⟩
    · exact .inr ⟨h1,fun r hr hs hb o'=>h2 r hr (by simp [hs,hb]) o'⟩
  obtain ⟨hm,hl,_⟩:=KM (kh:=fun j=>kh j && !Eo (az [] all) (lS R S) j) (A:=di A0 R S) (R:=R)
  have nX:∀ x o,(∃ r ∈ R,S r.i=true∧kh r.i=true∧Eo (az [] all) (lS R S) r.i=false∧r.jH = .make x o)→∃ cb,(ρ.res n) x=some (p8 o cb)∧pr (ρ.res n) base w (p8 o cb) o∧o.jb=none∧
      w0.heap.size≤cb∧¬ B4 (ρ.res (di A0 R S).next) (di A0 R S) cb:=by
    rintro x o ⟨r,h1,h2,h3,h4,h5⟩
    obtain ⟨c,cb,h6,h7,h8,h9,vi⟩:=hI.news r h1 h2 x o h5 h4
    have hx:x < n:=by have:=(hS.xK h1 h5).2; have:=hn2 r h1 x o h5 h3 h4; omega
    have h0:=vY.size
    obtain ⟨k1,k2,k3,k4⟩:=(h7.mono (ρ.r6 (hn2 r h1 x o h5 h3 h4))).obj (base:=base) h8 (by omega)
    exact ⟨cb,by rw [ao.tJ hx]; exact h6,k1,k3,h9,vi⟩
  have Cf:∀ x o l,(di A0 R S).get x=some o→o≠.dead→(ρ.res n) x=some l→(ρ.res (di A0 R S).next) x=some l:=by
    intro x o l hx hd hr
    obtain ⟨l',h1,_⟩:=tj.rel.obj hx hd
    have:=hle _ _ h1
    rw [hr] at this
    simp at this; subst this
    exact h1
  refine ⟨⟨.rZ ?_ ?_ ?_,?_,tj.size,tj.mS.mono hle⟩,?_,lK.kept,Nat.le_trans lK.next hn,?_,?_,?_⟩
  · intro x o hx hd
    rcases gp x o hx with h | ⟨h,_⟩
    · obtain ⟨cb,h1,h2,_⟩:=nX x o h
      exact ⟨_,h1,h2⟩
    · obtain ⟨l,h1,h2⟩:=tj.rel.obj h hd
      exact ⟨l,hle _ _ h1,h2.gY hle rfl (Nat.le_refl _)⟩
  · intro b1 b2 o1 o2 l1 l2 bR g1 g2 m1 m2 r1 r2 xG
    have hd1:o1≠.dead:=by intro e; subst e; simp [bD.cG] at m1
    have hd2:o2≠.dead:=by intro e; subst e; simp [bD.cG] at m2
    rcases gp b1 o1 g1 with h1 | ⟨h1,_⟩ <;> rcases gp b2 o2 g2 with h2 | ⟨h2,_⟩
    · obtain ⟨r,a1,a2,a3,a4,a5⟩:=h1
      obtain ⟨s,c1,c2,c3,c4,c5⟩:=h2
      have hri:r.i≠s.i:=fun e=>by
        have:=hS.valid.inj a1 c1 e
        subst this
        rw [a5] at c5; simp at c5
        exact bR c5.1
      exact absurd xG (hI.wI r a1 s c1 a2 c2 b1 o1 b2 o2 a5 c5 a4 c4 hri l1 l2 (ρ.U4 n _ _ r1) (ρ.U4 n _ _ r2))
    · obtain ⟨cb,e1,_,_,_,e5⟩:=nX b1 o1 h1
      rw [r1] at e1; simp at e1
      have ag2:l1.cb=cb:=by rw [e1,ze]
      exact absurd ⟨b2,o2,l2,h2,m2,Cf b2 o2 l2 h2 hd2 r2,by rw [← xG,ag2]⟩ e5
    · obtain ⟨cb,e1,_,_,_,e5⟩:=nX b2 o2 h2
      rw [r2] at e1; simp at e1
      have ag3:l2.cb=cb:=by rw [e1,ze]
      exact absurd ⟨b1,o1,l1,h1,m1,Cf b1 o1 l1 h1 hd1 r1,by rw [xG,ag3]⟩ e5
    · exact tj.rel.apart b1 b2 o1 o2 l1 l2 bR h1 h2 m1 m2 (Cf b1 o1 l1 h1 hd1 r1) (Cf b2 o2 l2 h2 hd2 r2) xG
  · intro x o aW f hx hk
    rcases gp x o hx with h | ⟨h,_⟩
    · obtain ⟨cb,_,_,h3,_⟩:=nX x o h
      rw [hk] at h3; simp at h3
    · show x ∈ (j9 (az [] all) A0 R (lS R S) kh).members aW
      rw [show (j9 (az [] all) A0 R (lS R S) kh).members=(di A0 R S).members from hm]
      exact tj.rel.ba x o aW f h hk
  · intro b l h; exact (ao.KH h).1
  · intro b hb
    have h1:=lK.ext b hb
    have:b < (di A0 R S).next:=Nat.lt_of_lt_of_le hb lK.next
    rw [ao.tJ this] at h1
    rw [ao.tJ (by omega)]
    exact h1
  · show (j9 (az [] all) A0 R (lS R S) kh).low≤A0.low
    rw [show (j9 (az [] all) A0 R (lS R S) kh).low=(di A0 R S).low from hl]
    exact lK.low
  · intro b hb PY
    show (j9 (az [] all) A0 R (lS R S) kh).get b=A0.get b
    have ag4:b < (di A0 R S).low:=by
      rw [← show (j9 (az [] all) A0 R (lS R S) kh).low=(di A0 R S).low from hl]; exact PY
    rw [← lK.same b hb ag4]
    refine Ib fun r hr _ o' e=>?_
    have:=(hS.xK hr e).1
    omega
  · rintro k hk ⟨b,o,l,hg,OG,hr,rfl⟩
    have hd:o≠.dead:=by intro e; subst e; simp [bD.cG] at OG
    rcases gp b o hg with h | ⟨h,_⟩
    · obtain ⟨cb,e1,_,_,e4,_⟩:=nX b o h
      rw [hr] at e1; simp at e1
      rw [e1,ze] at hk
      omega
    · exact lK.PW _ hk ⟨b,o,l,h,OG,Cf b o l h hd hr,rfl⟩
theorem iU {x:Nat} : ∀ {xs:List Operand},Operand.tmp x ∈ xs→x ∈ ou xs
  | [],h=>by simp at h
  | .tmp t :: xs,h=>by
    rcases List.mem_cons.1 h with h | h
    · simp at h; subst h; simp [ou]
    · simp [ou,iU h]
  | .const _ :: xs,h=>by
    rcases List.mem_cons.1 h with h | h
    · simp at h
    · simpa [ou] using iU h
  | .global _ :: xs,h=>by
    rcases List.mem_cons.1 h with h | h
    · simp at h
    · simpa [ou] using iU h
  | .func _ :: xs,h=>by
    rcases List.mem_cons.1 h with h | h
    · simp at h
    · simpa [ou] using iU h
theorem zy:∀ (R0:List Rec) (x:Nat),(rE all t0 R0).get x=match R0.find? (fun r=>mg all r.i == some x) with | some r=>some r.v | none=>t0.get x
  | [],x=>rfl
  | r :: R0,x=>by
    simp only [rE,List.find?_cons]
    cases hd:mg all r.i with
    | none=>simp only [u5]; rw [zy R0 x]; rfl
    | some d=>
      simp only [u5,Trie.iP]
      by_cases h:x=d
      · subst h; simp
      · rw [if_neg h,zy R0 x]
        have:(some d == some x)=false:=by simp; exact fun e=>h e.symm
        rw [this]
theorem SU (hS:Setup P call all A0 t0 R) {S:Nat→Bool} (hc:ir all S) {r:Rec} (hr:r ∈ R) {o:Oper} (ho:all[r.i]? = some o) (fP:S r.i=false) (jv:ki all S r.i)
    {x:Nat} (hx:x ∈ looks P all o):∃ R0,(∀ R1 R2,R=R1 ++ r :: R2→R2=R0)∧writer all R S x=R0.find? (fun r=>mg all r.i == some x):=by
  obtain ⟨R0,R1,e,h5,h6,o',h7,h8⟩:=hS.valid.at hr
  refine ⟨R0,fun R1' R2' e'=>?_,?_⟩
  · have hl:R2'.length=R0.length:=by
      have hv:=hS.valid
      rw [e'] at hv
      have key:∀ (X:List Rec),Valid P call all A0 t0 (X ++ r :: R2')→r.i=R2'.length:=by
        intro X
        induction X with
        | nil=>intro h; exact h.2.1
        | cons y X ih=>intro h; exact ih h.1
      rw [← key R1' hv,h6]
    have:=congrArg (fun l=>l.drop (l.length - R0.length)) (e.symm.trans e')
    simp only [List.length_append,List.length_cons,hl] at this
    have e1:(R1 ++ r :: R0).drop (R1.length+(R0.length+1) - R0.length)=R0:=by
      rw [show R1.length+(R0.length+1) - R0.length=R1.length+1 by omega,← List.drop_drop,List.drop_left]
      rfl
    have e2:(R1' ++ r :: R2').drop (R1'.length+(R0.length+1) - R0.length)=R2':=by
      rw [show R1'.length+(R0.length+1) - R0.length=R1'.length+1 by omega,← List.drop_drop,List.drop_left]
      rfl
    rw [e1,e2] at this
    exact this.symm
  · have afM:∀ s ∈ R,s.i≠r.i→mg all s.i=some x→(S s.i=true ↔ s.i < r.i):=by
      intro s hs bR hd
      obtain ⟨os,Du⟩:∃ os,all[s.i]? = some os:=by
        cases h:all[s.i]? with
        | none=>simp [mg,h] at hd
        | some os=>exact ⟨os,rfl⟩
      have lW:os.dst=some x:=by simpa [mg,Du] using hd
      have KP:qN P all os o=true:=by
        unfold qN
        have:BU os.dst (looks P all o)=true:=by
          rw [lW]
          simp only [BU,List.any_eq_true]
          exact ⟨x,hx,by simp⟩
        rw [this]; rfl
      have ag5:qN P all o os=true:=by
        unfold qN at KP ⊢
        simp only [Bool.or_eq_true] at KP ⊢
        have ag6:∀ d e,u7 d e=u7 e d:=by
          intro d e
          cases d <;> cases e <;> simp [u7]
          rename_i p q
          rw [Bool.eq_iff_iff]; simp; exact eq_comm
        rw [ag6 o.dst os.dst]
        rcases KP with (h | h) | h
        · exact .inl (.inr h)
        · exact .inl (.inl h)
        · exact .inr h
      constructor
      · intro EL
        rcases Nat.lt_or_ge s.i r.i with h | h
        · exact h
        · have aL:r.i < s.i:=by omega
          have:=hS.facts.apart s.i r.i o os Du ho aL ag5
          have:=hc _ _ EL this
          rw [fP] at this; simp at this
      · intro aL
        exact hc.ready hS.facts ho jv _ (hS.facts.apart r.i s.i os o ho Du aL KP)
    unfold writer
    rw [e,List.find?_append]
    have hv:=hS.valid
    have h1:R1.find? (fun r=>S r.i && (mg all r.i == some x))=none:=by
      rw [List.find?_eq_none]
      intro s hs Fy
      simp only [Bool.and_eq_true,beq_iff_eq] at Fy
      have Xb:s ∈ R:=by rw [e]; simp [hs]
      have hgt:r.i < s.i:=by
        have hp:=hv.sorted
        rw [e,List.pairwise_append] at hp
        exact hp.2.2 s hs r (by simp)
      have:=(afM s Xb (by omega) Fy.2).1 Fy.1
      omega
    rw [h1]
    simp only [Option.none_or,List.find?_cons,fP,Bool.false_and]
    have h2:∀ (l:List Rec),(∀ s ∈ l,s ∈ R0)→l.find? (fun r=>S r.i && (mg all r.i == some x))=l.find? (fun r=>mg all r.i == some x):=by
      intro l
      induction l with
      | nil=>intro _; rfl
      | cons s l ih=>
        intro hl
        simp only [List.find?_cons]
        have vY:s ∈ R0:=hl s (by simp)
        have Xb:s ∈ R:=by rw [e]; simp [vY]
        have aL:s.i < r.i:=by rw [h6]; exact h5.lt vY
        cases hd:(mg all s.i == some x) with
        | false=>simp only [Bool.and_false]; exact ih (fun y hy=>hl y (by simp [hy]))
        | true=>
          have:=(afM s Xb (by omega) (by simpa using hd)).2 aL
          simp [this]
    exact h2 R0 (fun s hs=>hs)
end
end
end Go.av
end
section
namespace Go.av
noncomputable section
open Go
theorem vj {p q:Rec→Bool} : ∀ (l:List Rec),(∀ s ∈ l,jK s→p s=q s)→eM (l.filter p)=eM (l.filter q)
  | [],_=>rfl
  | s :: l,h=>by
    have ih:=vj l fun x hx=>h x (by simp [hx])
    cases hd:s.jH with
    | act B=>
      have:=h s (by simp) ⟨B,hd⟩
      rw [List.filter_cons,List.filter_cons,this]
      split
      · simp only [eM,hd]
      · exact ih
    | _=>
      rw [List.filter_cons,List.filter_cons]
      split <;> split <;> first | exact ih | (simp only [eM,hd]; exact ih)
theorem Ic:∀ (l m:List Rec),(∀ s ∈ l,¬ jK s)→eM (l ++ m)=eM m
  | [],m,_=>rfl
  | s :: l,m,h=>by
    have ih:=Ic l m fun x hx=>h x (by simp [hx])
    have hs:=h s (by simp)
    simp only [List.cons_append,eM]
    split
    · rename_i B hB; exact absurd ⟨B,hB⟩ hs
    · exact ih
theorem KQ {kh:Nat→Bool} {A:St} : ∀ (l m:List Rec),(∀ s ∈ l,kh s.i=false)→m4 kh A (l ++ m)=m4 kh A m
  | [],m,_=>rfl
  | s :: l,m,h=>by
    have ih:=KQ (A:=A) l m fun x hx=>h x (by simp [hx])
    simp only [List.cons_append,m4]
    split
    · rw [h s (by simp),cond_false]; exact ih
    · exact ih
theorem find_congr {p q:Rec→Bool} : ∀ (l:List Rec),(∀ s ∈ l,p s=q s)→l.find? p=l.find? q
  | [],_=>rfl
  | s :: l,h=>by
    simp only [List.find?_cons,h s (by simp),find_congr l fun x hx=>h x (by simp [hx])]
theorem oY (S:Nat→Bool) (i:Nat):a9 S i i=true:=by simp [a9]
theorem iV {S:Nat→Bool} {i j:Nat} (h:j≠i):a9 S i j=S j:=by
  have:Nat.beq j i=false:=by
    cases hb:Nat.beq j i with
    | false=>rfl
    | true=>exact absurd (Nat.eq_of_beq_eq_true hb) h
  simp [a9,this]
theorem jC.gY {ρ ak:ao} {A:St} {base:Nat} {w w' : World} (hs:jC ρ A base w) (hle:ρ.le ak) (ag7:∀ b l,ak b=some l→b < A.next) (hw:∀ k,k < w.heap.size→w'.heap[k]? = w.heap[k]?) (du:w.heap.size≤w'.heap.size):jC ak A base w':=by
  have MJ:∀ b o l,A.get b=some o→o≠.dead→ak b=some l→ρ b=some l:=by
    intro b o l hg hd hr
    obtain ⟨l',h1,_⟩:=hs.rel.obj hg hd
    have:=hle _ _ h1
    rw [hr] at this; simp at this; subst this
    exact h1
  refine ⟨.rZ (fun b o hg hd=>?_) ?_ hs.rel.ba,ag7,Nat.le_trans hs.size du,hs.mS.mono hle⟩
  · obtain ⟨l,h1,h2⟩:=hs.rel.obj hg hd
    exact ⟨l,hle _ _ h1,h2.gY hle (hw _ (h2.lt hd)) du⟩
  · intro b1 b2 o1 o2 l1 l2 bR g1 g2 m1 m2 r1 r2 xG
    exact hs.rel.apart b1 b2 o1 o2 l1 l2 bR g1 g2 m1 m2 (MJ b1 o1 l1 g1 (by intro e; subst e; simp [bD.cG] at m1) r1) (MJ b2 o2 l2 g2 (by intro e; subst e; simp [bD.cG] at m2) r2) xG
theorem B4.gY {ρ ak:ao} {A:St} {base:Nat} {w:World} {k:Nat} (hs:jC ρ A base w) (hle:ρ.le ak) (h:B4 ak A k):B4 ρ A k:=by
  obtain ⟨b,o,l,hg,hm,hr,rfl⟩:=h
  obtain ⟨l',h1,_⟩:=hs.rel.obj hg (by intro e; subst e; simp [bD.cG] at hm)
  have:=hle _ _ h1
  rw [hr] at this; simp at this; subst this
  exact ⟨b,o,l,hg,hm,h1,rfl⟩
theorem B4.lt {ρ:ao} {A:St} {base:Nat} {w:World} {k:Nat} (hs:jC ρ A base w) (h:B4 ρ A k):k < w.heap.size:=by
  obtain ⟨b,o,l,hg,hm,hr,rfl⟩:=h
  have hd:o≠.dead:=by intro e; subst e; simp [bD.cG] at hm
  obtain ⟨l',h1,h2⟩:=hs.rel.obj hg hd
  rw [hr] at h1; simp at h1; subst h1
  exact h2.lt hd
section
variable {P:Program} {call:db} {all:List Oper} {A0:St} {t0:Tm} {R:List Rec} {N:Nat} {d0:List Deferred} {base:Nat} {sR:ao} {w0:World}
theorem Qv (hS:Setup P call all A0 t0 R) {S:Nat→Bool} (hc:ir all S) {r:Rec} (hr:r ∈ R) {o:Oper} (ho:all[r.i]? = some o) (fP:S r.i=false) (x:Nat) :
    writer all R (a9 S r.i) x=if o.dst=some x then some r else writer all R S x:=by
  have hd:mg all r.i=o.dst:=by simp [mg,ho]
  by_cases h:o.dst=some x
  · rw [if_pos h]
    obtain ⟨R0,R1,e,_⟩:=hS.valid.at hr
    unfold writer
    rw [e,List.find?_append]
    have h1:R1.find? (fun s=>a9 S r.i s.i && (mg all s.i == some x))=none:=by
      rw [List.find?_eq_none]
      intro s hs Fy
      simp only [Bool.and_eq_true,beq_iff_eq] at Fy
      have hgt:r.i < s.i:=by
        have hp:=hS.valid.sorted
        rw [e,List.pairwise_append] at hp
        exact hp.2.2 s hs r (by simp)
      rw [iV (by omega)] at Fy
      obtain ⟨os,Du⟩:∃ os,all[s.i]? = some os:=by
        cases h' : all[s.i]? with
        | none=>simp [mg,h'] at Fy
        | some os=>exact ⟨os,rfl⟩
      have Zp:os.dst=some x:=by simpa [mg,Du] using Fy.2
      have KP:qN P all o os=true:=by
        unfold qN
        have:u7 o.dst os.dst=true:=by rw [h,Zp]; simp [u7]
        rw [this]; simp
      have:=hc _ _ Fy.1 (hS.facts.apart s.i r.i o os Du ho hgt KP)
      rw [fP] at this; simp at this
    rw [h1]
    simp [oY,hd,h]
  · rw [if_neg h]
    refine find_congr R fun s hs=>?_
    by_cases e:s.i=r.i
    · have:(mg all s.i == some x)=false:=by rw [e,hd]; simpa using h
      simp [this]
    · rw [iV e]
theorem abR (hS:Setup P call all A0 t0 R) {S:Nat→Bool} {a:Act} {w:World} {ρ:ao} (hI:Inv all A0 t0 R N d0 base sR w0 S a w ρ) (hc:ir all S) {r:Rec} {o:Oper} {R0 R1:List Rec} (hr:r ∈ R) (e:R=R1 ++ r :: R0) (hv:Valid P call all A0 t0 R0)
    (ho:all[r.i]? = some o) (fP:S r.i=false) (jv:ki all S r.i) {x:Nat} (hx:x ∈ looks P all o) :
    VR (ρ.res (fK A0 R0)) (((rE all t0 R0).get x).getD undef) (a.tmps.getD x undef):=by
  obtain ⟨R0',h1,h2⟩:=SU hS hc hr ho fP jv hx
  have:=h1 R1 R0 e
  subst this
  have ht:=hI.tm x
  unfold Qu valOf at ht
  rw [h2] at ht
  rw [zy]
  cases hf:R0.find? (fun r=>mg all r.i == some x) with
  | none=>rw [hf] at ht; exact ht.mono (ρ.r6 hv.xI)
  | some s=>rw [hf] at ht; exact ht.mono (ρ.r6 (hv.qw (List.mem_of_find?_eq_some hf)))
theorem U5 {ρ:ao} {t:Tm} {a:Act} {o:Oper} {wd:Bool} (h:∀ d ∈ uB all o,VR ρ ((t.get d).getD undef) (a.tmps.getD d undef)∧(t.get d≠none→d < a.tmps.size)) (hw:u6 all t o.guard=some wd) :
    Region.wanted o (yielded ⟨all⟩ a.tmps)=wd:=by
  unfold u6 at hw
  unfold Region.wanted
  split at hw
  · rename_i hg; simp at hw; rw [hg]; exact hw.symm
  · rename_i j want hg
    rw [hg]
    simp only
    unfold yielded
    have e:(⟨all⟩:Array Oper)[j]? = all[j]?:=by simp
    rw [e]
    cases hd:(all[j]?).bind (·.dst) with
    | none=>rw [hd] at hw; simp [jE] at hw; subst hw; simp
    | some d=>
      rw [hd] at hw
      simp only [Option.bind_some] at hw ⊢
      obtain ⟨hv,aL⟩:=h d (by simp [uB,hg,hd])
      cases ht:t.get d with
      | none=>
        rw [ht] at hw hv
        simp [jE] at hw; subst hw
        simp only [Option.getD_none] at hv
        have hu:a.tmps.getD d undef=undef:=hv.kO (by simp [undef,flat,uZ,n6])
        cases hc:a.tmps[d]? with
        | none=>simp
        | some u=>
          have:a.tmps.getD d undef=u:=by simp [Array.getD_eq_getD_getElem?,hc]
          rw [hu] at this
          subst this
          simp [undef]
      | some v=>
        have aL:=aL (by rw [ht]; simp)
        rw [ht] at hw hv
        simp only [Option.getD_some] at hv
        have hc:a.tmps[d]? = some (a.tmps.getD d undef):=by simp [Array.getD_eq_getD_getElem?,aL]
        rw [hc]
        generalize a.tmps.getD d undef=u at hv
        cases v with
        | bool b=>
          simp [jE] at hw
          have:=hv.dC
          subst this
          subst hw
          cases b <;> cases want <;> rfl
        | tuple cs=>
          simp [jE] at hw
          obtain ⟨bI,rfl,_⟩:=hv.zu
          subst hw
          rfl
        | _=>simp [jE] at hw
theorem abS {a:Act} {dst:Option Tmp} {v' : Value} {x:Nat} (hd:∀ d,dst=some d→d < a.tmps.size):(a.put dst v').tmps.getD x undef=if dst=some x then v' else a.tmps.getD x undef:=by
  cases dst with
  | none=>simp [Act.put]
  | some d=>
    have:=hd d rfl
    simp only [Act.put]
    by_cases h:x=d
    · subst h; simp [Array.getD_eq_getD_getElem?,this]
    · rw [if_neg (by simpa using fun e=>h e.symm)]
      simp [Array.getD_eq_getD_getElem?,Array.getElem?_setIfInBounds_ne (Ne.symm h)]
theorem Js (hS:Setup P call all A0 t0 R) {S:Nat→Bool} {a:Act} {w:World} {ρ ak:ao} (hI:Inv all A0 t0 R N d0 base sR w0 S a w ρ) (hc:ir all S) {r:Rec} {o:Oper} (hr:r ∈ R) (ho:all[r.i]? = some o) (fP:S r.i=false)
    (lW:∀ d,o.dst=some d→d < N) (hle:ρ.le ak) {v' : Value} (hv:VR (ak.res r.nx) r.v v') :
    ∀ x,VR (ak.res (Qu all A0 R (a9 S r.i) x)) (valOf all t0 R (a9 S r.i) x) ((a.put o.dst v').tmps.getD x undef):=by
  intro x
  rw [abS (by rw [hI.size]; exact lW)]
  unfold Qu valOf
  rw [Qv hS hc hr ho fP]
  by_cases h:o.dst=some x
  · simp only [if_pos h]; exact hv
  · simp only [if_neg h]
    exact (hI.tm x).mono (ao.xH hle _)
theorem Qw {S:Nat→Bool} {r:Rec} (hS:Setup P call all A0 t0 R) (hr:r ∈ R) (Bi : ¬ jK r):lS R (a9 S r.i)=lS R S:=by
  refine vj R fun s hs ha=>?_
  by_cases e:s.i=r.i
  · exact absurd (hS.valid.inj hs hr e ▸ ha) Bi
  · exact iV e
theorem Inv.plain (hS:Setup P call all A0 t0 R) {S:Nat→Bool} {a:Act} {w:World} {ρ:ao} (hI:Inv all A0 t0 R N d0 base sR w0 S a w ρ) (hc:ir all S) {r:Rec} {o:Oper} (hr:r ∈ R) (ho:all[r.i]? = some o) (fP:S r.i=false)
    (lW:∀ d,o.dst=some d→d < N) (Bi : ¬ jK r) (Xc:∀ id ob,r.jH≠.make id ob) {v' : Value} (hv:VR (ρ.res r.nx) r.v v'):Inv all A0 t0 R N d0 base sR w0 (a9 S r.i) (a.put o.dst v') w ρ:=by
  have hl:=Qw (S:=S) hS hr Bi
  have ua:di A0 R (a9 S r.i)=di A0 R S:=by simp only [di,hl]
  have ov:∀ s ∈ R,a9 S r.i s.i=true→∀ id ob,s.jH = .make id ob→S s.i=true:=by
    intro s hs h id ob hd
    by_cases e:s.i=r.i
    · have:=hS.valid.inj hs hr e
      subst this
      exact absurd hd (Xc id ob)
    · rwa [iV e] at h
  refine ⟨?_,?_,Js hS hI hc hr ho fP lW (ao.le_refl _) hv,?_,?_,?_,?_,?_⟩
  · rw [← hI.size]; cases o.dst <;> simp [Act.put]
  · rw [← hI.defers]; cases o.dst <;> rfl
  · rw [ua]; exact hI.core
  · rw [ua,hl]; intro s hs h id ob hd hb; exact hI.news s hs (ov s hs h id ob hd) id ob hd hb
  · rw [hl]; intro s hs u hu h1 h2 id ob pd SV d1 d2; exact hI.wI s hs u hu (ov s hs h1 id ob d1) (ov u hu h2 pd SV d2) id ob pd SV d1 d2
  · intro s hs h id ob hd
    have bR:s.i≠r.i:=fun e=>by rw [e,oY] at h; simp at h
    rw [iV bR] at h
    exact hI.KN s hs h id ob hd
  · rw [ua]
    intro b l h
    rcases hI.gk b l h with h | ⟨s,hs,h1,h2⟩
    · exact .inl h
    · exact .inr ⟨s,hs,by unfold a9; rw [h1]; rfl,h2⟩
theorem Inv.made (hS:Setup P call all A0 t0 R) {S:Nat→Bool} {a:Act} {w:World} {ρ:ao} (hI:Inv all A0 t0 R N d0 base sR w0 S a w ρ) (hc:ir all S) {r:Rec} {o:Oper} (hr:r ∈ R) (ho:all[r.i]? = some o) (fP:S r.i=false)
    (lW:∀ d,o.dst=some d→d < N) {id:Nat} {ob:bD} (hd:r.jH = .make id ob) {c:Obj} {n:Nat} (nX:wF (ρ.res n) ob c) (hn:n≤r.nx) {v' : Value} (hv:∀ ak:ao,ak id=some (p8 ob w.heap.size)→VR ak r.v v') :
    Inv all A0 t0 R N d0 base sR w0 (a9 S r.i) (a.put o.dst v') (w.alloc c) (ρ.set id (p8 ob w.heap.size)):=by
  have Bi : ¬ jK r:=by rintro ⟨B,hB⟩; rw [hd] at hB; simp at hB
  have hl:=Qw (S:=S) hS hr Bi
  have ua:di A0 R (a9 S r.i)=di A0 R S:=by simp only [di,hl]
  have hun:=hI.KN r hr fP id ob hd
  have hle:ρ.le (ρ.set id (p8 ob w.heap.size)):=by
    intro b l h
    rw [ao.ie]
    · exact h
    · intro e; subst e; rw [hun] at h; simp at h
  obtain ⟨hid,KS⟩:=hS.xK hr hd
  have hold:∀ k,k < w.heap.size→(w.alloc c).heap[k]? = w.heap[k]?:=fun k hk=>RowKit.Below.heap_alloc _ _ _ hk
  have du:w.heap.size≤(w.alloc c).heap.size:=by simp
  have tj:=hI.core.dz
  have afN:=ao.xH hle (di A0 R S).next
  have aaz:∀ k,B4 ((ρ.set id (p8 ob w.heap.size)).res (di A0 R S).next) (di A0 R S) k→B4 (ρ.res (di A0 R S).next) (di A0 R S) k:=fun k h=>h.gY tj afN
  refine ⟨?_,?_,Js hS hI hc hr ho fP lW hle (hv _ (by rw [ao.tJ (by omega),ao.jF])),?_,?_,?_,?_,?_⟩
  · rw [← hI.size]; cases o.dst <;> simp [Act.put]
  · rw [← hI.defers]; cases o.dst <;> rfl
  · rw [ua]
    have lK:=hI.core
    refine ⟨tj.gY afN (fun b l h=>(ao.KH h).1) hold du,fun b hb=>?_,⟨lK.kept.os,lK.kept.tape,lK.kept.output,Nat.le_trans lK.kept.size du,fun k hk hn=>?_⟩,lK.next,lK.low,lK.same,fun k hk h=>lK.PW k hk (aaz k h)⟩
    · have h1:=lK.ext b hb
      have:b < (di A0 R S).next:=Nat.lt_of_lt_of_le hb lK.next
      rw [ao.tJ this] at h1 ⊢
      rw [ao.ie _ _ (by omega)]
      exact h1
    · rw [hold k (Nat.lt_of_lt_of_le hk lK.kept.size)]; exact lK.kept.block k hk hn
  · rw [ua,hl]
    intro s hs h pd SV zw hb
    by_cases e:s.i=r.i
    · have:=hS.valid.inj hs hr e
      subst this
      rw [hd] at zw; simp at zw
      obtain ⟨rfl,rfl⟩:=zw
      refine ⟨c,w.heap.size,ao.jF _ _ _,nX.mono (ao.le_trans (ρ.r6 hn) (ao.xH hle _)),(MapKept.heap_alloc w c).1,hI.core.kept.size,fun h=>?_⟩
      have:=(aaz _ h).lt tj
      omega
    · rw [iV e] at h
      obtain ⟨c',cb,h1,h2,h3,h4,h5⟩:=hI.news s hs h pd SV zw hb
      exact ⟨c',cb,hle _ _ h1,h2.mono (ao.xH hle _),by rw [hold cb (Array.getElem?_eq_some_iff.1 h3).1]; exact h3,h4,fun h=>h5 (aaz _ h)⟩
  · rw [hl]
    have aaA:∀ s ∈ R,a9 S r.i s.i=true→∀ pd SV,s.jH = .make pd SV→Eo (az [] all) (lS R S) s.i=false→∀ l,(ρ.set id (p8 ob w.heap.size)) pd=some l→
        (s.i=r.i∧l.cb=w.heap.size)∨(s.i≠r.i∧S s.i=true∧ρ pd=some l∧l.cb < w.heap.size):=by
      intro s hs h pd SV zw hb l ka
      by_cases e:s.i=r.i
      · have:=hS.valid.inj hs hr e
        subst this
        rw [hd] at zw; simp at zw
        rw [← zw.1,ao.jF] at ka
        simp at ka
        exact .inl ⟨rfl,by rw [← ka,ze]⟩
      · rw [iV e] at h
        have bR:pd≠id:=fun e'=>by
          subst e'
          exact e (by rw [hS.TL hs hr zw hd])
        rw [ao.ie _ _ bR] at ka
        obtain ⟨c',cb,h1,_,h3,_⟩:=hI.news s hs h pd SV zw hb
        rw [h1] at ka; simp at ka
        exact .inr ⟨e,h,by rw [h1,ka],by rw [← ka,ze]; exact (Array.getElem?_eq_some_iff.1 h3).1⟩
    intro s hs u hu h1 h2 id1 ob1 id2 ob2 d1 d2 b1 b2 bR l1 l2 e1 e2
    rcases aaA s hs h1 id1 ob1 d1 b1 l1 e1 with ⟨p1,p2⟩ | ⟨p1,p2,p3,p4⟩ <;> rcases aaA u hu h2 id2 ob2 d2 b2 l2 e2 with ⟨q1,q2⟩ | ⟨q1,q2,q3,q4⟩
    · omega
    · omega
    · omega
    · exact hI.wI s hs u hu p2 q2 id1 ob1 id2 ob2 d1 d2 b1 b2 bR l1 l2 p3 q3
  · intro s hs h pd SV zw
    have bR:s.i≠r.i:=fun e=>by rw [e,oY] at h; simp at h
    rw [iV bR] at h
    have Qx:pd≠id:=fun e'=>by
      subst e'
      exact bR (by rw [hS.TL hs hr zw hd])
    rw [ao.ie _ _ Qx]
    exact hI.KN s hs h pd SV zw
  · rw [ua]
    intro b l h
    by_cases e:b=id
    · subst e; exact .inr ⟨r,hr,oY _ _,ob,hd⟩
    · rw [ao.ie _ _ e] at h
      rcases hI.gk b l h with h | ⟨s,hs,h1,h2⟩
      · exact .inl h
      · exact .inr ⟨s,hs,by unfold a9; rw [h1]; rfl,h2⟩
theorem ae4 (hS:Setup P call all A0 t0 R) {S:Nat→Bool} (hc:ir all S) {r:Rec} {R0 R1:List Rec} (hr:r ∈ R) (e:R=R1 ++ r :: R0) (hv:Valid P call all A0 t0 R0) (hi:r.i=R0.length) (ha:jK r) (fP:S r.i=false)
    {o:Oper} (ho:all[r.i]? = some o) (jv:ki all S r.i) :
    lS R S=eM R0∧j9 (az [] all) A0 R0 (eM R0) (dV (az [] all) r.i)=j9 (az [] all) A0 R (lS R S) (dV (az [] all) r.i):=by
  have hp:=hS.valid.sorted
  have hR1:∀ s ∈ R1,r.i < s.i:=fun s hs=>by
    rw [e,List.pairwise_append] at hp
    exact hp.2.2 s hs r (by simp)
  have hR0:∀ s ∈ R0,s.i < r.i:=fun s hs=>by rw [hi]; exact hv.lt hs
  have agn:∀ s ∈ R0,jK s→S s.i=true:=fun s hs h=>
    hc.ready hS.facts ho jv _ (tZ hS.facts hS.valid hS.chain hr (by rw [e]; simp [hs]) ha h (hR0 s hs))
  have ago:∀ s ∈ R1,jK s→S s.i=false:=fun s hs h=>by
    cases EL:S s.i with
    | false=>rfl
    | true=>
      have:=hc _ _ EL (tZ hS.facts hS.valid hS.chain (by rw [e]; simp [hs]) hr h ha (hR1 s hs))
      rw [fP] at this; simp at this
  have h1:lS R S=eM R0:=by
    unfold lS
    rw [e,List.filter_append,Ic]
    · have ag8 : ¬ (S r.i=true):=by rw [fP]; simp
      rw [List.filter_cons,if_neg ag8]
      have:R0=R0.filter (fun _=>true):=(List.filter_eq_self.2 fun _ _=>rfl).symm
      conv=>rhs; rw [this]
      exact vj R0 fun s hs h=>agn s hs h
    · intro s hs h
      rw [List.mem_filter] at hs
      rw [ago s hs.1 h] at hs
      exact absurd hs.2 (by simp)
  refine ⟨h1,?_⟩
  rw [h1]
  unfold j9
  have h2:pX A0 R (eM R0)=pX A0 R0 (eM R0):=by
    cases hl:eM R0 with
    | none=>rfl
    | some k=>
      obtain ⟨y,hy,h3,⟨B,h4⟩,_⟩:=uE hv.sorted hl
      simp only [pX]
      rw [zx (fun s hs he=>hS.valid.inj hs (by rw [e]; simp [hy]) (by rw [he,h3])) (by rw [e]; simp [hy]) h3 h4,zx (fun s hs he=>hv.inj hs hy (by rw [he,h3])) hy h3 h4]
  rw [h2]
  conv=>rhs; rw [e,show R1 ++ r :: R0=(R1 ++ [r]) ++ R0 by simp]
  refine (KQ (R1 ++ [r]) R0 fun s hs=>?_).symm
  have Jp:r.i≤s.i:=by
    rcases List.mem_append.1 hs with h | h
    · exact Nat.le_of_lt (hR1 s h)
    · simp at h; rw [h]; exact Nat.le_refl _
  cases hb:dV (az [] all) r.i s.i with
  | false=>rfl
  | true=>have:=KK hS.facts hb; omega
theorem Inv.adb (hS:Setup P call all A0 t0 R) (vY:jC sR A0 base w0) {S:Nat→Bool} {a:Act} {w:World} {ρ:ao} (hI:Inv all A0 t0 R N d0 base sR w0 S a w ρ) (hc:ir all S) {r:Rec} {o:Oper} {R0 R1:List Rec} (hr:r ∈ R) (e:R=R1 ++ r :: R0)
    (hv:Valid P call all A0 t0 R0) (hi:r.i=R0.length) (ho:all[r.i]? = some o) (fP:S r.i=false) (jv:ki all S r.i) (lW:∀ d,o.dst=some d→d < N) {B:St} (hd:r.jH = .act B) (KS:fK A0 R0≤r.nx) (hB:r.nx=B.next) :
    da base sR A0 w0 (ρ.res (fK A0 R0)) ((j9 (az [] all) A0 R0 (eM R0) (dV (az [] all) r.i)).at (fK A0 R0)) w∧
    ∀ kc v' w',da base (ρ.res (fK A0 R0)) ((j9 (az [] all) A0 R0 (eM R0) (dV (az [] all) r.i)).at (fK A0 R0)) w kc B w'→VR kc r.v v'→
      ∃ ak,Inv all A0 t0 R N d0 base sR w0 (a9 S r.i) (a.put o.dst v') w' ak:=by
  have ha:jK r:=⟨B,hd⟩
  obtain ⟨hlS,H8⟩:=ae4 hS hc hr e hv hi ha fP ho jv
  have hp:=hS.valid.sorted
  have hR1:∀ s ∈ R1,r.i < s.i:=fun s hs=>by
    rw [e,List.pairwise_append] at hp
    exact hp.2.2 s hs r (by simp)
  have TN:∀ s ∈ R,s.i < r.i→s ∈ R0:=fun s hs aL=>by
    rw [e] at hs
    rcases List.mem_append.1 hs with h | h
    · have:=hR1 s h; omega
    · rcases List.mem_cons.1 h with h | h
      · rw [h] at aL; omega
      · exact h
  have hcn:(di A0 R S).next≤fK A0 R0:=by
    rcases hS.last S with ⟨_,h2,_⟩ | ⟨y,hy,h1,h2,h3,h4,h5⟩
    · rw [h2]; exact hv.xI
    · rw [← h4]
      refine hv.qw (TN y hy ?_)
      rw [hlS] at h1
      obtain ⟨z,hz,h6,_⟩:=uE hv.sorted h1
      rw [← h6,hi]; exact hv.lt hz
  have ae5:∀ s ∈ R,dV (az [] all) r.i s.i=true→s ∈ R0:=fun s hs h=>TN s hs (KK hS.facts h)
  have p9:=hI.view hS vY (dV (az [] all) r.i) (fun s hs id ob _ h=>hc.ready hS.facts ho jv _ h) (fK A0 R0) hcn (fun s hs id ob _ h _=>hv.qw (ae5 s hs h))
  rw [← H8] at p9
  refine ⟨p9,fun kc v' w' hg hvr=>?_⟩
  have agp:∀ s ∈ R,S s.i=true→∀ id ob,s.jH = .make id ob→id < fK A0 R0∨B.next≤id:=by
    intro s hs EL id ob hm
    rcases Nat.lt_trichotomy s.i r.i with h | h | h
    · have:=hv.qw (TN s hs h)
      have:=(hS.xK hs hm).2
      left; omega
    · rw [h,fP] at EL; simp at EL
    · have:=hS.KO hr hs hm h
      right; omega
  have Kx:∀ b,b < fK A0 R0→kc b=ρ b:=fun b hb=>by
    have:=hg.ext b hb
    rw [ao.tJ hb] at this
    exact this
  have ag9:∀ b l,kc b=some l→b < B.next:=hg.dz.gk
  let ak:ao:=fun b=>if b < B.next then kc b else ρ b
  have hle:ρ.le ak:=by
    intro b l h
    show (if b < B.next then kc b else ρ b)=some l
    split
    · rename_i hb
      by_cases hb0:b < fK A0 R0
      · rw [Kx b hb0]; exact h
      · rcases hI.gk b l h with h1 | ⟨s,hs,h1,ob,h2⟩
        · omega
        · rcases agp s hs h1 b ob h2 with h3 | h3 <;> omega
    · exact h
  have AA:ak.res B.next=kc:=by
    funext b
    unfold ao.res
    by_cases hb:b < B.next
    · rw [if_pos hb]; show (if b < B.next then kc b else ρ b)=kc b; rw [if_pos hb]
    · rw [if_neg hb]
      cases h:kc b with
      | none=>rfl
      | some l=>exact absurd (ag9 b l h) hb
  have ka:lS R (a9 S r.i)=some r.i:=by
    have aha:∀ s ∈ R,jK s→S s.i=true→s.i < r.i:=by
      intro s hs h EL
      rcases Nat.lt_trichotomy s.i r.i with h1 | h1 | h1
      · exact h1
      · rw [h1,fP] at EL; simp at EL
      · have:=hc _ _ EL (tZ hS.facts hS.valid hS.chain hs hr h ha h1)
        rw [fP] at this; simp at this
    rcases hS.last (a9 S r.i) with ⟨_,_,h3⟩ | ⟨y,hy,h1,h2,h3,_,h5⟩
    · have:=h3 r hr ha
      rw [oY] at this; simp at this
    · have h6:=h5 r hr ha (oY _ _)
      rw [h1]
      by_cases hyr:y.i=r.i
      · rw [hyr]
      · rw [iV hyr] at h2
        have:=aha y hy ⟨_,h3⟩ h2
        omega
  have U6:di A0 R (a9 S r.i)=B:=by
    simp only [di,ka,pX]
    exact zx (fun s hs he=>hS.valid.inj hs hr he) hr rfl hd
  have hold:∀ s ∈ R,a9 S r.i s.i=true→∀ id ob,s.jH = .make id ob→dV (az [] all) r.i s.i=false→S s.i=true∧Eo (az [] all) (lS R S) s.i=false:=by
    intro s hs h id ob hm hb
    have bR:s.i≠r.i:=fun e'=>by
      have:=hS.valid.inj hs hr e'
      subst this
      rw [hd] at hm; simp at hm
    rw [iV bR] at h
    refine ⟨h,?_⟩
    cases hl:lS R S with
    | none=>rfl
    | some k=>
      cases hk:dV (az [] all) k s.i with
      | false=>exact hk
      | true=>
        exfalso
        rw [hlS] at hl
        obtain ⟨z,hz,h6,h7,_⟩:=uE hv.sorted hl
        have h8:=tZ hS.facts hS.valid hS.chain hr (by rw [e]; simp [hz]) ha h7 (by rw [hi]; exact hv.lt hz)
        rw [h6] at h8
        rw [Qq hS.facts h8 hk] at hb
        simp at hb
  have agq:∀ s ∈ R,S s.i=true→∀ id ob,s.jH = .make id ob→Eo (az [] all) (lS R S) s.i=false→dV (az [] all) r.i s.i=false→∀ c cb,ρ id=some (p8 ob cb)→w.heap[cb]? = some c→¬ B4 (ρ.res (di A0 R S).next) (di A0 R S) cb→
      ¬ B4 (ρ.res (fK A0 R0)) ((j9 (az [] all) A0 R0 (eM R0) (dV (az [] all) r.i)).at (fK A0 R0)) cb:=by
    rintro s hs EL id ob hm hbe hb c cb gL hw hni ⟨x,ox,lx,hx,OI,hrx,rfl⟩
    have hdx:ox≠.dead:=by intro e'; subst e'; simp [bD.cG] at OI
    rw [H8] at hx
    rcases xJ hx with ⟨u,hu,TM,hmu⟩ | ⟨hcx,_⟩
    · simp only [Bool.and_eq_true,Bool.not_eq_true'] at TM
      have hus:=hc.ready hS.facts ho jv _ TM.1
      have bR:s.i≠u.i:=fun e'=>by rw [e',TM.1] at hb; simp at hb
      exact hI.wI s hs u hu EL hus id ob x ox hm hmu hbe TM.2 bR _ _ gL (ρ.U4 _ _ _ hrx) (by rw [ze])
    · obtain ⟨l',h1,_⟩:=hI.core.dz.rel.obj hcx hdx
      have:=ρ.r6 hcn _ _ h1
      rw [hrx] at this; simp at this; subst this
      exact hni ⟨x,ox,lx,hcx,OI,h1,rfl⟩
  refine ⟨ak,?_,?_,Js hS hI hc hr ho fP lW hle (by rw [hB,AA]; exact hvr),?_,?_,?_,?_,?_⟩
  · rw [← hI.size]; cases o.dst <;> simp [Act.put]
  · rw [← hI.defers]; cases o.dst <;> rfl
  · rw [U6,AA]; exact p9.trans hg
  · rw [U6,ka,AA]
    intro s hs h id ob hm hb
    obtain ⟨h1,h2⟩:=hold s hs h id ob hm hb
    obtain ⟨c,cb,h3,h4,h5,h6,h7⟩:=hI.news s hs h1 id ob hm h2
    have hn:=agq s hs h1 id ob hm h2 hb c cb h3 h5 h7
    have aL:=(Array.getElem?_eq_some_iff.1 h5).1
    exact ⟨c,cb,hle _ _ h3,h4.mono (ao.xH hle _),by rw [hg.kept.block cb aL hn]; exact h5,h6,fun hk=>hn (hg.PW cb aL hk)⟩
  · rw [ka]
    intro s hs u hu h1 h2 id1 ob1 id2 ob2 d1 d2 b1 b2 bR l1 l2 e1 e2
    obtain ⟨p1,p2⟩:=hold s hs h1 id1 ob1 d1 b1
    obtain ⟨q1,q2⟩:=hold u hu h2 id2 ob2 d2 b2
    obtain ⟨_,cb,p3,_⟩:=hI.news s hs p1 id1 ob1 d1 p2
    obtain ⟨_,cb',q3,_⟩:=hI.news u hu q1 id2 ob2 d2 q2
    rw [hle _ _ p3] at e1
    rw [hle _ _ q3] at e2
    simp at e1 e2
    subst e1 e2
    exact hI.wI s hs u hu p1 q1 id1 ob1 id2 ob2 d1 d2 p2 q2 bR _ _ p3 q3
  · intro s hs h id ob hm
    have bR:s.i≠r.i:=fun e'=>by rw [e',oY] at h; simp at h
    rw [iV bR] at h
    have h0:=hI.KN s hs h id ob hm
    show (if id < B.next then kc id else ρ id)=none
    split
    · rename_i hb
      rcases Nat.lt_or_ge s.i r.i with h1 | h1
      · have:=hv.qw (TN s hs h1)
        have:=(hS.xK hs hm).2
        rw [Kx id (by omega)]; exact h0
      · have:=hS.KO hr hs hm (by omega)
        omega
    · exact h0
  · rw [U6]
    intro b l h
    have h:(if b < B.next then kc b else ρ b)=some l:=h
    split at h
    · exact .inl ‹_›
    · rename_i hb
      rcases hI.gk b l h with h1 | ⟨s,hs,h1,h2⟩
      · omega
      · exact .inr ⟨s,hs,by unfold a9; rw [h1]; rfl,h2⟩
end
end
end Go.av
end
section
namespace Go.av
noncomputable section
open Go
structure TR (ρ:ao) (t:Tm) (N:Nat) (a:Act):Prop where
  size:a.tmps.size=N
  val:∀ i,VR ρ ((t.get i).getD undef) (a.tmps.getD i undef)
  none:∀ i,N≤i→t.get i=Option.none
  mS:Kt ρ
theorem VR.undef {ρ:ao} : VR ρ undef undef:=VR.of_flat (by simp [Go.undef,flat,uZ,n6])
def Round (P:Program) (l:Nat) (args:Array Value) (w:World) (R:Ending→World→Prop):Prop:=
  ∃ f tmps assign body,(Instr.yield l args).run P w = .ok (.round l f tmps assign body) w∧RoundIn Fence.wide 0 P l f tmps assign body w R
def qU (P:Program) (call:db):Prop:=
  ∀ f args A v B,call f args A=some (v,B)→
    (Nat.blt f yB = true → ∃ fn, P.funcs[f]? = some fn ∧ fn.body.isSome = true ∧ (fn.name == "runtime.NumGoroutine") = false) ∧
    ∀ (ρ:ao) (cL:List Value) (base:Nat) (w:World),cO ρ args cL→jC ρ A base w→
      (Nat.blt f yB=true→Calls P f cL.toArray w fun e w'=>∃ ak v',e = .returned v'∧VR ak v v'∧da base ρ A w ak B w')∧
      (Nat.blt f yB=false→∀ loc,ρ (Nat.sub f yB)=some loc→Round P loc.cb cL.toArray w fun e w'=>∃ ak v',e = .returned v'∧VR ak v v'∧da base ρ A w ak B w')
theorem Xd {P:Program} {o:Oper} {r:Option Nat} {a:Act} {w:World} {next:Act→World→Prop} {Q:Exit→Act→World→Prop} (hnd:∀ c,o.op≠.defer c)
    (h:o.uponIn (Fr r) 0 P a next Q ((execOp a.eval o).run P w)):o.wpIn (Fr r) 0 P a w next Q:=by
  refine ⟨fun _ _=>trivial,?_⟩
  rw [Oper.semAt_eq _ _ _ hnd]
  exact h
theorem Qy {args:List Value} {v:Value} {g:FuncId} {vs:List Value} (h:iQ args v=some (g,vs)) (hg:Nat.blt g yB=false):∃ l,v = .func (.yield l) ⟨[]⟩ ⟨[]⟩∧Nat.sub g yB=l∧vs=args:=by
  unfold iQ at h
  split at h
  · rename_i g' first cap
    cases hb:Nat.blt g' yB with
    | false=>rw [hb] at h; simp at h
    | true=>
      rw [hb] at h
      simp only [cond_true,Option.some.injEq,Prod.mk.injEq] at h
      rw [h.1,hg] at hb
      simp at hb
  · rename_i l
    simp only [Option.some.injEq,Prod.mk.injEq] at h
    exact ⟨l,rfl,by rw [← h.1]; exact Nat.add_sub_cancel_left ..,h.2.symm⟩
  · simp at h
theorem Xe {P:Program} {call:db} {o:Oper} {r:Option Nat} {f:Operand} {xs:List Operand} {g:FuncId} {vs:List Value} {A B:St} {v:Value} {ρ:ao} {ev:Operand→Value} {a:Act} {base:Nat} {w:World} {next:Act→World→Prop} {Q:Exit→Act→World→Prop}
    (bc:fC P o (.call f xs)) (fo:qU P call) (jh:qq ρ ev a.eval (f :: xs)) (Ep:iQ (xs.map ev) (ev f)=some (g,vs)) (h:call g vs A=some (v,B)) (hs:jC ρ A base w)
    (hk:∀ ak v' w',VR ak v v'→da base ρ A w ak B w'→next (a.put o.dst v') w'):o.uponIn (Fr r) 0 P a next Q ((execOp a.eval o).run P w):=by
  obtain ⟨Mx,hc⟩:=fo _ _ _ _ _ h
  cases hb:Nat.blt g yB with
  | true=>
    obtain ⟨bP,h1,h2⟩:=bc.2 ρ _ _ _ _ jh hb Ep (Mx hb)
    rw [h2 w]
    refine ⟨fun h=>by simp [Fence.wide] at h,?_⟩
    have h3:=(callsIn_wide (n:=0)).2 ((hc ρ bP base w h1 hs).1 hb)
    refine CallsIn.mono (F:=Fr r) (n:=0) (R:=fun e w'=>∃ ak v',e = .returned v'∧VR ak v v'∧da base ρ A w ak B w') h3 ?_
    rintro e w' ⟨ak,v',rfl,h4,h5⟩
    exact hk ak v' w' h4 h5
  | false=>
    obtain ⟨l,e1,e2,rfl⟩:=Qy Ep hb
    obtain ⟨loc,bP,h0,h1,h2⟩:=bc.1 ρ _ _ l jh e1
    obtain ⟨f',tmps,assign,body,h3,h4⟩:=(hc ρ bP base w h1 hs).2 hb loc (by rw [e2]; exact h0)
    rw [h2 w,h3]
    refine ⟨fun h=>by simp [Fence.wide] at h,?_⟩
    refine RoundIn.mono (F:=Fr r) (n:=0) (R:=fun e w'=>∃ ak v',e = .returned v'∧VR ak v v'∧da base ρ A w ak B w') h4 ?_
    rintro e w' ⟨ak,v',rfl,h4,h5⟩
    exact hk ak v' w' h4 h5
section
variable {P:Program} {call:db} {all:List Oper} {A0:St} {t0:Tm} {R:List Rec} {N:Nat} {d0:List Deferred} {base:Nat} {sR:ao} {w0:World}
theorem Inv.congr (hS:Setup P call all A0 t0 R) {S S' : Nat→Bool} {a:Act} {w:World} {ρ:ao} (h:∀ i,i < all.length→S i=S' i) (hI:Inv all A0 t0 R N d0 base sR w0 S a w ρ):Inv all A0 t0 R N d0 base sR w0 S' a w ρ:=by
  have hR:∀ r ∈ R,S r.i=S' r.i:=fun r hr=>h _ (by rw [← hS.len]; exact hS.valid.lt hr)
  have hl:lS R S' = lS R S:=(vj R fun s hs _=>hR s hs).symm
  have hw:∀ x,writer all R S' x=writer all R S x:=fun x=>(find_congr R fun s hs=>by rw [hR s hs]).symm
  have hc:di A0 R S' = di A0 R S:=by simp only [di,hl]
  refine ⟨hI.size,hI.defers,fun x=>?_,by rw [hc]; exact hI.core,?_,?_,?_,?_⟩
  · unfold Qu valOf; rw [hw]; exact hI.tm x
  · rw [hc,hl]; intro r hr h1; exact hI.news r hr (by rw [hR r hr]; exact h1)
  · rw [hl]; intro r hr s hs h1 h2; exact hI.wI r hr s hs (by rw [hR r hr]; exact h1) (by rw [hR s hs]; exact h2)
  · intro r hr h1; exact hI.KN r hr (by rw [hR r hr]; exact h1)
  · rw [hc]
    intro b l h1
    rcases hI.gk b l h1 with h2 | ⟨s,hs,h2,h3⟩
    · exact .inl h2
    · exact .inr ⟨s,hs,by rw [← hR s hs]; exact h2,h3⟩
theorem U7 {o:Oper} {d:Tmp} (h:d ∈ uB all o):d ∈ looks P all o:=by unfold looks; simp [h]
theorem abT {o:Oper} {x:Tmp} (h:Operand.tmp x ∈ Y3 (compile P o.op)):x ∈ looks P all o:=by unfold looks; simp [iU h]
theorem Ie {b:List Nat} {es:List (Option Nat)} : ∀ {rs:List Rec},BW b A0 R es rs=true→∀ r ∈ rs,∀ f vs,r.jH = .read f vs→under r.nx r.v=true∧Kp b A0 R r f vs es=true
  | [],_,r,h,_,_,_=>by simp at h
  | x :: rs,h,r,hr,f,vs,hd=>by
    simp only [BW,Bool.and_eq_true] at h
    rcases List.mem_cons.1 hr with e | hr
    · subst e
      rw [hd] at h
      simpa using h.1
    · exact Ie h.2 r hr f vs hd
theorem KU {b:List Nat} {r:Rec} {f:St→List Value→Option Value} {vs:List Value} {e:Option Nat} : ∀ {es:List (Option Nat)},Kp b A0 R r f vs es=true→e ∈ es→Fg b r.i e R=true→f (j9 b A0 R e (dV b r.i)) vs=some r.v
  | [],_,h,_=>by simp at h
  | x :: es,h,he,hm=>by
    simp only [Kp,Bool.and_eq_true] at h
    rcases List.mem_cons.1 he with rfl | he
    · have h1:=h.1
      rw [hm,cond_true] at h1
      unfold acS at h1
      split at h1
      · rename_i u hu; rw [hu,MI h1]
      · simp at h1
    · exact KU h.2 he hm
theorem SW {b:List Nat} {R:List Rec} (h:BW b A0 R (kN R) R=true):Jr b A0 R:=fun r hr f vs hd=>by
  obtain ⟨h1,h2⟩:=Ie h r hr f vs hd
  exact ⟨.inl h1,fun e he hm=>KU h2 he hm⟩
theorem KW:∀ {R:List Rec} {r:Rec},r ∈ R→jK r→some r.i ∈ kN R
  | [],r,h,_=>by simp at h
  | x :: R,r,h,ha=>by
    simp only [kN]
    rcases List.mem_cons.1 h with rfl | h
    · obtain ⟨B,hB⟩:=ha; rw [hB]; simp
    · have:=KW h ha
      split
      · simp [this]
      · exact this
theorem Ig:∀ (R:List Rec),none ∈ kN R
  | []=>by simp [kN]
  | x :: R=>by
    simp only [kN]
    have:=Ig R
    split
    · simp [this]
    · exact this
theorem Qz {b:List Nat} {i:Nat} {e:Option Nat} : ∀ {R:List Rec},(∀ r ∈ R,jK r→match e with | some e=>(dV b i r.i=true→r.i≤e)∧(dV b r.i i=true→e < r.i) | none=>dV b i r.i=false)→Fg b i e R=true
  | [],_=>rfl
  | r :: R,h=>by
    simp only [Fg,Bool.and_eq_true]
    refine ⟨?_,Qz fun s hs=>h s (by simp [hs])⟩
    split
    · rename_i B hB
      have:=h r (by simp) ⟨B,hB⟩
      cases e with
      | none=>simp only at this ⊢; simp [this]
      | some e=>
        simp only at this ⊢
        simp only [Bool.and_eq_true,Bool.or_eq_true,Bool.not_eq_true']
        refine ⟨?_,?_⟩
        · cases hb:dV b i r.i with
          | false=>exact .inl rfl
          | true=>exact .inr (by rw [Nat.ble_eq]; exact this.1 hb)
        · cases hb:dV b r.i i with
          | false=>exact .inl rfl
          | true=>exact .inr (by rw [Nat.blt_eq]; exact this.2 hb)
    · rfl
theorem Zs (hS:Setup P call all A0 t0 R) {S:Nat→Bool} (hc:ir all S) {r:Rec} {o:Oper} (ho:all[r.i]? = some o) (fP:S r.i=false) (jv:ki all S r.i) :
    lS R S ∈ kN R∧Fg (az [] all) r.i (lS R S) R=true:=by
  rcases hS.last S with ⟨h1,_,h3⟩ | ⟨y,hy,h1,h2,h3,_,h5⟩
  · rw [h1]
    refine ⟨Ig R,Qz fun s hs ha=>?_⟩
    cases hb:dV (az [] all) r.i s.i with
    | false=>rfl
    | true=>
      have:=hc.ready hS.facts ho jv _ hb
      rw [h3 s hs ha] at this; simp at this
  · rw [h1]
    refine ⟨KW hy ⟨_,h3⟩,Qz fun s hs ha=>⟨fun hb=>h5 s hs ha (hc.ready hS.facts ho jv _ hb),fun hb=>?_⟩⟩
    have Xf:S s.i=false:=by
      cases EL:S s.i with
      | false=>rfl
      | true=>
        have:=hc _ _ EL hb
        rw [fP] at this; simp at this
    rcases Nat.lt_trichotomy y.i s.i with h | h | h
    · exact h
    · rw [← h,h2] at Xf; simp at Xf
    · have:=hc _ _ h2 (tZ hS.facts hS.valid hS.chain hy hs ⟨_,h3⟩ ha h)
      rw [Xf] at this; simp at this
theorem VR.ade {ρ:ao} {n m:Nat} {v v' : Value} (hv:VR ((ρ.res n).res m) v v'):VR (ρ.res m) v v':=by
  refine hv.mono fun b l e=>?_
  obtain ⟨h1,h2⟩:=ao.KH e
  obtain ⟨_,h3⟩:=ao.KH h2
  rw [ao.tJ h1]; exact h3
theorem Inv.mS {S:Nat→Bool} {a:Act} {w:World} {ρ:ao} (hI:Inv all A0 t0 R N d0 base sR w0 S a w ρ) (vY:jC sR A0 base w0) {n:Nat} (hn:A0.next≤n):Kt (ρ.res n):=fun g hg=>by
  obtain ⟨l,e,h⟩:=vY.mS g hg
  have h1:=vY.gk g l e
  have h2:=hI.core.ext g h1
  rw [e] at h2
  obtain ⟨_,h3⟩:=ao.KH h2
  exact ⟨l,by rw [ao.tJ (by omega)]; exact h3,h⟩
theorem Xg (fo:qU P call) (hS:Setup P call all A0 t0 R) (vY:jC sR A0 base w0) (Fz:all.all (pk N)=true) (ht0:∀ x,N≤x→t0.get x=none) {Q:Exit→Act→World→Prop} {S:Nat→Bool} {a:Act} {w:World} {i:Nat} {o:Oper}
    (hI:∃ ρ,Inv all A0 t0 R N d0 base sR w0 S a w ρ) (hc:ir all S) (ho:all[i]? = some o) (fP:S i=false) (jv:ki all S i) {rd:Option Nat} :
    wpOpIn (Fr rd) 0 P ⟨all⟩ Q i (fun a' w'=>∃ ρ,Inv all A0 t0 R N d0 base sR w0 (a9 S i) a' w' ρ) a w:=by
  obtain ⟨ρ,hI⟩:=hI
  have aL:i < all.length:=(List.getElem?_eq_some_iff.1 ho).1
  obtain ⟨r,hr,rfl⟩:=hS.valid.get (i:=i) (by rw [hS.len]; exact aL)
  obtain ⟨R0,R1,e,hv,hi,o',OL,fZ⟩:=hS.valid.at hr
  rw [ho] at OL
  simp at OL
  subst OL
  have lW:∀ d,o.dst=some d→d < N:=by
    intro d ed
    have:=List.all_eq_true.1 Fz o (List.mem_of_getElem? ho)
    unfold pk at this
    rw [ed] at this
    simp only at this
    rw [Nat.blt_eq] at this
    exact this
  have SX:(⟨all⟩:Array Oper)[r.i]? = some o:=by simpa using ho
  have afO:∀ x ∈ looks P all o,VR (ρ.res (fK A0 R0)) (((rE all t0 R0).get x).getD undef) (a.tmps.getD x undef):=fun x hx=>abR hS hI hc hr e hv ho fP jv hx
  have htN:∀ (R0:List Rec) (x:Nat),N≤x→(rE all t0 R0).get x=none:=by
    intro R0 x hx
    induction R0 with
    | nil=>exact ht0 x hx
    | cons s R0 ih=>
      simp only [rE]
      cases Zp:mg all s.i with
      | none=>exact ih
      | some d=>
        simp only [u5,Trie.iP]
        have hd:d < N:=by
          unfold mg at Zp
          obtain ⟨os,h1,h2⟩:=Option.bind_eq_some_iff.1 Zp
          have:=List.all_eq_true.1 Fz os (List.mem_of_getElem? h1)
          unfold pk at this
          rw [h2] at this
          simp only at this
          rw [Nat.blt_eq] at this
          exact this
        rw [if_neg (fun e=>by rw [e] at hx; exact absurd hd (Nat.not_lt_of_le hx))]
        exact ih
  unfold u9 at fZ
  obtain ⟨wd,EM,fZ⟩:=Option.bind_eq_some_iff.1 fZ
  have zz:Region.wanted o (yielded ⟨all⟩ a.tmps)=wd:=U5 (fun d hd=>⟨afO d (U7 hd),fun bR=>by
    rw [hI.size]
    rcases Nat.lt_or_ge d N with h | h
    · exact h
    · exact absurd (htN R0 d h) bR⟩) EM
  unfold wpOpIn
  rw [SX]
  simp only [zz]
  cases wd with
  | false=>
    simp only [cond_false,Option.some.injEq] at fZ
    have xL:r.jH = .val:=by rw [← fZ]
    have U8:r.v=undef:=by rw [← fZ]
    simp only [Bool.false_eq_true,if_false]
    exact ⟨fun _ _=>trivial,ρ,hI.plain hS hc hr ho fP lW (by rintro ⟨B,hB⟩; rw [xL] at hB; simp at hB) (fun id ob h=>by rw [xL] at h; simp at h) (by rw [U8]; exact VR.undef)⟩
  | true=>
    simp only [cond_true] at fZ
    simp only [if_true]
    refine Xd (fun c e=>by rw [e] at fZ; simp [compile,je] at fZ) ?_
    have bc:=mf P o
    have jh:qq (ρ.res (fK A0 R0)) (ma (rE all t0 R0)) a.eval (Y3 (compile P o.op)):=by
      intro x hx
      cases x with
      | tmp x=>exact afO x (abT hx)
      | const v=>
        simp only [ma,Act.eval]
        cases hf:flat v with
        | true=>exact VR.of_flat hf
        | false=>simp [VR]
      | global g=>exact (hI.mS vY hv.xI).ev g
      | func f=>exact VR.G9 (l:=[]) (m:=[]) (.func f) rfl .nil .nil
    generalize compile P o.op=ins at fZ bc jh
    cases ins with
    | pure f xs=>
      simp only [je] at fZ
      obtain ⟨v,zt,fZ⟩:=Option.map_eq_some_iff.1 fZ
      have xL:r.jH = .val:=by rw [← fZ]
      have U8:r.v=v:=by rw [← fZ]
      have KS:r.nx=fK A0 R0:=by rw [← fZ]
      obtain ⟨v',h1,h2⟩:=bc _ _ _ _ jh zt
      rw [h2 w]
      exact ⟨ρ,hI.plain hS hc hr ho fP lW (by rintro ⟨B,hB⟩; rw [xL] at hB; simp at hB) (fun id ob h=>by rw [xL] at h; simp at h) (by rw [U8,KS]; exact h1)⟩
    | read f xs=>
      simp only [je] at fZ
      obtain ⟨v,zt,fZ⟩:=Option.map_eq_some_iff.1 fZ
      have xL:r.jH = .read f (xs.map (ma (rE all t0 R0))):=by rw [← fZ]
      obtain ⟨hun,Zt⟩:=hS.reads r hr _ _ xL
      obtain ⟨hm1,hm2⟩:=Zs hS hc ho fP jv
      have qV:=Zt _ hm1 hm2
      rcases hun with hun | aaB
      rotate_left
      ·
        have Jt:=aaB.1
        have ua:(di A0 R S).next≤r.nx:=aaB.2 _ hm1 hm2
        have p9:=hI.view hS vY (dV (az [] all) r.i) (fun s hs id ob h=>(Jt s hs id ob h).elim) r.nx ua (fun s hs id ob h=>(Jt s hs id ob h).elim)
        have uF:Rel (ρ.res r.nx) (j9 (az [] all) A0 R (lS R S) (dV (az [] all) r.i)).get (j9 (az [] all) A0 R (lS R S) (dV (az [] all) r.i)).members base w:=p9.dz.rel
        have ahb:r.nx=fK A0 R0:=by rw [← fZ]
        obtain ⟨v',h1,h2⟩:=bc _ _ _ _ _ _ _ uF (fun x hx=>by have:=jh x hx; rwa [← ahb] at this) qV
        rw [h2]
        exact ⟨ρ,hI.plain hS hc hr ho fP lW (by rintro ⟨B,hB⟩; rw [xL] at hB; simp at hB) (fun id ob h=>by rw [xL] at h; simp at h) h1⟩
      have KS:r.nx=fK A0 R0:=by rw [← fZ]
      let n:=(di A0 R S).next+fK A0 R
      have p9:=hI.view hS vY (dV (az [] all) r.i) (fun s hs id ob _ h=>hc.ready hS.facts ho jv _ h) n (Nat.le_add_right _ _) (fun s hs id ob _ _ _=>Nat.le_trans (hS.valid.qw hs) (Nat.le_add_left _ _))
      have hn0:fK A0 R0≤n:=by
        have:=hS.valid.qw hr
        rw [← KS]
        exact Nat.le_trans this (Nat.le_add_left _ _)
      have uF:Rel (ρ.res n) (j9 (az [] all) A0 R (lS R S) (dV (az [] all) r.i)).get (j9 (az [] all) A0 R (lS R S) (dV (az [] all) r.i)).members base w:=p9.dz.rel
      obtain ⟨v',h1,h2⟩:=bc _ _ _ _ _ _ _ uF (fun x hx=>(jh x hx).mono (ρ.r6 hn0)) qV
      rw [h2]
      refine ⟨ρ,hI.plain hS hc hr ho fP lW (by rintro ⟨B,hB⟩; rw [xL] at hB; simp at hB) (fun id ob h=>by rw [xL] at h; simp at h) ?_⟩
      exact VR.ade (VR.under hun h1)
    | make f xs=>
      simp only [je] at fZ
      obtain ⟨⟨ob,mk⟩,zt,fZ⟩:=Option.map_eq_some_iff.1 fZ
      have xL:r.jH = .make (fK A0 R0) ob:=by rw [← fZ]
      have U8:r.v=mk (fK A0 R0):=by rw [← fZ]
      have KS:r.nx=fK A0 R0+1:=by rw [← fZ]
      obtain ⟨c,mk',h1,h2,h3⟩:=bc _ _ _ _ _ jh zt
      rw [h2 w]
      exact ⟨_,hI.made hS hc hr ho fP lW xL h1 (by omega) (fun ak h=>by rw [U8]; exact h3 _ _ _ h)⟩
    | act f xs=>
      simp only [je] at fZ
      obtain ⟨⟨v,B⟩,zt,fZ⟩:=Option.bind_eq_some_iff.1 fZ
      cases hb:Nat.ble (fK A0 R0) B.next with
      | false=>rw [hb] at fZ; simp at fZ
      | true=>
        rw [hb] at fZ
        simp only [cond_true,Option.some.injEq] at fZ
        have xL:r.jH = .act B:=by rw [← fZ]
        have U8:r.v=v:=by rw [← fZ]
        have KS:r.nx=B.next:=by rw [← fZ]
        obtain ⟨p9,adf⟩:=hI.adb hS vY hc hr e hv hi ho fP jv lW xL (by rw [KS]; exact Nat.le_of_ble_eq_true hb) KS
        obtain ⟨kc,v',nx,w',h1,h2,h3,h4⟩:=bc _ _ _ _ w _ _ _ p9.dz jh zt
        rw [h1]
        have QA:=adf kc v' w' h4 (by rw [U8]; exact h3)
        cases nx with
        | value u=>
          have:u=v':=h2
          subst this
          exact QA
        | skip=>
          have:v' = undef:=h2
          subst this
          exact QA
        | _=>exact h2.elim
    | call f args=>
      simp only [je] at fZ
      obtain ⟨⟨g,vs⟩,Ep,fZ⟩:=Option.bind_eq_some_iff.1 fZ
      obtain ⟨⟨v,B⟩,zt,fZ⟩:=Option.bind_eq_some_iff.1 fZ
      cases hb:Nat.ble (fK A0 R0) B.next with
      | false=>rw [hb] at fZ; simp at fZ
      | true=>
        rw [hb] at fZ
        simp only [cond_true,Option.some.injEq] at fZ
        have xL:r.jH = .act B:=by rw [← fZ]
        have U8:r.v=v:=by rw [← fZ]
        have KS:r.nx=B.next:=by rw [← fZ]
        obtain ⟨p9,adf⟩:=hI.adb hS vY hc hr e hv hi ho fP jv lW xL (by rw [KS]; exact Nat.le_of_ble_eq_true hb) KS
        exact Xe bc fo jh Ep zt p9.dz fun kc v' w' h3 h4=>adf kc v' w' h4 (by rw [U8]; exact h3)
    | bad=>simp [je] at fZ
theorem FB {P:Program} {call:db} {rd:Option Nat} (fo:qU P call) (hm:P.follows .mixedOrders=true) {id:Nat} {all:List Oper} {N base:Nat} (Fz:all.all (pk N)=true) {t t1:Tm} {A:St} {R:List Rec} {ρ:ao} {a:Act} {w:World} {Q:Exit→Act→World→Prop}
    (bc:pj P all=true) (U9:tH P call (az [] all) all A all 0 [] t=some (R,t1)) (adg:qp (az [] all) R=true) (ae6:Jr (az [] all) A R) (ht:TR ρ t N a) (hs:jC ρ A base w)
    (hq:∀ ak a' w',TR ak t1 N a'→a'.defers=a.defers→da base ρ A w ak ((j9 (az [] all) A R (eM R) (fun _=>true)).at (fK A R)) w'→Q .normal a' w'):(Code.region id ⟨all⟩ true).wpIn (Fr rd) 0 P Q a w:=by
      obtain ⟨hv,rfl,hlen⟩:=KL (P:=P) (call:=call) (all:=all) (A0:=A) (t0:=t) all [] R t1 (by simp) trivial U9
      have hS:Setup P call all A t R:=⟨qv bc,hv,by simpa using hlen,adg,ae6⟩
      have hsd:jC ρ A base w.drew:=(da.drew hs).dz
      refine wpIn_region_any hm ?_
      show wpAnyIn (Fr rd) 0 P .any ⟨all⟩ Q all.length (Array.replicate all.length false) a w.drew
      have sS:∀ i,(Array.replicate all.length false).getD i false=false:=by
        intro i
        rw [Array.getD_eq_getD_getElem?,Array.getElem?_replicate]
        split <;> rfl
      have Jt:∀ i,(fun j=>(Array.replicate all.length false).getD j false) i=true→False:=fun i h=>by
        have h2:(Array.replicate all.length false).getD i false=true:=h
        rw [sS] at h2
        simp at h2
      refine NN hS.facts (fun S a' w'=>∃ ak,Inv all A t R N a.defers base ρ w.drew S a' w' ak) (fun S S' a' w' QB ⟨ak,hI⟩=>⟨ak,hI.congr hS QB⟩)
        (fun S a' w' i o hI hc ho fP jv _=>Xg fo hS hsd Fz ht.none hI hc ho fP jv) ?_ all.length _ a w.drew (by simp) ?_ (fun i j hi _=>(Jt i hi).elim) ⟨ρ,?_⟩
      · rintro S a' w' im ⟨ak,hI⟩
        have p9:=hI.view hS hsd (fun _=>true) (fun r hr _ _ _ _=>im _ (by rw [← hS.len]; exact hS.valid.lt hr)) (fK A R) ?_ (fun r hr _ _ _ _ _=>hS.valid.qw hr)
        · have hlS:lS R S=eM R:=by
            have:R=R.filter (fun _=>true):=(List.filter_eq_self.2 fun _ _=>rfl).symm
            conv=>rhs; rw [this]
            exact vj R fun s hs _=>im _ (by rw [← hS.len]; exact hS.valid.lt hs)
          rw [hlS] at p9
          refine hq (ak.res (fK A R)) a' w' ⟨hI.size,fun x=>?_,fun x hx=>?_,hI.mS hsd hS.valid.xI⟩ hI.defers ((da.drew hs).trans p9)
          · have h1:=hI.tm x
            have hw:writer all R S x=R.find? (fun r=>mg all r.i == some x):=find_congr R fun s hs=>by rw [im _ (by rw [← hS.len]; exact hS.valid.lt hs)]; simp
            unfold Qu valOf at h1
            rw [hw] at h1
            rw [zy]
            cases hf:R.find? (fun r=>mg all r.i == some x) with
            | none=>rw [hf] at h1; exact h1.mono (ak.r6 hS.valid.xI)
            | some s=>rw [hf] at h1; exact h1.mono (ak.r6 (hS.valid.qw (List.mem_of_find?_eq_some hf)))
          · rw [zy]
            cases hf:R.find? (fun r=>mg all r.i == some x) with
            | none=>exact ht.none x hx
            | some s=>
              exfalso
              have h1:=List.find?_some hf
              simp only [beq_iff_eq] at h1
              unfold mg at h1
              obtain ⟨os,h2,h3⟩:=Option.bind_eq_some_iff.1 h1
              have:=List.all_eq_true.1 Fz os (List.mem_of_getElem? h2)
              unfold pk at this
              rw [h3] at this
              simp only at this
              rw [Nat.blt_eq] at this
              omega
        · rcases hS.last S with ⟨_,h2,_⟩ | ⟨y,hy,h1,h2,h3,h4,h5⟩
          · rw [h2]; exact hS.valid.xI
          · rw [← h4]; exact hS.valid.qw hy
      · simp
      · have ae7:∀ i,(fun j=>(Array.replicate all.length false).getD j false) i=false:=sS
        have hl:lS R (fun j=>(Array.replicate all.length false).getD j false)=none:=by
          have:R.filter (fun r=>(fun j=>(Array.replicate all.length false).getD j false) r.i) = []:=by
            rw [List.filter_eq_nil_iff]
            intro r _
            rw [ae7]; simp
          unfold lS
          rw [this]
          rfl
        have hw:∀ x,writer all R (fun j=>(Array.replicate all.length false).getD j false) x=none:=by
          intro x
          unfold writer
          rw [List.find?_eq_none]
          intro r _ Fy
          exact Jt r.i (Bool.and_eq_true_iff.1 Fy).1
        have ua:di A R (fun j=>(Array.replicate all.length false).getD j false)=A:=by unfold di; rw [hl]; rfl
        have AA:ρ.res A.next=ρ:=by
          funext b
          unfold ao.res
          split
          · rfl
          · rename_i hb
            cases gL:ρ b with
            | none=>rfl
            | some l=>exact absurd (hs.gk b l gL) hb
        refine ⟨ht.size,rfl,fun x=>?_,?_,?_,?_,?_,?_⟩
        · unfold Qu valOf
          rw [hw]
          show VR (ρ.res A.next) _ _
          rw [AA]
          exact ht.val x
        · rw [ua,AA]; exact da.refl hsd
        · intro r hr h1; exact (Jt r.i h1).elim
        · intro r hr s Kz h1; exact (Jt r.i h1).elim
        · intro r hr _ idn ob hd
          cases gL:ρ idn with
          | none=>rfl
          | some l=>
            have h1:=hs.gk idn l gL
            have h2:=(hS.xK hr hd).1
            omega
        · rw [ua]; intro b l h1; exact .inl (hs.gk b l h1)
end
theorem Va {P:Program} {call:db} {rd:Option Nat} (fo:qU P call) (hm:P.follows .mixedOrders=true) {id:Nat} {all:List Oper} {N base:Nat} (Fz:all.all (pk N)=true) {t t' : Tm} {A B:St} {ρ:ao} {a:Act} {w:World} {Q:Exit→Act→World→Prop}
    (h:Kq P call all t A=some (t',B)) (ht:TR ρ t N a) (hs:jC ρ A base w) (hq:∀ ak a' w',TR ak t' N a'→a'.defers=a.defers→da base ρ A w ak B w'→Q .normal a' w'):(Code.region id ⟨all⟩ true).wpIn (Fr rd) 0 P Q a w:=by
  unfold Kq at h
  cases bc:pj P all with
  | false=>rw [bc] at h; simp at h
  | true=>
    rw [bc,cond_true] at h
    obtain ⟨⟨R,t1⟩,U9,h⟩:=Option.bind_eq_some_iff.1 h
    cases Fm:(qp (az [] all) R && BW (az [] all) A R (kN R) R) with
    | false=>simp only [Fm] at h; simp at h
    | true=>
      simp only [Fm,cond_true,Option.some.injEq,Prod.mk.injEq] at h
      obtain ⟨rfl,rfl⟩:=h
      obtain ⟨adg,ahc⟩:=Bool.and_eq_true_iff.1 Fm
      exact FB fo hm Fz bc U9 adg (SW ahc) ht hs hq
theorem xM {A0:St} : ∀ {R:List Rec},Jq A0 R→eM R=none∧fK A0 R=A0.next∧kN R = [none]∧∀ kh A,m4 kh A R=A
  | [],_=>⟨rfl,rfl,rfl,fun _ _=>rfl⟩
  | r :: R,h=>by
    obtain ⟨h1,h2,h3,h4⟩:=xM (R:=R) fun s hs=>h s (by simp [hs])
    obtain ⟨h5,h6⟩:=h r (by simp)
    rcases h6 with h6 | ⟨f,vs,h6⟩ <;> exact ⟨by simp [eM,h6,h1],h5,by simp [kN,h6,h3],fun kh A=>by simp [m4,h6,h4]⟩
theorem FC {A0:St} {R:List Rec} (h:Jq A0 R) (b:List Nat) (kh:Nat→Bool):j9 b A0 R none kh=A0:=by
  unfold j9
  rw [(xM h).2.2.2]
  rfl
theorem KX {A0:St} (b:List Nat):∀ {R:List Rec},Jq A0 R→qp b R=true
  | [],_=>rfl
  | r :: R,h=>by
    have ih:=KX b (R:=R) fun s hs=>h s (by simp [hs])
    rcases (h r (by simp)).2 with h6 | ⟨f,vs,h6⟩ <;> simp [qp,h6,ih]
theorem Vb {A0:St} {R:List Rec} {b:List Nat} {r:Rec} (h:Jq A0 R) (hr:r ∈ R):Still b A0 R r:=
  ⟨fun s hs id ob e=>by rcases (h s hs).2 with h1 | ⟨f,vs,h1⟩ <;> rw [h1] at e <;> simp at e,fun e he _=>by
    rw [(xM h).2.2.1] at he
    simp at he
    subst he
    exact Nat.le_of_eq (h r hr).1.symm⟩
def QC (A0:St) (R:List Rec):Prop:=∀ r ∈ R,∀ f vs,r.jH = .read f vs→f A0 vs=some r.v
theorem KY {P:Program} {call:db} {b:List Nat} {all:List Oper} {A0:St} : ∀ (os:List Oper) (i:Nat) (R:List Rec) (t t' : Tm) (B:St),(os.all fun o=>BX (compile P o.op))=true→Jq A0 R→QC A0 R→
    opsV P call all os t A0=some (t',B)→B=A0∧∃ R',tH P call b all A0 os i R t=some (R',t')∧Jq A0 R'∧QC A0 R'
  | [],i,R,t,t',B,_,hq,hr,h=>by
    simp only [TC,Option.some.injEq,Prod.mk.injEq] at h
    obtain ⟨rfl,rfl⟩:=h
    exact ⟨rfl,R,rfl,hq,hr⟩
  | o :: os,i,R,t,t',B,hl,hq,hr,h=>by
    rw [List.all_cons,Bool.and_eq_true] at hl
    obtain ⟨Dn,kK⟩:=hl
    simp only [PQ] at h
    obtain ⟨wd,EM,h⟩:=Option.bind_eq_some_iff.1 h
    obtain ⟨q1,q2,q3,q4⟩:=xM hq
    have p9:=FC hq b (dV b i)
    have step:∀ r:Rec,u9 P call b all A0 R i t o=some r→r.nx=A0.next→(r.jH = .val∨∃ f vs,r.jH = .read f vs)→(∀ f vs,r.jH = .read f vs→f A0 vs=some r.v)→opsV P call all os (u5 t o.dst r.v) A0=some (t',B)→
        B=A0∧∃ R',tH P call b all A0 (o :: os) i R t=some (R',t')∧Jq A0 R'∧QC A0 R':=by
      intro r h1 h2 h3 h4 h5
      obtain ⟨e,R',h6,h7,h8⟩:=KY os (Nat.succ i) (r :: R) _ t' B kK (fun s hs=>by
        rcases List.mem_cons.1 hs with rfl | hs
        · exact ⟨h2,h3⟩
        · exact hq s hs) (fun s hs=>by
        rcases List.mem_cons.1 hs with rfl | hs
        · exact h4
        · exact hr s hs) h5
      exact ⟨e,R',by simp only [tH,h1,Option.bind_some]; exact h6,h7,h8⟩
    cases wd with
    | false=>
      rw [cond_false] at h
      exact step ⟨i,undef,fK A0 R,.val⟩ (by simp [u9,EM]) q2 (.inl rfl) (fun f vs hd=>by simp at hd) h
    | true=>
      rw [cond_true] at h
      obtain ⟨⟨v,C⟩,h1,h2⟩:=Option.bind_eq_some_iff.1 h
      cases hc:compile P o.op with
      | pure f xs=>
        rw [hc] at h1
        simp only [ot] at h1
        obtain ⟨u,hu,he⟩:=Option.map_eq_some_iff.1 h1
        simp at he
        obtain ⟨rfl,rfl⟩:=he
        exact step ⟨i,u,fK A0 R,.val⟩ (by simp [u9,EM,hc,je,hu]) q2 (.inl rfl) (fun f vs hd=>by simp at hd) h2
      | read f xs=>
        rw [hc] at h1
        simp only [ot] at h1
        obtain ⟨u,hu,he⟩:=Option.map_eq_some_iff.1 h1
        simp at he
        obtain ⟨rfl,rfl⟩:=he
        exact step ⟨i,u,fK A0 R,.read f (xs.map (ma t))⟩ (by simp [u9,EM,hc,je,q1,p9,hu]) q2 (.inr ⟨_,_,rfl⟩) (fun f' vs hd=>by simp at hd; obtain ⟨rfl,rfl⟩:=hd; exact hu) h2
      | make f xs=>rw [hc] at Dn; simp [BX] at Dn
      | act f xs=>rw [hc] at Dn; simp [BX] at Dn
      | call f xs=>rw [hc] at Dn; simp [BX] at Dn
      | bad=>rw [hc] at Dn; simp [BX] at Dn
theorem Vc {P:Program} {call:db} {rd:Option Nat} (fo:qU P call) (hm:P.follows .mixedOrders=true) {id:Nat} {all:List Oper} {N base:Nat} (Fz:all.all (pk N)=true) {t t' : Tm} {A B:St} {ρ:ao} {a:Act} {w:World} {Q:Exit→Act→World→Prop}
    (hqv:GZ P all=true) (h:opsV P call all all t A=some (t',B)) (ht:TR ρ t N a) (hs:jC ρ A base w) (hq:∀ ak a' w',TR ak t' N a'→a'.defers=a.defers→da base ρ A w ak B w'→Q .normal a' w'):(Code.region id ⟨all⟩ true).wpIn (Fr rd) 0 P Q a w:=by
  obtain ⟨bc,hl⟩:=Bool.and_eq_true_iff.1 hqv
  obtain ⟨rfl,R,U9,h1,h2⟩:=KY (b:=az [] all) all 0 [] t t' B hl (fun r hr=>by simp at hr) (fun r hr=>by simp at hr) h
  obtain ⟨q1,q2,q3,q4⟩:=xM h1
  refine FB fo hm Fz bc U9 (KX _ h1) (fun r hr f vs hd=>⟨.inr (Vb h1 hr),fun e he _=>?_⟩) ht hs fun ak a' w' v5 v7 hg=>?_
  · rw [q3] at he
    simp at he
    subst he
    rw [FC h1]
    exact h2 r hr f vs hd
  · rw [q1,FC h1,q2] at hg
    exact hq ak a' w' v5 v7 hg
end
end Go.av
end
