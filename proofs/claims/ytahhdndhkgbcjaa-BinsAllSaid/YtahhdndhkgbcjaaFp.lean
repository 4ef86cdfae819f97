/- Part of the proof of BinsAll: a machine that runs the program's code over open terms, shown to be the model's, and the plain models of its functions. No conditions. -/
import Derived.Test.YtahhdndhkgbcjaaEp
section
namespace Go.K
open Go Go.av
variable {P:Program} {E:Env}
def Env.yC (E:Env) (b:Nat) (p:Nat×Nat×Nat):Env:={ E with α:=fun c=>if c=b then some p else E.α c }
theorem Env.adA {A:aj} {B:St} {p:Nat×Nat×Nat} (h:ek P E A B):E.le (E.yC A.next p):=⟨fun b q e=>by
  have:=h.ar.gk b q e
  simp only [Env.yC]; rw [if_neg (by omega)]; exact e,fun _ _ e=>e,fun _ _ e=>e,fun _ _ e=>e⟩
theorem Env.wP {b:Nat} {p:Nat×Nat×Nat} : (E.yC b p).α b=some p:=by simp [Env.yC]
theorem Env.Cw {b c:Nat} {p:Nat×Nat×Nat} (h:c≠b):(E.yC b p).α c=E.α c:=by simp [Env.yC,h]
theorem dm.Lj {A A1:aj} {B B' : St} {X G:Nat→Prop} {y2 N2:Nat} {T:TypeId} {nB:List KV} {kZ:Nat→KV} {yy kb:List Value} {pq:Option (Nat×Nat)} (h:ek P E A B)
    (qf:A1.next=A.next) (DQ:∀ c o,A1.get c=some o→A.get c=some o∨(o = .dead∧c < A.next))
    (f1:∀ c v,A1.get c=some (.arr v)→∀ y L N,E.α c=some (y,L,N)→¬ X y∧∀ cs e own g k,B.get y=some (.row cs e own (some (g,k)))→¬ G g)
    (f2:∀ y,X y→AR A E y) (f3:∀ g,G g→AF A E B g∧g < B.next∧(∀ f,E.φ f≠some g)∧∀ y ∈ B.members g,¬ X y→E.z y=none∧¬ AR A E y∧∀ c,E.κ c≠some y)
    (n1:X y2∨B.next≤y2) (n1' : y2 < B'.next) (XO:B'.get y2=some (.row kb (aQ P T) true pq)) (n2:∀ g k,pq=some (g,k)→G g∨(B.next≤g∧g < B'.next))
    (b1:∀ y,y < B.next→¬ X y→B'.get y=B.get y∨(B'.get y=some .dead∧∃ g,G g∧y ∈ B.members g))
    (b2:∀ y,X y→∀ cs e own bo,B'.get y=some (.row cs e own bo)→∃ c,B.get y=some (.row c e own bo)∧c.length=cs.length)
    (b3:∀ q y,y ∈ B'.members q→y ∈ B.members q∨(y=y2∧B.next≤y2∧∃ k,pq=some (q,k))) (b3' : ∀ q,(∀ k,pq≠some (q,k))→B'.members q=B.members q)
    (b4:B.next≤B'.next) (b4' : ∀ g,B'.next≤g→B'.members g = []) (ahy:∀ g y,y ∈ B'.members g→y < B'.next)
    (du:1≤aQ P T) (ht:gM P T N2 nB kZ) (F3:aP P E nB yy) (hl:mU (aQ P T) 0 kb yy) :
    dm P E A B (E.yC A.next (y2,kb.length,N2)) (A1.new (.arr (.ts T .any N2 nB kZ))) B':=by
  have hle:=Env.adA (p:=(y2,kb.length,N2)) h
  have adB:E.α A.next=none:=by
    cases hq:E.α A.next with
    | none=>rfl
    | some p=>have:=h.ar.gk _ p hq; omega
  have hXlt:∀ y,X y→y < B.next:=fun y hy=>h.AK (f2 y hy)
  have F4:∀ y,y < B.next→¬ X y→(E.z y≠none∨AR A E y∨∃ c,E.κ c=some y)→B'.get y=B.get y:=by
    intro y aL hy hs
    rcases b1 y aL hy with e | ⟨_,g,hg,h2⟩
    · exact e
    · obtain ⟨_,_,_,h3⟩:=f3 g hg
      obtain ⟨h4,h5,h6⟩:=h3 y h2 hy
      rcases hs with hs | hs | ⟨c,hs⟩
      · exact absurd h4 hs
      · exact absurd hs h5
      · exact absurd hs (h6 c)
  have hXz:∀ y,X y→E.z y=none∧∀ c,E.κ c≠some y:=fun y hy=>h.ar.z y (f2 y hy)
  have iR:∀ c o,(A1.new (.arr (.ts T .any N2 nB kZ))).get c=some o→(c=A.next∧o = .arr (.ts T .any N2 nB kZ))∨(c≠A.next∧A1.get c=some o):=fun c o hc=>by
    rw [aj.cK,qf] at hc
    split at hc
    · rename_i e; simp at hc; exact .inl ⟨e,hc.symm⟩
    · rename_i e; exact .inr ⟨e,hc⟩
  have hold:∀ c o,A1.get c=some o→o≠.dead→A.get c=some o:=fun c o hc hd=>by
    rcases DQ c o hc with e | ⟨e,_⟩
    · exact e
    · exact absurd e hd
  have j8:∀ c v,(A1.new (.arr (.ts T .any N2 nB kZ))).get c=some (.arr v)→(c=A.next∧v = .ts T .any N2 nB kZ∧(E.yC A.next (y2,kb.length,N2)).α c=some (y2,kb.length,N2))∨(c≠A.next∧A1.get c=some (.arr v)∧A.get c=some (.arr v)∧(E.yC A.next (y2,kb.length,N2)).α c=E.α c):=fun c v hc=>by
    rcases iR c _ hc with ⟨e,e2⟩ | ⟨e,e2⟩
    · simp at e2
      exact .inl ⟨e,e2,by rw [e]; exact Env.wP⟩
    · exact .inr ⟨e,e2,hold c _ e2 (by simp),Env.Cw e⟩
  have yT:∀ c v y L N,A1.get c=some (.arr v)→E.α c=some (y,L,N)→AR A E y∧¬ X y∧y < B.next∧B'.get y=B.get y:=fun c v y L N h1 h2=>by
    have h3:AR A E y:=⟨c,v,L,N,hold c _ h1 (by simp),h2⟩
    obtain ⟨h4,_⟩:=f1 c v h1 y L N h2
    have h5:=h.AK h3
    exact ⟨h3,h4,h5,F4 y h5 h4 (.inr (.inl h3))⟩
  have F5:∀ y,AR (A1.new (.arr (.ts T .any N2 nB kZ))) (E.yC A.next (y2,kb.length,N2)) y→y=y2∨(AR A E y∧¬ X y):=fun y q=>by
    obtain ⟨c,v,L,M,h1,h2⟩:=q
    rcases j8 c v h1 with ⟨_,_,e⟩ | ⟨_,e1,e2,e⟩
    · rw [e] at h2; simp at h2; exact .inl h2.1.symm
    · rw [e] at h2
      obtain ⟨h3,h4,_⟩:=yT c v y L M e1 h2
      exact .inr ⟨h3,h4⟩
  have adC:∀ y,y=y2→AR A E y∨B.next≤y:=fun y e=>by
    subst e
    exact n1.imp (f2 y) id
  have XN:∀ g,AF (A1.new (.arr (.ts T .any N2 nB kZ))) (E.yC A.next (y2,kb.length,N2)) B' g→(∃ k,pq=some (g,k))∨(AF A E B g∧¬ G g∧g < B.next):=fun g q=>by
    obtain ⟨c,v,y,L,M,m7,e,own,k,h1,h2,h3⟩:=q
    rcases j8 c v h1 with ⟨_,_,e⟩ | ⟨_,e1,e2,e⟩
    · rw [e] at h2
      simp at h2
      rw [← h2.1,XO] at h3
      simp at h3
      exact .inl ⟨k,h3.2.2.2⟩
    · rw [e] at h2
      obtain ⟨_,_,_,h4⟩:=yT c v y L M e1 h2
      rw [h4] at h3
      refine .inr ⟨⟨c,v,y,L,M,m7,_,own,k,e2,h2,h3⟩,(f1 c v e1 y L M h2).2 _ _ _ _ _ h3,(h.ar.pT c v y L M _ _ _ g k e2 h2 h3).1⟩
  have af0:∀ g,(∃ k,pq=some (g,k))→AF A E B g∨B.next≤g:=fun g ⟨k,e⟩=>by
    rcases n2 g k e with hg | ⟨hg,_⟩
    · exact .inl (f3 g hg).1
    · exact .inr hg
  refine ⟨⟨?_,?_,?_,h.apart,h.inj,?_,fun b x e=>by rw [aj.bV,qf]; have:=h.gk b x e; omega,fun b g e=>by rw [aj.bV,qf]; have:=h.lM b g e; omega,?_,fun b x e=>by have:=h.fB b x e; omega,fun b r e=>by have:=h.lX b r e; omega,fun b g e=>by have:=h.ji b g e; omega,b4',ahy,?_⟩,hle,by rw [aj.bV,qf]; omega,?_,fun _ _ e=>.inl e,fun _ _ e=>.inl e,fun _ _ e=>.inl e,?_,fun y q=>?_,fun g q=>?_,fun g y q=>?_,fun y q=>?_,?_⟩
  · intro c m7 bm hc
    rcases iR c _ hc with ⟨_,e⟩ | ⟨_,e⟩
    · simp at e
    · obtain ⟨y,c1,h1,h2,h3⟩:=h.row c m7 bm (hold c _ e (by simp))
      have hy : ¬ X y:=fun e=>(hXz y e).2 c h1
      exact ⟨y,c1,h1,by rw [F4 y (h.fB c y h1) hy (.inr (.inr ⟨c,h1⟩))]; exact h2,h3.mono hle⟩
  · intro c top zI hc
    rcases iR c _ hc with ⟨_,e⟩ | ⟨_,e⟩
    · simp at e
    · rcases h.aW c top zI (hold c _ e (by simp)) with h1 | ⟨g,h1,h2,h3⟩
      · exact .inl h1
      · refine .inr ⟨g,h1,h2,fun y hy m7 e own f k hr=>?_⟩
        have hgG:∀ k,pq≠some (g,k):=fun k e=>by
          rcases n2 g k e with hg | ⟨hg,_⟩
          · exact (f3 g hg).2.2.1 c h1
          · have:=h.ji c g h1; omega
        rw [b3' g hgG] at hy
        have aL:=h.mem g y hy
        by_cases xQ:X y
        · obtain ⟨c0,h4,h5⟩:=b2 y xQ _ _ _ _ hr
          obtain ⟨h6,h7⟩:=h3 y hy c0 _ _ f k h4
          exact ⟨h6,by rw [← h5]; exact h7⟩
        · rcases b1 y aL xQ with e1 | ⟨e1,_⟩
          · rw [e1] at hr; exact h3 y hy m7 _ own f k hr
          · rw [e1] at hr; simp at hr
  · intro y r hy
    have hy:E.z y=some r:=hy
    have xQ : ¬ X y:=fun e=>by have:=(hXz y e).1; rw [hy] at this; simp at this
    rw [F4 y (h.lX y r hy) xQ (.inl (by rw [hy]; simp))]
    exact h.z y r hy
  · intro b c g tb sb tc sc hb hc e1 e2
    rcases iR b _ hb with ⟨_,e⟩ | ⟨_,hb⟩
    · simp at e
    rcases iR c _ hc with ⟨_,e⟩ | ⟨_,hc⟩
    · simp at e
    exact h.iH b c g _ _ _ _ (hold b _ hb (by simp)) (hold c _ hc (by simp)) e1 e2
  · intro c o hc
    rw [aj.bV,qf]
    rcases iR c _ hc with ⟨e,_⟩ | ⟨_,e⟩
    · omega
    · rcases DQ c o e with e | ⟨_,e⟩
      · have:=h.live c o e; omega
      · omega
  · refine ⟨?_,?_,?_,?_,?_,?_,?_,?_,?_,?_⟩
    · intro c v hc
      rcases j8 c v hc with ⟨_,rfl,e⟩ | ⟨_,e1,e2,e⟩
      · exact ⟨T,N2,nB,kZ,rfl,ht,du,.inr ⟨y2,kb,pq,yy,e,XO,F3.mono hle,hl⟩⟩
      · exact (h.ar.arr c v e2).mono hle e fun y L M hy=>(yT c v y L M e1 hy).2.2.2
    · intro c v hc
      rcases iR c _ hc with ⟨_,e⟩ | ⟨bR,e⟩
      · simp at e
      · exact (h.ar.iD c v (hold c _ e (by simp))).mono hle (Env.Cw bR)
    · intro y q
      rcases F5 y q with e | ⟨e,_⟩
      · subst e
        rcases n1 with hx | hx
        · exact hXz y hx
        · refine ⟨?_,fun c e=>by have:=h.fB c y e; omega⟩
          cases hz:E.z y with
          | none=>exact hz
          | some r=>have:=h.lX y r hz; omega
      · exact h.ar.z y e
    · intro c d v u y L M L' M' h1 h2 h3 h4
      rcases j8 c v h1 with ⟨e1,_,e⟩ | ⟨_,p1,p2,e⟩ <;> rcases j8 d u h2 with ⟨e2,_,e'⟩ | ⟨_,q1,q2,e'⟩
      · omega
      · rw [e] at h3; rw [e'] at h4
        simp at h3
        obtain ⟨_,h5,h6,_⟩:=yT d u y L' M' q1 h4
        rw [← h3.1] at h5 h6
        rcases n1 with hx | hx
        · exact absurd hx h5
        · omega
      · rw [e] at h3; rw [e'] at h4
        simp at h4
        obtain ⟨_,h5,h6,_⟩:=yT c v y L M p1 h3
        rw [← h4.1] at h5 h6
        rcases n1 with hx | hx
        · exact absurd hx h5
        · omega
      · rw [e] at h3; rw [e'] at h4
        exact h.ar.inj c d v u y L M L' M' p2 q2 h3 h4
    · intro c d v u y w L M L' M' m7 e own g k cs3 e' nC k' h1 h2 h3 h4 h5 h6
      have zL:∀ {c v y L M m7 e own k k2},A1.get c=some (.arr v)→E.α c=some (y,L,M)→B'.get y=some (.row m7 e own (some (g,k)))→pq=some (g,k2)→False:=by
        intro c v y L M m7 e own k k2 q1 q2 q3 q4
        obtain ⟨r1,r2,r3,r4⟩:=yT c v y L M q1 q2
        rw [r4] at q3
        rcases n2 g k2 q4 with hg | ⟨hg,_⟩
        · exact (f1 c v q1 y L M q2).2 _ _ _ _ _ q3 hg
        · have:=(h.ar.pT c v y L M _ _ _ g k (hold c _ q1 (by simp)) q2 q3).1; omega
      rcases j8 c v h1 with ⟨e1,_,ea⟩ | ⟨_,p1,p2,ea⟩ <;> rcases j8 d u h2 with ⟨e2,_,eb⟩ | ⟨_,q1,q2,eb⟩
      · omega
      · rw [ea] at h3; rw [eb] at h4
        simp at h3
        rw [← h3.1,XO] at h5
        simp at h5
        exact (zL q1 h4 h6 h5.2.2.2).elim
      · rw [ea] at h3; rw [eb] at h4
        simp at h4
        rw [← h4.1,XO] at h6
        simp at h6
        exact (zL p1 h3 h5 h6.2.2.2).elim
      · rw [ea] at h3; rw [eb] at h4
        rw [(yT c v y L M p1 h3).2.2.2] at h5
        rw [(yT d u w L' M' q1 h4).2.2.2] at h6
        exact h.ar.qT c d v u y w L M L' M' _ _ _ g k _ _ _ k' p2 q2 h3 h4 h5 h6
    · intro b x e
      have hb:=h.gk b x e
      rw [Env.Cw (by omega)]
      exact h.ar.QV b x e
    · intro b p e
      rw [aj.bV,qf]
      by_cases hb:b=A.next
      · omega
      · rw [Env.Cw hb] at e; have:=h.ar.gk b p e; omega
    · intro b x L N e
      by_cases hb:b=A.next
      · subst hb; rw [Env.wP] at e; simp at e; omega
      · rw [Env.Cw hb] at e; have:=h.ar.fB b x L N e; omega
    · intro c v y L M m7 e own g k h1 h2 h3
      rcases j8 c v h1 with ⟨_,_,ea⟩ | ⟨_,p1,p2,ea⟩
      · rw [ea] at h2
        simp at h2
        obtain ⟨rfl,_⟩:=h2
        rw [XO] at h3
        simp at h3
        have hk:=h3.2.2.2
        refine ⟨?_,fun f e=>?_,fun z hz bR=>?_⟩
        · rcases n2 g k hk with hg | ⟨_,hg⟩
          · have:=(f3 g hg).2.1; omega
          · exact hg
        · rcases n2 g k hk with hg | ⟨hg,_⟩
          · exact (f3 g hg).2.2.1 f e
          · have:=h.ji f g e; omega
        · rcases b3 g z hz with hz | ⟨e,_⟩
          · rcases n2 g k hk with hg | ⟨hg,_⟩
            · by_cases aaY:X z
              · exact ⟨(hXz z aaY).1,fun q=>by
                  rcases F5 z q with e | ⟨_,e⟩
                  · exact bR e
                  · exact e aaY,(hXz z aaY).2⟩
              · obtain ⟨h7,h8,h9⟩:=(f3 g hg).2.2.2 z hz aaY
                refine ⟨h7,fun q=>?_,h9⟩
                rcases F5 z q with e | ⟨e,_⟩
                · exact bR e
                · exact h8 e
            · rw [h.fresh g hg] at hz; simp at hz
          · exact absurd e bR
      · rw [ea] at h2
        obtain ⟨r1,r2,r3,r4⟩:=yT c v y L M p1 h2
        rw [r4] at h3
        obtain ⟨h4,h5,h6⟩:=h.ar.pT c v y L M _ _ _ g k p2 h2 h3
        refine ⟨by omega,h5,fun z hz bR=>?_⟩
        have hnG:=(f1 c v p1 y L M h2).2 _ _ _ _ _ h3
        rw [b3' g (fun k e=>by
          rcases n2 g k e with hg | ⟨hg,_⟩
          · exact hnG hg
          · omega)] at hz
        obtain ⟨h7,h8,h9⟩:=h6 z hz bR
        refine ⟨h7,fun q=>?_,h9⟩
        rcases F5 z q with e | ⟨e,_⟩
        · subst e
          rcases n1 with hx | hx
          · exact h8 (f2 z hx)
          · have:=h.mem g z hz; omega
        · exact h8 e
    · intro c v hc
      rw [aj.bV,qf]
      rcases j8 c v hc with ⟨e1,_,_⟩ | ⟨_,_,e2,_⟩
      · subst e1
        refine ⟨Nat.lt_succ_self _,?_⟩
        show E.κ A.next=none
        cases hk:E.κ A.next with
        | none=>rfl
        | some x=>have:=h.gk _ x hk; omega
      · obtain ⟨q1,q2⟩:=h.ar.nk c v e2
        exact ⟨by omega,q2⟩
  · intro y hy hn ha
    by_cases xQ:X y
    · exact absurd (.inl (f2 y xQ)) ha
    · rcases b1 y hy xQ with e | ⟨_,g,hg,h2⟩
      · exact e
      · exact absurd (.inr ⟨g,(f3 g hg).1,h2⟩) ha
  · intro g hg hn ha
    refine b3' g fun k e=>?_
    rcases n2 g k e with Bk | ⟨Bk,_⟩
    · exact ha (f3 g Bk).1
    · omega
  · rcases F5 y q with e | ⟨e,_⟩
    · exact adC y e
    · exact .inl e
  · rcases XN g q with e | ⟨e,_⟩
    · exact af0 g e
    · exact .inl e
  · rcases b3 g y q with e | ⟨e,e2,_⟩
    · exact .inl e
    · exact .inr (by omega)
  · rcases q with q | ⟨g,h1,h2⟩
    · rcases F5 y q with e | ⟨e,_⟩
      · rcases adC y e with e | e
        · exact .inl (.inl e)
        · exact .inr e
      · exact .inl (.inl e)
    · rcases b3 g y h2 with e | ⟨e,e2,_⟩
      · rcases XN g h1 with e1 | ⟨e1,_⟩
        · rcases af0 g e1 with e2 | e2
          · exact .inl (.inr ⟨g,e2,e⟩)
          · rw [h.fresh g e2] at e; simp at e
        · exact .inl (.inr ⟨g,e1,e⟩)
      · exact .inr (by omega)
  · intro y hy m7 e own Li hr
    by_cases xQ:X y
    · exact b2 y xQ m7 e own Li hr
    · rcases b1 y hy xQ with e1 | ⟨e1,_⟩
      · exact ⟨m7,by rw [← e1]; exact hr,rfl⟩
      · rw [e1] at hr; simp at hr
end Go.K
end
section
namespace Go.K
open Go Go.av
variable {P:Program} {E:Env}
theorem dm.agz {A:aj} {B:St} {c:List Value} {n:Nat} (h:ek P E A B):dm P E A B (E.fp B.next ⟨c,n,true,some (B.next,0)⟩) A (B.grow B.next 0 c n):=by
  have gp:∀ x,(B.grow B.next 0 c n).get x=if x=B.next then some (.row c n true (some (B.next,0))) else B.get x:=fun x=>by simp [St.grow]
  have kS:∀ q,(B.grow B.next 0 c n).members q=if q=B.next then B.next :: B.members B.next else B.members q:=fun q=>by simp [St.grow,St.xh]
  have fO:(B.grow B.next 0 c n).next=B.next+1:=rfl
  have hle:E.le (E.fp B.next ⟨c,n,true,some (B.next,0)⟩):=⟨fun _ _ e=>e,fun _ _ e=>e,fun b r e=>by
    have:=h.lX b r e
    simp only [Env.fp]; rw [if_neg (by omega)]; exact e,fun _ _ e=>e⟩
  generalize B.grow B.next 0 c n=B' at gp kS fO
  have uc:∀ x,x < B.next→B'.get x=B.get x:=fun x hx=>by rw [gp,if_neg (by omega)]
  have FZ:∀ b r,(E.fp B.next ⟨c,n,true,some (B.next,0)⟩).z b=some r→E.z b=some r∨B.next≤b:=fun b r e=>by
    simp only [Env.fp] at e
    split at e
    · exact .inr (by omega)
    · exact .inl e
  have OO:∀ q,AF A E B q→B'.members q=B.members q:=fun q hq=>by
    rw [kS,if_neg]
    intro e2
    obtain ⟨b,v,x,L,N,cs,e,own,k,h1,h2,h3⟩:=hq
    obtain ⟨h4,h5,_⟩:=h.ar.pT b v x L N cs e own q k h1 h2 h3
    omega
  have ZM:∀ q y,y ∈ B'.members q→y ∈ B.members q∨B.next≤y:=fun q y hy=>by
    rw [kS] at hy
    split at hy
    · rename_i e2
      subst e2
      rcases List.mem_cons.1 hy with hy | hy
      · exact .inr (by omega)
      · exact .inl hy
    · exact .inl hy
  refine ⟨⟨?_,?_,?_,?_,h.inj,h.iH,h.gk,h.lM,h.live,?_,?_,?_,?_,?_,h.ar.gY hle (fun _=>rfl) (fun _ _ e=>e) (fun _ _ e=>e) (Nat.le_refl _) (by omega) (fun x q=>uc x (h.AK q)) FZ (fun _ _ e=>.inl e) (fun b q e=>.inl ⟨b,e⟩) OO h.mem⟩,hle,Nat.le_refl _,?_,fun b x e=>.inl e,fun b r e=>(FZ b r e).imp id .inr,fun b q e=>.inl e,fun q hq hn _=>by rw [kS,if_neg (by omega)],fun _ q=>.inl q,fun _ q=>.inl (q.of (fun _=>rfl) (fun _ _ e=>e) fun x q=>uc x (h.AK q)),ZM,fun _ q=>.inl (q.of (fun _=>rfl) (fun _ _ e=>e) (fun x q=>uc x (h.AK q)) OO),lO uc⟩
  · intro b kR FY hb
    obtain ⟨x,d,h1,h2,h3⟩:=h.row b kR FY hb
    have:=h.fB b x h1
    exact ⟨x,d,h1,by rw [gp,if_neg (by omega)]; exact h2,h3.mono hle⟩
  · intro b top zI hb
    rcases h.aW b top zI hb with h1 | ⟨g,h1,Rb,h2⟩
    · exact .inl h1
    · have hg:=h.ji b g h1
      refine .inr ⟨g,h1,Rb,fun x hx d e own f k hr=>?_⟩
      rw [kS,if_neg (by omega)] at hx
      have:=h.mem g x hx
      rw [gp,if_neg (by omega)] at hr
      exact h2 x hx d e own f k hr
  · intro b r hb
    simp only [Env.fp] at hb
    rw [gp]
    split at hb
    · rename_i e; simp at hb; subst hb; rw [if_pos e]
    · rename_i e; rw [if_neg e]; exact h.z b r hb
  · intro b x hb
    have:=h.fB b x hb
    simp only [Env.fp]
    rw [if_neg (by omega)]
    exact h.apart b x hb
  · intro b x hb; have:=h.fB b x hb; omega
  · intro b r hb
    simp only [Env.fp] at hb
    rw [fO]
    split at hb
    · omega
    · have:=h.lX b r hb; omega
  · intro b g hb; have:=h.ji b g hb; omega
  · intro g hg
    rw [fO] at hg
    rw [kS,if_neg (by omega)]
    exact h.fresh g (by omega)
  · intro g x hx
    rw [fO]
    rw [kS] at hx
    split at hx
    · rcases List.mem_cons.1 hx with hx | hx
      · omega
      · have:=h.mem _ x hx; omega
    · have:=h.mem g x hx; omega
  · intro x hx _ _; rw [gp,if_neg (by omega)]
theorem dm.after {A A1 A2:aj} {B B2:St} {E2:Env} (h:dm P E A B E A1 B) (k:dm P E A1 B E2 A2 B2):dm P E A B E2 A2 B2 where
  dz:=k.dz
  le:=k.le
  next:=Nat.le_trans h.next k.next
  gY x hx hn ha:=k.gY x hx hn fun q=>(h.mK x q).elim ha fun e=>by omega
  new:=k.new
  qz b r e:=by
    rcases k.qz b r e with e | e | e
    · exact .inl e
    · exact .inr (h.lB b e)
    · exact .inr (.inr e)
  qA:=k.qA
  n9 g hg hn ha:=k.n9 g hg hn fun q=>(h.lN g q).elim ha fun e=>by omega
  lB x q:=(k.lB x q).elim (h.lB x) .inr
  lN g q:=(k.lN g q).elim (h.lN g) .inr
  rK:=k.rK
  mK y q:=(k.mK y q).elim (h.mK y) .inr
  rows:=k.rows
theorem dm.aaZ {A:aj} {B:St} {f t:Nat} (sz:Nat) (h:ek P E A B) {zI:Nat} (hA:A.get f=some (.aW t zI)) (Bs:E.φ f=none):dm P E A B E (A.put f (.aW 0 sz)) B:=by
  have Vy:∀ (b:Nat) (v:KV),(A.put f (.aW 0 sz)).get b=some (.arr v)→A.get b=some (.arr v):=fun b v hb=>by
    rw [aj.bO] at hb
    split at hb
    · simp at hb
    · exact hb
  have Ra:∀ (b:Nat) (v:KV),(A.put f (.aW 0 sz)).get b=some (.iD v)→A.get b=some (.iD v):=fun b v hb=>by
    rw [aj.bO] at hb
    split at hb
    · simp at hb
    · exact hb
  refine ⟨⟨fun b cs bm hb=>?_,fun b top zI hb=>?_,h.z,h.apart,h.inj,h.iH.put (.inr Bs),h.gk,h.lM,fun b o hb=>?_,h.fB,h.lX,h.ji,h.fresh,h.mem,h.ar.gY (Env.le_refl _) (fun _=>rfl) Vy Ra (Nat.le_refl _) (Nat.le_refl _) (fun _ _=>rfl) (fun _ _ e=>.inl e) (fun _ _ e=>.inl e) (fun b g e=>.inl ⟨b,e⟩) (fun _ _=>rfl) h.mem⟩,Env.le_refl _,Nat.le_refl _,fun _ _ _ _=>rfl,fun _ _ e=>.inl e,fun _ _ e=>.inl e,fun _ _ e=>.inl e,fun _ _ _ _=>rfl,fun _ q=>.inl (q.of (fun _=>rfl) Vy),fun _ q=>.inl (q.of (fun _=>rfl) Vy fun _ _=>rfl),fun _ _ q=>.inl q,fun _ q=>.inl (q.of (fun _=>rfl) Vy (fun _ _=>rfl) fun _ _=>rfl),lO fun _ _=>rfl⟩
  · rw [aj.bO] at hb
    split at hb
    · simp at hb
    · exact h.row b cs bm hb
  · rw [aj.bO] at hb
    split at hb
    · rename_i e2; simp at hb; exact .inl ⟨hb.1.symm,by rw [e2]; exact Bs⟩
    · exact h.aW b top zI hb
  · rw [aj.bO] at hb
    split at hb
    · rename_i e2; rw [e2]; exact h.live f _ hA
    · exact h.live b o hb
theorem adD {t:TypeId} (hu:P.underlying t=some (.int .u8)):bj P t=⟨false,[.int .u8]⟩:=by
  unfold bj
  rw [lay,hu]
  rfl
theorem VA {e:TypeId} (he:isByte P e=true):afT P (Jx e) Dc:=by
  intro E A B vs us v h hv hg
  unfold Jx at hg
  split at hg
  · rename_i s
    obtain ⟨u,rfl,h1⟩:=hv.dH
    have:=h1.pz; subst this
    have hg:KV.ts e .any s.size _ _=v:=hg
    subst hg
    have hu:P.underlying e=some (.int .u8):=by
      unfold isByte at he
      split at he
      · assumption
      · simp at he
    have af1:bj P e=⟨false,[.int .u8]⟩:=adD hu
    refine ⟨_,_,_,rfl,?_,dm.agz h⟩
    simp only [VK]
    have du:aQ P e=1:=by unfold aQ; rw [af1]; rfl
    refine ⟨⟨by simp,fun i hi=>?_,?_⟩,jD s.data.toList,?_,some ⟨B.next,0,none⟩,s.size,rfl,Nat.le_refl _,.inr ⟨B.next,0,⟨jD s.data.toList,1,true,some (B.next,0)⟩,rfl,by simp [Env.fp],du.symm,?_⟩,trivial⟩
    · have PE:i < s.data.toList.length:=by simpa using hi
      simp only [List.getD,List.getElem?_map,List.getElem?_eq_getElem PE,Option.map_some,Option.getD_some]
    · rw [af1]
      induction s.data.toList with
      | nil=>rfl
      | cons b l ih=>simp [eo,cZ,au,kindOk,ih]
    · generalize E.fp B.next _=E'
      induction s.data.toList with
      | nil=>exact .nil
      | cons b l ih=>exact .cons .mkInt ih
    · rw [du]
      intro i x hx
      obtain ⟨b,_,rfl⟩:∃ b,s.data.toList[i]? = some b∧x = .int .u8 b.toNat:=by
        simp only [jD,List.getElem?_map,Option.map_eq_some_iff] at hx
        obtain ⟨b,h1,h2⟩:=hx
        exact ⟨b,h1,h2.symm⟩
      refine ⟨rfl,fun k y hy=>?_⟩
      have hk:k=0:=by
        have:=(Array.getElem?_eq_some_iff.1 hy).1
        simp [Value.cells] at this
        exact this
      subst hk
      simp [Value.cells] at hy
      subst hy
      simpa using hx
  · exact hg.elim
theorem DR {B:St} {b off n sz:Nat} {r:Xv} {a7:List Value} (hr:B.get b=some (.row r.cs r.bm r.own r.bo)) (hl:mU sz off r.cs a7) (hn:a7.length=n) (du:1≤sz) :
    B.rz ⟨b,off,none⟩ (n * sz)=some (bx a7):=by
  have hs:∀ v ∈ a7,v.cells.size=sz:=fun v hv=>by
    obtain ⟨i,hi⟩:=List.getElem?_of_mem hv
    exact (hl i v hi).1
  have hlen:=hY hs
  have B7:=mi hs
  have lJ:∀ j,j < n * sz→r.cs[off+j]? = (bx a7)[j]?:=by
    intro j hj
    have hi:j / sz < a7.length:=by rw [hn]; exact Nat.div_lt_of_lt_mul (by rw [Nat.mul_comm]; exact hj)
    have hv:a7[j / sz]? = some a7[j / sz]:=List.getElem?_eq_getElem hi
    have hk:j % sz < a7[j / sz].cells.size:=by rw [hs _ (List.getElem_mem hi)]; exact Nat.mod_lt _ du
    have hy:a7[j / sz].cells[j % sz]? = some (a7[j / sz].cells[j % sz]):=by simp [hk]
    have h1:=(hl _ _ hv).2 _ _ hy
    have h2:=(B7 _ _ hv).2 _ _ hy
    have S9:j / sz * sz+j % sz=j:=by rw [Nat.mul_comm]; exact Nat.div_add_mod j sz
    rw [Nat.add_assoc,S9] at h1
    rw [Nat.zero_add,S9] at h2
    rw [h1,h2]
  simp only [St.rz,ck,Option.isNone_none,cond_true,rT,hr,Option.bind_some]
  rw [hn] at hlen
  have hle:n * sz≤(r.cs.drop off).length:=by
    cases hm:n * sz with
    | zero=>omega
    | succ q=>
      have:=lJ q (by omega)
      rw [List.getElem?_eq_getElem (show q < (bx a7).length by omega)] at this
      have h7:=(List.getElem?_eq_some_iff.1 this).1
      rw [List.length_drop]
      omega
  rw [pn,Ct hle]
  congr 1
  apply List.ext_getElem?
  intro i
  rw [List.getElem?_take]
  split
  · rename_i hi
    rw [List.getElem?_drop]
    exact lJ i hi
  · exact (List.getElem?_eq_none_iff.2 (by omega)).symm
theorem Rm {T:TypeId} {m:Mk} {n:Nat} {es:List KV} {acc:Nat→KV} {u:Value} {A:aj} {B:St} (h:ek P E A B) (hv:VK P E (.ts T m n es acc) u) (du:1≤aQ P T) :
    ∃ a7,aP P E es a7∧NB u=some n∧rX B (aQ P T) n u=some (bx a7)∧(∀ v ∈ a7,v.cells.size=aQ P T)∧a7.length=n∧es.length=n∧eo (bj P T) es=true:=by
  obtain ⟨ht,a7,h1,a,cap,rfl,h2,h3,_⟩:=hv.kY
  have hlen:=ht.len
  have ka:a7.length=n:=by rw [h1.length]; exact hlen.symm
  have hs:=m9 ht.typed h1
  refine ⟨a7,h1,rfl,?_,fun v hv=>(hs v hv).1,ka,hlen.symm,ht.typed⟩
  rcases h3 with ⟨rfl,h0⟩ | ⟨b,off,r,rfl,h4,h5,h6⟩
  · have:a7 = []:=List.length_eq_zero_iff.1 (by omega)
    subst this
    simp [rX,h0,bx]
  · exact DR (h.z b r h4) h6 ka du
theorem gM.join {T:TypeId} {n m:Nat} {es fs:List KV} {f g:Nat→KV} (h:gM P T n es f) (k:gM P T m fs g):gM P T (n+m) (es ++ fs) (qx n f g) where
  len:=by rw [List.length_append,← h.len,← k.len]
  acc i hi:=by
    unfold qx
    by_cases hn:i < n
    · have:Nat.blt i n=true:=by rw [Nat.blt_eq]; exact hn
      rw [this,cond_true,h.acc i hn,List.getD_eq_getElem?_getD,List.getD_eq_getElem?_getD,List.getElem?_append_left (by rw [← h.len]; exact hn)]
    · have:Nat.blt i n=false:=by
        cases hb:Nat.blt i n with
        | false=>rfl
        | true=>rw [Nat.blt_eq] at hb; omega
      rw [this,cond_false,k.acc (i - n) (by omega),List.getD_eq_getElem?_getD,List.getD_eq_getElem?_getD,List.getElem?_append_right (by rw [← h.len]; omega),← h.len]
  typed:=Ew h.typed k.typed
theorem gM.none {T:TypeId} {g:Nat→KV} : gM P T 0 [] g:=⟨rfl,fun i h=>by omega,rfl⟩
structure Src (P:Program) (E:Env) (B:St) (T:TypeId) (n:Nat) (es:List KV) (acc:Nat→KV) (u:Value) (a7:List Value):Prop where
  tree:gM P T n es acc
  rel:aP P E es a7
  len:NB u=some n
  size:∀ v ∈ a7,v.cells.size=aQ P T
  length:a7.length=n
  first:∀ k,k≤n→rX B (aQ P T) k u=some (bx (a7.take k))
theorem Src.all {B:St} {T:TypeId} {n:Nat} {es:List KV} {acc:Nat→KV} {u:Value} {a7:List Value} (h:Src P E B T n es acc u a7):rX B (aQ P T) n u=some (bx a7):=by
  rw [h.first n (Nat.le_refl _),List.take_of_length_le (Nat.le_of_eq h.length)]
theorem mU.take {sz off:Nat} {cs es:List Value} (h:mU sz off cs es) (k:Nat):mU sz off cs (es.take k):=fun i x hi=>h i x (by
  rw [List.getElem?_take] at hi
  split at hi
  · exact hi
  · simp at hi)
theorem mU.drop {sz off:Nat} {cs es:List Value} (h:mU sz off cs es) (o:Nat):mU sz (off+o * sz) cs (es.drop o):=fun i x hi=>by
  rw [List.getElem?_drop] at hi
  obtain ⟨h1,h2⟩:=h (o+i) x hi
  refine ⟨h1,fun k y hy=>?_⟩
  rw [← h2 k y hy,Nat.add_mul]
  congr 1
  omega
theorem afi {T:TypeId} {m:Mk} {n:Nat} {es:List KV} {acc:Nat→KV} {u:Value} {A:aj} {B:St} (h:ek P E A B) (hv:VK P E (.ts T m n es acc) u) (du:1≤aQ P T):∃ a7,Src P E B T n es acc u a7:=by
  obtain ⟨ht,a7,h1,a,cap,rfl,h2,h3,_⟩:=hv.kY
  have ka:a7.length=n:=by rw [h1.length]; exact ht.len.symm
  have hs:=m9 ht.typed h1
  refine ⟨a7,ht,h1,rfl,fun v hv=>(hs v hv).1,ka,fun k hk=>?_⟩
  rcases h3 with ⟨rfl,h0⟩ | ⟨b,off,r,rfl,h4,h5,h6⟩
  · have:a7 = []:=List.length_eq_zero_iff.1 (by omega)
    subst this
    have:k=0:=by omega
    subst this
    simp [rX,bx]
  · exact DR (h.z b r h4) (h6.take k) (by rw [List.length_take]; omega) du
theorem afj {T:TypeId} {m:Mk} {b o n N:Nat} {es:List KV} {acc:Nat→KV} {u:Value} {A:aj} {B:St} (h:ek P E A B) (hv:VK P E (.al T b o n) u) (ha:Bp A b=some (.ts T m N es acc)) (du:1≤aQ P T) :
    ∃ a7,Src P E B T n ((es.drop o).take n) (fun i=>acc (o+i)) u a7:=by
  have row:∀ {x:Nat} {r:Xv} {a7:List Value} {c:Nat},u = .slice (some ⟨x,o * aQ P T,none⟩) n c→o+n≤N→gM P T N es acc→B.get x=some (.row r.cs r.bm r.own r.bo)→aP P E es a7→mU (aQ P T) 0 r.cs a7→∃ a7,Src P E B T n ((es.drop o).take n) (fun i=>acc (o+i)) u a7:=by
    intro x r a7 c hu hon ht hr F3 hl
    subst hu
    have ZP:a7.length=N:=by rw [F3.length]; exact ht.len.symm
    have ZQ:((es.drop o).take n).length=n:=by rw [List.length_take,List.length_drop,← ht.len]; omega
    have adE:((a7.drop o).take n).length=n:=by rw [List.length_take,List.length_drop,ZP]; omega
    have hs:=m9 ht.typed F3
    refine ⟨(a7.drop o).take n,⟨ZQ.symm,fun i hi=>?_,oA fun i x hi=>?_⟩,(F3.drop o).take n,rfl,fun v hv=>(hs v (List.mem_of_mem_drop (List.mem_of_mem_take hv))).1,adE,fun k hk=>?_⟩
    · rw [ht.acc (o+i) (by omega),List.getD_eq_getElem?_getD,List.getD_eq_getElem?_getD,List.getElem?_take,if_pos hi,List.getElem?_drop]
    · rw [List.getElem?_take] at hi
      split at hi
      · rw [List.getElem?_drop] at hi; exact jj ht.typed hi
      · simp at hi
    · have kK:=((hl.drop o).take n).take k
      rw [Nat.zero_add] at kK
      exact DR hr kK (by rw [List.length_take,adE]; omega) du
  rcases hv.sf with ⟨rfl,rfl,rfl⟩ | ⟨x,L,N0,c,h1,h2,h3,h4,h5⟩
  · refine ⟨[],⟨by simp,fun i hi=>by omega,rfl⟩,by simpa using aP.nil,rfl,by simp,rfl,fun k hk=>?_⟩
    have:k=0:=by omega
    subst this
    simp [rX,bx]
  · unfold Bp at ha
    split at ha
    · rename_i v hb
      simp only [Option.some.injEq] at ha
      subst ha
      obtain ⟨T2,N2,nB,kZ,e,ht,_,sU⟩:=h.ar.arr b _ hb
      simp only [KV.ts.injEq] at e
      obtain ⟨rfl,rfl,rfl,rfl,rfl⟩:=e
      rcases sU with ⟨_,e⟩ | ⟨x2,cs,bo,a7,e,h6,h7,h8⟩
      · rw [h1] at e; simp at e
      · rw [h1] at e
        simp only [Option.some.injEq,Prod.mk.injEq] at e
        obtain ⟨rfl,rfl,rfl⟩:=e
        exact row (r:=⟨cs,aQ P T,true,bo⟩) h2 h4 ht h6 h7 h8
    · rename_i v hb
      simp only [Option.some.injEq] at ha
      subst ha
      obtain ⟨T2,N2,nB,kZ,e,ht,_,sU⟩:=h.ar.iD b _ hb
      simp only [KV.ts.injEq] at e
      obtain ⟨rfl,rfl,rfl,rfl,rfl⟩:=e
      rcases sU with ⟨_,e⟩ | ⟨x2,r,a7,e,h6,h6',h7,h8⟩
      · rw [h1] at e; simp at e
      · rw [h1] at e
        simp only [Option.some.injEq,Prod.mk.injEq] at e
        obtain ⟨rfl,rfl,rfl⟩:=e
        exact row h2 h4 ht (h.z _ _ h6) h7 h8
    · simp at ha
theorem aa0 {A:aj} {B:St} {y:KV} {u:Value} {T:TypeId} {m:Mk} {n:Nat} {es:List KV} {acc:Nat→KV} (h:ek P E A B) (hv:VK P E y u) (hs:FM A y=some (.ts T m n es acc)) (du:1≤aQ P T):∃ a7,Src P E B T n es acc u a7:=by
  unfold FM at hs
  split at hs
  · rename_i T' b o k
    unfold Vk at hs
    split at hs
    · rename_i T2 _ _ nB kZ ha
      cases hb:Nat.beq T' T2 with
      | false=>rw [hb] at hs; simp at hs
      | true=>
        have:=Nat.eq_of_beq_eq_true hb
        subst this
        rw [hb,cond_true] at hs
        simp only [Option.some.injEq,KV.ts.injEq] at hs
        obtain ⟨rfl,rfl,rfl,rfl,rfl⟩:=hs
        exact afj h hv ha du
    · simp at hs
  · simp only [Option.some.injEq,KV.ts.injEq] at hs
    obtain ⟨rfl,rfl,rfl,rfl,rfl⟩:=hs
    exact afi h hv du
  · simp at hs
theorem ZR {e n b:Nat} (hn:aQ P e=n) (h1n:1≤n) {E:Env} {A A' : aj} {B:St} {x v:KV} {u w:Value} {e' : TypeId} {mk:Mk} {k:Nat} {new:List KV} {acc:Nat→KV} (h:ek P E A B) (h1:VK P E x u)
    (Ta:Nat.beq e e' = true→∃ a7,Src P E B e' k new acc w a7) (hg:aG (FL e n b A [x,.ts e' mk k new acc]) (v,A')):∃ r B' E',kM n b B [u,w] = some (r,B')∧VK P E' v r∧dm P E A B E' A' B':=by
  have qX:1≤aQ P e:=by omega
  have put:∀ (E1:Env) (A1:aj) (m f k:Nat) (base new:List KV) (ab an:Nat→KV) (more:Bool) (A2:aj) (v:KV),aG (K6 e n b m base ab A1 f k new an more) (v,A2)→
      (more=true∧Nat.ble ((m+k+512) * b) 17592186044416=true∧Nat.ble (m+k) 17592186044416=true∧(m=0∨0 < k))∧v = .ts e (.aW f) (m+k) (base ++ new) (qx m ab an)∧A2=A1.put f (.aW (m+k) n):=by
    intro E1 A1 m f k base new ab an more A2 v hp
    obtain ⟨hc,hp⟩:=aG.kU hp
    simp only [MR,Bool.and_eq_true] at hc
    simp only [Prod.mk.injEq] at hp
    refine ⟨⟨hc.1,hc.2.1.1,hc.2.1.2,?_⟩,hp.1.symm,hp.2.symm⟩
    have:=hc.2.2
    simp only [Bool.or_eq_true,Nat.blt_eq] at this
    exact this.symm.imp (fun h=>Nat.eq_of_beq_eq_true h) id
  unfold FL at hg
  split at hg
  ·
    rename_i e9 mk9 k9 aa1 aa2 heq
    simp only [List.cons.injEq,KV.ts.injEq,and_true] at heq
    obtain ⟨rfl,rfl,rfl,rfl,rfl,rfl⟩:=heq
    have:=h1.mJ; subst this
    obtain ⟨he,Rg⟩:=hg.cond
    clear hg
    obtain ⟨cl,jM⟩:=Ta he
    have:=Nat.eq_of_beq_eq_true he
    subst this
    obtain ⟨⟨_,yh,rC,adF⟩,rfl,rfl⟩:=put E _ _ _ _ _ _ _ _ _ _ _ Rg
    have yO:=jM.tree
    have h3:=jM.rel
    have h4:=jM.len
    have h5:=jM.all
    have h6:=jM.size
    have h7:=jM.length
    have h8:=yO.len.symm
    rw [hn] at h5 h6
    have vf:=dm.aaW n h
    have hAf:(A.new (.aW 0 n)).get A.next=some (.aW 0 n):=by simp
    have Bs:E.φ A.next=none:=by
      cases hq:E.φ A.next with
      | none=>rfl
      | some g=>have:=h.lM _ g hq; omega
    cases k with
    | zero=>
      have nX:new = []:=List.length_eq_zero_iff.1 h8
      have Rn:cl = []:=List.length_eq_zero_iff.1 h7
      subst nX Rn
      refine ⟨.slice none 0 0,B,E,?_,?_,?_⟩
      · simp only [kM,h4,Option.bind_some]
        rw [h5]
        rfl
      · simp only [VK]
        exact ⟨⟨rfl,fun i hi=>by omega,rfl⟩,[],.nil,none,0,rfl,Nat.le_refl _,.inl ⟨rfl,rfl⟩,rfl,.inl ⟨rfl,rfl⟩⟩
      · exact vf.after (dm.aaZ n vf.dz hAf Bs)
    | succ k=>
      have Ro:=dm.grow (c:=bx cl) (top:=0) (Iu:=k+1) (sz:=n) (g:=B.next) (f:=A.next) vf.dz hAf (.inl ⟨Bs,rfl⟩) (by rw [hY h6,h7]) (by omega) (by omega)
      refine ⟨.slice (some ⟨B.next,0,none⟩) (k+1) (k+1),B.grow B.next 0 (bx cl) n,_,?_,?_,vf.after (by simpa using Ro)⟩
      · simp only [Nat.zero_add] at yh rC
        simp only [kM,h4,Option.bind_some,Nat.zero_add]
        rw [show Nat.ble (k+1) 0=false from rfl,cond_false,yh,rC,h5]
        rfl
      · simp only [VK,Nat.zero_add,List.nil_append]
        have Rn:=h3.mono (Env.le_trans vf.le Ro.le)
        have hl:=mi h6
        refine ⟨by have:=gM.none (P:=P) (T:=e) (g:=mT) |>.join yO; simpa using this,cl,Rn,_,_,rfl,Nat.le_refl _,.inr ⟨B.next,0,⟨bx cl,n,true,some (B.next,0)⟩,rfl,by simp [Env.pB,Env.fp],hn.symm,by rw [hn]; exact hl⟩,rfl,.inr ⟨B.next,⟨bx cl,n,true,some (B.next,0)⟩,B.next,rfl,by simp [Env.pB,Env.fp],rfl,by simp [Env.pB],rfl,?_⟩⟩
        rw [hn]
        simp only
        rw [hY h6,h7]
  ·
    rename_i e1 m es af2 e9 mk9 k9 aa1 aa2 heq
    simp only [List.cons.injEq,KV.ts.injEq,and_true] at heq
    obtain ⟨rfl,rfl,rfl,rfl,rfl,rfl⟩:=heq
    obtain ⟨he,Rg⟩:=hg.cond
    clear hg
    simp only [Bool.and_eq_true] at he
    obtain ⟨cl,jM⟩:=Ta he.1
    have:=Nat.eq_of_beq_eq_true he.1
    subst this
    have:=Nat.eq_of_beq_eq_true he.2
    subst this
    obtain ⟨⟨hk,yh,rC,adF⟩,rfl,rfl⟩:=put E _ _ _ _ _ _ _ _ _ _ _ Rg
    have hk:0 < k:=by rwa [Nat.blt_eq] at hk
    have rG:=h1.kY.1
    have yO:=jM.tree
    have h3:=jM.rel
    have h4:=jM.len
    have h5:=jM.all
    have h6:=jM.size
    have h7:=jM.length
    have h8:=yO.len.symm
    obtain ⟨o5,h3b,h4b,ZS,h6b,h7b,h8b,h9b⟩:=Rm h h1 qX
    rw [hn] at h5 h6 ZS h6b
    obtain ⟨_,aay,n7,a,cap,rfl,ac3,Rp,QJ⟩:=h1.kY
    obtain ⟨rfl,OO⟩:=QJ
    have vf:=dm.aaW n h
    have hAf:(A.new (.aW 0 n)).get A.next=some (.aW 0 n):=by simp
    have Bs:E.φ A.next=none:=by
      cases hq:E.φ A.next with
      | none=>rfl
      | some g=>have:=h.lM _ g hq; omega
    have hs:∀ v ∈ o5 ++ cl,v.cells.size=n:=fun v hv=>by
      rcases List.mem_append.1 hv with hv | hv
      · exact h6b v hv
      · exact h6 v hv
    have hlen:(bx (o5 ++ cl)).length=(cap+k) * n:=by rw [hY hs,List.length_append,h7b,h7]
    have Ro:=dm.grow (c:=bx (o5 ++ cl)) (top:=0) (Iu:=cap+k) (sz:=n) (g:=B.next) (f:=A.next) vf.dz hAf (.inl ⟨Bs,rfl⟩) hlen (by omega) (by omega)
    refine ⟨.slice (some ⟨B.next,0,none⟩) (cap+k) (cap+k),B.grow B.next 0 (bx (o5 ++ cl)) n,_,?_,?_,vf.after Ro⟩
    · simp only [kM,h4,Option.bind_some]
      have QI:Nat.ble (cap+k) cap=false:=by
        cases hq:Nat.ble (cap+k) cap with
        | false=>rfl
        | true=>have:=Nat.le_of_ble_eq_true hq; omega
      rw [QI,cond_false,yh,rC]
      rcases Rp with ⟨rfl,h0⟩ | ⟨b',off,r,rfl,hz,he2,kK⟩
      · subst h0
        have:o5 = []:=List.length_eq_zero_iff.1 h7b
        subst this
        simp only [qH,Bool.true_and,Bool.and_self]
        rw [show Nat.beq 0 0=true from rfl,cond_true,h5]
        simp [zp]
      · obtain ⟨r2,Dj,ho,aa3,AB⟩:=OO b' off rfl
        rw [hz] at Dj
        simp at Dj
        subst Dj
        have iq:=h.z b' r hz
        have hex:qH B n cap (some ⟨b',off,none⟩)=true:=by
          simp only [qH,iq,aa3]
          rw [hn] at AB
          simp [AB]
        rw [hex]
        simp only [Bool.and_self,cond_true,h5,Option.bind_some]
        simp only [rX] at ZS
        have KA:Nat.beq r.bm n=true:=by rw [he2,hn]; simp
        simp only [zp,ck,Option.isNone_none,cond_true,ZS,Option.bind_some,iq,KA,aa3,ho]
        rw [← tr]
    · simp only [VK]
      have uF:=(h3b.append h3).mono (Env.le_trans vf.le Ro.le)
      have hl:=mi hs
      refine ⟨rG.join yO,o5 ++ cl,uF,_,_,rfl,Nat.le_refl _,.inr ⟨B.next,0,⟨bx (o5 ++ cl),n,true,some (B.next,0)⟩,rfl,by simp [Env.pB,Env.fp],hn.symm,by rw [hn]; exact hl⟩,rfl,.inr ⟨B.next,⟨bx (o5 ++ cl),n,true,some (B.next,0)⟩,B.next,rfl,by simp [Env.pB,Env.fp],rfl,by simp [Env.pB],rfl,?_⟩⟩
      rw [hn]
      exact hlen
  ·
    rename_i e1 f m es af2 e9 mk9 k9 aa1 aa2 heq
    simp only [List.cons.injEq,KV.ts.injEq,and_true] at heq
    obtain ⟨rfl,rfl,rfl,rfl,rfl,rfl⟩:=heq
    split at hg
    · rename_i top sz' Rq
      obtain ⟨he,Rg⟩:=hg.cond
      clear hg
      simp only [Bool.and_eq_true] at he
      obtain ⟨cl,jM⟩:=Ta he.1.1
      have:=Nat.eq_of_beq_eq_true he.1.1
      subst this
      have:=Nat.eq_of_beq_eq_true he.1.2
      subst this
      have adz:=Nat.eq_of_beq_eq_true he.2
      rw [adz] at Rq
      obtain ⟨⟨ER,yh,rC,adF⟩,rfl,rfl⟩:=put E _ _ _ _ _ _ _ _ _ _ _ Rg
      have:=Nat.eq_of_beq_eq_true ER
      subst this
      have rG:=h1.kY.1
      have yO:=jM.tree
      have h3:=jM.rel
      have h4:=jM.len
      have h5:=jM.all
      have h6:=jM.size
      have h7:=jM.length
      have h8:=yO.len.symm
      obtain ⟨o5,h3b,h4b,ZS,h6b,h7b,h8b,h9b⟩:=Rm h h1 qX
      rw [hn] at h5 h6 ZS h6b
      obtain ⟨_,aay,n7,a,cap,rfl,ac3,Rp,QJ⟩:=h1.kY
      obtain ⟨rfl,OO⟩:=QJ
      have hs:∀ v ∈ o5 ++ cl,v.cells.size=n:=fun v hv=>by
        rcases List.mem_append.1 hv with hv | hv
        · exact h6b v hv
        · exact h6 v hv
      have hlen:(bx (o5 ++ cl)).length=(cap+k) * n:=by rw [hY hs,List.length_append,h7b,h7]
      have agA:=h3b.append h3
      have hl:=mi hs
      have fin:∀ (E2:Env) (x g:Nat),E.le E2→E2.z x=some ⟨bx (o5 ++ cl),n,true,some (g,0)⟩→E2.φ f=some g→VK P E2 (.ts e (.aW f) (cap+k) (es ++ new) (qx cap af2 acc)) (.slice (some ⟨x,0,none⟩) (cap+k) (cap+k)):=by
        intro E2 x g hle hzx ahz
        simp only [VK]
        refine ⟨rG.join yO,o5 ++ cl,agA.mono hle,_,_,rfl,Nat.le_refl _,.inr ⟨x,0,_,rfl,hzx,hn.symm,by rw [hn]; exact hl⟩,rfl,.inr ⟨x,_,g,rfl,hzx,rfl,ahz,rfl,?_⟩⟩
        rw [hn]
        exact hlen
      rcases OO with ⟨rfl,rfl⟩ | ⟨b',r,g,rfl,hz,ho,Bs,aa3,KP⟩
      ·
        have hold:es = []:=List.length_eq_zero_iff.1 h8b
        have VB:o5 = []:=List.length_eq_zero_iff.1 h7b
        subst hold VB
        have Bs:E.φ f=none:=by
          rcases h.aW f 0 n Rq with ⟨_,B6⟩ | ⟨g2,_,B6,_⟩
          · exact B6
          · omega
        cases k with
        | zero=>
          have nX:new = []:=List.length_eq_zero_iff.1 h8
          have Rn:cl = []:=List.length_eq_zero_iff.1 h7
          subst nX Rn
          refine ⟨.slice none 0 0,B,E,?_,?_,dm.aaZ n h Rq Bs⟩
          · simp only [kM,h4,Option.bind_some]
            rw [h5]
            rfl
          · simp only [VK]
            exact ⟨⟨rfl,fun i hi=>by omega,rfl⟩,[],.nil,none,0,rfl,Nat.le_refl _,.inl ⟨rfl,rfl⟩,rfl,.inl ⟨rfl,rfl⟩⟩
        | succ k=>
          have Ro:=dm.grow (c:=bx ([] ++ cl)) (top:=0) (Iu:=0+(k+1)) (sz:=n) (g:=B.next) (f:=f) h Rq (.inl ⟨Bs,rfl⟩) hlen (by omega) (by omega)
          refine ⟨.slice (some ⟨B.next,0,none⟩) (0+(k+1)) (0+(k+1)),B.grow B.next 0 (bx ([] ++ cl)) n,_,?_,fin _ B.next B.next Ro.le (by simp [Env.pB,Env.fp]) (by simp [Env.pB]),Ro⟩
          simp only [Nat.zero_add] at yh rC
          simp only [kM,h4,Option.bind_some,Nat.zero_add,List.nil_append]
          rw [show Nat.ble (k+1) 0=false from rfl,cond_false,yh,rC,h5]
          rfl
      ·
        have agB:0 < cap+k∧0 < k:=by
          rcases adF with h0 | h0
          · subst h0
            rcases h.aW f 0 n Rq with ⟨_,B6⟩ | ⟨g2,_,B6,_⟩
            · rw [Bs] at B6; simp at B6
            · omega
          · exact ⟨by omega,h0⟩
        have iq:=h.z b' r hz
        rw [ho,aa3] at iq
        have KA:r.bm=n:=by
          rcases Rp with ⟨h0,_⟩ | ⟨b2,adG,r2,e2,Dj,he2,_⟩
          · simp at h0
          · simp at e2
            obtain ⟨rfl,rfl⟩:=e2
            rw [hz] at Dj
            simp at Dj
            subst Dj
            rw [he2,hn]
        have agC:B.kill B.next (0+(0+cap * n)) (0+(0+cap * n)+(bx cl).length) (B.members g)=B:=by
          refine Rh fun y hy=>?_
          rcases h.aW f cap n Rq with ⟨_,B6⟩ | ⟨g2,B6,_,Rr⟩
          · rw [Bs] at B6; simp at B6
          · rw [Bs] at B6
            simp at B6
            subst B6
            cases hy2:B.get y with
            | none=>rfl
            | some o=>cases o with
              | row kb e2 Au pq=>
                cases pq with
                | none=>rfl
                | some p=>
                  obtain ⟨f2,k2⟩:=p
                  obtain ⟨rfl,hle2⟩:=Rr y hy kb e2 Au f2 k2 hy2
                  simp only [oV,meets,Nat.zero_add]
                  have:Nat.blt (cap * n) kb.length=false:=by
                    cases hq:Nat.blt (cap * n) kb.length with
                    | false=>rfl
                    | true=>rw [Nat.blt_eq] at hq; omega
                  rw [this,Bool.false_and]
              | _=>rfl
        have Ro:=dm.grow (c:=bx (o5 ++ cl)) (top:=cap) (Iu:=cap+k) (sz:=n) (g:=g) (f:=f) h Rq (.inr Bs) hlen (by omega) agB.1
        refine ⟨.slice (some ⟨B.next,0,none⟩) (cap+k) (cap+k),B.grow g 0 (bx (o5 ++ cl)) n,_,?_,fin _ B.next g Ro.le (by simp [Env.pB,Env.fp]) (by simp [Env.pB]),Ro⟩
        have QI:Nat.ble (cap+k) cap=false:=by
          cases hq:Nat.ble (cap+k) cap with
          | false=>rfl
          | true=>have:=Nat.le_of_ble_eq_true hq; omega
        have hex:qH B n cap (some ⟨b',0,none⟩)=true:=by simp only [qH,iq]
        simp only [kM,h4,Option.bind_some,QI,cond_false,yh,rC,hex,Bool.and_self,cond_true,h5]
        simp only [rX] at ZS
        have ahA:Nat.beq r.bm n=true:=by rw [KA]; simp
        simp only [zp,ck,Option.isNone_none,cond_true,ZS,Option.bind_some,iq,ahA,agC,← tr]
    · exact hg.elim
  · exact hg.elim
end Go.K
end
section
namespace Go.K
open Go Go.av
variable {P:Program} {E:Env}
theorem dm.afk {A A1:aj} {B:St} {T:TypeId} {acc:Nat→KV} (h:ek P E A B) (qf:A1.next=A.next) (DQ:∀ c o,A1.get c=some o→A.get c=some o∨(o = .dead∧c < A.next)) (du:1≤aQ P T) :
    dm P E A B E (A1.new (.arr (.ts T .any 0 [] acc))) B:=by
  have adB:E.α A.next=none:=by
    cases hq:E.α A.next with
    | none=>rfl
    | some p=>have:=h.ar.gk _ p hq; omega
  have iR:∀ c o,(A1.new (.arr (.ts T .any 0 [] acc))).get c=some o→(c=A.next∧o = .arr (.ts T .any 0 [] acc))∨(o = .dead∧c < A.next)∨A.get c=some o:=fun c o hc=>by
    rw [aj.cK,qf] at hc
    split at hc
    · rename_i e; simp at hc; exact .inl ⟨e,hc.symm⟩
    · rcases DQ c o hc with e | e
      · exact .inr (.inr e)
      · exact .inr (.inl e)
  have j8:∀ c v,(A1.new (.arr (.ts T .any 0 [] acc))).get c=some (.arr v)→E.α c=none∨A.get c=some (.arr v):=fun c v hc=>by
    rcases iR c _ hc with ⟨e,_⟩ | ⟨e,_⟩ | e
    · exact .inl (by rw [e]; exact adB)
    · simp at e
    · exact .inr e
  have hA:∀ c v y L N,(A1.new (.arr (.ts T .any 0 [] acc))).get c=some (.arr v)→E.α c=some (y,L,N)→A.get c=some (.arr v):=fun c v y L N hc hy=>by
    rcases j8 c v hc with e | e
    · rw [e] at hy; simp at hy
    · exact e
  have oZ:∀ y,AR (A1.new (.arr (.ts T .any 0 [] acc))) E y→AR A E y:=fun y ⟨c,v,L,N,h1,h2⟩=>⟨c,v,L,N,hA c v _ _ _ h1 h2,h2⟩
  have Bu:∀ g,AF (A1.new (.arr (.ts T .any 0 [] acc))) E B g→AF A E B g:=fun g ⟨c,v,x,L,N,cs,e,own,k,h1,h2,h3⟩=>⟨c,v,x,L,N,cs,e,own,k,hA c v _ _ _ h1 h2,h2,h3⟩
  refine ⟨⟨fun c cs bm hc=>?_,fun c top sz hc=>?_,h.z,h.apart,h.inj,?_,fun b x e=>by rw [aj.bV,qf]; have:=h.gk b x e; omega,fun b g e=>by rw [aj.bV,qf]; have:=h.lM b g e; omega,fun c o hc=>?_,h.fB,h.lX,h.ji,h.fresh,h.mem,?_⟩,Env.le_refl _,by rw [aj.bV,qf]; omega,fun _ _ _ _=>rfl,fun _ _ e=>.inl e,fun _ _ e=>.inl e,fun _ _ e=>.inl e,fun _ _ _ _=>rfl,fun x q=>.inl (oZ x q),fun g q=>.inl (Bu g q),fun _ _ q=>.inl q,fun y q=>.inl (q.imp (oZ y) fun ⟨g,q1,q2⟩=>⟨g,Bu g q1,q2⟩),lO fun _ _=>rfl⟩
  · rcases iR c _ hc with ⟨_,e⟩ | ⟨e,_⟩ | e
    · simp at e
    · simp at e
    · exact h.row c cs bm e
  · rcases iR c _ hc with ⟨_,e⟩ | ⟨e,_⟩ | e
    · simp at e
    · simp at e
    · exact h.aW c top sz e
  · intro b c g tb sb tc sc hb hc e1 e2
    rcases iR b _ hb with ⟨_,e⟩ | ⟨e,_⟩ | hb
    · simp at e
    · simp at e
    rcases iR c _ hc with ⟨_,e⟩ | ⟨e,_⟩ | hc
    · simp at e
    · simp at e
    exact h.iH b c g _ _ _ _ hb hc e1 e2
  · rw [aj.bV,qf]
    rcases iR c _ hc with ⟨e,_⟩ | ⟨_,e⟩ | e
    · omega
    · omega
    · have:=h.live c o e; omega
  · refine ⟨fun c v hc=>?_,fun c v hc=>?_,fun x q=>h.ar.z x (oZ x q),fun b c v u x L N L' N' h1 h2 h3 h4=>h.ar.inj b c v u x L N L' N' (hA b v _ _ _ h1 h3) (hA c u _ _ _ h2 h4) h3 h4,fun b c v u x y L N L' N' cs e own g k bI e' nC k' h1 h2 h3 h4=>h.ar.qT b c v u x y L N L' N' cs e own g k bI e' nC k' (hA b v _ _ _ h1 h3) (hA c u _ _ _ h2 h4) h3 h4,h.ar.QV,fun b p e=>by rw [aj.bV,qf]; have:=h.ar.gk b p e; omega,h.ar.fB,fun b v x L N cs e own g k h1 h2 h3=>?_,fun c v hc=>?_⟩
    · rcases iR c _ hc with ⟨e,e2⟩ | ⟨e,_⟩ | e
      · simp at e2
        subst e2
        exact ⟨T,0,[],acc,rfl,⟨rfl,fun i hi=>by omega,rfl⟩,du,.inl ⟨rfl,by rw [e]; exact adB⟩⟩
      · simp at e
      · exact h.ar.arr c v e
    · rcases iR c _ hc with ⟨_,e⟩ | ⟨e,_⟩ | e
      · simp at e
      · simp at e
      · exact h.ar.iD c v e
    · obtain ⟨q1,q2,q3⟩:=h.ar.pT b v x L N cs e own g k (hA b v _ _ _ h1 h2) h2 h3
      exact ⟨q1,q2,fun y hy bR=>⟨(q3 y hy bR).1,fun q=>(q3 y hy bR).2.1 (oZ y q),(q3 y hy bR).2.2⟩⟩
    · rw [aj.bV,qf]
      rcases iR c _ hc with ⟨e,_⟩ | ⟨e,_⟩ | e
      · rw [e]
        refine ⟨Nat.lt_succ_self _,?_⟩
        cases hk:E.κ A.next with
        | none=>rfl
        | some x=>have:=h.gk _ x hk; omega
      · simp at e
      · obtain ⟨q1,q2⟩:=h.ar.nk c v e
        exact ⟨by omega,q2⟩
theorem XP {E:Env} {T:TypeId} {b x L N n c:Nat} (oy:E.α b=some (x,L,N)) (h1:n≤c) (h2:n≤N) (h3:c * aQ P T=L):VK P E (.al T b 0 n) (.slice (some ⟨x,0,none⟩) n c):=
  .Ik (.inr ⟨x,L,N,c,oy,by simp,h1,by omega,by rw [Nat.zero_add]; exact h3⟩)
theorem XQ {T b n:Nat} {z:Value} (hn:aQ P T=n) (h1n:1≤n) (hz:z.cells.size=n) (he:cZ (bj P T) (K.hH (bj P T) (gH z))=true):TY P (MS T b (K.hH (bj P T) (gH z))) (Ao n b z):=by
  intro E A A' B vs us v h hv hg
  unfold MS at hg
  split at hg
  · rename_i k l k' c
    obtain ⟨x,y,rfl,h1,h2⟩:=hv.kp
    have:=h1.cS; subst this
    have:=h2.cS; subst this
    obtain ⟨hc,hg⟩:=aG.kU hg
    simp only [Prod.mk.injEq] at hg
    obtain ⟨rfl,rfl⟩:=hg
    simp only [Bool.and_eq_true,decide_eq_true_eq] at hc
    obtain ⟨⟨h3,h4⟩,h5⟩:=hc
    obtain ⟨l',rfl⟩:=Int.eq_ofNat_of_zero_le h3
    obtain ⟨c',rfl⟩:=Int.eq_ofNat_of_zero_le (Int.le_trans h3 h4)
    have h6:Nat.ble l' c' = true:=Nat.ble_eq_true_of_le (by omega)
    have hs:∀ v ∈ List.replicate c' z,v.cells.size=n:=fun v hv=>by rw [List.eq_of_mem_replicate hv]; exact hz
    have hlen:(bx (List.replicate c' z)).length=c' * n:=by rw [hY hs,List.length_replicate]
    have VE:∀ m,dv [K.hH (bj P T) (gH z)] m=List.replicate m (K.hH (bj P T) (gH z)):=fun m=>by
      induction m with
      | zero=>rfl
      | succ m ih=>simp [dv,ih,List.replicate_succ]
    have gm:=dm.Lj (P:=P) (X:=fun _=>False) (G:=fun _=>False) (y2:=B.next) (N2:=c') (T:=T) (nB:=dv [K.hH (bj P T) (gH z)] c') (kZ:=fun _=>K.hH (bj P T) (gH z)) (yy:=List.replicate c' z) (kb:=bx (List.replicate c' z)) (pq:=none) (A1:=A) (B':=B.new (.row (bx (List.replicate c' z)) n true none)) h rfl (fun _ _ e=>.inl e) (fun _ _ _ _ _ _ _=>⟨id,fun _ _ _ _ _ _=>id⟩) (fun _ e=>e.elim) (fun _ e=>e.elim) (.inr (Nat.le_refl _)) (by simp) (by simp [hn]) (fun _ _ e=>by simp at e)
      (fun y hy _=>.inl (by rw [St.cK,if_neg (by omega)])) (fun _ e=>e.elim) (fun q y hy=>.inl (by simpa using hy)) (fun q _=>by simp) (by simp) (fun g hg=>by rw [St.jT]; exact h.fresh g (by rw [St.bV] at hg; omega)) (fun g y hy=>by rw [St.jT] at hy; rw [St.bV]; have:=h.mem g y hy; omega)
      (by omega) ⟨by rw [VE]; simp,fun i hi=>by rw [VE,List.getD_eq_getElem?_getD,List.getElem?_replicate,if_pos hi]; rfl,by
        rw [VE]
        exact oA fun i x hx=>by rw [List.getElem?_replicate] at hx; split at hx <;> simp at hx; subst hx; exact he⟩ (by
        rw [VE]
        generalize c' = m
        induction m with
        | zero=>exact .nil
        | succ m ih=>exact .cons (VK.gH z).hH ih) (by rw [hn]; exact mi hs)
    refine ⟨.row (ff z.cells.toList c') n true none,fun k=>.slice (some ⟨k,0,none⟩) l' c',E.yC A.next (B.next,(bx (List.replicate c' z)).length,c'),?_,?_,?_⟩
    · have h5:Nat.ble (b * c') 281474976710656=true:=h5
      show cond (Nat.ble l' c' && Nat.ble (b * c') 281474976710656) _ _=_
      rw [h6,h5]
      rfl
    · exact XP Env.wP (by omega) (by show l'≤c'; omega) (by rw [hn,hlen])
    · rw [DN]; exact gm
  · exact hg.elim
theorem M4 {sz:Nat} {cs:List Value} {xs ys:List Value} (h:mU sz 0 cs xs) (k:mU sz (xs.length * sz) cs ys):mU sz 0 cs (xs ++ ys):=fun i x hi=>by
  by_cases aL:i < xs.length
  · rw [List.getElem?_append_left aL] at hi; exact h i x hi
  · rw [List.getElem?_append_right (by omega)] at hi
    obtain ⟨h1,h2⟩:=k _ x hi
    refine ⟨h1,fun j y hy=>?_⟩
    rw [← h2 j y hy]
    congr 1
    have:i * sz=xs.length * sz+(i - xs.length) * sz:=by rw [← Nat.add_mul]; congr 1; omega
    omega
theorem NZ {sz o:Nat} {cs r news:List Value} (hs:∀ v ∈ news,v.cells.size=sz) (hw:eS (o * sz) cs (bx news)=some r):mU sz (o * sz) r news:=fun i x hi=>by
  have B7:=mi hs i x hi
  have hlen:=hY hs
  obtain ⟨_,_,h3⟩:=gK hw
  refine ⟨B7.1,fun k y hy=>?_⟩
  have h4:=B7.2 k y hy
  rw [Nat.zero_add] at h4
  rw [h3,if_pos ⟨by omega,by have:=(List.getElem?_eq_some_iff.1 h4).1; omega⟩,← h4]
  congr 1
  omega
theorem Rs {sz o:Nat} {cs r vs es:List Value} (hl:mU sz 0 cs es) (ho:es.length≤o) (hw:eS (o * sz) cs vs=some r) (_:1≤sz):mU sz 0 r es:=fun i x hi=>by
  obtain ⟨h1,h2⟩:=hl i x hi
  obtain ⟨_,_,h3⟩:=gK hw
  refine ⟨h1,fun k y hy=>?_⟩
  have hk:k < sz:=by have:=(Array.getElem?_eq_some_iff.1 hy).1; omega
  have PE:=(List.getElem?_eq_some_iff.1 hi).1
  have aL:0+i * sz+k < o * sz:=by
    have:(i+1) * sz≤o * sz:=Nat.mul_le_mul_right _ (by omega)
    rw [Nat.add_mul] at this
    omega
  rw [h3,if_neg (by omega)]
  exact h2 k y hy
theorem ZT {A:aj} {B:St} {f:Nat} {o0:ia} (h:ek P E A B) (hA:A.get f=some o0):∀ c o,(A.put f .dead).get c=some o→A.get c=some o∨(o = .dead∧c < A.next):=fun c o hc=>by
  rw [aj.bO] at hc
  split at hc
  · rename_i e; simp at hc; subst hc e; exact .inr ⟨rfl,h.live _ _ hA⟩
  · exact .inl hc
theorem Ll {B:St} {g k:Nat} {c:List Value} {n:Nat} (_:g≤B.next):(∀ x,(B.grow g k c n).get x=if x=B.next then some (.row c n true (some (g,k))) else B.get x)∧(∀ q,(B.grow g k c n).members q=if q=g then B.next :: B.members g else B.members q)∧(B.grow g k c n).next=B.next+1:=
  ⟨fun x=>by simp [St.grow],fun q=>by simp [St.grow,St.xh],rfl⟩
theorem Rt {e b:Nat} {E:Env} {A A' : aj} {B:St} {x v:KV} {u w:Value} {e' : TypeId} {mk:Mk} {k:Nat} {new:List KV} {acc:Nat→KV} (qX:1≤aQ P e) (h:ek P E A B) (h1:VK P E x u)
    (Ta:Nat.beq e e' = true→∃ a7,Src P E B e' k new acc w a7) (hg:aG (zg e b A [x,.ts e' mk k new acc]) (v,A')):∃ r B' E',kM (aQ P e) b B [u,w] = some (r,B')∧VK P E' v r∧dm P E A B E' A' B':=by
  have put:∀ (A1:aj) (m:Nat) (base:List KV) (ab:Nat→KV) (more:Bool) (A2:aj) (v:KV),aG (Pp e b m base ab A1 k new acc more) (v,A2)→
      (more=true∧Nat.ble ((m+k+512) * b) 17592186044416=true∧Nat.ble (m+k) 17592186044416=true)∧v = .al e A1.next 0 (m+k)∧A2=A1.new (.arr (.ts e .any (m+k) (base ++ new) (qx m ab acc))):=by
    intro A1 m base ab more A2 v hp
    obtain ⟨hc,hp⟩:=aG.kU hp
    simp only [aaP,Bool.and_eq_true] at hc
    simp only [Prod.mk.injEq] at hp
    exact ⟨⟨hc.1,hc.2.1,hc.2.2⟩,hp.1.symm,hp.2.symm⟩
  have nil:∀ (A1:aj) (base:List KV) (ab:Nat→KV),base = []→A1.next=A.next→(∀ c o,A1.get c=some o→A.get c=some o∨(o = .dead∧c < A.next))→(∃ a7,Src P E B e k new acc w a7)→Nat.ble ((0+k+512) * b) 17592186044416=true→Nat.ble (0+k) 17592186044416=true→
      ∃ r B' E',kM (aQ P e) b B [.slice none 0 0,w] = some (r,B')∧VK P E' (.al e A.next 0 (0+k)) r∧dm P E A B E' (A1.new (.arr (.ts e .any (0+k) (base ++ new) (qx 0 ab acc)))) B':=by
    intro A1 base ab Rp Qi Qt ⟨cl,jM⟩ yh rC
    subst Rp
    have hj:gM P e (0+k) ([] ++ new) (qx 0 ab acc):=(gM.none (P:=P) (T:=e) (g:=ab)).join jM.tree
    cases k with
    | zero=>
      have nX:new = []:=List.length_eq_zero_iff.1 jM.tree.len.symm
      subst nX
      refine ⟨.slice none 0 0,B,E,?_,.Ik (.inl ⟨rfl,rfl,rfl⟩),dm.afk h Qi Qt qX⟩
      simp only [kM,jM.len,Option.bind_some,jM.all]
      rfl
    | succ k=>
      obtain ⟨g1,g2,g3⟩:=Ll (B:=B) (g:=B.next) (k:=0) (c:=bx cl) (n:=aQ P e) (Nat.le_refl _)
      have hlen:(bx cl).length=(k+1) * aQ P e:=by rw [hY jM.size,jM.length]
      refine ⟨.slice (some ⟨B.next,0,none⟩) (k+1) (k+1),B.grow B.next 0 (bx cl) (aQ P e),E.yC A.next (B.next,(bx cl).length,0+(k+1)),?_,?_,?_⟩
      · simp only [Nat.zero_add] at yh rC
        simp only [kM,jM.len,Option.bind_some,Nat.zero_add]
        rw [show Nat.ble (k+1) 0=false from rfl,cond_false,yh,rC,jM.all]
        rfl
      · rw [Nat.zero_add]; exact XP Env.wP (Nat.le_refl _) (by omega) (by rw [hlen])
      · generalize B.grow B.next 0 (bx cl) (aQ P e)=B' at g1 g2 g3
        exact dm.Lj (X:=fun _=>False) (G:=fun _=>False) (y2:=B.next) (pq:=some (B.next,0)) h Qi Qt (fun _ _ _ _ _ _ _=>⟨id,fun _ _ _ _ _ _=>id⟩) (fun _ e=>e.elim) (fun _ e=>e.elim) (.inr (Nat.le_refl _)) (by omega) (by rw [g1,if_pos rfl]) (fun g k e=>by simp at e; exact .inr (by omega))
          (fun y hy _=>.inl (by rw [g1,if_neg (by omega)])) (fun _ e=>e.elim) (fun q y hy=>by
            rw [g2] at hy
            split at hy
            · rename_i e
              subst e
              rcases List.mem_cons.1 hy with hy | hy
              · exact .inr ⟨hy,Nat.le_refl _,0,rfl⟩
              · exact .inl hy
            · exact .inl hy) (fun q hq=>by rw [g2,if_neg (fun e=>hq 0 (by rw [e]))]) (by omega) (fun g hg=>by rw [g2,if_neg (by omega)]; exact h.fresh g (by omega)) (fun g y hy=>by
            rw [g2] at hy
            split at hy
            · rcases List.mem_cons.1 hy with hy | hy
              · omega
              · have:=h.mem _ y hy; omega
            · have:=h.mem g y hy; omega) qX hj (by simpa using jM.rel) (mi jM.size)
  unfold zg at hg
  split at hg
  · rename_i e9 mk9 k9 aa1 aa2 heq
    simp only [List.cons.injEq,KV.ts.injEq,and_true] at heq
    obtain ⟨rfl,rfl,rfl,rfl,rfl,rfl⟩:=heq
    have:=h1.mJ; subst this
    obtain ⟨he,Rg⟩:=hg.cond
    have jM:=Ta he
    have:=Nat.eq_of_beq_eq_true he
    subst this
    obtain ⟨⟨_,yh,rC⟩,rfl,rfl⟩:=put _ _ _ _ _ _ _ Rg
    exact nil A [] mT rfl rfl (fun _ _ e=>.inl e) jM yh rC
  · rename_i e1 f o n e9 mk9 k9 aa1 aa2 heq
    simp only [List.cons.injEq,KV.ts.injEq,and_true] at heq
    obtain ⟨rfl,rfl,rfl,rfl,rfl,rfl⟩:=heq
    split at hg
    · rename_i e2 mk2 N es ac hf
      obtain ⟨he,Rg⟩:=hg.cond
      simp only [Bool.and_eq_true] at he
      obtain ⟨cl,jM⟩:=Ta he.1.1
      have:=Nat.eq_of_beq_eq_true he.1.1
      subst this
      have:=Nat.eq_of_beq_eq_true he.1.2
      subst this
      have:=Nat.eq_of_beq_eq_true he.2
      subst this
      obtain ⟨⟨ho,yh,rC⟩,rfl,rfl⟩:=put _ _ _ _ _ _ _ Rg
      have:=Nat.eq_of_beq_eq_true ho
      subst this
      have DQ:=ZT h hf
      rcases h1.sf with ⟨rfl,_,rfl⟩ | ⟨x,L,N0,c,h2,rfl,h3,h4,h5⟩
      · exact nil (A.put f .dead) (es.take 0) ac (by simp) rfl DQ ⟨cl,jM⟩ yh rC
      · obtain ⟨T2,N2,nB,kZ,e2,ht,_,sU⟩:=h.ar.arr f _ hf
        simp only [KV.ts.injEq] at e2
        obtain ⟨rfl,rfl,rfl,rfl,rfl⟩:=e2
        rcases sU with ⟨_,e2⟩ | ⟨x2,cs,bo,a7,e2,h6,h7,h8⟩
        · rw [h2] at e2; simp at e2
        rw [h2] at e2
        simp only [Option.some.injEq,Prod.mk.injEq] at e2
        obtain ⟨rfl,rfl,rfl⟩:=e2
        have oZ:AR A E x:=⟨f,_,_,_,hf,h2⟩
        have hxlt:x < B.next:=h.AK oZ
        have ZP:a7.length=N0:=by rw [h7.length]; exact ht.len.symm
        have hs:=m9 ht.typed h7
        have htk:gM P e n (es.take n) ac:=⟨by rw [List.length_take,← ht.len]; omega,fun i hi=>by rw [ht.acc i (by omega),List.getD_eq_getElem?_getD,List.getD_eq_getElem?_getD,List.getElem?_take,if_pos hi],oA fun i x hi=>by
          rw [List.getElem?_take] at hi
          split at hi
          · exact jj ht.typed hi
          · simp at hi⟩
        have hj:=htk.join jM.tree
        have Ce:(a7.take n).length=n:=by rw [List.length_take]; omega
        have ahB:∀ v ∈ a7.take n,v.cells.size=aQ P e:=fun v hv=>(hs v (List.mem_of_mem_take hv)).1
        have uF:=(h7.take n).append jM.rel
        have h5:c * aQ P e=cs.length:=by simpa using h5
        have nP:∀ c v,(A.put f .dead).get c=some (.arr v)→c≠f∧A.get c=some (.arr v):=fun c v hc=>by
          rw [aj.bO] at hc
          split at hc
          · simp at hc
          · rename_i e; exact ⟨e,hc⟩
        have hf1:∀ c v,(A.put f .dead).get c=some (.arr v)→∀ y L N,E.α c=some (y,L,N)→¬ (y=x)∧∀ m7 e1 own g k1,B.get y=some (.row m7 e1 own (some (g,k1)))→¬ (∃ k,bo=some (g,k)):=fun c v hc y L N hy=>by
          obtain ⟨bR,hc⟩:=nP c v hc
          refine ⟨fun e=>bR (h.ar.inj c f v _ x L N _ _ hc hf (by rw [← e]; exact hy) h2),fun m7 e1 own g k1 hr ⟨k2,hk⟩=>?_⟩
          rw [hk] at h6
          exact bR (h.ar.qT c f v _ y x L N _ _ _ _ _ g k1 _ _ _ k2 hc hf hy h2 hr h6)
        have hf3:∀ g,(∃ k,bo=some (g,k))→AF A E B g∧g < B.next∧(∀ f,E.φ f≠some g)∧∀ y ∈ B.members g,¬ (y=x)→E.z y=none∧¬ AR A E y∧∀ c,E.κ c≠some y:=fun g ⟨k2,hk⟩=>by
          rw [hk] at h6
          obtain ⟨q1,q2,q3⟩:=h.ar.pT f _ x _ _ _ _ _ g k2 hf h2 h6
          exact ⟨⟨f,_,x,_,_,_,_,_,k2,hf,h2,h6⟩,q1,q2,fun y hy bR=>q3 y hy bR⟩
        have afl:ck (⟨x,0 * aQ P e,none⟩:Addr)=true:=rfl
        by_cases ni:n+k≤c
        ·
          have hle:n * aQ P e+(bx cl).length≤cs.length:=by
            rw [hY jM.size,jM.length,← h5,← Nat.add_mul]
            exact Nat.mul_le_mul_right _ ni
          obtain ⟨kb,hw⟩:=vv (n * aQ P e) cs (bx cl) hle
          have KP:kb.length=cs.length:=(gK hw).1
          have HN:(bx cl).all scalar=true:=List.all_eq_true.2 (xn fun v hv=>(m9 jM.tree.typed jM.rel v hv).2)
          have hb:Nat.ble (n+k) c=true:=Nat.ble_eq_true_of_le ni
          refine ⟨.slice (some ⟨x,0 * aQ P e,none⟩) (n+k) c,(B.put x (.row kb (aQ P e) true bo)).dn x bo (n * aQ P e) (n * aQ P e+(bx cl).length),E.yC A.next (x,kb.length,n+k),?_,?_,?_⟩
          · simp only [kM,jM.len,Option.bind_some,hb,cond_true,jM.all,afl]
            simp only [St.rU,ck,Option.isNone_none,Bool.true_and,HN,cond_true,Nat.zero_mul,Nat.zero_add,h6,hw,Option.map_some]
          · rw [Nat.zero_mul]; exact XP Env.wP ni (Nat.le_refl _) (by rw [KP]; exact h5)
          · have fa:((B.put x (.row kb (aQ P e) true bo)).dn x bo (n * aQ P e) (n * aQ P e+(bx cl).length)).get x=some (.row kb (aQ P e) true bo):=by
              rcases yS (B:=B.put x (.row kb (aQ P e) true bo)) (x:=x) (y:=x) (lo:=n * aQ P e) (hi:=n * aQ P e+(bx cl).length) (bo:=bo) with e | ⟨g,k,_,_,h3,_⟩
              · rw [e]; simp
              · exact absurd rfl h3
            have XM:∀ y,y≠x→((B.put x (.row kb (aQ P e) true bo)).dn x bo (n * aQ P e) (n * aQ P e+(bx cl).length)).get y=B.get y∨(((B.put x (.row kb (aQ P e) true bo)).dn x bo (n * aQ P e) (n * aQ P e+(bx cl).length)).get y=some .dead∧∃ g,(∃ k,bo=some (g,k))∧y ∈ B.members g):=by
              intro y hy
              rcases yS (B:=B.put x (.row kb (aQ P e) true bo)) (x:=x) (y:=y) (lo:=n * aQ P e) (hi:=n * aQ P e+(bx cl).length) (bo:=bo) with e | ⟨g,k,h1,h2,_,h4,_⟩
              · exact .inl (by rw [e,St.bO,if_neg hy])
              · exact .inr ⟨h4,g,⟨k,h1⟩,by simpa using h2⟩
            have kS:((B.put x (.row kb (aQ P e) true bo)).dn x bo (n * aQ P e) (n * aQ P e+(bx cl).length)).members=B.members:=by rw [Cv]; simp
            have fO:((B.put x (.row kb (aQ P e) true bo)).dn x bo (n * aQ P e) (n * aQ P e+(bx cl).length)).next=B.next:=by rw [Iv]; simp
            generalize (B.put x (.row kb (aQ P e) true bo)).dn x bo (n * aQ P e) (n * aQ P e+(bx cl).length)=B' at fa XM kS fO
            have hli:mU (aQ P e) 0 kb (a7.take n ++ cl):=M4 (Rs (h8.take n) (by omega) hw qX) (by rw [Ce]; exact NZ jM.size hw)
            exact dm.Lj (A1:=A.put f .dead) (X:=fun y=>y=x) (G:=fun g=>∃ k,bo=some (g,k)) (y2:=x) (pq:=bo) h rfl DQ hf1 (fun y hy=>by rw [hy]; exact oZ) hf3 (.inl rfl) (by omega) fa (fun g k hk=>.inl ⟨k,hk⟩)
              (fun y _ bR=>XM y bR) (fun y hy m7 e1 own Li hr=>by
                rw [hy,fa] at hr
                simp at hr
                obtain ⟨rfl,rfl,rfl,rfl⟩:=hr
                rw [hy]
                exact ⟨cs,h6,KP.symm⟩) (fun q y hy=>.inl (by rw [kS] at hy; exact hy)) (fun q _=>by rw [kS]) (by omega) (fun g hg=>by rw [kS]; exact h.fresh g (by omega)) (fun g y hy=>by rw [kS] at hy; rw [fO]; exact h.mem g y hy) qX hj uF hli
        ·
          have hb:Nat.ble (n+k) c=false:=by
            cases hq:Nat.ble (n+k) c with
            | false=>rfl
            | true=>exact absurd (Nat.le_of_ble_eq_true hq) ni
          have hex:qH B (aQ P e) c (some ⟨x,0 * aQ P e,none⟩)=true:=by
            simp only [qH,h6]
            cases bo with
            | none=>simp [h5]
            | some p=>rfl
          have hold:B.rz ⟨x,0 * aQ P e,none⟩ (n * aQ P e)=some (bx (a7.take n)):=by
            have:=DR (B:=B) (b:=x) (off:=0) (n:=n) (sz:=aQ P e) (r:=⟨cs,aQ P e,true,bo⟩) (a7:=a7.take n) h6 (h8.take n) Ce qX
            simpa using this
          have ZU:∀ v ∈ a7.take n ++ cl,v.cells.size=aQ P e:=fun v hv=>by
            rcases List.mem_append.1 hv with hv | hv
            · exact ahB v hv
            · exact jM.size v hv
          have hlen:(bx (a7.take n ++ cl)).length=(n+k) * aQ P e:=by rw [hY ZU,List.length_append,Ce,jM.length]
          cases bo with
          | none=>
            obtain ⟨g1,g2,g3⟩:=Ll (B:=B) (g:=B.next) (k:=0) (c:=bx (a7.take n ++ cl)) (n:=aQ P e) (Nat.le_refl _)
            refine ⟨.slice (some ⟨B.next,0,none⟩) (n+k) (n+k),B.grow B.next 0 (bx (a7.take n ++ cl)) (aQ P e),E.yC A.next (B.next,(bx (a7.take n ++ cl)).length,n+k),?_,?_,?_⟩
            · simp only [kM,jM.len,Option.bind_some,hb,cond_false,yh,rC,hex,Bool.and_self,cond_true,jM.all]
              simp only [zp,ck,Option.isNone_none,cond_true,hold,Option.bind_some,h6,Nat.beq_refl,← tr]
            · exact XP Env.wP (Nat.le_refl _) (Nat.le_refl _) (by rw [hlen])
            · generalize B.grow B.next 0 (bx (a7.take n ++ cl)) (aQ P e)=B' at g1 g2 g3
              exact dm.Lj (A1:=A.put f .dead) (X:=fun _=>False) (G:=fun _=>False) (y2:=B.next) (pq:=some (B.next,0)) h rfl DQ (fun _ _ _ _ _ _ _=>⟨id,fun _ _ _ _ _ _=>id⟩) (fun _ e=>e.elim) (fun _ e=>e.elim) (.inr (Nat.le_refl _)) (by omega) (by rw [g1,if_pos rfl]) (fun g k e=>by simp at e; exact .inr (by omega))
                (fun y hy _=>.inl (by rw [g1,if_neg (by omega)])) (fun _ e=>e.elim) (fun q y hy=>by
                  rw [g2] at hy
                  split at hy
                  · rename_i e
                    subst e
                    rcases List.mem_cons.1 hy with hy | hy
                    · exact .inr ⟨hy,Nat.le_refl _,0,rfl⟩
                    · exact .inl hy
                  · exact .inl hy) (fun q hq=>by rw [g2,if_neg (fun e=>hq 0 (by rw [e]))]) (by omega) (fun g hg=>by rw [g2,if_neg (by omega)]; exact h.fresh g (by omega)) (fun g y hy=>by
                  rw [g2] at hy
                  split at hy
                  · rcases List.mem_cons.1 hy with hy | hy
                    · omega
                    · have:=h.mem _ y hy; omega
                  · have:=h.mem g y hy; omega) qX hj uF (mi ZU)
          | some p=>
            obtain ⟨g,k0⟩:=p
            have hgB:g < B.next:=(hf3 g ⟨k0,rfl⟩).2.1
            have kg:∀ y,(B.kill B.next (k0+(0+n * aQ P e)) (k0+(0+n * aQ P e)+(bx cl).length) (B.members g)).get y=B.get y∨((B.kill B.next (k0+(0+n * aQ P e)) (k0+(0+n * aQ P e)+(bx cl).length) (B.members g)).get y=some .dead∧y ∈ B.members g):=fun y=>by
              rw [wA]
              by_cases hc:y ∈ B.members g∧y≠B.next∧oV (B.get y) (k0+(0+n * aQ P e)) (k0+(0+n * aQ P e)+(bx cl).length)=true
              · exact .inr ⟨by rw [if_pos hc],hc.1⟩
              · exact .inl (by rw [if_neg hc])
            have km:(B.kill B.next (k0+(0+n * aQ P e)) (k0+(0+n * aQ P e)+(bx cl).length) (B.members g)).members=B.members:=by simp
            have kn:(B.kill B.next (k0+(0+n * aQ P e)) (k0+(0+n * aQ P e)+(bx cl).length) (B.members g)).next=B.next:=by simp
            obtain ⟨g1,g2,g3⟩:=Ll (B:=B.kill B.next (k0+(0+n * aQ P e)) (k0+(0+n * aQ P e)+(bx cl).length) (B.members g)) (g:=g) (k:=k0+0) (c:=bx (a7.take n ++ cl)) (n:=aQ P e) (by omega)
            rw [kn] at g3
            have g1:∀ y,y≠B.next→_:=fun y hy=>(g1 y).trans (if_neg (by rw [kn]; exact hy))
            have g1':=(Ll (B:=B.kill B.next (k0+(0+n * aQ P e)) (k0+(0+n * aQ P e)+(bx cl).length) (B.members g)) (g:=g) (k:=k0+0) (c:=bx (a7.take n ++ cl)) (n:=aQ P e) (by omega)).1 B.next
            rw [kn,if_pos rfl] at g1'
            simp only [km,kn] at g2
            refine ⟨.slice (some ⟨B.next,0,none⟩) (n+k) (n+k),(B.kill B.next (k0+(0+n * aQ P e)) (k0+(0+n * aQ P e)+(bx cl).length) (B.members g)).grow g (k0+0) (bx (a7.take n ++ cl)) (aQ P e),E.yC A.next (B.next,(bx (a7.take n ++ cl)).length,n+k),?_,?_,?_⟩
            · simp only [kM,jM.len,Option.bind_some,hb,cond_false,yh,rC,hex,Bool.and_self,cond_true,jM.all]
              have VB:=hold
              rw [Nat.zero_mul] at VB
              simp only [zp,ck,Option.isNone_none,cond_true,Nat.zero_mul,VB,Option.bind_some,h6,Nat.beq_refl,← tr]
            · exact XP Env.wP (Nat.le_refl _) (Nat.le_refl _) (by rw [hlen])
            · generalize (B.kill B.next (k0+(0+n * aQ P e)) (k0+(0+n * aQ P e)+(bx cl).length) (B.members g)).grow g (k0+0) (bx (a7.take n ++ cl)) (aQ P e)=B' at g1 g1' g2 g3
              have gy:∀ y,y≠B.next→B'.get y=B.get y∨(B'.get y=some .dead∧y ∈ B.members g):=fun y hy=>by
                rw [g1 y hy]; exact kg y
              exact dm.Lj (A1:=A.put f .dead) (X:=fun y=>y=x) (G:=fun q=>∃ k,some (g,k0)=some (q,k)) (y2:=B.next) (pq:=some (g,k0+0)) h rfl DQ hf1 (fun y hy=>by rw [hy]; exact oZ) hf3 (.inr (Nat.le_refl _)) (by omega) g1' (fun q k e=>by simp at e; exact .inl ⟨k0,by rw [e.1]⟩)
                (fun y hy _=>(gy y (by omega)).imp id fun ⟨q1,q2⟩=>⟨q1,g,⟨k0,rfl⟩,q2⟩) (fun y hy m7 e1 own Li hr=>by
                  have hy:y=x:=hy
                  rcases gy y (by omega) with q | ⟨q,_⟩
                  · rw [q] at hr; exact ⟨m7,hr,rfl⟩
                  · rw [q] at hr; simp at hr) (fun q y hy=>by
                  rw [g2] at hy
                  split at hy
                  · rename_i e
                    subst e
                    rcases List.mem_cons.1 hy with hy | hy
                    · exact .inr ⟨hy,Nat.le_refl _,k0+0,rfl⟩
                    · exact .inl hy
                  · exact .inl hy) (fun q hq=>by rw [g2,if_neg (fun e=>hq (k0+0) (by rw [e]))]) (by omega) (fun q hq=>by rw [g2,if_neg (by omega)]; exact h.fresh q (by omega)) (fun q y hy=>by
                  rw [g2] at hy
                  split at hy
                  · rcases List.mem_cons.1 hy with hy | hy
                    · omega
                    · have:=h.mem _ y hy; omega
                  · have:=h.mem q y hy; omega) qX hj uF (mi ZU)
    · exact hg.elim
  · exact hg.elim
theorem dm.agD {A:aj} {B:St} {b:Nat} {v2:KV} (h:ek P E A B) (hb:∃ v,A.get b=some (.arr v)) (bc:QU P E B b v2):dm P E A B E (A.put b (.arr v2)) B:=by
  obtain ⟨v0,hb⟩:=hb
  have iR:∀ c o,(A.put b (.arr v2)).get c=some o→(c=b∧o = .arr v2)∨A.get c=some o:=fun c o hc=>by
    rw [aj.bO] at hc
    split at hc
    · rename_i e; simp at hc; exact .inl ⟨e,hc.symm⟩
    · exact .inr hc
  have hA:∀ c v,(A.put b (.arr v2)).get c=some (.arr v)→∃ u,A.get c=some (.arr u):=fun c v hc=>by
    rcases iR c _ hc with ⟨e,_⟩ | e
    · exact ⟨v0,by rw [e]; exact hb⟩
    · exact ⟨v,e⟩
  have oZ:∀ y,AR (A.put b (.arr v2)) E y→AR A E y:=fun y ⟨c,v,L,N,h1,h2⟩=>by
    obtain ⟨u,hu⟩:=hA c v h1
    exact ⟨c,u,L,N,hu,h2⟩
  have Bu:∀ g,AF (A.put b (.arr v2)) E B g→AF A E B g:=fun g ⟨c,v,x,L,N,cs,e,own,k,h1,h2,h3⟩=>by
    obtain ⟨u,hu⟩:=hA c v h1
    exact ⟨c,u,x,L,N,cs,e,own,k,hu,h2,h3⟩
  refine ⟨⟨fun c cs bm hc=>?_,fun c top sz hc=>?_,h.z,h.apart,h.inj,?_,h.gk,h.lM,fun c o hc=>?_,h.fB,h.lX,h.ji,h.fresh,h.mem,?_⟩,Env.le_refl _,Nat.le_refl _,fun _ _ _ _=>rfl,fun _ _ e=>.inl e,fun _ _ e=>.inl e,fun _ _ e=>.inl e,fun _ _ _ _=>rfl,fun x q=>.inl (oZ x q),fun g q=>.inl (Bu g q),fun _ _ q=>.inl q,fun y q=>.inl (q.imp (oZ y) fun ⟨g,q1,q2⟩=>⟨g,Bu g q1,q2⟩),lO fun _ _=>rfl⟩
  · rcases iR c _ hc with ⟨_,e⟩ | e
    · simp at e
    · exact h.row c cs bm e
  · rcases iR c _ hc with ⟨_,e⟩ | e
    · simp at e
    · exact h.aW c top sz e
  · exact h.iH.put (.inl fun t s=>by simp)
  · rw [aj.po]
    rcases iR c _ hc with ⟨e,_⟩ | e
    · rw [e]; exact h.live b _ hb
    · exact h.live c o e
  · refine ⟨fun c v hc=>?_,fun c v hc=>?_,fun x q=>h.ar.z x (oZ x q),fun c d v u x L N L' N' h1 h2 h3 h4=>?_,fun c d v u x y L N L' N' cs e own g k bI e' nC k' h1 h2 h3 h4=>?_,h.ar.QV,h.ar.gk,h.ar.fB,fun c v x L N cs e own g k h1 h2 h3=>?_,fun c v hc=>?_⟩
    · rcases iR c _ hc with ⟨e,e2⟩ | e
      · simp at e2; rw [e2,e]; exact bc
      · exact h.ar.arr c v e
    · rcases iR c _ hc with ⟨_,e⟩ | e
      · simp at e
      · exact h.ar.iD c v e
    · obtain ⟨v',h1⟩:=hA c v h1
      obtain ⟨u',h2⟩:=hA d u h2
      exact h.ar.inj c d v' u' x L N L' N' h1 h2 h3 h4
    · obtain ⟨v',h1⟩:=hA c v h1
      obtain ⟨u',h2⟩:=hA d u h2
      exact h.ar.qT c d v' u' x y L N L' N' cs e own g k bI e' nC k' h1 h2 h3 h4
    · obtain ⟨v',h1⟩:=hA c v h1
      obtain ⟨q1,q2,q3⟩:=h.ar.pT c v' x L N cs e own g k h1 h2 h3
      exact ⟨q1,q2,fun y hy bR=>⟨(q3 y hy bR).1,fun q=>(q3 y hy bR).2.1 (oZ y q),(q3 y hy bR).2.2⟩⟩
    · obtain ⟨v',h1⟩:=hA c v hc
      rw [aj.po]
      exact h.ar.nk c v' h1
theorem Ru {es new:List KV} {o:Nat} (h:o+new.length≤es.length):(vr es o new).length=es.length:=by
  simp only [vr,List.length_append,List.length_take,List.length_drop]
  omega
theorem XR {es new:List KV} {o i:Nat} (h:o+new.length≤es.length):(vr es o new)[i]? = if i < o then es[i]? else if i < o+new.length then new[i - o]? else es[i]?:=by
  unfold vr
  by_cases h1:i < o
  · rw [if_pos h1,List.append_assoc,List.getElem?_append_left (by rw [List.length_take]; omega),List.getElem?_take,if_pos h1]
  · rw [if_neg h1]
    by_cases h2:i < o+new.length
    · rw [if_pos h2,List.getElem?_append_left (by rw [List.length_append,List.length_take]; omega),List.getElem?_append_right (by rw [List.length_take]; omega),List.length_take]
      congr 1
      omega
    · rw [if_neg h2,List.getElem?_append_right (by rw [List.length_append,List.length_take]; omega),List.getElem?_drop,List.length_append,List.length_take]
      congr 1
      omega
theorem T1 {T:TypeId} {N m o k:Nat} {es new:List KV} {acc an:Nat→KV} (ht:gM P T N es acc) (hn:gM P T m new an) (hk:k≤m) (ho:o+k≤N):gM P T N (vr es o (new.take k)) (Hi o k acc an):=by
  have hl:(new.take k).length=k:=by rw [List.length_take,← hn.len]; omega
  have ni:o+(new.take k).length≤es.length:=by rw [hl,← ht.len]; exact ho
  have gp:=fun i=>XR (i:=i) ni
  rw [hl] at gp
  refine ⟨by rw [Ru ni]; exact ht.len,fun i hi=>?_,oA fun i x hx=>?_⟩
  · rw [List.getD_eq_getElem?_getD,gp]
    unfold Hi
    by_cases h1:i < o
    · rw [if_pos h1,show Nat.blt i o=true from Nat.blt_eq ▸ h1,cond_true,ht.acc i hi,List.getD_eq_getElem?_getD]
    · have e1:Nat.blt i o=false:=by
        cases hb:Nat.blt i o with
        | false=>rfl
        | true=>exact absurd (Nat.blt_eq ▸ hb) h1
      rw [if_neg h1,e1,cond_false]
      by_cases h2:i < o+k
      · rw [if_pos h2,show Nat.blt i (o+k)=true from Nat.blt_eq ▸ h2,cond_true,List.getElem?_take,if_pos (by omega),hn.acc (i - o) (by omega),List.getD_eq_getElem?_getD]
      · have e2:Nat.blt i (o+k)=false:=by
          cases hb:Nat.blt i (o+k) with
          | false=>rfl
          | true=>exact absurd (Nat.blt_eq ▸ hb) h2
        rw [if_neg h2,e2,cond_false,ht.acc i hi,List.getD_eq_getElem?_getD]
  · rw [gp] at hx
    split at hx
    · exact jj ht.typed hx
    · split at hx
      · rw [List.getElem?_take] at hx
        split at hx
        · exact jj hn.typed hx
        · simp at hx
      · exact jj ht.typed hx
theorem XS {sz o:Nat} {cs r vs es:List Value} (hl:mU sz (o * sz+vs.length) cs es) (hw:eS (o * sz) cs vs=some r):mU sz (o * sz+vs.length) r es:=fun i x hi=>by
  obtain ⟨h1,h2⟩:=hl i x hi
  obtain ⟨_,_,h3⟩:=gK hw
  exact ⟨h1,fun k y hy=>by rw [h3,if_neg (by omega)]; exact h2 k y hy⟩
theorem adH {e n:Nat} (hn:aQ P e=n) (h1n:1≤n):aaU P (ZB e) (PJ n):=by
  intro E A A' B vs us v h hv hg
  unfold ZB at hg
  split at hg
  · rename_i e1 b o q y
    obtain ⟨u,w,rfl,h1,h2⟩:=hv.kp
    split at hg
    · rename_i e' mk m new an e2 mk2 N es acc hy hb
      obtain ⟨he,Cg⟩:=hg.cond
      clear hg
      simp only [Bool.and_eq_true] at he
      have:=Nat.eq_of_beq_eq_true he.1.1
      subst this
      have:=Nat.eq_of_beq_eq_true he.1.2
      subst this
      have:=Nat.eq_of_beq_eq_true he.2
      subst this
      have qX:1≤aQ P e:=by omega
      obtain ⟨cl,jM⟩:=aa0 h h2 hy qX
      have Cg:(KV.int .i64 (Nat.min m q:Nat),A.put b (.arr (.ts e .any N (vr es o (new.take (Nat.min m q))) (Hi o (Nat.min m q) acc an))))=(v,A'):=Cg
      simp only [Prod.mk.injEq] at Cg
      obtain ⟨rfl,rfl⟩:=Cg
      obtain ⟨T2,N2,nB,kZ,e2,ht,_,sU⟩:=h.ar.arr b _ hb
      simp only [KV.ts.injEq] at e2
      obtain ⟨rfl,rfl,rfl,rfl,rfl⟩:=e2
      have Ml:Nat.min m q≤m:=Nat.min_le_left _ _
      have hkq:Nat.min m q≤q:=Nat.min_le_right _ _
      have hf:=jM.first _ Ml
      rw [hn] at hf
      rcases h1.sf with ⟨rfl,rfl,rfl⟩ | ⟨x,L,N0,c,p2,rfl,p3,p4,p5⟩
      ·
        have Ai:Nat.min m 0=0:=Nat.min_zero m
        refine ⟨.int .i64 (Int.ofNat (Nat.min m 0)),B,E,?_,.mkInt,dm.agD h ⟨_,hb⟩ ?_⟩
        · simp only [PJ,jM.len,Option.bind_some,hf]
        · have hp:=T1 (o:=0) ht jM.tree Ml (by rw [Ai]; omega)
          refine ⟨_,_,_,_,rfl,hp,qX,?_⟩
          have F3:vr es 0 (new.take (Nat.min m 0))=es:=by rw [Ai]; simp [vr]
          rw [F3]
          exact sU
      · rcases sU with ⟨_,e2⟩ | ⟨x2,cs,bo,a7,e2,h6,h7,h8⟩
        · rw [p2] at e2; simp at e2
        rw [p2] at e2
        simp only [Option.some.injEq,Prod.mk.injEq] at e2
        obtain ⟨rfl,rfl,rfl⟩:=e2
        have ZP:a7.length=N0:=by rw [h7.length]; exact ht.len.symm
        have gm:∀ v ∈ cl.take (Nat.min m q),v.cells.size=aQ P e:=fun v hv=>jM.size v (List.mem_of_mem_take hv)
        have af3:(cl.take (Nat.min m q)).length=Nat.min m q:=by rw [List.length_take,jM.length]; exact Nat.min_eq_left Ml
        have B7:(bx (cl.take (Nat.min m q))).length=Nat.min m q * aQ P e:=by rw [hY gm,af3]
        have hle:o * aQ P e+(bx (cl.take (Nat.min m q))).length≤cs.length:=by
          rw [B7,← p5,← Nat.add_mul]
          exact Nat.mul_le_mul_right _ (by omega)
        obtain ⟨kb,hw⟩:=vv (o * aQ P e) cs (bx (cl.take (Nat.min m q))) hle
        have KP:kb.length=cs.length:=(gK hw).1
        have HN:(bx (cl.take (Nat.min m q))).all scalar=true:=List.all_eq_true.2 (xn fun v hv=>(m9 jM.tree.typed jM.rel v (List.mem_of_mem_take hv)).2)
        have hp:=T1 (o:=o) ht jM.tree Ml (by omega)
        have hon:(a7.take o).length=o:=by rw [List.length_take]; omega
        have uF:aP P E (vr es o (new.take (Nat.min m q))) (a7.take o ++ cl.take (Nat.min m q) ++ a7.drop (o+Nat.min m q)):=by
          unfold vr
          have hlk:(new.take (Nat.min m q)).length=Nat.min m q:=by rw [List.length_take,← jM.tree.len]; exact Nat.min_eq_left Ml
          rw [hlk]
          exact ((h7.take o).append (jM.rel.take _)).append (h7.drop _)
        have hli:mU (aQ P e) 0 kb (a7.take o ++ cl.take (Nat.min m q) ++ a7.drop (o+Nat.min m q)):=by
          refine M4 (M4 (Rs (h8.take o) (by omega) hw qX) (by rw [hon]; exact NZ gm hw)) ?_
          have e3:(a7.take o ++ cl.take (Nat.min m q)).length * aQ P e=o * aQ P e+(bx (cl.take (Nat.min m q))).length:=by rw [List.length_append,hon,af3,B7,Nat.add_mul]
          rw [e3]
          refine XS ?_ hw
          have:=h8.drop (o+Nat.min m q)
          rw [Nat.zero_add,Nat.add_mul] at this
          rw [B7]
          exact this
        have gm:=dm.aaX (lo:=o * aQ P e) (hi:=o * aQ P e+(bx (cl.take (Nat.min m q))).length) h ⟨_,hb⟩ p2 h6 KP qX hp uF hli
        refine ⟨.int .i64 (Int.ofNat (Nat.min m q)),_,E,?_,.mkInt,gm⟩
        subst hn
        simp only [PJ,jM.len,Option.bind_some,hf,St.rU,ck,Option.isNone_none,Bool.true_and,HN,cond_true,h6,hw,Option.map_some]
    · exact hg.elim
  · exact hg.elim
theorem XT {e n b:Nat} {mt:Bool} (hn:aQ P e=n) (h1n:1≤n):aaU P (Ci e n b mt) (kM n b):=by
  intro E A A' B vs us v h hv hg
  unfold Ci at hg
  split at hg
  · rename_i x y
    obtain ⟨u,w,rfl,h1,h2⟩:=hv.kp
    split at hg
    · rename_i y' hy
      have qX:1≤aQ P e:=by omega
      have hts:∃ T m k es acc,y' = .ts T m k es acc:=by
        unfold FM at hy
        split at hy
        · unfold Vk at hy
          split at hy
          · rename_i T' b' o' n' _ T2 _ _ nB kZ _
            cases hb:Nat.beq T' T2 with
            | false=>rw [hb] at hy; simp at hy
            | true=>rw [hb,cond_true] at hy; simp only [Option.some.injEq] at hy; exact ⟨_,_,_,_,_,hy.symm⟩
          · simp at hy
        · simp only [Option.some.injEq] at hy; exact ⟨_,_,_,_,_,hy.symm⟩
        · simp at hy
      obtain ⟨T,m,k,es,acc,rfl⟩:=hts
      have Ta:Nat.beq e T=true→∃ a7,Src P E B T k es acc w a7:=fun he=>by
        have:=Nat.eq_of_beq_eq_true he
        subst this
        exact aa0 h h2 hy qX
      subst hn
      cases hx:adv x with
      | true=>rw [hx,cond_true] at hg; exact Rt qX h h1 Ta hg
      | false=>
        rw [hx,cond_false] at hg
        cases mt with
        | true=>rw [cond_true] at hg; exact Rt qX h h1 Ta hg
        | false=>rw [cond_false] at hg; exact ZR rfl qX h h1 Ta hg
    · exact hg.elim
  · exact hg.elim
end Go.K
end
section
namespace Go.K
open Go Go.av
variable {P:Program}
theorem cP {o:Oper} : Bt P o .bad:=trivial
theorem ab6 (P:Program) (cfg:dQ) (o:Oper):Bt P o (ct P cfg o.op):=by
  cases ho:o.op with
  | move x=>exact lift_pure (by rw [ho]; rfl) Xz
  | assign x=>exact lift_pure (by rw [ho]; rfl) abW
  | pick c a b=>exact lift_pure (by rw [ho]; rfl) adx
  | alloc t=>
    show Bt P o (nu P t)
    unfold nu
    split
    · rename_i z hz
      cases hc:(flat z && z.cells.toList.all scalar && fS (gH z).cells) with
      | false=>exact cP
      | true=>
        simp only [Bool.and_eq_true] at hc
        exact zH (by rw [ho]; rfl) (ab2 hz hc.1.1 hc.1.2 hc.2)
    · exact cP
  | box t x=>exact zH (by rw [ho]; rfl) afe
  | build t parts=>
    show Bt P o (qa P t (parts.toList.map (·.1)) (parts.toList.map (·.2)))
    have aI:compile P o.op=BL P t (parts.toList.map (·.1)) (parts.toList.map (·.2)):=by rw [ho]; rfl
    unfold qa
    unfold BL at aI
    split
    · rename_i z fields hz hu
      rw [hz,hu] at aI
      simp only at aI
      split
      · rename_i l hl
        rw [hl] at aI
        cases hc:(flat z && fS (gH z).cells) with
        | false=>exact cP
        | true=>
          simp only [Bool.and_eq_true] at hc
          exact lift_pure aI (TW hc.1 hc.2)
      · exact cP
    · rename_i z len e hz hu
      rw [hz,hu] at aI
      simp only at aI
      split
      · rename_i n hn
        rw [hn] at aI
        cases hc:(flat z && fS (gH z).cells) with
        | false=>exact cP
        | true=>
          simp only [Bool.and_eq_true] at hc
          exact lift_pure aI (TW hc.1 hc.2)
      · exact cP
    · exact cP
  | buildSlice t len parts=>
    show Bt P o (jW P t len (parts.toList.map (·.1)) (parts.toList.map (·.2)))
    have aI:compile P o.op=rA P t len (parts.toList.map (·.1)) (parts.toList.map (·.2)):=by rw [ho]; rfl
    unfold jW
    unfold rA at aI
    split
    · rename_i e hu
      rw [hu] at aI
      simp only at aI
      split
      · rename_i i z hi hz
        have du:size? P e=some i.size:=by simp [size?,hi]
        rw [du,hz] at aI
        simp only at aI
        cases hc:(Nat.ble (len * i.size) 16777216 && Nat.beq z.cells.size i.size && Nat.ble 1 i.size && flat z && Nat.beq (bj P e).ks.length i.size && zf len (parts.toList.map (·.1))) with
        | false=>exact cP
        | true=>
          simp only [Bool.and_eq_true] at hc
          obtain ⟨⟨⟨⟨⟨h1,h2⟩,h3⟩,h4⟩,h5⟩,h6⟩:=hc
          rw [h1,h2,h3,h4] at aI
          cases Dz (bj P e).ks with
          | true=>exact ab1 aI (S8 (Nat.eq_of_beq_eq_true h5) (Nat.le_of_ble_eq_true h3) (Nat.eq_of_beq_eq_true h2) h6)
          | false=>
            cases h7:fS (gH z).cells with
            | true=>exact zH aI (Vt h7)
            | false=>exact cP
      · exact cP
    · exact cP
  | load t a=>exact DL (by rw [ho]; rfl) XH
  | store t a x=>exact MZ (by rw [ho]; rfl) ab5
  | nilCheck x=>exact lift_pure (by rw [ho]; rfl) afb
  | binOp op t x y yt=>exact lift_pure (by rw [ho]; rfl) afc
  | unOp op t x=>exact lift_pure (by rw [ho]; rfl) agw
  | convert src dst x=>
    show Bt P o (m6 P src dst x)
    have aI:compile P o.op=xC P src dst x:=by rw [ho]; rfl
    unfold m6
    unfold xC at aI
    split
    · rename_i k k' hs hd
      rw [hs,hd] at aI
      exact lift_pure aI (ab0 hd hs)
    · rename_i hs hd
      rw [hs,hd] at aI
      exact lift_pure aI abZ
    · rename_i e hs hd
      rw [hs,hd] at aI
      simp only at aI
      cases hb:isByte P e with
      | false=>exact cP
      | true=>rw [hb] at aI; exact DL aI Vw
    · rename_i e hs hd
      rw [hs,hd] at aI
      simp only at aI
      cases hb:isByte P e with
      | false=>exact cP
      | true=>rw [hb] at aI; exact ZI aI (VA hb)
    · exact cP
  | makeFunc fn first cap=>
    show Bt P o (cond (tl fn) .bad (.pure (DD fn first.size) (first.toList ++ cap.toList)))
    cases hy:tl fn with
    | true=>exact cP
    | false=>
      have hn:zc fn=true:=by cases fn <;> first | rfl | simp [tl] at hy
      exact lift_pure (by rw [ho]; show cond (zc fn) _ _=_; rw [hn]; rfl) Vq
  | fieldAddr s x f=>
    show Bt P o (kV P s x f)
    have aI:compile P o.op=qJ P s x f:=by rw [ho]; rfl
    unfold kV
    unfold qJ at aI
    split
    · rename_i fd hf
      rw [hf] at aI
      simp only at aI
      split
      · rename_i m hm
        rw [hm] at aI
        exact lift_pure aI (S5 rfl)
      · exact cP
    · exact cP
  | field t x f=>
    show Bt P o (qb P t x f)
    have aI:compile P o.op=BQ P t x f:=by rw [ho]; rfl
    unfold qb
    unfold BQ at aI
    split
    · rename_i fd hf
      rw [hf] at aI
      exact lift_pure aI abX
    · exact cP
  | indexAddr t x ix=>
    show Bt P o (kW P t x ix)
    have aI:compile P o.op=qK P t x ix:=by rw [ho]; rfl
    unfold kW
    unfold qK at aI
    split
    · rename_i len e hu
      rw [hu] at aI
      simp only at aI
      split
      · rename_i n hn
        rw [hn] at aI
        exact lift_pure aI Vn
      · exact cP
    · rename_i e hu
      rw [hu] at aI
      simp only at aI
      split
      · rename_i n hn
        rw [hn] at aI
        exact lift_pure aI (XB rfl)
      · exact cP
    · exact cP
  | index t x ix=>
    show Bt P o (qc P t x ix)
    have aI:compile P o.op=BR P t x ix:=by rw [ho]; rfl
    unfold qc
    unfold BR at aI
    split
    · rename_i len e hu
      rw [hu] at aI
      simp only at aI
      split
      · rename_i n hn
        rw [hn] at aI
        exact lift_pure aI Vo
      · exact cP
    · rename_i hu
      rw [hu] at aI
      exact lift_pure aI Vp
    · exact cP
  | extract t i=>exact lift_pure (by rw [ho]; rfl) XC
  | slice t x lo hi mx=>
    show Bt P o (qd P t x lo hi mx)
    have aI:compile P o.op=BO P t x lo hi mx:=by rw [ho]; rfl
    unfold qd
    unfold BO at aI
    split
    · rename_i e hu
      rw [hu] at aI
      simp only at aI
      split
      · rename_i n hn
        rw [hn] at aI
        simp only at aI
        cases hc:(Nat.ble 1 n && mx.isNone) with
        | false=>exact cP
        | true=>
          simp only [Bool.and_eq_true] at hc
          rw [hc.1] at aI
          have OI:mx=none:=Option.isNone_iff_eq_none.1 hc.2
          subst OI
          simp only [cond_true,eC,List.append_nil,Option.isSome_none] at aI
          exact DL aI (XL (Nat.le_of_ble_eq_true hc.1))
      · exact cP
    · rename_i len e hu
      rw [hu] at aI
      simp only at aI
      split
      · rename_i n hn
        rw [hn] at aI
        simp only at aI
        cases hc:(Nat.ble 1 n && mx.isNone) with
        | false=>exact cP
        | true=>
          simp only [Bool.and_eq_true] at hc
          rw [hc.1] at aI
          have OI:mx=none:=Option.isNone_iff_eq_none.1 hc.2
          subst OI
          simp only [cond_true,eC,List.append_nil,Option.isSome_none] at aI
          exact DL aI Vu
      · exact cP
    · rename_i hu
      rw [hu] at aI
      simp only at aI
      cases hc:mx.isNone with
      | false=>exact cP
      | true=>rw [hc] at aI; exact lift_pure aI Vv
    · exact cP
  | makeSlice t l c=>
    show Bt P o (rI P cfg.x.mt t l c)
    have aI:compile P o.op=s9 P t l c:=by rw [ho]; rfl
    unfold rI
    unfold s9 at aI
    split
    · rename_i e hu
      rw [hu] at aI
      simp only at aI
      split
      · rename_i i hi
        rw [hi] at aI
        simp only at aI
        split
        · rename_i z hz
          rw [hz] at aI
          simp only at aI
          cases hmt:cfg.x.mt e with
          | true=>
            rw [cond_true]
            cases hc:(Nat.ble 1 i.size && Nat.ble 1 i.bytes && Nat.beq z.cells.size i.size && flat z && z.cells.toList.all scalar && Nat.beq (bj P e).ks.length i.size && cZ (bj P e) (hH (bj P e) (gH z))) with
            | false=>exact cP
            | true=>
              simp only [Bool.and_eq_true] at hc
              obtain ⟨⟨⟨⟨⟨⟨h1,h2⟩,h3⟩,h4⟩,h5⟩,h6⟩,h7⟩:=hc
              rw [h1,h2,h3,h4,h5] at aI
              exact zH aI (XQ (Nat.eq_of_beq_eq_true h6) (Nat.le_of_ble_eq_true h1) (Nat.eq_of_beq_eq_true h3) h7)
          | false=>
          rw [cond_false]
          cases hc:(Nat.ble 1 i.size && Nat.ble 1 i.bytes && Nat.beq z.cells.size i.size && flat z && z.cells.toList.all scalar && fS (gH z).cells) with
          | false=>exact cP
          | true=>
            simp only [Bool.and_eq_true] at hc
            obtain ⟨⟨⟨⟨⟨h1,h2⟩,h3⟩,h4⟩,h5⟩,h6⟩:=hc
            rw [h1,h2,h3,h4,h5] at aI
            exact zH aI (S6 h6)
        · exact cP
      · exact cP
    · exact cP
  | call c=>
    show Bt P o (ko P cfg c)
    unfold ko
    split
    · split
      · cases cfg.x.fz <;> trivial
      · trivial
    · trivial
    · rename_i b hb
      obtain ⟨callee,args,argTypes⟩:=c
      simp only at hb
      subst hb
      have aI:compile P o.op=xD P b argTypes.toList args.toList:=by rw [ho]; rfl
      unfold vt
      unfold xD at aI
      split
      ·
        simp only at aI
        unfold QO
        unfold Km at aI
        split
        · rename_i t ht
          rw [ht] at aI
          simp only at aI
          split
          · rename_i e hu
            rw [hu] at aI
            exact lift_pure aI abY
          · rename_i hu
            rw [hu] at aI
            exact lift_pure aI ZE
          · exact cP
        · exact cP
      · simp only at aI
        exact lift_pure (f:=Ch false) aI Q8
      · simp only at aI
        exact lift_pure (f:=Ch true) aI Q8
      ·
        simp only at aI
        unfold AE
        unfold Da at aI
        split
        · rename_i t u ht
          rw [ht] at aI
          simp only at aI
          split
          · rename_i e eu hu huu
            rw [hu] at aI
            simp only at aI
            split
            · rename_i i hi
              rw [hi] at aI
              simp only at aI
              split
              · rename_i z hz
                rw [hz] at aI
                simp only at aI
                cases hc:(Nat.ble 1 i.size && Nat.beq z.cells.size i.size && Nat.beq (bj P e).ks.length i.size) with
                | false=>exact cP
                | true=>
                  simp only [Bool.and_eq_true] at hc
                  have ahC:C9 P u=true:=by unfold C9; rw [huu]
                  rw [hc.1.1,hc.1.2,ahC] at aI
                  exact MZ aI (XT (Nat.eq_of_beq_eq_true hc.2) (Nat.le_of_ble_eq_true hc.1.1))
              · exact cP
            · exact cP
          · exact cP
        · exact cP
      ·
        simp only at aI
        show Bt P o (Hj P argTypes.toList args.toList)
        unfold Hj
        unfold Kl at aI
        split
        · rename_i t u ht
          rw [ht] at aI
          simp only at aI
          split
          · rename_i e eu hu huu
            rw [hu] at aI
            simp only at aI
            split
            · rename_i n hn
              rw [hn] at aI
              simp only at aI
              cases hc:(Nat.ble 1 n && Nat.beq (bj P e).ks.length n) with
              | false=>exact cP
              | true=>
                simp only [Bool.and_eq_true] at hc
                rw [hc.1] at aI
                exact MZ aI (adH (Nat.eq_of_beq_eq_true hc.2) (Nat.le_of_ble_eq_true hc.1))
            · exact cP
          · exact cP
        · exact cP
      · trivial
    · trivial
  | _=>trivial
end Go.K
end
section
namespace Go.K
open Go Go.av
variable {P:Program} {E:Env}
theorem dm.aa4 {E1 E2:Env} {A A1 A2:aj} {B:St} (h:dm P E A B E1 A1 B) (k:dm P E1 A1 B E2 A2 B):dm P E A B E2 A2 B where
  dz:=k.dz
  le:=Env.le_trans h.le k.le
  next:=Nat.le_trans h.next k.next
  gY _ _ _ _:=rfl
  new b x e:=(k.new b x e).elim (h.new b x) .inr
  qz b r e:=by
    rcases k.qz b r e with e | e | e
    · exact h.qz b r e
    · exact .inr (h.lB b e)
    · exact .inr (.inr e)
  qA b g e:=(k.qA b g e).elim (h.qA b g) .inr
  n9 _ _ _ _:=rfl
  lB x q:=(k.lB x q).elim (h.lB x) .inr
  lN g q:=(k.lN g q).elim (h.lN g) .inr
  rK _ _ q:=.inl q
  mK y q:=(k.mK y q).elim (h.mK y) .inr
  rows:=lO fun _ _=>rfl
theorem dm.refl {A:aj} {B:St} (h:ek P E A B):dm P E A B E A B:=
  ⟨h,Env.le_refl _,Nat.le_refl _,fun _ _ _ _=>rfl,fun _ _ e=>.inl e,fun _ _ e=>.inl e,fun _ _ e=>.inl e,fun _ _ _ _=>rfl,fun _ q=>.inl q,fun _ q=>.inl q,fun _ _ q=>.inl q,fun _ q=>.inl q,lO fun _ _=>rfl⟩
theorem Env.adI {A:aj} {B:St} {x:Nat} {r:Xv} (h:ek P E A B) (hx:AR A E x):E.le (E.fp x r):=⟨fun _ _ e=>e,fun _ _ e=>e,fun b q e=>by
  simp only [Env.fp]
  rw [if_neg]
  · exact e
  · intro e2; subst e2
    have:=(h.ar.z b hx).1
    rw [e] at this; simp at this,fun _ _ e=>e⟩
theorem dm.iD {A:aj} {B:St} {b x N:Nat} {T:TypeId} {m:Mk} {es:List KV} {acc:Nat→KV} {cs:List Value} {bo:Option (Nat×Nat)} {a7:List Value} (h:ek P E A B) (hb:A.get b=some (.arr (.ts T m N es acc))) (hx:E.α b=some (x,cs.length,N))
    (iq:B.get x=some (.row cs (aQ P T) true bo)) (ht:gM P T N es acc) (hm:m = .any) (du:1≤aQ P T) (F3:aP P E es a7) (hl:mU (aQ P T) 0 cs a7) :
    dm P E A B (E.fp x ⟨cs,aQ P T,true,bo⟩) (A.put b (.iD (.ts T m N es acc))) B:=by
  subst hm
  have oZ:AR A E x:=⟨b,_,_,_,hb,hx⟩
  have hle:=Env.adI (r:=⟨cs,aQ P T,true,bo⟩) h oZ
  have hzx:(E.fp x ⟨cs,aQ P T,true,bo⟩).z x=some ⟨cs,aQ P T,true,bo⟩:=by simp [Env.fp]
  have FZ:∀ c r,(E.fp x ⟨cs,aQ P T,true,bo⟩).z c=some r→E.z c=some r∨(c=x∧r=⟨cs,aQ P T,true,bo⟩):=fun c r e=>by
    simp only [Env.fp] at e
    split at e
    · rename_i e2; simp at e; exact .inr ⟨e2,e.symm⟩
    · exact .inl e
  have iR:∀ c o,(A.put b (.iD (.ts T .any N es acc))).get c=some o→(c=b∧o = .iD (.ts T .any N es acc))∨(c≠b∧A.get c=some o):=fun c o hc=>by
    rw [aj.bO] at hc
    split at hc
    · rename_i e; simp at hc; exact .inl ⟨e,hc.symm⟩
    · rename_i e; exact .inr ⟨e,hc⟩
  have hA:∀ c v,(A.put b (.iD (.ts T .any N es acc))).get c=some (.arr v)→c≠b∧A.get c=some (.arr v):=fun c v hc=>by
    rcases iR c _ hc with ⟨_,e⟩ | e
    · simp at e
    · exact e
  have aa5:∀ y,AR (A.put b (.iD (.ts T .any N es acc))) E y→AR A E y∧y≠x:=fun y ⟨c,v,L,M,h1,h2⟩=>by
    obtain ⟨h3,h4⟩:=hA c v h1
    refine ⟨⟨c,v,L,M,h4,h2⟩,fun e=>h3 ?_⟩
    subst e
    exact h.ar.inj c b v _ y L M _ _ h4 hb h2 hx
  have Bu:∀ g,AF (A.put b (.iD (.ts T .any N es acc))) E B g→AF A E B g:=fun g ⟨c,v,y,L,M,cs,e,own,k,h1,h2,h3⟩=>⟨c,v,y,L,M,cs,e,own,k,(hA c v h1).2,h2,h3⟩
  refine ⟨⟨fun c m7 bm hc=>?_,fun c top sz hc=>?_,fun y r hy=>?_,fun c y hc=>?_,h.inj,?_,h.gk,h.lM,fun c o hc=>?_,h.fB,fun y r hy=>?_,h.ji,h.fresh,h.mem,?_⟩,hle,Nat.le_refl _,fun _ _ _ _=>rfl,fun _ _ e=>.inl e,fun y r e=>?_,fun _ _ e=>.inl e,fun _ _ _ _=>rfl,fun y q=>.inl (aa5 y q).1,fun g q=>.inl (Bu g q),fun _ _ q=>.inl q,fun y q=>.inl (q.imp (fun q=>(aa5 y q).1) fun ⟨g,q1,q2⟩=>⟨g,Bu g q1,q2⟩),lO fun _ _=>rfl⟩
  · rcases iR c _ hc with ⟨_,e⟩ | ⟨_,e⟩
    · simp at e
    · obtain ⟨y,d,h1,h2,h3⟩:=h.row c m7 bm e
      exact ⟨y,d,h1,h2,h3.mono hle⟩
  · rcases iR c _ hc with ⟨_,e⟩ | ⟨_,e⟩
    · simp at e
    · exact h.aW c top sz e
  · rcases FZ y r hy with e | ⟨rfl,rfl⟩
    · exact h.z y r e
    · exact iq
  · have hc:E.κ c=some y:=hc
    cases hz:(E.fp x ⟨cs,aQ P T,true,bo⟩).z y with
    | none=>rfl
    | some r=>
      rcases FZ y r hz with e | ⟨rfl,_⟩
      · rw [h.apart c y hc] at e; simp at e
      · exact absurd hc ((h.ar.z y oZ).2 c)
  · exact h.iH.put (.inl fun t s=>by simp)
  · rw [aj.po]
    rcases iR c _ hc with ⟨e,_⟩ | ⟨_,e⟩
    · rw [e]; exact h.live b _ hb
    · exact h.live c o e
  · rcases FZ y r hy with e | ⟨rfl,_⟩
    · exact h.lX y r e
    · exact h.AK oZ
  · refine ⟨fun c v hc=>?_,fun c v hc=>?_,fun y q=>?_,fun c d v u y L M L' M' h1 h2 h3 h4=>h.ar.inj c d v u y L M L' M' (hA c v h1).2 (hA d u h2).2 h3 h4,fun c d v u y w L M L' M' m7 e own g k bI e' nC k' h1 h2 h3 h4=>h.ar.qT c d v u y w L M L' M' m7 e own g k bI e' nC k' (hA c v h1).2 (hA d u h2).2 h3 h4,h.ar.QV,h.ar.gk,h.ar.fB,fun c v y L M m7 e own g k h1 h2 h3=>?_,fun c v hc=>h.ar.nk c v (hA c v hc).2⟩
    · exact (h.ar.arr c v (hA c v hc).2).mono hle rfl fun _ _ _ _=>rfl
    · rcases iR c _ hc with ⟨e,e2⟩ | ⟨_,e⟩
      · simp at e2
        subst e2
        exact ⟨T,N,es,acc,rfl,ht,du,.inr ⟨x,⟨cs,aQ P T,true,bo⟩,a7,by rw [e]; exact hx,hzx,rfl,F3.mono hle,hl⟩⟩
      · exact (h.ar.iD c v e).mono hle rfl
    · obtain ⟨q1,q2⟩:=aa5 y q
      refine ⟨?_,(h.ar.z y q1).2⟩
      simp only [Env.fp]
      rw [if_neg q2]
      exact (h.ar.z y q1).1
    · obtain ⟨bR,h1⟩:=hA c v h1
      obtain ⟨q1,q2,q3⟩:=h.ar.pT c v y L M m7 e own g k h1 h2 h3
      refine ⟨q1,q2,fun z hz hzy=>?_⟩
      obtain ⟨q4,q5,q6⟩:=q3 z hz hzy
      refine ⟨?_,fun q=>q5 (aa5 z q).1,q6⟩
      simp only [Env.fp]
      rw [if_neg]
      · exact q4
      · intro e2
        subst e2
        exact q5 oZ
  · rcases FZ y r e with e | ⟨rfl,_⟩
    · exact .inl e
    · exact .inr (.inl oZ)
theorem dm.agE {A:aj} {B:St} {b:Nat} {T:TypeId} {m:Mk} {N:Nat} {es:List KV} {acc:Nat→KV} (h:ek P E A B) (hb:A.get b=some (.arr (.ts T m N es acc))) (bc:Lc P E b (.ts T m N es acc)) (oy:E.α b=none):dm P E A B E (A.put b (.iD (.ts T m N es acc))) B:=by
  have iR:∀ c o,(A.put b (.iD (.ts T m N es acc))).get c=some o→(c=b∧o = .iD (.ts T m N es acc))∨A.get c=some o:=fun c o hc=>by
    rw [aj.bO] at hc
    split at hc
    · rename_i e; simp at hc; exact .inl ⟨e,hc.symm⟩
    · exact .inr hc
  have hA:∀ c v,(A.put b (.iD (.ts T m N es acc))).get c=some (.arr v)→A.get c=some (.arr v):=fun c v hc=>by
    rcases iR c _ hc with ⟨_,e⟩ | e
    · simp at e
    · exact e
  have oZ:∀ y,AR (A.put b (.iD (.ts T m N es acc))) E y→AR A E y:=fun y ⟨c,v,L,M,h1,h2⟩=>⟨c,v,L,M,hA c v h1,h2⟩
  have Bu:∀ g,AF (A.put b (.iD (.ts T m N es acc))) E B g→AF A E B g:=fun g ⟨c,v,y,L,M,cs,e,own,k,h1,h2,h3⟩=>⟨c,v,y,L,M,cs,e,own,k,hA c v h1,h2,h3⟩
  have _:=oy
  refine ⟨⟨fun c m7 bm hc=>?_,fun c top sz hc=>?_,h.z,h.apart,h.inj,?_,h.gk,h.lM,fun c o hc=>?_,h.fB,h.lX,h.ji,h.fresh,h.mem,?_⟩,Env.le_refl _,Nat.le_refl _,fun _ _ _ _=>rfl,fun _ _ e=>.inl e,fun y r e=>.inl e,fun _ _ e=>.inl e,fun _ _ _ _=>rfl,fun y q=>.inl (oZ y q),fun g q=>.inl (Bu g q),fun _ _ q=>.inl q,fun y q=>.inl (q.imp (oZ y) fun ⟨g,q1,q2⟩=>⟨g,Bu g q1,q2⟩),lO fun _ _=>rfl⟩
  · rcases iR c _ hc with ⟨_,e⟩ | e
    · simp at e
    · exact h.row c m7 bm e
  · rcases iR c _ hc with ⟨_,e⟩ | e
    · simp at e
    · exact h.aW c top sz e
  · exact h.iH.put (.inl fun t s=>by simp)
  · rw [aj.po]
    rcases iR c _ hc with ⟨e,_⟩ | e
    · rw [e]; exact h.live b _ hb
    · exact h.live c o e
  · refine ⟨fun c v hc=>h.ar.arr c v (hA c v hc),fun c v hc=>?_,fun y q=>h.ar.z y (oZ y q),fun c d v u y L M L' M' h1 h2 h3 h4=>h.ar.inj c d v u y L M L' M' (hA c v h1) (hA d u h2) h3 h4,fun c d v u y w L M L' M' m7 e own g k bI e' nC k' h1 h2 h3 h4=>h.ar.qT c d v u y w L M L' M' m7 e own g k bI e' nC k' (hA c v h1) (hA d u h2) h3 h4,h.ar.QV,h.ar.gk,h.ar.fB,fun c v y L M m7 e own g k h1 h2 h3=>?_,fun c v hc=>h.ar.nk c v (hA c v hc)⟩
    · rcases iR c _ hc with ⟨e,e2⟩ | e
      · simp at e2; rw [e2,e]; exact bc
      · exact h.ar.iD c v e
    · obtain ⟨q1,q2,q3⟩:=h.ar.pT c v y L M m7 e own g k (hA c v h1) h2 h3
      exact ⟨q1,q2,fun z hz hzy=>⟨(q3 z hz hzy).1,fun q=>(q3 z hz hzy).2.1 (oZ z q),(q3 z hz hzy).2.2⟩⟩
theorem M5 {T:TypeId} {m:Mk} {b o n N:Nat} {es:List KV} {acc:Nat→KV} {u:Value} {A:aj} {B:St} (h:ek P E A B) (hv:VK P E (.al T b o n) u) (ha:A.get b=some (.iD (.ts T m N es acc))) :
    VK P E (.ts T .any n ((es.drop o).take n) (fun i=>acc (o+i))) u:=by
  obtain ⟨T2,N2,nB,kZ,e,ht,du,sU⟩:=h.ar.iD b _ ha
  simp only [KV.ts.injEq] at e
  obtain ⟨rfl,rfl,rfl,rfl,rfl⟩:=e
  simp only [VK]
  rcases hv.sf with ⟨rfl,rfl,rfl⟩ | ⟨x,L,N0,c,h1,rfl,h3,h4,h5⟩
  · exact ⟨⟨by simp,fun i hi=>by omega,rfl⟩,[],by simpa using aP.nil,none,0,rfl,Nat.le_refl _,.inl ⟨rfl,rfl⟩,trivial⟩
  · rcases sU with ⟨_,e⟩ | ⟨x2,r,a7,e,h6,h6',h7,h8⟩
    · rw [h1] at e; simp at e
    rw [h1] at e
    simp only [Option.some.injEq,Prod.mk.injEq] at e
    obtain ⟨rfl,rfl,rfl⟩:=e
    have ZQ:((es.drop o).take n).length=n:=by rw [List.length_take,List.length_drop,← ht.len]; omega
    refine ⟨⟨ZQ.symm,fun i hi=>?_,oA fun i x hi=>?_⟩,(a7.drop o).take n,(h7.drop o).take n,_,c,rfl,h3,.inr ⟨x,o * aQ P T,r,rfl,h6,h6',?_⟩,trivial⟩
    · rw [ht.acc (o+i) (by omega),List.getD_eq_getElem?_getD,List.getD_eq_getElem?_getD,List.getElem?_take,if_pos hi,List.getElem?_drop]
    · rw [List.getElem?_take] at hi
      split at hi
      · rw [List.getElem?_drop] at hi; exact jj ht.typed hi
      · simp at hi
    · have:=(h8.drop o).take n
      rw [Nat.zero_add] at this
      exact this
theorem N3 {A:aj} {B:St} {v:KV} {u:Value} (h:ek P E A B) (hv:VK P E v u):∃ E',dm P E A B E' (QP A v).2 B∧VK P E' (QP A v).1 u:=by
  unfold QP
  split
  · rename_i T b o n
    split
    · rename_i T' m N es acc hb
      cases ht:Nat.beq T T' with
      | false=>exact ⟨E,.refl h,.pA⟩
      | true=>
        have:=Nat.eq_of_beq_eq_true ht
        subst this
        rw [cond_true]
        have bc:=h.ar.arr b _ hb
        obtain ⟨T2,N2,nB,kZ,e,yO,du,sU⟩:=bc
        simp only [KV.ts.injEq] at e
        obtain ⟨rfl,rfl,rfl,rfl,rfl⟩:=e
        rcases sU with ⟨h1,h2⟩ | ⟨x,cs,bo,a7,h2,h3,h4,h5⟩
        · have gm:=dm.agE h hb ⟨_,_,_,_,rfl,yO,du,.inl ⟨h1,h2⟩⟩ h2
          exact ⟨E,gm,M5 gm.dz hv ((aj.bO _ _ _ _).trans (if_pos rfl))⟩
        · have gm:=dm.iD h hb h2 h3 yO rfl du h4 h5
          exact ⟨_,gm,M5 gm.dz (hv.mono gm.le) ((aj.bO _ _ _ _).trans (if_pos rfl))⟩
    · rename_i T' m N es acc hb
      cases ht:Nat.beq T T' with
      | false=>exact ⟨E,.refl h,.pA⟩
      | true=>
        have:=Nat.eq_of_beq_eq_true ht
        subst this
        rw [cond_true]
        exact ⟨E,.refl h,M5 h hv hb⟩
    · exact ⟨E,.refl h,.pA⟩
  · exact ⟨E,.refl h,hv⟩
theorem Lm {B:St} : ∀ {vs:List KV} {us:List Value} {E:Env} {A:aj},ek P E A B→aP P E vs us→∃ E',dm P E A B E' (MT A vs).2 B∧aP P E' (MT A vs).1 us
  | [],us,E,A,h,hv=>⟨E,.refl h,hv⟩
  | v :: vs,us,E,A,h,hv=>by
    obtain ⟨u,SZ,rfl,h1,h2⟩:=hv.cons_inv
    obtain ⟨E1,h3,h4⟩:=N3 h h1
    obtain ⟨E2,h5,h6⟩:=Lm h3.dz (h2.mono h3.le)
    exact ⟨E2,h3.aa4 h5,.cons (h4.mono h5.le) h6⟩
theorem XU {A:aj} {B:St} {v:KV} {u:Value} (h:ek P E A B) (hv:VK P E v u):∃ E',dm P E A B E' (TU A v).2 B∧VK P E' (TU A v).1 u:=by
  unfold TU
  split
  · rename_i cs
    obtain ⟨l,rfl,h1⟩:=hv.kT
    obtain ⟨E1,h2,h3⟩:=Lm h h1
    exact ⟨E1,h2,.ny h3⟩
  · exact N3 h hv
theorem DS:∀ (A:aj) (vs:List KV),(wh A vs).1.length=vs.length
  | _,[]=>rfl
  | A,v :: vs=>by simp [wh,DS]
theorem AL {B:St} : ∀ {vs:List KV} {us:List Value} {E:Env} {A:aj},ek P E A B→aP P E vs us→∃ E',dm P E A B E' (wh A vs).2 B∧aP P E' (wh A vs).1 us
  | [],us,E,A,h,hv=>⟨E,.refl h,hv⟩
  | v :: vs,us,E,A,h,hv=>by
    obtain ⟨u,SZ,rfl,h1,h2⟩:=hv.cons_inv
    obtain ⟨E1,h3,h4⟩:=XU h h1
    obtain ⟨E2,h5,h6⟩:=AL h3.dz (h2.mono h3.le)
    exact ⟨E2,h3.aa4 h5,.cons (h4.mono h5.le) h6⟩
end Go.K
end
section
namespace Go.K
open Go Go.av
variable {P:Program} {E:Env}
theorem sg (t:bp):∀ xs,qW t xs=xs.map (kX t)
  | []=>rfl
  | x :: xs=>by rw [qW,sg t xs]; rfl
structure jw (P:Program) (E:Env) (ρ:ao) (t:bp) (N:Nat) (a:Act):Prop where
  size:a.tmps.size=N
  val:∀ i,VC P E ρ ((t.get i).getD .aq) (a.tmps.getD i undef)
  none:∀ i,N≤i→t.get i=Option.none
theorem jw.ev {ρ:ao} {t:bp} {N:Nat} {a:Act} (h:jw P E ρ t N a) (x:Operand):VC P E ρ (kX t x) (a.eval x):=by
  cases x with
  | tmp i=>exact h.val i
  | const v=>
    simp only [kX,Act.eval]
    cases hf:flat v with
    | true=>exact ⟨v,.gH v,VR.of_flat hf⟩
    | false=>exact .aq
  | global g=>exact .aq
  | func f=>exact ⟨.func (.func f) ⟨[]⟩ ⟨[]⟩,.Xy .nil .nil,VR.G9 (l:=[]) (m:=[]) (.func f) rfl .nil .nil⟩
theorem jw.mono {E' : Env} {ρ ak:ao} {t:bp} {N:Nat} {a:Act} (h:jw P E ρ t N a) (k:E.le E') (m:ρ.le ak):jw P E' ak t N a:=⟨h.size,fun i=>(h.val i).mono k m,h.none⟩
theorem jw.put {ρ:ao} {t:bp} {N:Nat} {a:Act} {dst:Option Tmp} {v:KV} {v' : Value} (h:jw P E ρ t N a) (hd:∀ d,dst=some d→d < N) (hv:VC P E ρ v v'):jw P E ρ (ow t dst v) N (a.put dst v'):=by
  cases dst with
  | none=>exact h
  | some d=>
    have hd:=hd d rfl
    refine ⟨by simp [Act.put,h.size],fun i=>?_,fun i hi=>?_⟩
    · simp only [ow,Trie.iP,Act.put]
      by_cases e:i=d
      · subst e
        have:i < a.tmps.size:=by rw [h.size]; exact hd
        simp [Array.getD_eq_getD_getElem?,this,hv]
      · have:=h.val i
        simp only [if_neg e]
        simpa [Array.getD_eq_getD_getElem?,Array.getElem?_setIfInBounds_ne (Ne.symm e)] using this
    · simp only [ow,Trie.iP]
      have bR:i≠d:=fun e=>absurd hi (by rw [e]; exact Nat.not_le_of_lt hd)
      rw [if_neg bR]
      exact h.none i hi
theorem jw.same {ρ:ao} {t t' : bp} {N:Nat} {a:Act} (h:jw P E ρ t N a) (hs:∀ i,t'.get i=t.get i):jw P E ρ t' N a:=
  ⟨h.size,fun i=>by rw [hs]; exact h.val i,fun i hi=>by rw [hs]; exact h.none i hi⟩
theorem xR {v:KV} {b:Bool} (h:qQ v = .bool b):v = .bool b:=by cases v <;> simp [qQ] at h; rw [h]
theorem Rv {v:KV} (h:qQ v = .pQ):∃ l,v = .pQ l:=by cases v <;> simp [qQ] at h; exact ⟨_,rfl⟩
theorem DT {t:bp} {d:Tmp} {b:Bool} (h:qQ ((t.get d).getD .aq) = .bool b):∀ i,(Trie.set (.bool b) t d).get i=t.get i:=by
  intro i
  have:=xR h
  rw [Trie.iP]
  split
  · rename_i e
    subst e
    cases ht:t.get i with
    | none=>rw [ht] at this; simp at this
    | some v=>rw [ht] at this; simp at this; rw [this]
  · rfl
theorem VC.dC {ρ:ao} {b:Bool} {v:Value} (h:VC P E ρ (.bool b) v):v = .bool b:=by
  obtain ⟨u,h1,h2⟩:=h
  have:=h1.dC; subst this
  exact h2.dC
theorem VF {R:Type} {ρ:ao} {t:bp} {N:Nat} {a:Act} {all:List Oper} {o:Oper} {j:Nat} {want:Bool} {yes no:bp→Option R} {r:R} (hg:o.guard=some (j,want)) (ht:jw P E ρ t N a)
    (h:Xr t ((all[j]?).bind (·.dst)) want yes no=some r) :
    ∃ t',(∀ i,t'.get i=t.get i)∧((Region.wanted o (yielded ⟨all⟩ a.tmps)=true∧yes t' = some r)∨(Region.wanted o (yielded ⟨all⟩ a.tmps)=false∧no t' = some r)):=by
  unfold Xr at h
  cases hd:(all[j]?).bind (·.dst) with
  | none=>rw [hd] at h; exact absurd h (by simp)
  | some d=>
    rw [hd] at h
    have hw:∀ u,a.tmps[d]? = some u→Region.wanted o (yielded ⟨all⟩ a.tmps)=(match u with
        | .bool b=>b == want
        | _=>false):=by
      intro u hu
      unfold Region.wanted
      rw [hg]
      simp only
      unfold yielded
      have e:(⟨all⟩:Array Oper)[j]? = all[j]?:=by simp
      rw [e,hd]
      simp only [Option.bind_some,hu]
      cases u <;> rfl
    have qV:=ht.val d
    have h:BK.rec (motive:=fun _=>Option R)
      (fun b=>Bool.rec (motive:=fun _=>Option R)
        (Bool.rec (motive:=fun _=>Option R) (yes (t.set (.bool false) d)) (no (t.set (.bool false) d)) want)
        (Bool.rec (motive:=fun _=>Option R) (no (t.set (.bool true) d)) (yes (t.set (.bool true) d)) want) b)
      (no t) none (qQ ((t.get d).getD .aq))=some r:=h
    cases hb:qQ ((t.get d).getD .aq) with
    | no=>rw [hb] at h; exact absurd h (by simp)
    | pQ=>
      rw [hb] at h
      obtain ⟨l,hl⟩:=Rv hb
      rw [hl] at qV
      obtain ⟨u,h1,h2⟩:=qV
      obtain ⟨m,rfl,_⟩:=h1.FT
      obtain ⟨m',h3,_⟩:=h2.zu
      refine ⟨t,fun _=>rfl,.inr ⟨?_,h⟩⟩
      cases hc:a.tmps[d]? with
      | none=>
        unfold Region.wanted
        rw [hg]
        simp only
        unfold yielded
        have e:(⟨all⟩:Array Oper)[j]? = all[j]?:=by simp
        rw [e,hd]
        simp [hc]
      | some u=>
        have:u = .tuple m':=by rw [← h3]; simp [Array.getD_eq_getD_getElem?,hc]
        rw [hw u hc,this]
    | bool b=>
      rw [hb] at h
      have hbv:=xR hb
      rw [hbv] at qV
      have hcv:=qV.dC
      have hc:a.tmps[d]? = some (.bool b):=by
        cases hc:a.tmps[d]? with
        | none=>simp [Array.getD_eq_getD_getElem?,hc,undef] at hcv
        | some u=>have:u = .bool b:=by rw [← hcv]; simp [Array.getD_eq_getD_getElem?,hc]
                  rw [this]
      have EM:=hw _ hc
      refine ⟨t.set (.bool b) d,DT hb,?_⟩
      cases b <;> cases want
      · exact .inl ⟨EM,h⟩
      · exact .inr ⟨EM,h⟩
      · exact .inr ⟨EM,h⟩
      · exact .inl ⟨EM,h⟩
def xS (P:Program) (E:Env) (ρ:ao) (l:List KV) (l' : List Value):Prop:=∃ m,aP P E l m∧cO ρ m l'
def wQ (P : Program) (g : FuncId) : Prop := Nat.blt g yB = true ∧ ∃ fn, P.funcs[g]? = some fn ∧ fn.body.isSome = true ∧ (fn.name == "runtime.NumGoroutine") = false
def Cx {R:Type} (P:Program) (bq:mH R):Prop:=
  ∀ f args A k r,bq f args A k=some r→wQ P f∧∀ (E:Env) (B:St) (ρ:ao) (base:Nat) (w:World) (cL:List Value),xS P E ρ args cL→KJ P E A B ρ base w→
    Calls P f cL.toArray w fun e w'=>∃ v v' E' A' B' ak,e = .returned v'∧VC P E' ak v v'∧Ev P base E A B ρ w E' A' B' ak w'∧k v A' = some r
def gN (P:Program) (g:FuncId) (F:List KV→KR KV):Prop:=
  ∀ args v,aG (F (normArgs P (bM P g) args)) v→args.length=(bM P g).length→wQ P g∧∀ (E:Env) (A:aj) (B:St) (ρ:ao) (base:Nat) (w:World) (cL:List Value),xS P E ρ args cL→KJ P E A B ρ base w→
    Calls P g cL.toArray w fun e w'=>∃ v' E' B' ak,e = .returned v'∧VC P E' ak v v'∧Ev P base E A B ρ w E' A B' ak w'
def o7 (P:Program) (pc:FuncId→Option (List KV→KR KV)):Prop:=∀ g F,pc g=some F→gN P g F
theorem VG {o:Oper} {f:Operand} {args:List Operand} (aI:compile P o.op = .call f args) {ρ:ao} {t:bp} {N:Nat} {a:Act} (ht:jw P E ρ t N a) {g:FuncId} {vs:List KV} (hc:FO (qW t args) (kX t f)=some (g,vs)) (hg:wQ P g) :
    ∃ bP,xS P E ρ vs bP∧∀ w,(execOp a.eval o).run P w = .ok (.enter g bP.toArray) w:=by
  have bc:=mf P o
  rw [aI] at bc
  obtain ⟨em,h1,h2⟩:=bS (xs:=f :: args) (ev:=kX t) (cr:=a.eval) fun x _=>ht.ev x
  obtain ⟨y,ys,e,h3,h4⟩:=h1.cons_inv
  simp only [List.map_cons,List.cons.injEq] at e
  obtain ⟨rfl,rfl⟩:=e
  have hv:∃ us,iQ (args.map em) (em f)=some (g,us)∧aP P E vs us:=by
    unfold FO at hc
    split at hc
    · rename_i g' first cap e
      simp only [Option.some.injEq,Prod.mk.injEq] at hc
      obtain ⟨rfl,rfl⟩:=hc
      rw [e] at h3
      obtain ⟨l,m,e2,h5,h6⟩:=h3.AI
      rw [e2]
      refine ⟨l ++ args.map em ++ m,by simp only [iQ]; rw [hg.1]; rfl,?_⟩
      rw [sg]
      exact (h5.append h4).append h6
    · simp at hc
  obtain ⟨us,h5,h6⟩:=hv
  obtain ⟨bP,h7,h8⟩:=bc.2 ρ em a.eval g us h2 hg.1 h5 hg.2
  exact ⟨bP,⟨us,h6,h7⟩,h8⟩
def c6:o6→Bool
  | .call _ _=>false
  | .yk _ _ _=>false
  | .Bo _ _ _=>false
  | _=>true
theorem dy {c:Bool} {x:o6} (h:c6 x=true):c6 (cond c x .bad)=true:=by
  cases c with
  | false=>rfl
  | true=>exact h
theorem wR (mt:TypeId→Bool) (b:Builtin) (ts:List TypeId) (args:List Operand):c6 (vt P mt b ts args)=true:=by
  unfold vt QO AE Hj
  repeat' split
  all_goals first | rfl | exact dy rfl
theorem ue (mt:TypeId→Bool) (t:TypeId) (l c:Operand):c6 (rI P mt t l c)=true:=by
  unfold rI
  split
  · rename_i e he
    split
    · split
      · cases mt e <;> exact dy rfl
      · rfl
    · rfl
  · rfl
theorem N5 {cfg:dQ} {op:Op} {f:Operand} {args:List Operand} (h:ct P cfg op = .call f args):compile P op = .call f args:=by
  have key:c6 (ct P cfg op)=true→compile P op = .call f args:=fun hn=>by rw [h] at hn; simp [c6] at hn
  cases op with
  | call c=>
    have h:ko P cfg c = .call f args:=h
    show ta P c=_
    unfold ko at h
    unfold ta
    split at h
    · rename_i g hc
      split at h
      · cases hz:cfg.x.fz <;> rw [hz] at h <;> simp at h
      · simp at h; obtain ⟨rfl,rfl⟩:=h; rw [hc]
    · rename_i f' bR hc; simp at h; obtain ⟨rfl,rfl⟩:=h; rw [hc]
    · rename_i b hc
      have:=wR (P:=P) cfg.x.mt b c.argTypes.toList c.args.toList
      rw [h] at this
      simp [c6] at this
    · simp at h
  | alloc t=>exact key (by show c6 (nu P t)=true; unfold nu; split <;> first | rfl | exact dy rfl)
  | build t ps=>exact key (by show c6 (qa P t _ _)=true; unfold qa; (repeat' split); all_goals first | rfl | exact dy rfl)
  | buildSlice t n ps=>exact key (by show c6 (jW P t n _ _)=true; unfold jW; (repeat' split); all_goals first | rfl | exact dy (by cases Dz _ <;> first | rfl | exact dy rfl))
  | convert s d x=>exact key (by show c6 (m6 P s d x)=true; unfold m6; (repeat' split); all_goals first | rfl | exact dy rfl)
  | makeFunc fn a b=>exact key (by show c6 (cond (tl fn) .bad _)=true; cases tl fn <;> rfl)
  | fieldAddr s x i=>exact key (by show c6 (kV P s x i)=true; unfold kV; (repeat' split); all_goals rfl)
  | field s x i=>exact key (by show c6 (qb P s x i)=true; unfold qb; (repeat' split); all_goals rfl)
  | indexAddr s x i=>exact key (by show c6 (kW P s x i)=true; unfold kW; (repeat' split); all_goals rfl)
  | index s x i=>exact key (by show c6 (qc P s x i)=true; unfold qc; (repeat' split); all_goals rfl)
  | slice t x lo hi mx=>exact key (by show c6 (qd P t x lo hi mx)=true; unfold qd; (repeat' split); all_goals first | rfl | exact dy rfl)
  | makeSlice t l c=>exact key (ue _ t l c)
  | _=>exact key rfl
theorem VH {cfg:dQ} {op:Op} {g:FuncId} {F:List KV→KR KV} {args:List Operand} (h:ct P cfg op = .yk g F args):compile P op = .call (.func g) args∧∃ F0,cfg.pc g=some F0∧F=fun vs=>cond (Nat.beq vs.length (bM P g).length) (F0 (normArgs P (bM P g) vs)) .no:=by
  have key:c6 (ct P cfg op)=true→compile P op = .call (.func g) args∧∃ F0,cfg.pc g=some F0∧F=fun vs=>cond (Nat.beq vs.length (bM P g).length) (F0 (normArgs P (bM P g) vs)) .no:=fun hn=>by rw [h] at hn; simp [c6] at hn
  cases op with
  | call c=>
    have h:ko P cfg c = .yk g F args:=h
    show ta P c=_∧_
    unfold ko at h
    unfold ta
    split at h
    · rename_i g' hc
      split at h
      · rename_i F0 hF
        cases hz:cfg.x.fz with
        | true=>rw [hz] at h; simp at h
        | false=>
          rw [hz] at h
          simp at h; obtain ⟨rfl,rfl,rfl⟩:=h; rw [hc]
          exact ⟨rfl,F0,hF,rfl⟩
      · simp at h
    · simp at h
    · rename_i b hc
      have:=wR (P:=P) cfg.x.mt b c.argTypes.toList c.args.toList
      rw [h] at this
      simp [c6] at this
    · simp at h
  | alloc t=>exact key (by show c6 (nu P t)=true; unfold nu; split <;> first | rfl | exact dy rfl)
  | build t ps=>exact key (by show c6 (qa P t _ _)=true; unfold qa; (repeat' split); all_goals first | rfl | exact dy rfl)
  | buildSlice t n ps=>exact key (by show c6 (jW P t n _ _)=true; unfold jW; (repeat' split); all_goals first | rfl | exact dy (by cases Dz _ <;> first | rfl | exact dy rfl))
  | convert s d x=>exact key (by show c6 (m6 P s d x)=true; unfold m6; (repeat' split); all_goals first | rfl | exact dy rfl)
  | makeFunc fn a b=>exact key (by show c6 (cond (tl fn) .bad _)=true; cases tl fn <;> rfl)
  | fieldAddr s x i=>exact key (by show c6 (kV P s x i)=true; unfold kV; (repeat' split); all_goals rfl)
  | field s x i=>exact key (by show c6 (qb P s x i)=true; unfold qb; (repeat' split); all_goals rfl)
  | indexAddr s x i=>exact key (by show c6 (kW P s x i)=true; unfold kW; (repeat' split); all_goals rfl)
  | index s x i=>exact key (by show c6 (qc P s x i)=true; unfold qc; (repeat' split); all_goals rfl)
  | slice t x lo hi mx=>exact key (by show c6 (qd P t x lo hi mx)=true; unfold qd; (repeat' split); all_goals first | rfl | exact dy rfl)
  | makeSlice t l c=>exact key (ue _ t l c)
  | _=>exact key rfl
theorem VI {cfg:dQ} {op:Op} {g:FuncId} {F:List KV→KR KV} {args:List Operand} (h:ct P cfg op = .Bo g F args):compile P op = .call (.func g) args∧∃ F0,cfg.pc g=some F0∧F=fun vs=>cond (Nat.beq vs.length (bM P g).length) (F0 (normArgs P (bM P g) vs)) .no:=by
  have key:c6 (ct P cfg op)=true→compile P op = .call (.func g) args∧∃ F0,cfg.pc g=some F0∧F=fun vs=>cond (Nat.beq vs.length (bM P g).length) (F0 (normArgs P (bM P g) vs)) .no:=fun hn=>by rw [h] at hn; simp [c6] at hn
  cases op with
  | call c=>
    have h:ko P cfg c = .Bo g F args:=h
    show ta P c=_∧_
    unfold ko at h
    unfold ta
    split at h
    · rename_i g' hc
      split at h
      · rename_i F0 hF
        cases hz:cfg.x.fz with
        | false=>rw [hz] at h; simp at h
        | true=>
          rw [hz] at h
          simp at h; obtain ⟨rfl,rfl,rfl⟩:=h; rw [hc]
          exact ⟨rfl,F0,hF,rfl⟩
      · simp at h
    · simp at h
    · rename_i b hc
      have:=wR (P:=P) cfg.x.mt b c.argTypes.toList c.args.toList
      rw [h] at this
      simp [c6] at this
    · simp at h
  | alloc t=>exact key (by show c6 (nu P t)=true; unfold nu; split <;> first | rfl | exact dy rfl)
  | build t ps=>exact key (by show c6 (qa P t _ _)=true; unfold qa; (repeat' split); all_goals first | rfl | exact dy rfl)
  | buildSlice t n ps=>exact key (by show c6 (jW P t n _ _)=true; unfold jW; (repeat' split); all_goals first | rfl | exact dy (by cases Dz _ <;> first | rfl | exact dy rfl))
  | convert s d x=>exact key (by show c6 (m6 P s d x)=true; unfold m6; (repeat' split); all_goals first | rfl | exact dy rfl)
  | makeFunc fn a b=>exact key (by show c6 (cond (tl fn) .bad _)=true; cases tl fn <;> rfl)
  | fieldAddr s x i=>exact key (by show c6 (kV P s x i)=true; unfold kV; (repeat' split); all_goals rfl)
  | field s x i=>exact key (by show c6 (qb P s x i)=true; unfold qb; (repeat' split); all_goals rfl)
  | indexAddr s x i=>exact key (by show c6 (kW P s x i)=true; unfold kW; (repeat' split); all_goals rfl)
  | index s x i=>exact key (by show c6 (qc P s x i)=true; unfold qc; (repeat' split); all_goals rfl)
  | slice t x lo hi mx=>exact key (by show c6 (qd P t x lo hi mx)=true; unfold qd; (repeat' split); all_goals first | rfl | exact dy rfl)
  | makeSlice t l c=>exact key (ue _ t l c)
  | _=>exact key rfl
noncomputable def qC (ins:o6) (t:bp) (A:aj):KR (KV×aj):=
  match ins with
  | .pure f xs=>(f (qW t xs)).map fun v=>(v,A)
  | .read f xs=>(f A (qW t xs)).map fun v=>(v,A)
  | .act f xs=>f A (qW t xs)
  | .look f xs=>(f (qW t xs)).map fun v=>(v,A)
  | .yk _ f xs=>(f (qW t xs)).map fun v=>(v,A)
  | .Bo _ f xs=>(f (wh A (qW t xs)).1).map fun v=>(v,(wh A (qW t xs)).2)
  | .call _ _=>.no
  | .bad=>.no
theorem aG.map {α β:Type} {r:KR α} {f:α→β} {v:β} (h:aG (r.map f) v):∃ u,aG r u∧f u=v:=by
  cases r with
  | no=>exact h.elim
  | ok u=>exact ⟨u,rfl,h⟩
  | kU c u=>exact ⟨u,⟨h.1,rfl⟩,h.2⟩
  | br c x y=>
    rcases h with ⟨h1,h2⟩ | ⟨h1,h2⟩
    · obtain ⟨u,h3,h4⟩:=aG.map (r:=x) h2; exact ⟨u,.inl ⟨h1,h3⟩,h4⟩
    · obtain ⟨u,h3,h4⟩:=aG.map (r:=y) h2; exact ⟨u,.inr ⟨h1,h3⟩,h4⟩
theorem aG.vw {α β:Type} {r:KR α} {f:α→β} {u:α} (h:aG r u):aG (r.map f) (f u):=by
  cases r with
  | no=>exact h.elim
  | ok x=>have h:x=u:=h; subst h; exact rfl
  | kU c x=>obtain ⟨h1,rfl⟩:=h; exact ⟨h1,rfl⟩
  | br c x y=>exact h.imp (fun h=>⟨h.1,aG.vw (r:=x) h.2⟩) (fun h=>⟨h.1,aG.vw (r:=y) h.2⟩)
theorem AO {R:Type} {bq:mH R} {t:bp} {A:aj} {k:KV→aj→Option R} {ins:o6} {r:R} (hn:∀ f args,ins≠.call f args) (h:K8 bq t A k ins=some r):∃ v A',aG (qC ins t A) (v,A')∧k v A' = some r:=by
  cases ins with
  | pure f xs=>obtain ⟨v,h1,h2⟩:=KR.uH h; exact ⟨v,A,h1.vw,h2⟩
  | read f xs=>obtain ⟨v,h1,h2⟩:=KR.uH h; exact ⟨v,A,h1.vw,h2⟩
  | act f xs=>obtain ⟨v,h1,h2⟩:=KR.uH h; exact ⟨v.1,v.2,h1,h2⟩
  | look f xs=>obtain ⟨v,h1,h2⟩:=KR.uH h; exact ⟨v,A,h1.vw,h2⟩
  | yk g f xs=>obtain ⟨v,h1,h2⟩:=KR.uH h; exact ⟨v,A,h1.vw,h2⟩
  | Bo g f xs=>obtain ⟨v,h1,h2⟩:=KR.uH h; exact ⟨v,(wh A (qW t xs)).2,h1.vw (f:=fun v=>(v,(wh A (qW t xs)).2)),h2⟩
  | call f args=>exact absurd rfl (hn f args)
  | bad=>exact absurd h (by simp [K8])
theorem N6 {cfg:dQ} (fT:o7 P cfg.pc) {o:Oper} {g:FuncId} {xs:List Operand} (aI:compile P o.op = .call (.func g) xs) {F0:List KV→KR KV} (hF0:cfg.pc g=some F0) {t:bp} {vs0:List KV} {v:KV}
    (hf:aG (F0 (normArgs P (bM P g) vs0)) v) (hlen:vs0.length=(bM P g).length) {E:Env} {ρ:ao} {a:Act} (hv:∀ x ∈ xs,VC P E ρ (kX t x) (a.eval x)) {A A1:aj} {B:St} {base:Nat} {w:World}
    (ahD:∀ us,aP P E (xs.map (kX t)) us→∃ E1,Ev P base E A B ρ w E1 A1 B ρ w∧aP P E1 vs0 us) {next:Act→World→Prop} {Q:Exit→Act→World→Prop}
    (hk:∀ E' B' ak v' w',VC P E' ak v v'→Ev P base E A B ρ w E' A1 B' ak w'→next (a.put o.dst v') w'):o.upon P a next Q ((execOp a.eval o).run P w):=by
  obtain ⟨hg,kH⟩:=fT g F0 hF0 _ _ hf hlen
  have Ij:=mf P o
  rw [aI] at Ij
  obtain ⟨em,h3,h4⟩:=bS (xs:=xs) hv
  let VJ:Operand→Value:=fun x=>match x with
    | .func f=>.func (.func f) #[] #[]
    | x=>em x
  have e3:∀ x ∈ xs,VK P E (kX t x) (VJ x)∧VR ρ (VJ x) (a.eval x):=by
    intro x hx
    have key:∀ (l:List Operand),aP P E (l.map (kX t)) (l.map em)→x ∈ l→VK P E (kX t x) (em x):=by
      intro l
      induction l with
      | nil=>intro _ h; simp at h
      | cons y l ih=>
        intro h hm
        obtain ⟨z,zs,e,q1,q2⟩:=h.cons_inv
        simp only [List.map_cons,List.cons.injEq] at e
        obtain ⟨rfl,rfl⟩:=e
        rcases List.mem_cons.1 hm with rfl | hm
        · exact q1
        · exact ih q2 hm
    cases x with
    | func f=>exact ⟨.Xy .nil .nil,VR.G9 (l:=[]) (m:=[]) (.func f) rfl .nil .nil⟩
    | tmp i=>exact ⟨key xs h3 hx,h4 _ hx⟩
    | const c=>exact ⟨key xs h3 hx,h4 _ hx⟩
    | global q=>exact ⟨key xs h3 hx,h4 _ hx⟩
  have e4:aP P E (xs.map (kX t)) (xs.map VJ):=by
    have:∀ (l:List Operand),(∀ x ∈ l,VK P E (kX t x) (VJ x))→aP P E (l.map (kX t)) (l.map VJ):=by
      intro l
      induction l with
      | nil=>intro _; exact .nil
      | cons y l ih=>intro h; exact .cons (h y (by simp)) (ih fun z hz=>h z (by simp [hz]))
    exact this xs fun x hx=>(e3 x hx).1
  obtain ⟨bP,h5,h6⟩:=Ij.2 ρ VJ a.eval g (xs.map VJ) (fun x hx=>by
      rcases List.mem_cons.1 hx with rfl | hx
      · exact VR.G9 (l:=[]) (m:=[]) (.func g) rfl .nil .nil
      · exact (e3 x hx).2) hg.1 (by simp only [VJ,iQ]; rw [hg.1]; simp) hg.2
  rw [h6 w]
  obtain ⟨E1,q1,q2⟩:=ahD _ e4
  refine (kH E1 A1 B ρ base w bP ⟨xs.map VJ,q2,h5⟩ q1.kj).mono ?_
  rintro e w' ⟨v',E',B',ak,rfl,h7,h8⟩
  exact hk E' B' ak v' w' h7 (q1.trans h8)
theorem DU {cfg:dQ} (fT:o7 P cfg.pc) {o:Oper} {t:bp} {A A' : aj} {v:KV} {base:Nat} {B:St} {ρ:ao} {a:Act} {w:World} {next:Act→World→Prop} {Q:Exit→Act→World→Prop}
    (h:aG (qC (ct P cfg o.op) t A) (v,A')) (hv:∀ x ∈ Pq (ct P cfg o.op),VC P E ρ (kX t x) (a.eval x)) (hj:KJ P E A B ρ base w)
    (hk:∀ E' B' ak v' w',VC P E' ak v v'→Ev P base E A B ρ w E' A' B' ak w'→next (a.put o.dst v') w'):o.wp P a w next Q:=by
  have bc:=ab6 P cfg o
  have aa6:=@VH P cfg o.op
  have aa7:=@VI P cfg o.op
  generalize ct P cfg o.op=ins at h bc hv aa6 aa7
  unfold Oper.wp
  cases ins with
  | pure f xs=>
    obtain ⟨u,h1,h2⟩:=aG.map h
    simp only [Prod.mk.injEq] at h2
    obtain ⟨rfl,rfl⟩:=h2
    rw [sg] at h1
    obtain ⟨v',h3,h4⟩:=bc E ρ (kX t) a.eval u hv h1
    rw [h4 w]
    exact hk E B ρ v' w h3 (.refl hj.k hj.s)
  | read f xs=>
    obtain ⟨u,h1,h2⟩:=aG.map h
    simp only [Prod.mk.injEq] at h2
    obtain ⟨rfl,rfl⟩:=h2
    rw [sg] at h1
    obtain ⟨v',h3,h4⟩:=bc E A B ρ base w (kX t) a.eval u hj hv h1
    rw [h4]
    exact hk E B ρ v' w h3 (.refl hj.k hj.s)
  | act f xs=>
    have h:aG (f A (qW t xs)) (v,A'):=h
    rw [sg] at h
    obtain ⟨E',B',ak,v',nx,w',h1,h2,h3,h4⟩:=bc E A A' B ρ base w (kX t) a.eval v hj hv h
    rw [h1]
    have hd:=hk E' B' ak v' w' h3 h4
    cases nx with
    | value u=>have:u=v':=h2; subst this; exact hd
    | skip=>have:v' = undef:=h2; subst this; exact hd
    | _=>exact h2.elim
  | look f xs=>
    obtain ⟨u,h1,h2⟩:=aG.map h
    simp only [Prod.mk.injEq] at h2
    obtain ⟨rfl,rfl⟩:=h2
    rw [sg] at h1
    obtain ⟨E',B',ak,v',nx,w',h3,h4,h5,h6⟩:=bc E A B ρ base w (kX t) a.eval u hj hv h1
    rw [h3]
    have hd:=hk E' B' ak v' w' h5 h6
    cases nx with
    | value u=>have:u=v':=h4; subst this; exact hd
    | skip=>have:v' = undef:=h4; subst this; exact hd
    | _=>exact h4.elim
  | yk g f xs=>
    obtain ⟨u,h1,h2⟩:=aG.map h
    simp only [Prod.mk.injEq] at h2
    obtain ⟨rfl,rfl⟩:=h2
    obtain ⟨aI,F0,hF0,rfl⟩:=aa6 rfl
    obtain ⟨hlen,hf⟩:=aG.cond h1
    exact N6 fT aI hF0 hf (Nat.eq_of_beq_eq_true hlen) hv (fun us q=>⟨E,.refl hj.k hj.s,by rw [sg]; exact q⟩) hk
  | Bo g f xs=>
    obtain ⟨u,h1,h2⟩:=aG.map h
    simp only [Prod.mk.injEq] at h2
    obtain ⟨rfl,rfl⟩:=h2
    obtain ⟨aI,F0,hF0,rfl⟩:=aa7 rfl
    obtain ⟨hlen,hf⟩:=aG.cond h1
    refine N6 fT aI hF0 hf (Nat.eq_of_beq_eq_true hlen) hv (fun us q=>?_) hk
    obtain ⟨E1,p1,p2⟩:=AL hj.k q
    rw [sg]
    exact ⟨E1,p1.ev (.refl hj.s),p2⟩
  | call f args=>exact h.elim
  | bad=>exact h.elim
end Go.K
end
section
namespace Go.K
open Go Go.av
variable {P:Program} {E:Env}
theorem N7 {R:Type} {cfg:dQ} {bq:mH R} (fT:o7 P cfg.pc) (vx:Cx P bq) {o:Oper} {t:bp} {A:aj} {k:KV→aj→Option R} {r:R} {N base:Nat} {B:St} {ρ:ao} {a:Act} {w:World} {next:Act→World→Prop} {Q:Exit→Act→World→Prop}
    (h:K8 bq t A k (ct P cfg o.op)=some r) (ht:jw P E ρ t N a) (hj:KJ P E A B ρ base w)
    (hk:∀ E' A' B' ak v v' w',k v A' = some r→VC P E' ak v v'→Ev P base E A B ρ w E' A' B' ak w'→next (a.put o.dst v') w'):o.wp P a w next Q:=by
  by_cases hc:∃ f args,ct P cfg o.op = .call f args
  · obtain ⟨f,args,hc⟩:=hc
    rw [hc] at h
    have h:Option.rec (motive:=fun _=>Option R) none (fun p=>bq p.1 p.2 A k) (FO (qW t args) (kX t f))=some r:=h
    cases Ep:FO (qW t args) (kX t f) with
    | none=>rw [Ep] at h; exact absurd h (by simp)
    | some p=>
      obtain ⟨g,vs⟩:=p
      rw [Ep] at h
      have h:bq g vs A k=some r:=h
      obtain ⟨hg,kH⟩:=vx g vs A k r h
      obtain ⟨bP,h1,h2⟩:=VG (N5 hc) ht Ep hg
      unfold Oper.wp
      rw [h2 w]
      refine (kH E B ρ base w bP h1 hj).mono ?_
      rintro e w' ⟨v,v',E',A',B',ak,rfl,h3,h4,h5⟩
      exact hk E' A' B' ak v v' w' h5 h3 h4
  · obtain ⟨v,A',h1,h2⟩:=AO (fun f args e=>hc ⟨f,args,e⟩) h
    exact DU fT h1 (fun x _=>ht.ev x) hj fun E' B' ak v' w' h3 h4=>hk E' A' B' ak v v' w' h2 h3 h4
theorem XV {R:Type} {cfg:dQ} {bq:mH R} {all:List Oper} {o:Oper} {k:bp→aj→Option R} {t:bp} {A:aj} {r:R} {N:Nat} {ρ:ao} {a:Act} (ht:jw P E ρ t N a) (h:ub P cfg bq all o k t A=some r) :
    ∃ t1,(∀ i,t1.get i=t.get i)∧((Region.wanted o (yielded ⟨all⟩ a.tmps)=true∧K8 bq t1 A (fun v A=>k (ow t1 o.dst v) A) (ct P cfg o.op)=some r)∨
      (Region.wanted o (yielded ⟨all⟩ a.tmps)=false∧k (ow t1 o.dst pg) A=some r)):=by
  unfold ub at h
  cases hg:o.guard with
  | none=>
    rw [hg] at h
    refine ⟨t,fun _=>rfl,.inl ⟨?_,h⟩⟩
    unfold Region.wanted
    rw [hg]
  | some p=>
    obtain ⟨j,want⟩:=p
    rw [hg] at h
    exact VF hg ht h
theorem F6 {R:Type} {cfg:dQ} {bq:mH R} (fT:o7 P cfg.pc) (vx:Cx P bq) {N base:Nat} {Q:Exit→Act→World→Prop} {all:List Oper} (hd:all.all (pk N)=true) {k:bp→aj→Option R} {r:R} :
    ∀ (os:List Oper) (j:Nat) (t:bp) (E:Env) (A:aj) (B:St) (ρ:ao) (a:Act) (w:World),all.drop j=os→qy P cfg bq all k os t A=some r→jw P E ρ t N a→KJ P E A B ρ base w→
      (∀ t' E' A' B' ak a' w',k t' A' = some r→jw P E' ak t' N a'→a'.defers=a.defers→Ev P base E A B ρ w E' A' B' ak w'→Q .normal a' w')→wpOps P ⟨all⟩ Q (List.range' j os.length) a w
  | [],j,t,E,A,B,ρ,a,w,_,h,ht,hj,hq=>hq t E A B ρ a w h ht rfl (.refl hj.k hj.s)
  | o :: os,j,t,E,A,B,ρ,a,w,hk,h,ht,hj,hq=>by
    have ho:(⟨all⟩:Array Oper)[j]? = some o:=by
      have:(all.drop j)[0]? = some o:=by rw [hk]; rfl
      rw [List.getElem?_drop] at this
      simpa using this
    have qO:all.drop (j+1)=os:=by rw [← List.drop_drop,hk]; rfl
    have lW:∀ d,o.dst=some d→d < N:=by
      intro d e
      have hm:o ∈ all:=List.mem_of_getElem? (by simpa using ho)
      have:=List.all_eq_true.1 hd o hm
      unfold pk at this
      rw [e] at this
      simp only at this
      rw [Nat.blt_eq] at this
      exact this
    rw [List.length_cons,List.range'_succ]
    simp only [wpOps,ho]
    have h:ub P cfg bq all o (qy P cfg bq all k os) t A=some r:=h
    obtain ⟨t1,yg,h⟩:=XV ht h
    have rG:=ht.same yg
    rcases h with ⟨hw,h⟩ | ⟨hw,h⟩
    · rw [hw]
      refine .inl (N7 fT vx h rG hj fun E' A' B' ak v v' w' h1 h2 h3=>?_)
      refine F6 fT vx hd os (j+1) _ E' A' B' ak _ w' qO h1 ((rG.mono h3.le (h3.ej.le hj.s)).put lW h2) h3.kj fun t' zM ZV Bv kP Dv tT h4 h5 h6 h7=>?_
      exact hq t' zM ZV Bv kP Dv tT h4 h5 (by rw [h6,put_defers]) (h3.trans h7)
    · rw [hw]
      refine F6 fT vx hd os (j+1) _ E A B ρ _ w qO h (rG.put lW .undef) hj fun t' zM ZV Bv kP Dv tT h4 h5 h6 h7=>?_
      exact hq t' zM ZV Bv kP Dv tT h4 h5 (by rw [h6,put_defers]) h7
abbrev Out:=Bool×KV×aj
inductive Run (P:Program) (cfg:dQ) (all:List Oper):List Oper→bp→aj→List Out→bp→aj→Prop where
  | nil {t:bp} {A:aj} : Run P cfg all [] t A [] t A
  | cons {o:Oper} {os:List Oper} {t t1 t' : bp} {A A1 A' : aj} {wd:Bool} {v:KV} {L:List Out}
      (same:∀ i,t1.get i=t.get i)
      (want:(o.guard=none∧wd=true)∨∃ j want d,o.guard=some (j,want)∧(all[j]?).bind (·.dst)=some d∧((∃ b,t.get d=some (.bool b)∧wd=(b == want))∨(∃ l,t.get d=some (.pQ l)∧wd=false)))
      (yes:wd=true→aG (qC (ct P cfg o.op) t1 A) (v,A1)) (no:wd=false→v=pg∧A1=A)
      (rest:Run P cfg all os (ow t1 o.dst v) A1 L t' A'):Run P cfg all (o :: os) t A ((wd,v,A1) :: L) t' A'
theorem DV {R:Type} {t:bp} {d:Option Tmp} {want:Bool} {yes no:bp→Option R} {r:R} (h:Xr t d want yes no=some r) :
    ∃ d',d=some d'∧((∃ b t',t.get d' = some (.bool b)∧(∀ i,t'.get i=t.get i)∧((b == want)=true∧yes t' = some r∨(b == want)=false∧no t' = some r))∨∃ l,t.get d' = some (.pQ l)∧no t=some r):=by
  unfold Xr at h
  cases d with
  | none=>exact absurd h (by simp)
  | some d=>
    refine ⟨d,rfl,?_⟩
    have h:BK.rec (motive:=fun _=>Option R)
      (fun b=>Bool.rec (motive:=fun _=>Option R)
        (Bool.rec (motive:=fun _=>Option R) (yes (t.set (.bool false) d)) (no (t.set (.bool false) d)) want)
        (Bool.rec (motive:=fun _=>Option R) (no (t.set (.bool true) d)) (yes (t.set (.bool true) d)) want) b)
      (no t) none (qQ ((t.get d).getD .aq))=some r:=h
    have gp:∀ v,(t.get d).getD .aq=v→v≠.aq→t.get d=some v:=by
      intro v e bR
      cases hg:t.get d with
      | none=>rw [hg] at e; exact absurd e.symm bR
      | some u=>rw [hg] at e; simp at e; rw [e]
    cases hb:qQ ((t.get d).getD .aq) with
    | no=>rw [hb] at h; exact absurd h (by simp)
    | pQ=>
      rw [hb] at h
      obtain ⟨l,hl⟩:=Rv hb
      exact .inr ⟨l,gp _ hl (by simp),h⟩
    | bool b=>
      rw [hb] at h
      refine .inl ⟨b,t.set (.bool b) d,gp _ (xR hb) (by simp),DT hb,?_⟩
      cases b <;> cases want
      · exact .inl ⟨rfl,h⟩
      · exact .inr ⟨rfl,h⟩
      · exact .inr ⟨rfl,h⟩
      · exact .inl ⟨rfl,h⟩
theorem Ln {R:Type} {cfg:dQ} {bq:mH R} {all:List Oper} {k:bp→aj→Option R} {r:R} : ∀ {os:List Oper} {t:bp} {A:aj},(∀ o ∈ os,∀ f args,ct P cfg o.op≠.call f args)→qy P cfg bq all k os t A=some r→
    ∃ L t' A',Run P cfg all os t A L t' A'∧k t' A' = some r
  | [],t,A,_,h=>⟨[],t,A,.nil,h⟩
  | o :: os,t,A,hn,h=>by
    have h:ub P cfg bq all o (qy P cfg bq all k os) t A=some r:=h
    have Dq:=fun q hq=>hn q (List.mem_cons_of_mem o hq)
    unfold ub at h
    cases hg:o.guard with
    | none=>
      rw [hg] at h
      obtain ⟨v,A1,h1,h2⟩:=AO (hn o (by simp)) h
      obtain ⟨L,t',A',h3,h4⟩:=Ln Dq h2
      exact ⟨_,t',A',.cons (fun _=>rfl) (.inl ⟨hg,rfl⟩) (fun _=>h1) (fun e=>by simp at e) h3,h4⟩
    | some p=>
      obtain ⟨j,want⟩:=p
      rw [hg] at h
      obtain ⟨d,hd,h⟩:=DV h
      rcases h with ⟨b,t1,h1,h2,h3⟩ | ⟨l,h1,h2⟩
      · rcases h3 with ⟨h3,h4⟩ | ⟨h3,h4⟩
        · obtain ⟨v,A1,h5,h6⟩:=AO (hn o (by simp)) h4
          obtain ⟨L,t',A',h7,h8⟩:=Ln Dq h6
          exact ⟨_,t',A',.cons h2 (.inr ⟨j,want,d,hg,hd,.inl ⟨b,h1,h3.symm⟩⟩) (fun _=>h5) (fun e=>by simp at e) h7,h8⟩
        · obtain ⟨L,t',A',h7,h8⟩:=Ln Dq h4
          exact ⟨_,t',A',.cons h2 (.inr ⟨j,want,d,hg,hd,.inl ⟨b,h1,h3.symm⟩⟩) (fun e=>by simp at e) (fun _=>⟨rfl,rfl⟩) h7,h8⟩
      · obtain ⟨L,t',A',h7,h8⟩:=Ln Dq h2
        exact ⟨_,t',A',.cons (fun _=>rfl) (.inr ⟨j,want,d,hg,hd,.inr ⟨l,h1,rfl⟩⟩) (fun e=>by simp at e) (fun _=>⟨rfl,rfl⟩) h7,h8⟩
noncomputable def turns (P:Program) (cfg:dQ) (o:Oper) (x:Out):Bool:=x.1 && Nat.ble 3 (ep (ct P cfg o.op))
noncomputable def l8 (S:Nat→Bool):List Oper→List Out→Nat→bp→bp
  | o :: os,x :: L,i,t=>l8 S os L (i+1) (cond (S i) (ow t o.dst x.2.1) t)
  | _,_,_,t=>t
noncomputable def lH (P:Program) (cfg:dQ) (S:Nat→Bool):List Oper→List Out→Nat→aj→aj
  | o :: os,x :: L,i,A=>lH P cfg S os L (i+1) (cond (S i && turns P cfg o x) x.2.2 A)
  | _,_,_,A=>A
theorem sh (t:bp) (dst:Option Tmp) (v:KV) (x:Tmp):(ow t dst v).get x=if dst=some x then some v else t.get x:=by
  cases dst with
  | none=>rfl
  | some d=>
    simp only [ow,Trie.iP,Option.some.injEq]
    by_cases h:x=d
    · rw [if_pos h,if_pos h.symm]
    · rw [if_neg h,if_neg (Ne.symm h)]
theorem zN (S:Nat→Bool):∀ (os:List Oper) (L:List Out) (k:Nat) (t:bp),l8 S os L (k+1) t=l8 (fun i=>S (i+1)) os L k t
  | [],L,k,t=>by cases L <;> rfl
  | o :: os,[],k,t=>rfl
  | o :: os,x :: L,k,t=>by simp only [l8]; exact zN S os L (k+1) _
theorem JI {cfg:dQ} (S:Nat→Bool):∀ (os:List Oper) (L:List Out) (k:Nat) (A:aj),lH P cfg S os L (k+1) A=lH P cfg (fun i=>S (i+1)) os L k A
  | [],L,k,t=>by cases L <;> rfl
  | o :: os,[],k,t=>rfl
  | o :: os,x :: L,k,t=>by simp only [lH]; exact JI S os L (k+1) _
theorem kr {S S' : Nat→Bool} {y:Tmp} : ∀ {os:List Oper} {L:List Out} {k:Nat} {t t' : bp},t.get y=t'.get y→(∀ i o,os[i]? = some o→o.dst=some y→S (k+i)=S' (k+i))→(l8 S os L k t).get y=(l8 S' os L k t').get y
  | [],L,k,t,t',h,_=>by cases L <;> exact h
  | o :: os,[],k,t,t',h,_=>h
  | o :: os,x :: L,k,t,t',h,hs=>by
    simp only [l8]
    refine kr ?_ fun i o' ho hd=>by have:=hs (i+1) o' (by simpa using ho) hd; rwa [show k+(i+1)=k+1+i by omega] at this
    by_cases hd:o.dst=some y
    · have:=hs 0 o rfl hd
      rw [Nat.add_zero] at this
      rw [this]
      cases S' k with
      | true=>simp only [cond_true,sh,if_pos hd]
      | false=>exact h
    · have e:∀ (b:Bool) (u:bp),(cond b (ow u o.dst x.2.1) u).get y=u.get y:=by
        intro b u
        cases b with
        | true=>rw [cond_true,sh,if_neg hd]
        | false=>rfl
      rw [e,e]; exact h
theorem Rw {S:Nat→Bool} {y:Tmp} : ∀ {os:List Oper} {L:List Out} {k i:Nat} {t:bp} {o:Oper} {x:Out},os[i]? = some o→L[i]? = some x→o.dst=some y→(∀ j q,os[j]? = some q→q.dst=some y→i < j→S (k+j)=false)→
    (l8 (a9 S (k+i)) os L k t).get y=some x.2.1
  | [],L,k,i,t,o,x,ho,_,_,_=>by simp at ho
  | q :: os,[],k,i,t,o,x,_,hx,_,_=>by simp at hx
  | q :: os,u :: L,k,0,t,o,x,ho,hx,hd,hs=>by
    simp at ho hx
    subst ho hx
    simp only [l8,Nat.add_zero]
    have hk:a9 S k k=true:=by simp [a9]
    rw [hk,cond_true]
    have:=kr (S:=a9 S k) (S':=fun _=>false) (y:=y) (os:=os) (L:=L) (k:=k+1) (t:=ow t q.dst u.2.1) (t':=ow t q.dst u.2.1) rfl (fun j q' hq Rx=>by
      have h1:=hs (j+1) q' (by simpa using hq) Rx (by omega)
      rw [show k+(j+1)=k+1+j by omega] at h1
      simp only [a9,h1,Bool.false_or]
      cases hb:Nat.beq (k+1+j) k with
      | false=>rfl
      | true=>have:=Nat.eq_of_beq_eq_true hb; omega)
    rw [this]
    have sS:∀ (os:List Oper) (L:List Out) (k:Nat) (t:bp),l8 (fun _=>false) os L k t=t:=by
      intro os
      induction os with
      | nil=>intro L k t; cases L <;> rfl
      | cons o os ih=>intro L k t; cases L with
        | nil=>rfl
        | cons x L=>simp only [l8,cond_false]; exact ih L _ t
    rw [sS,sh,if_pos hd]
  | q :: os,u :: L,k,i+1,t,o,x,ho,hx,hd,hs=>by
    simp only [l8]
    rw [show k+(i+1)=k+1+i by omega]
    exact Rw (by simpa using ho) (by simpa using hx) hd fun j q' hq Rx aL=>by
      have:=hs (j+1) q' (by simpa using hq) Rx (by omega)
      rwa [show k+(j+1)=k+1+j by omega] at this
theorem AP {cfg:dQ} {S S' : Nat→Bool} : ∀ {os:List Oper} {L:List Out} {k:Nat} {A:aj},(∀ i o x,os[i]? = some o→L[i]? = some x→turns P cfg o x=true→S (k+i)=S' (k+i))→lH P cfg S os L k A=lH P cfg S' os L k A
  | [],L,k,A,_=>by cases L <;> rfl
  | o :: os,[],k,A,_=>rfl
  | o :: os,x :: L,k,A,h=>by
    simp only [lH]
    have h0:(S k && turns P cfg o x)=(S' k && turns P cfg o x):=by
      cases ht:turns P cfg o x with
      | false=>simp
      | true=>have:=h 0 o x rfl rfl ht; rw [Nat.add_zero] at this; rw [this]
    rw [h0]
    exact AP fun i o' x' ho hx ht=>by have:=h (i+1) o' x' (by simpa using ho) (by simpa using hx) ht; rwa [show k+(i+1)=k+1+i by omega] at this
def DW (all:List Oper) (o:Oper) (t:bp) (wd:Bool):Prop:=(o.guard=none∧wd=true)∨∃ j want d,o.guard=some (j,want)∧(all[j]?).bind (·.dst)=some d∧((∃ b,t.get d=some (.bool b)∧wd=(b == want))∨(∃ l,t.get d=some (.pQ l)∧wd=false))
theorem wS {cfg:dQ} {o:Oper} {t:bp} {A A1:aj} {v:KV} (h:aG (qC (ct P cfg o.op) t A) (v,A1)) (hk:Nat.ble 3 (ep (ct P cfg o.op))=false):A1=A:=by
  generalize ct P cfg o.op=ins at h hk
  cases ins with
  | pure f xs=>obtain ⟨u,_,h2⟩:=aG.map h; simp at h2; exact h2.2.symm
  | read f xs=>obtain ⟨u,_,h2⟩:=aG.map h; simp at h2; exact h2.2.symm
  | act f xs=>exact absurd hk (by simp [ep])
  | look f xs=>obtain ⟨u,_,h2⟩:=aG.map h; simp at h2; exact h2.2.symm
  | yk g f xs=>obtain ⟨u,_,h2⟩:=aG.map h; simp at h2; exact h2.2.symm
  | Bo g f xs=>exact absurd hk (by simp [ep])
  | call f xs=>exact h.elim
  | bad=>exact h.elim
theorem Run.at {cfg:dQ} {all:List Oper} : ∀ {os:List Oper} {t t' : bp} {A A' : aj} {L:List Out},Run P cfg all os t A L t' A'→
    L.length=os.length∧(∀ y,t'.get y=(l8 (fun _=>true) os L 0 t).get y)∧A' = lH P cfg (fun _=>true) os L 0 A∧
    ∀ i o x,os[i]? = some o→L[i]? = some x→∃ t1,(∀ y,t1.get y=(l8 (fun j=>Nat.blt j i) os L 0 t).get y)∧DW all o t1 x.1∧(x.1=true→aG (qC (ct P cfg o.op) t1 (lH P cfg (fun j=>Nat.blt j i) os L 0 A)) (x.2.1,x.2.2))∧(x.1=false→x.2.1=pg)
  | _,_,_,_,_,_,.nil=>⟨rfl,fun _=>rfl,rfl,fun i o x ho=>by simp at ho⟩
  | o :: os,t,t',A,A',(wd,v,A1) :: L,.cons (t1:=t1) same want yes no rest=>by
    obtain ⟨h1,h2,h3,h4⟩:=rest.at
    have Zk:cond (turns P cfg o (wd,v,A1)) A1 A=A1:=by
      cases ht:turns P cfg o (wd,v,A1) with
      | true=>rfl
      | false=>
        rw [cond_false]
        cases wd with
        | false=>exact (no rfl).2.symm
        | true=>exact (wS (yes rfl) (by simpa [turns] using ht)).symm
    have En:∀ y,(ow t1 o.dst v).get y=(ow t o.dst v).get y:=fun y=>by rw [sh,sh,same]
    refine ⟨by simp [h1],fun y=>?_,?_,fun i q x hq hx=>?_⟩
    · rw [h2 y]
      simp only [l8,cond_true]
      rw [zN]
      exact kr (En y) fun _ _ _ _=>rfl
    · rw [h3]
      simp only [lH,Bool.true_and]
      rw [JI,Zk]
    · cases i with
      | zero=>
        simp at hq hx
        subst hq hx
        have e0:∀ (os:List Oper) (L:List Out) (k:Nat) (t:bp),l8 (fun j=>Nat.blt j 0) os L k t=t:=by
          intro os
          induction os with
          | nil=>intro L k t; cases L <;> rfl
          | cons o os ih=>intro L k t; cases L with
            | nil=>rfl
            | cons x L=>simp only [l8]; exact ih L _ t
        have e1:∀ (os:List Oper) (L:List Out) (k:Nat) (A:aj),lH P cfg (fun j=>Nat.blt j 0) os L k A=A:=by
          intro os
          induction os with
          | nil=>intro L k t; cases L <;> rfl
          | cons o os ih=>intro L k t; cases L with
            | nil=>rfl
            | cons x L=>simp only [lH]; exact ih L _ t
        refine ⟨t1,fun y=>by rw [e0]; exact same y,?_,fun e=>by rw [e1]; exact yes e,fun e=>(no e).1⟩
        rcases want with h | ⟨j,wt,d,e2,e3,e4⟩
        · exact .inl h
        · exact .inr ⟨j,wt,d,e2,e3,by rw [same]; exact e4⟩
      | succ i=>
        obtain ⟨t2,h5,h6,h7,h8⟩:=h4 i q x (by simpa using hq) (by simpa using hx)
        have hsh:(fun j=>Nat.blt (j+1) (i+1))=fun j=>Nat.blt j i:=by
          funext j
          cases hb:Nat.blt j i with
          | true=>rw [Nat.blt_eq] at hb ⊢; omega
          | false=>
            cases hc:Nat.blt (j+1) (i+1) with
            | false=>rfl
            | true=>rw [Nat.blt_eq] at hc; rw [show Nat.blt j i=true from by rw [Nat.blt_eq]; omega] at hb; simp at hb
        have h01:Nat.blt 0 (i+1)=true:=by rw [Nat.blt_eq]; omega
        have gm:lH P cfg (fun j=>Nat.blt j (i+1)) (o :: os) ((wd,v,A1) :: L) 0 A=lH P cfg (fun j=>Nat.blt j i) os L 0 A1:=by
          simp only [lH,h01,Bool.true_and]
          rw [JI,Zk,hsh]
        refine ⟨t2,fun y=>?_,h6,fun e=>by rw [gm]; exact h7 e,h8⟩
        rw [h5 y]
        simp only [l8,h01,cond_true]
        rw [zN,hsh]
        exact kr (En y) fun _ _ _ _=>rfl
end Go.K
end
