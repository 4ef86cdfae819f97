/- Part of the proof of BinsMeet: a machine that runs the program's code over open terms, shown to be the model's, and the plain models of its functions. No conditions. -/
import Derived.Test.YtahhdndhkgbcjaaEp
section
namespace Go.K
open Go Go.aV
variable {P:Program} {E:Env}
def Env.w9 (E:Env) (b:Nat) (p:Nat×Nat×Nat):Env:={ E with α:=fun c=>if c=b then some p else E.α c }
theorem Env.afY {A:ak} {B:St} {p:Nat×Nat×Nat} (h:eh P E A B):E.le (E.w9 A.next p):=⟨fun b q e=>by
  have:=h.ar.eS b q e
  simp only [Env.w9]; rw [if_neg (by omega)]; exact e,fun _ _ e=>e,fun _ _ e=>e,fun _ _ e=>e⟩
theorem Env.uX {b:Nat} {p:Nat×Nat×Nat} : (E.w9 b p).α b=some p:=by simp [Env.w9]
theorem Env.Bq {b c:Nat} {p:Nat×Nat×Nat} (h:c≠b):(E.w9 b p).α c=E.α c:=by simp [Env.w9,h]
theorem ck.LQ {A A1:ak} {B B' : St} {X G:Nat→Prop} {y2 N2:Nat} {T:TypeId} {kx:List KV} {db:Nat→KV} {w6 gP:List Value} {mg:Option (Nat×Nat)} (h:eh P E A B)
    (pA:A1.next=A.next) (CU:∀ c o,A1.get c=some o→A.get c=some o∨(o = .dead∧c < A.next))
    (f1:∀ c v,A1.get c=some (.arr v)→∀ y L N,E.α c=some (y,L,N)→¬ X y∧∀ cs e own g k,B.get y=some (.row cs e own (some (g,k)))→¬ G g)
    (f2:∀ y,X y→AR A E y) (f3:∀ g,G g→AF A E B g∧g < B.next∧(∀ f,E.φ f≠some g)∧∀ y ∈ B.members g,¬ X y→E.z y=none∧¬ AR A E y∧∀ c,E.κ c≠some y)
    (n1:X y2∨B.next≤y2) (n1' : y2 < B'.next) (aaB:B'.get y2=some (.row gP (aL P T) true mg)) (n2:∀ g k,mg=some (g,k)→G g∨(B.next≤g∧g < B'.next))
    (b1:∀ y,y < B.next→¬ X y→B'.get y=B.get y∨(B'.get y=some .dead∧∃ g,G g∧y ∈ B.members g))
    (b2:∀ y,X y→∀ cs e own a9,B'.get y=some (.row cs e own a9)→∃ c,B.get y=some (.row c e own a9)∧c.length=cs.length)
    (b3:∀ q y,y ∈ B'.members q→y ∈ B.members q∨(y=y2∧B.next≤y2∧∃ k,mg=some (q,k))) (b3' : ∀ q,(∀ k,mg≠some (q,k))→B'.members q=B.members q)
    (b4:B.next≤B'.next) (b4' : ∀ g,B'.next≤g→B'.members g = []) (aj9:∀ g y,y ∈ B'.members g→y < B'.next)
    (cA:1≤aL P T) (ht:eL P T N2 kx db) (OJ:aO P E kx w6) (hl:jQ (aL P T) 0 gP w6) :
    ck P E A B (E.w9 A.next (y2,gP.length,N2)) (A1.new (.arr (.ts T .any N2 kx db))) B':=by
  have hle:=Env.afY (p:=(y2,gP.length,N2)) h
  have afZ:E.α A.next=none:=by
    cases hq:E.α A.next with
    | none=>rfl
    | some p=>have:=h.ar.eS _ p hq; omega
  have hXlt:∀ y,X y→y < B.next:=fun y hy=>h.yY (f2 y hy)
  have FE:∀ y,y < B.next→¬ X y→(E.z y≠none∨AR A E y∨∃ c,E.κ c=some y)→B'.get y=B.get y:=by
    intro y aY hy hs
    rcases b1 y aY hy with e | ⟨_,g,hg,h2⟩
    · exact e
    · obtain ⟨_,_,_,h3⟩:=f3 g hg
      obtain ⟨h4,h5,h6⟩:=h3 y h2 hy
      rcases hs with hs | hs | ⟨c,hs⟩
      · exact absurd h4 hs
      · exact absurd hs h5
      · exact absurd hs (h6 c)
  have hXz:∀ y,X y→E.z y=none∧∀ c,E.κ c≠some y:=fun y hy=>h.ar.z y (f2 y hy)
  have iR:∀ c o,(A1.new (.arr (.ts T .any N2 kx db))).get c=some o→(c=A.next∧o = .arr (.ts T .any N2 kx db))∨(c≠A.next∧A1.get c=some o):=fun c o hc=>by
    rw [ak.bR,pA] at hc
    split at hc
    · rename_i e; simp at hc; exact .inl ⟨e,hc.symm⟩
    · rename_i e; exact .inr ⟨e,hc⟩
  have hold:∀ c o,A1.get c=some o→o≠.dead→A.get c=some o:=fun c o hc hd=>by
    rcases CU c o hc with e | ⟨e,_⟩
    · exact e
    · exact absurd e hd
  have hM:∀ c v,(A1.new (.arr (.ts T .any N2 kx db))).get c=some (.arr v)→(c=A.next∧v = .ts T .any N2 kx db∧(E.w9 A.next (y2,gP.length,N2)).α c=some (y2,gP.length,N2))∨(c≠A.next∧A1.get c=some (.arr v)∧A.get c=some (.arr v)∧(E.w9 A.next (y2,gP.length,N2)).α c=E.α c):=fun c v hc=>by
    rcases iR c _ hc with ⟨e,e2⟩ | ⟨e,e2⟩
    · simp at e2
      exact .inl ⟨e,e2,by rw [e]; exact Env.uX⟩
    · exact .inr ⟨e,e2,hold c _ e2 (by simp),Env.Bq e⟩
  have xp:∀ c v y L N,A1.get c=some (.arr v)→E.α c=some (y,L,N)→AR A E y∧¬ X y∧y < B.next∧B'.get y=B.get y:=fun c v y L N h1 h2=>by
    have h3:AR A E y:=⟨c,v,L,N,hold c _ h1 (by simp),h2⟩
    obtain ⟨h4,_⟩:=f1 c v h1 y L N h2
    have h5:=h.yY h3
    exact ⟨h3,h4,h5,FE y h5 h4 (.inr (.inl h3))⟩
  have FF:∀ y,AR (A1.new (.arr (.ts T .any N2 kx db))) (E.w9 A.next (y2,gP.length,N2)) y→y=y2∨(AR A E y∧¬ X y):=fun y q=>by
    obtain ⟨c,v,L,M,h1,h2⟩:=q
    rcases hM c v h1 with ⟨_,_,e⟩ | ⟨_,e1,e2,e⟩
    · rw [e] at h2; simp at h2; exact .inl h2.1.symm
    · rw [e] at h2
      obtain ⟨h3,h4,_⟩:=xp c v y L M e1 h2
      exact .inr ⟨h3,h4⟩
  have af0:∀ y,y=y2→AR A E y∨B.next≤y:=fun y e=>by
    subst e
    exact n1.imp (f2 y) id
  have aaA:∀ g,AF (A1.new (.arr (.ts T .any N2 kx db))) (E.w9 A.next (y2,gP.length,N2)) B' g→(∃ k,mg=some (g,k))∨(AF A E B g∧¬ G g∧g < B.next):=fun g q=>by
    obtain ⟨c,v,y,L,M,jY,e,own,k,h1,h2,h3⟩:=q
    rcases hM c v h1 with ⟨_,_,e⟩ | ⟨_,e1,e2,e⟩
    · rw [e] at h2
      simp at h2
      rw [← h2.1,aaB] at h3
      simp at h3
      exact .inl ⟨k,h3.2.2.2⟩
    · rw [e] at h2
      obtain ⟨_,_,_,h4⟩:=xp c v y L M e1 h2
      rw [h4] at h3
      refine .inr ⟨⟨c,v,y,L,M,jY,_,own,k,e2,h2,h3⟩,(f1 c v e1 y L M h2).2 _ _ _ _ _ h3,(h.ar.nC c v y L M _ _ _ g k e2 h2 h3).1⟩
  have aiy:∀ g,(∃ k,mg=some (g,k))→AF A E B g∨B.next≤g:=fun g ⟨k,e⟩=>by
    rcases n2 g k e with hg | ⟨hg,_⟩
    · exact .inl (f3 g hg).1
    · exact .inr hg
  refine ⟨⟨?_,?_,?_,h.apart,h.inj,?_,fun b x e=>by rw [ak.bz,pA]; have:=h.eS b x e; omega,fun b g e=>by rw [ak.bz,pA]; have:=h.jq b g e; omega,?_,fun b x e=>by have:=h.dT b x e; omega,fun b r e=>by have:=h.jr b r e; omega,fun b g e=>by have:=h.fV b g e; omega,b4',aj9,?_⟩,hle,by rw [ak.bz,pA]; omega,?_,fun _ _ e=>.inl e,fun _ _ e=>.inl e,fun _ _ e=>.inl e,?_,fun y q=>?_,fun g q=>?_,fun g y q=>?_,fun y q=>?_,?_⟩
  · intro c jY a8 hc
    rcases iR c _ hc with ⟨_,e⟩ | ⟨_,e⟩
    · simp at e
    · obtain ⟨y,c1,h1,h2,h3⟩:=h.row c jY a8 (hold c _ e (by simp))
      have hy : ¬ X y:=fun e=>(hXz y e).2 c h1
      exact ⟨y,c1,h1,by rw [FE y (h.dT c y h1) hy (.inr (.inr ⟨c,h1⟩))]; exact h2,h3.mono hle⟩
  · intro c top x3 hc
    rcases iR c _ hc with ⟨_,e⟩ | ⟨_,e⟩
    · simp at e
    · rcases h.aJ c top x3 (hold c _ e (by simp)) with h1 | ⟨g,h1,h2,h3⟩
      · exact .inl h1
      · refine .inr ⟨g,h1,h2,fun y hy jY e own f k hr=>?_⟩
        have hgG:∀ k,mg≠some (g,k):=fun k e=>by
          rcases n2 g k e with hg | ⟨hg,_⟩
          · exact (f3 g hg).2.2.1 c h1
          · have:=h.fV c g h1; omega
        rw [b3' g hgG] at hy
        have aY:=h.mem g y hy
        by_cases wc:X y
        · obtain ⟨c0,h4,h5⟩:=b2 y wc _ _ _ _ hr
          obtain ⟨h6,h7⟩:=h3 y hy c0 _ _ f k h4
          exact ⟨h6,by rw [← h5]; exact h7⟩
        · rcases b1 y aY wc with e1 | ⟨e1,_⟩
          · rw [e1] at hr; exact h3 y hy jY _ own f k hr
          · rw [e1] at hr; simp at hr
  · intro y r hy
    have hy:E.z y=some r:=hy
    have wc : ¬ X y:=fun e=>by have:=(hXz y e).1; rw [hy] at this; simp at this
    rw [FE y (h.jr y r hy) wc (.inl (by rw [hy]; simp))]
    exact h.z y r hy
  · intro b c g tb sb tc sc hb hc e1 e2
    rcases iR b _ hb with ⟨_,e⟩ | ⟨_,hb⟩
    · simp at e
    rcases iR c _ hc with ⟨_,e⟩ | ⟨_,hc⟩
    · simp at e
    exact h.fO b c g _ _ _ _ (hold b _ hb (by simp)) (hold c _ hc (by simp)) e1 e2
  · intro c o hc
    rw [ak.bz,pA]
    rcases iR c _ hc with ⟨e,_⟩ | ⟨_,e⟩
    · omega
    · rcases CU c o e with e | ⟨_,e⟩
      · have:=h.live c o e; omega
      · omega
  · refine ⟨?_,?_,?_,?_,?_,?_,?_,?_,?_⟩
    · intro c v hc
      rcases hM c v hc with ⟨_,rfl,e⟩ | ⟨_,e1,e2,e⟩
      · exact ⟨T,N2,kx,db,rfl,ht,cA,.inr ⟨y2,gP,mg,w6,e,aaB,OJ.mono hle,hl⟩⟩
      · exact (h.ar.arr c v e2).mono hle e fun y L M hy=>(xp c v y L M e1 hy).2.2.2
    · intro c v hc
      rcases iR c _ hc with ⟨_,e⟩ | ⟨bo,e⟩
      · simp at e
      · exact (h.ar.fB c v (hold c _ e (by simp))).mono hle (Env.Bq bo)
    · intro y q
      rcases FF y q with e | ⟨e,_⟩
      · subst e
        rcases n1 with hx | hx
        · exact hXz y hx
        · refine ⟨?_,fun c e=>by have:=h.dT c y e; omega⟩
          cases hz:E.z y with
          | none=>exact hz
          | some r=>have:=h.jr y r hz; omega
      · exact h.ar.z y e
    · intro c d v u y L M L' M' h1 h2 h3 h4
      rcases hM c v h1 with ⟨e1,_,e⟩ | ⟨_,p1,p2,e⟩ <;> rcases hM d u h2 with ⟨e2,_,e'⟩ | ⟨_,q1,q2,e'⟩
      · omega
      · rw [e] at h3; rw [e'] at h4
        simp at h3
        obtain ⟨_,h5,h6,_⟩:=xp d u y L' M' q1 h4
        rw [← h3.1] at h5 h6
        rcases n1 with hx | hx
        · exact absurd hx h5
        · omega
      · rw [e] at h3; rw [e'] at h4
        simp at h4
        obtain ⟨_,h5,h6,_⟩:=xp c v y L M p1 h3
        rw [← h4.1] at h5 h6
        rcases n1 with hx | hx
        · exact absurd hx h5
        · omega
      · rw [e] at h3; rw [e'] at h4
        exact h.ar.inj c d v u y L M L' M' p2 q2 h3 h4
    · intro c d v u y w L M L' M' jY e own g k cs3 e' k8 k' h1 h2 h3 h4 h5 h6
      have x5:∀ {c v y L M jY e own k k2},A1.get c=some (.arr v)→E.α c=some (y,L,M)→B'.get y=some (.row jY e own (some (g,k)))→mg=some (g,k2)→False:=by
        intro c v y L M jY e own k k2 q1 q2 q3 q4
        obtain ⟨r1,r2,r3,r4⟩:=xp c v y L M q1 q2
        rw [r4] at q3
        rcases n2 g k2 q4 with hg | ⟨hg,_⟩
        · exact (f1 c v q1 y L M q2).2 _ _ _ _ _ q3 hg
        · have:=(h.ar.nC c v y L M _ _ _ g k (hold c _ q1 (by simp)) q2 q3).1; omega
      rcases hM c v h1 with ⟨e1,_,ea⟩ | ⟨_,p1,p2,ea⟩ <;> rcases hM d u h2 with ⟨e2,_,eb⟩ | ⟨_,q1,q2,eb⟩
      · omega
      · rw [ea] at h3; rw [eb] at h4
        simp at h3
        rw [← h3.1,aaB] at h5
        simp at h5
        exact (x5 q1 h4 h6 h5.2.2.2).elim
      · rw [ea] at h3; rw [eb] at h4
        simp at h4
        rw [← h4.1,aaB] at h6
        simp at h6
        exact (x5 p1 h3 h5 h6.2.2.2).elim
      · rw [ea] at h3; rw [eb] at h4
        rw [(xp c v y L M p1 h3).2.2.2] at h5
        rw [(xp d u w L' M' q1 h4).2.2.2] at h6
        exact h.ar.oH c d v u y w L M L' M' _ _ _ g k _ _ _ k' p2 q2 h3 h4 h5 h6
    · intro b x e
      have hb:=h.eS b x e
      rw [Env.Bq (by omega)]
      exact h.ar.V2 b x e
    · intro b p e
      rw [ak.bz,pA]
      by_cases hb:b=A.next
      · omega
      · rw [Env.Bq hb] at e; have:=h.ar.eS b p e; omega
    · intro b x L N e
      by_cases hb:b=A.next
      · subst hb; rw [Env.uX] at e; simp at e; omega
      · rw [Env.Bq hb] at e; have:=h.ar.dT b x L N e; omega
    · intro c v y L M jY e own g k h1 h2 h3
      rcases hM c v h1 with ⟨_,_,ea⟩ | ⟨_,p1,p2,ea⟩
      · rw [ea] at h2
        simp at h2
        obtain ⟨rfl,_⟩:=h2
        rw [aaB] at h3
        simp at h3
        have hk:=h3.2.2.2
        refine ⟨?_,fun f e=>?_,fun z hz bo=>?_⟩
        · rcases n2 g k hk with hg | ⟨_,hg⟩
          · have:=(f3 g hg).2.1; omega
          · exact hg
        · rcases n2 g k hk with hg | ⟨hg,_⟩
          · exact (f3 g hg).2.2.1 f e
          · have:=h.fV f g e; omega
        · rcases b3 g z hz with hz | ⟨e,_⟩
          · rcases n2 g k hk with hg | ⟨hg,_⟩
            · by_cases adB:X z
              · exact ⟨(hXz z adB).1,fun q=>by
                  rcases FF z q with e | ⟨_,e⟩
                  · exact bo e
                  · exact e adB,(hXz z adB).2⟩
              · obtain ⟨h7,h8,h9⟩:=(f3 g hg).2.2.2 z hz adB
                refine ⟨h7,fun q=>?_,h9⟩
                rcases FF z q with e | ⟨e,_⟩
                · exact bo e
                · exact h8 e
            · rw [h.fresh g hg] at hz; simp at hz
          · exact absurd e bo
      · rw [ea] at h2
        obtain ⟨r1,r2,r3,r4⟩:=xp c v y L M p1 h2
        rw [r4] at h3
        obtain ⟨h4,h5,h6⟩:=h.ar.nC c v y L M _ _ _ g k p2 h2 h3
        refine ⟨by omega,h5,fun z hz bo=>?_⟩
        have hnG:=(f1 c v p1 y L M h2).2 _ _ _ _ _ h3
        rw [b3' g (fun k e=>by
          rcases n2 g k e with hg | ⟨hg,_⟩
          · exact hnG hg
          · omega)] at hz
        obtain ⟨h7,h8,h9⟩:=h6 z hz bo
        refine ⟨h7,fun q=>?_,h9⟩
        rcases FF z q with e | ⟨e,_⟩
        · subst e
          rcases n1 with hx | hx
          · exact h8 (f2 z hx)
          · have:=h.mem g z hz; omega
        · exact h8 e
  · intro y hy hn ha
    by_cases wc:X y
    · exact absurd (.inl (f2 y wc)) ha
    · rcases b1 y hy wc with e | ⟨_,g,hg,h2⟩
      · exact e
      · exact absurd (.inr ⟨g,(f3 g hg).1,h2⟩) ha
  · intro g hg hn ha
    refine b3' g fun k e=>?_
    rcases n2 g k e with zG | ⟨zG,_⟩
    · exact ha (f3 g zG).1
    · omega
  · rcases FF y q with e | ⟨e,_⟩
    · exact af0 y e
    · exact .inl e
  · rcases aaA g q with e | ⟨e,_⟩
    · exact aiy g e
    · exact .inl e
  · rcases b3 g y q with e | ⟨e,e2,_⟩
    · exact .inl e
    · exact .inr (by omega)
  · rcases q with q | ⟨g,h1,h2⟩
    · rcases FF y q with e | ⟨e,_⟩
      · rcases af0 y e with e | e
        · exact .inl (.inl e)
        · exact .inr e
      · exact .inl (.inl e)
    · rcases b3 g y h2 with e | ⟨e,e2,_⟩
      · rcases aaA g h1 with e1 | ⟨e1,_⟩
        · rcases aiy g e1 with e2 | e2
          · exact .inl (.inr ⟨g,e2,e⟩)
          · rw [h.fresh g e2] at e; simp at e
        · exact .inl (.inr ⟨g,e1,e⟩)
      · exact .inr (by omega)
  · intro y hy jY e own LP hr
    by_cases wc:X y
    · exact b2 y wc jY e own LP hr
    · rcases b1 y hy wc with e1 | ⟨e1,_⟩
      · exact ⟨jY,by rw [← e1]; exact hr,rfl⟩
      · rw [e1] at hr; simp at hr
end Go.K
end
section
namespace Go.K
open Go Go.aV
variable {P:Program} {E:Env}
theorem ck.ai4 {A:ak} {B:St} {c:List Value} {n:Nat} (h:eh P E A B):ck P E A B (E.dD B.next ⟨c,n,true,some (B.next,0)⟩) A (B.grow B.next 0 c n):=by
  have eM:∀ x,(B.grow B.next 0 c n).get x=if x=B.next then some (.row c n true (some (B.next,0))) else B.get x:=fun x=>by simp [St.grow]
  have ig:∀ q,(B.grow B.next 0 c n).members q=if q=B.next then B.next :: B.members B.next else B.members q:=fun q=>by simp [St.grow,St.vp]
  have eN:(B.grow B.next 0 c n).next=B.next+1:=rfl
  have hle:E.le (E.dD B.next ⟨c,n,true,some (B.next,0)⟩):=⟨fun _ _ e=>e,fun _ _ e=>e,fun b r e=>by
    have:=h.jr b r e
    simp only [Env.dD]; rw [if_neg (by omega)]; exact e,fun _ _ e=>e⟩
  generalize B.grow B.next 0 c n=B' at eM ig eN
  have rH:∀ x,x < B.next→B'.get x=B.get x:=fun x hx=>by rw [eM,if_neg (by omega)]
  have CP:∀ b r,(E.dD B.next ⟨c,n,true,some (B.next,0)⟩).z b=some r→E.z b=some r∨B.next≤b:=fun b r e=>by
    simp only [Env.dD] at e
    split at e
    · exact .inr (by omega)
    · exact .inl e
  have Re:∀ q,AF A E B q→B'.members q=B.members q:=fun q hq=>by
    rw [ig,if_neg]
    intro e2
    obtain ⟨b,v,x,L,N,cs,e,own,k,h1,h2,h3⟩:=hq
    obtain ⟨h4,h5,_⟩:=h.ar.nC b v x L N cs e own q k h1 h2 h3
    omega
  have acp:∀ q y,y ∈ B'.members q→y ∈ B.members q∨B.next≤y:=fun q y hy=>by
    rw [ig] at hy
    split at hy
    · rename_i e2
      subst e2
      rcases List.mem_cons.1 hy with hy | hy
      · exact .inr (by omega)
      · exact .inl hy
    · exact .inl hy
  refine ⟨⟨?_,?_,?_,?_,h.inj,h.fO,h.eS,h.jq,h.live,?_,?_,?_,?_,?_,h.ar.eU hle (fun _=>rfl) (fun _ _ e=>e) (fun _ _ e=>e) (Nat.le_refl _) (by omega) (fun x q=>rH x (h.yY q)) CP (fun _ _ e=>.inl e) (fun b q e=>.inl ⟨b,e⟩) Re h.mem⟩,hle,Nat.le_refl _,?_,fun b x e=>.inl e,fun b r e=>(CP b r e).imp id .inr,fun b q e=>.inl e,fun q hq hn _=>by rw [ig,if_neg (by omega)],fun _ q=>.inl q,fun _ q=>.inl (q.of (fun _=>rfl) (fun _ _ e=>e) fun x q=>rH x (h.yY q)),acp,fun _ q=>.inl (q.of (fun _=>rfl) (fun _ _ e=>e) (fun x q=>rH x (h.yY q)) Re),iZ rH⟩
  · intro b ie FB hb
    obtain ⟨x,d,h1,h2,h3⟩:=h.row b ie FB hb
    have:=h.dT b x h1
    exact ⟨x,d,h1,by rw [eM,if_neg (by omega)]; exact h2,h3.mono hle⟩
  · intro b top x3 hb
    rcases h.aJ b top x3 hb with h1 | ⟨g,h1,TE,h2⟩
    · exact .inl h1
    · have hg:=h.fV b g h1
      refine .inr ⟨g,h1,TE,fun x hx d e own f k hr=>?_⟩
      rw [ig,if_neg (by omega)] at hx
      have:=h.mem g x hx
      rw [eM,if_neg (by omega)] at hr
      exact h2 x hx d e own f k hr
  · intro b r hb
    simp only [Env.dD] at hb
    rw [eM]
    split at hb
    · rename_i e; simp at hb; subst hb; rw [if_pos e]
    · rename_i e; rw [if_neg e]; exact h.z b r hb
  · intro b x hb
    have:=h.dT b x hb
    simp only [Env.dD]
    rw [if_neg (by omega)]
    exact h.apart b x hb
  · intro b x hb; have:=h.dT b x hb; omega
  · intro b r hb
    simp only [Env.dD] at hb
    rw [eN]
    split at hb
    · omega
    · have:=h.jr b r hb; omega
  · intro b g hb; have:=h.fV b g hb; omega
  · intro g hg
    rw [eN] at hg
    rw [ig,if_neg (by omega)]
    exact h.fresh g (by omega)
  · intro g x hx
    rw [eN]
    rw [ig] at hx
    split at hx
    · rcases List.mem_cons.1 hx with hx | hx
      · omega
      · have:=h.mem _ x hx; omega
    · have:=h.mem g x hx; omega
  · intro x hx _ _; rw [eM,if_neg (by omega)]
theorem ck.after {A A1 A2:ak} {B B2:St} {E2:Env} (h:ck P E A B E A1 B) (k:ck P E A1 B E2 A2 B2):ck P E A B E2 A2 B2 where
  cW:=k.cW
  le:=k.le
  next:=Nat.le_trans h.next k.next
  eU x hx hn ha:=k.eU x hx hn fun q=>(h.ky x q).elim ha fun e=>by omega
  new:=k.new
  oW b r e:=by
    rcases k.oW b r e with e | e | e
    · exact .inl e
    · exact .inr (h.js b e)
    · exact .inr (.inr e)
  oX:=k.oX
  mr g hg hn ha:=k.mr g hg hn fun q=>(h.jJ g q).elim ha fun e=>by omega
  js x q:=(k.js x q).elim (h.js x) .inr
  jJ g q:=(k.jJ g q).elim (h.jJ g) .inr
  qC:=k.qC
  ky y q:=(k.ky y q).elim (h.ky y) .inr
  rows:=k.rows
theorem ck.adC {A:ak} {B:St} {f t:Nat} (sz:Nat) (h:eh P E A B) {x3:Nat} (hA:A.get f=some (.aJ t x3)) (zO:E.φ f=none):ck P E A B E (A.put f (.aJ 0 sz)) B:=by
  have Yy:∀ (b:Nat) (v:KV),(A.put f (.aJ 0 sz)).get b=some (.arr v)→A.get b=some (.arr v):=fun b v hb=>by
    rw [ak.bt] at hb
    split at hb
    · simp at hb
    · exact hb
  have TD:∀ (b:Nat) (v:KV),(A.put f (.aJ 0 sz)).get b=some (.fB v)→A.get b=some (.fB v):=fun b v hb=>by
    rw [ak.bt] at hb
    split at hb
    · simp at hb
    · exact hb
  refine ⟨⟨fun b cs a8 hb=>?_,fun b top x3 hb=>?_,h.z,h.apart,h.inj,h.fO.put (.inr zO),h.eS,h.jq,fun b o hb=>?_,h.dT,h.jr,h.fV,h.fresh,h.mem,h.ar.eU (Env.le_refl _) (fun _=>rfl) Yy TD (Nat.le_refl _) (Nat.le_refl _) (fun _ _=>rfl) (fun _ _ e=>.inl e) (fun _ _ e=>.inl e) (fun b g e=>.inl ⟨b,e⟩) (fun _ _=>rfl) h.mem⟩,Env.le_refl _,Nat.le_refl _,fun _ _ _ _=>rfl,fun _ _ e=>.inl e,fun _ _ e=>.inl e,fun _ _ e=>.inl e,fun _ _ _ _=>rfl,fun _ q=>.inl (q.of (fun _=>rfl) Yy),fun _ q=>.inl (q.of (fun _=>rfl) Yy fun _ _=>rfl),fun _ _ q=>.inl q,fun _ q=>.inl (q.of (fun _=>rfl) Yy (fun _ _=>rfl) fun _ _=>rfl),iZ fun _ _=>rfl⟩
  · rw [ak.bt] at hb
    split at hb
    · simp at hb
    · exact h.row b cs a8 hb
  · rw [ak.bt] at hb
    split at hb
    · rename_i e2; simp at hb; exact .inl ⟨hb.1.symm,by rw [e2]; exact zO⟩
    · exact h.aJ b top x3 hb
  · rw [ak.bt] at hb
    split at hb
    · rename_i e2; rw [e2]; exact h.live f _ hA
    · exact h.live b o hb
theorem af1 {t:TypeId} (hu:P.underlying t=some (.int .u8)):a6 P t=⟨false,[.int .u8]⟩:=by
  unfold a6
  rw [lay,hu]
  rfl
theorem Yz {e:TypeId} (he:isByte P e=true):air P (JG e) Ce:=by
  intro E A B vs us v h hv hg
  unfold JG at hg
  split at hg
  · rename_i s
    obtain ⟨u,rfl,h1⟩:=hv.cG
    have:=h1.mq; subst this
    have hg:KV.ts e .any s.size _ _=v:=hg
    subst hg
    have hu:P.underlying e=some (.int .u8):=by
      unfold isByte at he
      split at he
      · assumption
      · simp at he
    have aiz:a6 P e=⟨false,[.int .u8]⟩:=af1 hu
    refine ⟨_,_,_,rfl,?_,ck.ai4 h⟩
    simp only [VK]
    have cA:aL P e=1:=by unfold aL; rw [aiz]; rfl
    refine ⟨⟨by simp,fun i hi=>?_,?_⟩,gi s.data.toList,?_,some ⟨B.next,0,none⟩,s.size,rfl,Nat.le_refl _,.inr ⟨B.next,0,⟨gi s.data.toList,1,true,some (B.next,0)⟩,rfl,by simp [Env.dD],cA.symm,?_⟩,trivial⟩
    · have KK:i < s.data.toList.length:=by simpa using hi
      simp only [List.getD,List.getElem?_map,List.getElem?_eq_getElem KK,Option.map_some,Option.getD_some]
    · rw [aiz]
      induction s.data.toList with
      | nil=>rfl
      | cons b l ih=>simp [cX,bX,ax,kindOk,ih]
    · generalize E.dD B.next _=E'
      induction s.data.toList with
      | nil=>exact .nil
      | cons b l ih=>exact .cons .mkInt ih
    · rw [cA]
      intro i x hx
      obtain ⟨b,_,rfl⟩:∃ b,s.data.toList[i]? = some b∧x = .int .u8 b.toNat:=by
        simp only [gi,List.getElem?_map,Option.map_eq_some_iff] at hx
        obtain ⟨b,h1,h2⟩:=hx
        exact ⟨b,h1,h2.symm⟩
      refine ⟨rfl,fun k y hy=>?_⟩
      have hk:k=0:=by
        have:=(Array.getElem?_eq_some_iff.1 hy).1
        simp [Value.cells] at this
        exact this
      subst hk
      simp [Value.cells] at hy
      subst hy
      simpa using hx
  · exact hg.elim
theorem CV {B:St} {b off n sz:Nat} {r:aak} {aU:List Value} (hr:B.get b=some (.row r.cs r.a8 r.own r.a9)) (hl:jQ sz off r.cs aU) (hn:aU.length=n) (cA:1≤sz) :
    B.oJ ⟨b,off,none⟩ (n * sz)=some (bc aU):=by
  have hs:∀ v ∈ aU,v.cells.size=sz:=fun v hv=>by
    obtain ⟨i,hi⟩:=List.getElem?_of_mem hv
    exact (hl i v hi).1
  have hlen:=eT hs
  have AY:=jt hs
  have iY:∀ j,j < n * sz→r.cs[off+j]? = (bc aU)[j]?:=by
    intro j hj
    have hi:j / sz < aU.length:=by rw [hn]; exact Nat.div_lt_of_lt_mul (by rw [Nat.mul_comm]; exact hj)
    have hv:aU[j / sz]? = some aU[j / sz]:=List.getElem?_eq_getElem hi
    have hk:j % sz < aU[j / sz].cells.size:=by rw [hs _ (List.getElem_mem hi)]; exact Nat.mod_lt _ cA
    have hy:aU[j / sz].cells[j % sz]? = some (aU[j / sz].cells[j % sz]):=by simp [hk]
    have h1:=(hl _ _ hv).2 _ _ hy
    have h2:=(AY _ _ hv).2 _ _ hy
    have V7:j / sz * sz+j % sz=j:=by rw [Nat.mul_comm]; exact Nat.div_add_mod j sz
    rw [Nat.add_assoc,V7] at h1
    rw [Nat.zero_add,V7] at h2
    rw [h1,h2]
  simp only [St.oJ,bA,Option.isNone_none,cond_true,pf,hr,Option.bind_some]
  rw [hn] at hlen
  have hle:n * sz≤(r.cs.drop off).length:=by
    cases hm:n * sz with
    | zero=>omega
    | succ q=>
      have:=iY q (by omega)
      rw [List.getElem?_eq_getElem (show q < (bc aU).length by omega)] at this
      have h7:=(List.getElem?_eq_some_iff.1 this).1
      rw [List.length_drop]
      omega
  rw [mf,Bn hle]
  congr 1
  apply List.ext_getElem?
  intro i
  rw [List.getElem?_take]
  split
  · rename_i hi
    rw [List.getElem?_drop]
    exact iY i hi
  · exact (List.getElem?_eq_none_iff.2 (by omega)).symm
theorem TN {T:TypeId} {m:Mk} {n:Nat} {es:List KV} {acc:Nat→KV} {u:Value} {A:ak} {B:St} (h:eh P E A B) (hv:VK P E (.ts T m n es acc) u) (cA:1≤aL P T) :
    ∃ aU,aO P E es aU∧PZ u=some n∧pk B (aL P T) n u=some (bc aU)∧(∀ v ∈ aU,v.cells.size=aL P T)∧aU.length=n∧es.length=n∧cX (a6 P T) es=true:=by
  obtain ⟨ht,aU,h1,a,cap,rfl,h2,h3,_⟩:=hv.iu
  have hlen:=ht.len
  have gN:aU.length=n:=by rw [h1.length]; exact hlen.symm
  have hs:=j1 ht.typed h1
  refine ⟨aU,h1,rfl,?_,fun v hv=>(hs v hv).1,gN,hlen.symm,ht.typed⟩
  rcases h3 with ⟨rfl,h0⟩ | ⟨b,off,r,rfl,h4,h5,h6⟩
  · have:aU = []:=List.length_eq_zero_iff.1 (by omega)
    subst this
    simp [pk,h0,bc]
  · exact CV (h.z b r h4) h6 gN cA
theorem eL.join {T:TypeId} {n m:Nat} {es fs:List KV} {f g:Nat→KV} (h:eL P T n es f) (k:eL P T m fs g):eL P T (n+m) (es ++ fs) (cM n f g) where
  len:=by rw [List.length_append,← h.len,← k.len]
  acc i hi:=by
    unfold cM
    by_cases hn:i < n
    · have:Nat.blt i n=true:=by rw [Nat.blt_eq]; exact hn
      rw [this,cond_true,h.acc i hn,List.getD_eq_getElem?_getD,List.getD_eq_getElem?_getD,List.getElem?_append_left (by rw [← h.len]; exact hn)]
    · have:Nat.blt i n=false:=by
        cases hb:Nat.blt i n with
        | false=>rfl
        | true=>rw [Nat.blt_eq] at hb; omega
      rw [this,cond_false,k.acc (i - n) (by omega),List.getD_eq_getElem?_getD,List.getD_eq_getElem?_getD,List.getElem?_append_right (by rw [← h.len]; omega),← h.len]
  typed:=DF h.typed k.typed
theorem eL.none {T:TypeId} {g:Nat→KV} : eL P T 0 [] g:=⟨rfl,fun i h=>by omega,rfl⟩
structure Src (P:Program) (E:Env) (B:St) (T:TypeId) (n:Nat) (es:List KV) (acc:Nat→KV) (u:Value) (aU:List Value):Prop where
  tree:eL P T n es acc
  rel:aO P E es aU
  len:PZ u=some n
  size:∀ v ∈ aU,v.cells.size=aL P T
  length:aU.length=n
  first:∀ k,k≤n→pk B (aL P T) k u=some (bc (aU.take k))
theorem Src.all {B:St} {T:TypeId} {n:Nat} {es:List KV} {acc:Nat→KV} {u:Value} {aU:List Value} (h:Src P E B T n es acc u aU):pk B (aL P T) n u=some (bc aU):=by
  rw [h.first n (Nat.le_refl _),List.take_of_length_le (Nat.le_of_eq h.length)]
theorem jQ.take {sz off:Nat} {cs es:List Value} (h:jQ sz off cs es) (k:Nat):jQ sz off cs (es.take k):=fun i x hi=>h i x (by
  rw [List.getElem?_take] at hi
  split at hi
  · exact hi
  · simp at hi)
theorem jQ.drop {sz off:Nat} {cs es:List Value} (h:jQ sz off cs es) (o:Nat):jQ sz (off+o * sz) cs (es.drop o):=fun i x hi=>by
  rw [List.getElem?_drop] at hi
  obtain ⟨h1,h2⟩:=h (o+i) x hi
  refine ⟨h1,fun k y hy=>?_⟩
  rw [← h2 k y hy,Nat.add_mul]
  congr 1
  omega
theorem ahN {T:TypeId} {m:Mk} {n:Nat} {es:List KV} {acc:Nat→KV} {u:Value} {A:ak} {B:St} (h:eh P E A B) (hv:VK P E (.ts T m n es acc) u) (cA:1≤aL P T):∃ aU,Src P E B T n es acc u aU:=by
  obtain ⟨ht,aU,h1,a,cap,rfl,h2,h3,_⟩:=hv.iu
  have gN:aU.length=n:=by rw [h1.length]; exact ht.len.symm
  have hs:=j1 ht.typed h1
  refine ⟨aU,ht,h1,rfl,fun v hv=>(hs v hv).1,gN,fun k hk=>?_⟩
  rcases h3 with ⟨rfl,h0⟩ | ⟨b,off,r,rfl,h4,h5,h6⟩
  · have:aU = []:=List.length_eq_zero_iff.1 (by omega)
    subst this
    have:k=0:=by omega
    subst this
    simp [pk,bc]
  · exact CV (h.z b r h4) (h6.take k) (by rw [List.length_take]; omega) cA
theorem ahO {T:TypeId} {m:Mk} {b o n N:Nat} {es:List KV} {acc:Nat→KV} {u:Value} {A:ak} {B:St} (h:eh P E A B) (hv:VK P E (.al T b o n) u) (ha:zL A b=some (.ts T m N es acc)) (cA:1≤aL P T) :
    ∃ aU,Src P E B T n ((es.drop o).take n) (fun i=>acc (o+i)) u aU:=by
  have row:∀ {x:Nat} {r:aak} {aU:List Value} {c:Nat},u = .slice (some ⟨x,o * aL P T,none⟩) n c→o+n≤N→eL P T N es acc→B.get x=some (.row r.cs r.a8 r.own r.a9)→aO P E es aU→jQ (aL P T) 0 r.cs aU→∃ aU,Src P E B T n ((es.drop o).take n) (fun i=>acc (o+i)) u aU:=by
    intro x r aU c hu hon ht hr OJ hl
    subst hu
    have acs:aU.length=N:=by rw [OJ.length]; exact ht.len.symm
    have acu:((es.drop o).take n).length=n:=by rw [List.length_take,List.length_drop,← ht.len]; omega
    have af2:((aU.drop o).take n).length=n:=by rw [List.length_take,List.length_drop,acs]; omega
    have hs:=j1 ht.typed OJ
    refine ⟨(aU.drop o).take n,⟨acu.symm,fun i hi=>?_,lg fun i x hi=>?_⟩,(OJ.drop o).take n,rfl,fun v hv=>(hs v (List.mem_of_mem_drop (List.mem_of_mem_take hv))).1,af2,fun k hk=>?_⟩
    · rw [ht.acc (o+i) (by omega),List.getD_eq_getElem?_getD,List.getD_eq_getElem?_getD,List.getElem?_take,if_pos hi,List.getElem?_drop]
    · rw [List.getElem?_take] at hi
      split at hi
      · rw [List.getElem?_drop] at hi; exact fP ht.typed hi
      · simp at hi
    · have hY:=((hl.drop o).take n).take k
      rw [Nat.zero_add] at hY
      exact CV hr hY (by rw [List.length_take,af2]; omega) cA
  rcases hv.qT with ⟨rfl,rfl,rfl⟩ | ⟨x,L,N0,c,h1,h2,h3,h4,h5⟩
  · refine ⟨[],⟨by simp,fun i hi=>by omega,rfl⟩,by simpa using aO.nil,rfl,by simp,rfl,fun k hk=>?_⟩
    have:k=0:=by omega
    subst this
    simp [pk,bc]
  · unfold zL at ha
    split at ha
    · rename_i v hb
      simp only [Option.some.injEq] at ha
      subst ha
      obtain ⟨T2,N2,kx,db,e,ht,_,qg⟩:=h.ar.arr b _ hb
      simp only [KV.ts.injEq] at e
      obtain ⟨rfl,rfl,rfl,rfl,rfl⟩:=e
      rcases qg with ⟨_,e⟩ | ⟨x2,cs,a9,aU,e,h6,h7,h8⟩
      · rw [h1] at e; simp at e
      · rw [h1] at e
        simp only [Option.some.injEq,Prod.mk.injEq] at e
        obtain ⟨rfl,rfl,rfl⟩:=e
        exact row (r:=⟨cs,aL P T,true,a9⟩) h2 h4 ht h6 h7 h8
    · rename_i v hb
      simp only [Option.some.injEq] at ha
      subst ha
      obtain ⟨T2,N2,kx,db,e,ht,_,qg⟩:=h.ar.fB b _ hb
      simp only [KV.ts.injEq] at e
      obtain ⟨rfl,rfl,rfl,rfl,rfl⟩:=e
      rcases qg with ⟨_,e⟩ | ⟨x2,r,aU,e,h6,h6',h7,h8⟩
      · rw [h1] at e; simp at e
      · rw [h1] at e
        simp only [Option.some.injEq,Prod.mk.injEq] at e
        obtain ⟨rfl,rfl,rfl⟩:=e
        exact row h2 h4 ht (h.z _ _ h6) h7 h8
    · simp at ha
theorem adD {A:ak} {B:St} {y:KV} {u:Value} {T:TypeId} {m:Mk} {n:Nat} {es:List KV} {acc:Nat→KV} (h:eh P E A B) (hv:VK P E y u) (hs:Fo A y=some (.ts T m n es acc)) (cA:1≤aL P T):∃ aU,Src P E B T n es acc u aU:=by
  unfold Fo at hs
  split at hs
  · rename_i T' b o k
    unfold Yi at hs
    split at hs
    · rename_i T2 _ _ kx db ha
      cases hb:Nat.beq T' T2 with
      | false=>rw [hb] at hs; simp at hs
      | true=>
        have:=Nat.eq_of_beq_eq_true hb
        subst this
        rw [hb,cond_true] at hs
        simp only [Option.some.injEq,KV.ts.injEq] at hs
        obtain ⟨rfl,rfl,rfl,rfl,rfl⟩:=hs
        exact ahO h hv ha cA
    · simp at hs
  · simp only [Option.some.injEq,KV.ts.injEq] at hs
    obtain ⟨rfl,rfl,rfl,rfl,rfl⟩:=hs
    exact ahN h hv cA
  · simp at hs
theorem acv {e n b:Nat} (hn:aL P e=n) (h1n:1≤n) {E:Env} {A A' : ak} {B:St} {x v:KV} {u w:Value} {e' : TypeId} {mk:Mk} {k:Nat} {new:List KV} {acc:Nat→KV} (h:eh P E A B) (h1:VK P E x u)
    (V8:Nat.beq e e' = true→∃ aU,Src P E B e' k new acc w aU) (hg:aE (Fm e n b A [x,.ts e' mk k new acc]) (v,A')):∃ r B' E',hZ n b B [u,w] = some (r,B')∧VK P E' v r∧ck P E A B E' A' B':=by
  have n7:1≤aL P e:=by omega
  have put:∀ (E1:Env) (A1:ak) (m f k:Nat) (base new:List KV) (ab an:Nat→KV) (more:Bool) (A2:ak) (v:KV),aE (LD e n b m base ab A1 f k new an more) (v,A2)→
      (more=true∧Nat.ble ((m+k+512) * b) 17592186044416=true∧Nat.ble (m+k) 17592186044416=true∧(m=0∨0 < k))∧v = .ts e (.aJ f) (m+k) (base ++ new) (cM m ab an)∧A2=A1.put f (.aJ (m+k) n):=by
    intro E1 A1 m f k base new ab an more A2 v hp
    obtain ⟨hc,hp⟩:=aE.il hp
    simp only [cL,Bool.and_eq_true] at hc
    simp only [Prod.mk.injEq] at hp
    refine ⟨⟨hc.1,hc.2.1.1,hc.2.1.2,?_⟩,hp.1.symm,hp.2.symm⟩
    have:=hc.2.2
    simp only [Bool.or_eq_true,Nat.blt_eq] at this
    exact this.symm.imp (fun h=>Nat.eq_of_beq_eq_true h) id
  unfold Fm at hg
  split at hg
  ·
    rename_i e9 mk9 k9 adE adF heq
    simp only [List.cons.injEq,KV.ts.injEq,and_true] at heq
    obtain ⟨rfl,rfl,rfl,rfl,rfl,rfl⟩:=heq
    have:=h1.jI; subst this
    obtain ⟨he,CS⟩:=hg.cond
    clear hg
    obtain ⟨bB,fW⟩:=V8 he
    have:=Nat.eq_of_beq_eq_true he
    subst this
    obtain ⟨⟨_,wI,oM,af3⟩,rfl,rfl⟩:=put E _ _ _ _ _ _ _ _ _ _ _ CS
    have Ba:=fW.tree
    have h3:=fW.rel
    have h4:=fW.len
    have h5:=fW.all
    have h6:=fW.size
    have h7:=fW.length
    have h8:=Ba.len.symm
    rw [hn] at h5 h6
    have s0:=ck.adz n h
    have hAf:(A.new (.aJ 0 n)).get A.next=some (.aJ 0 n):=by simp
    have zO:E.φ A.next=none:=by
      cases hq:E.φ A.next with
      | none=>rfl
      | some g=>have:=h.jq _ g hq; omega
    cases k with
    | zero=>
      have lQ:new = []:=List.length_eq_zero_iff.1 h8
      have TP:bB = []:=List.length_eq_zero_iff.1 h7
      subst lQ TP
      refine ⟨.slice none 0 0,B,E,?_,?_,?_⟩
      · simp only [hZ,h4,Option.bind_some]
        rw [h5]
        rfl
      · simp only [VK]
        exact ⟨⟨rfl,fun i hi=>by omega,rfl⟩,[],.nil,none,0,rfl,Nat.le_refl _,.inl ⟨rfl,rfl⟩,rfl,.inl ⟨rfl,rfl⟩⟩
      · exact s0.after (ck.adC n s0.cW hAf zO)
    | succ k=>
      have TQ:=ck.grow (c:=bc bB) (top:=0) (Iy:=k+1) (sz:=n) (g:=B.next) (f:=A.next) s0.cW hAf (.inl ⟨zO,rfl⟩) (by rw [eT h6,h7]) (by omega) (by omega)
      refine ⟨.slice (some ⟨B.next,0,none⟩) (k+1) (k+1),B.grow B.next 0 (bc bB) n,_,?_,?_,s0.after (by simpa using TQ)⟩
      · simp only [Nat.zero_add] at wI oM
        simp only [hZ,h4,Option.bind_some,Nat.zero_add]
        rw [show Nat.ble (k+1) 0=false from rfl,cond_false,wI,oM,h5]
        rfl
      · simp only [VK,Nat.zero_add,List.nil_append]
        have TP:=h3.mono (Env.le_trans s0.le TQ.le)
        have hl:=jt h6
        refine ⟨by have:=eL.none (P:=P) (T:=e) (g:=jP) |>.join Ba; simpa using this,bB,TP,_,_,rfl,Nat.le_refl _,.inr ⟨B.next,0,⟨bc bB,n,true,some (B.next,0)⟩,rfl,by simp [Env.mu,Env.dD],hn.symm,by rw [hn]; exact hl⟩,rfl,.inr ⟨B.next,⟨bc bB,n,true,some (B.next,0)⟩,B.next,rfl,by simp [Env.mu,Env.dD],rfl,by simp [Env.mu],rfl,?_⟩⟩
        rw [hn]
        simp only
        rw [eT h6,h7]
  ·
    rename_i e1 m es aiA e9 mk9 k9 adE adF heq
    simp only [List.cons.injEq,KV.ts.injEq,and_true] at heq
    obtain ⟨rfl,rfl,rfl,rfl,rfl,rfl⟩:=heq
    obtain ⟨he,CS⟩:=hg.cond
    clear hg
    simp only [Bool.and_eq_true] at he
    obtain ⟨bB,fW⟩:=V8 he.1
    have:=Nat.eq_of_beq_eq_true he.1
    subst this
    have:=Nat.eq_of_beq_eq_true he.2
    subst this
    obtain ⟨⟨hk,wI,oM,af3⟩,rfl,rfl⟩:=put E _ _ _ _ _ _ _ _ _ _ _ CS
    have hk:0 < k:=by rwa [Nat.blt_eq] at hk
    have uo:=h1.iu.1
    have Ba:=fW.tree
    have h3:=fW.rel
    have h4:=fW.len
    have h5:=fW.all
    have h6:=fW.size
    have h7:=fW.length
    have h8:=Ba.len.symm
    obtain ⟨lR,h3b,h4b,h5b,h6b,h7b,h8b,h9b⟩:=TN h h1 n7
    rw [hn] at h5 h6 h5b h6b
    obtain ⟨_,ac8,kQ,a,cap,rfl,afu,TS,Tg⟩:=h1.iu
    obtain ⟨rfl,Re⟩:=Tg
    have s0:=ck.adz n h
    have hAf:(A.new (.aJ 0 n)).get A.next=some (.aJ 0 n):=by simp
    have zO:E.φ A.next=none:=by
      cases hq:E.φ A.next with
      | none=>rfl
      | some g=>have:=h.jq _ g hq; omega
    have hs:∀ v ∈ lR ++ bB,v.cells.size=n:=fun v hv=>by
      rcases List.mem_append.1 hv with hv | hv
      · exact h6b v hv
      · exact h6 v hv
    have hlen:(bc (lR ++ bB)).length=(cap+k) * n:=by rw [eT hs,List.length_append,h7b,h7]
    have TQ:=ck.grow (c:=bc (lR ++ bB)) (top:=0) (Iy:=cap+k) (sz:=n) (g:=B.next) (f:=A.next) s0.cW hAf (.inl ⟨zO,rfl⟩) hlen (by omega) (by omega)
    refine ⟨.slice (some ⟨B.next,0,none⟩) (cap+k) (cap+k),B.grow B.next 0 (bc (lR ++ bB)) n,_,?_,?_,s0.after TQ⟩
    · simp only [hZ,h4,Option.bind_some]
      have Tf:Nat.ble (cap+k) cap=false:=by
        cases hq:Nat.ble (cap+k) cap with
        | false=>rfl
        | true=>have:=Nat.le_of_ble_eq_true hq; omega
      rw [Tf,cond_false,wI,oM]
      rcases TS with ⟨rfl,h0⟩ | ⟨b',off,r,rfl,hz,he2,hY⟩
      · subst h0
        have:lR = []:=List.length_eq_zero_iff.1 h7b
        subst this
        simp only [nL,Bool.true_and,Bool.and_self]
        rw [show Nat.beq 0 0=true from rfl,cond_true,h5]
        simp [xN]
      · obtain ⟨r2,wH,ho,adG,yT⟩:=Re b' off rfl
        rw [hz] at wH
        simp at wH
        subst wH
        have fa:=h.z b' r hz
        have hex:nL B n cap (some ⟨b',off,none⟩)=true:=by
          simp only [nL,fa,adG]
          rw [hn] at yT
          simp [yT]
        rw [hex]
        simp only [Bool.and_self,cond_true,h5,Option.bind_some]
        simp only [pk] at h5b
        have K8:Nat.beq r.a8 n=true:=by rw [he2,hn]; simp
        simp only [xN,bA,Option.isNone_none,cond_true,h5b,Option.bind_some,fa,K8,adG,ho]
        rw [← qD]
    · simp only [VK]
      have sm:=(h3b.append h3).mono (Env.le_trans s0.le TQ.le)
      have hl:=jt hs
      refine ⟨uo.join Ba,lR ++ bB,sm,_,_,rfl,Nat.le_refl _,.inr ⟨B.next,0,⟨bc (lR ++ bB),n,true,some (B.next,0)⟩,rfl,by simp [Env.mu,Env.dD],hn.symm,by rw [hn]; exact hl⟩,rfl,.inr ⟨B.next,⟨bc (lR ++ bB),n,true,some (B.next,0)⟩,B.next,rfl,by simp [Env.mu,Env.dD],rfl,by simp [Env.mu],rfl,?_⟩⟩
      rw [hn]
      exact hlen
  ·
    rename_i e1 f m es aiA e9 mk9 k9 adE adF heq
    simp only [List.cons.injEq,KV.ts.injEq,and_true] at heq
    obtain ⟨rfl,rfl,rfl,rfl,rfl,rfl⟩:=heq
    split at hg
    · rename_i top sz' TT
      obtain ⟨he,CS⟩:=hg.cond
      clear hg
      simp only [Bool.and_eq_true] at he
      obtain ⟨bB,fW⟩:=V8 he.1.1
      have:=Nat.eq_of_beq_eq_true he.1.1
      subst this
      have:=Nat.eq_of_beq_eq_true he.1.2
      subst this
      have afX:=Nat.eq_of_beq_eq_true he.2
      rw [afX] at TT
      obtain ⟨⟨Eu,wI,oM,af3⟩,rfl,rfl⟩:=put E _ _ _ _ _ _ _ _ _ _ _ CS
      have:=Nat.eq_of_beq_eq_true Eu
      subst this
      have uo:=h1.iu.1
      have Ba:=fW.tree
      have h3:=fW.rel
      have h4:=fW.len
      have h5:=fW.all
      have h6:=fW.size
      have h7:=fW.length
      have h8:=Ba.len.symm
      obtain ⟨lR,h3b,h4b,h5b,h6b,h7b,h8b,h9b⟩:=TN h h1 n7
      rw [hn] at h5 h6 h5b h6b
      obtain ⟨_,ac8,kQ,a,cap,rfl,afu,TS,Tg⟩:=h1.iu
      obtain ⟨rfl,Re⟩:=Tg
      have hs:∀ v ∈ lR ++ bB,v.cells.size=n:=fun v hv=>by
        rcases List.mem_append.1 hv with hv | hv
        · exact h6b v hv
        · exact h6 v hv
      have hlen:(bc (lR ++ bB)).length=(cap+k) * n:=by rw [eT hs,List.length_append,h7b,h7]
      have ai5:=h3b.append h3
      have hl:=jt hs
      have fin:∀ (E2:Env) (x g:Nat),E.le E2→E2.z x=some ⟨bc (lR ++ bB),n,true,some (g,0)⟩→E2.φ f=some g→VK P E2 (.ts e (.aJ f) (cap+k) (es ++ new) (cM cap aiA acc)) (.slice (some ⟨x,0,none⟩) (cap+k) (cap+k)):=by
        intro E2 x g hle hzx aka
        simp only [VK]
        refine ⟨uo.join Ba,lR ++ bB,ai5.mono hle,_,_,rfl,Nat.le_refl _,.inr ⟨x,0,_,rfl,hzx,hn.symm,by rw [hn]; exact hl⟩,rfl,.inr ⟨x,_,g,rfl,hzx,rfl,aka,rfl,?_⟩⟩
        rw [hn]
        exact hlen
      rcases Re with ⟨rfl,rfl⟩ | ⟨b',r,g,rfl,hz,ho,zO,adG,Lo⟩
      ·
        have hold:es = []:=List.length_eq_zero_iff.1 h8b
        have YA:lR = []:=List.length_eq_zero_iff.1 h7b
        subst hold YA
        have zO:E.φ f=none:=by
          rcases h.aJ f 0 n TT with ⟨_,AX⟩ | ⟨g2,_,AX,_⟩
          · exact AX
          · omega
        cases k with
        | zero=>
          have lQ:new = []:=List.length_eq_zero_iff.1 h8
          have TP:bB = []:=List.length_eq_zero_iff.1 h7
          subst lQ TP
          refine ⟨.slice none 0 0,B,E,?_,?_,ck.adC n h TT zO⟩
          · simp only [hZ,h4,Option.bind_some]
            rw [h5]
            rfl
          · simp only [VK]
            exact ⟨⟨rfl,fun i hi=>by omega,rfl⟩,[],.nil,none,0,rfl,Nat.le_refl _,.inl ⟨rfl,rfl⟩,rfl,.inl ⟨rfl,rfl⟩⟩
        | succ k=>
          have TQ:=ck.grow (c:=bc ([] ++ bB)) (top:=0) (Iy:=0+(k+1)) (sz:=n) (g:=B.next) (f:=f) h TT (.inl ⟨zO,rfl⟩) hlen (by omega) (by omega)
          refine ⟨.slice (some ⟨B.next,0,none⟩) (0+(k+1)) (0+(k+1)),B.grow B.next 0 (bc ([] ++ bB)) n,_,?_,fin _ B.next B.next TQ.le (by simp [Env.mu,Env.dD]) (by simp [Env.mu]),TQ⟩
          simp only [Nat.zero_add] at wI oM
          simp only [hZ,h4,Option.bind_some,Nat.zero_add,List.nil_append]
          rw [show Nat.ble (k+1) 0=false from rfl,cond_false,wI,oM,h5]
          rfl
      ·
        have ai6:0 < cap+k∧0 < k:=by
          rcases af3 with h0 | h0
          · subst h0
            rcases h.aJ f 0 n TT with ⟨_,AX⟩ | ⟨g2,_,AX,_⟩
            · rw [zO] at AX; simp at AX
            · omega
          · exact ⟨by omega,h0⟩
        have fa:=h.z b' r hz
        rw [ho,adG] at fa
        have K8:r.a8=n:=by
          rcases TS with ⟨h0,_⟩ | ⟨b2,af4,r2,e2,wH,he2,_⟩
          · simp at h0
          · simp at e2
            obtain ⟨rfl,rfl⟩:=e2
            rw [hz] at wH
            simp at wH
            subst wH
            rw [he2,hn]
        have ai7:B.kill B.next (0+(0+cap * n)) (0+(0+cap * n)+(bc bB).length) (B.members g)=B:=by
          refine TJ fun y hy=>?_
          rcases h.aJ f cap n TT with ⟨_,AX⟩ | ⟨g2,AX,_,YB⟩
          · rw [zO] at AX; simp at AX
          · rw [zO] at AX
            simp at AX
            subst AX
            cases hy2:B.get y with
            | none=>rfl
            | some o=>cases o with
              | row gP e2 yN mg=>
                cases mg with
                | none=>rfl
                | some p=>
                  obtain ⟨f2,k2⟩:=p
                  obtain ⟨rfl,hle2⟩:=YB y hy gP e2 yN f2 k2 hy2
                  simp only [lG,meets,Nat.zero_add]
                  have:Nat.blt (cap * n) gP.length=false:=by
                    cases hq:Nat.blt (cap * n) gP.length with
                    | false=>rfl
                    | true=>rw [Nat.blt_eq] at hq; omega
                  rw [this,Bool.false_and]
              | _=>rfl
        have TQ:=ck.grow (c:=bc (lR ++ bB)) (top:=cap) (Iy:=cap+k) (sz:=n) (g:=g) (f:=f) h TT (.inr zO) hlen (by omega) ai6.1
        refine ⟨.slice (some ⟨B.next,0,none⟩) (cap+k) (cap+k),B.grow g 0 (bc (lR ++ bB)) n,_,?_,fin _ B.next g TQ.le (by simp [Env.mu,Env.dD]) (by simp [Env.mu]),TQ⟩
        have Tf:Nat.ble (cap+k) cap=false:=by
          cases hq:Nat.ble (cap+k) cap with
          | false=>rfl
          | true=>have:=Nat.le_of_ble_eq_true hq; omega
        have hex:nL B n cap (some ⟨b',0,none⟩)=true:=by simp only [nL,fa]
        simp only [hZ,h4,Option.bind_some,Tf,cond_false,wI,oM,hex,Bool.and_self,cond_true,h5]
        simp only [pk] at h5b
        have akb:Nat.beq r.a8 n=true:=by rw [K8]; simp
        simp only [xN,bA,Option.isNone_none,cond_true,h5b,Option.bind_some,fa,akb,ai7,← qD]
    · exact hg.elim
  · exact hg.elim
end Go.K
end
section
namespace Go.K
open Go Go.aV
variable {P:Program} {E:Env}
theorem ck.ahP {A A1:ak} {B:St} {T:TypeId} {acc:Nat→KV} (h:eh P E A B) (pA:A1.next=A.next) (CU:∀ c o,A1.get c=some o→A.get c=some o∨(o = .dead∧c < A.next)) (cA:1≤aL P T) :
    ck P E A B E (A1.new (.arr (.ts T .any 0 [] acc))) B:=by
  have afZ:E.α A.next=none:=by
    cases hq:E.α A.next with
    | none=>rfl
    | some p=>have:=h.ar.eS _ p hq; omega
  have iR:∀ c o,(A1.new (.arr (.ts T .any 0 [] acc))).get c=some o→(c=A.next∧o = .arr (.ts T .any 0 [] acc))∨(o = .dead∧c < A.next)∨A.get c=some o:=fun c o hc=>by
    rw [ak.bR,pA] at hc
    split at hc
    · rename_i e; simp at hc; exact .inl ⟨e,hc.symm⟩
    · rcases CU c o hc with e | e
      · exact .inr (.inr e)
      · exact .inr (.inl e)
  have hM:∀ c v,(A1.new (.arr (.ts T .any 0 [] acc))).get c=some (.arr v)→E.α c=none∨A.get c=some (.arr v):=fun c v hc=>by
    rcases iR c _ hc with ⟨e,_⟩ | ⟨e,_⟩ | e
    · exact .inl (by rw [e]; exact afZ)
    · simp at e
    · exact .inr e
  have hA:∀ c v y L N,(A1.new (.arr (.ts T .any 0 [] acc))).get c=some (.arr v)→E.α c=some (y,L,N)→A.get c=some (.arr v):=fun c v y L N hc hy=>by
    rcases hM c v hc with e | e
    · rw [e] at hy; simp at hy
    · exact e
  have m5:∀ y,AR (A1.new (.arr (.ts T .any 0 [] acc))) E y→AR A E y:=fun y ⟨c,v,L,N,h1,h2⟩=>⟨c,v,L,N,hA c v _ _ _ h1 h2,h2⟩
  have CW:∀ g,AF (A1.new (.arr (.ts T .any 0 [] acc))) E B g→AF A E B g:=fun g ⟨c,v,x,L,N,cs,e,own,k,h1,h2,h3⟩=>⟨c,v,x,L,N,cs,e,own,k,hA c v _ _ _ h1 h2,h2,h3⟩
  refine ⟨⟨fun c cs a8 hc=>?_,fun c top sz hc=>?_,h.z,h.apart,h.inj,?_,fun b x e=>by rw [ak.bz,pA]; have:=h.eS b x e; omega,fun b g e=>by rw [ak.bz,pA]; have:=h.jq b g e; omega,fun c o hc=>?_,h.dT,h.jr,h.fV,h.fresh,h.mem,?_⟩,Env.le_refl _,by rw [ak.bz,pA]; omega,fun _ _ _ _=>rfl,fun _ _ e=>.inl e,fun _ _ e=>.inl e,fun _ _ e=>.inl e,fun _ _ _ _=>rfl,fun x q=>.inl (m5 x q),fun g q=>.inl (CW g q),fun _ _ q=>.inl q,fun y q=>.inl (q.imp (m5 y) fun ⟨g,q1,q2⟩=>⟨g,CW g q1,q2⟩),iZ fun _ _=>rfl⟩
  · rcases iR c _ hc with ⟨_,e⟩ | ⟨e,_⟩ | e
    · simp at e
    · simp at e
    · exact h.row c cs a8 e
  · rcases iR c _ hc with ⟨_,e⟩ | ⟨e,_⟩ | e
    · simp at e
    · simp at e
    · exact h.aJ c top sz e
  · intro b c g tb sb tc sc hb hc e1 e2
    rcases iR b _ hb with ⟨_,e⟩ | ⟨e,_⟩ | hb
    · simp at e
    · simp at e
    rcases iR c _ hc with ⟨_,e⟩ | ⟨e,_⟩ | hc
    · simp at e
    · simp at e
    exact h.fO b c g _ _ _ _ hb hc e1 e2
  · rw [ak.bz,pA]
    rcases iR c _ hc with ⟨e,_⟩ | ⟨_,e⟩ | e
    · omega
    · omega
    · have:=h.live c o e; omega
  · refine ⟨fun c v hc=>?_,fun c v hc=>?_,fun x q=>h.ar.z x (m5 x q),fun b c v u x L N L' N' h1 h2 h3 h4=>h.ar.inj b c v u x L N L' N' (hA b v _ _ _ h1 h3) (hA c u _ _ _ h2 h4) h3 h4,fun b c v u x y L N L' N' cs e own g k bk e' k8 k' h1 h2 h3 h4=>h.ar.oH b c v u x y L N L' N' cs e own g k bk e' k8 k' (hA b v _ _ _ h1 h3) (hA c u _ _ _ h2 h4) h3 h4,h.ar.V2,fun b p e=>by rw [ak.bz,pA]; have:=h.ar.eS b p e; omega,h.ar.dT,fun b v x L N cs e own g k h1 h2 h3=>?_⟩
    · rcases iR c _ hc with ⟨e,e2⟩ | ⟨e,_⟩ | e
      · simp at e2
        subst e2
        exact ⟨T,0,[],acc,rfl,⟨rfl,fun i hi=>by omega,rfl⟩,cA,.inl ⟨rfl,by rw [e]; exact afZ⟩⟩
      · simp at e
      · exact h.ar.arr c v e
    · rcases iR c _ hc with ⟨_,e⟩ | ⟨e,_⟩ | e
      · simp at e
      · simp at e
      · exact h.ar.fB c v e
    · obtain ⟨q1,q2,q3⟩:=h.ar.nC b v x L N cs e own g k (hA b v _ _ _ h1 h2) h2 h3
      exact ⟨q1,q2,fun y hy bo=>⟨(q3 y hy bo).1,fun q=>(q3 y hy bo).2.1 (m5 y q),(q3 y hy bo).2.2⟩⟩
theorem aaC {E:Env} {T:TypeId} {b x L N n c:Nat} (m4:E.α b=some (x,L,N)) (h1:n≤c) (h2:n≤N) (h3:c * aL P T=L):VK P E (.al T b 0 n) (.slice (some ⟨x,0,none⟩) n c):=
  .LI (.inr ⟨x,L,N,c,m4,by simp,h1,by omega,by rw [Nat.zero_add]; exact h3⟩)
theorem aaD {T b n:Nat} {z:Value} (hn:aL P T=n) (h1n:1≤n) (hz:z.cells.size=n) (he:bX (a6 P T) (K.eD (a6 P T) (eG z))=true):W7 P (Oy T b (K.eD (a6 P T) (eG z))) (yJ n b z):=by
  intro E A A' B vs us v h hv hg
  unfold Oy at hg
  split at hg
  · rename_i k l k' c
    obtain ⟨x,y,rfl,h1,h2⟩:=hv.gW
    have:=h1.bW; subst this
    have:=h2.bW; subst this
    obtain ⟨hc,hg⟩:=aE.il hg
    simp only [Prod.mk.injEq] at hg
    obtain ⟨rfl,rfl⟩:=hg
    simp only [Bool.and_eq_true,decide_eq_true_eq] at hc
    obtain ⟨⟨h3,h4⟩,h5⟩:=hc
    obtain ⟨l',rfl⟩:=Int.eq_ofNat_of_zero_le h3
    obtain ⟨c',rfl⟩:=Int.eq_ofNat_of_zero_le (Int.le_trans h3 h4)
    have h6:Nat.ble l' c' = true:=Nat.ble_eq_true_of_le (by omega)
    have hs:∀ v ∈ List.replicate c' z,v.cells.size=n:=fun v hv=>by rw [List.eq_of_mem_replicate hv]; exact hz
    have hlen:(bc (List.replicate c' z)).length=c' * n:=by rw [eT hs,List.length_replicate]
    have YC:∀ m,cu [K.eD (a6 P T) (eG z)] m=List.replicate m (K.eD (a6 P T) (eG z)):=fun m=>by
      induction m with
      | zero=>rfl
      | succ m ih=>simp [cu,ih,List.replicate_succ]
    have hX:=ck.LQ (P:=P) (X:=fun _=>False) (G:=fun _=>False) (y2:=B.next) (N2:=c') (T:=T) (kx:=cu [K.eD (a6 P T) (eG z)] c') (db:=fun _=>K.eD (a6 P T) (eG z)) (w6:=List.replicate c' z) (gP:=bc (List.replicate c' z)) (mg:=none) (A1:=A) (B':=B.new (.row (bc (List.replicate c' z)) n true none)) h rfl (fun _ _ e=>.inl e) (fun _ _ _ _ _ _ _=>⟨id,fun _ _ _ _ _ _=>id⟩) (fun _ e=>e.elim) (fun _ e=>e.elim) (.inr (Nat.le_refl _)) (by simp) (by simp [hn]) (fun _ _ e=>by simp at e)
      (fun y hy _=>.inl (by rw [St.bR,if_neg (by omega)])) (fun _ e=>e.elim) (fun q y hy=>.inl (by simpa using hy)) (fun q _=>by simp) (by simp) (fun g hg=>by rw [St.gF]; exact h.fresh g (by rw [St.bz] at hg; omega)) (fun g y hy=>by rw [St.gF] at hy; rw [St.bz]; have:=h.mem g y hy; omega)
      (by omega) ⟨by rw [YC]; simp,fun i hi=>by rw [YC,List.getD_eq_getElem?_getD,List.getElem?_replicate,if_pos hi]; rfl,by
        rw [YC]
        exact lg fun i x hx=>by rw [List.getElem?_replicate] at hx; split at hx <;> simp at hx; subst hx; exact he⟩ (by
        rw [YC]
        generalize c' = m
        induction m with
        | zero=>exact .nil
        | succ m ih=>exact .cons (VK.eG z).eD ih) (by rw [hn]; exact jt hs)
    refine ⟨.row (dz z.cells.toList c') n true none,fun k=>.slice (some ⟨k,0,none⟩) l' c',E.w9 A.next (B.next,(bc (List.replicate c' z)).length,c'),?_,?_,?_⟩
    · have h5:Nat.ble (b * c') 281474976710656=true:=h5
      show cond (Nat.ble l' c' && Nat.ble (b * c') 281474976710656) _ _=_
      rw [h6,h5]
      rfl
    · exact aaC Env.uX (by omega) (by show l'≤c'; omega) (by rw [hn,hlen])
    · rw [CR]; exact hX
  · exact hg.elim
theorem OK {sz:Nat} {cs:List Value} {xs ys:List Value} (h:jQ sz 0 cs xs) (k:jQ sz (xs.length * sz) cs ys):jQ sz 0 cs (xs ++ ys):=fun i x hi=>by
  by_cases aY:i < xs.length
  · rw [List.getElem?_append_left aY] at hi; exact h i x hi
  · rw [List.getElem?_append_right (by omega)] at hi
    obtain ⟨h1,h2⟩:=k _ x hi
    refine ⟨h1,fun j y hy=>?_⟩
    rw [← h2 j y hy]
    congr 1
    have:i * sz=xs.length * sz+(i - xs.length) * sz:=by rw [← Nat.add_mul]; congr 1; omega
    omega
theorem Qv {sz o:Nat} {cs r news:List Value} (hs:∀ v ∈ news,v.cells.size=sz) (hw:dr (o * sz) cs (bc news)=some r):jQ sz (o * sz) r news:=fun i x hi=>by
  have AY:=jt hs i x hi
  have hlen:=eT hs
  obtain ⟨_,_,h3⟩:=eJ hw
  refine ⟨AY.1,fun k y hy=>?_⟩
  have h4:=AY.2 k y hy
  rw [Nat.zero_add] at h4
  rw [h3,if_pos ⟨by omega,by have:=(List.getElem?_eq_some_iff.1 h4).1; omega⟩,← h4]
  congr 1
  omega
theorem TU {sz o:Nat} {cs r vs es:List Value} (hl:jQ sz 0 cs es) (ho:es.length≤o) (hw:dr (o * sz) cs vs=some r) (_:1≤sz):jQ sz 0 r es:=fun i x hi=>by
  obtain ⟨h1,h2⟩:=hl i x hi
  obtain ⟨_,_,h3⟩:=eJ hw
  refine ⟨h1,fun k y hy=>?_⟩
  have hk:k < sz:=by have:=(Array.getElem?_eq_some_iff.1 hy).1; omega
  have KK:=(List.getElem?_eq_some_iff.1 hi).1
  have aY:0+i * sz+k < o * sz:=by
    have:(i+1) * sz≤o * sz:=Nat.mul_le_mul_right _ (by omega)
    rw [Nat.add_mul] at this
    omega
  rw [h3,if_neg (by omega)]
  exact h2 k y hy
theorem acw {A:ak} {B:St} {f:Nat} {o0:gx} (h:eh P E A B) (hA:A.get f=some o0):∀ c o,(A.put f .dead).get c=some o→A.get c=some o∨(o = .dead∧c < A.next):=fun c o hc=>by
  rw [ak.bt] at hc
  split at hc
  · rename_i e; simp at hc; subst hc e; exact .inr ⟨rfl,h.live _ _ hA⟩
  · exact .inl hc
theorem LR {B:St} {g k:Nat} {c:List Value} {n:Nat} (_:g≤B.next):(∀ x,(B.grow g k c n).get x=if x=B.next then some (.row c n true (some (g,k))) else B.get x)∧(∀ q,(B.grow g k c n).members q=if q=g then B.next :: B.members g else B.members q)∧(B.grow g k c n).next=B.next+1:=
  ⟨fun x=>by simp [St.grow],fun q=>by simp [St.grow,St.vp],rfl⟩
theorem TV {e b:Nat} {E:Env} {A A' : ak} {B:St} {x v:KV} {u w:Value} {e' : TypeId} {mk:Mk} {k:Nat} {new:List KV} {acc:Nat→KV} (n7:1≤aL P e) (h:eh P E A B) (h1:VK P E x u)
    (V8:Nat.beq e e' = true→∃ aU,Src P E B e' k new acc w aU) (hg:aE (xE e b A [x,.ts e' mk k new acc]) (v,A')):∃ r B' E',hZ (aL P e) b B [u,w] = some (r,B')∧VK P E' v r∧ck P E A B E' A' B':=by
  have put:∀ (A1:ak) (m:Nat) (base:List KV) (ab:Nat→KV) (more:Bool) (A2:ak) (v:KV),aE (R9 e b m base ab A1 k new acc more) (v,A2)→
      (more=true∧Nat.ble ((m+k+512) * b) 17592186044416=true∧Nat.ble (m+k) 17592186044416=true)∧v = .al e A1.next 0 (m+k)∧A2=A1.new (.arr (.ts e .any (m+k) (base ++ new) (cM m ab acc))):=by
    intro A1 m base ab more A2 v hp
    obtain ⟨hc,hp⟩:=aE.il hp
    simp only [ads,Bool.and_eq_true] at hc
    simp only [Prod.mk.injEq] at hp
    exact ⟨⟨hc.1,hc.2.1,hc.2.2⟩,hp.1.symm,hp.2.symm⟩
  have nil:∀ (A1:ak) (base:List KV) (ab:Nat→KV),base = []→A1.next=A.next→(∀ c o,A1.get c=some o→A.get c=some o∨(o = .dead∧c < A.next))→(∃ aU,Src P E B e k new acc w aU)→Nat.ble ((0+k+512) * b) 17592186044416=true→Nat.ble (0+k) 17592186044416=true→
      ∃ r B' E',hZ (aL P e) b B [.slice none 0 0,w] = some (r,B')∧VK P E' (.al e A.next 0 (0+k)) r∧ck P E A B E' (A1.new (.arr (.ts e .any (0+k) (base ++ new) (cM 0 ab acc)))) B':=by
    intro A1 base ab TS SM SZ ⟨bB,fW⟩ wI oM
    subst TS
    have hj:eL P e (0+k) ([] ++ new) (cM 0 ab acc):=(eL.none (P:=P) (T:=e) (g:=ab)).join fW.tree
    cases k with
    | zero=>
      have lQ:new = []:=List.length_eq_zero_iff.1 fW.tree.len.symm
      subst lQ
      refine ⟨.slice none 0 0,B,E,?_,.LI (.inl ⟨rfl,rfl,rfl⟩),ck.ahP h SM SZ n7⟩
      simp only [hZ,fW.len,Option.bind_some,fW.all]
      rfl
    | succ k=>
      obtain ⟨g1,g2,g3⟩:=LR (B:=B) (g:=B.next) (k:=0) (c:=bc bB) (n:=aL P e) (Nat.le_refl _)
      have hlen:(bc bB).length=(k+1) * aL P e:=by rw [eT fW.size,fW.length]
      refine ⟨.slice (some ⟨B.next,0,none⟩) (k+1) (k+1),B.grow B.next 0 (bc bB) (aL P e),E.w9 A.next (B.next,(bc bB).length,0+(k+1)),?_,?_,?_⟩
      · simp only [Nat.zero_add] at wI oM
        simp only [hZ,fW.len,Option.bind_some,Nat.zero_add]
        rw [show Nat.ble (k+1) 0=false from rfl,cond_false,wI,oM,fW.all]
        rfl
      · rw [Nat.zero_add]; exact aaC Env.uX (Nat.le_refl _) (by omega) (by rw [hlen])
      · generalize B.grow B.next 0 (bc bB) (aL P e)=B' at g1 g2 g3
        exact ck.LQ (X:=fun _=>False) (G:=fun _=>False) (y2:=B.next) (mg:=some (B.next,0)) h SM SZ (fun _ _ _ _ _ _ _=>⟨id,fun _ _ _ _ _ _=>id⟩) (fun _ e=>e.elim) (fun _ e=>e.elim) (.inr (Nat.le_refl _)) (by omega) (by rw [g1,if_pos rfl]) (fun g k e=>by simp at e; exact .inr (by omega))
          (fun y hy _=>.inl (by rw [g1,if_neg (by omega)])) (fun _ e=>e.elim) (fun q y hy=>by
            rw [g2] at hy
            split at hy
            · rename_i e
              subst e
              rcases List.mem_cons.1 hy with hy | hy
              · exact .inr ⟨hy,Nat.le_refl _,0,rfl⟩
              · exact .inl hy
            · exact .inl hy) (fun q hq=>by rw [g2,if_neg (fun e=>hq 0 (by rw [e]))]) (by omega) (fun g hg=>by rw [g2,if_neg (by omega)]; exact h.fresh g (by omega)) (fun g y hy=>by
            rw [g2] at hy
            split at hy
            · rcases List.mem_cons.1 hy with hy | hy
              · omega
              · have:=h.mem _ y hy; omega
            · have:=h.mem g y hy; omega) n7 hj (by simpa using fW.rel) (jt fW.size)
  unfold xE at hg
  split at hg
  · rename_i e9 mk9 k9 adE adF heq
    simp only [List.cons.injEq,KV.ts.injEq,and_true] at heq
    obtain ⟨rfl,rfl,rfl,rfl,rfl,rfl⟩:=heq
    have:=h1.jI; subst this
    obtain ⟨he,CS⟩:=hg.cond
    have fW:=V8 he
    have:=Nat.eq_of_beq_eq_true he
    subst this
    obtain ⟨⟨_,wI,oM⟩,rfl,rfl⟩:=put _ _ _ _ _ _ _ CS
    exact nil A [] jP rfl rfl (fun _ _ e=>.inl e) fW wI oM
  · rename_i e1 f o n e9 mk9 k9 adE adF heq
    simp only [List.cons.injEq,KV.ts.injEq,and_true] at heq
    obtain ⟨rfl,rfl,rfl,rfl,rfl,rfl⟩:=heq
    split at hg
    · rename_i e2 mk2 N es ac hf
      obtain ⟨he,CS⟩:=hg.cond
      simp only [Bool.and_eq_true] at he
      obtain ⟨bB,fW⟩:=V8 he.1.1
      have:=Nat.eq_of_beq_eq_true he.1.1
      subst this
      have:=Nat.eq_of_beq_eq_true he.1.2
      subst this
      have:=Nat.eq_of_beq_eq_true he.2
      subst this
      obtain ⟨⟨ho,wI,oM⟩,rfl,rfl⟩:=put _ _ _ _ _ _ _ CS
      have:=Nat.eq_of_beq_eq_true ho
      subst this
      have CU:=acw h hf
      rcases h1.qT with ⟨rfl,_,rfl⟩ | ⟨x,L,N0,c,h2,rfl,h3,h4,h5⟩
      · exact nil (A.put f .dead) (es.take 0) ac (by simp) rfl CU ⟨bB,fW⟩ wI oM
      · obtain ⟨T2,N2,kx,db,e2,ht,_,qg⟩:=h.ar.arr f _ hf
        simp only [KV.ts.injEq] at e2
        obtain ⟨rfl,rfl,rfl,rfl,rfl⟩:=e2
        rcases qg with ⟨_,e2⟩ | ⟨x2,cs,a9,aU,e2,h6,h7,h8⟩
        · rw [h2] at e2; simp at e2
        rw [h2] at e2
        simp only [Option.some.injEq,Prod.mk.injEq] at e2
        obtain ⟨rfl,rfl,rfl⟩:=e2
        have m5:AR A E x:=⟨f,_,_,_,hf,h2⟩
        have hxlt:x < B.next:=h.yY m5
        have acs:aU.length=N0:=by rw [h7.length]; exact ht.len.symm
        have hs:=j1 ht.typed h7
        have htk:eL P e n (es.take n) ac:=⟨by rw [List.length_take,← ht.len]; omega,fun i hi=>by rw [ht.acc i (by omega),List.getD_eq_getElem?_getD,List.getD_eq_getElem?_getD,List.getElem?_take,if_pos hi],lg fun i x hi=>by
          rw [List.getElem?_take] at hi
          split at hi
          · exact fP ht.typed hi
          · simp at hi⟩
        have hj:=htk.join fW.tree
        have A8:(aU.take n).length=n:=by rw [List.length_take]; omega
        have akc:∀ v ∈ aU.take n,v.cells.size=aL P e:=fun v hv=>(hs v (List.mem_of_mem_take hv)).1
        have sm:=(h7.take n).append fW.rel
        have h5:c * aL P e=cs.length:=by simpa using h5
        have kG:∀ c v,(A.put f .dead).get c=some (.arr v)→c≠f∧A.get c=some (.arr v):=fun c v hc=>by
          rw [ak.bt] at hc
          split at hc
          · simp at hc
          · rename_i e; exact ⟨e,hc⟩
        have hf1:∀ c v,(A.put f .dead).get c=some (.arr v)→∀ y L N,E.α c=some (y,L,N)→¬ (y=x)∧∀ jY e1 own g k1,B.get y=some (.row jY e1 own (some (g,k1)))→¬ (∃ k,a9=some (g,k)):=fun c v hc y L N hy=>by
          obtain ⟨bo,hc⟩:=kG c v hc
          refine ⟨fun e=>bo (h.ar.inj c f v _ x L N _ _ hc hf (by rw [← e]; exact hy) h2),fun jY e1 own g k1 hr ⟨k2,hk⟩=>?_⟩
          rw [hk] at h6
          exact bo (h.ar.oH c f v _ y x L N _ _ _ _ _ g k1 _ _ _ k2 hc hf hy h2 hr h6)
        have hf3:∀ g,(∃ k,a9=some (g,k))→AF A E B g∧g < B.next∧(∀ f,E.φ f≠some g)∧∀ y ∈ B.members g,¬ (y=x)→E.z y=none∧¬ AR A E y∧∀ c,E.κ c≠some y:=fun g ⟨k2,hk⟩=>by
          rw [hk] at h6
          obtain ⟨q1,q2,q3⟩:=h.ar.nC f _ x _ _ _ _ _ g k2 hf h2 h6
          exact ⟨⟨f,_,x,_,_,_,_,_,k2,hf,h2,h6⟩,q1,q2,fun y hy bo=>q3 y hy bo⟩
        have ahQ:bA (⟨x,0 * aL P e,none⟩:Addr)=true:=rfl
        by_cases j8:n+k≤c
        ·
          have hle:n * aL P e+(bc bB).length≤cs.length:=by
            rw [eT fW.size,fW.length,← h5,← Nat.add_mul]
            exact Nat.mul_le_mul_right _ j8
          obtain ⟨gP,hw⟩:=ti (n * aL P e) cs (bc bB) hle
          have Lo:gP.length=cs.length:=(eJ hw).1
          have HI:(bc bB).all scalar=true:=List.all_eq_true.2 (vw fun v hv=>(j1 fW.tree.typed fW.rel v hv).2)
          have hb:Nat.ble (n+k) c=true:=Nat.ble_eq_true_of_le j8
          refine ⟨.slice (some ⟨x,0 * aL P e,none⟩) (n+k) c,(B.put x (.row gP (aL P e) true a9)).cl x a9 (n * aL P e) (n * aL P e+(bc bB).length),E.w9 A.next (x,gP.length,n+k),?_,?_,?_⟩
          · simp only [hZ,fW.len,Option.bind_some,hb,cond_true,fW.all,ahQ]
            simp only [St.pg,bA,Option.isNone_none,Bool.true_and,HI,cond_true,Nat.zero_mul,Nat.zero_add,h6,hw,Option.map_some]
          · rw [Nat.zero_mul]; exact aaC Env.uX j8 (Nat.le_refl _) (by rw [Lo]; exact h5)
          · have dy:((B.put x (.row gP (aL P e) true a9)).cl x a9 (n * aL P e) (n * aL P e+(bc bB).length)).get x=some (.row gP (aL P e) true a9):=by
              rcases xo (B:=B.put x (.row gP (aL P e) true a9)) (x:=x) (y:=x) (lo:=n * aL P e) (hi:=n * aL P e+(bc bB).length) (a9:=a9) with e | ⟨g,k,_,_,h3,_⟩
              · rw [e]; simp
              · exact absurd rfl h3
            have hgy:∀ y,y≠x→((B.put x (.row gP (aL P e) true a9)).cl x a9 (n * aL P e) (n * aL P e+(bc bB).length)).get y=B.get y∨(((B.put x (.row gP (aL P e) true a9)).cl x a9 (n * aL P e) (n * aL P e+(bc bB).length)).get y=some .dead∧∃ g,(∃ k,a9=some (g,k))∧y ∈ B.members g):=by
              intro y hy
              rcases xo (B:=B.put x (.row gP (aL P e) true a9)) (x:=x) (y:=y) (lo:=n * aL P e) (hi:=n * aL P e+(bc bB).length) (a9:=a9) with e | ⟨g,k,h1,h2,_,h4,_⟩
              · exact .inl (by rw [e,St.bt,if_neg hy])
              · exact .inr ⟨h4,g,⟨k,h1⟩,by simpa using h2⟩
            have ig:((B.put x (.row gP (aL P e) true a9)).cl x a9 (n * aL P e) (n * aL P e+(bc bB).length)).members=B.members:=by rw [Bp]; simp
            have eN:((B.put x (.row gP (aL P e) true a9)).cl x a9 (n * aL P e) (n * aL P e+(bc bB).length)).next=B.next:=by rw [Iz]; simp
            generalize (B.put x (.row gP (aL P e) true a9)).cl x a9 (n * aL P e) (n * aL P e+(bc bB).length)=B' at dy hgy ig eN
            have hli:jQ (aL P e) 0 gP (aU.take n ++ bB):=OK (TU (h8.take n) (by omega) hw n7) (by rw [A8]; exact Qv fW.size hw)
            exact ck.LQ (A1:=A.put f .dead) (X:=fun y=>y=x) (G:=fun g=>∃ k,a9=some (g,k)) (y2:=x) (mg:=a9) h rfl CU hf1 (fun y hy=>by rw [hy]; exact m5) hf3 (.inl rfl) (by omega) dy (fun g k hk=>.inl ⟨k,hk⟩)
              (fun y _ bo=>hgy y bo) (fun y hy jY e1 own LP hr=>by
                rw [hy,dy] at hr
                simp at hr
                obtain ⟨rfl,rfl,rfl,rfl⟩:=hr
                rw [hy]
                exact ⟨cs,h6,Lo.symm⟩) (fun q y hy=>.inl (by rw [ig] at hy; exact hy)) (fun q _=>by rw [ig]) (by omega) (fun g hg=>by rw [ig]; exact h.fresh g (by omega)) (fun g y hy=>by rw [ig] at hy; rw [eN]; exact h.mem g y hy) n7 hj sm hli
        ·
          have hb:Nat.ble (n+k) c=false:=by
            cases hq:Nat.ble (n+k) c with
            | false=>rfl
            | true=>exact absurd (Nat.le_of_ble_eq_true hq) j8
          have hex:nL B (aL P e) c (some ⟨x,0 * aL P e,none⟩)=true:=by
            simp only [nL,h6]
            cases a9 with
            | none=>simp [h5]
            | some p=>rfl
          have hold:B.oJ ⟨x,0 * aL P e,none⟩ (n * aL P e)=some (bc (aU.take n)):=by
            have:=CV (B:=B) (b:=x) (off:=0) (n:=n) (sz:=aL P e) (r:=⟨cs,aL P e,true,a9⟩) (aU:=aU.take n) h6 (h8.take n) A8 n7
            simpa using this
          have acx:∀ v ∈ aU.take n ++ bB,v.cells.size=aL P e:=fun v hv=>by
            rcases List.mem_append.1 hv with hv | hv
            · exact akc v hv
            · exact fW.size v hv
          have hlen:(bc (aU.take n ++ bB)).length=(n+k) * aL P e:=by rw [eT acx,List.length_append,A8,fW.length]
          cases a9 with
          | none=>
            obtain ⟨g1,g2,g3⟩:=LR (B:=B) (g:=B.next) (k:=0) (c:=bc (aU.take n ++ bB)) (n:=aL P e) (Nat.le_refl _)
            refine ⟨.slice (some ⟨B.next,0,none⟩) (n+k) (n+k),B.grow B.next 0 (bc (aU.take n ++ bB)) (aL P e),E.w9 A.next (B.next,(bc (aU.take n ++ bB)).length,n+k),?_,?_,?_⟩
            · simp only [hZ,fW.len,Option.bind_some,hb,cond_false,wI,oM,hex,Bool.and_self,cond_true,fW.all]
              simp only [xN,bA,Option.isNone_none,cond_true,hold,Option.bind_some,h6,Nat.beq_refl,← qD]
            · exact aaC Env.uX (Nat.le_refl _) (Nat.le_refl _) (by rw [hlen])
            · generalize B.grow B.next 0 (bc (aU.take n ++ bB)) (aL P e)=B' at g1 g2 g3
              exact ck.LQ (A1:=A.put f .dead) (X:=fun _=>False) (G:=fun _=>False) (y2:=B.next) (mg:=some (B.next,0)) h rfl CU (fun _ _ _ _ _ _ _=>⟨id,fun _ _ _ _ _ _=>id⟩) (fun _ e=>e.elim) (fun _ e=>e.elim) (.inr (Nat.le_refl _)) (by omega) (by rw [g1,if_pos rfl]) (fun g k e=>by simp at e; exact .inr (by omega))
                (fun y hy _=>.inl (by rw [g1,if_neg (by omega)])) (fun _ e=>e.elim) (fun q y hy=>by
                  rw [g2] at hy
                  split at hy
                  · rename_i e
                    subst e
                    rcases List.mem_cons.1 hy with hy | hy
                    · exact .inr ⟨hy,Nat.le_refl _,0,rfl⟩
                    · exact .inl hy
                  · exact .inl hy) (fun q hq=>by rw [g2,if_neg (fun e=>hq 0 (by rw [e]))]) (by omega) (fun g hg=>by rw [g2,if_neg (by omega)]; exact h.fresh g (by omega)) (fun g y hy=>by
                  rw [g2] at hy
                  split at hy
                  · rcases List.mem_cons.1 hy with hy | hy
                    · omega
                    · have:=h.mem _ y hy; omega
                  · have:=h.mem g y hy; omega) n7 hj sm (jt acx)
          | some p=>
            obtain ⟨g,k0⟩:=p
            have hgB:g < B.next:=(hf3 g ⟨k0,rfl⟩).2.1
            have kg:∀ y,(B.kill B.next (k0+(0+n * aL P e)) (k0+(0+n * aL P e)+(bc bB).length) (B.members g)).get y=B.get y∨((B.kill B.next (k0+(0+n * aL P e)) (k0+(0+n * aL P e)+(bc bB).length) (B.members g)).get y=some .dead∧y ∈ B.members g):=fun y=>by
              rw [uH]
              by_cases hc:y ∈ B.members g∧y≠B.next∧lG (B.get y) (k0+(0+n * aL P e)) (k0+(0+n * aL P e)+(bc bB).length)=true
              · exact .inr ⟨by rw [if_pos hc],hc.1⟩
              · exact .inl (by rw [if_neg hc])
            have km:(B.kill B.next (k0+(0+n * aL P e)) (k0+(0+n * aL P e)+(bc bB).length) (B.members g)).members=B.members:=by simp
            have kn:(B.kill B.next (k0+(0+n * aL P e)) (k0+(0+n * aL P e)+(bc bB).length) (B.members g)).next=B.next:=by simp
            obtain ⟨g1,g2,g3⟩:=LR (B:=B.kill B.next (k0+(0+n * aL P e)) (k0+(0+n * aL P e)+(bc bB).length) (B.members g)) (g:=g) (k:=k0+0) (c:=bc (aU.take n ++ bB)) (n:=aL P e) (by omega)
            rw [kn] at g3
            have g1:∀ y,y≠B.next→_:=fun y hy=>(g1 y).trans (if_neg (by rw [kn]; exact hy))
            have g1':=(LR (B:=B.kill B.next (k0+(0+n * aL P e)) (k0+(0+n * aL P e)+(bc bB).length) (B.members g)) (g:=g) (k:=k0+0) (c:=bc (aU.take n ++ bB)) (n:=aL P e) (by omega)).1 B.next
            rw [kn,if_pos rfl] at g1'
            simp only [km,kn] at g2
            refine ⟨.slice (some ⟨B.next,0,none⟩) (n+k) (n+k),(B.kill B.next (k0+(0+n * aL P e)) (k0+(0+n * aL P e)+(bc bB).length) (B.members g)).grow g (k0+0) (bc (aU.take n ++ bB)) (aL P e),E.w9 A.next (B.next,(bc (aU.take n ++ bB)).length,n+k),?_,?_,?_⟩
            · simp only [hZ,fW.len,Option.bind_some,hb,cond_false,wI,oM,hex,Bool.and_self,cond_true,fW.all]
              have YA:=hold
              rw [Nat.zero_mul] at YA
              simp only [xN,bA,Option.isNone_none,cond_true,Nat.zero_mul,YA,Option.bind_some,h6,Nat.beq_refl,← qD]
            · exact aaC Env.uX (Nat.le_refl _) (Nat.le_refl _) (by rw [hlen])
            · generalize (B.kill B.next (k0+(0+n * aL P e)) (k0+(0+n * aL P e)+(bc bB).length) (B.members g)).grow g (k0+0) (bc (aU.take n ++ bB)) (aL P e)=B' at g1 g1' g2 g3
              have gy:∀ y,y≠B.next→B'.get y=B.get y∨(B'.get y=some .dead∧y ∈ B.members g):=fun y hy=>by
                rw [g1 y hy]; exact kg y
              exact ck.LQ (A1:=A.put f .dead) (X:=fun y=>y=x) (G:=fun q=>∃ k,some (g,k0)=some (q,k)) (y2:=B.next) (mg:=some (g,k0+0)) h rfl CU hf1 (fun y hy=>by rw [hy]; exact m5) hf3 (.inr (Nat.le_refl _)) (by omega) g1' (fun q k e=>by simp at e; exact .inl ⟨k0,by rw [e.1]⟩)
                (fun y hy _=>(gy y (by omega)).imp id fun ⟨q1,q2⟩=>⟨q1,g,⟨k0,rfl⟩,q2⟩) (fun y hy jY e1 own LP hr=>by
                  have hy:y=x:=hy
                  rcases gy y (by omega) with q | ⟨q,_⟩
                  · rw [q] at hr; exact ⟨jY,hr,rfl⟩
                  · rw [q] at hr; simp at hr) (fun q y hy=>by
                  rw [g2] at hy
                  split at hy
                  · rename_i e
                    subst e
                    rcases List.mem_cons.1 hy with hy | hy
                    · exact .inr ⟨hy,Nat.le_refl _,k0+0,rfl⟩
                    · exact .inl hy
                  · exact .inl hy) (fun q hq=>by rw [g2,if_neg (fun e=>hq (k0+0) (by rw [e]))]) (by omega) (fun q hq=>by rw [g2,if_neg (by omega)]; exact h.fresh q (by omega)) (fun q y hy=>by
                  rw [g2] at hy
                  split at hy
                  · rcases List.mem_cons.1 hy with hy | hy
                    · omega
                    · have:=h.mem _ y hy; omega
                  · have:=h.mem q y hy; omega) n7 hj sm (jt acx)
    · exact hg.elim
  · exact hg.elim
theorem ck.ai8 {A:ak} {B:St} {b:Nat} {v2:KV} (h:eh P E A B) (hb:∃ v,A.get b=some (.arr v)) (bH:Ts P E B b v2):ck P E A B E (A.put b (.arr v2)) B:=by
  obtain ⟨v0,hb⟩:=hb
  have iR:∀ c o,(A.put b (.arr v2)).get c=some o→(c=b∧o = .arr v2)∨A.get c=some o:=fun c o hc=>by
    rw [ak.bt] at hc
    split at hc
    · rename_i e; simp at hc; exact .inl ⟨e,hc.symm⟩
    · exact .inr hc
  have hA:∀ c v,(A.put b (.arr v2)).get c=some (.arr v)→∃ u,A.get c=some (.arr u):=fun c v hc=>by
    rcases iR c _ hc with ⟨e,_⟩ | e
    · exact ⟨v0,by rw [e]; exact hb⟩
    · exact ⟨v,e⟩
  have m5:∀ y,AR (A.put b (.arr v2)) E y→AR A E y:=fun y ⟨c,v,L,N,h1,h2⟩=>by
    obtain ⟨u,hu⟩:=hA c v h1
    exact ⟨c,u,L,N,hu,h2⟩
  have CW:∀ g,AF (A.put b (.arr v2)) E B g→AF A E B g:=fun g ⟨c,v,x,L,N,cs,e,own,k,h1,h2,h3⟩=>by
    obtain ⟨u,hu⟩:=hA c v h1
    exact ⟨c,u,x,L,N,cs,e,own,k,hu,h2,h3⟩
  refine ⟨⟨fun c cs a8 hc=>?_,fun c top sz hc=>?_,h.z,h.apart,h.inj,?_,h.eS,h.jq,fun c o hc=>?_,h.dT,h.jr,h.fV,h.fresh,h.mem,?_⟩,Env.le_refl _,Nat.le_refl _,fun _ _ _ _=>rfl,fun _ _ e=>.inl e,fun _ _ e=>.inl e,fun _ _ e=>.inl e,fun _ _ _ _=>rfl,fun x q=>.inl (m5 x q),fun g q=>.inl (CW g q),fun _ _ q=>.inl q,fun y q=>.inl (q.imp (m5 y) fun ⟨g,q1,q2⟩=>⟨g,CW g q1,q2⟩),iZ fun _ _=>rfl⟩
  · rcases iR c _ hc with ⟨_,e⟩ | e
    · simp at e
    · exact h.row c cs a8 e
  · rcases iR c _ hc with ⟨_,e⟩ | e
    · simp at e
    · exact h.aJ c top sz e
  · exact h.fO.put (.inl fun t s=>by simp)
  · rw [ak.uG]
    rcases iR c _ hc with ⟨e,_⟩ | e
    · rw [e]; exact h.live b _ hb
    · exact h.live c o e
  · refine ⟨fun c v hc=>?_,fun c v hc=>?_,fun x q=>h.ar.z x (m5 x q),fun c d v u x L N L' N' h1 h2 h3 h4=>?_,fun c d v u x y L N L' N' cs e own g k bk e' k8 k' h1 h2 h3 h4=>?_,h.ar.V2,h.ar.eS,h.ar.dT,fun c v x L N cs e own g k h1 h2 h3=>?_⟩
    · rcases iR c _ hc with ⟨e,e2⟩ | e
      · simp at e2; rw [e2,e]; exact bH
      · exact h.ar.arr c v e
    · rcases iR c _ hc with ⟨_,e⟩ | e
      · simp at e
      · exact h.ar.fB c v e
    · obtain ⟨v',h1⟩:=hA c v h1
      obtain ⟨u',h2⟩:=hA d u h2
      exact h.ar.inj c d v' u' x L N L' N' h1 h2 h3 h4
    · obtain ⟨v',h1⟩:=hA c v h1
      obtain ⟨u',h2⟩:=hA d u h2
      exact h.ar.oH c d v' u' x y L N L' N' cs e own g k bk e' k8 k' h1 h2 h3 h4
    · obtain ⟨v',h1⟩:=hA c v h1
      obtain ⟨q1,q2,q3⟩:=h.ar.nC c v' x L N cs e own g k h1 h2 h3
      exact ⟨q1,q2,fun y hy bo=>⟨(q3 y hy bo).1,fun q=>(q3 y hy bo).2.1 (m5 y q),(q3 y hy bo).2.2⟩⟩
theorem TW {es new:List KV} {o:Nat} (h:o+new.length≤es.length):(tf es o new).length=es.length:=by
  simp only [tf,List.length_append,List.length_take,List.length_drop]
  omega
theorem aaE {es new:List KV} {o i:Nat} (h:o+new.length≤es.length):(tf es o new)[i]? = if i < o then es[i]? else if i < o+new.length then new[i - o]? else es[i]?:=by
  unfold tf
  by_cases h1:i < o
  · rw [if_pos h1,List.append_assoc,List.getElem?_append_left (by rw [List.length_take]; omega),List.getElem?_take,if_pos h1]
  · rw [if_neg h1]
    by_cases h2:i < o+new.length
    · rw [if_pos h2,List.getElem?_append_left (by rw [List.length_append,List.length_take]; omega),List.getElem?_append_right (by rw [List.length_take]; omega),List.length_take]
      congr 1
      omega
    · rw [if_neg h2,List.getElem?_append_right (by rw [List.length_append,List.length_take]; omega),List.getElem?_drop,List.length_append,List.length_take]
      congr 1
      omega
theorem W9 {T:TypeId} {N m o k:Nat} {es new:List KV} {acc an:Nat→KV} (ht:eL P T N es acc) (hn:eL P T m new an) (hk:k≤m) (ho:o+k≤N):eL P T N (tf es o (new.take k)) (gm o k acc an):=by
  have hl:(new.take k).length=k:=by rw [List.length_take,← hn.len]; omega
  have j8:o+(new.take k).length≤es.length:=by rw [hl,← ht.len]; exact ho
  have eM:=fun i=>aaE (i:=i) j8
  rw [hl] at eM
  refine ⟨by rw [TW j8]; exact ht.len,fun i hi=>?_,lg fun i x hx=>?_⟩
  · rw [List.getD_eq_getElem?_getD,eM]
    unfold gm
    by_cases h1:i < o
    · rw [if_pos h1,show Nat.blt i o=true from Nat.blt_eq ▸ h1,cond_true,ht.acc i hi,List.getD_eq_getElem?_getD]
    · have e1:Nat.blt i o=false:=by
        cases hb:Nat.blt i o with
        | false=>rfl
        | true=>exact absurd (Nat.blt_eq ▸ hb) h1
      rw [if_neg h1,e1,cond_false]
      by_cases h2:i < o+k
      · rw [if_pos h2,show Nat.blt i (o+k)=true from Nat.blt_eq ▸ h2,cond_true,List.getElem?_take,if_pos (by omega),hn.acc (i - o) (by omega),List.getD_eq_getElem?_getD]
      · have e2:Nat.blt i (o+k)=false:=by
          cases hb:Nat.blt i (o+k) with
          | false=>rfl
          | true=>exact absurd (Nat.blt_eq ▸ hb) h2
        rw [if_neg h2,e2,cond_false,ht.acc i hi,List.getD_eq_getElem?_getD]
  · rw [eM] at hx
    split at hx
    · exact fP ht.typed hx
    · split at hx
      · rw [List.getElem?_take] at hx
        split at hx
        · exact fP hn.typed hx
        · simp at hx
      · exact fP ht.typed hx
theorem aaF {sz o:Nat} {cs r vs es:List Value} (hl:jQ sz (o * sz+vs.length) cs es) (hw:dr (o * sz) cs vs=some r):jQ sz (o * sz+vs.length) r es:=fun i x hi=>by
  obtain ⟨h1,h2⟩:=hl i x hi
  obtain ⟨_,_,h3⟩:=eJ hw
  exact ⟨h1,fun k y hy=>by rw [h3,if_neg (by omega)]; exact h2 k y hy⟩
theorem af5 {e n:Nat} (hn:aL P e=n) (h1n:1≤n):adx P (acg e) (Sm n):=by
  intro E A A' B vs us v h hv hg
  unfold acg at hg
  split at hg
  · rename_i e1 b o q y
    obtain ⟨u,w,rfl,h1,h2⟩:=hv.gW
    split at hg
    · rename_i e' mk m new an e2 mk2 N es acc hy hb
      obtain ⟨he,Bb⟩:=hg.cond
      clear hg
      simp only [Bool.and_eq_true] at he
      have:=Nat.eq_of_beq_eq_true he.1.1
      subst this
      have:=Nat.eq_of_beq_eq_true he.1.2
      subst this
      have:=Nat.eq_of_beq_eq_true he.2
      subst this
      have n7:1≤aL P e:=by omega
      obtain ⟨bB,fW⟩:=adD h h2 hy n7
      have Bb:(KV.int .i64 (Nat.min m q:Nat),A.put b (.arr (.ts e .any N (tf es o (new.take (Nat.min m q))) (gm o (Nat.min m q) acc an))))=(v,A'):=Bb
      simp only [Prod.mk.injEq] at Bb
      obtain ⟨rfl,rfl⟩:=Bb
      obtain ⟨T2,N2,kx,db,e2,ht,_,qg⟩:=h.ar.arr b _ hb
      simp only [KV.ts.injEq] at e2
      obtain ⟨rfl,rfl,rfl,rfl,rfl⟩:=e2
      have NV:Nat.min m q≤m:=Nat.min_le_left _ _
      have hkq:Nat.min m q≤q:=Nat.min_le_right _ _
      have hf:=fW.first _ NV
      rw [hn] at hf
      rcases h1.qT with ⟨rfl,rfl,rfl⟩ | ⟨x,L,N0,c,p2,rfl,p3,p4,p5⟩
      ·
        have yG:Nat.min m 0=0:=Nat.min_zero m
        refine ⟨.int .i64 (Int.ofNat (Nat.min m 0)),B,E,?_,.mkInt,ck.ai8 h ⟨_,hb⟩ ?_⟩
        · simp only [Sm,fW.len,Option.bind_some,hf]
        · have hp:=W9 (o:=0) ht fW.tree NV (by rw [yG]; omega)
          refine ⟨_,_,_,_,rfl,hp,n7,?_⟩
          have OJ:tf es 0 (new.take (Nat.min m 0))=es:=by rw [yG]; simp [tf]
          rw [OJ]
          exact qg
      · rcases qg with ⟨_,e2⟩ | ⟨x2,cs,a9,aU,e2,h6,h7,h8⟩
        · rw [p2] at e2; simp at e2
        rw [p2] at e2
        simp only [Option.some.injEq,Prod.mk.injEq] at e2
        obtain ⟨rfl,rfl,rfl⟩:=e2
        have acs:aU.length=N0:=by rw [h7.length]; exact ht.len.symm
        have hX:∀ v ∈ bB.take (Nat.min m q),v.cells.size=aL P e:=fun v hv=>fW.size v (List.mem_of_mem_take hv)
        have aiB:(bB.take (Nat.min m q)).length=Nat.min m q:=by rw [List.length_take,fW.length]; exact Nat.min_eq_left NV
        have AY:(bc (bB.take (Nat.min m q))).length=Nat.min m q * aL P e:=by rw [eT hX,aiB]
        have hle:o * aL P e+(bc (bB.take (Nat.min m q))).length≤cs.length:=by
          rw [AY,← p5,← Nat.add_mul]
          exact Nat.mul_le_mul_right _ (by omega)
        obtain ⟨gP,hw⟩:=ti (o * aL P e) cs (bc (bB.take (Nat.min m q))) hle
        have Lo:gP.length=cs.length:=(eJ hw).1
        have HI:(bc (bB.take (Nat.min m q))).all scalar=true:=List.all_eq_true.2 (vw fun v hv=>(j1 fW.tree.typed fW.rel v (List.mem_of_mem_take hv)).2)
        have hp:=W9 (o:=o) ht fW.tree NV (by omega)
        have hon:(aU.take o).length=o:=by rw [List.length_take]; omega
        have sm:aO P E (tf es o (new.take (Nat.min m q))) (aU.take o ++ bB.take (Nat.min m q) ++ aU.drop (o+Nat.min m q)):=by
          unfold tf
          have hlk:(new.take (Nat.min m q)).length=Nat.min m q:=by rw [List.length_take,← fW.tree.len]; exact Nat.min_eq_left NV
          rw [hlk]
          exact ((h7.take o).append (fW.rel.take _)).append (h7.drop _)
        have hli:jQ (aL P e) 0 gP (aU.take o ++ bB.take (Nat.min m q) ++ aU.drop (o+Nat.min m q)):=by
          refine OK (OK (TU (h8.take o) (by omega) hw n7) (by rw [hon]; exact Qv hX hw)) ?_
          have e3:(aU.take o ++ bB.take (Nat.min m q)).length * aL P e=o * aL P e+(bc (bB.take (Nat.min m q))).length:=by rw [List.length_append,hon,aiB,AY,Nat.add_mul]
          rw [e3]
          refine aaF ?_ hw
          have:=h8.drop (o+Nat.min m q)
          rw [Nat.zero_add,Nat.add_mul] at this
          rw [AY]
          exact this
        have hX:=ck.adA (lo:=o * aL P e) (hi:=o * aL P e+(bc (bB.take (Nat.min m q))).length) h ⟨_,hb⟩ p2 h6 Lo n7 hp sm hli
        refine ⟨.int .i64 (Int.ofNat (Nat.min m q)),_,E,?_,.mkInt,hX⟩
        subst hn
        simp only [Sm,fW.len,Option.bind_some,hf,St.pg,bA,Option.isNone_none,Bool.true_and,HI,cond_true,h6,hw,Option.map_some]
    · exact hg.elim
  · exact hg.elim
theorem aaG {e n b:Nat} {mt:Bool} (hn:aL P e=n) (h1n:1≤n):adx P (Bd e n b mt) (hZ n b):=by
  intro E A A' B vs us v h hv hg
  unfold Bd at hg
  split at hg
  · rename_i x y
    obtain ⟨u,w,rfl,h1,h2⟩:=hv.gW
    split at hg
    · rename_i y' hy
      have n7:1≤aL P e:=by omega
      have hts:∃ T m k es acc,y' = .ts T m k es acc:=by
        unfold Fo at hy
        split at hy
        · unfold Yi at hy
          split at hy
          · rename_i T' b' o' n' _ T2 _ _ kx db _
            cases hb:Nat.beq T' T2 with
            | false=>rw [hb] at hy; simp at hy
            | true=>rw [hb,cond_true] at hy; simp only [Option.some.injEq] at hy; exact ⟨_,_,_,_,_,hy.symm⟩
          · simp at hy
        · simp only [Option.some.injEq] at hy; exact ⟨_,_,_,_,_,hy.symm⟩
        · simp at hy
      obtain ⟨T,m,k,es,acc,rfl⟩:=hts
      have V8:Nat.beq e T=true→∃ aU,Src P E B T k es acc w aU:=fun he=>by
        have:=Nat.eq_of_beq_eq_true he
        subst this
        exact adD h h2 hy n7
      subst hn
      cases hx:afT x with
      | true=>rw [hx,cond_true] at hg; exact TV n7 h h1 V8 hg
      | false=>
        rw [hx,cond_false] at hg
        cases mt with
        | true=>rw [cond_true] at hg; exact TV n7 h h1 V8 hg
        | false=>rw [cond_false] at hg; exact acv rfl n7 h h1 V8 hg
    · exact hg.elim
  · exact hg.elim
end Go.K
end
section
namespace Go.K
open Go Go.aV
variable {P:Program}
theorem bT {o:Oper} : zP P o .bad:=trivial
theorem aeD (P:Program) (cfg:c9) (o:Oper):zP P o (bG P cfg o.op):=by
  cases ho:o.op with
  | move x=>exact lift_pure (by rw [ho]; rfl) aao
  | assign x=>exact lift_pure (by rw [ho]; rfl) aet
  | pick c a b=>exact lift_pure (by rw [ho]; rfl) afV
  | alloc t=>
    show zP P o (kd P t)
    unfold kd
    split
    · rename_i z hz
      cases hc:(flat z && z.cells.toList.all scalar && dV (eG z).cells) with
      | false=>exact bT
      | true=>
        simp only [Bool.and_eq_true] at hc
        exact xZ (by rw [ho]; rfl) (aez hz hc.1.1 hc.1.2 hc.2)
    · exact bT
  | box t x=>exact xZ (by rw [ho]; rfl) ahJ
  | build t parts=>
    show zP P o (mW P t (parts.toList.map (·.1)) (parts.toList.map (·.2)))
    have aG:compile P o.op=Az P t (parts.toList.map (·.1)) (parts.toList.map (·.2)):=by rw [ho]; rfl
    unfold mW
    unfold Az at aG
    split
    · rename_i z fields hz hu
      rw [hz,hu] at aG
      simp only at aG
      split
      · rename_i l hl
        rw [hl] at aG
        cases hc:(flat z && dV (eG z).cells) with
        | false=>exact bT
        | true=>
          simp only [Bool.and_eq_true] at hc
          exact lift_pure aG (W5 hc.1 hc.2)
      · exact bT
    · rename_i z len e hz hu
      rw [hz,hu] at aG
      simp only at aG
      split
      · rename_i n hn
        rw [hn] at aG
        cases hc:(flat z && dV (eG z).cells) with
        | false=>exact bT
        | true=>
          simp only [Bool.and_eq_true] at hc
          exact lift_pure aG (W5 hc.1 hc.2)
      · exact bT
    · exact bT
  | buildSlice t len parts=>
    show zP P o (gH P t len (parts.toList.map (·.1)) (parts.toList.map (·.2)))
    have aG:compile P o.op=oK P t len (parts.toList.map (·.1)) (parts.toList.map (·.2)):=by rw [ho]; rfl
    unfold gH
    unfold oK at aG
    split
    · rename_i e hu
      rw [hu] at aG
      simp only at aG
      split
      · rename_i i z hi hz
        have cA:size? P e=some i.size:=by simp [size?,hi]
        rw [cA,hz] at aG
        simp only at aG
        cases hc:(Nat.ble (len * i.size) 16777216 && Nat.beq z.cells.size i.size && Nat.ble 1 i.size && flat z && Nat.beq (a6 P e).ks.length i.size && xD len (parts.toList.map (·.1))) with
        | false=>exact bT
        | true=>
          simp only [Bool.and_eq_true] at hc
          obtain ⟨⟨⟨⟨⟨h1,h2⟩,h3⟩,h4⟩,h5⟩,h6⟩:=hc
          rw [h1,h2,h3,h4] at aG
          cases CA (a6 P e).ks with
          | true=>exact aey aG (V6 (Nat.eq_of_beq_eq_true h5) (Nat.le_of_ble_eq_true h3) (Nat.eq_of_beq_eq_true h2) h6)
          | false=>
            cases h7:dV (eG z).cells with
            | true=>exact xZ aG (Yt h7)
            | false=>exact bT
      · exact bT
    · exact bT
  | load t a=>exact CO (by rw [ho]; rfl) aaw
  | store t a x=>exact OE (by rw [ho]; rfl) aeC
  | nilCheck x=>exact lift_pure (by rw [ho]; rfl) ahG
  | binOp op t x y yt=>exact lift_pure (by rw [ho]; rfl) ahH
  | unOp op t x=>exact lift_pure (by rw [ho]; rfl) ai1
  | convert src dst x=>
    show zP P o (jX P src dst x)
    have aG:compile P o.op=vQ P src dst x:=by rw [ho]; rfl
    unfold jX
    unfold vQ at aG
    split
    · rename_i k k' hs hd
      rw [hs,hd] at aG
      exact lift_pure aG (aex hd hs)
    · rename_i hs hd
      rw [hs,hd] at aG
      exact lift_pure aG aew
    · rename_i e hs hd
      rw [hs,hd] at aG
      simp only at aG
      cases hb:isByte P e with
      | false=>exact bT
      | true=>rw [hb] at aG; exact CO aG Yw
    · rename_i e hs hd
      rw [hs,hd] at aG
      simp only at aG
      cases hb:isByte P e with
      | false=>exact bT
      | true=>rw [hb] at aG; exact acm aG (Yz hb)
    · exact bT
  | makeFunc fn first cap=>
    show zP P o (cond (qA fn) .bad (.pure (CE fn first.size) (first.toList ++ cap.toList)))
    cases hy:qA fn with
    | true=>exact bT
    | false=>
      have hn:xA fn=true:=by cases fn <;> first | rfl | simp [qA] at hy
      exact lift_pure (by rw [ho]; show cond (xA fn) _ _=_; rw [hn]; rfl) Yp
  | fieldAddr s x f=>
    show zP P o (im P s x f)
    have aG:compile P o.op=nN P s x f:=by rw [ho]; rfl
    unfold im
    unfold nN at aG
    split
    · rename_i fd hf
      rw [hf] at aG
      simp only at aG
      split
      · rename_i m hm
        rw [hm] at aG
        exact lift_pure aG (V3 rfl)
      · exact bT
    · exact bT
  | field t x f=>
    show zP P o (mX P t x f)
    have aG:compile P o.op=AG P t x f:=by rw [ho]; rfl
    unfold mX
    unfold AG at aG
    split
    · rename_i fd hf
      rw [hf] at aG
      exact lift_pure aG aeu
    · exact bT
  | indexAddr t x ix=>
    show zP P o (iq P t x ix)
    have aG:compile P o.op=nP P t x ix:=by rw [ho]; rfl
    unfold iq
    unfold nP at aG
    split
    · rename_i len e hu
      rw [hu] at aG
      simp only at aG
      split
      · rename_i n hn
        rw [hn] at aG
        exact lift_pure aG Ym
      · exact bT
    · rename_i e hu
      rw [hu] at aG
      simp only at aG
      split
      · rename_i n hn
        rw [hn] at aG
        exact lift_pure aG (aaq rfl)
      · exact bT
    · exact bT
  | index t x ix=>
    show zP P o (mZ P t x ix)
    have aG:compile P o.op=AH P t x ix:=by rw [ho]; rfl
    unfold mZ
    unfold AH at aG
    split
    · rename_i len e hu
      rw [hu] at aG
      simp only at aG
      split
      · rename_i n hn
        rw [hn] at aG
        exact lift_pure aG Yn
      · exact bT
    · rename_i hu
      rw [hu] at aG
      exact lift_pure aG Yo
    · exact bT
  | extract t i=>exact lift_pure (by rw [ho]; rfl) aas
  | slice t x lo hi mx=>
    show zP P o (m0 P t x lo hi mx)
    have aG:compile P o.op=AD P t x lo hi mx:=by rw [ho]; rfl
    unfold m0
    unfold AD at aG
    split
    · rename_i e hu
      rw [hu] at aG
      simp only at aG
      split
      · rename_i n hn
        rw [hn] at aG
        simp only at aG
        cases hc:(Nat.ble 1 n && mx.isNone) with
        | false=>exact bT
        | true=>
          simp only [Bool.and_eq_true] at hc
          rw [hc.1] at aG
          have Ra:mx=none:=Option.isNone_iff_eq_none.1 hc.2
          subst Ra
          simp only [cond_true,da,List.append_nil,Option.isSome_none] at aG
          exact CO aG (aaz (Nat.le_of_ble_eq_true hc.1))
      · exact bT
    · rename_i len e hu
      rw [hu] at aG
      simp only at aG
      split
      · rename_i n hn
        rw [hn] at aG
        simp only at aG
        cases hc:(Nat.ble 1 n && mx.isNone) with
        | false=>exact bT
        | true=>
          simp only [Bool.and_eq_true] at hc
          rw [hc.1] at aG
          have Ra:mx=none:=Option.isNone_iff_eq_none.1 hc.2
          subst Ra
          simp only [cond_true,da,List.append_nil,Option.isSome_none] at aG
          exact CO aG Yu
      · exact bT
    · rename_i hu
      rw [hu] at aG
      simp only at aG
      cases hc:mx.isNone with
      | false=>exact bT
      | true=>rw [hc] at aG; exact lift_pure aG Yv
    · exact bT
  | makeSlice t l c=>
    show zP P o (oT P cfg.x.mt t l c)
    have aG:compile P o.op=qq P t l c:=by rw [ho]; rfl
    unfold oT
    unfold qq at aG
    split
    · rename_i e hu
      rw [hu] at aG
      simp only at aG
      split
      · rename_i i hi
        rw [hi] at aG
        simp only at aG
        split
        · rename_i z hz
          rw [hz] at aG
          simp only at aG
          cases hmt:cfg.x.mt e with
          | true=>
            rw [cond_true]
            cases hc:(Nat.ble 1 i.size && Nat.ble 1 i.bytes && Nat.beq z.cells.size i.size && flat z && z.cells.toList.all scalar && Nat.beq (a6 P e).ks.length i.size && bX (a6 P e) (eD (a6 P e) (eG z))) with
            | false=>exact bT
            | true=>
              simp only [Bool.and_eq_true] at hc
              obtain ⟨⟨⟨⟨⟨⟨h1,h2⟩,h3⟩,h4⟩,h5⟩,h6⟩,h7⟩:=hc
              rw [h1,h2,h3,h4,h5] at aG
              exact xZ aG (aaD (Nat.eq_of_beq_eq_true h6) (Nat.le_of_ble_eq_true h1) (Nat.eq_of_beq_eq_true h3) h7)
          | false=>
          rw [cond_false]
          cases hc:(Nat.ble 1 i.size && Nat.ble 1 i.bytes && Nat.beq z.cells.size i.size && flat z && z.cells.toList.all scalar && dV (eG z).cells) with
          | false=>exact bT
          | true=>
            simp only [Bool.and_eq_true] at hc
            obtain ⟨⟨⟨⟨⟨h1,h2⟩,h3⟩,h4⟩,h5⟩,h6⟩:=hc
            rw [h1,h2,h3,h4,h5] at aG
            exact xZ aG (V4 h6)
        · exact bT
      · exact bT
    · exact bT
  | call c=>
    show zP P o (gV P cfg c)
    unfold gV
    split
    · split
      · cases cfg.x.fz <;> trivial
      · trivial
    · trivial
    · rename_i b hb
      obtain ⟨callee,args,argTypes⟩:=c
      simp only at hb
      subst hb
      have aG:compile P o.op=vR P b argTypes.toList args.toList:=by rw [ho]; rfl
      unfold tg
      unfold vR at aG
      split
      ·
        simp only at aG
        unfold Tl
        unfold KS at aG
        split
        · rename_i t ht
          rw [ht] at aG
          simp only at aG
          split
          · rename_i e hu
            rw [hu] at aG
            exact lift_pure aG aev
          · rename_i hu
            rw [hu] at aG
            exact lift_pure aG acj
          · exact bT
        · exact bT
      · simp only at aG
        exact lift_pure (f:=Bc false) aG TA
      · simp only at aG
        exact lift_pure (f:=Bc true) aG TA
      ·
        simp only at aG
        unfold yV
        unfold Cc at aG
        split
        · rename_i t u ht
          rw [ht] at aG
          simp only at aG
          split
          · rename_i e eu hu huu
            rw [hu] at aG
            simp only at aG
            split
            · rename_i i hi
              rw [hi] at aG
              simp only at aG
              split
              · rename_i z hz
                rw [hz] at aG
                simp only at aG
                cases hc:(Nat.ble 1 i.size && Nat.beq z.cells.size i.size && Nat.beq (a6 P e).ks.length i.size) with
                | false=>exact bT
                | true=>
                  simp only [Bool.and_eq_true] at hc
                  have akd:Cb P u=true:=by unfold Cb; rw [huu]
                  rw [hc.1.1,hc.1.2,akd] at aG
                  exact OE aG (aaG (Nat.eq_of_beq_eq_true hc.2) (Nat.le_of_ble_eq_true hc.1.1))
              · exact bT
            · exact bT
          · exact bT
        · exact bT
      ·
        simp only at aG
        show zP P o (Hm P argTypes.toList args.toList)
        unfold Hm
        unfold KQ at aG
        split
        · rename_i t u ht
          rw [ht] at aG
          simp only at aG
          split
          · rename_i e eu hu huu
            rw [hu] at aG
            simp only at aG
            split
            · rename_i n hn
              rw [hn] at aG
              simp only at aG
              cases hc:(Nat.ble 1 n && Nat.beq (a6 P e).ks.length n) with
              | false=>exact bT
              | true=>
                simp only [Bool.and_eq_true] at hc
                rw [hc.1] at aG
                exact OE aG (af5 (Nat.eq_of_beq_eq_true hc.2) (Nat.le_of_ble_eq_true hc.1))
            · exact bT
          · exact bT
        · exact bT
      · trivial
    · trivial
  | _=>trivial
end Go.K
end
section
namespace Go.K
open Go Go.aV
variable {P:Program} {E:Env}
theorem ck.adH {E1 E2:Env} {A A1 A2:ak} {B:St} (h:ck P E A B E1 A1 B) (k:ck P E1 A1 B E2 A2 B):ck P E A B E2 A2 B where
  cW:=k.cW
  le:=Env.le_trans h.le k.le
  next:=Nat.le_trans h.next k.next
  eU _ _ _ _:=rfl
  new b x e:=(k.new b x e).elim (h.new b x) .inr
  oW b r e:=by
    rcases k.oW b r e with e | e | e
    · exact h.oW b r e
    · exact .inr (h.js b e)
    · exact .inr (.inr e)
  oX b g e:=(k.oX b g e).elim (h.oX b g) .inr
  mr _ _ _ _:=rfl
  js x q:=(k.js x q).elim (h.js x) .inr
  jJ g q:=(k.jJ g q).elim (h.jJ g) .inr
  qC _ _ q:=.inl q
  ky y q:=(k.ky y q).elim (h.ky y) .inr
  rows:=iZ fun _ _=>rfl
theorem ck.refl {A:ak} {B:St} (h:eh P E A B):ck P E A B E A B:=
  ⟨h,Env.le_refl _,Nat.le_refl _,fun _ _ _ _=>rfl,fun _ _ e=>.inl e,fun _ _ e=>.inl e,fun _ _ e=>.inl e,fun _ _ _ _=>rfl,fun _ q=>.inl q,fun _ q=>.inl q,fun _ _ q=>.inl q,fun _ q=>.inl q,iZ fun _ _=>rfl⟩
theorem Env.af6 {A:ak} {B:St} {x:Nat} {r:aak} (h:eh P E A B) (hx:AR A E x):E.le (E.dD x r):=⟨fun _ _ e=>e,fun _ _ e=>e,fun b q e=>by
  simp only [Env.dD]
  rw [if_neg]
  · exact e
  · intro e2; subst e2
    have:=(h.ar.z b hx).1
    rw [e] at this; simp at this,fun _ _ e=>e⟩
theorem ck.fB {A:ak} {B:St} {b x N:Nat} {T:TypeId} {m:Mk} {es:List KV} {acc:Nat→KV} {cs:List Value} {a9:Option (Nat×Nat)} {aU:List Value} (h:eh P E A B) (hb:A.get b=some (.arr (.ts T m N es acc))) (hx:E.α b=some (x,cs.length,N))
    (fa:B.get x=some (.row cs (aL P T) true a9)) (ht:eL P T N es acc) (hm:m = .any) (cA:1≤aL P T) (OJ:aO P E es aU) (hl:jQ (aL P T) 0 cs aU) :
    ck P E A B (E.dD x ⟨cs,aL P T,true,a9⟩) (A.put b (.fB (.ts T m N es acc))) B:=by
  subst hm
  have m5:AR A E x:=⟨b,_,_,_,hb,hx⟩
  have hle:=Env.af6 (r:=⟨cs,aL P T,true,a9⟩) h m5
  have hzx:(E.dD x ⟨cs,aL P T,true,a9⟩).z x=some ⟨cs,aL P T,true,a9⟩:=by simp [Env.dD]
  have CP:∀ c r,(E.dD x ⟨cs,aL P T,true,a9⟩).z c=some r→E.z c=some r∨(c=x∧r=⟨cs,aL P T,true,a9⟩):=fun c r e=>by
    simp only [Env.dD] at e
    split at e
    · rename_i e2; simp at e; exact .inr ⟨e2,e.symm⟩
    · exact .inl e
  have iR:∀ c o,(A.put b (.fB (.ts T .any N es acc))).get c=some o→(c=b∧o = .fB (.ts T .any N es acc))∨(c≠b∧A.get c=some o):=fun c o hc=>by
    rw [ak.bt] at hc
    split at hc
    · rename_i e; simp at hc; exact .inl ⟨e,hc.symm⟩
    · rename_i e; exact .inr ⟨e,hc⟩
  have hA:∀ c v,(A.put b (.fB (.ts T .any N es acc))).get c=some (.arr v)→c≠b∧A.get c=some (.arr v):=fun c v hc=>by
    rcases iR c _ hc with ⟨_,e⟩ | e
    · simp at e
    · exact e
  have adI:∀ y,AR (A.put b (.fB (.ts T .any N es acc))) E y→AR A E y∧y≠x:=fun y ⟨c,v,L,M,h1,h2⟩=>by
    obtain ⟨h3,h4⟩:=hA c v h1
    refine ⟨⟨c,v,L,M,h4,h2⟩,fun e=>h3 ?_⟩
    subst e
    exact h.ar.inj c b v _ y L M _ _ h4 hb h2 hx
  have CW:∀ g,AF (A.put b (.fB (.ts T .any N es acc))) E B g→AF A E B g:=fun g ⟨c,v,y,L,M,cs,e,own,k,h1,h2,h3⟩=>⟨c,v,y,L,M,cs,e,own,k,(hA c v h1).2,h2,h3⟩
  refine ⟨⟨fun c jY a8 hc=>?_,fun c top sz hc=>?_,fun y r hy=>?_,fun c y hc=>?_,h.inj,?_,h.eS,h.jq,fun c o hc=>?_,h.dT,fun y r hy=>?_,h.fV,h.fresh,h.mem,?_⟩,hle,Nat.le_refl _,fun _ _ _ _=>rfl,fun _ _ e=>.inl e,fun y r e=>?_,fun _ _ e=>.inl e,fun _ _ _ _=>rfl,fun y q=>.inl (adI y q).1,fun g q=>.inl (CW g q),fun _ _ q=>.inl q,fun y q=>.inl (q.imp (fun q=>(adI y q).1) fun ⟨g,q1,q2⟩=>⟨g,CW g q1,q2⟩),iZ fun _ _=>rfl⟩
  · rcases iR c _ hc with ⟨_,e⟩ | ⟨_,e⟩
    · simp at e
    · obtain ⟨y,d,h1,h2,h3⟩:=h.row c jY a8 e
      exact ⟨y,d,h1,h2,h3.mono hle⟩
  · rcases iR c _ hc with ⟨_,e⟩ | ⟨_,e⟩
    · simp at e
    · exact h.aJ c top sz e
  · rcases CP y r hy with e | ⟨rfl,rfl⟩
    · exact h.z y r e
    · exact fa
  · have hc:E.κ c=some y:=hc
    cases hz:(E.dD x ⟨cs,aL P T,true,a9⟩).z y with
    | none=>rfl
    | some r=>
      rcases CP y r hz with e | ⟨rfl,_⟩
      · rw [h.apart c y hc] at e; simp at e
      · exact absurd hc ((h.ar.z y m5).2 c)
  · exact h.fO.put (.inl fun t s=>by simp)
  · rw [ak.uG]
    rcases iR c _ hc with ⟨e,_⟩ | ⟨_,e⟩
    · rw [e]; exact h.live b _ hb
    · exact h.live c o e
  · rcases CP y r hy with e | ⟨rfl,_⟩
    · exact h.jr y r e
    · exact h.yY m5
  · refine ⟨fun c v hc=>?_,fun c v hc=>?_,fun y q=>?_,fun c d v u y L M L' M' h1 h2 h3 h4=>h.ar.inj c d v u y L M L' M' (hA c v h1).2 (hA d u h2).2 h3 h4,fun c d v u y w L M L' M' jY e own g k bk e' k8 k' h1 h2 h3 h4=>h.ar.oH c d v u y w L M L' M' jY e own g k bk e' k8 k' (hA c v h1).2 (hA d u h2).2 h3 h4,h.ar.V2,h.ar.eS,h.ar.dT,fun c v y L M jY e own g k h1 h2 h3=>?_⟩
    · exact (h.ar.arr c v (hA c v hc).2).mono hle rfl fun _ _ _ _=>rfl
    · rcases iR c _ hc with ⟨e,e2⟩ | ⟨_,e⟩
      · simp at e2
        subst e2
        exact ⟨T,N,es,acc,rfl,ht,cA,.inr ⟨x,⟨cs,aL P T,true,a9⟩,aU,by rw [e]; exact hx,hzx,rfl,OJ.mono hle,hl⟩⟩
      · exact (h.ar.fB c v e).mono hle rfl
    · obtain ⟨q1,q2⟩:=adI y q
      refine ⟨?_,(h.ar.z y q1).2⟩
      simp only [Env.dD]
      rw [if_neg q2]
      exact (h.ar.z y q1).1
    · obtain ⟨bo,h1⟩:=hA c v h1
      obtain ⟨q1,q2,q3⟩:=h.ar.nC c v y L M jY e own g k h1 h2 h3
      refine ⟨q1,q2,fun z hz hzy=>?_⟩
      obtain ⟨q4,q5,q6⟩:=q3 z hz hzy
      refine ⟨?_,fun q=>q5 (adI z q).1,q6⟩
      simp only [Env.dD]
      rw [if_neg]
      · exact q4
      · intro e2
        subst e2
        exact q5 m5
  · rcases CP y r e with e | ⟨rfl,_⟩
    · exact .inl e
    · exact .inr (.inl m5)
theorem ck.ai9 {A:ak} {B:St} {b:Nat} {T:TypeId} {m:Mk} {N:Nat} {es:List KV} {acc:Nat→KV} (h:eh P E A B) (hb:A.get b=some (.arr (.ts T m N es acc))) (bH:LJ P E b (.ts T m N es acc)) (m4:E.α b=none):ck P E A B E (A.put b (.fB (.ts T m N es acc))) B:=by
  have iR:∀ c o,(A.put b (.fB (.ts T m N es acc))).get c=some o→(c=b∧o = .fB (.ts T m N es acc))∨A.get c=some o:=fun c o hc=>by
    rw [ak.bt] at hc
    split at hc
    · rename_i e; simp at hc; exact .inl ⟨e,hc.symm⟩
    · exact .inr hc
  have hA:∀ c v,(A.put b (.fB (.ts T m N es acc))).get c=some (.arr v)→A.get c=some (.arr v):=fun c v hc=>by
    rcases iR c _ hc with ⟨_,e⟩ | e
    · simp at e
    · exact e
  have m5:∀ y,AR (A.put b (.fB (.ts T m N es acc))) E y→AR A E y:=fun y ⟨c,v,L,M,h1,h2⟩=>⟨c,v,L,M,hA c v h1,h2⟩
  have CW:∀ g,AF (A.put b (.fB (.ts T m N es acc))) E B g→AF A E B g:=fun g ⟨c,v,y,L,M,cs,e,own,k,h1,h2,h3⟩=>⟨c,v,y,L,M,cs,e,own,k,hA c v h1,h2,h3⟩
  have _:=m4
  refine ⟨⟨fun c jY a8 hc=>?_,fun c top sz hc=>?_,h.z,h.apart,h.inj,?_,h.eS,h.jq,fun c o hc=>?_,h.dT,h.jr,h.fV,h.fresh,h.mem,?_⟩,Env.le_refl _,Nat.le_refl _,fun _ _ _ _=>rfl,fun _ _ e=>.inl e,fun y r e=>.inl e,fun _ _ e=>.inl e,fun _ _ _ _=>rfl,fun y q=>.inl (m5 y q),fun g q=>.inl (CW g q),fun _ _ q=>.inl q,fun y q=>.inl (q.imp (m5 y) fun ⟨g,q1,q2⟩=>⟨g,CW g q1,q2⟩),iZ fun _ _=>rfl⟩
  · rcases iR c _ hc with ⟨_,e⟩ | e
    · simp at e
    · exact h.row c jY a8 e
  · rcases iR c _ hc with ⟨_,e⟩ | e
    · simp at e
    · exact h.aJ c top sz e
  · exact h.fO.put (.inl fun t s=>by simp)
  · rw [ak.uG]
    rcases iR c _ hc with ⟨e,_⟩ | e
    · rw [e]; exact h.live b _ hb
    · exact h.live c o e
  · refine ⟨fun c v hc=>h.ar.arr c v (hA c v hc),fun c v hc=>?_,fun y q=>h.ar.z y (m5 y q),fun c d v u y L M L' M' h1 h2 h3 h4=>h.ar.inj c d v u y L M L' M' (hA c v h1) (hA d u h2) h3 h4,fun c d v u y w L M L' M' jY e own g k bk e' k8 k' h1 h2 h3 h4=>h.ar.oH c d v u y w L M L' M' jY e own g k bk e' k8 k' (hA c v h1) (hA d u h2) h3 h4,h.ar.V2,h.ar.eS,h.ar.dT,fun c v y L M jY e own g k h1 h2 h3=>?_⟩
    · rcases iR c _ hc with ⟨e,e2⟩ | e
      · simp at e2; rw [e2,e]; exact bH
      · exact h.ar.fB c v e
    · obtain ⟨q1,q2,q3⟩:=h.ar.nC c v y L M jY e own g k (hA c v h1) h2 h3
      exact ⟨q1,q2,fun z hz hzy=>⟨(q3 z hz hzy).1,fun q=>(q3 z hz hzy).2.1 (m5 z q),(q3 z hz hzy).2.2⟩⟩
theorem OL {T:TypeId} {m:Mk} {b o n N:Nat} {es:List KV} {acc:Nat→KV} {u:Value} {A:ak} {B:St} (h:eh P E A B) (hv:VK P E (.al T b o n) u) (ha:A.get b=some (.fB (.ts T m N es acc))) :
    VK P E (.ts T .any n ((es.drop o).take n) (fun i=>acc (o+i))) u:=by
  obtain ⟨T2,N2,kx,db,e,ht,cA,qg⟩:=h.ar.fB b _ ha
  simp only [KV.ts.injEq] at e
  obtain ⟨rfl,rfl,rfl,rfl,rfl⟩:=e
  simp only [VK]
  rcases hv.qT with ⟨rfl,rfl,rfl⟩ | ⟨x,L,N0,c,h1,rfl,h3,h4,h5⟩
  · exact ⟨⟨by simp,fun i hi=>by omega,rfl⟩,[],by simpa using aO.nil,none,0,rfl,Nat.le_refl _,.inl ⟨rfl,rfl⟩,trivial⟩
  · rcases qg with ⟨_,e⟩ | ⟨x2,r,aU,e,h6,h6',h7,h8⟩
    · rw [h1] at e; simp at e
    rw [h1] at e
    simp only [Option.some.injEq,Prod.mk.injEq] at e
    obtain ⟨rfl,rfl,rfl⟩:=e
    have acu:((es.drop o).take n).length=n:=by rw [List.length_take,List.length_drop,← ht.len]; omega
    refine ⟨⟨acu.symm,fun i hi=>?_,lg fun i x hi=>?_⟩,(aU.drop o).take n,(h7.drop o).take n,_,c,rfl,h3,.inr ⟨x,o * aL P T,r,rfl,h6,h6',?_⟩,trivial⟩
    · rw [ht.acc (o+i) (by omega),List.getD_eq_getElem?_getD,List.getD_eq_getElem?_getD,List.getElem?_take,if_pos hi,List.getElem?_drop]
    · rw [List.getElem?_take] at hi
      split at hi
      · rw [List.getElem?_drop] at hi; exact fP ht.typed hi
      · simp at hi
    · have:=(h8.drop o).take n
      rw [Nat.zero_add] at this
      exact this
theorem Qw {A:ak} {B:St} {v:KV} {u:Value} (h:eh P E A B) (hv:VK P E v u):∃ E',ck P E A B E' (Tn A v).2 B∧VK P E' (Tn A v).1 u:=by
  unfold Tn
  split
  · rename_i T b o n
    split
    · rename_i T' m N es acc hb
      cases ht:Nat.beq T T' with
      | false=>exact ⟨E,.refl h,.lK⟩
      | true=>
        have:=Nat.eq_of_beq_eq_true ht
        subst this
        rw [cond_true]
        have bH:=h.ar.arr b _ hb
        obtain ⟨T2,N2,kx,db,e,Ba,cA,qg⟩:=bH
        simp only [KV.ts.injEq] at e
        obtain ⟨rfl,rfl,rfl,rfl,rfl⟩:=e
        rcases qg with ⟨h1,h2⟩ | ⟨x,cs,a9,aU,h2,h3,h4,h5⟩
        · have hX:=ck.ai9 h hb ⟨_,_,_,_,rfl,Ba,cA,.inl ⟨h1,h2⟩⟩ h2
          exact ⟨E,hX,OL hX.cW hv ((ak.bt _ _ _ _).trans (if_pos rfl))⟩
        · have hX:=ck.fB h hb h2 h3 Ba rfl cA h4 h5
          exact ⟨_,hX,OL hX.cW (hv.mono hX.le) ((ak.bt _ _ _ _).trans (if_pos rfl))⟩
    · rename_i T' m N es acc hb
      cases ht:Nat.beq T T' with
      | false=>exact ⟨E,.refl h,.lK⟩
      | true=>
        have:=Nat.eq_of_beq_eq_true ht
        subst this
        rw [cond_true]
        exact ⟨E,.refl h,OL h hv hb⟩
    · exact ⟨E,.refl h,.lK⟩
  · exact ⟨E,.refl h,hv⟩
theorem LS {B:St} : ∀ {vs:List KV} {us:List Value} {E:Env} {A:ak},eh P E A B→aO P E vs us→∃ E',ck P E A B E' (Oz A vs).2 B∧aO P E' (Oz A vs).1 us
  | [],us,E,A,h,hv=>⟨E,.refl h,hv⟩
  | v :: vs,us,E,A,h,hv=>by
    obtain ⟨u,Ye,rfl,h1,h2⟩:=hv.cons_inv
    obtain ⟨E1,h3,h4⟩:=Qw h h1
    obtain ⟨E2,h5,h6⟩:=LS h3.cW (h2.mono h3.le)
    exact ⟨E2,h3.adH h5,.cons (h4.mono h5.le) h6⟩
theorem aaH {A:ak} {B:St} {v:KV} {u:Value} (h:eh P E A B) (hv:VK P E v u):∃ E',ck P E A B E' (W3 A v).2 B∧VK P E' (W3 A v).1 u:=by
  unfold W3
  split
  · rename_i cs
    obtain ⟨l,rfl,h1⟩:=hv.iQ
    obtain ⟨E1,h2,h3⟩:=LS h h1
    exact ⟨E1,h2,.kP h3⟩
  · exact Qw h hv
theorem CX:∀ (A:ak) (vs:List KV),(uv A vs).1.length=vs.length
  | _,[]=>rfl
  | A,v :: vs=>by simp [uv,CX]
theorem yZ {B:St} : ∀ {vs:List KV} {us:List Value} {E:Env} {A:ak},eh P E A B→aO P E vs us→∃ E',ck P E A B E' (uv A vs).2 B∧aO P E' (uv A vs).1 us
  | [],us,E,A,h,hv=>⟨E,.refl h,hv⟩
  | v :: vs,us,E,A,h,hv=>by
    obtain ⟨u,Ye,rfl,h1,h2⟩:=hv.cons_inv
    obtain ⟨E1,h3,h4⟩:=aaH h h1
    obtain ⟨E2,h5,h6⟩:=yZ h3.cW (h2.mono h3.le)
    exact ⟨E2,h3.adH h5,.cons (h4.mono h5.le) h6⟩
end Go.K
end
section
namespace Go.K
open Go Go.aV
variable {P:Program} {E:Env}
theorem pB (t:bd):∀ xs,n6 t xs=xs.map (ir t)
  | []=>rfl
  | x :: xs=>by rw [n6,pB t xs]; rfl
structure iK (P:Program) (E:Env) (ρ:aw) (t:bd) (N:Nat) (a:Act):Prop where
  size:a.tmps.size=N
  val:∀ i,VC P E ρ ((t.get i).getD .av) (a.tmps.getD i undef)
  none:∀ i,N≤i→t.get i=Option.none
theorem iK.ev {ρ:aw} {t:bd} {N:Nat} {a:Act} (h:iK P E ρ t N a) (x:Operand):VC P E ρ (ir t x) (a.eval x):=by
  cases x with
  | tmp i=>exact h.val i
  | const v=>
    simp only [ir,Act.eval]
    cases hf:flat v with
    | true=>exact ⟨v,.eG v,VR.of_flat hf⟩
    | false=>exact .av
  | global g=>exact .av
  | func f=>exact ⟨.func (.func f) ⟨[]⟩ ⟨[]⟩,.aan .nil .nil,VR.Hd (l:=[]) (m:=[]) (.func f) rfl .nil .nil⟩
theorem iK.mono {E' : Env} {ρ aq:aw} {t:bd} {N:Nat} {a:Act} (h:iK P E ρ t N a) (k:E.le E') (m:ρ.le aq):iK P E' aq t N a:=⟨h.size,fun i=>(h.val i).mono k m,h.none⟩
theorem iK.put {ρ:aw} {t:bd} {N:Nat} {a:Act} {dst:Option Tmp} {v:KV} {v' : Value} (h:iK P E ρ t N a) (hd:∀ d,dst=some d→d < N) (hv:VC P E ρ v v'):iK P E ρ (mj t dst v) N (a.put dst v'):=by
  cases dst with
  | none=>exact h
  | some d=>
    have hd:=hd d rfl
    refine ⟨by simp [Act.put,h.size],fun i=>?_,fun i hi=>?_⟩
    · simp only [mj,Trie.fv,Act.put]
      by_cases e:i=d
      · subst e
        have:i < a.tmps.size:=by rw [h.size]; exact hd
        simp [Array.getD_eq_getD_getElem?,this,hv]
      · have:=h.val i
        simp only [if_neg e]
        simpa [Array.getD_eq_getD_getElem?,Array.getElem?_setIfInBounds_ne (Ne.symm e)] using this
    · simp only [mj,Trie.fv]
      have bo:i≠d:=fun e=>absurd hi (by rw [e]; exact Nat.not_le_of_lt hd)
      rw [if_neg bo]
      exact h.none i hi
theorem iK.same {ρ:aw} {t t' : bd} {N:Nat} {a:Act} (h:iK P E ρ t N a) (hs:∀ i,t'.get i=t.get i):iK P E ρ t' N a:=
  ⟨h.size,fun i=>by rw [hs]; exact h.val i,fun i hi=>by rw [hs]; exact h.none i hi⟩
theorem wg {v:KV} {b:Bool} (h:nY v = .bool b):v = .bool b:=by cases v <;> simp [nY] at h; rw [h]
theorem TX {v:KV} (h:nY v = .fI):∃ l,v = .fI l:=by cases v <;> simp [nY] at h; exact ⟨_,rfl⟩
theorem CY {t:bd} {d:Tmp} {b:Bool} (h:nY ((t.get d).getD .av) = .bool b):∀ i,(Trie.set (.bool b) t d).get i=t.get i:=by
  intro i
  have:=wg h
  rw [Trie.fv]
  split
  · rename_i e
    subst e
    cases ht:t.get i with
    | none=>rw [ht] at this; simp at this
    | some v=>rw [ht] at this; simp at this; rw [this]
  · rfl
theorem VC.cF {ρ:aw} {b:Bool} {v:Value} (h:VC P E ρ (.bool b) v):v = .bool b:=by
  obtain ⟨u,h1,h2⟩:=h
  have:=h1.cF; subst this
  exact h2.cF
theorem YD {R:Type} {ρ:aw} {t:bd} {N:Nat} {a:Act} {all:List Oper} {o:Oper} {j:Nat} {want:Bool} {yes no:bd→Option R} {r:R} (hg:o.guard=some (j,want)) (ht:iK P E ρ t N a)
    (h:aag t ((all[j]?).bind (·.dst)) want yes no=some r) :
    ∃ t',(∀ i,t'.get i=t.get i)∧((Region.wanted o (yielded ⟨all⟩ a.tmps)=true∧yes t' = some r)∨(Region.wanted o (yielded ⟨all⟩ a.tmps)=false∧no t' = some r)):=by
  unfold aag at h
  cases hd:(all[j]?).bind (·.dst) with
  | none=>rw [hd] at h; exact absurd h (by simp)
  | some d=>
    rw [hd] at h
    have hw:∀ u,a.tmps[d]? = some u→Region.wanted o (yielded ⟨all⟩ a.tmps)=(match u with
        | .bool b=>b == want
        | _=>false):=by
      intro u hu
      unfold Region.wanted
      rw [hg]
      simp only
      unfold yielded
      have e:(⟨all⟩:Array Oper)[j]? = all[j]?:=by simp
      rw [e,hd]
      simp only [Option.bind_some,hu]
      cases u <;> rfl
    have n5:=ht.val d
    have h:BK.rec (motive:=fun _=>Option R)
      (fun b=>Bool.rec (motive:=fun _=>Option R)
        (Bool.rec (motive:=fun _=>Option R) (yes (t.set (.bool false) d)) (no (t.set (.bool false) d)) want)
        (Bool.rec (motive:=fun _=>Option R) (no (t.set (.bool true) d)) (yes (t.set (.bool true) d)) want) b)
      (no t) none (nY ((t.get d).getD .av))=some r:=h
    cases hb:nY ((t.get d).getD .av) with
    | no=>rw [hb] at h; exact absurd h (by simp)
    | fI=>
      rw [hb] at h
      obtain ⟨l,hl⟩:=TX hb
      rw [hl] at n5
      obtain ⟨u,h1,h2⟩:=n5
      obtain ⟨m,rfl,_⟩:=h1.Fv
      obtain ⟨m',h3,_⟩:=h2.xQ
      refine ⟨t,fun _=>rfl,.inr ⟨?_,h⟩⟩
      cases hc:a.tmps[d]? with
      | none=>
        unfold Region.wanted
        rw [hg]
        simp only
        unfold yielded
        have e:(⟨all⟩:Array Oper)[j]? = all[j]?:=by simp
        rw [e,hd]
        simp [hc]
      | some u=>
        have:u = .tuple m':=by rw [← h3]; simp [Array.getD_eq_getD_getElem?,hc]
        rw [hw u hc,this]
    | bool b=>
      rw [hb] at h
      have hbv:=wg hb
      rw [hbv] at n5
      have hcv:=n5.cF
      have hc:a.tmps[d]? = some (.bool b):=by
        cases hc:a.tmps[d]? with
        | none=>simp [Array.getD_eq_getD_getElem?,hc,undef] at hcv
        | some u=>have:u = .bool b:=by rw [← hcv]; simp [Array.getD_eq_getD_getElem?,hc]
                  rw [this]
      have Eo:=hw _ hc
      refine ⟨t.set (.bool b) d,CY hb,?_⟩
      cases b <;> cases want
      · exact .inl ⟨Eo,h⟩
      · exact .inr ⟨Eo,h⟩
      · exact .inr ⟨Eo,h⟩
      · exact .inl ⟨Eo,h⟩
def xq (P:Program) (E:Env) (ρ:aw) (l:List KV) (l' : List Value):Prop:=∃ m,aO P E l m∧bS ρ m l'
def xG (P : Program) (g : FuncId) : Prop := Nat.blt g yB = true ∧ ∃ fn, P.funcs[g]? = some fn ∧ fn.body.isSome = true ∧ (fn.name == "runtime.NumGoroutine") = false
def Br {R:Type} (P:Program) (bb:jG R):Prop:=
  ∀ f args A k r,bb f args A k=some r→xG P f∧∀ (E:Env) (B:St) (ρ:aw) (base:Nat) (w:World) (cD:List Value),xq P E ρ args cD→KJ P E A B ρ base w→
    Calls P f cD.toArray w fun e w'=>∃ v v' E' A' B' aq,e = .returned v'∧VC P E' aq v v'∧Ev P base E A B ρ w E' A' B' aq w'∧k v A' = some r
def bD (P:Program) (g:FuncId) (F:List KV→KR KV):Prop:=
  ∀ args v,aE (F (normArgs P (aC P g) args)) v→args.length=(aC P g).length→xG P g∧∀ (E:Env) (A:ak) (B:St) (ρ:aw) (base:Nat) (w:World) (cD:List Value),xq P E ρ args cD→KJ P E A B ρ base w→
    Calls P g cD.toArray w fun e w'=>∃ v' E' B' aq,e = .returned v'∧VC P E' aq v v'∧Ev P base E A B ρ w E' A B' aq w'
def qE (P:Program) (pc:FuncId→Option (List KV→KR KV)):Prop:=∀ g F,pc g=some F→bD P g F
theorem YE {o:Oper} {f:Operand} {args:List Operand} (aG:compile P o.op = .call f args) {ρ:aw} {t:bd} {N:Nat} {a:Act} (ht:iK P E ρ t N a) {g:FuncId} {vs:List KV} (hc:Fs (n6 t args) (ir t f)=some (g,vs)) (hg:xG P g) :
    ∃ bN,xq P E ρ vs bN∧∀ w,(execOp a.eval o).run P w = .ok (.enter g bN.toArray) w:=by
  have bH:=jm P o
  rw [aG] at bH
  obtain ⟨em,h1,h2⟩:=Yr (xs:=f :: args) (ev:=ir t) (bF:=a.eval) fun x _=>ht.ev x
  obtain ⟨y,ys,e,h3,h4⟩:=h1.cons_inv
  simp only [List.map_cons,List.cons.injEq] at e
  obtain ⟨rfl,rfl⟩:=e
  have hv:∃ us,fw (args.map em) (em f)=some (g,us)∧aO P E vs us:=by
    unfold Fs at hc
    split at hc
    · rename_i g' first cap e
      simp only [Option.some.injEq,Prod.mk.injEq] at hc
      obtain ⟨rfl,rfl⟩:=hc
      rw [e] at h3
      obtain ⟨l,m,e2,h5,h6⟩:=h3.yW
      rw [e2]
      refine ⟨l ++ args.map em ++ m,by simp only [fw]; rw [hg.1]; rfl,?_⟩
      rw [pB]
      exact (h5.append h4).append h6
    · simp at hc
  obtain ⟨us,h5,h6⟩:=hv
  obtain ⟨bN,h7,h8⟩:=bH.2 ρ em a.eval g us h2 hg.1 h5 hg.2
  exact ⟨bN,⟨us,h6,h7⟩,h8⟩
def b5:lT→Bool
  | .call _ _=>false
  | .wO _ _ _=>false
  | .zJ _ _ _=>false
  | _=>true
theorem cC {c:Bool} {x:lT} (h:b5 x=true):b5 (cond c x .bad)=true:=by
  cases c with
  | false=>rfl
  | true=>exact h
theorem uY (mt:TypeId→Bool) (b:Builtin) (ts:List TypeId) (args:List Operand):b5 (tg P mt b ts args)=true:=by
  unfold tg Tl yV Hm
  repeat' split
  all_goals first | rfl | exact cC rfl
theorem rJ (mt:TypeId→Bool) (t:TypeId) (l c:Operand):b5 (oT P mt t l c)=true:=by
  unfold oT
  split
  · rename_i e he
    split
    · split
      · cases mt e <;> exact cC rfl
      · rfl
    · rfl
  · rfl
theorem Qx {cfg:c9} {op:Op} {f:Operand} {args:List Operand} (h:bG P cfg op = .call f args):compile P op = .call f args:=by
  have key:b5 (bG P cfg op)=true→compile P op = .call f args:=fun hn=>by rw [h] at hn; simp [b5] at hn
  cases op with
  | call c=>
    have h:gV P cfg c = .call f args:=h
    show qt P c=_
    unfold gV at h
    unfold qt
    split at h
    · rename_i g hc
      split at h
      · cases hz:cfg.x.fz <;> rw [hz] at h <;> simp at h
      · simp at h; obtain ⟨rfl,rfl⟩:=h; rw [hc]
    · rename_i f' bo hc; simp at h; obtain ⟨rfl,rfl⟩:=h; rw [hc]
    · rename_i b hc
      have:=uY (P:=P) cfg.x.mt b c.argTypes.toList c.args.toList
      rw [h] at this
      simp [b5] at this
    · simp at h
  | alloc t=>exact key (by show b5 (kd P t)=true; unfold kd; split <;> first | rfl | exact cC rfl)
  | build t ps=>exact key (by show b5 (mW P t _ _)=true; unfold mW; (repeat' split); all_goals first | rfl | exact cC rfl)
  | buildSlice t n ps=>exact key (by show b5 (gH P t n _ _)=true; unfold gH; (repeat' split); all_goals first | rfl | exact cC (by cases CA _ <;> first | rfl | exact cC rfl))
  | convert s d x=>exact key (by show b5 (jX P s d x)=true; unfold jX; (repeat' split); all_goals first | rfl | exact cC rfl)
  | makeFunc fn a b=>exact key (by show b5 (cond (qA fn) .bad _)=true; cases qA fn <;> rfl)
  | fieldAddr s x i=>exact key (by show b5 (im P s x i)=true; unfold im; (repeat' split); all_goals rfl)
  | field s x i=>exact key (by show b5 (mX P s x i)=true; unfold mX; (repeat' split); all_goals rfl)
  | indexAddr s x i=>exact key (by show b5 (iq P s x i)=true; unfold iq; (repeat' split); all_goals rfl)
  | index s x i=>exact key (by show b5 (mZ P s x i)=true; unfold mZ; (repeat' split); all_goals rfl)
  | slice t x lo hi mx=>exact key (by show b5 (m0 P t x lo hi mx)=true; unfold m0; (repeat' split); all_goals first | rfl | exact cC rfl)
  | makeSlice t l c=>exact key (rJ _ t l c)
  | _=>exact key rfl
theorem YF {cfg:c9} {op:Op} {g:FuncId} {F:List KV→KR KV} {args:List Operand} (h:bG P cfg op = .wO g F args):compile P op = .call (.func g) args∧∃ F0,cfg.pc g=some F0∧F=fun vs=>cond (Nat.beq vs.length (aC P g).length) (F0 (normArgs P (aC P g) vs)) .no:=by
  have key:b5 (bG P cfg op)=true→compile P op = .call (.func g) args∧∃ F0,cfg.pc g=some F0∧F=fun vs=>cond (Nat.beq vs.length (aC P g).length) (F0 (normArgs P (aC P g) vs)) .no:=fun hn=>by rw [h] at hn; simp [b5] at hn
  cases op with
  | call c=>
    have h:gV P cfg c = .wO g F args:=h
    show qt P c=_∧_
    unfold gV at h
    unfold qt
    split at h
    · rename_i g' hc
      split at h
      · rename_i F0 hF
        cases hz:cfg.x.fz with
        | true=>rw [hz] at h; simp at h
        | false=>
          rw [hz] at h
          simp at h; obtain ⟨rfl,rfl,rfl⟩:=h; rw [hc]
          exact ⟨rfl,F0,hF,rfl⟩
      · simp at h
    · simp at h
    · rename_i b hc
      have:=uY (P:=P) cfg.x.mt b c.argTypes.toList c.args.toList
      rw [h] at this
      simp [b5] at this
    · simp at h
  | alloc t=>exact key (by show b5 (kd P t)=true; unfold kd; split <;> first | rfl | exact cC rfl)
  | build t ps=>exact key (by show b5 (mW P t _ _)=true; unfold mW; (repeat' split); all_goals first | rfl | exact cC rfl)
  | buildSlice t n ps=>exact key (by show b5 (gH P t n _ _)=true; unfold gH; (repeat' split); all_goals first | rfl | exact cC (by cases CA _ <;> first | rfl | exact cC rfl))
  | convert s d x=>exact key (by show b5 (jX P s d x)=true; unfold jX; (repeat' split); all_goals first | rfl | exact cC rfl)
  | makeFunc fn a b=>exact key (by show b5 (cond (qA fn) .bad _)=true; cases qA fn <;> rfl)
  | fieldAddr s x i=>exact key (by show b5 (im P s x i)=true; unfold im; (repeat' split); all_goals rfl)
  | field s x i=>exact key (by show b5 (mX P s x i)=true; unfold mX; (repeat' split); all_goals rfl)
  | indexAddr s x i=>exact key (by show b5 (iq P s x i)=true; unfold iq; (repeat' split); all_goals rfl)
  | index s x i=>exact key (by show b5 (mZ P s x i)=true; unfold mZ; (repeat' split); all_goals rfl)
  | slice t x lo hi mx=>exact key (by show b5 (m0 P t x lo hi mx)=true; unfold m0; (repeat' split); all_goals first | rfl | exact cC rfl)
  | makeSlice t l c=>exact key (rJ _ t l c)
  | _=>exact key rfl
theorem YG {cfg:c9} {op:Op} {g:FuncId} {F:List KV→KR KV} {args:List Operand} (h:bG P cfg op = .zJ g F args):compile P op = .call (.func g) args∧∃ F0,cfg.pc g=some F0∧F=fun vs=>cond (Nat.beq vs.length (aC P g).length) (F0 (normArgs P (aC P g) vs)) .no:=by
  have key:b5 (bG P cfg op)=true→compile P op = .call (.func g) args∧∃ F0,cfg.pc g=some F0∧F=fun vs=>cond (Nat.beq vs.length (aC P g).length) (F0 (normArgs P (aC P g) vs)) .no:=fun hn=>by rw [h] at hn; simp [b5] at hn
  cases op with
  | call c=>
    have h:gV P cfg c = .zJ g F args:=h
    show qt P c=_∧_
    unfold gV at h
    unfold qt
    split at h
    · rename_i g' hc
      split at h
      · rename_i F0 hF
        cases hz:cfg.x.fz with
        | false=>rw [hz] at h; simp at h
        | true=>
          rw [hz] at h
          simp at h; obtain ⟨rfl,rfl,rfl⟩:=h; rw [hc]
          exact ⟨rfl,F0,hF,rfl⟩
      · simp at h
    · simp at h
    · rename_i b hc
      have:=uY (P:=P) cfg.x.mt b c.argTypes.toList c.args.toList
      rw [h] at this
      simp [b5] at this
    · simp at h
  | alloc t=>exact key (by show b5 (kd P t)=true; unfold kd; split <;> first | rfl | exact cC rfl)
  | build t ps=>exact key (by show b5 (mW P t _ _)=true; unfold mW; (repeat' split); all_goals first | rfl | exact cC rfl)
  | buildSlice t n ps=>exact key (by show b5 (gH P t n _ _)=true; unfold gH; (repeat' split); all_goals first | rfl | exact cC (by cases CA _ <;> first | rfl | exact cC rfl))
  | convert s d x=>exact key (by show b5 (jX P s d x)=true; unfold jX; (repeat' split); all_goals first | rfl | exact cC rfl)
  | makeFunc fn a b=>exact key (by show b5 (cond (qA fn) .bad _)=true; cases qA fn <;> rfl)
  | fieldAddr s x i=>exact key (by show b5 (im P s x i)=true; unfold im; (repeat' split); all_goals rfl)
  | field s x i=>exact key (by show b5 (mX P s x i)=true; unfold mX; (repeat' split); all_goals rfl)
  | indexAddr s x i=>exact key (by show b5 (iq P s x i)=true; unfold iq; (repeat' split); all_goals rfl)
  | index s x i=>exact key (by show b5 (mZ P s x i)=true; unfold mZ; (repeat' split); all_goals rfl)
  | slice t x lo hi mx=>exact key (by show b5 (m0 P t x lo hi mx)=true; unfold m0; (repeat' split); all_goals first | rfl | exact cC rfl)
  | makeSlice t l c=>exact key (rJ _ t l c)
  | _=>exact key rfl
noncomputable def nE (ins:lT) (t:bd) (A:ak):KR (KV×ak):=
  match ins with
  | .pure f xs=>(f (n6 t xs)).map fun v=>(v,A)
  | .read f xs=>(f A (n6 t xs)).map fun v=>(v,A)
  | .act f xs=>f A (n6 t xs)
  | .look f xs=>(f (n6 t xs)).map fun v=>(v,A)
  | .wO _ f xs=>(f (n6 t xs)).map fun v=>(v,A)
  | .zJ _ f xs=>(f (uv A (n6 t xs)).1).map fun v=>(v,(uv A (n6 t xs)).2)
  | .call _ _=>.no
  | .bad=>.no
theorem aE.map {α β:Type} {r:KR α} {f:α→β} {v:β} (h:aE (r.map f) v):∃ u,aE r u∧f u=v:=by
  cases r with
  | no=>exact h.elim
  | ok u=>exact ⟨u,rfl,h⟩
  | il c u=>exact ⟨u,⟨h.1,rfl⟩,h.2⟩
  | br c x y=>
    rcases h with ⟨h1,h2⟩ | ⟨h1,h2⟩
    · obtain ⟨u,h3,h4⟩:=aE.map (r:=x) h2; exact ⟨u,.inl ⟨h1,h3⟩,h4⟩
    · obtain ⟨u,h3,h4⟩:=aE.map (r:=y) h2; exact ⟨u,.inr ⟨h1,h3⟩,h4⟩
theorem aE.tj {α β:Type} {r:KR α} {f:α→β} {u:α} (h:aE r u):aE (r.map f) (f u):=by
  cases r with
  | no=>exact h.elim
  | ok x=>have h:x=u:=h; subst h; exact rfl
  | il c x=>obtain ⟨h1,rfl⟩:=h; exact ⟨h1,rfl⟩
  | br c x y=>exact h.imp (fun h=>⟨h.1,aE.tj (r:=x) h.2⟩) (fun h=>⟨h.1,aE.tj (r:=y) h.2⟩)
theorem y3 {R:Type} {bb:jG R} {t:bd} {A:ak} {k:KV→ak→Option R} {ins:lT} {r:R} (hn:∀ f args,ins≠.call f args) (h:LF bb t A k ins=some r):∃ v A',aE (nE ins t A) (v,A')∧k v A' = some r:=by
  cases ins with
  | pure f xs=>obtain ⟨v,h1,h2⟩:=KR.ss h; exact ⟨v,A,h1.tj,h2⟩
  | read f xs=>obtain ⟨v,h1,h2⟩:=KR.ss h; exact ⟨v,A,h1.tj,h2⟩
  | act f xs=>obtain ⟨v,h1,h2⟩:=KR.ss h; exact ⟨v.1,v.2,h1,h2⟩
  | look f xs=>obtain ⟨v,h1,h2⟩:=KR.ss h; exact ⟨v,A,h1.tj,h2⟩
  | wO g f xs=>obtain ⟨v,h1,h2⟩:=KR.ss h; exact ⟨v,A,h1.tj,h2⟩
  | zJ g f xs=>obtain ⟨v,h1,h2⟩:=KR.ss h; exact ⟨v,(uv A (n6 t xs)).2,h1.tj (f:=fun v=>(v,(uv A (n6 t xs)).2)),h2⟩
  | call f args=>exact absurd rfl (hn f args)
  | bad=>exact absurd h (by simp [LF])
theorem Qy {cfg:c9} (gX:qE P cfg.pc) {o:Oper} {g:FuncId} {xs:List Operand} (aG:compile P o.op = .call (.func g) xs) {F0:List KV→KR KV} (hF0:cfg.pc g=some F0) {t:bd} {vs0:List KV} {v:KV}
    (hf:aE (F0 (normArgs P (aC P g) vs0)) v) (hlen:vs0.length=(aC P g).length) {E:Env} {ρ:aw} {a:Act} (hv:∀ x ∈ xs,VC P E ρ (ir t x) (a.eval x)) {A A1:ak} {B:St} {base:Nat} {w:World}
    (ake:∀ us,aO P E (xs.map (ir t)) us→∃ E1,Ev P base E A B ρ w E1 A1 B ρ w∧aO P E1 vs0 us) {next:Act→World→Prop} {Q:Exit→Act→World→Prop}
    (hk:∀ E' B' aq v' w',VC P E' aq v v'→Ev P base E A B ρ w E' A1 B' aq w'→next (a.put o.dst v') w'):o.upon P a next Q ((execOp a.eval o).run P w):=by
  obtain ⟨hg,kN⟩:=gX g F0 hF0 _ _ hf hlen
  have WW:=jm P o
  rw [aG] at WW
  obtain ⟨em,h3,h4⟩:=Yr (xs:=xs) hv
  let YH:Operand→Value:=fun x=>match x with
    | .func f=>.func (.func f) #[] #[]
    | x=>em x
  have e3:∀ x ∈ xs,VK P E (ir t x) (YH x)∧VR ρ (YH x) (a.eval x):=by
    intro x hx
    have key:∀ (l:List Operand),aO P E (l.map (ir t)) (l.map em)→x ∈ l→VK P E (ir t x) (em x):=by
      intro l
      induction l with
      | nil=>intro _ h; simp at h
      | cons y l ih=>
        intro h hm
        obtain ⟨z,zs,e,q1,q2⟩:=h.cons_inv
        simp only [List.map_cons,List.cons.injEq] at e
        obtain ⟨rfl,rfl⟩:=e
        rcases List.mem_cons.1 hm with rfl | hm
        · exact q1
        · exact ih q2 hm
    cases x with
    | func f=>exact ⟨.aan .nil .nil,VR.Hd (l:=[]) (m:=[]) (.func f) rfl .nil .nil⟩
    | tmp i=>exact ⟨key xs h3 hx,h4 _ hx⟩
    | const c=>exact ⟨key xs h3 hx,h4 _ hx⟩
    | global q=>exact ⟨key xs h3 hx,h4 _ hx⟩
  have e4:aO P E (xs.map (ir t)) (xs.map YH):=by
    have:∀ (l:List Operand),(∀ x ∈ l,VK P E (ir t x) (YH x))→aO P E (l.map (ir t)) (l.map YH):=by
      intro l
      induction l with
      | nil=>intro _; exact .nil
      | cons y l ih=>intro h; exact .cons (h y (by simp)) (ih fun z hz=>h z (by simp [hz]))
    exact this xs fun x hx=>(e3 x hx).1
  obtain ⟨bN,h5,h6⟩:=WW.2 ρ YH a.eval g (xs.map YH) (fun x hx=>by
      rcases List.mem_cons.1 hx with rfl | hx
      · exact VR.Hd (l:=[]) (m:=[]) (.func g) rfl .nil .nil
      · exact (e3 x hx).2) hg.1 (by simp only [YH,fw]; rw [hg.1]; simp) hg.2
  rw [h6 w]
  obtain ⟨E1,q1,q2⟩:=ake _ e4
  refine (kN E1 A1 B ρ base w bN ⟨xs.map YH,q2,h5⟩ q1.kj).mono ?_
  rintro e w' ⟨v',E',B',aq,rfl,h7,h8⟩
  exact hk E' B' aq v' w' h7 (q1.trans h8)
theorem CZ {cfg:c9} (gX:qE P cfg.pc) {o:Oper} {t:bd} {A A' : ak} {v:KV} {base:Nat} {B:St} {ρ:aw} {a:Act} {w:World} {next:Act→World→Prop} {Q:Exit→Act→World→Prop}
    (h:aE (nE (bG P cfg o.op) t A) (v,A')) (hv:∀ x ∈ Sa (bG P cfg o.op),VC P E ρ (ir t x) (a.eval x)) (hj:KJ P E A B ρ base w)
    (hk:∀ E' B' aq v' w',VC P E' aq v v'→Ev P base E A B ρ w E' A' B' aq w'→next (a.put o.dst v') w'):o.wp P a w next Q:=by
  have bH:=aeD P cfg o
  have adJ:=@YF P cfg o.op
  have adK:=@YG P cfg o.op
  generalize bG P cfg o.op=ins at h bH hv adJ adK
  unfold Oper.wp
  cases ins with
  | pure f xs=>
    obtain ⟨u,h1,h2⟩:=aE.map h
    simp only [Prod.mk.injEq] at h2
    obtain ⟨rfl,rfl⟩:=h2
    rw [pB] at h1
    obtain ⟨v',h3,h4⟩:=bH E ρ (ir t) a.eval u hv h1
    rw [h4 w]
    exact hk E B ρ v' w h3 (.refl hj.k hj.s)
  | read f xs=>
    obtain ⟨u,h1,h2⟩:=aE.map h
    simp only [Prod.mk.injEq] at h2
    obtain ⟨rfl,rfl⟩:=h2
    rw [pB] at h1
    obtain ⟨v',h3,h4⟩:=bH E A B ρ base w (ir t) a.eval u hj hv h1
    rw [h4]
    exact hk E B ρ v' w h3 (.refl hj.k hj.s)
  | act f xs=>
    have h:aE (f A (n6 t xs)) (v,A'):=h
    rw [pB] at h
    obtain ⟨E',B',aq,v',nx,w',h1,h2,h3,h4⟩:=bH E A A' B ρ base w (ir t) a.eval v hj hv h
    rw [h1]
    have hd:=hk E' B' aq v' w' h3 h4
    cases nx with
    | value u=>have:u=v':=h2; subst this; exact hd
    | skip=>have:v' = undef:=h2; subst this; exact hd
    | _=>exact h2.elim
  | look f xs=>
    obtain ⟨u,h1,h2⟩:=aE.map h
    simp only [Prod.mk.injEq] at h2
    obtain ⟨rfl,rfl⟩:=h2
    rw [pB] at h1
    obtain ⟨E',B',aq,v',nx,w',h3,h4,h5,h6⟩:=bH E A B ρ base w (ir t) a.eval u hj hv h1
    rw [h3]
    have hd:=hk E' B' aq v' w' h5 h6
    cases nx with
    | value u=>have:u=v':=h4; subst this; exact hd
    | skip=>have:v' = undef:=h4; subst this; exact hd
    | _=>exact h4.elim
  | wO g f xs=>
    obtain ⟨u,h1,h2⟩:=aE.map h
    simp only [Prod.mk.injEq] at h2
    obtain ⟨rfl,rfl⟩:=h2
    obtain ⟨aG,F0,hF0,rfl⟩:=adJ rfl
    obtain ⟨hlen,hf⟩:=aE.cond h1
    exact Qy gX aG hF0 hf (Nat.eq_of_beq_eq_true hlen) hv (fun us q=>⟨E,.refl hj.k hj.s,by rw [pB]; exact q⟩) hk
  | zJ g f xs=>
    obtain ⟨u,h1,h2⟩:=aE.map h
    simp only [Prod.mk.injEq] at h2
    obtain ⟨rfl,rfl⟩:=h2
    obtain ⟨aG,F0,hF0,rfl⟩:=adK rfl
    obtain ⟨hlen,hf⟩:=aE.cond h1
    refine Qy gX aG hF0 hf (Nat.eq_of_beq_eq_true hlen) hv (fun us q=>?_) hk
    obtain ⟨E1,p1,p2⟩:=yZ hj.k q
    rw [pB]
    exact ⟨E1,p1.ev (.refl hj.s),p2⟩
  | call f args=>exact h.elim
  | bad=>exact h.elim
end Go.K
end
section
namespace Go.K
open Go Go.aV
variable {P:Program} {E:Env}
theorem Qz {R:Type} {cfg:c9} {bb:jG R} (gX:qE P cfg.pc) (wQ:Br P bb) {o:Oper} {t:bd} {A:ak} {k:KV→ak→Option R} {r:R} {N base:Nat} {B:St} {ρ:aw} {a:Act} {w:World} {next:Act→World→Prop} {Q:Exit→Act→World→Prop}
    (h:LF bb t A k (bG P cfg o.op)=some r) (ht:iK P E ρ t N a) (hj:KJ P E A B ρ base w)
    (hk:∀ E' A' B' aq v v' w',k v A' = some r→VC P E' aq v v'→Ev P base E A B ρ w E' A' B' aq w'→next (a.put o.dst v') w'):o.wp P a w next Q:=by
  by_cases hc:∃ f args,bG P cfg o.op = .call f args
  · obtain ⟨f,args,hc⟩:=hc
    rw [hc] at h
    have h:Option.rec (motive:=fun _=>Option R) none (fun p=>bb p.1 p.2 A k) (Fs (n6 t args) (ir t f))=some r:=h
    cases Dz:Fs (n6 t args) (ir t f) with
    | none=>rw [Dz] at h; exact absurd h (by simp)
    | some p=>
      obtain ⟨g,vs⟩:=p
      rw [Dz] at h
      have h:bb g vs A k=some r:=h
      obtain ⟨hg,kN⟩:=wQ g vs A k r h
      obtain ⟨bN,h1,h2⟩:=YE (Qx hc) ht Dz hg
      unfold Oper.wp
      rw [h2 w]
      refine (kN E B ρ base w bN h1 hj).mono ?_
      rintro e w' ⟨v,v',E',A',B',aq,rfl,h3,h4,h5⟩
      exact hk E' A' B' aq v v' w' h5 h3 h4
  · obtain ⟨v,A',h1,h2⟩:=y3 (fun f args e=>hc ⟨f,args,e⟩) h
    exact CZ gX h1 (fun x _=>ht.ev x) hj fun E' B' aq v' w' h3 h4=>hk E' A' B' aq v v' w' h2 h3 h4
theorem aaI {R:Type} {cfg:c9} {bb:jG R} {all:List Oper} {o:Oper} {k:bd→ak→Option R} {t:bd} {A:ak} {r:R} {N:Nat} {ρ:aw} {a:Act} (ht:iK P E ρ t N a) (h:rG P cfg bb all o k t A=some r) :
    ∃ t1,(∀ i,t1.get i=t.get i)∧((Region.wanted o (yielded ⟨all⟩ a.tmps)=true∧LF bb t1 A (fun v A=>k (mj t1 o.dst v) A) (bG P cfg o.op)=some r)∨
      (Region.wanted o (yielded ⟨all⟩ a.tmps)=false∧k (mj t1 o.dst mV) A=some r)):=by
  unfold rG at h
  cases hg:o.guard with
  | none=>
    rw [hg] at h
    refine ⟨t,fun _=>rfl,.inl ⟨?_,h⟩⟩
    unfold Region.wanted
    rw [hg]
  | some p=>
    obtain ⟨j,want⟩:=p
    rw [hg] at h
    exact YD hg ht h
theorem FG {R:Type} {cfg:c9} {bb:jG R} (gX:qE P cfg.pc) (wQ:Br P bb) {N base:Nat} {Q:Exit→Act→World→Prop} {all:List Oper} (hd:all.all (mc N)=true) {k:bd→ak→Option R} {r:R} :
    ∀ (os:List Oper) (j:Nat) (t:bd) (E:Env) (A:ak) (B:St) (ρ:aw) (a:Act) (w:World),all.drop j=os→oU P cfg bb all k os t A=some r→iK P E ρ t N a→KJ P E A B ρ base w→
      (∀ t' E' A' B' aq a' w',k t' A' = some r→iK P E' aq t' N a'→a'.defers=a.defers→Ev P base E A B ρ w E' A' B' aq w'→Q .normal a' w')→wpOps P ⟨all⟩ Q (List.range' j os.length) a w
  | [],j,t,E,A,B,ρ,a,w,_,h,ht,hj,hq=>hq t E A B ρ a w h ht rfl (.refl hj.k hj.s)
  | o :: os,j,t,E,A,B,ρ,a,w,hk,h,ht,hj,hq=>by
    have ho:(⟨all⟩:Array Oper)[j]? = some o:=by
      have:(all.drop j)[0]? = some o:=by rw [hk]; rfl
      rw [List.getElem?_drop] at this
      simpa using this
    have qc:all.drop (j+1)=os:=by rw [← List.drop_drop,hk]; rfl
    have jd:∀ d,o.dst=some d→d < N:=by
      intro d e
      have hm:o ∈ all:=List.mem_of_getElem? (by simpa using ho)
      have:=List.all_eq_true.1 hd o hm
      unfold mc at this
      rw [e] at this
      simp only at this
      rw [Nat.blt_eq] at this
      exact this
    rw [List.length_cons,List.range'_succ]
    simp only [wpOps,ho]
    have h:rG P cfg bb all o (oU P cfg bb all k os) t A=some r:=h
    obtain ⟨t1,wG,h⟩:=aaI ht h
    have uo:=ht.same wG
    rcases h with ⟨hw,h⟩ | ⟨hw,h⟩
    · rw [hw]
      refine .inl (Qz gX wQ h uo hj fun E' A' B' aq v v' w' h1 h2 h3=>?_)
      refine FG gX wQ hd os (j+1) _ E' A' B' aq _ w' qc h1 ((uo.mono h3.le (h3.dj.le hj.s)).put jd h2) h3.kj fun t' zQ A'' C0 iP Fh sX h4 h5 h6 h7=>?_
      exact hq t' zQ A'' C0 iP Fh sX h4 h5 (by rw [h6,put_defers]) (h3.trans h7)
    · rw [hw]
      refine FG gX wQ hd os (j+1) _ E A B ρ _ w qc h (uo.put jd .undef) hj fun t' zQ A'' C0 iP Fh sX h4 h5 h6 h7=>?_
      exact hq t' zQ A'' C0 iP Fh sX h4 h5 (by rw [h6,put_defers]) h7
abbrev Out:=Bool×KV×ak
inductive Run (P:Program) (cfg:c9) (all:List Oper):List Oper→bd→ak→List Out→bd→ak→Prop where
  | nil {t:bd} {A:ak} : Run P cfg all [] t A [] t A
  | cons {o:Oper} {os:List Oper} {t t1 t' : bd} {A A1 A' : ak} {wd:Bool} {v:KV} {L:List Out}
      (same:∀ i,t1.get i=t.get i)
      (want:(o.guard=none∧wd=true)∨∃ j want d,o.guard=some (j,want)∧(all[j]?).bind (·.dst)=some d∧((∃ b,t.get d=some (.bool b)∧wd=(b == want))∨(∃ l,t.get d=some (.fI l)∧wd=false)))
      (yes:wd=true→aE (nE (bG P cfg o.op) t1 A) (v,A1)) (no:wd=false→v=mV∧A1=A)
      (rest:Run P cfg all os (mj t1 o.dst v) A1 L t' A'):Run P cfg all (o :: os) t A ((wd,v,A1) :: L) t' A'
theorem JR {R:Type} {t:bd} {d:Option Tmp} {want:Bool} {yes no:bd→Option R} {r:R} (h:aag t d want yes no=some r) :
    ∃ d',d=some d'∧((∃ b t',t.get d' = some (.bool b)∧(∀ i,t'.get i=t.get i)∧((b == want)=true∧yes t' = some r∨(b == want)=false∧no t' = some r))∨∃ l,t.get d' = some (.fI l)∧no t=some r):=by
  unfold aag at h
  cases d with
  | none=>exact absurd h (by simp)
  | some d=>
    refine ⟨d,rfl,?_⟩
    have h:BK.rec (motive:=fun _=>Option R)
      (fun b=>Bool.rec (motive:=fun _=>Option R)
        (Bool.rec (motive:=fun _=>Option R) (yes (t.set (.bool false) d)) (no (t.set (.bool false) d)) want)
        (Bool.rec (motive:=fun _=>Option R) (no (t.set (.bool true) d)) (yes (t.set (.bool true) d)) want) b)
      (no t) none (nY ((t.get d).getD .av))=some r:=h
    have eM:∀ v,(t.get d).getD .av=v→v≠.av→t.get d=some v:=by
      intro v e bo
      cases hg:t.get d with
      | none=>rw [hg] at e; exact absurd e.symm bo
      | some u=>rw [hg] at e; simp at e; rw [e]
    cases hb:nY ((t.get d).getD .av) with
    | no=>rw [hb] at h; exact absurd h (by simp)
    | fI=>
      rw [hb] at h
      obtain ⟨l,hl⟩:=TX hb
      exact .inr ⟨l,eM _ hl (by simp),h⟩
    | bool b=>
      rw [hb] at h
      refine .inl ⟨b,t.set (.bool b) d,eM _ (wg hb) (by simp),CY hb,?_⟩
      cases b <;> cases want
      · exact .inl ⟨rfl,h⟩
      · exact .inr ⟨rfl,h⟩
      · exact .inr ⟨rfl,h⟩
      · exact .inl ⟨rfl,h⟩
theorem LU {R:Type} {cfg:c9} {bb:jG R} {all:List Oper} {k:bd→ak→Option R} {r:R} : ∀ {os:List Oper} {t:bd} {A:ak},(∀ o ∈ os,∀ f args,bG P cfg o.op≠.call f args)→oU P cfg bb all k os t A=some r→
    ∃ L t' A',Run P cfg all os t A L t' A'∧k t' A' = some r
  | [],t,A,_,h=>⟨[],t,A,.nil,h⟩
  | o :: os,t,A,hn,h=>by
    have h:rG P cfg bb all o (oU P cfg bb all k os) t A=some r:=h
    have Cs:=fun q hq=>hn q (List.mem_cons_of_mem o hq)
    unfold rG at h
    cases hg:o.guard with
    | none=>
      rw [hg] at h
      obtain ⟨v,A1,h1,h2⟩:=y3 (hn o (by simp)) h
      obtain ⟨L,t',A',h3,h4⟩:=LU Cs h2
      exact ⟨_,t',A',.cons (fun _=>rfl) (.inl ⟨hg,rfl⟩) (fun _=>h1) (fun e=>by simp at e) h3,h4⟩
    | some p=>
      obtain ⟨j,want⟩:=p
      rw [hg] at h
      obtain ⟨d,hd,h⟩:=JR h
      rcases h with ⟨b,t1,h1,h2,h3⟩ | ⟨l,h1,h2⟩
      · rcases h3 with ⟨h3,h4⟩ | ⟨h3,h4⟩
        · obtain ⟨v,A1,h5,h6⟩:=y3 (hn o (by simp)) h4
          obtain ⟨L,t',A',h7,h8⟩:=LU Cs h6
          exact ⟨_,t',A',.cons h2 (.inr ⟨j,want,d,hg,hd,.inl ⟨b,h1,h3.symm⟩⟩) (fun _=>h5) (fun e=>by simp at e) h7,h8⟩
        · obtain ⟨L,t',A',h7,h8⟩:=LU Cs h4
          exact ⟨_,t',A',.cons h2 (.inr ⟨j,want,d,hg,hd,.inl ⟨b,h1,h3.symm⟩⟩) (fun e=>by simp at e) (fun _=>⟨rfl,rfl⟩) h7,h8⟩
      · obtain ⟨L,t',A',h7,h8⟩:=LU Cs h2
        exact ⟨_,t',A',.cons (fun _=>rfl) (.inr ⟨j,want,d,hg,hd,.inr ⟨l,h1,rfl⟩⟩) (fun e=>by simp at e) (fun _=>⟨rfl,rfl⟩) h7,h8⟩
noncomputable def turns (P:Program) (cfg:c9) (o:Oper) (x:Out):Bool:=x.1 && Nat.ble 3 (cY (bG P cfg o.op))
noncomputable def jR (S:Nat→Bool):List Oper→List Out→Nat→bd→bd
  | o :: os,x :: L,i,t=>jR S os L (i+1) (cond (S i) (mj t o.dst x.2.1) t)
  | _,_,_,t=>t
noncomputable def iV (P:Program) (cfg:c9) (S:Nat→Bool):List Oper→List Out→Nat→ak→ak
  | o :: os,x :: L,i,A=>iV P cfg S os L (i+1) (cond (S i && turns P cfg o x) x.2.2 A)
  | _,_,_,A=>A
theorem pC (t:bd) (dst:Option Tmp) (v:KV) (x:Tmp):(mj t dst v).get x=if dst=some x then some v else t.get x:=by
  cases dst with
  | none=>rfl
  | some d=>
    simp only [mj,Trie.fv,Option.some.injEq]
    by_cases h:x=d
    · rw [if_pos h,if_pos h.symm]
    · rw [if_neg h,if_neg (Ne.symm h)]
theorem x6 (S:Nat→Bool):∀ (os:List Oper) (L:List Out) (k:Nat) (t:bd),jR S os L (k+1) t=jR (fun i=>S (i+1)) os L k t
  | [],L,k,t=>by cases L <;> rfl
  | o :: os,[],k,t=>rfl
  | o :: os,x :: L,k,t=>by simp only [jR]; exact x6 S os L (k+1) _
theorem JS {cfg:c9} (S:Nat→Bool):∀ (os:List Oper) (L:List Out) (k:Nat) (A:ak),iV P cfg S os L (k+1) A=iV P cfg (fun i=>S (i+1)) os L k A
  | [],L,k,t=>by cases L <;> rfl
  | o :: os,[],k,t=>rfl
  | o :: os,x :: L,k,t=>by simp only [iV]; exact JS S os L (k+1) _
theorem gY {S S' : Nat→Bool} {y:Tmp} : ∀ {os:List Oper} {L:List Out} {k:Nat} {t t' : bd},t.get y=t'.get y→(∀ i o,os[i]? = some o→o.dst=some y→S (k+i)=S' (k+i))→(jR S os L k t).get y=(jR S' os L k t').get y
  | [],L,k,t,t',h,_=>by cases L <;> exact h
  | o :: os,[],k,t,t',h,_=>h
  | o :: os,x :: L,k,t,t',h,hs=>by
    simp only [jR]
    refine gY ?_ fun i o' ho hd=>by have:=hs (i+1) o' (by simpa using ho) hd; rwa [show k+(i+1)=k+1+i by omega] at this
    by_cases hd:o.dst=some y
    · have:=hs 0 o rfl hd
      rw [Nat.add_zero] at this
      rw [this]
      cases S' k with
      | true=>simp only [cond_true,pC,if_pos hd]
      | false=>exact h
    · have e:∀ (b:Bool) (u:bd),(cond b (mj u o.dst x.2.1) u).get y=u.get y:=by
        intro b u
        cases b with
        | true=>rw [cond_true,pC,if_neg hd]
        | false=>rfl
      rw [e,e]; exact h
theorem TY {S:Nat→Bool} {y:Tmp} : ∀ {os:List Oper} {L:List Out} {k i:Nat} {t:bd} {o:Oper} {x:Out},os[i]? = some o→L[i]? = some x→o.dst=some y→(∀ j q,os[j]? = some q→q.dst=some y→i < j→S (k+j)=false)→
    (jR (aZ S (k+i)) os L k t).get y=some x.2.1
  | [],L,k,i,t,o,x,ho,_,_,_=>by simp at ho
  | q :: os,[],k,i,t,o,x,_,hx,_,_=>by simp at hx
  | q :: os,u :: L,k,0,t,o,x,ho,hx,hd,hs=>by
    simp at ho hx
    subst ho hx
    simp only [jR,Nat.add_zero]
    have hk:aZ S k k=true:=by simp [aZ]
    rw [hk,cond_true]
    have:=gY (S:=aZ S k) (S':=fun _=>false) (y:=y) (os:=os) (L:=L) (k:=k+1) (t:=mj t q.dst u.2.1) (t':=mj t q.dst u.2.1) rfl (fun j q' hq TZ=>by
      have h1:=hs (j+1) q' (by simpa using hq) TZ (by omega)
      rw [show k+(j+1)=k+1+j by omega] at h1
      simp only [aZ,h1,Bool.false_or]
      cases hb:Nat.beq (k+1+j) k with
      | false=>rfl
      | true=>have:=Nat.eq_of_beq_eq_true hb; omega)
    rw [this]
    have qe:∀ (os:List Oper) (L:List Out) (k:Nat) (t:bd),jR (fun _=>false) os L k t=t:=by
      intro os
      induction os with
      | nil=>intro L k t; cases L <;> rfl
      | cons o os ih=>intro L k t; cases L with
        | nil=>rfl
        | cons x L=>simp only [jR,cond_false]; exact ih L _ t
    rw [qe,pC,if_pos hd]
  | q :: os,u :: L,k,i+1,t,o,x,ho,hx,hd,hs=>by
    simp only [jR]
    rw [show k+(i+1)=k+1+i by omega]
    exact TY (by simpa using ho) (by simpa using hx) hd fun j q' hq TZ aY=>by
      have:=hs (j+1) q' (by simpa using hq) TZ (by omega)
      rwa [show k+(j+1)=k+1+j by omega] at this
theorem y4 {cfg:c9} {S S' : Nat→Bool} : ∀ {os:List Oper} {L:List Out} {k:Nat} {A:ak},(∀ i o x,os[i]? = some o→L[i]? = some x→turns P cfg o x=true→S (k+i)=S' (k+i))→iV P cfg S os L k A=iV P cfg S' os L k A
  | [],L,k,A,_=>by cases L <;> rfl
  | o :: os,[],k,A,_=>rfl
  | o :: os,x :: L,k,A,h=>by
    simp only [iV]
    have h0:(S k && turns P cfg o x)=(S' k && turns P cfg o x):=by
      cases ht:turns P cfg o x with
      | false=>simp
      | true=>have:=h 0 o x rfl rfl ht; rw [Nat.add_zero] at this; rw [this]
    rw [h0]
    exact y4 fun i o' x' ho hx ht=>by have:=h (i+1) o' x' (by simpa using ho) (by simpa using hx) ht; rwa [show k+(i+1)=k+1+i by omega] at this
def LV (all:List Oper) (o:Oper) (t:bd) (wd:Bool):Prop:=(o.guard=none∧wd=true)∨∃ j want d,o.guard=some (j,want)∧(all[j]?).bind (·.dst)=some d∧((∃ b,t.get d=some (.bool b)∧wd=(b == want))∨(∃ l,t.get d=some (.fI l)∧wd=false))
theorem uZ {cfg:c9} {o:Oper} {t:bd} {A A1:ak} {v:KV} (h:aE (nE (bG P cfg o.op) t A) (v,A1)) (hk:Nat.ble 3 (cY (bG P cfg o.op))=false):A1=A:=by
  generalize bG P cfg o.op=ins at h hk
  cases ins with
  | pure f xs=>obtain ⟨u,_,h2⟩:=aE.map h; simp at h2; exact h2.2.symm
  | read f xs=>obtain ⟨u,_,h2⟩:=aE.map h; simp at h2; exact h2.2.symm
  | act f xs=>exact absurd hk (by simp [cY])
  | look f xs=>obtain ⟨u,_,h2⟩:=aE.map h; simp at h2; exact h2.2.symm
  | wO g f xs=>obtain ⟨u,_,h2⟩:=aE.map h; simp at h2; exact h2.2.symm
  | zJ g f xs=>exact absurd hk (by simp [cY])
  | call f xs=>exact h.elim
  | bad=>exact h.elim
theorem Run.at {cfg:c9} {all:List Oper} : ∀ {os:List Oper} {t t' : bd} {A A' : ak} {L:List Out},Run P cfg all os t A L t' A'→
    L.length=os.length∧(∀ y,t'.get y=(jR (fun _=>true) os L 0 t).get y)∧A' = iV P cfg (fun _=>true) os L 0 A∧
    ∀ i o x,os[i]? = some o→L[i]? = some x→∃ t1,(∀ y,t1.get y=(jR (fun j=>Nat.blt j i) os L 0 t).get y)∧LV all o t1 x.1∧(x.1=true→aE (nE (bG P cfg o.op) t1 (iV P cfg (fun j=>Nat.blt j i) os L 0 A)) (x.2.1,x.2.2))∧(x.1=false→x.2.1=mV)
  | _,_,_,_,_,_,.nil=>⟨rfl,fun _=>rfl,rfl,fun i o x ho=>by simp at ho⟩
  | o :: os,t,t',A,A',(wd,v,A1) :: L,.cons (t1:=t1) same want yes no rest=>by
    obtain ⟨h1,h2,h3,h4⟩:=rest.at
    have hA1:cond (turns P cfg o (wd,v,A1)) A1 A=A1:=by
      cases ht:turns P cfg o (wd,v,A1) with
      | true=>rfl
      | false=>
        rw [cond_false]
        cases wd with
        | false=>exact (no rfl).2.symm
        | true=>exact (uZ (yes rfl) (by simpa [turns] using ht)).symm
    have Dx:∀ y,(mj t1 o.dst v).get y=(mj t o.dst v).get y:=fun y=>by rw [pC,pC,same]
    refine ⟨by simp [h1],fun y=>?_,?_,fun i q x hq hx=>?_⟩
    · rw [h2 y]
      simp only [jR,cond_true]
      rw [x6]
      exact gY (Dx y) fun _ _ _ _=>rfl
    · rw [h3]
      simp only [iV,Bool.true_and]
      rw [JS,hA1]
    · cases i with
      | zero=>
        simp at hq hx
        subst hq hx
        have e0:∀ (os:List Oper) (L:List Out) (k:Nat) (t:bd),jR (fun j=>Nat.blt j 0) os L k t=t:=by
          intro os
          induction os with
          | nil=>intro L k t; cases L <;> rfl
          | cons o os ih=>intro L k t; cases L with
            | nil=>rfl
            | cons x L=>simp only [jR]; exact ih L _ t
        have e1:∀ (os:List Oper) (L:List Out) (k:Nat) (A:ak),iV P cfg (fun j=>Nat.blt j 0) os L k A=A:=by
          intro os
          induction os with
          | nil=>intro L k t; cases L <;> rfl
          | cons o os ih=>intro L k t; cases L with
            | nil=>rfl
            | cons x L=>simp only [iV]; exact ih L _ t
        refine ⟨t1,fun y=>by rw [e0]; exact same y,?_,fun e=>by rw [e1]; exact yes e,fun e=>(no e).1⟩
        rcases want with h | ⟨j,wt,d,e2,e3,e4⟩
        · exact .inl h
        · exact .inr ⟨j,wt,d,e2,e3,by rw [same]; exact e4⟩
      | succ i=>
        obtain ⟨t2,h5,h6,h7,h8⟩:=h4 i q x (by simpa using hq) (by simpa using hx)
        have hsh:(fun j=>Nat.blt (j+1) (i+1))=fun j=>Nat.blt j i:=by
          funext j
          cases hb:Nat.blt j i with
          | true=>rw [Nat.blt_eq] at hb ⊢; omega
          | false=>
            cases hc:Nat.blt (j+1) (i+1) with
            | false=>rfl
            | true=>rw [Nat.blt_eq] at hc; rw [show Nat.blt j i=true from by rw [Nat.blt_eq]; omega] at hb; simp at hb
        have h01:Nat.blt 0 (i+1)=true:=by rw [Nat.blt_eq]; omega
        have hX:iV P cfg (fun j=>Nat.blt j (i+1)) (o :: os) ((wd,v,A1) :: L) 0 A=iV P cfg (fun j=>Nat.blt j i) os L 0 A1:=by
          simp only [iV,h01,Bool.true_and]
          rw [JS,hA1,hsh]
        refine ⟨t2,fun y=>?_,h6,fun e=>by rw [hX]; exact h7 e,h8⟩
        rw [h5 y]
        simp only [jR,h01,cond_true]
        rw [x6,hsh]
        exact gY (Dx y) fun _ _ _ _=>rfl
end Go.K
end
