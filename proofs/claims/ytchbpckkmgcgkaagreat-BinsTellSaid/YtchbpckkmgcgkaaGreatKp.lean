/- Part of the proof of BinsTell: the machine, shown to be the model's, and plain models. No conditions. -/
import Derived.Test.YtchbpckkmgcgkaaGreatIp
import Derived.Test.YtchbpckkmgcgkaaGreatJp
import Derived.Test.YtchbpckkmgcgkaaGreatHp
import Derived.Below
import Derived.ChangeSame
import Derived.ProofKit
import Derived.Test.YtchbpckkmgcgkaaGreatGp
import Derived.WideKeyArgs
import Derived.SizedLaws
set_option linter.unusedSimpArgs false
set_option linter.unusedVariables false
section
namespace Go.Proofs.YtchbpckkmgcgkaaGreat.b
open Go.K Go.K.fj
open Go.aB (ai)
theorem ao7 {a b:Sl Int} (h:eo a=eo b) (hn:a.n<=1000000):s9 a b=some true:=by
 obtain ⟨h1,h2⟩:=alT h;obtain ⟨e,z,hz,rfl⟩:∃ e z,ql a b = .out e z/\e = .exit 0:=by
  unfold ql;refine bp (step:=ml) (fun j y=>(∃ t4,y=⟨a,b,t4,(j:Int)⟩)/\j<=a.n) _ a.n (by have:eS=10000000000000:=rfl; omega) (fun j y hj ⟨⟨t4,hy⟩,f4⟩=>?_) ⟨⟨_,rfl⟩,cw _⟩;subst hy;unfold ml bj;by_cases a8:(j:Int) < ((a.n:Nat):Int)
  ·have hg:a.get j=b.get j:=h2 j (by omega)
   rw [aw (n:=(j:Int)+1)];simp only [cm,hg,aj,aq,bI,hO,ao a8,ao (show (0:Int)<=(j:Int) by omega),ao (show (j:Int) < ((b.n:Nat):Int) by omega)];exact .inl ⟨_,rfl,by omega,⟨_,rfl⟩,by omega⟩
  ·simp only [aq,ax a8]
   exact .inr ⟨_,_,rfl,rfl,rfl⟩
 have b1:(ql a b).by (.exit 0)=true:=by rw [hz]; rfl
 unfold s9;simp only [b1,h1,hO,aq,aj]
theorem al0 (items:Sl Int) (l:Sl aJ) (t4:Bool) (i2:Sl Int) (d2:Sl aJ) (t u:Sl bO) (s own:Show) (hn:t.n=u.n) (h64:t.n<=64) (h:∀ k,k < t.n->t.get k=u.get k) :
  ∃ i:Int,goN fV ⟨items,l,t4,i2,d2,t,u,0,s,own⟩ = .out (.exit 0) ⟨items,l,t4,i2,d2,t,u,i,s,own⟩:=by
 obtain ⟨e,z,hz,rfl,i,rfl⟩:∃ e z,goN fV ⟨items,l,t4,i2,d2,t,u,0,s,own⟩ = .out e z/\(e = .exit 0/\∃ i:Int,z=⟨items,l,t4,i2,d2,t,u,i,s,own⟩):=by
  refine bp (step:=fV) (fun j y=>y=⟨items,l,t4,i2,d2,t,u,(j:Int),s,own⟩/\j<=t.n) _ t.n (by have:eS=10000000000000:=rfl; omega) (fun j y hj ⟨hy,f4⟩=>?_) ⟨rfl,cw _⟩;subst hy;unfold fV bj aF;by_cases a8:(j:Int) < ((t.n:Nat):Int)
  ·have hg:t.get j=u.get j:=h j (by omega)
   rw [aw (n:=(j:Int)+1)];simp only [cm,hg,aH,aj,aq,bI,AK,kW,ao a8,ao (show (0:Int)<=(j:Int) by omega),ao (show (j:Int) < ((u.n:Nat):Int) by omega)];exact .inl ⟨_,rfl,by omega,rfl,by omega⟩
  ·simp only [aH,aj,aq,ax a8]
   exact .inr ⟨_,_,rfl,rfl,rfl,(j:Int),rfl⟩
 exact ⟨i,hz⟩
theorem adC (x y:Int) (s:Show) (c:aE) (items:Sl Int) (l:Sl aJ) (w:bO) (h8:S8 s) (hl:l.n * 16<=140737488351232):Bo x y s c items l w=some true:=by
 obtain ⟨gr,Ys⟩:=abv (alQ s);have e0:DS x y s c items l w=some gr:=Ys;unfold Bo aF;simp only [e0,bN,bG,aj];cases gr with
 | true=>rfl
 | false=>
 rw [aq];by_cases c1:((items.n:Nat):Int) > 500
 ·rw [ao c1]; rfl
 rw [ax c1,aq];have hs:=ajy Ys;obtain ⟨own,ho,CU⟩:=am5 hs;have e1:ob x y s c items l w=some own:=ho;obtain ⟨t,u,et,ht,hu,Kh,h64,htu⟩:=alC x y;obtain ⟨⟨a,b,ea,ha,hb,hab,han⟩,p,q,ep,hp,hq,hpq,hpn⟩:=alV CU items (by omega);obtain ⟨m,n,em,hm,hn,hmn,Un⟩:=alZ CU h8 c l w;have e2:lV x y s c items l w=some (t,et):=ht;have e3:lW x y s c items l w=some (u,et):=hu;have e4:lX x y s c items l w=some (a,ea):=by unfold lX; rw [e1,IC]; exact ha
 have e5:qm x y s c items l w=some (b,ea):=hb;have e6:lY x y s c items l w=some (p,ep):=by unfold lY; rw [e1,IC]; exact hp
 have e7:qo x y s c items l w=some (q,ep):=hq;have e8:lZ x y s c items l w=some (m,em):=by unfold lZ; rw [e1,IC]; exact hm
 have e9:qp x y s c items l w=some (n,em):=hn;have e10:pe x y s c items l w=some true:=by unfold pe; rw [e4,e5]; exact ad4 hab (by show a.n<=_; omega)
 have e11:pf x y s c items l w=some true:=by unfold pf; rw [e6,e7]; exact ad4 hpq (by show p.n<=_; omega)
 have e12:pg x y s c items l w=some true:=by unfold pg; rw [e8,e9]; exact ad4 hmn (by show m.n<=_; omega)
 obtain ⟨i,hi⟩:=al0 items l false items l t u s own Kh h64 htu;have e13:dP x y s c items l w = .out (.exit 0) ⟨items,l,false,items,l,t,u,i,s,own⟩:=by unfold dP; rw [e1,e2,e3,IC,IC]; exact hi
 have e14:ph x y s c items l w=some true:=by unfold ph; rw [e13]; exact ao0 hs CU
 have e15:pj x y s c items l w=some true:=by unfold pj; rw [e13]; exact ao7 rfl (by show items.n<=_; omega)
 have e16:pk x y s c items l w=some true:=by unfold pk; rw [e13]; exact ad4 rfl (by show l.n<=_; omega)
 have b13:(dP x y s c items l w).by (.exit 0)=true:=by rw [e13]; rfl
 have a1:gi 8 0 items.n=true:=Fq;have a2:gi 16 0 l.n=true:=abu (by omega) (by omega);by_cases c2:((l.n:Nat):Int) > 500
 ·by_cases c3:((l.n:Nat):Int)<=16384
  ·rw [ao c2,ao c3]; rfl
  ·simp only [ao c2,ax c3,e1,e2,e3,e4,e5,e6,e7,e8,e9,e10,e11,e12,e14,e15,e16,b13,a1,a2,Kh,aH,bN,bG,aj,aq,hO,kW]
 ·simp only [ax c2,e1,e2,e3,e4,e5,e6,e7,e8,e9,e10,e11,e12,e14,e15,e16,b13,a1,a2,Kh,aH,bN,bG,aj,aq,hO,kW]
end Go.Proofs.YtchbpckkmgcgkaaGreat.b
end
section
namespace Go.aB
open Go.RowKit Go.WideShapes Go.ChangeShapes
theorem al1 {H:Type} {enc:TypeId×Value->H} {P:Program} {f:Func} {s:ChangeSpec} {apart fresh handsOn again:Bool} {W W' : World} {args:Array Value} {v:Value} {ds gs:List (DataW H)} {before pa pv:List MemPlace}
  (whole:DataW.Whole enc P f.params.toList s.vars apart W args.toList ds gs before) (below:Below W.heap.size W W') (ad5:before=pa++pv)
  (res:∀ (b:Nat) (sp:Nat->Bool) (hd:Bool),DataW.TrodAll enc P W' b sp hd f.resultTypes.toList (v.resultList f.resultTypes.size) (s.fn H (ds++gs)).results [])
  (arg:∀ sp:Nat->Bool,(∀ p∈before,sp p.block=true)->DataW.TrodAll enc P W' 0 sp true f.params.toList args.toList (s.fn H (ds++gs)).args pa)
  (var:∀ sp:Nat->Bool,(∀ p∈before,sp p.block=true)->DataW.TrodVars enc P W' sp s.vars (s.fn H (ds++gs)).vars pv)
  (wide:∀ (j:Nat) (t:TypeId) (r:Value),f.resultTypes[j]? = some t->(v.resultList f.resultTypes.size)[j]? = some r->Value.okWide P W' .any 0 t r) :
  s.post enc P f apart fresh handsOn again W args v W':=by
 have lt:∀ p∈before,p.block < W.heap.size:=fun p hp=>whole.lt p hp;have gX:∀ p∈before,(fun b=>decide (b < W.heap.size)) p.block=true:=fun p hp=>by simpa using lt p hp
 refine ⟨ds,gs,before,[],pa,pv,whole,res _ _ _,arg _ gX,var _ gX,World.keptBut_mono (fun p hp=>⟨hp,?_⟩) (below.frame (·∈before)),fun _=>?_⟩
 ·rw [ad5,oM] at hp; exact Or.inr hp
 ·obtain ⟨_,_,_,_,_,fz,nd⟩:=whole
  refine ⟨wide,_,_,([]++pa)++pv,⟨[]++pa,pv,trodAll_append (arg _ (fun _ _=>rfl)) (res _ _ _),var _ (fun _ _=>rfl),rfl,fun b off hp=>?_,fun ha=>?_⟩,fun p hp _=>?_⟩
  ·have here:MemPlace.cell b off∈before:=by rw [ad5]; simpa using hp
   rw [below.frozen (lt _ here)];exact fz b off here
  ·have:=nd ha
   rw [ad5] at this;simpa using this
  ·rw [ad5]; simpa using hp
end Go.aB
end
section
namespace Go.K
open Go Go.aB Go.RowKit Go.WideShapes Go.ChangeShapes
section
variable {H:Type} {enc:TypeId×Value->H} {P:Program} {W W' : World}
theorem ZY {base:Nat} {sp:Nat->Bool} {held:Bool} : ∀ {ts:List TypeId} {vs:List Value} {ds:List (DataW H)} {ps:List MemPlace},DataW.TrodAll enc P W base sp held ts vs ds ps->ds.length=ts.length
 | [],_,_,_,h=>by
  obtain ⟨rfl,rfl,rfl⟩:=trodAll_nil h;rfl
 | t::ts,vs,ds,ps,h=>by
  obtain ⟨v,vs1,d,ds1,a,b,rfl,rfl,rfl,_,h2⟩:=trodAll_cons h;simp [ZY h2]
theorem Fx {α:Type} {n:Nat} {l:List α} (h:l.length=n+1):∃ x xs,l=x::xs:=by
 cases l with
 | nil=>simp at h
 | cons x xs=>exact ⟨x,xs,rfl⟩
theorem Ty (hl:laidOutB P=true) (hb:Below W.heap.size W W') {sp:Nat->Bool} : ∀ {ts:List TypeId} {vs:List Value} {ds:List (DataW H)} {ps:List MemPlace},ts.all (fun t=>P.readableRec t&&Nat.blt t P.types.size)=true->
  DataW.TrodAll enc P W 0 (fun _=>true) true ts vs ds ps->(∀ x∈ps,x.block < W.heap.size)->(∀ x∈ps,sp x.block=true)->DataW.TrodAll enc P W' 0 sp true ts vs ds ps
 | [],_,_,_,_,h,_,_=>by
  obtain ⟨rfl,rfl,rfl⟩:=trodAll_nil h;exact trodAll_mk0
 | t::ts,vs,ds,ps,ht,h,a8,xI=>by
  obtain ⟨v,vs1,d,ds1,a,b,rfl,rfl,rfl,h1,h2⟩:=trodAll_cons h;simp only [List.all_cons,aD] at ht;obtain ⟨⟨hr,jZ⟩,ht⟩:=ht;rw [bT] at jZ;refine ⟨a,b,WideElems.Trod_stays hl hr jZ h1 (fun x hx=>hb.same (a8 x (by simp [hx]))) (fun x hx=>xI x (by simp [hx])),?_,rfl⟩;exact Ty hl hb ht h2 (fun x hx=>a8 x (by simp [hx])) (fun x hx=>xI x (by simp [hx]))
theorem ao9 {s:ChangeSpec} {f:Func} {apart fresh handsOn again:Bool} {args:Array Value} {ds gs:List (DataW H)} {before:List MemPlace} (hl:laidOutB P=true) (hts:f.params.toList.all (fun t=>P.readableRec t&&Nat.blt t P.types.size)=true)
  (aq2:s.vars = []) (as3:(s.fn H ds).args=ds) (akG:(s.fn H ds).results = [.lit (.bool true)]) (hv:(s.fn H ds).vars = []) {t:TypeId} (hrt:f.resultTypes = #[t]) (hb:P.underlying t=some .bool)
  (hW:DataW.Whole enc P f.params.toList s.vars apart W args.toList ds gs before) (hg:Below W.heap.size W W'):s.post enc P f apart fresh handsOn again W args (.bool true) W':=by
 have hW':=hW;obtain ⟨p,q,hA,hV,asp,_,_⟩:=hW;rw [aq2] at hV;obtain ⟨rfl,rfl⟩:=trodVars_none hV;rw [lM] at asp;subst asp;have a8:∀ x∈before,x.block < W.heap.size:=fun x hx=>hW'.lt x (by simpa using hx);refine aB.al1 (pa:=before) (pv:=[]) hW' hg (by simp) (fun b sp hd=>?_) (fun sp xI=>?_) (fun sp xI=>?_) (ok_one hrt rfl (okWide_bool_mk hb _))
 ·rw [lM,akG,hrt]
  exact trodAll_cons_mk (shut_bool hb _) trodAll_mk0
 ·rw [lM,as3]
  exact Ty hl hg hts hA a8 (fun x hx=>xI x (by simpa using hx))
 ·rw [lM,hv,aq2]
  rfl
end
end Go.K
end
section
namespace Go.K
open Go Go.aB
variable {P:Program} {H:Type} {enc:TypeId×Value->H} {W:World}
theorem acQ {b:Nat} {sp:Nat->Bool} {hd:Bool} : ∀ {ts:List TypeId} {vs:List Value} {ds:List (DataW H)} {ps:List MemPlace} {j:Nat} {t:TypeId},DataW.TrodAll enc P W b sp hd ts vs ds ps->ts[j]? = some t->
  ∃ v d p,vs[j]? = some v/\ds[j]? = some d/\DataW.Trod enc P W b sp hd t v d p
 | [],_,_,_,_,_,_,h=>by simp at h
 | t::ts,vs,ds,ps,0,_,h,e=>by
  obtain ⟨v,vs1,d,ds1,a,b,rfl,rfl,rfl,h1,h2⟩:=Go.ChangeShapes.trodAll_cons h;simp only [List.getElem?_cons_zero,db] at e;subst e;exact ⟨v,d,a,rfl,rfl,h1⟩
 | t::ts,vs,ds,ps,j+1,_,h,e=>by
  obtain ⟨v,vs1,d,ds1,a,b,rfl,rfl,rfl,h1,h2⟩:=Go.ChangeShapes.trodAll_cons h;exact acQ (ts:=ts) (j:=j) h2 (by simpa using e)
theorem ZZ {ts vt:List TypeId} {vs:List Value} {ds gs:List (DataW H)} {ps:List MemPlace} {j:Nat} {t e:TypeId} {a:Option Addr} {n c:Nat} (h:DataW.TrodAll enc P W 0 (fun _=>true) true ts vs ds ps)
  (hz:(DataW.weightsEach P (ts++vt) (ds++gs)).all (·<=reachBytes)=true) (ht:ts[j]? = some t) (hu:P.underlying t=some (.slice e)) (hv:vs[j]? = some (.slice a n c)):n * P.bytesOf e<=reachBytes:=by
 obtain ⟨v,d,p,h1,h2,f,h3⟩:=acQ h ht;rw [hv] at h1;have:=uf h1;subst this;rcases DataW.trod_slice hu h3 with ⟨e1,_⟩ | ⟨a',len,cap,elems,rest,fu,_,e1,e2,_,_,_,DY,_⟩
 ·have e1 : [Value.slice a n c] = [.slice none 0 0]:=e1
  simp only [List.cons.injEq,Value.slice.injEq,and_true] at e1;obtain ⟨_,rfl,_⟩:=e1;rw [Nat.zero_mul];exact cw _
 ·have e1 : [Value.slice a n c] = [.slice (some a') len cap]:=e1
  simp only [List.cons.injEq,Value.slice.injEq,and_true] at e1;obtain ⟨_,rfl,_⟩:=e1;have hd:d = .slice (elems.map (·.1)) (rest.map (·.1)):=congrArg (·.1) e2;rw [hd] at h2;have:=sized_slice hz ((pR (c8.1 ht).1).trans ht) ((pR (c8.1 h2).1).trans h2) hu;rw [List.length_map,List.length_map,DY] at this;exact oO (Nat.mul_le_mul_right _ (FB _ _)) this
theorem Z0:∀ {ts:List TypeId} {xs:List KV} {i:Nat} {t:TypeId},j9 P ts xs=true->ts[i]? = some t->∃ x,xs[i]? = some x/\cC (bu P t) x=true
 | [],_,_,_,_,ht=>by simp at ht
 | _::_,[],_,_,h,_=>by simp [j9] at h
 | t::ts,x::xs,0,_,h,ht=>by
  simp only [List.getElem?_cons_zero,db] at ht;subst ht;simp only [j9,aD] at h;exact ⟨x,rfl,h.1⟩
 | t::ts,x::xs,i+1,_,h,ht=>by
  simp only [j9,aD] at h;exact Z0 (ts:=ts) (xs:=xs) (i:=i) h.2 (by simpa using ht)
theorem anc {E:Env} {ρ:aZ} {ts vt:List TypeId} {xs:List KV} {vs:List Value} {ds gs:List (DataW H)} {ps:List MemPlace} {j:Nat} {t e:TypeId} (h:DataW.TrodAll enc P W 0 (fun _=>true) true ts vs ds ps)
  (hz:(DataW.weightsEach P (ts++vt) (ds++gs)).all (·<=reachBytes)=true) (ht:ts[j]? = some t) (hu:P.underlying t=some (.slice e)) (hl:bu P t=⟨false,[.slice e]⟩) (ha:j9 P ts xs=true) (hv:Ey P E ρ xs vs):lenOf ((xs.getD j .bD).cells.getD 0 .bD) * P.bytesOf e<=reachBytes:=by
 obtain ⟨x,hx,hk⟩:=Z0 ha ht;obtain ⟨m,hm,hr⟩:=hv;obtain ⟨u,hu1,hu2⟩:=hm.get hx;have Ym:xs.getD j .bD=x:=by rw [gK,hx]; rfl
 rw [Ym];rw [hl] at hk;cases x <;> simp [cC,aI,kindOk] at hk;rename_i T mk n es acc;cases mk <;> simp at hk;obtain ⟨_,_,_,a,cap,rfl,ang,_⟩:=hu2.ny;obtain ⟨v',Rl,HR⟩:=hr.get hu1;cases a with
 | none=>
  have:=HR.iu;subst this;exact ZZ h hz ht hu Rl
 | some a=>
  obtain ⟨_,_,_,a',c',_,_,_,_,rfl⟩:=HR.nN;exact ZZ h hz ht hu Rl
end Go.K
end
