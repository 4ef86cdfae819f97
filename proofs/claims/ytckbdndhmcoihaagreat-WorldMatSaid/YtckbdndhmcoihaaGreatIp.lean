/- Part of the proof of WorldMat: the machine, shown to be the model's, and plain models. No conditions. -/
import Derived.Test.YtckbdndhmcoihaaGreatHp
import Derived.Test.YtckbdndhmcoihaaGreatGp
set_option linter.unusedSimpArgs false
set_option linter.unusedVariables false
section
set_option maxRecDepth 20000
namespace Go.Proofs.YtckbdndhmcoihaaGreat.nodes
open Go Go.RowKit Go.Lib Go.Shelf Go.K
def qOf (g:b.dG):G:=⟨none,0,0,none,g.kids.n,0,fun _=>none,fun i=>(g.kids.get i).n,fun _=>0,fun i k=>hp ((g.kids.get i).get k)⟩
theorem Of.reach {q:G} {g:b.dG} {B:Nat} {W:World} (h:Of q g B W) {to x:Int×Int} : Reach q to x↔Reach (qOf g) to x:=by
 constructor
 ·intro r
  induction r with
  | here=>exact .here
  | pN h' k hk _ ih=>
   rw [h.im] at hk;rw [h.pN] at ih;exact .pN (q:=qOf g) h' k hk ih
 ·intro r
  induction r with
  | here=>exact .here
  | pN h' k hk _ ih=>exact .pN h' k (by rw [h.im]; exact hk) (by rw [h.pN]; exact ih)
def sm (g:b.dG) (i:Nat):Prop:=(g.kids.get i).n<=16/\(0 < (g.kids.get i).n->(g.ca.bJ.get i).live=true)/\∀ k,k < (g.kids.get i).n->b.eG g.ca ((g.kids.get i).get k)=some true
def Jc (g:b.dG) (i:Nat):Prop:=∀ k,k < (g.kids.get i).n->¬ Reach (qOf g) ((i:Int),(g.ca.bJ.get i).gen) (hp ((g.kids.get i).get k))
structure pj (g:b.dG):Prop where
 bJ:b.fB g.ca=some 0
 len:g.kids.n=g.ca.bJ.n
 row:∀ i,i < g.kids.n->sm g i
 free:∀ i,i < g.kids.n->Jc g i
theorem aor {W W' : World} (h:Below W.heap.size W W') (mb:Nat):Kp mb W W':=⟨h.os,h.tape,h.output,h.size,fun k hk _=>h.block k hk⟩
theorem apY (a:b.jH) (h:b.Handle) {n:Int} (hn:b.fB a=some n):∃ r,b.eG a h=some r:=by
 unfold b.eG b.vc b.vd;rw [hn];simp only [fQ,ak,ee];cases n==0 with
 | false=>exact ⟨_,rfl⟩
 | true=>
  have:∃ r,b.nC a h=some r:=by
   unfold b.nC;by_cases h1:h.slot >= 0
   ·by_cases h2:h.slot < (a.bJ.n:Int)
    ·simp [h1,h2]
    ·simp [h1,h2]
   ·simp [h1]
  obtain ⟨r,hr⟩:=this;rw [hr];exact ⟨r,rfl⟩
theorem amj {a:b.jH} (hn:b.fB a=some 0):a.bJ.n<=128:=by
 unfold b.fB at hn;by_cases h:((a.bJ.n:Nat):Int) > 128
 ·rw [aq h,ak] at hn
  simp at hn
 ·omega
theorem at3 {a:b.jH} {h:b.Handle} (hn:b.eG a h=some true):0<=h.slot/\h.slot < (a.bJ.n:Int):=by
 unfold b.eG b.vc b.vd at hn;by_cases h1:h.slot >= 0
 ·by_cases h2:h.slot < (a.bJ.n:Int)
  ·exact ⟨h1,h2⟩
  ·exfalso
   revert hn
   cases (b.fB a).isSome with
   | false=>simp
   | true=>
    cases ((b.fB a).getD default==0) with
    | false=>simp
    | true=>simp [b.nC,h1,h2]
 ·exfalso
  revert hn
  cases (b.fB a).isSome with
  | false=>simp
  | true=>
   cases ((b.fB a).getD default==0) with
   | false=>simp
   | true=>simp [b.nC,h1]
set_option maxHeartbeats 8000000 in
theorem check {E:Env} {A:aw} {B:aB.St} {ρ:aB.Ren} {base:Nat} {w:World} (hj:KJ Tryz.prog E A B ρ base w) {g:b.dG} {q:G} (hg:ahC q w.heap.size w) (ho:Of q g w.heap.size w) (hx:VC Tryz.prog E ρ (b.jf g.ca) (.agg #[.slice q.sa q.sn q.sc])) {n:Int} (hn:b.fB g.ca=some n) :
  Calls Tryz.prog 73 #[gv q] w fun e w'=>∃ n,e = .returned (.int .i64 n)/\Below w.heap.size w w'/\(n=0/\pj g\/n=8/\¬ pj g):=by
 have mixed:=HD;have t46:=Tryz.underlying46; have a46:=Tryz.isAgg46; have z46:=Tryz.sizeOf46; have v46:=Tryz.zeroValue46; have u46:=run_underlying Tryz.underlying46;have t32:=Tryz.underlying32; have a32:=Tryz.isAgg32; have z32:=Tryz.sizeOf32; have v32:=Tryz.zeroValue32; have u32:=run_underlying Tryz.underlying32;have t27:=Tryz.underlying27; have a27:=Tryz.isAgg27; have z27:=Tryz.sizeOf27; have v27:=Tryz.zeroValue27; have u27:=run_underlying Tryz.underlying27;have t24:=Tryz.underlying24; have a24:=Tryz.isAgg24; have z24:=Tryz.sizeOf24; have v24:=Tryz.zeroValue24; have u24:=run_underlying Tryz.underlying24;have t22:=Tryz.underlying22; have a22:=Tryz.isAgg22; have z22:=Tryz.sizeOf22; have v22:=Tryz.zeroValue22; have u22:=run_underlying Tryz.underlying22;have t25:=Tryz.underlying25; have a25:=Tryz.isAgg25; have z25:=Tryz.sizeOf25; have v25:=Tryz.zeroValue25; have u25:=run_underlying Tryz.underlying25;have t35:=Tryz.underlying35; have a35:=Tryz.isAgg35; have z35:=Tryz.sizeOf35; have v35:=Tryz.zeroValue35; have u35:=run_underlying Tryz.underlying35;have t111:=Tryz.underlying111; have a111:=Tryz.isAgg111; have z111:=Tryz.sizeOf111; have v111:=Tryz.zeroValue111; have u111:=run_underlying Tryz.underlying111;have t202:=Tryz.underlying202; have arD:=Tryz.isAgg202; have arE:=Tryz.sizeOf202; have arF:=Tryz.zeroValue202; have RF:=run_underlying Tryz.underlying202;have t200:=Tryz.underlying200; have avd:=Tryz.isAgg200; have ave:=Tryz.sizeOf200; have avf:=Tryz.zeroValue200; have avg:=run_underlying Tryz.underlying200;have t3:=Tryz.underlying3; have a3:=Tryz.isAgg3; have z3:=Tryz.sizeOf3; have v3:=Tryz.zeroValue3; have u3:=run_underlying Tryz.underlying3;have t4:=Tryz.underlying4; have a4:=Tryz.isAgg4; have z4:=Tryz.sizeOf4; have v4:=Tryz.zeroValue4; have u4:=run_underlying Tryz.underlying4;have bg0:Below w.heap.size w (w.alloc (.cells #[.slice q.sa q.sn q.sc,.slice q.ka q.kn q.kc] 27)):=(Below.refl _ _).alloc (aU _) _;have hac:=aop hj bg0 hx hn;have cg0:(w.alloc (.cells #[.slice q.sa q.sn q.sc,.slice q.ka q.kn q.kc] 27)).cell? ⟨w.heap.size,0,none⟩=some (.slice q.sa q.sn q.sc):=by simp
 have cg1:(w.alloc (.cells #[.slice q.sa q.sn q.sc,.slice q.ka q.kn q.kc] 27)).cell? ⟨w.heap.size,1,none⟩=some (.slice q.ka q.kn q.kc):=by simp
 have sg:(w.alloc (.cells #[.slice q.sa q.sn q.sc,.slice q.ka q.kn q.kc] 27)).heap.size=w.heap.size+1:=by simp
 generalize hW1:w.alloc (.cells #[.slice q.sa q.sn q.sc,.slice q.ka q.kn q.kc] 27)=W1 at hac bg0 cg0 cg1 sg
 go_enter Tryz.func73,Tryz.ntmps73
 by_cases hn0:n=0
 ·subst hn0
  have hsm:q.sn<=128:=by rw [ho.sn]; exact amj hn
  by_cases hlen:q.kn=q.sn
  ·have aaL:((q.kn:Int)==(q.sn:Int))=true:=by rw [hlen]; exact beq_self_eq_true _
   have avP:((q.kn:Int) != (q.sn:Int))=false:=by rw [hlen]; exact bne_self_eq_false _
   have at4:q.kn<=q.sn/\q.sn<=q.kn:=by omega
   clear hlen
   go_wp2_with (go_at_call 120; refine hac.mono ?_; rintro e w2 ⟨rfl,hk⟩; have c0:=(hk.cell (p:=⟨w.heap.size,0,none⟩) (by show w.heap.size < _; omega)).trans cg0; have c1:=(hk.cell (p:=⟨w.heap.size,1,none⟩) (by show w.heap.size < _; omega)).trans cg1)
   have bW:Below W1.heap.size W1 w2:=hk
   go_wp2
   go_loopg [27] q.kn (fun gg s27 wr=>∃ kk:Nat,kk<=q.kn/\q.kn - kk<=gg/\s27 = .int .i64 kk/\Aside (Below W1.heap.size W1 wr/\∀ i,i < kk->sm g i))
   case atStart=>exact ⟨0,E7 _,by omega,rfl,bW,fun i hi=>absurd hi (o6 _)⟩
   case round=>
    obtain ⟨kk,hkk,hgg,rfl,BW⟩:=xK;clear aaL avP;by_cases bG:kk < q.kn
    ·have at1:(kk:Int) < (q.kn:Int):=by omega
     have hltz2:(kk:Int) < (q.sn:Int):=by omega
     have BWw:Below w.heap.size w wr:=bg0.trans (BW.out.1.mono (by omega));have AU:=hg.ij (aor BWw w.heap.size) (aU _) (aU _);have hoo:=ho.ij (aor BWw w.heap.size) (aU _) (aU _);have e0:=(BW.out.1.cell (p:=⟨w.heap.size,0,none⟩) (by show w.heap.size < _; omega)).trans cg0;have e1:=(BW.out.1.cell (p:=⟨w.heap.size,1,none⟩) (by show w.heap.size < _; omega)).trans cg1;obtain ⟨bk,ok,hka,hbk,hO⟩:=AU.kids kk bG;obtain ⟨bl,ol,hsa,hbl,avj,at5⟩:=hoo.slot kk (by omega);have him:q.im kk<=(g.kids.get kk).n/\(g.kids.get kk).n<=q.im kk:=by rw [ho.im]; exact ⟨aU _,aU _⟩
     have RG:q.im kk<=16->∀ V,Below W1.heap.size W1 V->Calls Tryz.prog 122 #[.slice (q.ia kk) (q.im kk) (q.ic kk),.func (.func 121) #[] #[.pointer (some ⟨w.heap.size,0,none⟩)]] V fun e W'=>∃ r,e = .returned (.bool r)/\Below W1.heap.size W1 W'/\(r=true/\¬ sm g kk\/r=false/\∀ k,k < q.im kk->b.eG g.ca ((g.kids.get kk).get k)=some true):=by
      intro h16 V hV;refine (WA 121 #[.pointer (some ⟨w.heap.size,0,none⟩)] (enters_of Tryz.func121 (by kernel_rfl) rfl) (q.ia kk) (q.im kk) (q.ic kk) (q.pN kk)
       (fun j W'=>Below W1.heap.size W1 W'/\∀ k,k < j->b.eG g.ca ((g.kids.get kk).get k)=some true)
       (fun W'=>Below W1.heap.size W1 W'/\¬ sm g kk) (by omega) (fun W' j BO hI=>?_) (fun j W' BO hI=>?_) V ⟨hV,fun k hk=>absurd hk (o6 _)⟩).mono ?_
      ·have BW' : Below w.heap.size w W':=bg0.trans (hI.1.mono (by omega))
       obtain ⟨bb,off,r1,_,r2,r3⟩:=(hg.ij (aor BW' w.heap.size) (aU _) (aU _)).row kk bG j BO;exact ⟨bb,off,r1,r2,r3⟩
      ·have BW' : Below w.heap.size w W':=bg0.trans (hI.1.mono (by omega))
       obtain ⟨r,hr⟩:=apY g.ca ((g.kids.get kk).get j) hn;have aos:=ho.pN kk j;refine (rT hj BW' hx (q.pN kk j) (r:=r) (by rw [aos]; exact hr) (bg:=w.heap.size) (by have:=hI.1.size; omega) ((hI.1.cell (p:=⟨w.heap.size,0,none⟩) (by show w.heap.size < _; omega)).trans cg0)).mono ?_;rintro e W2 ⟨rfl,hb⟩;have hb' : Below W1.heap.size W1 W2:=hI.1.trans (hb.mono hI.1.size);cases r with
       | true=>
        refine .inr ⟨rfl,hb',fun k hk=>?_⟩;by_cases ek:k=j
        ·subst ek; exact hr
        ·exact hI.2 k (by omega)
       | false=>exact .inl ⟨rfl,hb',fun h=>by have:=h.2.2 j (by omega); rw [hr] at this; simp at this⟩
      ·rintro e W' ⟨r,rfl,⟨rfl,h1⟩ | ⟨rfl,h1⟩⟩
       ·exact ⟨true,rfl,h1.1,.inl ⟨rfl,h1.2⟩⟩
       ·exact ⟨false,rfl,h1.1,.inr ⟨rfl,h1.2⟩⟩
     have eg:∀ args w,(callFunc 122 args).run Tryz.prog w = .ok (.enter 122 args) w:=enters_of Tryz.func122 (by kernel_rfl) rfl;have arH:∀ W',Below W1.heap.size W1 W'->¬ sm g kk->∃ n,Ending.returned (.int .i64 8) = .returned (.int .i64 n)/\Below w.heap.size w W'/\(n=0/\pj g\/n=8/\¬ pj g):=fun W' hb hr=>
      ⟨8,rfl,bg0.trans (hb.mono (by omega)),.inr ⟨rfl,fun h=>hr (h.row kk (by rw [<- ho.kn]; exact bG))⟩⟩
     have hBW:=BW.out;have awR:∀ W',Below W1.heap.size W1 W'->sm g kk->Below W1.heap.size W1 W'/\∀ i,i < kk+1->sm g i:=fun W' hb hr=>⟨hb,fun i hi=>by
      by_cases e:i=kk
      ·subst e; exact hr
      ·exact hBW.2 i (by omega)⟩
     clear hg ho hj hac BW;generalize hlv:(g.ca.bJ.get kk).live=lv at at5;by_cases h16:q.im kk<=16
     ·have awS : ¬ (q.im kk:Int) > 16:=by omega
      have at6:=RG h16;have at7:=at6 wr hBW.1;clear RG at6;have agj:∀ W' r,Below W1.heap.size W1 W'->(r=true/\¬ sm g kk\/r=false/\∀ k,k < q.im kk->b.eG g.ca ((g.kids.get kk).get k)=some true)->(0 < q.im kk->lv=true)->r=true/\(Below W1.heap.size W1 W'/\¬ sm g kk)\/r=false/\(Below W1.heap.size W1 W'/\∀ i,i < kk+1->sm g i):=by
       rintro W' r hb (⟨rfl,hr⟩ | ⟨rfl,hr⟩) hl
       ·exact .inl ⟨rfl,hb,hr⟩
       ·exact .inr ⟨rfl,awR _ hb ⟨by omega,fun D1=>by rw [hlv]; exact hl (by omega),fun k hk=>hr k (by omega)⟩⟩
      by_cases h0:0 < q.im kk
      ·have h0z:(q.im kk:Int) > 0:=by omega
       cases lv with
       | true=>
        go_wp2_with (go_at_call 122; refine at7.mono ?_; rintro e w3 ⟨r,rfl,hb,hr⟩; rcases agj _ _ hb hr (fun _=>rfl) with ⟨rfl,hd⟩ | ⟨rfl,hd⟩)
        ·go_wp2
         go_ret
         exact arH _ hd.1 hd.2
        ·go_wp2
         simp only [<- hka,<- hsa]
         go_roundg (q.kn - (kk+1))
         case measure=>omega
         case rel=>exact ⟨kk+1,by omega,by omega,by go_num,hd⟩
       | false=>
        go_wp2
        go_ret
        exact arH _ hBW.1 fun h=>by have:=h.2.1 (by omega); rw [hlv] at this; simp at this
      ·have h0z : ¬ (q.im kk:Int) > 0:=by omega
       go_wp2_with (go_at_call 122; refine at7.mono ?_; rintro e w3 ⟨r,rfl,hb,hr⟩; rcases agj _ _ hb hr (fun h=>absurd h h0) with ⟨rfl,hd⟩ | ⟨rfl,hd⟩)
       ·go_wp2
        go_ret
        exact arH _ hd.1 hd.2
       ·go_wp2
        simp only [<- hka,<- hsa]
        go_roundg (q.kn - (kk+1))
        case measure=>omega
        case rel=>exact ⟨kk+1,by omega,by omega,by go_num,hd⟩
     ·have awS:(q.im kk:Int) > 16:=by omega
      go_wp2
      go_ret
      exact arH _ hBW.1 fun h=>h16 (by have:=h.1; omega)
    ·rename World=>V0
     have at1 : ¬ (kk:Int) < (q.kn:Int):=by omega
     have mi:∀ i,i < q.kn->sm g i:=fun i hi=>BW.out.2 i (by omega);have hB1:=BW.out.1;have BWw:Below w.heap.size w V0:=bg0.trans (hB1.mono (by omega));have AU:=(hg.ij (aor BWw w.heap.size) (aU _) (aU _)).with fun i hi=>by have:=(mi i hi).1; rw [ho.im]; omega
     have hoo:=ho.ij (aor BWw w.heap.size) (aU _) (aU _);have e0:=(hB1.cell (p:=⟨w.heap.size,0,none⟩) (by show w.heap.size < _; omega)).trans cg0;have e1:=(hB1.cell (p:=⟨w.heap.size,1,none⟩) (by show w.heap.size < _; omega)).trans cg1;have XT:=run_make;have sW:w.heap.size < V0.heap.size:=by have:=hB1.size; omega
     have K2:∀ mb,Kp mb V0 ((V0.alloc (.map #[] 0)).alloc (.cells #[.map (some V0.heap.size)] 202)):=fun mb=>(Kp.alloc V0 _).trans (Kp.alloc _ _);have hM2:MapAt V0.heap.size ((V0.alloc (.map #[] 0)).alloc (.cells #[.map (some V0.heap.size)] 202)) []:=⟨#[],0,by rw [Below.heap_alloc _ _ _ (by simp)]; exact Ku _ _ _ rfl,abo⟩
     have lz:((V0.alloc (.map #[] 0)).alloc (.cells #[.map (some V0.heap.size)] 202)).cell? ⟨V0.heap.size+1,0,none⟩=some (.map (some V0.heap.size)):=by
      rw [B9 (Ku _ _ _ (by simp))]; rfl
     have Ij:((V0.alloc (.map #[] 0)).alloc (.cells #[.map (some V0.heap.size)] 202)).heap.size=V0.heap.size+2:=by simp
     have f0:=((K2 V0.heap.size).cell (b:=w.heap.size) (j:=0) sW (by omega)).trans e0;have f1:=((K2 V0.heap.size).cell (b:=w.heap.size) (j:=1) sW (by omega)).trans e1;generalize hW2:(V0.alloc (.map #[] 0)).alloc (.cells #[.map (some V0.heap.size)] 202)=W2 at K2 hM2 lz Ij f0 f1;have S8:=AU.ij (K2 V0.heap.size) (Nat.le_of_lt sW) (Nat.le_of_lt sW);have ho2:=hoo.ij (K2 V0.heap.size) (Nat.le_of_lt sW) (Nat.le_of_lt sW);have avk:∀ W',Kp V0.heap.size W2 W'->Below w.heap.size w W':=fun W' k=>BWw.trans (((K2 V0.heap.size).trans k).below (Nat.le_of_lt sW) (Nat.le_of_lt sW));clear hac hg AU ho hoo BW
     go_wp2
     go_loopg [61] q.kn (fun gg s61 wr2=>∃ jj:Nat,jj<=q.kn/\q.kn - jj<=gg/\s61 = .int .i64 jj/\Aside (Kp V0.heap.size W2 wr2/\(∃ S,MapAt V0.heap.size wr2 S)/\∀ i,i < jj->Jc g i))
     case atStart=>exact ⟨0,E7 _,by omega,rfl,Kp.refl _ _,⟨_,hM2⟩,fun i hi=>absurd hi (o6 _)⟩
     case round=>
      obtain ⟨jj,hjj,hgg2,rfl,BJ⟩:=xK;obtain ⟨kj,⟨S0,es0,adb,hm0,_⟩,ahD⟩:=BJ.out;clear BJ;by_cases aot:jj < q.kn
      ·have hjz:(jj:Int) < (q.kn:Int):=by omega
       have hjz2:(jj:Int) < (q.sn:Int):=by omega
       have hgj:=S8.ij kj (by omega) (by omega);have hoj:=ho2.ij kj (by omega) (by omega);have sj:=kj.size;have j0:=(kj.cell (b:=w.heap.size) (j:=0) (by omega) (by omega)).trans f0;have j1:=(kj.cell (b:=w.heap.size) (j:=1) (by omega) (by omega)).trans f1;have js:=(kj.cell (b:=V0.heap.size+1) (j:=0) (by omega) (by omega)).trans lz;obtain ⟨bk,ok,hka,hbk,hO⟩:=hgj.kids jj aot;obtain ⟨bl,ol,hsa,hbl,avj,at5⟩:=hoj.slot jj (by omega);have aos:=hoj.pN jj;have him:q.im jj<=(g.kids.get jj).n/\(g.kids.get jj).n<=q.im jj:=by rw [hoj.im]; exact ⟨aU _,aU _⟩
       generalize apZ:(g.ca.bJ.get jj).gen=gj at avj;have KA:=Kp.alloc (mb:=V0.heap.size) wr (.cells #[.int .i64 jj,.int .i64 gj] 32);have hmA:(wr.alloc (.cells #[.int .i64 jj,.int .i64 gj] 32)).heap[V0.heap.size]? = some (.map es0 adb):=by rw [Below.heap_alloc _ _ _ (by omega)]; exact hm0
       have awT:=apX hmA;have KP:=Kp.put (mb:=V0.heap.size) (wr.alloc (.cells #[.int .i64 jj,.int .i64 gj] 32)) (.map #[] adb);have jA:=(KA.cell (b:=V0.heap.size+1) (j:=0) (by omega) (by omega)).trans js;have K4:=KA.trans KP;have hM4:MapAt V0.heap.size (put (wr.alloc (.cells #[.int .i64 jj,.int .i64 gj] 32)) V0.heap.size (.map #[] adb)) []:=⟨#[],adb,ae0 hmA,abo⟩
       have js4:=(KP.cell (b:=V0.heap.size+1) (j:=0) (by have:=KA.size; omega) (by omega)).trans jA;have jt0:(put (wr.alloc (.cells #[.int .i64 jj,.int .i64 gj] 32)) V0.heap.size (.map #[] adb)).cell? ⟨wr.heap.size,0,none⟩=some (.int .i64 jj):=by
        rw [KP.cell (by simp) (by omega)]; simp
       have jt1:(put (wr.alloc (.cells #[.int .i64 jj,.int .i64 gj] 32)) V0.heap.size (.map #[] adb)).cell? ⟨wr.heap.size,1,none⟩=some (.int .i64 gj):=by
        rw [KP.cell (by simp) (by omega)]; simp
       have hz4:wr.heap.size < (put (wr.alloc (.cells #[.int .i64 jj,.int .i64 gj] 32)) V0.heap.size (.map #[] adb)).heap.size:=by rw [abp]; simp
       generalize hW4:put (wr.alloc (.cells #[.int .i64 jj,.int .i64 gj] 32)) V0.heap.size (.map #[] adb)=W4 at awT KP K4 hM4 js4 jt0 jt1 hz4;have hU:∀ u∈(List.range q.kn).flatMap (fun i=>(List.range (q.im i)).map fun k=>q.pN i k),(0<=u.1/\u.1 < (q.kn:Int))/\∀ k,k < q.im u.1.toNat->q.pN u.1.toNat k∈(List.range q.kn).flatMap (fun i=>(List.range (q.im i)).map fun k=>q.pN i k):=by
        intro u hu;obtain ⟨i,hi,hu⟩:=List.mem_flatMap.1 hu;obtain ⟨k,hk,rfl⟩:=List.mem_map.1 hu;rw [Ns] at hi hk;have hr:=at3 ((mi i hi).2.2 k (by rw [<- hoj.im]; exact hk));rw [<- hoj.sn] at hr;have hh:0<=(q.pN i k).1/\(q.pN i k).1 < (q.kn:Int):=by rw [hoj.pN]; exact ⟨hr.1,by have:=hr.2; show ((g.kids.get i).get k).slot < _; omega⟩
        exact ⟨hh,fun k' yo=>List.mem_flatMap.2 ⟨(q.pN i k).1.toNat,Ns.2 (by omega),List.mem_map.2 ⟨k',Ns.2 yo,rfl⟩⟩⟩
       have RG:Calls Tryz.prog 122 #[.slice (q.ia jj) (q.im jj) (q.ic jj),.func (.func 123) #[] #[.pointer (some ⟨w.heap.size,0,none⟩),.pointer (some ⟨V0.heap.size+1,0,none⟩),.pointer (some ⟨wr.heap.size,0,none⟩)]] W4 fun e W'=>∃ r,e = .returned (.bool r)/\Kp V0.heap.size W4 W'/\(∃ S,MapAt V0.heap.size W' S)/\(r=true/\¬ Jc g jj\/r=false/\Jc g jj):=by
        refine (WA 123 #[.pointer (some ⟨w.heap.size,0,none⟩),.pointer (some ⟨V0.heap.size+1,0,none⟩),.pointer (some ⟨wr.heap.size,0,none⟩)] (enters_of Tryz.func123 (by kernel_rfl) rfl) (q.ia jj) (q.im jj) (q.ic jj) (q.pN jj)
         (fun j W'=>Kp V0.heap.size W4 W'/\∃ S,MapAt V0.heap.size W' S/\((jj:Int),gj) ∉ S/\(∀ x∈S,∀ k,k < q.im x.1.toNat->q.pN x.1.toNat k∈S)/\∀ k,k < j->q.pN jj k∈S)
         (fun W'=>Kp V0.heap.size W4 W'/\(∃ S,MapAt V0.heap.size W' S)/\¬ Jc g jj) (S8.small jj aot) (fun W' j BO hI=>?_) (fun j W' BO hI=>?_) W4 ⟨Kp.refl _ _,[],hM4,by simp,by simp,fun k hk=>absurd hk (o6 _)⟩).mono ?_
        ·obtain ⟨bb,off,r1,_,r2,r3⟩:=(hgj.ij (K4.trans hI.1) (by omega) (by omega)).row jj aot j BO
         exact ⟨bb,off,r1,r2,r3⟩
        ·obtain ⟨CC,S,hS,hn1,hcl,ue⟩:=hI
         have kk4:=K4.trans CC;have fZ:=CC.size;refine (under q w.heap.size V0.heap.size (q.pN jj j) ((jj:Int),gj) _ hU S W' (List.mem_flatMap.2 ⟨jj,Ns.2 aot,List.mem_map.2 ⟨j,Ns.2 BO,rfl⟩⟩) (hgj.ij kk4 (by omega) (by omega)) (by omega) (by omega) hS hn1
          (bg:=w.heap.size) (bs:=V0.heap.size+1) (bt:=wr.heap.size) (by omega) (by omega) (by omega)
          ((kk4.cell (b:=w.heap.size) (j:=0) (by omega) (by omega)).trans j0) ((kk4.cell (b:=w.heap.size) (j:=1) (by omega) (by omega)).trans j1) ((CC.cell (b:=V0.heap.size+1) (j:=0) (by omega) (by omega)).trans js4)
          ((CC.cell (b:=wr.heap.size) (j:=0) hz4 (by omega)).trans jt0) ((CC.cell (b:=wr.heap.size) (j:=1) hz4 (by omega)).trans jt1)).mono ?_
         rintro e W5 ⟨S',r,rfl,m5,k5,⟨rfl,hr⟩ | ⟨rfl,Hr,hn5⟩⟩
         ·refine .inl ⟨rfl,CC.trans k5,⟨S',m5⟩,fun hf=>hf j (by omega) ?_⟩
          rw [apZ,<- aos j];exact hoj.reach.1 hr
         ·refine .inr ⟨rfl,CC.trans k5,S',m5,hn5,Hr.closed hcl,fun k hk=>?_⟩
          by_cases ek:k=j
          ·subst ek; exact Hr.is
          ·exact Hr.sub _ (ue k (by omega))
        ·rintro e W' ⟨r,rfl,⟨rfl,h1⟩ | ⟨rfl,h1,S,h2,h3,h4,h5⟩⟩
         ·exact ⟨true,rfl,h1.1,h1.2.1,.inl ⟨rfl,h1.2.2⟩⟩
         ·refine ⟨false,rfl,h1,⟨S,h2⟩,.inr ⟨rfl,fun k hk hr=>?_⟩⟩
          rw [apZ,<- aos k] at hr;exact RH h4 h3 (hoj.reach.2 hr) (h5 k (by omega))
       have avQ:∀ W',Kp V0.heap.size W4 W'->¬ Jc g jj->∃ n,Ending.returned (.int .i64 8) = .returned (.int .i64 n)/\Below w.heap.size w W'/\(n=0/\pj g\/n=8/\¬ pj g):=fun W' hk hf=>
        ⟨8,rfl,avk _ (kj.trans (K4.trans hk)),.inr ⟨rfl,fun h=>hf (h.free jj (by rw [<- hoj.kn]; exact aot))⟩⟩
       have j6:∀ W',Kp V0.heap.size W4 W'->(∃ S,MapAt V0.heap.size W' S)->Jc g jj->Kp V0.heap.size W2 W'/\(∃ S,MapAt V0.heap.size W' S)/\∀ i,i < jj+1->Jc g i:=fun W' hk hm hf=>⟨kj.trans (K4.trans hk),hm,fun i hi=>by
        by_cases e:i=jj
        ·subst e; exact hf
        ·exact ahD i (by omega)⟩
       clear hU aos S8 ho2 hgj hoj mi hW2 apZ ahD hm0
       go_wp2_with (go_at_call 122; go_loud (refine RG.mono ?_; rintro e w3 ⟨r,rfl,hb,hm,⟨rfl,hr⟩ | ⟨rfl,hr⟩⟩))
       ·go_wp2
        go_ret
        exact avQ _ hb hr
       ·go_wp2
        simp only [<- hka,<- hsa]
        go_roundg (q.kn - (jj+1))
        case measure=>omega
        case rel=>exact ⟨jj+1,by omega,by omega,by go_num,j6 _ hb hm hr⟩
      ·have hjz : ¬ (jj:Int) < (q.kn:Int):=by omega
       have hf:pj g:=⟨hn,by rw [<- ho2.kn,<- ho2.sn]; omega,fun i hi=>mi i (by rw [ho2.kn]; exact hi),fun i hi=>ahD i (by have:=ho2.kn; omega)⟩
       have hb:=avk _ kj;have VJ:∀ W',Below w.heap.size w W'->∃ n,Ending.returned (.int .i64 0) = .returned (.int .i64 n)/\Below w.heap.size w W'/\(n=0/\pj g\/n=8/\¬ pj g):=fun W' hb=>⟨0,rfl,hb,.inl ⟨rfl,hf⟩⟩
       clear hm0 S8 ho2 mi
       go_wp2
       go_ret
       first | exact VJ _ hb | exact ⟨rfl,hb⟩
  ·have aaL:((q.kn:Int)==(q.sn:Int))=false:=beq_eq_false_iff_ne.2 fun h=>hlen (by exact_mod_cast h)
   have hlen3 : ¬ (q.kn:Int)=(q.sn:Int):=fun h=>hlen (by exact_mod_cast h)
   go_wp2_with (go_at_call 120; refine hac.mono ?_; rintro e w2 ⟨rfl,hk⟩; have c0:=(hk.cell (p:=⟨w.heap.size,0,none⟩) (by show w.heap.size < _; omega)).trans cg0; have c1:=(hk.cell (p:=⟨w.heap.size,1,none⟩) (by show w.heap.size < _; omega)).trans cg1)
   go_wp2
   go_ret
   exact ⟨8,rfl,bg0.trans (hk.mono (by omega)),.inr ⟨rfl,fun h=>hlen (by rw [ho.kn,ho.sn,h.len])⟩⟩
 ·have hn0' : (n==0)=false:=by simpa using hn0
  go_wp2_with (go_at_call 120; refine hac.mono ?_; rintro e w2 ⟨rfl,hk⟩)
  go_wp2
  go_ret
  exact ⟨8,rfl,bg0.trans (hk.mono (by omega)),.inr ⟨rfl,fun h=>by rw [h.bJ] at hn; simp only [di] at hn; omega⟩⟩
end Go.Proofs.YtckbdndhmcoihaaGreat.nodes
end
section
namespace Go.Proofs.YtckbdndhmcoihaaGreat.nodes
open Go Go.RowKit Go.K
open Classical in
noncomputable def F8 (g:b.dG):Option Int:=(b.fB g.ca).map fun _=>if pj g then 0 else 8
noncomputable def aou:List KV->KR KV:=bI Tryz.prog 73 (bL (kI .i64) fun vs=>F8 (b.jD (vs.getD 0 .ao)))
theorem call73:Cl Tryz.prog 73:=by
 refine ⟨by kernel_rfl,_,Tryz.func73,rfl,by kernel_rfl⟩
theorem aov:bH Tryz.prog 73 aou:=by
 refine aoc call73 fun args v E A B ρ base w hZ hF hlen hv hj=>?_;have ep:aG Tryz.prog 73 = [27]:=by kernel_rfl
 unfold aou bI at hF;obtain ⟨hb,hF⟩:=bf.cond hF;obtain ⟨ww,hw⟩:=Ot 0 hb;have Ih:ug Tryz.prog E ρ (normArgs Tryz.prog (aG Tryz.prog 73) args) hZ:=by
  obtain ⟨m,h1,h2⟩:=hv;exact ⟨m,bC.QZ (.of rfl) h1 hlen,h2⟩
 rw [hw,ep,b.Pq] at hF Ih;generalize b.jD (ax Tryz.prog (ai Tryz.prog aj) 27 (ww 0))=g at hF Ih;obtain ⟨u,us,rfl,hu,Qp⟩:=Ih.Zi;obtain rfl:=Qp.ami;obtain ⟨q,rfl,hg,ho,hx⟩:=ass hj hu;unfold bL at hF;obtain ⟨h1,h2⟩:=bf.lP hF;have h1:(F8 g).isSome=true:=h1;have h2:kI .i64 ((F8 g).getD default)=v:=h2;cases hn:b.fB g.ca with
 | none=>simp [F8,hn] at h1
 | some n=>
  refine (check hj hg ho hx hn).mono ?_;rintro e w' ⟨m,rfl,hb,hm⟩;refine ⟨.int .i64 m,rfl,?_,hb⟩;have:v=kI .i64 m:=by
   rw [<- h2];simp only [F8,hn,Option.map_some,ee];rcases hm with ⟨rfl,h⟩ | ⟨rfl,h⟩
   ·rw [aY h]
   ·rw [av h]
  rw [this];exact ⟨_,.mkInt,by simp [aB.VR]⟩
end Go.Proofs.YtckbdndhmcoihaaGreat.nodes
end
section
namespace Go.Proofs.YtckbdndhmcoihaaGreat.b
open Go.K
noncomputable section
def Jd (g:dG):Option Int:=nodes.F8 g
def yP:List KV->KR KV:=bI Tryz.prog 73 (bL (kI .i64) fun vs=>Jd (jD (vs.getD 0 .ao)))
theorem ye:bH Tryz.prog 73 yP:=nodes.aov
def PD:List (Nat×(List KV->KR KV)):=[]
def PE:List Lp:=[]
theorem Zj:ah Tryz.prog PD:=ah.nil
theorem Zk:au Tryz.prog PE:=au.nil
def vu (n:Int) (cA:Int):Option (Bool):=(cond (decide (n >= (aR ((0:Int) - cA)))) (some ((decide (n<=cA)))) (some (false)))
theorem abt (n:Int) (cA:Int):cD Tryz.prog (bp Tryz.prog PD PE (fun q=>Nat.beq q 3)) 9 9 114 [(kI .i64) n,(kI .i64) cA] = (vu n cA).map kB:=by
 unfold vu
 try simp only [bq]
 kernel_rfl
def RI:List KV->KR KV:=bI Tryz.prog 114 (bL kB fun vs=>vu (ay (vs.getD 0 .ao)) (ay (vs.getD 1 .ao)))
theorem Zl (w:Nat->KV):ck Tryz.prog [3,3] w 0 = [(kI .i64) (ay (ax Tryz.prog (ai Tryz.prog aj) 3 (w 0))),(kI .i64) (ay (ax Tryz.prog (ai Tryz.prog aj) 3 (w 1)))]:=by kernel_rfl
theorem Zm:bH Tryz.prog 114 RI:=aL funcs mixed Zj Zk (L:=9) (n:=9) fun w=>by
 have e:aG Tryz.prog 114 = [3,3]:=by kernel_rfl
 rw [e,Zl]
 exact (abt (ay (ax Tryz.prog (ai Tryz.prog aj) 3 (w 0))) (ay (ax Tryz.prog (ai Tryz.prog aj) 3 (w 1)))).trans (by kernel_rfl)
def Kv:List (Nat×(List KV->KR KV)):=[(114,RI)]
def Kw:List Lp:=[]
theorem TB:ah Tryz.prog Kv:=(ah.cons Zm ah.nil)
theorem TC:au Tryz.prog Kw:=au.nil
def Je (v:fO):(Option Bool):=(vu v.x (1024:Int))
def Jf (v:fO):(Option Bool):=(vu v.y (1024:Int))
def Jg (v:fO):(Option Bool):=(vu v.z (1024:Int))
def EP (v:fO):Option (Bool):=(cond (Je v).isSome (cond (!((Je v).getD default)) (some (true)) (cond (Jf v).isSome (cond (!((Jf v).getD default)) (some (true)) (cond (Jg v).isSome (some ((!((Jg v).getD default)))) none)) none)) none)
theorem WC (v:fO):cD Tryz.prog (bp Tryz.prog Kv Kw (fun q=>Nat.beq q 3)) 9 9 113 [mr v] = (EP v).map kB:=by
 unfold EP
 try simp only [bq]
 kernel_rfl
def zT:List KV->KR KV:=bI Tryz.prog 113 (bL kB fun vs=>EP (kL (vs.getD 0 .ao)))
theorem TD (w:Nat->KV):ck Tryz.prog [43] w 0 = [mr (kL (ax Tryz.prog (ai Tryz.prog aj) 43 (w 0)))]:=by kernel_rfl
theorem AB:bH Tryz.prog 113 zT:=aL funcs mixed TB TC (L:=9) (n:=9) fun w=>by
 have e:aG Tryz.prog 113 = [43]:=by kernel_rfl
 rw [e,TD]
 exact (WC (kL (ax Tryz.prog (ai Tryz.prog aj) 43 (w 0)))).trans (by kernel_rfl)
def Kx:List (Nat×(List KV->KR KV)):=[]
def Ky:List Lp:=[]
theorem TE:ah Tryz.prog Kx:=ah.nil
theorem TF:au Tryz.prog Ky:=au.nil
def ER (p:rp):Option (Bool):=(cond (decide (p.e0 < (0:Int))) (some (true)) (cond (decide (p.e0 > (255:Int))) (some (true)) (cond (decide (p.e1 < (0:Int))) (some (true)) (some ((decide (p.e1 > (255:Int))))))))
theorem WD (p:rp):cD Tryz.prog (bp Tryz.prog Kx Ky (fun q=>Nat.beq q 3)) 9 9 115 [nX p] = (ER p).map kB:=by
 unfold ER
 try simp only [bq]
 kernel_rfl
def zU:List KV->KR KV:=bI Tryz.prog 115 (bL kB fun vs=>ER (jW (vs.getD 0 .ao)))
theorem TG (w:Nat->KV):ck Tryz.prog [185] w 0 = [nX (jW (ax Tryz.prog (ai Tryz.prog aj) 185 (w 0)))]:=by kernel_rfl
theorem AD:bH Tryz.prog 115 zU:=aL funcs mixed TE TF (L:=9) (n:=9) fun w=>by
 have e:aG Tryz.prog 115 = [185]:=by kernel_rfl
 rw [e,TG]
 exact (WD (jW (ax Tryz.prog (ai Tryz.prog aj) 185 (w 0)))).trans (by kernel_rfl)
def UM:List (Nat×(List KV->KR KV)):=[]
def UN:List Lp:=[]
theorem ad1:ah Tryz.prog UM:=ah.nil
theorem ad2:au Tryz.prog UN:=au.nil
def zV (p:Prim):Option (Bool):=(cond (p.kind==(0:Int)) (some (((Int.tmod ((p.index.n:Nat):Int) (3:Int))==(0:Int)))) (cond (p.kind==(1:Int)) (cond (((p.index.n:Nat):Int)==(0:Int)) (some (true)) (some ((decide (((p.index.n:Nat):Int) >= (3:Int)))))) (cond (p.kind==(2:Int)) (cond (((p.index.n:Nat):Int)==(0:Int)) (some (true)) (some ((decide (((p.index.n:Nat):Int) >= (3:Int)))))) (some (false)))))
theorem ahE (p:Prim):cD Tryz.prog (bp Tryz.prog UM UN (fun q=>Nat.beq q 3)) 9 9 209 [rq p] = (zV p).map kB:=by
 unfold zV
 try simp only [bq]
 kernel_rfl
def OP:List KV->KR KV:=bI Tryz.prog 209 (bL kB fun vs=>zV (lL (vs.getD 0 .ao)))
theorem ad3 (w:Nat->KV):ck Tryz.prog [172] w 0 = [rq (lL (ax Tryz.prog (ai Tryz.prog aj) 172 (w 0)))]:=by kernel_rfl
theorem PF:bH Tryz.prog 209 OP:=aL funcs mixed ad1 ad2 (L:=9) (n:=9) fun w=>by
 have e:aG Tryz.prog 209 = [172]:=by kernel_rfl
 rw [e,ad3]
 exact (ahE (lL (ax Tryz.prog (ai Tryz.prog aj) 172 (w 0)))).trans (by kernel_rfl)
structure cr where
 t2:(Sl az)
 t3:Int
 out:(Sl az)
 l:(Sl Int)
 i:Int
 p:Prim
instance:Inhabited cr:=⟨by constructor<;>exact default⟩
def yf (x:cr):List KV:=[eA 40 df x.t2,.int .i64 x.t3,eA 40 df x.out,eA 3 (kI .i64) x.l,.int .i64 x.i]
def yg (x:cr):List (List KV):=[agY x.p]
def Kz (vs:List KV) (rs:List (List KV)):cr:=⟨dP dv (vs.getD 0 .ao),ay (vs.getD 1 .ao),dP dv (vs.getD 2 .ao),dP ay (vs.getD 3 .ao),ay (vs.getD 4 .ao),agZ (fun k=>(rs.getD 0 []).getD k .ao)⟩
def M6:aV:=⟨[(2,⟨false,[.k (.slice 40)]⟩),(3,⟨false,[.k (.int .i64)]⟩),(4,⟨false,[.bA 40]⟩),(5,⟨false,[.k (.slice 3)]⟩),(6,⟨false,[.k (.int .i64)]⟩)],[(1,[.k (.int .u8),.k (.slice 3)],1)],[(1,0,0)]⟩
def Zn:=dB Tryz.prog (bp Tryz.prog [(209,OP)] [] (fun q=>Nat.beq q 3)) 9 9 171 250 (dF Tryz.prog 171 250) M6
def kX (x:cr):aW cr:=(cond (decide ((aR (x.i+(2:Int))) < ((x.l.n:Nat):Int))) (cond (x.p.kind==(0:Int)) (cond ((Int.tmod x.i (3:Int))==(0:Int)) (cond ((decide ((0:Int)<=x.i))&&(decide (x.i < ((x.l.n:Nat):Int)))) (cond ((decide ((0:Int)<=(aR (x.i+(1:Int)))))&&(decide ((aR (x.i+(1:Int))) < ((x.l.n:Nat):Int)))) (cond ((decide ((0:Int)<=(aR (x.i+(2:Int)))))&&(decide ((aR (x.i+(2:Int))) < ((x.l.n:Nat):Int)))) (cond ((bz x.out.n x.out.n)&&(kC 24 x.out.n 1)) (cond (bz (x.out.n+1) (x.out.n+1)) (.next (⟨x.t2,x.t3,(x.out.push (⟨(x.l.get (Int.toNat x.i)),(x.l.get (Int.toNat (aR (x.i+(1:Int))))),(x.l.get (Int.toNat (aR (x.i+(2:Int)))))⟩:az)),x.l,(aR (x.i+(1:Int))),x.p⟩:cr)) .fail) .fail) .fail) .fail) .fail) (cond (x.p.kind==(1:Int)) (cond ((Int.tmod x.i (2:Int))==(0:Int)) (cond ((decide ((0:Int)<=x.i))&&(decide (x.i < ((x.l.n:Nat):Int)))) (cond ((decide ((0:Int)<=(aR (x.i+(1:Int)))))&&(decide ((aR (x.i+(1:Int))) < ((x.l.n:Nat):Int)))) (cond ((decide ((0:Int)<=(aR (x.i+(2:Int)))))&&(decide ((aR (x.i+(2:Int))) < ((x.l.n:Nat):Int)))) (cond ((bz x.out.n x.out.n)&&(kC 24 x.out.n 1)) (cond (bz (x.out.n+1) (x.out.n+1)) (.next (⟨x.t2,x.t3,(x.out.push (⟨(x.l.get (Int.toNat x.i)),(x.l.get (Int.toNat (aR (x.i+(1:Int))))),(x.l.get (Int.toNat (aR (x.i+(2:Int)))))⟩:az)),x.l,(aR (x.i+(1:Int))),x.p⟩:cr)) .fail) .fail) .fail) .fail) .fail) (cond (x.p.kind==(1:Int)) (cond ((decide ((0:Int)<=(aR (x.i+(1:Int)))))&&(decide ((aR (x.i+(1:Int))) < ((x.l.n:Nat):Int)))) (cond ((decide ((0:Int)<=x.i))&&(decide (x.i < ((x.l.n:Nat):Int)))) (cond ((decide ((0:Int)<=(aR (x.i+(2:Int)))))&&(decide ((aR (x.i+(2:Int))) < ((x.l.n:Nat):Int)))) (cond ((bz x.out.n x.out.n)&&(kC 24 x.out.n 1)) (cond (bz (x.out.n+1) (x.out.n+1)) (.next (⟨x.t2,x.t3,(x.out.push (⟨(x.l.get (Int.toNat (aR (x.i+(1:Int))))),(x.l.get (Int.toNat x.i)),(x.l.get (Int.toNat (aR (x.i+(2:Int)))))⟩:az)),x.l,(aR (x.i+(1:Int))),x.p⟩:cr)) .fail) .fail) .fail) .fail) .fail) (cond (x.p.kind==(2:Int)) (cond (decide ((0:Int) < ((x.l.n:Nat):Int))) (cond ((decide ((0:Int)<=(aR (x.i+(1:Int)))))&&(decide ((aR (x.i+(1:Int))) < ((x.l.n:Nat):Int)))) (cond ((decide ((0:Int)<=(aR (x.i+(2:Int)))))&&(decide ((aR (x.i+(2:Int))) < ((x.l.n:Nat):Int)))) (cond ((bz x.out.n x.out.n)&&(kC 24 x.out.n 1)) (cond (bz (x.out.n+1) (x.out.n+1)) (.next (⟨x.t2,x.t3,(x.out.push (⟨(x.l.get 0),(x.l.get (Int.toNat (aR (x.i+(1:Int))))),(x.l.get (Int.toNat (aR (x.i+(2:Int)))))⟩:az)),x.l,(aR (x.i+(1:Int))),x.p⟩:cr)) .fail) .fail) .fail) .fail) .fail) (cond (bz x.out.n x.out.n) (.next (⟨x.t2,x.t3,x.out,x.l,(aR (x.i+(1:Int))),x.p⟩:cr)) .fail)))) (cond (x.p.kind==(1:Int)) (cond ((decide ((0:Int)<=(aR (x.i+(1:Int)))))&&(decide ((aR (x.i+(1:Int))) < ((x.l.n:Nat):Int)))) (cond ((decide ((0:Int)<=x.i))&&(decide (x.i < ((x.l.n:Nat):Int)))) (cond ((decide ((0:Int)<=(aR (x.i+(2:Int)))))&&(decide ((aR (x.i+(2:Int))) < ((x.l.n:Nat):Int)))) (cond ((bz x.out.n x.out.n)&&(kC 24 x.out.n 1)) (cond (bz (x.out.n+1) (x.out.n+1)) (.next (⟨x.t2,x.t3,(x.out.push (⟨(x.l.get (Int.toNat (aR (x.i+(1:Int))))),(x.l.get (Int.toNat x.i)),(x.l.get (Int.toNat (aR (x.i+(2:Int)))))⟩:az)),x.l,(aR (x.i+(1:Int))),x.p⟩:cr)) .fail) .fail) .fail) .fail) .fail) (cond (x.p.kind==(2:Int)) (cond (decide ((0:Int) < ((x.l.n:Nat):Int))) (cond ((decide ((0:Int)<=(aR (x.i+(1:Int)))))&&(decide ((aR (x.i+(1:Int))) < ((x.l.n:Nat):Int)))) (cond ((decide ((0:Int)<=(aR (x.i+(2:Int)))))&&(decide ((aR (x.i+(2:Int))) < ((x.l.n:Nat):Int)))) (cond ((bz x.out.n x.out.n)&&(kC 24 x.out.n 1)) (cond (bz (x.out.n+1) (x.out.n+1)) (.next (⟨x.t2,x.t3,(x.out.push (⟨(x.l.get 0),(x.l.get (Int.toNat (aR (x.i+(1:Int))))),(x.l.get (Int.toNat (aR (x.i+(2:Int)))))⟩:az)),x.l,(aR (x.i+(1:Int))),x.p⟩:cr)) .fail) .fail) .fail) .fail) .fail) (cond (bz x.out.n x.out.n) (.next (⟨x.t2,x.t3,x.out,x.l,(aR (x.i+(1:Int))),x.p⟩:cr)) .fail))))) (cond (x.p.kind==(1:Int)) (cond ((Int.tmod x.i (2:Int))==(0:Int)) (cond ((decide ((0:Int)<=x.i))&&(decide (x.i < ((x.l.n:Nat):Int)))) (cond ((decide ((0:Int)<=(aR (x.i+(1:Int)))))&&(decide ((aR (x.i+(1:Int))) < ((x.l.n:Nat):Int)))) (cond ((decide ((0:Int)<=(aR (x.i+(2:Int)))))&&(decide ((aR (x.i+(2:Int))) < ((x.l.n:Nat):Int)))) (cond ((bz x.out.n x.out.n)&&(kC 24 x.out.n 1)) (cond (bz (x.out.n+1) (x.out.n+1)) (.next (⟨x.t2,x.t3,(x.out.push (⟨(x.l.get (Int.toNat x.i)),(x.l.get (Int.toNat (aR (x.i+(1:Int))))),(x.l.get (Int.toNat (aR (x.i+(2:Int)))))⟩:az)),x.l,(aR (x.i+(1:Int))),x.p⟩:cr)) .fail) .fail) .fail) .fail) .fail) (cond (x.p.kind==(1:Int)) (cond ((decide ((0:Int)<=(aR (x.i+(1:Int)))))&&(decide ((aR (x.i+(1:Int))) < ((x.l.n:Nat):Int)))) (cond ((decide ((0:Int)<=x.i))&&(decide (x.i < ((x.l.n:Nat):Int)))) (cond ((decide ((0:Int)<=(aR (x.i+(2:Int)))))&&(decide ((aR (x.i+(2:Int))) < ((x.l.n:Nat):Int)))) (cond ((bz x.out.n x.out.n)&&(kC 24 x.out.n 1)) (cond (bz (x.out.n+1) (x.out.n+1)) (.next (⟨x.t2,x.t3,(x.out.push (⟨(x.l.get (Int.toNat (aR (x.i+(1:Int))))),(x.l.get (Int.toNat x.i)),(x.l.get (Int.toNat (aR (x.i+(2:Int)))))⟩:az)),x.l,(aR (x.i+(1:Int))),x.p⟩:cr)) .fail) .fail) .fail) .fail) .fail) (cond (x.p.kind==(2:Int)) (cond (decide ((0:Int) < ((x.l.n:Nat):Int))) (cond ((decide ((0:Int)<=(aR (x.i+(1:Int)))))&&(decide ((aR (x.i+(1:Int))) < ((x.l.n:Nat):Int)))) (cond ((decide ((0:Int)<=(aR (x.i+(2:Int)))))&&(decide ((aR (x.i+(2:Int))) < ((x.l.n:Nat):Int)))) (cond ((bz x.out.n x.out.n)&&(kC 24 x.out.n 1)) (cond (bz (x.out.n+1) (x.out.n+1)) (.next (⟨x.t2,x.t3,(x.out.push (⟨(x.l.get 0),(x.l.get (Int.toNat (aR (x.i+(1:Int))))),(x.l.get (Int.toNat (aR (x.i+(2:Int)))))⟩:az)),x.l,(aR (x.i+(1:Int))),x.p⟩:cr)) .fail) .fail) .fail) .fail) .fail) (cond (bz x.out.n x.out.n) (.next (⟨x.t2,x.t3,x.out,x.l,(aR (x.i+(1:Int))),x.p⟩:cr)) .fail)))) (cond (x.p.kind==(1:Int)) (cond ((decide ((0:Int)<=(aR (x.i+(1:Int)))))&&(decide ((aR (x.i+(1:Int))) < ((x.l.n:Nat):Int)))) (cond ((decide ((0:Int)<=x.i))&&(decide (x.i < ((x.l.n:Nat):Int)))) (cond ((decide ((0:Int)<=(aR (x.i+(2:Int)))))&&(decide ((aR (x.i+(2:Int))) < ((x.l.n:Nat):Int)))) (cond ((bz x.out.n x.out.n)&&(kC 24 x.out.n 1)) (cond (bz (x.out.n+1) (x.out.n+1)) (.next (⟨x.t2,x.t3,(x.out.push (⟨(x.l.get (Int.toNat (aR (x.i+(1:Int))))),(x.l.get (Int.toNat x.i)),(x.l.get (Int.toNat (aR (x.i+(2:Int)))))⟩:az)),x.l,(aR (x.i+(1:Int))),x.p⟩:cr)) .fail) .fail) .fail) .fail) .fail) (cond (x.p.kind==(2:Int)) (cond (decide ((0:Int) < ((x.l.n:Nat):Int))) (cond ((decide ((0:Int)<=(aR (x.i+(1:Int)))))&&(decide ((aR (x.i+(1:Int))) < ((x.l.n:Nat):Int)))) (cond ((decide ((0:Int)<=(aR (x.i+(2:Int)))))&&(decide ((aR (x.i+(2:Int))) < ((x.l.n:Nat):Int)))) (cond ((bz x.out.n x.out.n)&&(kC 24 x.out.n 1)) (cond (bz (x.out.n+1) (x.out.n+1)) (.next (⟨x.t2,x.t3,(x.out.push (⟨(x.l.get 0),(x.l.get (Int.toNat (aR (x.i+(1:Int))))),(x.l.get (Int.toNat (aR (x.i+(2:Int)))))⟩:az)),x.l,(aR (x.i+(1:Int))),x.p⟩:cr)) .fail) .fail) .fail) .fail) .fail) (cond (bz x.out.n x.out.n) (.next (⟨x.t2,x.t3,x.out,x.l,(aR (x.i+(1:Int))),x.p⟩:cr)) .fail))))) (cond (bz x.out.n x.out.n) (.out (aB.ae.exit 1) x) .fail))
theorem TH (x:cr):Zn (yf x) (yg x)=aW.enc yf yg (kX x):=by
 unfold kX
 try simp only [aW.cf,jM]
 kernel_rfl
def zW:Lp:=⟨171,250,M6,fun vs rs=>dC yf yg (goN kX (Kz vs rs)) [aB.ae.exit 1],false⟩
theorem Zo:zW.Ok Tryz.prog:=b8 funcs mixed (ah.cons PF ah.nil) au.nil (L:=9) (n:=9) (step:=kX) (ev:=yf) (er:=yg) (pa:=Kz) rfl (fun wv wr=>⟨by kernel_rfl,by kernel_rfl⟩) TH
theorem RJ:bZ Tryz.prog zW.f zW.p=true:=by kernel_rfl
def UO:List (Nat×(List KV->KR KV)):=[(209,OP)]
def UQ:List Lp:=[zW]
theorem ad4:ah Tryz.prog UO:=(ah.cons PF ah.nil)
theorem ad5:au Tryz.prog UQ:=(au.cons Zo RJ au.nil)
def Jh (p:Prim):(Option Bool):=(zV p)
def Ji (p:Prim):(aW cr):=(goN kX (⟨(⟨0,(fun i=>(⟨(0:Int),(0:Int),(0:Int)⟩:az))⟩:Sl _),(0:Int),(⟨0,(fun i=>(⟨(0:Int),(0:Int),(0:Int)⟩:az))⟩:Sl _),p.index,(0:Int),p⟩:cr))
def zX (p:Prim):Option ((Sl az)×Int):=(cond (decide (p.kind > (2:Int))) (some ((⟨0,(fun i=>(⟨(0:Int),(0:Int),(0:Int)⟩:az))⟩:Sl _),(2:Int))) (cond (decide (((p.index.n:Nat):Int) > (200:Int))) (some ((⟨0,(fun i=>(⟨(0:Int),(0:Int),(0:Int)⟩:az))⟩:Sl _),(4:Int))) (cond (Jh p).isSome (cond (!((Jh p).getD default)) (some ((⟨0,(fun i=>(⟨(0:Int),(0:Int),(0:Int)⟩:az))⟩:Sl _),(40:Int))) (cond ((Ji p).by (aB.ae.exit 1)) (some ((Ji p).st.out,(0:Int))) none)) none)))
theorem ahF (p:Prim):cD Tryz.prog (bp Tryz.prog UO UQ (fun q=>Nat.beq q 3)) 9 9 171 [rq p] = (zX p).map (fun (r:(Sl az)×Int)=>KV.na [(eA 40 df) r.1,(kI .i64) r.2]):=by
 unfold zX
 try simp only [bq]
 kernel_rfl
def HF:List KV->KR KV:=bI Tryz.prog 171 (bL (fun (r:(Sl az)×Int)=>KV.na [(eA 40 df) r.1,(kI .i64) r.2]) fun vs=>zX (lL (vs.getD 0 .ao)))
theorem ad6 (w:Nat->KV):ck Tryz.prog [172] w 0 = [rq (lL (ax Tryz.prog (ai Tryz.prog aj) 172 (w 0)))]:=by kernel_rfl
theorem GK:bH Tryz.prog 171 HF:=aL funcs mixed ad4 ad5 (L:=9) (n:=9) fun w=>by
 have e:aG Tryz.prog 171 = [172]:=by kernel_rfl
 rw [e,ad6]
 exact (ahF (lL (ax Tryz.prog (ai Tryz.prog aj) 172 (w 0)))).trans (by kernel_rfl)
structure fh where
 t2:(Sl az)
 t3:Bool
 out:(Sl az)
 t12:(Sl Prim)
 t13:Int
 t14:Int
 m:iR
instance:Inhabited fh:=⟨by constructor<;>exact default⟩
def zY (x:fh):List KV:=[eA 40 df x.t2,.bool x.t3,eA 40 df x.out,eA 172 rq x.t12,.int .i64 x.t13,.int .i64 x.t14]
def zZ (x:fh):List (List KV):=[Wg x.m]
def M7 (vs:List KV) (rs:List (List KV)):fh:=⟨dP dv (vs.getD 0 .ao),dj (vs.getD 1 .ao),dP dv (vs.getD 2 .ao),dP lL (vs.getD 3 .ao),ay (vs.getD 4 .ao),ay (vs.getD 5 .ao),Wh (fun k=>(rs.getD 0 []).getD k .ao)⟩
def PG:aV:=⟨[(2,⟨false,[.k (.slice 40)]⟩),(3,⟨false,[.k .bool]⟩),(4,⟨false,[.bA 40]⟩),(12,⟨false,[.k (.slice 172)]⟩),(13,⟨false,[.k (.int .i64)]⟩),(14,⟨false,[.k (.int .i64)]⟩)],[(1,[.k (.slice 43),.k (.slice 185),.k (.slice 172)],1)],[(1,0,0)]⟩
structure eC where
 t2:(Sl az)
 t3:Bool
 out:(Sl az)
 t12:(Sl Prim)
 t13:Int
 t14:Int
 t34:(Sl Int)
 t35:Int
 t36:Int
 m:iR
instance:Inhabited eC:=⟨by constructor<;>exact default⟩
def tT (x:eC):List KV:=[eA 40 df x.t2,.bool x.t3,eA 40 df x.out,eA 172 rq x.t12,.int .i64 x.t13,.int .i64 x.t14,eA 3 (kI .i64) x.t34,.int .i64 x.t35,.int .i64 x.t36]
def tU (x:eC):List (List KV):=[Wg x.m]
def F9 (vs:List KV) (rs:List (List KV)):eC:=⟨dP dv (vs.getD 0 .ao),dj (vs.getD 1 .ao),dP dv (vs.getD 2 .ao),dP lL (vs.getD 3 .ao),ay (vs.getD 4 .ao),ay (vs.getD 5 .ao),dP ay (vs.getD 6 .ao),ay (vs.getD 7 .ao),ay (vs.getD 8 .ao),Wh (fun k=>(rs.getD 0 []).getD k .ao)⟩
def G4:aV:=⟨[(2,⟨false,[.k (.slice 40)]⟩),(3,⟨false,[.k .bool]⟩),(4,⟨false,[.bA 40]⟩),(12,⟨false,[.k (.slice 172)]⟩),(13,⟨false,[.k (.int .i64)]⟩),(14,⟨false,[.k (.int .i64)]⟩),(34,⟨false,[.k (.slice 3)]⟩),(35,⟨false,[.k (.int .i64)]⟩),(36,⟨false,[.k (.int .i64)]⟩)],[(1,[.k (.slice 43),.k (.slice 185),.k (.slice 172)],1)],[(1,0,0)]⟩
def RK:=dB Tryz.prog (bp Tryz.prog [(171,HF)] [] (fun q=>Nat.beq q 3)) 9 9 118 119614 (dF Tryz.prog 118 119614) G4
def fV (x:eC):aW eC:=(cond (decide (x.t36 < x.t35)) (cond ((decide ((0:Int)<=x.t36))&&(decide (x.t36 < ((x.t34.n:Nat):Int)))) (cond (decide ((x.t34.get (Int.toNat x.t36)) < (0:Int))) (cond (bz x.out.n x.out.n) (.out aB.ae.ret (⟨(⟨0,(fun i=>(⟨(0:Int),(0:Int),(0:Int)⟩:az))⟩:Sl _),false,x.out,x.t12,x.t13,x.t14,x.t34,x.t35,x.t36,x.m⟩:eC)) .fail) (cond (decide ((x.t34.get (Int.toNat x.t36)) >= ((x.m.gh.n:Nat):Int))) (cond (bz x.out.n x.out.n) (.out aB.ae.ret (⟨(⟨0,(fun i=>(⟨(0:Int),(0:Int),(0:Int)⟩:az))⟩:Sl _),false,x.out,x.t12,x.t13,x.t14,x.t34,x.t35,x.t36,x.m⟩:eC)) .fail) (cond (bz x.out.n x.out.n) (.next (⟨x.t2,x.t3,x.out,x.t12,x.t13,x.t14,x.t34,x.t35,(aR (x.t36+(1:Int))),x.m⟩:eC)) .fail))) .fail) (cond (bz x.out.n x.out.n) (.out (aB.ae.exit 2) x) .fail))
theorem OQ (x:eC):RK (tT x) (tU x)=aW.enc tT tU (fV x):=by
 unfold fV
 try simp only [aW.cf]
 kernel_rfl
def qX:Lp:=⟨118,119614,G4,fun vs rs=>dC tT tU (goN fV (F9 vs rs)) [aB.ae.exit 2,aB.ae.ret],false⟩
theorem Ga:qX.Ok Tryz.prog:=b8 funcs mixed (ah.cons GK ah.nil) au.nil (L:=9) (n:=9) (step:=fV) (ev:=tT) (er:=tU) (pa:=F9) rfl (fun wv wr=>⟨by kernel_rfl,by kernel_rfl⟩) OQ
theorem Cv:bZ Tryz.prog qX.f qX.p=true:=by kernel_rfl
def abu:=dB Tryz.prog (bp Tryz.prog [(171,HF)] [qX] (fun q=>Nat.beq q 3)) 9 9 118 58 (dF Tryz.prog 118 58) PG
def fJ (x:fh):(Option (Prod (Sl az) Int)):=(zX (x.t12.get (Int.toNat x.t14)))
def cI (x:fh):(aW eC):=(goN fV (⟨x.t2,x.t3,(x.out.join ((fJ x).getD default).fst),x.t12,x.t13,x.t14,(x.t12.get (Int.toNat x.t14)).index,(((x.t12.get (Int.toNat x.t14)).index.n:Nat):Int),(0:Int),x.m⟩:eC))
def nh (x:fh):aW fh:=(cond (decide (x.t14 < x.t13)) (cond ((decide ((0:Int)<=x.t14))&&(decide (x.t14 < ((x.t12.n:Nat):Int)))) (cond (fJ x).isSome (cond ((bz x.out.n x.out.n)&&(kC 24 x.out.n ((fJ x).getD default).fst.n)) (cond (((fJ x).getD default).snd != (0:Int)) (cond (bz (x.out.n+((fJ x).getD default).fst.n) (x.out.n+((fJ x).getD default).fst.n)) (.out aB.ae.ret (⟨(⟨0,(fun i=>(⟨(0:Int),(0:Int),(0:Int)⟩:az))⟩:Sl _),false,(x.out.join ((fJ x).getD default).fst),x.t12,x.t13,x.t14,x.m⟩:fh)) .fail) (cond (decide ((((x.out.n+((fJ x).getD default).fst.n):Nat):Int) > (64:Int))) (cond (bz (x.out.n+((fJ x).getD default).fst.n) (x.out.n+((fJ x).getD default).fst.n)) (.out aB.ae.ret (⟨(⟨0,(fun i=>(⟨(0:Int),(0:Int),(0:Int)⟩:az))⟩:Sl _),false,(x.out.join ((fJ x).getD default).fst),x.t12,x.t13,x.t14,x.m⟩:fh)) .fail) (cond (bz (x.out.n+((fJ x).getD default).fst.n) (x.out.n+((fJ x).getD default).fst.n)) (cond ((cI x).by (aB.ae.exit 2)) (cond (bz (cI x).st.out.n (cI x).st.out.n) (.next (⟨(cI x).st.t2,(cI x).st.t3,(cI x).st.out,(cI x).st.t12,(cI x).st.t13,(aR ((cI x).st.t14+(1:Int))),(cI x).st.m⟩:fh)) .fail) (cond ((cI x).by aB.ae.ret) (cond (bz (cI x).st.out.n (cI x).st.out.n) (.out aB.ae.ret (⟨(cI x).st.t2,(cI x).st.t3,(cI x).st.out,(cI x).st.t12,(cI x).st.t13,(cI x).st.t14,(cI x).st.m⟩:fh)) .fail) .fail)) .fail))) .fail) .fail) .fail) (cond (bz x.out.n x.out.n) (.out (aB.ae.exit 0) x) .fail))
theorem WG (x:fh):abu (zY x) (zZ x)=aW.enc zY zZ (nh x):=by
 unfold nh
 try simp only [aW.cf,cI,lk]
 kernel_rfl
def Bw:Lp:=⟨118,58,PG,fun vs rs=>dC zY zZ (goN nh (M7 vs rs)) [aB.ae.exit 0,aB.ae.ret],false⟩
theorem abv:Bw.Ok Tryz.prog:=b8 funcs mixed (ah.cons GK ah.nil) (au.cons Ga Cv au.nil) (L:=9) (n:=9) (step:=nh) (ev:=zY) (er:=zZ) (pa:=M7) rfl (fun wv wr=>⟨by kernel_rfl,by kernel_rfl⟩) WG
theorem TI:bZ Tryz.prog Bw.f Bw.p=true:=by kernel_rfl
def UR:List (Nat×(List KV->KR KV)):=[(171,HF)]
def UT:List Lp:=[qX,Bw]
theorem ad7:ah Tryz.prog UR:=(ah.cons GK ah.nil)
theorem ad8:au Tryz.prog UT:=(au.cons Ga Cv (au.cons abv TI au.nil))
def vv (m:iR):(aW fh):=(goN nh (⟨(⟨0,(fun i=>(⟨(0:Int),(0:Int),(0:Int)⟩:az))⟩:Sl _),false,(⟨0,(fun i=>(⟨(0:Int),(0:Int),(0:Int)⟩:az))⟩:Sl _),m.cG,((m.cG.n:Nat):Int),(0:Int),m⟩:fh))
def z6 (m:iR):Option ((Sl az)×Bool):=(cond ((vv m).by (aB.ae.exit 0)) (some ((vv m).st.out,true)) (cond ((vv m).by aB.ae.ret) (some ((vv m).st.t2,(vv m).st.t3)) none))
theorem ahG (m:iR):cD Tryz.prog (bp Tryz.prog UR UT (fun q=>Nat.beq q 3)) 9 9 118 [nY m] = (z6 m).map (fun (r:(Sl az)×Bool)=>KV.na [(eA 40 df) r.1,kB r.2]):=by
 unfold z6
 try simp only [bq]
 kernel_rfl
def HG:List KV->KR KV:=bI Tryz.prog 118 (bL (fun (r:(Sl az)×Bool)=>KV.na [(eA 40 df) r.1,kB r.2]) fun vs=>z6 (jI (vs.getD 0 .ao)))
theorem ad9 (w:Nat->KV):ck Tryz.prog [88] w 0 = [nY (jI (ax Tryz.prog (ai Tryz.prog aj) 88 (w 0)))]:=by kernel_rfl
theorem GL:bH Tryz.prog 118 HG:=aL funcs mixed ad7 ad8 (L:=9) (n:=9) fun w=>by
 have e:aG Tryz.prog 118 = [88]:=by kernel_rfl
 rw [e,ad9]
 exact (ahG (jI (ax Tryz.prog (ai Tryz.prog aj) 88 (w 0)))).trans (by kernel_rfl)
structure aO where
 s:(Sl fO)
 t4:Int
 t7:Int
 t8:Int
instance:Inhabited aO:=⟨⟨default,default,default,default⟩⟩
def iu (x:aO):List KV:=[eA 43 mr x.s,.fn (.func 113) [] [],.int .i64 x.t4,.int .i64 x.t7,.int .i64 x.t8]
def iv (x:aO):List (List KV):=[]
def oP (vs:List KV) (rs:List (List KV)):aO:=⟨dP kL (vs.getD 0 .ao),ay (vs.getD 2 .ao),ay (vs.getD 3 .ao),ay (vs.getD 4 .ao)⟩
def pk:aV:=⟨[(0,⟨false,[.k (.slice 43)]⟩),(1,⟨false,[.lit (.fn (.func 113) [] [])]⟩),(4,⟨false,[.k (.int .i64)]⟩),(7,⟨false,[.k (.int .i64)]⟩),(8,⟨false,[.k (.int .i64)]⟩)],[],[]⟩
def w4:=dB Tryz.prog (bp Tryz.prog [(118,HG),(115,zU),(113,zT)] [] (fun q=>Nat.beq q 3)) 9 9 169 26 (dF Tryz.prog 169 26) pk
def bS (x:aO):aW aO:=(cond (decide (x.t8 < x.t7)) (cond ((decide ((0:Int)<=x.t8))&&(decide (x.t8 < ((x.s.n:Nat):Int)))) (cond (decide ((x.s.get (Int.toNat x.t8)).x >= (-(1024:Int)))) (cond (!(decide ((x.s.get (Int.toNat x.t8)).x<=(1024:Int)))) (.out aB.ae.ret (⟨x.s,x.t8,x.t7,x.t8⟩:aO)) (cond (decide ((x.s.get (Int.toNat x.t8)).y >= (-(1024:Int)))) (cond (!(decide ((x.s.get (Int.toNat x.t8)).y<=(1024:Int)))) (.out aB.ae.ret (⟨x.s,x.t8,x.t7,x.t8⟩:aO)) (cond (decide ((x.s.get (Int.toNat x.t8)).z >= (-(1024:Int)))) (cond (!(decide ((x.s.get (Int.toNat x.t8)).z<=(1024:Int)))) (.out aB.ae.ret (⟨x.s,x.t8,x.t7,x.t8⟩:aO)) (.next (⟨x.s,x.t4,x.t7,(aR (x.t8+(1:Int)))⟩:aO))) (.out aB.ae.ret (⟨x.s,x.t8,x.t7,x.t8⟩:aO)))) (.out aB.ae.ret (⟨x.s,x.t8,x.t7,x.t8⟩:aO)))) (.out aB.ae.ret (⟨x.s,x.t8,x.t7,x.t8⟩:aO))) .fail) (.out (aB.ae.exit 0) x))
theorem vC (x:aO):w4 (iu x) (iv x)=aW.enc iu iv (bS x):=by
 unfold bS
 try simp only [aW.cf]
 kernel_rfl
def fC:Lp:=⟨169,26,pk,fun vs rs=>dC iu iv (goN bS (oP vs rs)) [aB.ae.exit 0,aB.ae.ret],false⟩
theorem oQ:fC.Ok Tryz.prog:=b8 funcs mixed (ah.cons GL (ah.cons AD (ah.cons AB ah.nil))) au.nil (L:=9) (n:=9) (step:=bS) (ev:=iu) (er:=iv) (pa:=oP) rfl (fun wv wr=>⟨by kernel_rfl,by kernel_rfl⟩) vC
theorem nw:bZ Tryz.prog fC.f fC.p=true:=by kernel_rfl
structure aZ where
 s:(Sl rp)
 t4:Int
 t7:Int
 t8:Int
instance:Inhabited aZ:=⟨⟨default,default,default,default⟩⟩
def iw (x:aZ):List KV:=[eA 185 nX x.s,.fn (.func 115) [] [],.int .i64 x.t4,.int .i64 x.t7,.int .i64 x.t8]
def iy (x:aZ):List (List KV):=[]
def oS (vs:List KV) (rs:List (List KV)):aZ:=⟨dP jW (vs.getD 0 .ao),ay (vs.getD 2 .ao),ay (vs.getD 3 .ao),ay (vs.getD 4 .ao)⟩
def pn:aV:=⟨[(0,⟨false,[.k (.slice 185)]⟩),(1,⟨false,[.lit (.fn (.func 115) [] [])]⟩),(4,⟨false,[.k (.int .i64)]⟩),(7,⟨false,[.k (.int .i64)]⟩),(8,⟨false,[.k (.int .i64)]⟩)],[],[]⟩
def w5:=dB Tryz.prog (bp Tryz.prog [(118,HG),(115,zU),(113,zT)] [fC] (fun q=>Nat.beq q 3)) 9 9 170 26 (dF Tryz.prog 170 26) pn
def bT (x:aZ):aW aZ:=(cond (decide (x.t8 < x.t7)) (cond ((decide ((0:Int)<=x.t8))&&(decide (x.t8 < ((x.s.n:Nat):Int)))) (cond (decide ((x.s.get (Int.toNat x.t8)).e0 < (0:Int))) (.out aB.ae.ret (⟨x.s,x.t8,x.t7,x.t8⟩:aZ)) (cond (decide ((x.s.get (Int.toNat x.t8)).e0 > (255:Int))) (.out aB.ae.ret (⟨x.s,x.t8,x.t7,x.t8⟩:aZ)) (cond (decide ((x.s.get (Int.toNat x.t8)).e1 < (0:Int))) (.out aB.ae.ret (⟨x.s,x.t8,x.t7,x.t8⟩:aZ)) (cond (decide ((x.s.get (Int.toNat x.t8)).e1 > (255:Int))) (.out aB.ae.ret (⟨x.s,x.t8,x.t7,x.t8⟩:aZ)) (.next (⟨x.s,x.t4,x.t7,(aR (x.t8+(1:Int)))⟩:aZ)))))) .fail) (.out (aB.ae.exit 0) x))
theorem vD (x:aZ):w5 (iw x) (iy x)=aW.enc iw iy (bT x):=by
 unfold bT
 try simp only [aW.cf]
 kernel_rfl
def iP:Lp:=⟨170,26,pn,fun vs rs=>dC iw iy (goN bT (oS vs rs)) [aB.ae.exit 0,aB.ae.ret],false⟩
theorem w6:iP.Ok Tryz.prog:=b8 funcs mixed (ah.cons GL (ah.cons AD (ah.cons AB ah.nil))) (au.cons oQ nw au.nil) (L:=9) (n:=9) (step:=bT) (ev:=iw) (er:=iy) (pa:=oS) rfl (fun wv wr=>⟨by kernel_rfl,by kernel_rfl⟩) vD
theorem vw:bZ Tryz.prog iP.f iP.p=true:=by kernel_rfl
def RL:List (Nat×(List KV->KR KV)):=[(118,HG),(115,zU),(113,zT)]
def RM:List Lp:=[fC,iP]
theorem abw:ah Tryz.prog RL:=(ah.cons GL (ah.cons AD (ah.cons AB ah.nil)))
theorem abx:au Tryz.prog RM:=(au.cons oQ nw (au.cons w6 vw au.nil))
def Bx (m:iR):(aW aO):=(goN bS (⟨m.gh,(0:Int),((m.gh.n:Nat):Int),(0:Int)⟩:aO))
def qN (m:iR):(aW aZ):=(goN bT (⟨m.uV,(0:Int),((m.uV.n:Nat):Int),(0:Int)⟩:aZ))
def mT (m:iR):(Option (Prod (Sl az) Bool)):=(z6 m)
def xu (m:iR):Option (Int):=(cond (decide (((m.gh.n:Nat):Int) > (64:Int))) (some ((4:Int))) (cond (decide (((m.uV.n:Nat):Int) > (64:Int))) (some ((4:Int))) (cond (decide (((m.cG.n:Nat):Int) > (16:Int))) (some ((4:Int))) (cond (((m.uV.n:Nat):Int) != ((m.gh.n:Nat):Int)) (some ((40:Int))) (cond ((Bx m).by (aB.ae.exit 0)) (cond ((qN m).by (aB.ae.exit 0)) (cond (mT m).isSome (cond (!((mT m).getD default).snd) (some ((40:Int))) (some ((0:Int)))) none) (cond ((qN m).by aB.ae.ret) (cond (decide ((qN m).st.t4 >= (0:Int))) (some ((40:Int))) (cond (mT m).isSome (cond (!((mT m).getD default).snd) (some ((40:Int))) (some ((0:Int)))) none)) none)) (cond ((Bx m).by aB.ae.ret) (cond (decide ((Bx m).st.t4 >= (0:Int))) (some ((40:Int))) (cond ((qN m).by (aB.ae.exit 0)) (cond (mT m).isSome (cond (!((mT m).getD default).snd) (some ((40:Int))) (some ((0:Int)))) none) (cond ((qN m).by aB.ae.ret) (cond (decide ((qN m).st.t4 >= (0:Int))) (some ((40:Int))) (cond (mT m).isSome (cond (!((mT m).getD default).snd) (some ((40:Int))) (some ((0:Int)))) none)) none))) none))))))
theorem aea (m:iR):cD Tryz.prog (bp Tryz.prog RL RM (fun q=>Nat.beq q 3)) 9 9 70 [nY m] = (xu m).map (kI .i64):=by
 unfold xu
 try simp only [bq]
 kernel_rfl
def Bf:List KV->KR KV:=bI Tryz.prog 70 (bL (kI .i64) fun vs=>xu (jI (vs.getD 0 .ao)))
theorem aby (w:Nat->KV):ck Tryz.prog [88] w 0 = [nY (jI (ax Tryz.prog (ai Tryz.prog aj) 88 (w 0)))]:=by kernel_rfl
theorem z7:bH Tryz.prog 70 Bf:=aL funcs mixed abw abx (L:=9) (n:=9) fun w=>by
 have e:aG Tryz.prog 70 = [88]:=by kernel_rfl
 rw [e,aby]
 exact (aea (jI (ax Tryz.prog (ai Tryz.prog aj) 88 (w 0)))).trans (by kernel_rfl)
def M8:List (Nat×(List KV->KR KV)):=[]
def M9:List Lp:=[]
theorem WH:ah Tryz.prog M8:=ah.nil
theorem WI:au Tryz.prog M9:=au.nil
def qO (n:Int):Option (Bool):=(cond (decide (n > (0:Int))) (some ((decide (n<=(16:Int))))) (some (false)))
theorem Zp (n:Int):cD Tryz.prog (bp Tryz.prog M8 M9 (fun q=>Nat.beq q 3)) 9 9 119 [(kI .i64) n] = (qO n).map kB:=by
 unfold qO
 try simp only [bq]
 kernel_rfl
def PH:List KV->KR KV:=bI Tryz.prog 119 (bL kB fun vs=>qO (ay (vs.getD 0 .ao)))
theorem WJ (w:Nat->KV):ck Tryz.prog [3] w 0 = [(kI .i64) (ay (ax Tryz.prog (ai Tryz.prog aj) 3 (w 0)))]:=by kernel_rfl
theorem WK:bH Tryz.prog 119 PH:=aL funcs mixed WH WI (L:=9) (n:=9) fun w=>by
 have e:aG Tryz.prog 119 = [3]:=by kernel_rfl
 rw [e,WJ]
 exact (Zp (ay (ax Tryz.prog (ai Tryz.prog aj) 3 (w 0)))).trans (by kernel_rfl)
def KB:List (Nat×(List KV->KR KV)):=[(119,PH)]
def KC:List Lp:=[]
theorem TJ:ah Tryz.prog KB:=(ah.cons WK ah.nil)
theorem TK:au Tryz.prog KC:=au.nil
def Ca (t:je):(Option Bool):=(qO t.w)
def Cb (t:je):(Option Bool):=(qO t.h)
def rS (t:je):Option (Int):=(cond (Ca t).isSome (cond (!((Ca t).getD default)) (some ((8:Int))) (cond (Cb t).isSome (cond (!((Cb t).getD default)) (some ((8:Int))) (cond (((t.SY.n:Nat):Int) != (aR (t.w * t.h))) (some ((8:Int))) (some ((0:Int))))) none)) none)
theorem WL (t:je):cD Tryz.prog (bp Tryz.prog KB KC (fun q=>Nat.beq q 3)) 9 9 72 [jE t] = (rS t).map (kI .i64):=by
 unfold rS
 try simp only [bq]
 kernel_rfl
def vx:List KV->KR KV:=bI Tryz.prog 72 (bL (kI .i64) fun vs=>rS (eM (vs.getD 0 .ao)))
theorem TL (w:Nat->KV):ck Tryz.prog [91] w 0 = [jE (eM (ax Tryz.prog (ai Tryz.prog aj) 91 (w 0)))]:=by kernel_rfl
theorem uJ:bH Tryz.prog 72 vx:=aL funcs mixed TJ TK (L:=9) (n:=9) fun w=>by
 have e:aG Tryz.prog 72 = [91]:=by kernel_rfl
 rw [e,TL]
 exact (WL (eM (ax Tryz.prog (ai Tryz.prog aj) 91 (w 0)))).trans (by kernel_rfl)
structure ll where
 cA:Int
 t4:Bool
 t7:(Sl Int)
 t8:Int
 t9:Int
instance:Inhabited ll:=⟨⟨default,default,default,default,default⟩⟩
def Fz (x:ll):List KV:=[.int .i64 x.cA,.bool x.t4,eA 3 (kI .i64) x.t7,.int .i64 x.t8,.int .i64 x.t9]
def FB (x:ll):List (List KV):=[]
def UU (vs:List KV) (rs:List (List KV)):ll:=⟨ay (vs.getD 0 .ao),dj (vs.getD 1 .ao),dP ay (vs.getD 2 .ao),ay (vs.getD 3 .ao),ay (vs.getD 4 .ao)⟩
def Zq:aV:=⟨[(0,⟨false,[.k (.int .i64)]⟩),(4,⟨false,[.k .bool]⟩),(7,⟨false,[.k (.slice 3)]⟩),(8,⟨false,[.k (.int .i64)]⟩),(9,⟨false,[.k (.int .i64)]⟩)],[],[]⟩
def ajE:=dB Tryz.prog (bp Tryz.prog [] [] (fun q=>Nat.beq q 3)) 9 9 182 26 (dF Tryz.prog 182 26) Zq
def qP (x:ll):aW ll:=(cond (decide (x.t9 < x.t8)) (cond ((decide ((0:Int)<=x.t9))&&(decide (x.t9 < ((x.t7.n:Nat):Int)))) (cond (decide ((x.t7.get (Int.toNat x.t9)) < (aR ((0:Int) - x.cA)))) (.out aB.ae.ret (⟨x.cA,false,x.t7,x.t8,x.t9⟩:ll)) (cond (decide ((x.t7.get (Int.toNat x.t9)) > x.cA)) (.out aB.ae.ret (⟨x.cA,false,x.t7,x.t8,x.t9⟩:ll)) (.next (⟨x.cA,x.t4,x.t7,x.t8,(aR (x.t9+(1:Int)))⟩:ll)))) .fail) (.out (aB.ae.exit 0) x))
theorem aeb (x:ll):ajE (Fz x) (FB x)=aW.enc Fz FB (qP x):=by
 unfold qP
 try simp only [aW.cf]
 kernel_rfl
def HH:Lp:=⟨182,26,Zq,fun vs rs=>dC Fz FB (goN qP (UU vs rs)) [aB.ae.exit 0,aB.ae.ret],false⟩
theorem ajF:HH.Ok Tryz.prog:=b8 funcs mixed ah.nil au.nil (L:=9) (n:=9) (step:=qP) (ev:=Fz) (er:=FB) (pa:=UU) rfl (fun wv wr=>⟨by kernel_rfl,by kernel_rfl⟩) aeb
theorem abz:bZ Tryz.prog HH.f HH.p=true:=by kernel_rfl
def ahH:List (Nat×(List KV->KR KV)):=[]
def ahI:List Lp:=[HH]
theorem amk:ah Tryz.prog ahH:=ah.nil
theorem aml:au Tryz.prog ahI:=(au.cons ajF abz au.nil)
def KD (cA:Int) (l:(Sl Int)):(aW ll):=(goN qP (⟨cA,false,l,((l.n:Nat):Int),(0:Int)⟩:ll))
def H5 (cA:Int) (l:(Sl Int)):Option (Bool):=(cond ((KD cA l).by (aB.ae.exit 0)) (some (true)) (cond ((KD cA l).by aB.ae.ret) (some ((KD cA l).st.t4)) none))
theorem aow (cA:Int) (l:(Sl Int)):cD Tryz.prog (bp Tryz.prog ahH ahI (fun q=>Nat.beq q 3)) 9 9 182 [(kI .i64) cA,(eA 3 (kI .i64)) l] = (H5 cA l).map kB:=by
 unfold H5
 try simp only [bq]
 kernel_rfl
def akZ:List KV->KR KV:=bI Tryz.prog 182 (bL kB fun vs=>H5 (ay (vs.getD 0 .ao)) ((dP ay) (vs.getD 1 .ao)))
theorem amm (w:Nat->KV):ck Tryz.prog [3,36] w 0 = [(kI .i64) (ay (ax Tryz.prog (ai Tryz.prog aj) 3 (w 0))),(eA 3 (kI .i64)) ((dP ay) (ax Tryz.prog (ai Tryz.prog aj) 36 (w 1)))]:=by kernel_rfl
theorem amn:bH Tryz.prog 182 akZ:=aL funcs mixed amk aml (L:=9) (n:=9) fun w=>by
 have e:aG Tryz.prog 182 = [3,36]:=by kernel_rfl
 rw [e,amm]
 exact (aow (ay (ax Tryz.prog (ai Tryz.prog aj) 3 (w 0))) ((dP ay) (ax Tryz.prog (ai Tryz.prog aj) 36 (w 1)))).trans (by kernel_rfl)
def Zr:List (Nat×(List KV->KR KV)):=[]
def Zs:List Lp:=[]
theorem ahJ:ah Tryz.prog Zr:=ah.nil
theorem ahK:au Tryz.prog Zs:=au.nil
def Cw (m:bw):Option (Bool):=(cond (decide (m.e0.e0 < (-(1024:Int)))) (some (false)) (cond (decide (m.e0.e0 > (1024:Int))) (some (false)) (cond (decide (m.e0.e1 < (-(1024:Int)))) (some (false)) (cond (decide (m.e0.e1 > (1024:Int))) (some (false)) (cond (decide (m.e0.e2 < (-(1024:Int)))) (some (false)) (cond (decide (m.e0.e2 > (1024:Int))) (some (false)) (cond (decide (m.e1.e0 < (-(1024:Int)))) (some (false)) (cond (decide (m.e1.e0 > (1024:Int))) (some (false)) (cond (decide (m.e1.e1 < (-(1024:Int)))) (some (false)) (cond (decide (m.e1.e1 > (1024:Int))) (some (false)) (cond (decide (m.e1.e2 < (-(1024:Int)))) (some (false)) (cond (decide (m.e1.e2 > (1024:Int))) (some (false)) (cond (decide (m.e2.e0 < (-(1024:Int)))) (some (false)) (cond (decide (m.e2.e0 > (1024:Int))) (some (false)) (cond (decide (m.e2.e1 < (-(1024:Int)))) (some (false)) (cond (decide (m.e2.e1 > (1024:Int))) (some (false)) (cond (decide (m.e2.e2 < (-(1024:Int)))) (some (false)) (cond (decide (m.e2.e2 > (1024:Int))) (some (false)) (some (true))))))))))))))))))))
theorem ajG (m:bw):cD Tryz.prog (bp Tryz.prog Zr Zs (fun q=>Nat.beq q 3)) 9 9 181 [gb m] = (Cw m).map kB:=by
 unfold Cw
 try simp only [bq]
 kernel_rfl
def ade:List KV->KR KV:=bI Tryz.prog 181 (bL kB fun vs=>Cw (cV (vs.getD 0 .ao)))
theorem ahL (w:Nat->KV):ck Tryz.prog [41] w 0 = [gb (cV (ax Tryz.prog (ai Tryz.prog aj) 41 (w 0)))]:=by kernel_rfl
theorem ahM:bH Tryz.prog 181 ade:=aL funcs mixed ahJ ahK (L:=9) (n:=9) fun w=>by
 have e:aG Tryz.prog 181 = [41]:=by kernel_rfl
 rw [e,ahL]
 exact (ajG (cV (ax Tryz.prog (ai Tryz.prog aj) 41 (w 0)))).trans (by kernel_rfl)
def UW:List (Nat×(List KV->KR KV)):=[(182,akZ)]
def UX:List Lp:=[]
theorem aec:ah Tryz.prog UW:=(ah.cons amn ah.nil)
theorem aed:au Tryz.prog UX:=au.nil
def DC (v:fO):(Option Bool):=(H5 (4096:Int) (Sl.lit [v.x,v.y,v.z]))
def wq (v:fO):Option (Int):=(cond (DC v).isSome (cond (!((DC v).getD default)) (some ((20:Int))) (some ((0:Int)))) none)
theorem ahN (v:fO):cD Tryz.prog (bp Tryz.prog UW UX (fun q=>Nat.beq q 3)) 9 9 134 [mr v] = (wq v).map (kI .i64):=by
 unfold wq
 try simp only [bq,DC,iJ]
 kernel_rfl
def OS:List KV->KR KV:=bI Tryz.prog 134 (bL (kI .i64) fun vs=>wq (kL (vs.getD 0 .ao)))
theorem aee (w:Nat->KV):ck Tryz.prog [43] w 0 = [mr (kL (ax Tryz.prog (ai Tryz.prog aj) 43 (w 0)))]:=by kernel_rfl
theorem PI:bH Tryz.prog 134 OS:=aL funcs mixed aec aed (L:=9) (n:=9) fun w=>by
 have e:aG Tryz.prog 134 = [43]:=by kernel_rfl
 rw [e,aee]
 exact (ahN (kL (ax Tryz.prog (ai Tryz.prog aj) 43 (w 0)))).trans (by kernel_rfl)
def Na:List (Nat×(List KV->KR KV)):=[(134,OS),(181,ade)]
def Nb:List Lp:=[]
theorem WM:ah Tryz.prog Na:=(ah.cons PI (ah.cons ahM ah.nil))
theorem WN:au Tryz.prog Nb:=au.nil
def DD (m:dm):(Option Bool):=(Cw m.m)
def DE (m:dm):(Option Int):=(wq m.t)
def mU (m:dm):Option (Int):=(cond (DD m).isSome (cond (!((DD m).getD default)) (some ((20:Int))) (cond (DE m).isSome (some (((DE m).getD default))) none)) none)
theorem Zt (m:dm):cD Tryz.prog (bp Tryz.prog Na Nb (fun q=>Nat.beq q 3)) 9 9 133 [mu m] = (mU m).map (kI .i64):=by
 unfold mU
 try simp only [bq]
 kernel_rfl
def GM:List KV->KR KV:=bI Tryz.prog 133 (bL (kI .i64) fun vs=>mU (mv (vs.getD 0 .ao)))
theorem WO (w:Nat->KV):ck Tryz.prog [45] w 0 = [mu (mv (ax Tryz.prog (ai Tryz.prog aj) 45 (w 0)))]:=by kernel_rfl
theorem Jj:bH Tryz.prog 133 GM:=aL funcs mixed WM WN (L:=9) (n:=9) fun w=>by
 have e:aG Tryz.prog 133 = [45]:=by kernel_rfl
 rw [e,WO]
 exact (Zt (mv (ax Tryz.prog (ai Tryz.prog aj) 45 (w 0)))).trans (by kernel_rfl)
structure jX where
 l:(Sl Int)
 t2:Bool
 last:Int
 t6:(Sl Int)
 t7:Int
 t8:Int
instance:Inhabited jX:=⟨by constructor<;>exact default⟩
def Bz (x:jX):List KV:=[eA 3 (kI .i64) x.l,.bool x.t2,.int .i64 x.last,eA 3 (kI .i64) x.t6,.int .i64 x.t7,.int .i64 x.t8]
def BA (x:jX):List (List KV):=[]
def PJ (vs:List KV) (rs:List (List KV)):jX:=⟨dP ay (vs.getD 0 .ao),dj (vs.getD 1 .ao),ay (vs.getD 2 .ao),dP ay (vs.getD 3 .ao),ay (vs.getD 4 .ao),ay (vs.getD 5 .ao)⟩
def RN:aV:=⟨[(0,⟨false,[.k (.slice 3)]⟩),(2,⟨false,[.k .bool]⟩),(3,⟨false,[.k (.int .i64)]⟩),(6,⟨false,[.k (.slice 3)]⟩),(7,⟨false,[.k (.int .i64)]⟩),(8,⟨false,[.k (.int .i64)]⟩)],[],[]⟩
def aef:=dB Tryz.prog (bp Tryz.prog [] [] (fun q=>Nat.beq q 3)) 9 9 135 58 (dF Tryz.prog 135 58) RN
def j4 (x:jX):aW jX:=(cond (decide (x.t8 < x.t7)) (cond ((decide ((0:Int)<=x.t8))&&(decide (x.t8 < ((x.t6.n:Nat):Int)))) (cond (decide ((x.t6.get (Int.toNat x.t8)) < x.last)) (.out aB.ae.ret (⟨x.l,false,x.last,x.t6,x.t7,x.t8⟩:jX)) (cond (decide ((x.t6.get (Int.toNat x.t8)) > (8192:Int))) (.out aB.ae.ret (⟨x.l,false,x.last,x.t6,x.t7,x.t8⟩:jX)) (.next (⟨x.l,x.t2,(x.t6.get (Int.toNat x.t8)),x.t6,x.t7,(aR (x.t8+(1:Int)))⟩:jX)))) .fail) (.out (aB.ae.exit 0) x))
theorem Zu (x:jX):aef (Bz x) (BA x)=aW.enc Bz BA (j4 x):=by
 unfold j4
 try simp only [aW.cf]
 kernel_rfl
def DF:Lp:=⟨135,58,RN,fun vs rs=>dC Bz BA (goN j4 (PJ vs rs)) [aB.ae.exit 0,aB.ae.ret],false⟩
theorem aeg:DF.Ok Tryz.prog:=b8 funcs mixed ah.nil au.nil (L:=9) (n:=9) (step:=j4) (ev:=Bz) (er:=BA) (pa:=PJ) rfl (fun wv wr=>⟨by kernel_rfl,by kernel_rfl⟩) Zu
theorem WQ:bZ Tryz.prog DF.f DF.p=true:=by kernel_rfl
def Zv:List (Nat×(List KV->KR KV)):=[]
def Zw:List Lp:=[DF]
theorem ahO:ah Tryz.prog Zv:=ah.nil
theorem ahP:au Tryz.prog Zw:=(au.cons aeg WQ au.nil)
def Bg (l:(Sl Int)):(aW jX):=(goN j4 (⟨l,false,(0:Int),l,((l.n:Nat):Int),(0:Int)⟩:jX))
def Cx (l:(Sl Int)):Option (Bool):=(cond ((Bg l).by (aB.ae.exit 0)) (some ((decide ((((Bg l).st.l.n:Nat):Int)<=(16:Int))))) (cond ((Bg l).by aB.ae.ret) (some ((Bg l).st.t2)) none))
theorem ajH (l:(Sl Int)):cD Tryz.prog (bp Tryz.prog Zv Zw (fun q=>Nat.beq q 3)) 9 9 135 [(eA 3 (kI .i64)) l] = (Cx l).map kB:=by
 unfold Cx
 try simp only [bq]
 kernel_rfl
def adf:List KV->KR KV:=bI Tryz.prog 135 (bL kB fun vs=>Cx ((dP ay) (vs.getD 0 .ao)))
theorem ahQ (w:Nat->KV):ck Tryz.prog [36] w 0 = [(eA 3 (kI .i64)) ((dP ay) (ax Tryz.prog (ai Tryz.prog aj) 36 (w 0)))]:=by kernel_rfl
theorem ahR:bH Tryz.prog 135 adf:=aL funcs mixed ahO ahP (L:=9) (n:=9) fun w=>by
 have e:aG Tryz.prog 135 = [36]:=by kernel_rfl
 rw [e,ahQ]
 exact (ajH ((dP ay) (ax Tryz.prog (ai Tryz.prog aj) 36 (w 0)))).trans (by kernel_rfl)
def RO:List (Nat×(List KV->KR KV)):=[(135,adf),(134,OS),(133,GM)]
def RP:List Lp:=[]
theorem abA:ah Tryz.prog RO:=(ah.cons ahR (ah.cons PI (ah.cons Jj ah.nil)))
theorem abB:au Tryz.prog RP:=au.nil
def GN (n:Node):(Option Int):=(mU n.gd)
def GP (n:Node):(Option Int):=(wq n.cl)
def GQ (n:Node):(Option Bool):=(Cx n.nb)
def xv (n:Node):Option (Node×Bool):=(cond (n.kind==(1:Int)) (some ((⟨n.kind,(⟨(⟨(⟨(0:Int),(0:Int),(0:Int)⟩:az),(⟨(0:Int),(0:Int),(0:Int)⟩:az),(⟨(0:Int),(0:Int),(0:Int)⟩:az)⟩:bw),(⟨(0:Int),(0:Int),(0:Int)⟩:fO)⟩:dm),(0:Int),(⟨(0:Int),(0:Int),(0:Int)⟩:fO),(⟨0,(fun i=>(0:Int))⟩:Sl _),(0:Int),n.b7⟩:Node),true)) (cond (n.kind==(2:Int)) (cond (GN n).isSome (some ((⟨n.kind,n.gd,(0:Int),(⟨(0:Int),(0:Int),(0:Int)⟩:fO),(⟨0,(fun i=>(0:Int))⟩:Sl _),(0:Int),n.b7⟩:Node),(((GN n).getD default)==(0:Int)))) none) (cond (n.kind==(3:Int)) (some ((⟨n.kind,(⟨(⟨(⟨(0:Int),(0:Int),(0:Int)⟩:az),(⟨(0:Int),(0:Int),(0:Int)⟩:az),(⟨(0:Int),(0:Int),(0:Int)⟩:az)⟩:bw),(⟨(0:Int),(0:Int),(0:Int)⟩:fO)⟩:dm),n.uz,(⟨(0:Int),(0:Int),(0:Int)⟩:fO),(⟨0,(fun i=>(0:Int))⟩:Sl _),(0:Int),n.b7⟩:Node),true)) (cond (n.kind==(4:Int)) (cond (GP n).isSome (cond (((GP n).getD default)==(0:Int)) (cond (GQ n).isSome (some ((⟨n.kind,(⟨(⟨(⟨(0:Int),(0:Int),(0:Int)⟩:az),(⟨(0:Int),(0:Int),(0:Int)⟩:az),(⟨(0:Int),(0:Int),(0:Int)⟩:az)⟩:bw),(⟨(0:Int),(0:Int),(0:Int)⟩:fO)⟩:dm),(0:Int),n.cl,n.nb,(0:Int),n.b7⟩:Node),((GQ n).getD default))) none) (some ((⟨n.kind,(⟨(⟨(⟨(0:Int),(0:Int),(0:Int)⟩:az),(⟨(0:Int),(0:Int),(0:Int)⟩:az),(⟨(0:Int),(0:Int),(0:Int)⟩:az)⟩:bw),(⟨(0:Int),(0:Int),(0:Int)⟩:fO)⟩:dm),(0:Int),n.cl,n.nb,(0:Int),n.b7⟩:Node),false))) none) (cond (n.kind==(5:Int)) (some ((⟨n.kind,(⟨(⟨(⟨(0:Int),(0:Int),(0:Int)⟩:az),(⟨(0:Int),(0:Int),(0:Int)⟩:az),(⟨(0:Int),(0:Int),(0:Int)⟩:az)⟩:bw),(⟨(0:Int),(0:Int),(0:Int)⟩:fO)⟩:dm),(0:Int),(⟨(0:Int),(0:Int),(0:Int)⟩:fO),(⟨0,(fun i=>(0:Int))⟩:Sl _),n.cJ,n.b7⟩:Node),true)) (some ((⟨n.kind,(⟨(⟨(⟨(0:Int),(0:Int),(0:Int)⟩:az),(⟨(0:Int),(0:Int),(0:Int)⟩:az),(⟨(0:Int),(0:Int),(0:Int)⟩:az)⟩:bw),(⟨(0:Int),(0:Int),(0:Int)⟩:fO)⟩:dm),(0:Int),(⟨(0:Int),(0:Int),(0:Int)⟩:fO),(⟨0,(fun i=>(0:Int))⟩:Sl _),(0:Int),n.b7⟩:Node),false)))))))
theorem aeh (n:Node):cD Tryz.prog (bp Tryz.prog RO RP (fun q=>Nat.beq q 3)) 9 9 79 [lD n] = (xv n).map (fun (r:Node×Bool)=>KV.na [lD r.1,kB r.2]):=by
 unfold xv
 try simp only [bq]
 kernel_rfl
def UY:List KV->KR KV:=bI Tryz.prog 79 (bL (fun (r:Node×Bool)=>KV.na [lD r.1,kB r.2]) fun vs=>xv (ib (vs.getD 0 .ao)))
theorem abC (w:Nat->KV):ck Tryz.prog [77] w 0 = [lD (ib (ax Tryz.prog (ai Tryz.prog aj) 77 (w 0)))]:=by kernel_rfl
theorem abD:bH Tryz.prog 79 UY:=aL funcs mixed abA abB (L:=9) (n:=9) fun w=>by
 have e:aG Tryz.prog 79 = [77]:=by kernel_rfl
 rw [e,abC]
 exact (aeh (ib (ax Tryz.prog (ai Tryz.prog aj) 77 (w 0)))).trans (by kernel_rfl)
structure eh where
 s1:(Sl Int)
 s2:(Sl Int)
 t4:Bool
 t12:Int
 t13:Int
instance:Inhabited eh:=⟨⟨default,default,default,default,default⟩⟩
def pU (x:eh):List KV:=[eA 3 (kI .i64) x.s1,eA 3 (kI .i64) x.s2,.bool x.t4,.int .i64 x.t12,.int .i64 x.t13]
def pV (x:eh):List (List KV):=[]
def Cy (vs:List KV) (rs:List (List KV)):eh:=⟨dP ay (vs.getD 0 .ao),dP ay (vs.getD 1 .ao),dj (vs.getD 2 .ao),ay (vs.getD 3 .ao),ay (vs.getD 4 .ao)⟩
def DG:aV:=⟨[(0,⟨false,[.k (.slice 3)]⟩),(1,⟨false,[.k (.slice 3)]⟩),(4,⟨false,[.k .bool]⟩),(12,⟨false,[.k (.int .i64)]⟩),(13,⟨false,[.k (.int .i64)]⟩)],[],[]⟩
def Nc:=dB Tryz.prog (bp Tryz.prog [] [] (fun q=>Nat.beq q 3)) 9 9 127 58 (dF Tryz.prog 127 58) DG
def eE (x:eh):aW eh:=(cond (decide (x.t13 < x.t12)) (cond ((decide ((0:Int)<=x.t13))&&(decide (x.t13 < ((x.s1.n:Nat):Int)))) (cond ((decide ((0:Int)<=x.t13))&&(decide (x.t13 < ((x.s2.n:Nat):Int)))) (cond ((x.s1.get (Int.toNat x.t13)) != (x.s2.get (Int.toNat x.t13))) (.out aB.ae.ret (⟨x.s1,x.s2,false,x.t12,x.t13⟩:eh)) (.next (⟨x.s1,x.s2,x.t4,x.t12,(aR (x.t13+(1:Int)))⟩:eh))) .fail) .fail) (.out (aB.ae.exit 0) x))
theorem JH (x:eh):Nc (pU x) (pV x)=aW.enc pU pV (eE x):=by
 unfold eE
 try simp only [aW.cf]
 kernel_rfl
def ru:Lp:=⟨127,58,DG,fun vs rs=>dC pU pV (goN eE (Cy vs rs)) [aB.ae.exit 0,aB.ae.ret],false⟩
theorem Nd:ru.Ok Tryz.prog:=b8 funcs mixed ah.nil au.nil (L:=9) (n:=9) (step:=eE) (ev:=pU) (er:=pV) (pa:=Cy) rfl (fun wv wr=>⟨by kernel_rfl,by kernel_rfl⟩) JH
theorem Jk:bZ Tryz.prog ru.f ru.p=true:=by kernel_rfl
def Gb:List (Nat×(List KV->KR KV)):=[]
def Gc:List Lp:=[ru]
theorem OT:ah Tryz.prog Gb:=ah.nil
theorem OU:au Tryz.prog Gc:=(au.cons Nd Jk au.nil)
def sh (s1:(Sl Int)) (s2:(Sl Int)):(aW eh):=(goN eE (⟨s1,s2,false,((s1.n:Nat):Int),(0:Int)⟩:eh))
def ob (s1:(Sl Int)) (s2:(Sl Int)):Option (Bool):=(cond (((s1.n:Nat):Int) != ((s2.n:Nat):Int)) (some (false)) (cond ((sh s1 s2).by (aB.ae.exit 0)) (some (true)) (cond ((sh s1 s2).by aB.ae.ret) (some ((sh s1 s2).st.t4)) none)))
theorem P5 (s1:(Sl Int)) (s2:(Sl Int)):cD Tryz.prog (bp Tryz.prog Gb Gc (fun q=>Nat.beq q 3)) 9 9 127 [(eA 3 (kI .i64)) s1,(eA 3 (kI .i64)) s2] = (ob s1 s2).map kB:=by
 unfold ob
 try simp only [bq]
 kernel_rfl
def G5:List KV->KR KV:=bI Tryz.prog 127 (bL kB fun vs=>ob ((dP ay) (vs.getD 0 .ao)) ((dP ay) (vs.getD 1 .ao)))
theorem OV (w:Nat->KV):ck Tryz.prog [36,36] w 0 = [(eA 3 (kI .i64)) ((dP ay) (ax Tryz.prog (ai Tryz.prog aj) 36 (w 0))),(eA 3 (kI .i64)) ((dP ay) (ax Tryz.prog (ai Tryz.prog aj) 36 (w 1)))]:=by kernel_rfl
theorem OW:bH Tryz.prog 127 G5:=aL funcs mixed OT OU (L:=9) (n:=9) fun w=>by
 have e:aG Tryz.prog 127 = [36,36]:=by kernel_rfl
 rw [e,OV]
 exact (P5 ((dP ay) (ax Tryz.prog (ai Tryz.prog aj) 36 (w 0))) ((dP ay) (ax Tryz.prog (ai Tryz.prog aj) 36 (w 1)))).trans (by kernel_rfl)
def UZ:List (Nat×(List KV->KR KV)):=[(127,G5)]
def U0:List Lp:=[]
theorem aei:ah Tryz.prog UZ:=(ah.cons OW ah.nil)
theorem aej:au Tryz.prog U0:=au.nil
def Jl (a:Node) (b:Node):(Option Bool):=(ob a.nb b.nb)
def wu (a:Node) (b:Node):Option (Bool):=(cond (a.kind==b.kind) (cond ((a.gd.m.e0.e0==b.gd.m.e0.e0)&&((a.gd.m.e0.e1==b.gd.m.e0.e1)&&((a.gd.m.e0.e2==b.gd.m.e0.e2)&&((a.gd.m.e1.e0==b.gd.m.e1.e0)&&((a.gd.m.e1.e1==b.gd.m.e1.e1)&&((a.gd.m.e1.e2==b.gd.m.e1.e2)&&((a.gd.m.e2.e0==b.gd.m.e2.e0)&&((a.gd.m.e2.e1==b.gd.m.e2.e1)&&((a.gd.m.e2.e2==b.gd.m.e2.e2)&&((a.gd.t.x==b.gd.t.x)&&((a.gd.t.y==b.gd.t.y)&&((a.gd.t.z==b.gd.t.z)&&true)))))))))))) (cond (a.uz==b.uz) (cond ((a.cl.x==b.cl.x)&&((a.cl.y==b.cl.y)&&((a.cl.z==b.cl.z)&&true))) (cond (Jl a b).isSome (cond ((Jl a b).getD default) (cond (a.cJ==b.cJ) (some (((a.b7.bN.e0==b.b7.bN.e0)&&((a.b7.bN.e1==b.b7.bN.e1)&&((a.b7.bN.e2==b.b7.bN.e2)&&((a.b7.bN.e3==b.b7.bN.e3)&&((a.b7.bN.e4==b.b7.bN.e4)&&((a.b7.look.color.e0==b.b7.look.color.e0)&&((a.b7.look.color.e1==b.b7.look.color.e1)&&((a.b7.look.color.e2==b.b7.look.color.e2)&&((a.b7.look.color.e3==b.b7.look.color.e3)&&((a.b7.look.cN==b.b7.look.cN)&&((a.b7.look.ly==b.b7.look.ly)&&((a.b7.look.jV==b.b7.look.jV)&&((a.b7.look.ff==b.b7.look.ff)&&((a.b7.look.bin==b.b7.look.bin)&&true)))))))))))))))) (some (false))) (some (false))) none) (some (false))) (some (false))) (some (false))) (some (false)))
theorem ahS (a:Node) (b:Node):cD Tryz.prog (bp Tryz.prog UZ U0 (fun q=>Nat.beq q 3)) 9 9 76 [lD a,lD b] = (wu a b).map kB:=by
 unfold wu
 try simp only [bq]
 kernel_rfl
def z8:List KV->KR KV:=bI Tryz.prog 76 (bL kB fun vs=>wu (ib (vs.getD 0 .ao)) (ib (vs.getD 1 .ao)))
theorem aek (w:Nat->KV):ck Tryz.prog [77,77] w 0 = [lD (ib (ax Tryz.prog (ai Tryz.prog aj) 77 (w 0))),lD (ib (ax Tryz.prog (ai Tryz.prog aj) 77 (w 1)))]:=by kernel_rfl
theorem w7:bH Tryz.prog 76 z8:=aL funcs mixed aei aej (L:=9) (n:=9) fun w=>by
 have e:aG Tryz.prog 76 = [77,77]:=by kernel_rfl
 rw [e,aek]
 exact (ahS (ib (ax Tryz.prog (ai Tryz.prog aj) 77 (w 0))) (ib (ax Tryz.prog (ai Tryz.prog aj) 77 (w 1)))).trans (by kernel_rfl)
def Jm:List (Nat×(List KV->KR KV)):=[(80,Pv),(76,z8),(79,UY)]
def Jn:List Lp:=[]
theorem RQ:ah Tryz.prog Jm:=(ah.cons Wp (ah.cons w7 (ah.cons abD ah.nil)))
theorem RR:au Tryz.prog Jn:=au.nil
def uK (s:aP) (n:Node):(Option (Prod Node Bool)):=(xv n)
def AE (s:aP) (n:Node):(Option Bool):=(wu ((uK s n).getD default).fst n)
def AG (s:aP) (n:Node):(Option Int):=(tr n.b7)
def pW (s:aP) (n:Node):Option (Int):=(cond (uK s n).isSome (cond (!((uK s n).getD default).snd) (some ((8:Int))) (cond (AE s n).isSome (cond (!((AE s n).getD default)) (some ((8:Int))) (cond (AG s n).isSome (cond (((AG s n).getD default) != (0:Int)) (some ((8:Int))) (cond (n.kind==(5:Int)) (cond (decide (n.cJ < (0:Int))) (some ((8:Int))) (cond (decide (n.cJ >= ((s.bX.n:Nat):Int))) (some ((8:Int))) (cond (n.b7.bN.e1 != (0:Int)) (cond (decide (n.b7.look.cN >= ((s.dD.n:Nat):Int))) (some ((8:Int))) (some ((0:Int)))) (some ((0:Int)))))) (cond (n.b7.bN.e1 != (0:Int)) (cond (decide (n.b7.look.cN >= ((s.dD.n:Nat):Int))) (some ((8:Int))) (some ((0:Int)))) (some ((0:Int)))))) none)) none)) none)
theorem TM (s:aP) (n:Node):cD Tryz.prog (bp Tryz.prog Jm Jn (fun q=>Nat.beq q 3)) 9 9 27 [dx s,lD n] = (pW s n).map (kI .i64):=by
 unfold pW
 try simp only [bq]
 kernel_rfl
def tV:List KV->KR KV:=bI Tryz.prog 27 (bL (kI .i64) fun vs=>pW (b6 (vs.getD 0 .ao)) (ib (vs.getD 1 .ao)))
theorem RS (w:Nat->KV):ck Tryz.prog [34,77] w 0 = [dx (b6 (ax Tryz.prog (ai Tryz.prog aj) 34 (w 0))),lD (ib (ax Tryz.prog (ai Tryz.prog aj) 77 (w 1)))]:=by kernel_rfl
theorem tW:bH Tryz.prog 27 tV:=aL funcs mixed RQ RR (L:=9) (n:=9) fun w=>by
 have e:aG Tryz.prog 27 = [34,77]:=by kernel_rfl
 rw [e,RS]
 exact (TM (b6 (ax Tryz.prog (ai Tryz.prog aj) 34 (w 0))) (ib (ax Tryz.prog (ai Tryz.prog aj) 77 (w 1)))).trans (by kernel_rfl)
structure bn where
 s:(Sl iR)
 t4:Int
 t7:Int
 t8:Int
instance:Inhabited bn:=⟨⟨default,default,default,default⟩⟩
def iz (x:bn):List KV:=[eA 88 nY x.s,.fn (.func 69) [] [],.int .i64 x.t4,.int .i64 x.t7,.int .i64 x.t8]
def iA (x:bn):List (List KV):=[]
def oT (vs:List KV) (rs:List (List KV)):bn:=⟨dP jI (vs.getD 0 .ao),ay (vs.getD 2 .ao),ay (vs.getD 3 .ao),ay (vs.getD 4 .ao)⟩
def po:aV:=⟨[(0,⟨false,[.k (.slice 88)]⟩),(1,⟨false,[.lit (.fn (.func 69) [] [])]⟩),(4,⟨false,[.k (.int .i64)]⟩),(7,⟨false,[.k (.int .i64)]⟩),(8,⟨false,[.k (.int .i64)]⟩)],[],[]⟩
def w8:=dB Tryz.prog (bp Tryz.prog [(77,yM),(27,tV),(76,z8),(73,yP),(72,vx),(70,Bf)] [] (fun q=>Nat.beq q 3)) 9 9 125 26 (dF Tryz.prog 125 26) po
def kx (x:bn):(Option Int):=(xu (x.s.get (Int.toNat x.t8)))
def bU (x:bn):aW bn:=(cond (decide (x.t8 < x.t7)) (cond ((decide ((0:Int)<=x.t8))&&(decide (x.t8 < ((x.s.n:Nat):Int)))) (cond (kx x).isSome (cond (((kx x).getD default) != (0:Int)) (.out aB.ae.ret (⟨x.s,x.t8,x.t7,x.t8⟩:bn)) (.next (⟨x.s,x.t4,x.t7,(aR (x.t8+(1:Int)))⟩:bn))) .fail) .fail) (.out (aB.ae.exit 0) x))
theorem vE (x:bn):w8 (iz x) (iA x)=aW.enc iz iA (bU x):=by
 unfold bU
 try simp only [aW.cf]
 kernel_rfl
def dQ:Lp:=⟨125,26,po,fun vs rs=>dC iz iA (goN bU (oT vs rs)) [aB.ae.exit 0,aB.ae.ret],false⟩
theorem kN:dQ.Ok Tryz.prog:=b8 funcs mixed (ah.cons tL (ah.cons tW (ah.cons w7 (ah.cons ye (ah.cons uJ (ah.cons z7 ah.nil)))))) au.nil (L:=9) (n:=9) (step:=bU) (ev:=iz) (er:=iA) (pa:=oT) rfl (fun wv wr=>⟨by kernel_rfl,by kernel_rfl⟩) vE
theorem jY:bZ Tryz.prog dQ.f dQ.p=true:=by kernel_rfl
structure bo where
 s:(Sl je)
 t4:Int
 t7:Int
 t8:Int
instance:Inhabited bo:=⟨⟨default,default,default,default⟩⟩
def iB (x:bo):List KV:=[eA 91 jE x.s,.fn (.func 71) [] [],.int .i64 x.t4,.int .i64 x.t7,.int .i64 x.t8]
def iC (x:bo):List (List KV):=[]
def oU (vs:List KV) (rs:List (List KV)):bo:=⟨dP eM (vs.getD 0 .ao),ay (vs.getD 2 .ao),ay (vs.getD 3 .ao),ay (vs.getD 4 .ao)⟩
def pq:aV:=⟨[(0,⟨false,[.k (.slice 91)]⟩),(1,⟨false,[.lit (.fn (.func 71) [] [])]⟩),(4,⟨false,[.k (.int .i64)]⟩),(7,⟨false,[.k (.int .i64)]⟩),(8,⟨false,[.k (.int .i64)]⟩)],[],[]⟩
def w9:=dB Tryz.prog (bp Tryz.prog [(77,yM),(27,tV),(76,z8),(73,yP),(72,vx),(70,Bf)] [dQ] (fun q=>Nat.beq q 3)) 9 9 126 26 (dF Tryz.prog 126 26) pq
def ky (x:bo):(Option Int):=(rS (x.s.get (Int.toNat x.t8)))
def bV (x:bo):aW bo:=(cond (decide (x.t8 < x.t7)) (cond ((decide ((0:Int)<=x.t8))&&(decide (x.t8 < ((x.s.n:Nat):Int)))) (cond (ky x).isSome (cond (((ky x).getD default) != (0:Int)) (.out aB.ae.ret (⟨x.s,x.t8,x.t7,x.t8⟩:bo)) (.next (⟨x.s,x.t4,x.t7,(aR (x.t8+(1:Int)))⟩:bo))) .fail) .fail) (.out (aB.ae.exit 0) x))
theorem vF (x:bo):w9 (iB x) (iC x)=aW.enc iB iC (bV x):=by
 unfold bV
 try simp only [aW.cf]
 kernel_rfl
def fD:Lp:=⟨126,26,pq,fun vs rs=>dC iB iC (goN bV (oU vs rs)) [aB.ae.exit 0,aB.ae.ret],false⟩
theorem oV:fD.Ok Tryz.prog:=b8 funcs mixed (ah.cons tL (ah.cons tW (ah.cons w7 (ah.cons ye (ah.cons uJ (ah.cons z7 ah.nil)))))) (au.cons kN jY au.nil) (L:=9) (n:=9) (step:=bV) (ev:=iB) (er:=iC) (pa:=oU) rfl (fun wv wr=>⟨by kernel_rfl,by kernel_rfl⟩) vF
theorem ny:bZ Tryz.prog fD.f fD.p=true:=by kernel_rfl
structure ct where
 t2:Int
 t46:(Sl Node)
 t47:Int
 t48:Int
 s:aP
instance:Inhabited ct:=⟨⟨default,default,default,default,default⟩⟩
def wx (x:ct):List KV:=[.int .i64 x.t2,eA 77 lD x.t46,.int .i64 x.t47,.int .i64 x.t48]
def wy (x:ct):List (List KV):=[uE x.s]
def Jo (vs:List KV) (rs:List (List KV)):ct:=⟨ay (vs.getD 0 .ao),dP ib (vs.getD 1 .ao),ay (vs.getD 2 .ao),ay (vs.getD 3 .ao),uF (fun k=>(rs.getD 0 []).getD k .ao)⟩
def KF:aV:=⟨[(2,⟨false,[.k (.int .i64)]⟩),(46,⟨false,[.k (.slice 77)]⟩),(47,⟨false,[.k (.int .i64)]⟩),(48,⟨false,[.k (.int .i64)]⟩)],[(1,[.k (.slice 111),.k (.slice 35),.k (.slice 77),.k (.slice 88),.k (.slice 91),.k (.int .i64),.k (.int .i64)],1)],[(1,0,0)]⟩
def WR:=dB Tryz.prog (bp Tryz.prog [(77,yM),(27,tV),(76,z8),(73,yP),(72,vx),(70,Bf)] [dQ,fD] (fun q=>Nat.beq q 3)) 9 9 25 250 (dF Tryz.prog 25 250) KF
def AH (x:ct):(Option Bool):=(wu (x.t46.get (Int.toNat x.t48)) (⟨(0:Int),(⟨(⟨(⟨(0:Int),(0:Int),(0:Int)⟩:az),(⟨(0:Int),(0:Int),(0:Int)⟩:az),(⟨(0:Int),(0:Int),(0:Int)⟩:az)⟩:bw),(⟨(0:Int),(0:Int),(0:Int)⟩:fO)⟩:dm),(0:Int),(⟨(0:Int),(0:Int),(0:Int)⟩:fO),(⟨0,(fun i=>(0:Int))⟩:Sl _),(0:Int),(⟨(⟨(0:Int),(0:Int),(0:Int),(0:Int),(0:Int)⟩:Az),(⟨(⟨(0:Int),(0:Int),(0:Int),(0:Int)⟩:Color),(0:Int),(0:Int),(0:Int),false,(0:Int)⟩:iq)⟩:gM)⟩:Node))
def qY (x:ct):(Option Int):=(pW x.s (x.t46.get (Int.toNat x.t48)))
def hX (x:ct):aW ct:=(cond (decide (x.t48 < x.t47)) (cond ((decide ((0:Int)<=x.t48))&&(decide (x.t48 < ((x.t46.n:Nat):Int)))) (cond ((decide ((0:Int)<=x.t48))&&(decide (x.t48 < ((x.s.graph.ca.bJ.n:Nat):Int)))) (cond (!(x.s.graph.ca.bJ.get (Int.toNat x.t48)).live) (cond (AH x).isSome (cond (!((AH x).getD default)) (.out aB.ae.ret (⟨(8:Int),x.t46,x.t47,x.t48,x.s⟩:ct)) (cond ((decide ((0:Int)<=x.t48))&&(decide (x.t48 < ((x.s.graph.ca.bJ.n:Nat):Int)))) (cond (x.s.graph.ca.bJ.get (Int.toNat x.t48)).live (cond (qY x).isSome (cond (((qY x).getD default) != (0:Int)) (.out aB.ae.ret (⟨(8:Int),x.t46,x.t47,x.t48,x.s⟩:ct)) (cond ((x.t46.get (Int.toNat x.t48)).kind==(5:Int)) (cond ((decide ((0:Int)<=x.t48))&&(decide (x.t48 < ((x.s.graph.kids.n:Nat):Int)))) (cond (decide ((((x.s.graph.kids.get (Int.toNat x.t48)).n:Nat):Int) > (0:Int))) (.out aB.ae.ret (⟨(8:Int),x.t46,x.t47,x.t48,x.s⟩:ct)) (.next (⟨x.t2,x.t46,x.t47,(aR (x.t48+(1:Int))),x.s⟩:ct))) .fail) (.next (⟨x.t2,x.t46,x.t47,(aR (x.t48+(1:Int))),x.s⟩:ct)))) .fail) (.next (⟨x.t2,x.t46,x.t47,(aR (x.t48+(1:Int))),x.s⟩:ct))) .fail)) .fail) (cond ((decide ((0:Int)<=x.t48))&&(decide (x.t48 < ((x.s.graph.ca.bJ.n:Nat):Int)))) (cond (x.s.graph.ca.bJ.get (Int.toNat x.t48)).live (cond (qY x).isSome (cond (((qY x).getD default) != (0:Int)) (.out aB.ae.ret (⟨(8:Int),x.t46,x.t47,x.t48,x.s⟩:ct)) (cond ((x.t46.get (Int.toNat x.t48)).kind==(5:Int)) (cond ((decide ((0:Int)<=x.t48))&&(decide (x.t48 < ((x.s.graph.kids.n:Nat):Int)))) (cond (decide ((((x.s.graph.kids.get (Int.toNat x.t48)).n:Nat):Int) > (0:Int))) (.out aB.ae.ret (⟨(8:Int),x.t46,x.t47,x.t48,x.s⟩:ct)) (.next (⟨x.t2,x.t46,x.t47,(aR (x.t48+(1:Int))),x.s⟩:ct))) .fail) (.next (⟨x.t2,x.t46,x.t47,(aR (x.t48+(1:Int))),x.s⟩:ct)))) .fail) (.next (⟨x.t2,x.t46,x.t47,(aR (x.t48+(1:Int))),x.s⟩:ct))) .fail)) .fail) .fail) (.out (aB.ae.exit 0) x))
theorem RT (x:ct):WR (wx x) (wy x)=aW.enc wx wy (hX x):=by
 unfold hX
 try simp only [aW.cf]
 kernel_rfl
def yh:Lp:=⟨25,250,KF,fun vs rs=>dC wx wy (goN hX (Jo vs rs)) [aB.ae.exit 0,aB.ae.ret],false⟩
theorem WS:yh.Ok Tryz.prog:=b8 funcs mixed (ah.cons tL (ah.cons tW (ah.cons w7 (ah.cons ye (ah.cons uJ (ah.cons z7 ah.nil)))))) (au.cons kN jY (au.cons oV ny au.nil)) (L:=9) (n:=9) (step:=hX) (ev:=wx) (er:=wy) (pa:=Jo) rfl (fun wv wr=>⟨by kernel_rfl,by kernel_rfl⟩) RT
theorem P6:bZ Tryz.prog yh.f yh.p=true:=by kernel_rfl
def RU:List (Nat×(List KV->KR KV)):=[(77,yM),(27,tV),(76,z8),(73,yP),(72,vx),(70,Bf)]
def RV:List Lp:=[yh,dQ,fD]
theorem abE:ah Tryz.prog RU:=(ah.cons tL (ah.cons tW (ah.cons w7 (ah.cons ye (ah.cons uJ (ah.cons z7 ah.nil))))))
theorem abF:au Tryz.prog RV:=(au.cons WS P6 (au.cons kN jY (au.cons oV ny au.nil)))
def GS (s:aP):(Option Int):=(Jd s.graph)
def BB (s:aP):(aW bn):=(goN bU (⟨s.bX,(0:Int),((s.bX.n:Nat):Int),(0:Int)⟩:bn))
def qQ (s:aP):(aW bo):=(goN bV (⟨s.dD,(0:Int),((s.dD.n:Nat):Int),(0:Int)⟩:bo))
def cZ (s:aP):(aW ct):=(goN hX (⟨(0:Int),s.nodes,((s.nodes.n:Nat):Int),(0:Int),s⟩:ct))
def mV (s:aP):(Option Bool):=(eG (cZ s).st.s.graph.ca (cZ s).st.s.root)
def xw (s:aP):Option (Int):=(cond (GS s).isSome (cond (((GS s).getD default) != (0:Int)) (some ((8:Int))) (cond (((s.nodes.n:Nat):Int) != ((s.graph.kids.n:Nat):Int)) (some ((8:Int))) (cond (decide (((s.bX.n:Nat):Int) > (32:Int))) (some ((8:Int))) (cond ((BB s).by (aB.ae.exit 0)) (cond (decide (((s.dD.n:Nat):Int) > (16:Int))) (some ((8:Int))) (cond ((qQ s).by (aB.ae.exit 0)) (cond ((cZ s).by (aB.ae.exit 0)) (cond (!(((cZ s).st.s.root.slot==(0:Int))&&(((cZ s).st.s.root.gen==(0:Int))&&true))) (cond (mV s).isSome (cond (!((mV s).getD default)) (some ((8:Int))) (some ((0:Int)))) none) (some ((0:Int)))) (cond ((cZ s).by aB.ae.ret) (some ((cZ s).st.t2)) none)) (cond ((qQ s).by aB.ae.ret) (cond (decide ((qQ s).st.t4 >= (0:Int))) (some ((8:Int))) (cond ((cZ s).by (aB.ae.exit 0)) (cond (!(((cZ s).st.s.root.slot==(0:Int))&&(((cZ s).st.s.root.gen==(0:Int))&&true))) (cond (mV s).isSome (cond (!((mV s).getD default)) (some ((8:Int))) (some ((0:Int)))) none) (some ((0:Int)))) (cond ((cZ s).by aB.ae.ret) (some ((cZ s).st.t2)) none))) none))) (cond ((BB s).by aB.ae.ret) (cond (decide ((BB s).st.t4 >= (0:Int))) (some ((8:Int))) (cond (decide (((s.dD.n:Nat):Int) > (16:Int))) (some ((8:Int))) (cond ((qQ s).by (aB.ae.exit 0)) (cond ((cZ s).by (aB.ae.exit 0)) (cond (!(((cZ s).st.s.root.slot==(0:Int))&&(((cZ s).st.s.root.gen==(0:Int))&&true))) (cond (mV s).isSome (cond (!((mV s).getD default)) (some ((8:Int))) (some ((0:Int)))) none) (some ((0:Int)))) (cond ((cZ s).by aB.ae.ret) (some ((cZ s).st.t2)) none)) (cond ((qQ s).by aB.ae.ret) (cond (decide ((qQ s).st.t4 >= (0:Int))) (some ((8:Int))) (cond ((cZ s).by (aB.ae.exit 0)) (cond (!(((cZ s).st.s.root.slot==(0:Int))&&(((cZ s).st.s.root.gen==(0:Int))&&true))) (cond (mV s).isSome (cond (!((mV s).getD default)) (some ((8:Int))) (some ((0:Int)))) none) (some ((0:Int)))) (cond ((cZ s).by aB.ae.ret) (some ((cZ s).st.t2)) none))) none)))) none))))) none)
theorem ael (s:aP):cD Tryz.prog (bp Tryz.prog RU RV (fun q=>Nat.beq q 3)) 9 9 25 [dx s] = (xw s).map (kI .i64):=by
 unfold xw
 try simp only [bq]
 kernel_rfl
def U1:List KV->KR KV:=bI Tryz.prog 25 (bL (kI .i64) fun vs=>xw (b6 (vs.getD 0 .ao)))
theorem abG (w:Nat->KV):ck Tryz.prog [34] w 0 = [dx (b6 (ax Tryz.prog (ai Tryz.prog aj) 34 (w 0)))]:=by kernel_rfl
theorem abH:bH Tryz.prog 25 U1:=aL funcs mixed abE abF (L:=9) (n:=9) fun w=>by
 have e:aG Tryz.prog 25 = [34]:=by kernel_rfl
 rw [e,abG]
 exact (ael (b6 (ax Tryz.prog (ai Tryz.prog aj) 34 (w 0)))).trans (by kernel_rfl)
def KG:List (Nat×(List KV->KR KV)):=[]
def KH:List Lp:=[]
theorem TN:ah Tryz.prog KG:=ah.nil
theorem TP:au Tryz.prog KH:=au.nil
def ET (s:(Sl Int)):Option ((Sl Int)):=(cond (Nat.blt 0 s.n) (cond ((Nat.blt 0 s.n)&&(kC 8 0 s.n)) (some (((Sl.lit []).join s))) none) none)
theorem WT (s:(Sl Int)):cD Tryz.prog (bp Tryz.prog KG KH (fun _=>false)) 9 9 98 [(eA 3 (kI .i64)) s] = (ET s).map (eA 3 (kI .i64)):=by
 unfold ET
 try simp only [bq,fY,iJ,jd]
 kernel_rfl
def abI:List KV->KR KV:=bI Tryz.prog 98 (bL (eA 3 (kI .i64)) fun vs=>ET ((dP ay) (vs.getD 0 .ao)))
theorem G6 (w:Nat->KV):ck Tryz.prog [36] w 0 = [(eA 3 (kI .i64)) ((dP ay) (ax Tryz.prog (ai Tryz.prog aj) 36 (w 0)))]:=by kernel_rfl
theorem TQ:bH Tryz.prog 98 abI:=aL funcs mixed TN TP (L:=9) (n:=9) fun w=>by
 have e:aG Tryz.prog 98 = [36]:=by kernel_rfl
 rw [e,G6]
 exact (WT ((dP ay) (ax Tryz.prog (ai Tryz.prog aj) 36 (w 0)))).trans (by kernel_rfl)
end
end Go.Proofs.YtckbdndhmcoihaaGreat.b
end
section
namespace Go.K
open Go Go.aB
variable {P:Program} {E:Env}
theorem ast {t e:TypeId} {i:TypeInfo} (h:P.underlying t=some (.slice e)) (hi:P.info? e=some i) (b:Addr) (a:Option Addr) (c:Nat) (w:World):(Builtin.append_ #[t,t] t #[.slice (some b) 0 0,.slice a 0 c]).run P w = .ok (.slice (some b) 0 0) w:=by
 cases a <;> simp [Builtin.append_,aB.bP h,sizeOf,typeInfo,hi,Builtin.lenOf,Builtin.firstCells,loadCells,loadCellsFrom,storeCells]
structure ak0 (P:Program) (g:FuncId) (e:TypeId):Prop where
 nil:∀ c w,Calls P g #[.slice none 0 c] w fun r w'=>r = .returned (.slice none 0 0)/\w' = w
 some:∀ a c w,Calls P g #[.slice (some a) 0 c] w fun r w'=>r = .returned (.slice (some ⟨w.heap.size,0,none⟩) 0 0)/\w' = w.alloc (.cells #[] e)
def Gd {α:Type} (b:Nat) (s:Sl α):Option (Sl α):=cond (kC b 0 s.n) (some s) none
theorem Sl.asu {α:Type} [Inhabited α] (s:Sl α):(Sl.lit []).join s=s:=by
 cases s with
 | mk n f=>
  unfold Sl.join Sl.lit;simp only [List.length_nil,bM];congr 1
theorem VK.at8 {T:TypeId} {a:Option Addr} {acc:Nat->KV} (h:XM E (bD P T) a 0 []):VK P E (.ts T .any 0 [] acc) (.slice a 0 0):=by
 simp only [VK];exact ⟨⟨rfl,fun i hi=>absurd hi (o6 _),rfl⟩,[],.nil,a,0,rfl,aU _,h,trivial⟩
theorem aox {g:FuncId} {T t:TypeId} {b:Nat} {α:Type} {k:α->KV} {p:KV->α} {f1:Sl α->Option (Sl α)} [Inhabited α] (hn:ak0 P g T) (ht:aG P g = [t]) (hf:∀ s,f1 s=cond (Nat.blt 0 s.n) (cond (Nat.blt 0 s.n&&kC b 0 s.n) (some ((Sl.lit []).join s)) none) none)
  (avR:∀ w,ck P [t] w 0 = [eA T k (dP p (ax P (ai P aj) t (w 0)))]) (h1:bH P g (bI P g (bL (eA T k) fun vs=>f1 (dP p (vs.getD 0 .ao))))) (hc:Cl P g) :
  bH P g (bI P g (bL (eA T k) fun vs=>Gd b (dP p (vs.getD 0 .ao)))):=by
 intro args v hF hlen;refine ⟨hc,?_⟩;have hF0:=hF;unfold bI at hF;obtain ⟨hb,hF⟩:=bf.cond hF;obtain ⟨ww,hw⟩:=Ot 0 hb;rw [ht] at hw;rw [avR] at hw;rw [ht,hw] at hF;unfold bL at hF;obtain ⟨h2,h3⟩:=bf.lP hF;have es:(([eA T k (dP p (ax P (ai P aj) t (ww 0)))] : List KV).getD 0 .ao)=eA T k (dP p (ax P (ai P aj) t (ww 0))):=rfl;have h2:(Gd b (dP p (([eA T k (dP p (ax P (ai P aj) t (ww 0)))] : List KV).getD 0 .ao))).isSome=true:=h2;have h3:eA T k ((Gd b (dP p (([eA T k (dP p (ax P (ai P aj) t (ww 0)))] : List KV).getD 0 .ao))).getD default)=v:=h3;rw [es] at h2 h3;generalize hs:dP p (eA T k (dP p (ax P (ai P aj) t (ww 0))))=s at h2 h3;cases hq:Nat.blt 0 s.n with
 | true=>
  have:bf (bI P g (bL (eA T k) fun vs=>f1 (dP p (vs.getD 0 .ao))) (normArgs P (aG P g) args)) v:=by
   unfold bI;rw [hb,ak,ht,hw];show bf (KR.lP (f1 (dP p (([eA T k (dP p (ax P (ai P aj) t (ww 0)))] : List KV).getD 0 .ao))).isSome (eA T k ((f1 (dP p (([eA T k (dP p (ax P (ai P aj) t (ww 0)))] : List KV).getD 0 .ao))).getD default))) v;rw [es,hs,hf,hq];unfold Gd at h2 h3;cases ha:kC b 0 s.n with
   | false=>rw [ha] at h2; simp at h2
   | true=>
    rw [ha] at h3;simp only [dk,ak,Sl.asu];exact ⟨rfl,h3⟩
  exact (h1 args v this hlen).2
 | false=>
  have hz:s.n=0:=by
   apply Classical.byContradiction;intro hk;have:Nat.blt 0 s.n=true:=by rw [cq]; omega
   rw [hq] at this;simp at this
  have hv0:v = .ts T .any 0 [] fun i=>k (s.get i):=by
   have ha:kC b 0 s.n=true:=by
    unfold Gd at h2;cases ha:kC b 0 s.n with
    | true=>rfl
    | false=>rw [ha] at h2; simp at h2
   rw [<- h3];unfold Gd;rw [ha];show eA T k s=_;unfold eA;rw [hz];rfl
  intro E A B ρ base w hZ hv hj;have Ih:ug P E ρ (normArgs P (aG P g) args) hZ:=by
   obtain ⟨m,h1,h2⟩:=hv;exact ⟨m,bC.QZ (.of rfl) h1 hlen,h2⟩
  rw [ht,hw] at Ih;obtain ⟨u,us,rfl,hu,Qp⟩:=Ih.Zi;obtain rfl:=Qp.ami;have hn0:(dP p (ax P (ai P aj) t (ww 0))).n=0:=(congrArg Sl.n hs).trans hz;unfold eA at hu;rw [hn0] at hu;obtain ⟨u',hk,hr⟩:=hu;obtain ⟨_,bK,_,a,cap,rfl,_,_,_⟩:=hk.mC;subst hv0;cases a with
  | none=>
   rw [hr.jq];refine (hn.nil cap w).mono ?_;rintro r w' ⟨rfl,rfl⟩;exact ⟨_,E,B,ρ,rfl,⟨.slice none 0 0,VK.at8 (.inl ⟨rfl,rfl⟩),by simp [VR]⟩,.refl hj.k hj.s⟩
  | some a=>
   obtain ⟨_,_,_,a',c',_,_,_,_,rfl⟩:=hr.mZ;refine (hn.some a' c' w).mono ?_;rintro r w' ⟨rfl,rfl⟩;have g:=TU (cs:=[]) (c:=#[]) (cg:=bD P T) T hj.s (by unfold eo; rfl) (fun v hv=>by simp at hv);refine ⟨_,E.ik B.next ⟨[],bD P T,true,none⟩,B.new (.row [] (bD P T) true none),ρ.set B.next ⟨w.heap.size,0,0,bD P T⟩,rfl,⟨.slice (some ⟨B.next,0,none⟩) 0 0,VK.at8 (.inr ⟨B.next,0,⟨[],bD P T,true,none⟩,rfl,by simp [Env.ik],rfl,fun i x hi=>by simp at hi⟩),?_⟩,(dR.anm hj.k).ev g⟩;simp only [VR];exact ⟨trivial,aU _,⟨w.heap.size,0,0,bD P T⟩,⟨w.heap.size,0,none⟩,0,by simp [Ren.set],aU _,fun h=>absurd rfl h,by simp,rfl⟩
end Go.K
end
section
set_option maxRecDepth 20000
namespace Go.Proofs.YtckbdndhmcoihaaGreat.b
open Go Go.RowKit Go.Lib Go.Shelf Go.K
noncomputable section
set_option maxHeartbeats 4000000 in
theorem ajI:ak0 Tryz.prog 98 3:=by
 have mixed:=nodes.HD;have t36:=Tryz.underlying36; have a36:=Tryz.isAgg36; have z36:=Tryz.sizeOf36; have v36:=Tryz.zeroValue36; have u36:=run_underlying Tryz.underlying36;have t3:=Tryz.underlying3; have a3:=Tryz.isAgg3; have z3:=Tryz.sizeOf3; have v3:=Tryz.zeroValue3; have u3:=run_underlying Tryz.underlying3;have h1:=fun (a:Option Addr) (n c:Nat) (w:World)=>Lib.run_eql_slice_nil (P:=Tryz.prog) w 36 3 a n c 0 0 Tryz.underlying36;have h2:=fun b=>ast Tryz.underlying36 (show Tryz.prog.info? 3=some _ from rfl) b;refine ⟨fun c w=>?_,fun a c w=>?_⟩
 ·go_enter Tryz.func98,Tryz.ntmps98
  go_wp2
  go_ret
  exact ⟨rfl,rfl⟩
 ·go_enter Tryz.func98,Tryz.ntmps98
  go_wp2
  go_ret
  exact ⟨rfl,rfl⟩
def wz (s:(Sl Int)):Option (Sl Int):=Gd 8 s
def Cc:List KV->KR KV:=bI Tryz.prog 98 (bL (eA 3 (kI .i64)) fun vs=>wz ((dP ay) (vs.getD 0 .ao)))
theorem D7:bH Tryz.prog 98 Cc:=aox (b:=8) ajI (by kernel_rfl) (fun _=>rfl) G6 TQ ⟨by kernel_rfl,_,Tryz.func98,rfl,by kernel_rfl⟩
set_option maxHeartbeats 4000000 in
set_option maxHeartbeats 4000000 in
set_option maxHeartbeats 4000000 in
set_option maxHeartbeats 4000000 in
end
end Go.Proofs.YtckbdndhmcoihaaGreat.b
end
section
namespace Go.Proofs.YtckbdndhmcoihaaGreat.b
open Go.K
noncomputable section
structure Path where
 nodes:(Sl Handle)
 kids:(Sl Int)
instance:Inhabited Path:=⟨⟨default,default⟩⟩
def RW (x:Path):List KV:=[eA 32 dL x.nodes,eA 3 (kI .i64) x.kids]
def sB (x:Path):KV:=.agg (RW x)
def RX (c:Nat->KV):Path:=⟨dP cM (c 0),dP ay (c 1)⟩
def qR (v:KV):Path:=RX fun k=>v.cells.getD k .ao
structure fP where
 t5:Bool
 t19:(Sl Int)
 t20:Int
 t21:Int
 s:aP
 t4:Path
 p:Path
 h:Handle
instance:Inhabited fP:=⟨by constructor<;>exact default⟩
def tX (x:fP):List KV:=[.bool x.t5,eA 3 (kI .i64) x.t19,.int .i64 x.t20,.int .i64 x.t21]
def tY (x:fP):List (List KV):=[uE x.s,RW x.t4,RW x.p,agK x.h]
def Ge (vs:List KV) (rs:List (List KV)):fP:=⟨dj (vs.getD 0 .ao),dP ay (vs.getD 1 .ao),ay (vs.getD 2 .ao),ay (vs.getD 3 .ao),uF (fun k=>(rs.getD 0 []).getD k .ao),RX (fun k=>(rs.getD 1 []).getD k .ao),RX (fun k=>(rs.getD 2 []).getD k .ao),agL (fun k=>(rs.getD 3 []).getD k .ao)⟩
def G7:aV:=⟨[(5,⟨false,[.k .bool]⟩),(19,⟨false,[.k (.slice 3)]⟩),(20,⟨false,[.k (.int .i64)]⟩),(21,⟨false,[.k (.int .i64)]⟩)],[(2,[.k (.slice 111),.k (.slice 35),.k (.slice 77),.k (.slice 88),.k (.slice 91),.k (.int .i64),.k (.int .i64)],1),(4,[.bA 32,.k (.slice 3)],1),(6,[.bA 32,.k (.slice 3)],1),(7,[.k (.int .i64),.k (.int .i64)],1)],[(2,0,0),(4,1,0),(6,2,0),(7,3,0)]⟩
def RY:=dB Tryz.prog (bp Tryz.prog [(98,Cc)] [] (fun q=>Nat.beq q 3)) 9 9 51 122 (dF Tryz.prog 51 122) G7
def kz (x:fP):aW fP:=(cond (decide (x.t21 < x.t20)) (cond ((decide ((0:Int)<=x.t21))&&(decide (x.t21 < ((x.t19.n:Nat):Int)))) (cond ((decide ((0:Int)<=x.h.slot))&&(decide (x.h.slot < ((x.s.graph.kids.n:Nat):Int)))) (cond (decide ((x.t19.get (Int.toNat x.t21)) < (0:Int))) (cond (cond (bz x.p.nodes.n x.p.nodes.n) true false) (.out aB.ae.ret (⟨false,x.t19,x.t20,x.t21,x.s,(⟨(⟨0,(fun i=>(⟨(0:Int),(0:Int)⟩:Handle))⟩:Sl _),(⟨0,(fun i=>(0:Int))⟩:Sl _)⟩:Path),x.p,x.h⟩:fP)) .fail) (cond (decide ((x.t19.get (Int.toNat x.t21)) >= (((x.s.graph.kids.get (Int.toNat x.h.slot)).n:Nat):Int))) (cond (cond (bz x.p.nodes.n x.p.nodes.n) true false) (.out aB.ae.ret (⟨false,x.t19,x.t20,x.t21,x.s,(⟨(⟨0,(fun i=>(⟨(0:Int),(0:Int)⟩:Handle))⟩:Sl _),(⟨0,(fun i=>(0:Int))⟩:Sl _)⟩:Path),x.p,x.h⟩:fP)) .fail) (cond ((decide ((0:Int)<=(x.t19.get (Int.toNat x.t21))))&&(decide ((x.t19.get (Int.toNat x.t21)) < (((x.s.graph.kids.get (Int.toNat x.h.slot)).n:Nat):Int)))) (cond ((bz x.p.nodes.n x.p.nodes.n)&&(kC 16 x.p.nodes.n 1)) (cond (cond (bz (x.p.nodes.n+1) (x.p.nodes.n+1)) (bz x.t4.nodes.n x.t4.nodes.n) false) (.next (⟨x.t5,x.t19,x.t20,(aR (x.t21+(1:Int))),x.s,x.t4,(⟨(x.p.nodes.push ((x.s.graph.kids.get (Int.toNat x.h.slot)).get (Int.toNat (x.t19.get (Int.toNat x.t21))))),x.p.kids⟩:Path),((x.s.graph.kids.get (Int.toNat x.h.slot)).get (Int.toNat (x.t19.get (Int.toNat x.t21))))⟩:fP)) .fail) .fail) .fail))) .fail) .fail) (cond (cond (bz x.p.nodes.n x.p.nodes.n) (bz x.t4.nodes.n x.t4.nodes.n) false) (.out (aB.ae.exit 0) x) .fail))
theorem OX (x:fP):RY (tX x) (tY x)=aW.enc tX tY (kz x):=by
 unfold kz
 try simp only [aW.cf,db]
 kernel_rfl
def uL:Lp:=⟨51,122,G7,fun vs rs=>dC tX tY (goN kz (Ge vs rs)) [aB.ae.exit 0,aB.ae.ret],false⟩
theorem RZ:uL.Ok Tryz.prog:=b8 funcs mixed (ah.cons D7 ah.nil) au.nil (L:=9) (n:=9) (step:=kz) (ev:=tX) (er:=tY) (pa:=Ge) rfl (fun wv wr=>⟨by kernel_rfl,by kernel_rfl⟩) OX
theorem Nf:bZ Tryz.prog uL.f uL.p=true:=by kernel_rfl
def Ng:List (Nat×(List KV->KR KV)):=[(98,Cc)]
def Nh:List Lp:=[uL]
theorem WU:ah Tryz.prog Ng:=(ah.cons D7 ah.nil)
theorem WV:au Tryz.prog Nh:=(au.cons RZ Nf au.nil)
def yi (s:aP) (kids:(Sl Int)):(Option (Sl Int)):=(wz kids)
def nZ (s:aP) (kids:(Sl Int)):(aW fP):=(goN kz (⟨false,kids,((kids.n:Nat):Int),(1:Int),s,(⟨(⟨0,(fun i=>(⟨(0:Int),(0:Int)⟩:Handle))⟩:Sl _),(⟨0,(fun i=>(0:Int))⟩:Sl _)⟩:Path),(⟨((Sl.lit [s.root]).push ((s.graph.kids.get (Int.toNat s.root.slot)).get (Int.toNat (kids.get 0)))),((yi s kids).getD default)⟩:Path),((s.graph.kids.get (Int.toNat s.root.slot)).get (Int.toNat (kids.get 0)))⟩:fP))
def tt (s:aP) (kids:(Sl Int)):Option (Path×Bool):=(cond (yi s kids).isSome (cond (decide ((0:Int) < ((kids.n:Nat):Int))) (cond (decide ((0:Int) < ((kids.n:Nat):Int))) (cond ((decide ((0:Int)<=s.root.slot))&&(decide (s.root.slot < ((s.graph.kids.n:Nat):Int)))) (cond (decide ((kids.get 0) < (0:Int))) (some ((⟨(⟨0,(fun i=>(⟨(0:Int),(0:Int)⟩:Handle))⟩:Sl _),(⟨0,(fun i=>(0:Int))⟩:Sl _)⟩:Path),false)) (cond (decide ((kids.get 0) >= (((s.graph.kids.get (Int.toNat s.root.slot)).n:Nat):Int))) (some ((⟨(⟨0,(fun i=>(⟨(0:Int),(0:Int)⟩:Handle))⟩:Sl _),(⟨0,(fun i=>(0:Int))⟩:Sl _)⟩:Path),false)) (cond ((decide ((0:Int)<=(kids.get 0)))&&(decide ((kids.get 0) < (((s.graph.kids.get (Int.toNat s.root.slot)).n:Nat):Int)))) (cond ((nZ s kids).by (aB.ae.exit 0)) (some ((nZ s kids).st.p,true)) (cond ((nZ s kids).by aB.ae.ret) (some ((nZ s kids).st.t4,(nZ s kids).st.t5)) none)) none))) none) none) (some ((⟨(Sl.lit [s.root]),((yi s kids).getD default)⟩:Path),true))) none)
theorem Zx (s:aP) (kids:(Sl Int)):cD Tryz.prog (bp Tryz.prog Ng Nh (fun q=>Nat.beq q 3)) 9 9 51 [dx s,(eA 3 (kI .i64)) kids] = (tt s kids).map (fun (r:Path×Bool)=>KV.na [sB r.1,kB r.2]):=by
 unfold tt
 try simp only [bq,nZ,db,dY,dZ]
 kernel_rfl
def PK:List KV->KR KV:=bI Tryz.prog 51 (bL (fun (r:Path×Bool)=>KV.na [sB r.1,kB r.2]) fun vs=>tt (b6 (vs.getD 0 .ao)) ((dP ay) (vs.getD 1 .ao)))
theorem WW (w:Nat->KV):ck Tryz.prog [34,36] w 0 = [dx (b6 (ax Tryz.prog (ai Tryz.prog aj) 34 (w 0))),(eA 3 (kI .i64)) ((dP ay) (ax Tryz.prog (ai Tryz.prog aj) 36 (w 1)))]:=by kernel_rfl
theorem WX:bH Tryz.prog 51 PK:=aL funcs mixed WU WV (L:=9) (n:=9) fun w=>by
 have e:aG Tryz.prog 51 = [34,36]:=by kernel_rfl
 rw [e,WW]
 exact (Zx (b6 (ax Tryz.prog (ai Tryz.prog aj) 34 (w 0))) ((dP ay) (ax Tryz.prog (ai Tryz.prog aj) 36 (w 1)))).trans (by kernel_rfl)
structure eK where
 s1:(Sl Handle)
 s2:(Sl Handle)
 t4:Bool
 t12:Int
 t13:Int
instance:Inhabited eK:=⟨⟨default,default,default,default,default⟩⟩
def rv (x:eK):List KV:=[eA 32 dL x.s1,eA 32 dL x.s2,.bool x.t4,.int .i64 x.t12,.int .i64 x.t13]
def rz (x:eK):List (List KV):=[]
def DH (vs:List KV) (rs:List (List KV)):eK:=⟨dP cM (vs.getD 0 .ao),dP cM (vs.getD 1 .ao),dj (vs.getD 2 .ao),ay (vs.getD 3 .ao),ay (vs.getD 4 .ao)⟩
def D8:aV:=⟨[(0,⟨false,[.k (.slice 32)]⟩),(1,⟨false,[.k (.slice 32)]⟩),(4,⟨false,[.k .bool]⟩),(12,⟨false,[.k (.int .i64)]⟩),(13,⟨false,[.k (.int .i64)]⟩)],[],[]⟩
def OY:=dB Tryz.prog (bp Tryz.prog [] [] (fun q=>Nat.beq q 3)) 9 9 99 58 (dF Tryz.prog 99 58) D8
def eT (x:eK):aW eK:=(cond (decide (x.t13 < x.t12)) (cond ((decide ((0:Int)<=x.t13))&&(decide (x.t13 < ((x.s1.n:Nat):Int)))) (cond ((decide ((0:Int)<=x.t13))&&(decide (x.t13 < ((x.s2.n:Nat):Int)))) (cond (!(((x.s1.get (Int.toNat x.t13)).slot==(x.s2.get (Int.toNat x.t13)).slot)&&(((x.s1.get (Int.toNat x.t13)).gen==(x.s2.get (Int.toNat x.t13)).gen)&&true))) (.out aB.ae.ret (⟨x.s1,x.s2,false,x.t12,x.t13⟩:eK)) (.next (⟨x.s1,x.s2,x.t4,x.t12,(aR (x.t13+(1:Int)))⟩:eK))) .fail) .fail) (.out (aB.ae.exit 0) x))
theorem LG (x:eK):OY (rv x) (rz x)=aW.enc rv rz (eT x):=by
 unfold eT
 try simp only [aW.cf]
 kernel_rfl
def si:Lp:=⟨99,58,D8,fun vs rs=>dC rv rz (goN eT (DH vs rs)) [aB.ae.exit 0,aB.ae.ret],false⟩
theorem OZ:si.Ok Tryz.prog:=b8 funcs mixed ah.nil au.nil (L:=9) (n:=9) (step:=eT) (ev:=rv) (er:=rz) (pa:=DH) rfl (fun wv wr=>⟨by kernel_rfl,by kernel_rfl⟩) LG
theorem JI:bZ Tryz.prog si.f si.p=true:=by kernel_rfl
def G8:List (Nat×(List KV->KR KV)):=[]
def G9:List Lp:=[si]
theorem P7:ah Tryz.prog G8:=ah.nil
theorem P8:au Tryz.prog G9:=(au.cons OZ JI au.nil)
def tZ (s1:(Sl Handle)) (s2:(Sl Handle)):(aW eK):=(goN eT (⟨s1,s2,false,((s1.n:Nat):Int),(0:Int)⟩:eK))
def pB (s1:(Sl Handle)) (s2:(Sl Handle)):Option (Bool):=(cond (((s1.n:Nat):Int) != ((s2.n:Nat):Int)) (some (false)) (cond ((tZ s1 s2).by (aB.ae.exit 0)) (some (true)) (cond ((tZ s1 s2).by aB.ae.ret) (some ((tZ s1 s2).st.t4)) none)))
theorem R0 (s1:(Sl Handle)) (s2:(Sl Handle)):cD Tryz.prog (bp Tryz.prog G8 G9 (fun q=>Nat.beq q 3)) 9 9 99 [(eA 32 dL) s1,(eA 32 dL) s2] = (pB s1 s2).map kB:=by
 unfold pB
 try simp only [bq]
 kernel_rfl
def Jp:List KV->KR KV:=bI Tryz.prog 99 (bL kB fun vs=>pB ((dP cM) (vs.getD 0 .ao)) ((dP cM) (vs.getD 1 .ao)))
theorem P9 (w:Nat->KV):ck Tryz.prog [35,35] w 0 = [(eA 32 dL) ((dP cM) (ax Tryz.prog (ai Tryz.prog aj) 35 (w 0))),(eA 32 dL) ((dP cM) (ax Tryz.prog (ai Tryz.prog aj) 35 (w 1)))]:=by kernel_rfl
theorem Qa:bH Tryz.prog 99 Jp:=aL funcs mixed P7 P8 (L:=9) (n:=9) fun w=>by
 have e:aG Tryz.prog 99 = [35,35]:=by kernel_rfl
 rw [e,P9]
 exact (R0 ((dP cM) (ax Tryz.prog (ai Tryz.prog aj) 35 (w 0))) ((dP cM) (ax Tryz.prog (ai Tryz.prog aj) 35 (w 1)))).trans (by kernel_rfl)
def PL:List (Nat×(List KV->KR KV)):=[(99,Jp),(51,PK),(25,U1)]
def PM:List Lp:=[]
theorem Zy:ah Tryz.prog PL:=(ah.cons Qa (ah.cons WX (ah.cons abH ah.nil)))
theorem Zz:au Tryz.prog PM:=au.nil
def Aa (s:aP) (p:Path):(Option Int):=(xw s)
def Ab (s:aP) (p:Path):(Option (Prod Path Bool)):=(tt s p.kids)
def EU (s:aP) (p:Path):(Option Bool):=(pB ((Ab s p).getD default).fst.nodes p.nodes)
def vy (s:aP) (p:Path):Option (Int):=(cond (Aa s p).isSome (cond (((Aa s p).getD default) != (0:Int)) (some (((Aa s p).getD default))) (cond ((s.root.slot==(0:Int))&&((s.root.gen==(0:Int))&&true)) (some ((8:Int))) (cond (Ab s p).isSome (cond (!((Ab s p).getD default).snd) (some ((8:Int))) (cond (EU s p).isSome (cond (!((EU s p).getD default)) (some ((8:Int))) (some ((0:Int)))) none)) none))) none)
theorem abJ (s:aP) (p:Path):cD Tryz.prog (bp Tryz.prog PL PM (fun q=>Nat.beq q 3)) 9 9 54 [dx s,sB p] = (vy s p).map (kI .i64):=by
 unfold vy
 try simp only [bq]
 kernel_rfl
def Jq:List KV->KR KV:=bI Tryz.prog 54 (bL (kI .i64) fun vs=>vy (b6 (vs.getD 0 .ao)) (qR (vs.getD 1 .ao)))
theorem ZA (w:Nat->KV):ck Tryz.prog [34,38] w 0 = [dx (b6 (ax Tryz.prog (ai Tryz.prog aj) 34 (w 0))),sB (qR (ax Tryz.prog (ai Tryz.prog aj) 38 (w 1)))]:=by kernel_rfl
theorem KI:bH Tryz.prog 54 Jq:=aL funcs mixed Zy Zz (L:=9) (n:=9) fun w=>by
 have e:aG Tryz.prog 54 = [34,38]:=by kernel_rfl
 rw [e,ZA]
 exact (abJ (b6 (ax Tryz.prog (ai Tryz.prog aj) 34 (w 0))) (qR (ax Tryz.prog (ai Tryz.prog aj) 38 (w 1)))).trans (by kernel_rfl)
structure jZ where
 t4:Bool
 t5:Int
 t17:(Sl Int)
 t18:Int
 t19:Int
 s:aP
 p:Path
instance:Inhabited jZ:=⟨by constructor<;>exact default⟩
def BC (x:jZ):List KV:=[.bool x.t4,.int .i64 x.t5,eA 3 (kI .i64) x.t17,.int .i64 x.t18,.int .i64 x.t19]
def BD (x:jZ):List (List KV):=[uE x.s,RW x.p]
def PN (vs:List KV) (rs:List (List KV)):jZ:=⟨dj (vs.getD 0 .ao),ay (vs.getD 1 .ao),dP ay (vs.getD 2 .ao),ay (vs.getD 3 .ao),ay (vs.getD 4 .ao),uF (fun k=>(rs.getD 0 []).getD k .ao),RX (fun k=>(rs.getD 1 []).getD k .ao)⟩
def R1:aV:=⟨[(4,⟨false,[.k .bool]⟩),(5,⟨false,[.k (.int .i64)]⟩),(17,⟨false,[.k (.slice 3)]⟩),(18,⟨false,[.k (.int .i64)]⟩),(19,⟨false,[.k (.int .i64)]⟩)],[(2,[.k (.slice 111),.k (.slice 35),.k (.slice 77),.k (.slice 88),.k (.slice 91),.k (.int .i64),.k (.int .i64)],1),(3,[.k (.slice 32),.k (.slice 3)],1)],[(2,0,0),(3,1,0)]⟩
def aem:=dB Tryz.prog (bp Tryz.prog [(54,Jq)] [] (fun q=>Nat.beq q 3)) 9 9 20 58 (dF Tryz.prog 20 58) R1
def j5 (x:jZ):aW jZ:=(cond (decide (x.t19 < x.t18)) (cond ((decide ((0:Int)<=x.t19))&&(decide (x.t19 < ((x.t17.n:Nat):Int)))) (cond ((decide ((0:Int)<=x.t19))&&(decide (x.t19 < ((x.p.nodes.n:Nat):Int)))) (cond ((decide ((0:Int)<=(x.p.nodes.get (Int.toNat x.t19)).slot))&&(decide ((x.p.nodes.get (Int.toNat x.t19)).slot < ((x.s.nodes.n:Nat):Int)))) (cond ((x.s.nodes.get (Int.toNat (x.p.nodes.get (Int.toNat x.t19)).slot)).kind==(3:Int)) (cond (!(decide ((x.t17.get (Int.toNat x.t19)) < (0:Int)))) (cond ((w16 (((akk IntKind.u16 (Int.fdiv (x.s.nodes.get (Int.toNat (x.p.nodes.get (Int.toNat x.t19)).slot)).uz ((2:Int) ^ (min (Int.toNat (x.t17.get (Int.toNat x.t19))) 16))) (1:Int)):Nat):Int))==(0:Int)) (.out aB.ae.ret (⟨false,(0:Int),x.t17,x.t18,x.t19,x.s,x.p⟩:jZ)) (.next (⟨x.t4,x.t5,x.t17,x.t18,(aR (x.t19+(1:Int))),x.s,x.p⟩:jZ))) .fail) (.next (⟨x.t4,x.t5,x.t17,x.t18,(aR (x.t19+(1:Int))),x.s,x.p⟩:jZ))) .fail) .fail) .fail) (.out (aB.ae.exit 0) x))
theorem ZB (x:jZ):aem (BC x) (BD x)=aW.enc BC BD (j5 x):=by
 unfold j5
 try simp only [aW.cf]
 kernel_rfl
def DI:Lp:=⟨20,58,R1,fun vs rs=>dC BC BD (goN j5 (PN vs rs)) [aB.ae.exit 0,aB.ae.ret],false⟩
theorem aen:DI.Ok Tryz.prog:=b8 funcs mixed (ah.cons KI ah.nil) au.nil (L:=9) (n:=9) (step:=j5) (ev:=BC) (er:=BD) (pa:=PN) rfl (fun wv wr=>⟨by kernel_rfl,by kernel_rfl⟩) ZB
theorem WY:bZ Tryz.prog DI.f DI.p=true:=by kernel_rfl
def ZC:List (Nat×(List KV->KR KV)):=[(54,Jq)]
def ZD:List Lp:=[DI]
theorem ahT:ah Tryz.prog ZC:=(ah.cons KI ah.nil)
theorem ahU:au Tryz.prog ZD:=(au.cons aen WY au.nil)
def FC (s:aP) (p:Path):(Option Int):=(vy s p)
def Bh (s:aP) (p:Path):(aW jZ):=(goN j5 (⟨false,(0:Int),p.kids,((p.kids.n:Nat):Int),(0:Int),s,p⟩:jZ))
def Cz (s:aP) (p:Path):Option (Bool×Int):=(cond (FC s p).isSome (cond (((FC s p).getD default) != (0:Int)) (some (false,((FC s p).getD default))) (cond ((Bh s p).by (aB.ae.exit 0)) (some (true,(0:Int))) (cond ((Bh s p).by aB.ae.ret) (some ((Bh s p).st.t4,(Bh s p).st.t5)) none))) none)
theorem ajJ (s:aP) (p:Path):cD Tryz.prog (bp Tryz.prog ZC ZD (fun q=>Nat.beq q 3)) 9 9 20 [dx s,sB p] = (Cz s p).map (fun (r:Bool×Int)=>KV.na [kB r.1,(kI .i64) r.2]):=by
 unfold Cz
 try simp only [bq]
 kernel_rfl
def R2:List KV->KR KV:=bI Tryz.prog 20 (bL (fun (r:Bool×Int)=>KV.na [kB r.1,(kI .i64) r.2]) fun vs=>Cz (b6 (vs.getD 0 .ao)) (qR (vs.getD 1 .ao)))
theorem ahV (w:Nat->KV):ck Tryz.prog [34,38] w 0 = [dx (b6 (ax Tryz.prog (ai Tryz.prog aj) 34 (w 0))),sB (qR (ax Tryz.prog (ai Tryz.prog aj) 38 (w 1)))]:=by kernel_rfl
theorem R3:bH Tryz.prog 20 R2:=aL funcs mixed ahT ahU (L:=9) (n:=9) fun w=>by
 have e:aG Tryz.prog 20 = [34,38]:=by kernel_rfl
 rw [e,ahV]
 exact (ajJ (b6 (ax Tryz.prog (ai Tryz.prog aj) 34 (w 0))) (qR (ax Tryz.prog (ai Tryz.prog aj) 38 (w 1)))).trans (by kernel_rfl)
def ZE:List (Nat×(List KV->KR KV)):=[]
def ZF:List Lp:=[]
theorem ahW:ah Tryz.prog ZE:=ah.nil
theorem ahX:au Tryz.prog ZF:=au.nil
def Gf  : Option (dm):=(some ((⟨(⟨(⟨(256:Int),(0:Int),(0:Int)⟩:az),(⟨(0:Int),(256:Int),(0:Int)⟩:az),(⟨(0:Int),(0:Int),(256:Int)⟩:az)⟩:bw),(⟨(0:Int),(0:Int),(0:Int)⟩:fO)⟩:dm)))
theorem ajK  : cD Tryz.prog (bp Tryz.prog ZE ZF (fun q=>Nat.beq q 3)) 9 9 44 [] = (Gf ).map mu:=by
 unfold Gf
 kernel_rfl
def R4:List KV->KR KV:=bI Tryz.prog 44 (bL mu fun vs=>Gf )
theorem ahY (w:Nat->KV):ck Tryz.prog [] w 0 = []:=by kernel_rfl
theorem R5:bH Tryz.prog 44 R4:=aL funcs mixed ahW ahX (L:=9) (n:=9) fun w=>by
 have e:aG Tryz.prog 44 = []:=by kernel_rfl
 rw [e,ahY]
 exact (ajK ).trans (by kernel_rfl)
def ZG:List (Nat×(List KV->KR KV)):=[]
def ZH:List Lp:=[]
theorem ahZ:ah Tryz.prog ZG:=ah.nil
theorem ah0:au Tryz.prog ZH:=au.nil
def Gg (v:fO):Option (az):=(some ((⟨v.x,v.y,v.z⟩:az)))
theorem ajL (v:fO):cD Tryz.prog (bp Tryz.prog ZG ZH (fun q=>Nat.beq q 3)) 9 9 206 [mr v] = (Gg v).map df:=by
 unfold Gg
 kernel_rfl
def adg:List KV->KR KV:=bI Tryz.prog 206 (bL df fun vs=>Gg (kL (vs.getD 0 .ao)))
theorem ah1 (w:Nat->KV):ck Tryz.prog [43] w 0 = [mr (kL (ax Tryz.prog (ai Tryz.prog aj) 43 (w 0)))]:=by kernel_rfl
theorem ah2:bH Tryz.prog 206 adg:=aL funcs mixed ahZ ah0 (L:=9) (n:=9) fun w=>by
 have e:aG Tryz.prog 206 = [43]:=by kernel_rfl
 rw [e,ah1]
 exact (ajL (kL (ax Tryz.prog (ai Tryz.prog aj) 43 (w 0)))).trans (by kernel_rfl)
def PO:List (Nat×(List KV->KR KV)):=[]
def PQ:List Lp:=[]
theorem ZI:ah Tryz.prog PO:=ah.nil
theorem ZJ:au Tryz.prog PQ:=au.nil
def n5 (a:Int) (b:Int):Option (Int×Int):=(cond (decide (b < (1:Int))) (some ((0:Int),(2:Int))) (cond (!(decide (b=(0:Int)))) (cond (!(decide (b=(0:Int)))) (cond (decide ((Int.tmod a b) < (0:Int))) (some ((aR ((aR (Int.tdiv a b)) - (1:Int))),(0:Int))) (some ((aR (Int.tdiv a b)),(0:Int)))) none) none))
theorem abK (a:Int) (b:Int):cD Tryz.prog (bp Tryz.prog PO PQ (fun q=>Nat.beq q 3)) 9 9 207 [(kI .i64) a,(kI .i64) b] = (n5 a b).map (fun (r:Int×Int)=>KV.na [(kI .i64) r.1,(kI .i64) r.2]):=by
 unfold n5
 try simp only [bq]
 kernel_rfl
def R6:List KV->KR KV:=bI Tryz.prog 207 (bL (fun (r:Int×Int)=>KV.na [(kI .i64) r.1,(kI .i64) r.2]) fun vs=>n5 (ay (vs.getD 0 .ao)) (ay (vs.getD 1 .ao)))
theorem ZK (w:Nat->KV):ck Tryz.prog [3,3] w 0 = [(kI .i64) (ay (ax Tryz.prog (ai Tryz.prog aj) 3 (w 0))),(kI .i64) (ay (ax Tryz.prog (ai Tryz.prog aj) 3 (w 1)))]:=by kernel_rfl
theorem ZL:bH Tryz.prog 207 R6:=aL funcs mixed ZI ZJ (L:=9) (n:=9) fun w=>by
 have e:aG Tryz.prog 207 = [3,3]:=by kernel_rfl
 rw [e,ZK]
 exact (abK (ay (ax Tryz.prog (ai Tryz.prog aj) 3 (w 0))) (ay (ax Tryz.prog (ai Tryz.prog aj) 3 (w 1)))).trans (by kernel_rfl)
def ZM:List (Nat×(List KV->KR KV)):=[(207,R6)]
def ZN:List Lp:=[]
theorem ah3:ah Tryz.prog ZM:=(ah.cons ZL ah.nil)
theorem ah4:au Tryz.prog ZN:=au.nil
def LH (m:bw) (v:az):(Option (Prod Int Int)):=(n5 (aR ((aR ((aR ((0:Int)+(aR (m.e0.e0 * v.e0))))+(aR (m.e0.e1 * v.e1))))+(aR (m.e0.e2 * v.e2)))) (256:Int))
def LI (m:bw) (v:az):(Option (Prod Int Int)):=(n5 (aR ((aR ((aR ((0:Int)+(aR (m.e1.e0 * v.e0))))+(aR (m.e1.e1 * v.e1))))+(aR (m.e1.e2 * v.e2)))) (256:Int))
def LJ (m:bw) (v:az):(Option (Prod Int Int)):=(n5 (aR ((aR ((aR ((0:Int)+(aR (m.e2.e0 * v.e0))))+(aR (m.e2.e1 * v.e1))))+(aR (m.e2.e2 * v.e2)))) (256:Int))
def ua (m:bw) (v:az):Option (az):=(cond (LH m v).isSome (cond (LI m v).isSome (cond (LJ m v).isSome (some ((⟨((LH m v).getD default).fst,((LI m v).getD default).fst,((LJ m v).getD default).fst⟩:az))) none) none) none)
theorem ajM (m:bw) (v:az):cD Tryz.prog (bp Tryz.prog ZM ZN (fun q=>Nat.beq q 3)) 9 9 164 [gb m,df v] = (ua m v).map df:=by
 unfold ua
 try simp only [bq]
 kernel_rfl
def R7:List KV->KR KV:=bI Tryz.prog 164 (bL df fun vs=>ua (cV (vs.getD 0 .ao)) (dv (vs.getD 1 .ao)))
theorem ah5 (w:Nat->KV):ck Tryz.prog [41,40] w 0 = [gb (cV (ax Tryz.prog (ai Tryz.prog aj) 41 (w 0))),df (dv (ax Tryz.prog (ai Tryz.prog aj) 40 (w 1)))]:=by kernel_rfl
theorem R8:bH Tryz.prog 164 R7:=aL funcs mixed ah3 ah4 (L:=9) (n:=9) fun w=>by
 have e:aG Tryz.prog 164 = [41,40]:=by kernel_rfl
 rw [e,ah5]
 exact (ajM (cV (ax Tryz.prog (ai Tryz.prog aj) 41 (w 0))) (dv (ax Tryz.prog (ai Tryz.prog aj) 40 (w 1)))).trans (by kernel_rfl)
def U2:List (Nat×(List KV->KR KV)):=[]
def U3:List Lp:=[]
theorem aeo:ah Tryz.prog U2:=ah.nil
theorem aep:au Tryz.prog U3:=au.nil
def DJ (l:az):Option (fO):=(some ((⟨l.e0,l.e1,l.e2⟩:fO)))
theorem ah6 (l:az):cD Tryz.prog (bp Tryz.prog U2 U3 (fun q=>Nat.beq q 3)) 9 9 205 [df l] = (DJ l).map mr:=by
 unfold DJ
 kernel_rfl
def ZO:List KV->KR KV:=bI Tryz.prog 205 (bL mr fun vs=>DJ (dv (vs.getD 0 .ao)))
theorem aeq (w:Nat->KV):ck Tryz.prog [40] w 0 = [df (dv (ax Tryz.prog (ai Tryz.prog aj) 40 (w 0)))]:=by kernel_rfl
theorem aer:bH Tryz.prog 205 ZO:=aL funcs mixed aeo aep (L:=9) (n:=9) fun w=>by
 have e:aG Tryz.prog 205 = [40]:=by kernel_rfl
 rw [e,aeq]
 exact (ah6 (dv (ax Tryz.prog (ai Tryz.prog aj) 40 (w 0)))).trans (by kernel_rfl)
def U4:List (Nat×(List KV->KR KV)):=[(205,ZO),(164,R7),(206,adg)]
def U5:List Lp:=[]
theorem aes:ah Tryz.prog U4:=(ah.cons aer (ah.cons R8 (ah.cons ah2 ah.nil)))
theorem aet:au Tryz.prog U5:=au.nil
def Jr (m:dm) (v:fO):(Option az):=(Gg v)
def Js (m:dm) (v:fO):(Option az):=(ua m.m ((Jr m v).getD default))
def yQ (m:dm) (v:fO):(Option fO):=(DJ ((Js m v).getD default))
def Ac (m:dm) (v:fO):Option (fO):=(cond (Jr m v).isSome (cond (Js m v).isSome (cond (yQ m v).isSome (some ((⟨(aR (((yQ m v).getD default).x+m.t.x)),(aR (((yQ m v).getD default).y+m.t.y)),(aR (((yQ m v).getD default).z+m.t.z))⟩:fO))) none) none) none)
theorem ah7 (m:dm) (v:fO):cD Tryz.prog (bp Tryz.prog U4 U5 (fun q=>Nat.beq q 3)) 9 9 163 [mu m,mr v] = (Ac m v).map mr:=by
 unfold Ac
 try simp only [bq]
 kernel_rfl
def ZP:List KV->KR KV:=bI Tryz.prog 163 (bL mr fun vs=>Ac (mv (vs.getD 0 .ao)) (kL (vs.getD 1 .ao)))
theorem aeu (w:Nat->KV):ck Tryz.prog [45,43] w 0 = [mu (mv (ax Tryz.prog (ai Tryz.prog aj) 45 (w 0))),mr (kL (ax Tryz.prog (ai Tryz.prog aj) 43 (w 1)))]:=by kernel_rfl
theorem aev:bH Tryz.prog 163 ZP:=aL funcs mixed aes aet (L:=9) (n:=9) fun w=>by
 have e:aG Tryz.prog 163 = [45,43]:=by kernel_rfl
 rw [e,aeu]
 exact (ah7 (mv (ax Tryz.prog (ai Tryz.prog aj) 45 (w 0))) (kL (ax Tryz.prog (ai Tryz.prog aj) 43 (w 1)))).trans (by kernel_rfl)
def adh:List (Nat×(List KV->KR KV)):=[(164,R7),(163,ZP),(133,GM)]
def adi:List Lp:=[]
theorem ajN:ah Tryz.prog adh:=(ah.cons R8 (ah.cons aev (ah.cons Jj ah.nil)))
theorem ajO:au Tryz.prog adi:=au.nil
def O0 (a:dm) (b:dm):(Option Int):=(mU a)
def O1 (a:dm) (b:dm):(Option Int):=(mU b)
def DK (a:dm) (b:dm):(Option fO):=(Ac a b.t)
def rA (a:dm) (b:dm):(Option az):=(ua a.m (⟨b.m.e0.e0,b.m.e1.e0,b.m.e2.e0⟩:az))
def rB (a:dm) (b:dm):(Option az):=(ua a.m (⟨b.m.e0.e1,b.m.e1.e1,b.m.e2.e1⟩:az))
def rC (a:dm) (b:dm):(Option az):=(ua a.m (⟨b.m.e0.e2,b.m.e1.e2,b.m.e2.e2⟩:az))
def HI (a:dm) (b:dm):(Option Int):=(mU (⟨(⟨(⟨((rA a b).getD default).e0,((rB a b).getD default).e0,((rC a b).getD default).e0⟩:az),(⟨((rA a b).getD default).e1,((rB a b).getD default).e1,((rC a b).getD default).e1⟩:az),(⟨((rA a b).getD default).e2,((rB a b).getD default).e2,((rC a b).getD default).e2⟩:az)⟩:bw),((DK a b).getD default)⟩:dm))
def EV (a:dm) (b:dm):Option (dm×Int):=(cond (O0 a b).isSome (cond (((O0 a b).getD default) != (0:Int)) (some ((⟨(⟨(⟨(0:Int),(0:Int),(0:Int)⟩:az),(⟨(0:Int),(0:Int),(0:Int)⟩:az),(⟨(0:Int),(0:Int),(0:Int)⟩:az)⟩:bw),(⟨(0:Int),(0:Int),(0:Int)⟩:fO)⟩:dm),(20:Int))) (cond (O1 a b).isSome (cond (((O1 a b).getD default) != (0:Int)) (some ((⟨(⟨(⟨(0:Int),(0:Int),(0:Int)⟩:az),(⟨(0:Int),(0:Int),(0:Int)⟩:az),(⟨(0:Int),(0:Int),(0:Int)⟩:az)⟩:bw),(⟨(0:Int),(0:Int),(0:Int)⟩:fO)⟩:dm),(20:Int))) (cond (DK a b).isSome (cond (rA a b).isSome (cond (rB a b).isSome (cond (rC a b).isSome (cond (HI a b).isSome (cond (((HI a b).getD default) != (0:Int)) (some ((⟨(⟨(⟨(0:Int),(0:Int),(0:Int)⟩:az),(⟨(0:Int),(0:Int),(0:Int)⟩:az),(⟨(0:Int),(0:Int),(0:Int)⟩:az)⟩:bw),(⟨(0:Int),(0:Int),(0:Int)⟩:fO)⟩:dm),((HI a b).getD default))) (some ((⟨(⟨(⟨((rA a b).getD default).e0,((rB a b).getD default).e0,((rC a b).getD default).e0⟩:az),(⟨((rA a b).getD default).e1,((rB a b).getD default).e1,((rC a b).getD default).e1⟩:az),(⟨((rA a b).getD default).e2,((rB a b).getD default).e2,((rC a b).getD default).e2⟩:az)⟩:bw),((DK a b).getD default)⟩:dm),(0:Int)))) none) none) none) none) none)) none)) none)
theorem amo (a:dm) (b:dm):cD Tryz.prog (bp Tryz.prog adh adi (fun q=>Nat.beq q 3)) 9 9 94 [mu a,mu b] = (EV a b).map (fun (r:dm×Int)=>KV.na [mu r.1,(kI .i64) r.2]):=by
 unfold EV
 try simp only [bq]
 kernel_rfl
def WZ:List KV->KR KV:=bI Tryz.prog 94 (bL (fun (r:dm×Int)=>KV.na [mu r.1,(kI .i64) r.2]) fun vs=>EV (mv (vs.getD 0 .ao)) (mv (vs.getD 1 .ao)))
theorem ajP (w:Nat->KV):ck Tryz.prog [45,45] w 0 = [mu (mv (ax Tryz.prog (ai Tryz.prog aj) 45 (w 0))),mu (mv (ax Tryz.prog (ai Tryz.prog aj) 45 (w 1)))]:=by kernel_rfl
theorem U6:bH Tryz.prog 94 WZ:=aL funcs mixed ajN ajO (L:=9) (n:=9) fun w=>by
 have e:aG Tryz.prog 94 = [45,45]:=by kernel_rfl
 rw [e,ajP]
 exact (amo (mv (ax Tryz.prog (ai Tryz.prog aj) 45 (w 0))) (mv (ax Tryz.prog (ai Tryz.prog aj) 45 (w 1)))).trans (by kernel_rfl)
structure xx where
 m:dm
 e:Int
instance:Inhabited xx:=⟨⟨default,default⟩⟩
def ah8 (x:xx):List KV:=[.int .i64 x.m.m.e0.e0,.int .i64 x.m.m.e0.e1,.int .i64 x.m.m.e0.e2,.int .i64 x.m.m.e1.e0,.int .i64 x.m.m.e1.e1,.int .i64 x.m.m.e1.e2,.int .i64 x.m.m.e2.e0,.int .i64 x.m.m.e2.e1,.int .i64 x.m.m.e2.e2,.int .i64 x.m.t.x,.int .i64 x.m.t.y,.int .i64 x.m.t.z,.int .i64 x.e]
def ah9 (c:Nat->KV):xx:=⟨⟨⟨⟨ay (c 0),ay (c 1),ay (c 2)⟩,⟨ay (c 3),ay (c 4),ay (c 5)⟩,⟨ay (c 6),ay (c 7),ay (c 8)⟩⟩,⟨ay (c 9),ay (c 10),ay (c 11)⟩⟩,ay (c 12)⟩
structure gI where
 t5:Int
 t25:(Sl Handle)
 t26:Int
 t27:Int
 s:aP
 t4:dm
 w:xx
instance:Inhabited gI:=⟨by constructor<;>exact default⟩
def yj (x:gI):List KV:=[.int .i64 x.t5,eA 32 dL x.t25,.int .i64 x.t26,.int .i64 x.t27]
def yk (x:gI):List (List KV):=[uE x.s,arA x.t4,ah8 x.w]
def KK (vs:List KV) (rs:List (List KV)):gI:=⟨ay (vs.getD 0 .ao),dP cM (vs.getD 1 .ao),ay (vs.getD 2 .ao),ay (vs.getD 3 .ao),uF (fun k=>(rs.getD 0 []).getD k .ao),arB (fun k=>(rs.getD 1 []).getD k .ao),ah9 (fun k=>(rs.getD 2 []).getD k .ao)⟩
def Ni:aV:=⟨[(5,⟨false,[.k (.int .i64)]⟩),(25,⟨false,[.k (.slice 32)]⟩),(26,⟨false,[.k (.int .i64)]⟩),(27,⟨false,[.k (.int .i64)]⟩)],[(2,[.k (.slice 111),.k (.slice 35),.k (.slice 77),.k (.slice 88),.k (.slice 91),.k (.int .i64),.k (.int .i64)],1),(4,[.k (.int .i64),.k (.int .i64),.k (.int .i64),.k (.int .i64),.k (.int .i64),.k (.int .i64),.k (.int .i64),.k (.int .i64),.k (.int .i64),.k (.int .i64),.k (.int .i64),.k (.int .i64)],1),(8,[.k (.int .i64),.k (.int .i64),.k (.int .i64),.k (.int .i64),.k (.int .i64),.k (.int .i64),.k (.int .i64),.k (.int .i64),.k (.int .i64),.k (.int .i64),.k (.int .i64),.k (.int .i64),.k (.int .i64)],1)],[(2,0,0),(4,1,0),(8,2,0)]⟩
def ZQ:=dB Tryz.prog (bp Tryz.prog [(94,WZ),(44,R4),(20,R2)] [] (fun q=>Nat.beq q 3)) 9 9 13 122 (dF Tryz.prog 13 122) Ni
def wA (x:gI):(Option (Prod dm Int)):=(EV x.w.m (x.s.nodes.get (Int.toNat (x.t25.get (Int.toNat x.t27)).slot)).gd)
def kY (x:gI):aW gI:=(cond (decide (x.t27 < x.t26)) (cond ((decide ((0:Int)<=x.t27))&&(decide (x.t27 < ((x.t25.n:Nat):Int)))) (cond ((decide ((0:Int)<=(x.t25.get (Int.toNat x.t27)).slot))&&(decide ((x.t25.get (Int.toNat x.t27)).slot < ((x.s.nodes.n:Nat):Int)))) (cond ((x.s.nodes.get (Int.toNat (x.t25.get (Int.toNat x.t27)).slot)).kind==(2:Int)) (cond (x.w.e==(0:Int)) (cond (wA x).isSome (.next (⟨x.t5,x.t25,x.t26,(aR (x.t27+(1:Int))),x.s,x.t4,(⟨((wA x).getD default).fst,((wA x).getD default).snd⟩:xx)⟩:gI)) .fail) (.next (⟨x.t5,x.t25,x.t26,(aR (x.t27+(1:Int))),x.s,x.t4,x.w⟩:gI))) (.next (⟨x.t5,x.t25,x.t26,(aR (x.t27+(1:Int))),x.s,x.t4,x.w⟩:gI))) .fail) .fail) (.out (aB.ae.exit 0) x))
theorem TR (x:gI):ZQ (yj x) (yk x)=aW.enc yj yk (kY x):=by
 unfold kY
 try simp only [aW.cf]
 kernel_rfl
def Ad:Lp:=⟨13,122,Ni,fun vs rs=>dC yj yk (goN kY (KK vs rs)) [aB.ae.exit 0],false⟩
theorem ZR:Ad.Ok Tryz.prog:=b8 funcs mixed (ah.cons U6 (ah.cons R5 (ah.cons R3 ah.nil))) au.nil (L:=9) (n:=9) (step:=kY) (ev:=yj) (er:=yk) (pa:=KK) rfl (fun wv wr=>⟨by kernel_rfl,by kernel_rfl⟩) TR
theorem R9:bZ Tryz.prog Ad.f Ad.p=true:=by kernel_rfl
def U7:List (Nat×(List KV->KR KV)):=[(94,WZ),(44,R4),(20,R2)]
def U8:List Lp:=[Ad]
theorem aew:ah Tryz.prog U7:=(ah.cons U6 (ah.cons R5 (ah.cons R3 ah.nil)))
theorem aex:au Tryz.prog U8:=(au.cons ZR R9 au.nil)
def DL (s:aP) (p:Path):(Option (Prod Bool Int)):=(Cz s p)
def Jt (s:aP) (p:Path):(Option dm):=Gf
def yR (s:aP) (p:Path):(aW gI):=(goN kY (⟨(0:Int),p.nodes,((p.nodes.n:Nat):Int),(0:Int),s,(⟨(⟨(⟨(0:Int),(0:Int),(0:Int)⟩:az),(⟨(0:Int),(0:Int),(0:Int)⟩:az),(⟨(0:Int),(0:Int),(0:Int)⟩:az)⟩:bw),(⟨(0:Int),(0:Int),(0:Int)⟩:fO)⟩:dm),(⟨((Jt s p).getD default),(0:Int)⟩:xx)⟩:gI))
def Ae (s:aP) (p:Path):Option (dm×Int):=(cond (DL s p).isSome (cond (((DL s p).getD default).snd != (0:Int)) (some ((⟨(⟨(⟨(0:Int),(0:Int),(0:Int)⟩:az),(⟨(0:Int),(0:Int),(0:Int)⟩:az),(⟨(0:Int),(0:Int),(0:Int)⟩:az)⟩:bw),(⟨(0:Int),(0:Int),(0:Int)⟩:fO)⟩:dm),((DL s p).getD default).snd)) (cond (Jt s p).isSome (cond ((yR s p).by (aB.ae.exit 0)) (cond ((yR s p).st.w.e != (0:Int)) (some ((⟨(⟨(⟨(0:Int),(0:Int),(0:Int)⟩:az),(⟨(0:Int),(0:Int),(0:Int)⟩:az),(⟨(0:Int),(0:Int),(0:Int)⟩:az)⟩:bw),(⟨(0:Int),(0:Int),(0:Int)⟩:fO)⟩:dm),(yR s p).st.w.e)) (some ((yR s p).st.w.m,(0:Int)))) none) none)) none)
theorem aia (s:aP) (p:Path):cD Tryz.prog (bp Tryz.prog U7 U8 (fun q=>Nat.beq q 3)) 9 9 13 [dx s,sB p] = (Ae s p).map (fun (r:dm×Int)=>KV.na [mu r.1,(kI .i64) r.2]):=by
 unfold Ae
 try simp only [bq]
 kernel_rfl
def ZS:List KV->KR KV:=bI Tryz.prog 13 (bL (fun (r:dm×Int)=>KV.na [mu r.1,(kI .i64) r.2]) fun vs=>Ae (b6 (vs.getD 0 .ao)) (qR (vs.getD 1 .ao)))
theorem aey (w:Nat->KV):ck Tryz.prog [34,38] w 0 = [dx (b6 (ax Tryz.prog (ai Tryz.prog aj) 34 (w 0))),sB (qR (ax Tryz.prog (ai Tryz.prog aj) 38 (w 1)))]:=by kernel_rfl
theorem aez:bH Tryz.prog 13 ZS:=aL funcs mixed aew aex (L:=9) (n:=9) fun w=>by
 have e:aG Tryz.prog 13 = [34,38]:=by kernel_rfl
 rw [e,aey]
 exact (aia (b6 (ax Tryz.prog (ai Tryz.prog aj) 34 (w 0))) (qR (ax Tryz.prog (ai Tryz.prog aj) 38 (w 1)))).trans (by kernel_rfl)
end
end Go.Proofs.YtckbdndhmcoihaaGreat.b
end
