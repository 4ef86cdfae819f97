/- Part of the proof of WorldMat: the machine, shown to be the model's, and plain models. No conditions. -/
import Derived.Test.YtckbdndhmcoihaaGreatHp
import Derived.Test.YtckbdndhmcoihaaGreatGp
set_option linter.unusedSimpArgs false
set_option linter.unusedVariables false
section
set_option maxRecDepth 20000
namespace Go.Proofs.YtckbdndhmcoihaaGreat.nodes
open Go Go.RowKit Go.Lib Go.Shelf Go.K
def qOf (g:b.dG):G:=⟨none,0,0,none,g.kids.n,0,fun _=>none,fun i=>(g.kids.get i).n,fun _=>0,fun i k=>hp ((g.kids.get i).get k)⟩
theorem Of.reach {q:G} {g:b.dG} {B:Nat} {W:World} (h:Of q g B W) {to x:Int×Int} : Reach q to x↔Reach (qOf g) to x:=by
 constructor
 ·intro r
  induction r with
  | here=>exact .here
  | pP h' k hk _ ih=>
   rw [h.im] at hk;rw [h.pP] at ih;exact .pP (q:=qOf g) h' k hk ih
 ·intro r
  induction r with
  | here=>exact .here
  | pP h' k hk _ ih=>exact .pP h' k (by rw [h.im]; exact hk) (by rw [h.pP]; exact ih)
def ss (g:b.dG) (i:Nat):Prop:=(g.kids.get i).n<=16/\(0 < (g.kids.get i).n->(g.ca.bJ.get i).live=true)/\∀ k,k < (g.kids.get i).n->b.eG g.ca ((g.kids.get i).get k)=some true
def Je (g:b.dG) (i:Nat):Prop:=∀ k,k < (g.kids.get i).n->¬ Reach (qOf g) ((i:Int),(g.ca.bJ.get i).gen) (hp ((g.kids.get i).get k))
structure pn (g:b.dG):Prop where
 bJ:b.fB g.ca=some 0
 len:g.kids.n=g.ca.bJ.n
 row:∀ i,i < g.kids.n->ss g i
 free:∀ i,i < g.kids.n->Je g i
theorem aot {W W' : World} (h:Below W.heap.size W W') (mb:Nat):Kp mb W W':=⟨h.os,h.tape,h.output,h.size,fun k hk _=>h.block k hk⟩
theorem ap0 (a:b.jI) (h:b.Handle) {n:Int} (hn:b.fB a=some n):∃ r,b.eG a h=some r:=by
 unfold b.eG b.ve b.vf;rw [hn];simp only [fQ,ak,ee];cases n==0 with
 | false=>exact ⟨_,rfl⟩
 | true=>
  have:∃ r,b.nE a h=some r:=by
   unfold b.nE;by_cases h1:h.slot >= 0
   ·by_cases h2:h.slot < (a.bJ.n:Int)
    ·simp [h1,h2]
    ·simp [h1,h2]
   ·simp [h1]
  obtain ⟨r,hr⟩:=this;rw [hr];exact ⟨r,rfl⟩
theorem aml {a:b.jI} (hn:b.fB a=some 0):a.bJ.n<=128:=by
 unfold b.fB at hn;by_cases h:((a.bJ.n:Nat):Int) > 128
 ·rw [aq h,ak] at hn
  simp at hn
 ·omega
theorem at5 {a:b.jI} {h:b.Handle} (hn:b.eG a h=some true):0<=h.slot/\h.slot < (a.bJ.n:Int):=by
 unfold b.eG b.ve b.vf at hn;by_cases h1:h.slot >= 0
 ·by_cases h2:h.slot < (a.bJ.n:Int)
  ·exact ⟨h1,h2⟩
  ·exfalso
   revert hn
   cases (b.fB a).isSome with
   | false=>simp
   | true=>
    cases ((b.fB a).getD default==0) with
    | false=>simp
    | true=>simp [b.nE,h1,h2]
 ·exfalso
  revert hn
  cases (b.fB a).isSome with
  | false=>simp
  | true=>
   cases ((b.fB a).getD default==0) with
   | false=>simp
   | true=>simp [b.nE,h1]
set_option maxHeartbeats 8000000 in
theorem check {E:Env} {A:aw} {B:aB.St} {ρ:aB.Ren} {base:Nat} {w:World} (hj:KJ Tryz.prog E A B ρ base w) {g:b.dG} {q:G} (hg:ahE q w.heap.size w) (ho:Of q g w.heap.size w) (hx:VC Tryz.prog E ρ (b.jg g.ca) (.agg #[.slice q.sa q.sn q.sc])) {n:Int} (hn:b.fB g.ca=some n) :
  Calls Tryz.prog 73 #[gv q] w fun e w'=>∃ n,e = .returned (.int .i64 n)/\Below w.heap.size w w'/\(n=0/\pn g\/n=8/\¬ pn g):=by
 have mixed:=HG;have t46:=Tryz.underlying46; have a46:=Tryz.isAgg46; have z46:=Tryz.sizeOf46; have v46:=Tryz.zeroValue46; have u46:=run_underlying Tryz.underlying46;have t32:=Tryz.underlying32; have a32:=Tryz.isAgg32; have z32:=Tryz.sizeOf32; have v32:=Tryz.zeroValue32; have u32:=run_underlying Tryz.underlying32;have t27:=Tryz.underlying27; have a27:=Tryz.isAgg27; have z27:=Tryz.sizeOf27; have v27:=Tryz.zeroValue27; have u27:=run_underlying Tryz.underlying27;have t24:=Tryz.underlying24; have a24:=Tryz.isAgg24; have z24:=Tryz.sizeOf24; have v24:=Tryz.zeroValue24; have u24:=run_underlying Tryz.underlying24;have t22:=Tryz.underlying22; have a22:=Tryz.isAgg22; have z22:=Tryz.sizeOf22; have v22:=Tryz.zeroValue22; have u22:=run_underlying Tryz.underlying22;have t25:=Tryz.underlying25; have a25:=Tryz.isAgg25; have z25:=Tryz.sizeOf25; have v25:=Tryz.zeroValue25; have u25:=run_underlying Tryz.underlying25;have t35:=Tryz.underlying35; have a35:=Tryz.isAgg35; have z35:=Tryz.sizeOf35; have v35:=Tryz.zeroValue35; have u35:=run_underlying Tryz.underlying35;have t111:=Tryz.underlying111; have a111:=Tryz.isAgg111; have z111:=Tryz.sizeOf111; have v111:=Tryz.zeroValue111; have u111:=run_underlying Tryz.underlying111;have t202:=Tryz.underlying202; have arF:=Tryz.isAgg202; have arG:=Tryz.sizeOf202; have arH:=Tryz.zeroValue202; have RH:=run_underlying Tryz.underlying202;have t200:=Tryz.underlying200; have avf:=Tryz.isAgg200; have avg:=Tryz.sizeOf200; have avh:=Tryz.zeroValue200; have avi:=run_underlying Tryz.underlying200;have t3:=Tryz.underlying3; have a3:=Tryz.isAgg3; have z3:=Tryz.sizeOf3; have v3:=Tryz.zeroValue3; have u3:=run_underlying Tryz.underlying3;have t4:=Tryz.underlying4; have a4:=Tryz.isAgg4; have z4:=Tryz.sizeOf4; have v4:=Tryz.zeroValue4; have u4:=run_underlying Tryz.underlying4;have bg0:Below w.heap.size w (w.alloc (.cells #[.slice q.sa q.sn q.sc,.slice q.ka q.kn q.kc] 27)):=(Below.refl _ _).alloc (aU _) _;have hac:=aor hj bg0 hx hn;have cg0:(w.alloc (.cells #[.slice q.sa q.sn q.sc,.slice q.ka q.kn q.kc] 27)).cell? ⟨w.heap.size,0,none⟩=some (.slice q.sa q.sn q.sc):=by simp
 have cg1:(w.alloc (.cells #[.slice q.sa q.sn q.sc,.slice q.ka q.kn q.kc] 27)).cell? ⟨w.heap.size,1,none⟩=some (.slice q.ka q.kn q.kc):=by simp
 have sg:(w.alloc (.cells #[.slice q.sa q.sn q.sc,.slice q.ka q.kn q.kc] 27)).heap.size=w.heap.size+1:=by simp
 generalize hW1:w.alloc (.cells #[.slice q.sa q.sn q.sc,.slice q.ka q.kn q.kc] 27)=W1 at hac bg0 cg0 cg1 sg
 go_enter Tryz.func73,Tryz.ntmps73
 by_cases hn0:n=0
 ·subst hn0
  have hsm:q.sn<=128:=by rw [ho.sn]; exact aml hn
  by_cases hlen:q.kn=q.sn
  ·have aaN:((q.kn:Int)==(q.sn:Int))=true:=by rw [hlen]; exact beq_self_eq_true _
   have avR:((q.kn:Int) != (q.sn:Int))=false:=by rw [hlen]; exact bne_self_eq_false _
   have at6:q.kn<=q.sn/\q.sn<=q.kn:=by omega
   clear hlen
   go_wp2_with (go_at_call 120; refine hac.mono ?_; rintro e w2 ⟨rfl,hk⟩; have c0:=(hk.cell (p:=⟨w.heap.size,0,none⟩) (by show w.heap.size < _; omega)).trans cg0; have c1:=(hk.cell (p:=⟨w.heap.size,1,none⟩) (by show w.heap.size < _; omega)).trans cg1)
   have bW:Below W1.heap.size W1 w2:=hk
   go_wp2
   go_loopg [27] q.kn (fun gg s27 wr=>∃ kk:Nat,kk<=q.kn/\q.kn - kk<=gg/\s27 = .int .i64 kk/\Aside (Below W1.heap.size W1 wr/\∀ i,i < kk->ss g i))
   case atStart=>exact ⟨0,E9 _,by omega,rfl,bW,fun i hi=>absurd hi (o8 _)⟩
   case round=>
    obtain ⟨kk,hkk,hgg,rfl,BW⟩:=hrel;clear aaN avR;by_cases bG:kk < q.kn
    ·have at3:(kk:Int) < (q.kn:Int):=by omega
     have hltz2:(kk:Int) < (q.sn:Int):=by omega
     have BWw:Below w.heap.size w wr:=bg0.trans (BW.out.1.mono (by omega));have AW:=hg.ik (aot BWw w.heap.size) (aU _) (aU _);have hoo:=ho.ik (aot BWw w.heap.size) (aU _) (aU _);have e0:=(BW.out.1.cell (p:=⟨w.heap.size,0,none⟩) (by show w.heap.size < _; omega)).trans cg0;have e1:=(BW.out.1.cell (p:=⟨w.heap.size,1,none⟩) (by show w.heap.size < _; omega)).trans cg1;obtain ⟨bk,ok,hka,hbk,hQ⟩:=AW.kids kk bG;obtain ⟨bl,ol,hsa,hbl,avl,at7⟩:=hoo.slot kk (by omega);have him:q.im kk<=(g.kids.get kk).n/\(g.kids.get kk).n<=q.im kk:=by rw [ho.im]; exact ⟨aU _,aU _⟩
     have RI:q.im kk<=16->∀ V,Below W1.heap.size W1 V->Calls Tryz.prog 122 #[.slice (q.ia kk) (q.im kk) (q.ic kk),.func (.func 121) #[] #[.pointer (some ⟨w.heap.size,0,none⟩)]] V fun e W'=>∃ r,e = .returned (.bool r)/\Below W1.heap.size W1 W'/\(r=true/\¬ ss g kk\/r=false/\∀ k,k < q.im kk->b.eG g.ca ((g.kids.get kk).get k)=some true):=by
      intro h16 V hV;refine (WC 121 #[.pointer (some ⟨w.heap.size,0,none⟩)] (enters_of Tryz.func121 (by kernel_rfl) rfl) (q.ia kk) (q.im kk) (q.ic kk) (q.pP kk)
       (fun j W'=>Below W1.heap.size W1 W'/\∀ k,k < j->b.eG g.ca ((g.kids.get kk).get k)=some true)
       (fun W'=>Below W1.heap.size W1 W'/\¬ ss g kk) (by omega) (fun W' j BQ hI=>?_) (fun j W' BQ hI=>?_) V ⟨hV,fun k hk=>absurd hk (o8 _)⟩).mono ?_
      ·have BW' : Below w.heap.size w W':=bg0.trans (hI.1.mono (by omega))
       obtain ⟨bb,off,r1,_,r2,r3⟩:=(hg.ik (aot BW' w.heap.size) (aU _) (aU _)).row kk bG j BQ;exact ⟨bb,off,r1,r2,r3⟩
      ·have BW' : Below w.heap.size w W':=bg0.trans (hI.1.mono (by omega))
       obtain ⟨r,hr⟩:=ap0 g.ca ((g.kids.get kk).get j) hn;have aou:=ho.pP kk j;refine (rV hj BW' hx (q.pP kk j) (r:=r) (by rw [aou]; exact hr) (bg:=w.heap.size) (by have:=hI.1.size; omega) ((hI.1.cell (p:=⟨w.heap.size,0,none⟩) (by show w.heap.size < _; omega)).trans cg0)).mono ?_;rintro e W2 ⟨rfl,hb⟩;have hb' : Below W1.heap.size W1 W2:=hI.1.trans (hb.mono hI.1.size);cases r with
       | true=>
        refine .inr ⟨rfl,hb',fun k hk=>?_⟩;by_cases ek:k=j
        ·subst ek; exact hr
        ·exact hI.2 k (by omega)
       | false=>exact .inl ⟨rfl,hb',fun h=>by have:=h.2.2 j (by omega); rw [hr] at this; simp at this⟩
      ·rintro e W' ⟨r,rfl,⟨rfl,h1⟩ | ⟨rfl,h1⟩⟩
       ·exact ⟨true,rfl,h1.1,.inl ⟨rfl,h1.2⟩⟩
       ·exact ⟨false,rfl,h1.1,.inr ⟨rfl,h1.2⟩⟩
     have eg:∀ args w,(callFunc 122 args).run Tryz.prog w = .ok (.enter 122 args) w:=enters_of Tryz.func122 (by kernel_rfl) rfl;have arJ:∀ W',Below W1.heap.size W1 W'->¬ ss g kk->∃ n,Ending.returned (.int .i64 8) = .returned (.int .i64 n)/\Below w.heap.size w W'/\(n=0/\pn g\/n=8/\¬ pn g):=fun W' hb hr=>
      ⟨8,rfl,bg0.trans (hb.mono (by omega)),.inr ⟨rfl,fun h=>hr (h.row kk (by rw [<- ho.kn]; exact bG))⟩⟩
     have hBW:=BW.out;have awT:∀ W',Below W1.heap.size W1 W'->ss g kk->Below W1.heap.size W1 W'/\∀ i,i < kk+1->ss g i:=fun W' hb hr=>⟨hb,fun i hi=>by
      by_cases e:i=kk
      ·subst e; exact hr
      ·exact hBW.2 i (by omega)⟩
     clear hg ho hj hac BW;generalize hlv:(g.ca.bJ.get kk).live=lv at at7;by_cases h16:q.im kk<=16
     ·have awU : ¬ (q.im kk:Int) > 16:=by omega
      have at8:=RI h16;have at9:=at8 wr hBW.1;clear RI at8;have agl:∀ W' r,Below W1.heap.size W1 W'->(r=true/\¬ ss g kk\/r=false/\∀ k,k < q.im kk->b.eG g.ca ((g.kids.get kk).get k)=some true)->(0 < q.im kk->lv=true)->r=true/\(Below W1.heap.size W1 W'/\¬ ss g kk)\/r=false/\(Below W1.heap.size W1 W'/\∀ i,i < kk+1->ss g i):=by
       rintro W' r hb (⟨rfl,hr⟩ | ⟨rfl,hr⟩) hl
       ·exact .inl ⟨rfl,hb,hr⟩
       ·exact .inr ⟨rfl,awT _ hb ⟨by omega,fun D3=>by rw [hlv]; exact hl (by omega),fun k hk=>hr k (by omega)⟩⟩
      by_cases h0:0 < q.im kk
      ·have h0z:(q.im kk:Int) > 0:=by omega
       cases lv with
       | true=>
        go_wp2_with (go_at_call 122; refine at9.mono ?_; rintro e w3 ⟨r,rfl,hb,hr⟩; rcases agl _ _ hb hr (fun _=>rfl) with ⟨rfl,hd⟩ | ⟨rfl,hd⟩)
        ·go_wp2
         go_ret
         exact arJ _ hd.1 hd.2
        ·go_wp2
         simp only [<- hka,<- hsa]
         go_roundg (q.kn - (kk+1))
         case measure=>omega
         case rel=>exact ⟨kk+1,by omega,by omega,by go_num,hd⟩
       | false=>
        go_wp2
        go_ret
        exact arJ _ hBW.1 fun h=>by have:=h.2.1 (by omega); rw [hlv] at this; simp at this
      ·have h0z : ¬ (q.im kk:Int) > 0:=by omega
       go_wp2_with (go_at_call 122; refine at9.mono ?_; rintro e w3 ⟨r,rfl,hb,hr⟩; rcases agl _ _ hb hr (fun h=>absurd h h0) with ⟨rfl,hd⟩ | ⟨rfl,hd⟩)
       ·go_wp2
        go_ret
        exact arJ _ hd.1 hd.2
       ·go_wp2
        simp only [<- hka,<- hsa]
        go_roundg (q.kn - (kk+1))
        case measure=>omega
        case rel=>exact ⟨kk+1,by omega,by omega,by go_num,hd⟩
     ·have awU:(q.im kk:Int) > 16:=by omega
      go_wp2
      go_ret
      exact arJ _ hBW.1 fun h=>h16 (by have:=h.1; omega)
    ·rename World=>V0
     have at3 : ¬ (kk:Int) < (q.kn:Int):=by omega
     have mj:∀ i,i < q.kn->ss g i:=fun i hi=>BW.out.2 i (by omega);have hB1:=BW.out.1;have BWw:Below w.heap.size w V0:=bg0.trans (hB1.mono (by omega));have AW:=(hg.ik (aot BWw w.heap.size) (aU _) (aU _)).with fun i hi=>by have:=(mj i hi).1; rw [ho.im]; omega
     have hoo:=ho.ik (aot BWw w.heap.size) (aU _) (aU _);have e0:=(hB1.cell (p:=⟨w.heap.size,0,none⟩) (by show w.heap.size < _; omega)).trans cg0;have e1:=(hB1.cell (p:=⟨w.heap.size,1,none⟩) (by show w.heap.size < _; omega)).trans cg1;have XV:=run_make;have sW:w.heap.size < V0.heap.size:=by have:=hB1.size; omega
     have K2:∀ mb,Kp mb V0 ((V0.alloc (.map #[] 0)).alloc (.cells #[.map (some V0.heap.size)] 202)):=fun mb=>(Kp.alloc V0 _).trans (Kp.alloc _ _);have hM2:MapAt V0.heap.size ((V0.alloc (.map #[] 0)).alloc (.cells #[.map (some V0.heap.size)] 202)) []:=⟨#[],0,by rw [Below.heap_alloc _ _ _ (by simp)]; exact Kw _ _ _ rfl,abq⟩
     have lA:((V0.alloc (.map #[] 0)).alloc (.cells #[.map (some V0.heap.size)] 202)).cell? ⟨V0.heap.size+1,0,none⟩=some (.map (some V0.heap.size)):=by
      rw [Cb (Kw _ _ _ (by simp))]; rfl
     have Il:((V0.alloc (.map #[] 0)).alloc (.cells #[.map (some V0.heap.size)] 202)).heap.size=V0.heap.size+2:=by simp
     have f0:=((K2 V0.heap.size).cell (b:=w.heap.size) (j:=0) sW (by omega)).trans e0;have f1:=((K2 V0.heap.size).cell (b:=w.heap.size) (j:=1) sW (by omega)).trans e1;generalize hW2:(V0.alloc (.map #[] 0)).alloc (.cells #[.map (some V0.heap.size)] 202)=W2 at K2 hM2 lA Il f0 f1;have Ta:=AW.ik (K2 V0.heap.size) (Nat.le_of_lt sW) (Nat.le_of_lt sW);have ho2:=hoo.ik (K2 V0.heap.size) (Nat.le_of_lt sW) (Nat.le_of_lt sW);have avm:∀ W',Kp V0.heap.size W2 W'->Below w.heap.size w W':=fun W' k=>BWw.trans (((K2 V0.heap.size).trans k).below (Nat.le_of_lt sW) (Nat.le_of_lt sW));clear hac hg AW ho hoo BW
     go_wp2
     go_loopg [61] q.kn (fun gg s61 wr2=>∃ jj:Nat,jj<=q.kn/\q.kn - jj<=gg/\s61 = .int .i64 jj/\Aside (Kp V0.heap.size W2 wr2/\(∃ S,MapAt V0.heap.size wr2 S)/\∀ i,i < jj->Je g i))
     case atStart=>exact ⟨0,E9 _,by omega,rfl,Kp.refl _ _,⟨_,hM2⟩,fun i hi=>absurd hi (o8 _)⟩
     case round=>
      obtain ⟨jj,hjj,hgg2,rfl,BJ⟩:=hrel;obtain ⟨kj,⟨S0,es0,adf,hm0,_⟩,ahF⟩:=BJ.out;clear BJ;by_cases aov:jj < q.kn
      ·have hjz:(jj:Int) < (q.kn:Int):=by omega
       have hjz2:(jj:Int) < (q.sn:Int):=by omega
       have hgj:=Ta.ik kj (by omega) (by omega);have hoj:=ho2.ik kj (by omega) (by omega);have sj:=kj.size;have j0:=(kj.cell (b:=w.heap.size) (j:=0) (by omega) (by omega)).trans f0;have j1:=(kj.cell (b:=w.heap.size) (j:=1) (by omega) (by omega)).trans f1;have js:=(kj.cell (b:=V0.heap.size+1) (j:=0) (by omega) (by omega)).trans lA;obtain ⟨bk,ok,hka,hbk,hQ⟩:=hgj.kids jj aov;obtain ⟨bl,ol,hsa,hbl,avl,at7⟩:=hoj.slot jj (by omega);have aou:=hoj.pP jj;have him:q.im jj<=(g.kids.get jj).n/\(g.kids.get jj).n<=q.im jj:=by rw [hoj.im]; exact ⟨aU _,aU _⟩
       generalize ap1:(g.ca.bJ.get jj).gen=gj at avl;have KA:=Kp.alloc (mb:=V0.heap.size) wr (.cells #[.int .i64 jj,.int .i64 gj] 32);have hmA:(wr.alloc (.cells #[.int .i64 jj,.int .i64 gj] 32)).heap[V0.heap.size]? = some (.map es0 adf):=by rw [Below.heap_alloc _ _ _ (by omega)]; exact hm0
       have awV:=apZ hmA;have KP:=Kp.put (mb:=V0.heap.size) (wr.alloc (.cells #[.int .i64 jj,.int .i64 gj] 32)) (.map #[] adf);have jA:=(KA.cell (b:=V0.heap.size+1) (j:=0) (by omega) (by omega)).trans js;have K4:=KA.trans KP;have hM4:MapAt V0.heap.size (put (wr.alloc (.cells #[.int .i64 jj,.int .i64 gj] 32)) V0.heap.size (.map #[] adf)) []:=⟨#[],adf,ae2 hmA,abq⟩
       have js4:=(KP.cell (b:=V0.heap.size+1) (j:=0) (by have:=KA.size; omega) (by omega)).trans jA;have jt0:(put (wr.alloc (.cells #[.int .i64 jj,.int .i64 gj] 32)) V0.heap.size (.map #[] adf)).cell? ⟨wr.heap.size,0,none⟩=some (.int .i64 jj):=by
        rw [KP.cell (by simp) (by omega)]; simp
       have jt1:(put (wr.alloc (.cells #[.int .i64 jj,.int .i64 gj] 32)) V0.heap.size (.map #[] adf)).cell? ⟨wr.heap.size,1,none⟩=some (.int .i64 gj):=by
        rw [KP.cell (by simp) (by omega)]; simp
       have hz4:wr.heap.size < (put (wr.alloc (.cells #[.int .i64 jj,.int .i64 gj] 32)) V0.heap.size (.map #[] adf)).heap.size:=by rw [abr]; simp
       generalize hW4:put (wr.alloc (.cells #[.int .i64 jj,.int .i64 gj] 32)) V0.heap.size (.map #[] adf)=W4 at awV KP K4 hM4 js4 jt0 jt1 hz4;have hU:∀ u∈(List.range q.kn).flatMap (fun i=>(List.range (q.im i)).map fun k=>q.pP i k),(0<=u.1/\u.1 < (q.kn:Int))/\∀ k,k < q.im u.1.toNat->q.pP u.1.toNat k∈(List.range q.kn).flatMap (fun i=>(List.range (q.im i)).map fun k=>q.pP i k):=by
        intro u hu;obtain ⟨i,hi,hu⟩:=List.mem_flatMap.1 hu;obtain ⟨k,hk,rfl⟩:=List.mem_map.1 hu;rw [Nu] at hi hk;have hr:=at5 ((mj i hi).2.2 k (by rw [<- hoj.im]; exact hk));rw [<- hoj.sn] at hr;have hh:0<=(q.pP i k).1/\(q.pP i k).1 < (q.kn:Int):=by rw [hoj.pP]; exact ⟨hr.1,by have:=hr.2; show ((g.kids.get i).get k).slot < _; omega⟩
        exact ⟨hh,fun k' yq=>List.mem_flatMap.2 ⟨(q.pP i k).1.toNat,Nu.2 (by omega),List.mem_map.2 ⟨k',Nu.2 yq,rfl⟩⟩⟩
       have RI:Calls Tryz.prog 122 #[.slice (q.ia jj) (q.im jj) (q.ic jj),.func (.func 123) #[] #[.pointer (some ⟨w.heap.size,0,none⟩),.pointer (some ⟨V0.heap.size+1,0,none⟩),.pointer (some ⟨wr.heap.size,0,none⟩)]] W4 fun e W'=>∃ r,e = .returned (.bool r)/\Kp V0.heap.size W4 W'/\(∃ S,MapAt V0.heap.size W' S)/\(r=true/\¬ Je g jj\/r=false/\Je g jj):=by
        refine (WC 123 #[.pointer (some ⟨w.heap.size,0,none⟩),.pointer (some ⟨V0.heap.size+1,0,none⟩),.pointer (some ⟨wr.heap.size,0,none⟩)] (enters_of Tryz.func123 (by kernel_rfl) rfl) (q.ia jj) (q.im jj) (q.ic jj) (q.pP jj)
         (fun j W'=>Kp V0.heap.size W4 W'/\∃ S,MapAt V0.heap.size W' S/\((jj:Int),gj) ∉ S/\(∀ x∈S,∀ k,k < q.im x.1.toNat->q.pP x.1.toNat k∈S)/\∀ k,k < j->q.pP jj k∈S)
         (fun W'=>Kp V0.heap.size W4 W'/\(∃ S,MapAt V0.heap.size W' S)/\¬ Je g jj) (Ta.small jj aov) (fun W' j BQ hI=>?_) (fun j W' BQ hI=>?_) W4 ⟨Kp.refl _ _,[],hM4,by simp,by simp,fun k hk=>absurd hk (o8 _)⟩).mono ?_
        ·obtain ⟨bb,off,r1,_,r2,r3⟩:=(hgj.ik (K4.trans hI.1) (by omega) (by omega)).row jj aov j BQ
         exact ⟨bb,off,r1,r2,r3⟩
        ·obtain ⟨CF,S,hS,hn1,hcl,ug⟩:=hI
         have kk4:=K4.trans CF;have fZ:=CF.size;refine (under q w.heap.size V0.heap.size (q.pP jj j) ((jj:Int),gj) _ hU S W' (List.mem_flatMap.2 ⟨jj,Nu.2 aov,List.mem_map.2 ⟨j,Nu.2 BQ,rfl⟩⟩) (hgj.ik kk4 (by omega) (by omega)) (by omega) (by omega) hS hn1
          (bg:=w.heap.size) (bs:=V0.heap.size+1) (bt:=wr.heap.size) (by omega) (by omega) (by omega)
          ((kk4.cell (b:=w.heap.size) (j:=0) (by omega) (by omega)).trans j0) ((kk4.cell (b:=w.heap.size) (j:=1) (by omega) (by omega)).trans j1) ((CF.cell (b:=V0.heap.size+1) (j:=0) (by omega) (by omega)).trans js4)
          ((CF.cell (b:=wr.heap.size) (j:=0) hz4 (by omega)).trans jt0) ((CF.cell (b:=wr.heap.size) (j:=1) hz4 (by omega)).trans jt1)).mono ?_
         rintro e W5 ⟨S',r,rfl,m5,k5,⟨rfl,hr⟩ | ⟨rfl,Ht,hn5⟩⟩
         ·refine .inl ⟨rfl,CF.trans k5,⟨S',m5⟩,fun hf=>hf j (by omega) ?_⟩
          rw [ap1,<- aou j];exact hoj.reach.1 hr
         ·refine .inr ⟨rfl,CF.trans k5,S',m5,hn5,Ht.closed hcl,fun k hk=>?_⟩
          by_cases ek:k=j
          ·subst ek; exact Ht.is
          ·exact Ht.sub _ (ug k (by omega))
        ·rintro e W' ⟨r,rfl,⟨rfl,h1⟩ | ⟨rfl,h1,S,h2,h3,h4,h5⟩⟩
         ·exact ⟨true,rfl,h1.1,h1.2.1,.inl ⟨rfl,h1.2.2⟩⟩
         ·refine ⟨false,rfl,h1,⟨S,h2⟩,.inr ⟨rfl,fun k hk hr=>?_⟩⟩
          rw [ap1,<- aou k] at hr;exact RJ h4 h3 (hoj.reach.2 hr) (h5 k (by omega))
       have avS:∀ W',Kp V0.heap.size W4 W'->¬ Je g jj->∃ n,Ending.returned (.int .i64 8) = .returned (.int .i64 n)/\Below w.heap.size w W'/\(n=0/\pn g\/n=8/\¬ pn g):=fun W' hk hf=>
        ⟨8,rfl,avm _ (kj.trans (K4.trans hk)),.inr ⟨rfl,fun h=>hf (h.free jj (by rw [<- hoj.kn]; exact aov))⟩⟩
       have j7:∀ W',Kp V0.heap.size W4 W'->(∃ S,MapAt V0.heap.size W' S)->Je g jj->Kp V0.heap.size W2 W'/\(∃ S,MapAt V0.heap.size W' S)/\∀ i,i < jj+1->Je g i:=fun W' hk hm hf=>⟨kj.trans (K4.trans hk),hm,fun i hi=>by
        by_cases e:i=jj
        ·subst e; exact hf
        ·exact ahF i (by omega)⟩
       clear hU aou Ta ho2 hgj hoj mj hW2 ap1 ahF hm0
       go_wp2_with (go_at_call 122; go_loud (refine RI.mono ?_; rintro e w3 ⟨r,rfl,hb,hm,⟨rfl,hr⟩ | ⟨rfl,hr⟩⟩))
       ·go_wp2
        go_ret
        exact avS _ hb hr
       ·go_wp2
        simp only [<- hka,<- hsa]
        go_roundg (q.kn - (jj+1))
        case measure=>omega
        case rel=>exact ⟨jj+1,by omega,by omega,by go_num,j7 _ hb hm hr⟩
      ·have hjz : ¬ (jj:Int) < (q.kn:Int):=by omega
       have hf:pn g:=⟨hn,by rw [<- ho2.kn,<- ho2.sn]; omega,fun i hi=>mj i (by rw [ho2.kn]; exact hi),fun i hi=>ahF i (by have:=ho2.kn; omega)⟩
       have hb:=avm _ kj;have VM:∀ W',Below w.heap.size w W'->∃ n,Ending.returned (.int .i64 0) = .returned (.int .i64 n)/\Below w.heap.size w W'/\(n=0/\pn g\/n=8/\¬ pn g):=fun W' hb=>⟨0,rfl,hb,.inl ⟨rfl,hf⟩⟩
       clear hm0 Ta ho2 mj
       go_wp2
       go_ret
       first | exact VM _ hb | exact ⟨rfl,hb⟩
  ·have aaN:((q.kn:Int)==(q.sn:Int))=false:=beq_eq_false_iff_ne.2 fun h=>hlen (by exact_mod_cast h)
   have hlen3 : ¬ (q.kn:Int)=(q.sn:Int):=fun h=>hlen (by exact_mod_cast h)
   go_wp2_with (go_at_call 120; refine hac.mono ?_; rintro e w2 ⟨rfl,hk⟩; have c0:=(hk.cell (p:=⟨w.heap.size,0,none⟩) (by show w.heap.size < _; omega)).trans cg0; have c1:=(hk.cell (p:=⟨w.heap.size,1,none⟩) (by show w.heap.size < _; omega)).trans cg1)
   go_wp2
   go_ret
   exact ⟨8,rfl,bg0.trans (hk.mono (by omega)),.inr ⟨rfl,fun h=>hlen (by rw [ho.kn,ho.sn,h.len])⟩⟩
 ·have hn0' : (n==0)=false:=by simpa using hn0
  go_wp2_with (go_at_call 120; refine hac.mono ?_; rintro e w2 ⟨rfl,hk⟩)
  go_wp2
  go_ret
  exact ⟨8,rfl,bg0.trans (hk.mono (by omega)),.inr ⟨rfl,fun h=>by rw [h.bJ] at hn; simp only [di] at hn; omega⟩⟩
end Go.Proofs.YtckbdndhmcoihaaGreat.nodes
end
section
namespace Go.Proofs.YtckbdndhmcoihaaGreat.nodes
open Go Go.RowKit Go.K
open Classical in
noncomputable def Ga (g:b.dG):Option Int:=(b.fB g.ca).map fun _=>if pn g then 0 else 8
noncomputable def aow:List KV->KR KV:=bI Tryz.prog 73 (bL (kI .i64) fun vs=>Ga (b.jE (vs.getD 0 .ao)))
theorem call73:Cn Tryz.prog 73:=by
 refine ⟨by kernel_rfl,_,Tryz.func73,rfl,by kernel_rfl⟩
theorem aox:bH Tryz.prog 73 aow:=by
 refine aoe call73 fun args v E A B ρ base w ib hF hlen hv hj=>?_;have ep:aG Tryz.prog 73 = [27]:=by kernel_rfl
 unfold aow bI at hF;obtain ⟨hb,hF⟩:=bf.cond hF;obtain ⟨ww,hw⟩:=Ov 0 hb;have Ij:ui Tryz.prog E ρ (normArgs Tryz.prog (aG Tryz.prog 73) args) ib:=by
  obtain ⟨m,h1,h2⟩:=hv;exact ⟨m,bC.Q1 (.of rfl) h1 hlen,h2⟩
 rw [hw,ep,b.Ps] at hF Ij;generalize b.jE (ax Tryz.prog (ai Tryz.prog aj) 27 (ww 0))=g at hF Ij;obtain ⟨u,us,rfl,hu,Qr⟩:=Ij.Zk;obtain rfl:=Qr.amk;obtain ⟨q,rfl,hg,ho,hx⟩:=asu hj hu;unfold bL at hF;obtain ⟨h1,h2⟩:=bf.lQ hF;have h1:(Ga g).isSome=true:=h1;have h2:kI .i64 ((Ga g).getD default)=v:=h2;cases hn:b.fB g.ca with
 | none=>simp [Ga,hn] at h1
 | some n=>
  refine (check hj hg ho hx hn).mono ?_;rintro e w' ⟨m,rfl,hb,hm⟩;refine ⟨.int .i64 m,rfl,?_,hb⟩;have:v=kI .i64 m:=by
   rw [<- h2];simp only [Ga,hn,Option.map_some,ee];rcases hm with ⟨rfl,h⟩ | ⟨rfl,h⟩
   ·rw [aY h]
   ·rw [av h]
  rw [this];exact ⟨_,.mkInt,by simp [aB.VR]⟩
end Go.Proofs.YtckbdndhmcoihaaGreat.nodes
end
section
namespace Go.Proofs.YtckbdndhmcoihaaGreat.b
open Go.K
noncomputable section
def Jf (g:dG):Option Int:=nodes.Ga g
def yR:List KV->KR KV:=bI Tryz.prog 73 (bL (kI .i64) fun vs=>Jf (jE (vs.getD 0 .ao)))
theorem yg:bH Tryz.prog 73 yR:=nodes.aox
def PF:List (Nat×(List KV->KR KV)):=[]
def PG:List Lp:=[]
theorem Zl:ah Tryz.prog PF:=ah.nil
theorem Zm:au Tryz.prog PG:=au.nil
def vw (n:Int) (cA:Int):Option (Bool):=(cond (decide (n >= (aR ((0:Int) - cA)))) (some ((decide (n<=cA)))) (some (false)))
theorem abv (n:Int) (cA:Int):cD Tryz.prog (bp Tryz.prog PF PG (fun q=>Nat.beq q 3)) 9 9 114 [(kI .i64) n,(kI .i64) cA] = (vw n cA).map kB:=by
 unfold vw
 try simp only [bq]
 kernel_rfl
def RK:List KV->KR KV:=bI Tryz.prog 114 (bL kB fun vs=>vw (ay (vs.getD 0 .ao)) (ay (vs.getD 1 .ao)))
theorem Zn (w:Nat->KV):ck Tryz.prog [3,3] w 0 = [(kI .i64) (ay (ax Tryz.prog (ai Tryz.prog aj) 3 (w 0))),(kI .i64) (ay (ax Tryz.prog (ai Tryz.prog aj) 3 (w 1)))]:=by kernel_rfl
theorem Zo:bH Tryz.prog 114 RK:=aL funcs mixed Zl Zm (L:=9) (n:=9) fun w=>by
 have e:aG Tryz.prog 114 = [3,3]:=by kernel_rfl
 rw [e,Zn]
 exact (abv (ay (ax Tryz.prog (ai Tryz.prog aj) 3 (w 0))) (ay (ax Tryz.prog (ai Tryz.prog aj) 3 (w 1)))).trans (by kernel_rfl)
def Kx:List (Nat×(List KV->KR KV)):=[(114,RK)]
def Ky:List Lp:=[]
theorem TD:ah Tryz.prog Kx:=(ah.cons Zo ah.nil)
theorem TE:au Tryz.prog Ky:=au.nil
def Jg (v:fO):(Option Bool):=(vw v.x (1024:Int))
def Jh (v:fO):(Option Bool):=(vw v.y (1024:Int))
def Ji (v:fO):(Option Bool):=(vw v.z (1024:Int))
def ET (v:fO):Option (Bool):=(cond (Jg v).isSome (cond (!((Jg v).getD default)) (some (true)) (cond (Jh v).isSome (cond (!((Jh v).getD default)) (some (true)) (cond (Ji v).isSome (some ((!((Ji v).getD default)))) none)) none)) none)
theorem WG (v:fO):cD Tryz.prog (bp Tryz.prog Kx Ky (fun q=>Nat.beq q 3)) 9 9 113 [mu v] = (ET v).map kB:=by
 unfold ET
 try simp only [bq]
 kernel_rfl
def zV:List KV->KR KV:=bI Tryz.prog 113 (bL kB fun vs=>ET (kM (vs.getD 0 .ao)))
theorem TF (w:Nat->KV):ck Tryz.prog [43] w 0 = [mu (kM (ax Tryz.prog (ai Tryz.prog aj) 43 (w 0)))]:=by kernel_rfl
theorem AE:bH Tryz.prog 113 zV:=aL funcs mixed TD TE (L:=9) (n:=9) fun w=>by
 have e:aG Tryz.prog 113 = [43]:=by kernel_rfl
 rw [e,TF]
 exact (WG (kM (ax Tryz.prog (ai Tryz.prog aj) 43 (w 0)))).trans (by kernel_rfl)
def Kz:List (Nat×(List KV->KR KV)):=[]
def KB:List Lp:=[]
theorem TG:ah Tryz.prog Kz:=ah.nil
theorem TH:au Tryz.prog KB:=au.nil
def EU (p:ru):Option (Bool):=(cond (decide (p.e0 < (0:Int))) (some (true)) (cond (decide (p.e0 > (255:Int))) (some (true)) (cond (decide (p.e1 < (0:Int))) (some (true)) (some ((decide (p.e1 > (255:Int))))))))
theorem WH (p:ru):cD Tryz.prog (bp Tryz.prog Kz KB (fun q=>Nat.beq q 3)) 9 9 115 [nZ p] = (EU p).map kB:=by
 unfold EU
 try simp only [bq]
 kernel_rfl
def zW:List KV->KR KV:=bI Tryz.prog 115 (bL kB fun vs=>EU (jX (vs.getD 0 .ao)))
theorem TI (w:Nat->KV):ck Tryz.prog [185] w 0 = [nZ (jX (ax Tryz.prog (ai Tryz.prog aj) 185 (w 0)))]:=by kernel_rfl
theorem AG:bH Tryz.prog 115 zW:=aL funcs mixed TG TH (L:=9) (n:=9) fun w=>by
 have e:aG Tryz.prog 115 = [185]:=by kernel_rfl
 rw [e,TI]
 exact (WH (jX (ax Tryz.prog (ai Tryz.prog aj) 185 (w 0)))).trans (by kernel_rfl)
def UO:List (Nat×(List KV->KR KV)):=[]
def UQ:List Lp:=[]
theorem ad3:ah Tryz.prog UO:=ah.nil
theorem ad4:au Tryz.prog UQ:=au.nil
def zX (p:Prim):Option (Bool):=(cond (p.kind==(0:Int)) (some (((Int.tmod ((p.index.n:Nat):Int) (3:Int))==(0:Int)))) (cond (p.kind==(1:Int)) (cond (((p.index.n:Nat):Int)==(0:Int)) (some (true)) (some ((decide (((p.index.n:Nat):Int) >= (3:Int)))))) (cond (p.kind==(2:Int)) (cond (((p.index.n:Nat):Int)==(0:Int)) (some (true)) (some ((decide (((p.index.n:Nat):Int) >= (3:Int)))))) (some (false)))))
theorem ahG (p:Prim):cD Tryz.prog (bp Tryz.prog UO UQ (fun q=>Nat.beq q 3)) 9 9 209 [rv p] = (zX p).map kB:=by
 unfold zX
 try simp only [bq]
 kernel_rfl
def OS:List KV->KR KV:=bI Tryz.prog 209 (bL kB fun vs=>zX (lM (vs.getD 0 .ao)))
theorem ad5 (w:Nat->KV):ck Tryz.prog [172] w 0 = [rv (lM (ax Tryz.prog (ai Tryz.prog aj) 172 (w 0)))]:=by kernel_rfl
theorem PH:bH Tryz.prog 209 OS:=aL funcs mixed ad3 ad4 (L:=9) (n:=9) fun w=>by
 have e:aG Tryz.prog 209 = [172]:=by kernel_rfl
 rw [e,ad5]
 exact (ahG (lM (ax Tryz.prog (ai Tryz.prog aj) 172 (w 0)))).trans (by kernel_rfl)
structure cr where
 t2:(Sl az)
 t3:Int
 out:(Sl az)
 l:(Sl Int)
 i:Int
 p:Prim
instance:Inhabited cr:=⟨by constructor<;>exact default⟩
def yh (x:cr):List KV:=[eA 40 df x.t2,.int .i64 x.t3,eA 40 df x.out,eA 3 (kI .i64) x.l,.int .i64 x.i]
def yi (x:cr):List (List KV):=[ag0 x.p]
def KC (vs:List KV) (rs:List (List KV)):cr:=⟨dP dv (vs.getD 0 .ao),ay (vs.getD 1 .ao),dP dv (vs.getD 2 .ao),dP ay (vs.getD 3 .ao),ay (vs.getD 4 .ao),ag1 (fun k=>(rs.getD 0 []).getD k .ao)⟩
def M8:aV:=⟨[(2,⟨false,[.k (.slice 40)]⟩),(3,⟨false,[.k (.int .i64)]⟩),(4,⟨false,[.bA 40]⟩),(5,⟨false,[.k (.slice 3)]⟩),(6,⟨false,[.k (.int .i64)]⟩)],[(1,[.k (.int .u8),.k (.slice 3)],1)],[(1,0,0)]⟩
def Zp:=dB Tryz.prog (bp Tryz.prog [(209,OS)] [] (fun q=>Nat.beq q 3)) 9 9 171 250 (dF Tryz.prog 171 250) M8
def kY (x:cr):aW cr:=(cond (decide ((aR (x.i+(2:Int))) < ((x.l.n:Nat):Int))) (cond (x.p.kind==(0:Int)) (cond ((Int.tmod x.i (3:Int))==(0:Int)) (cond ((decide ((0:Int)<=x.i))&&(decide (x.i < ((x.l.n:Nat):Int)))) (cond ((decide ((0:Int)<=(aR (x.i+(1:Int)))))&&(decide ((aR (x.i+(1:Int))) < ((x.l.n:Nat):Int)))) (cond ((decide ((0:Int)<=(aR (x.i+(2:Int)))))&&(decide ((aR (x.i+(2:Int))) < ((x.l.n:Nat):Int)))) (cond ((bz x.out.n x.out.n)&&(kD 24 x.out.n 1)) (cond (bz (x.out.n+1) (x.out.n+1)) (.next (⟨x.t2,x.t3,(x.out.push (⟨(x.l.get (Int.toNat x.i)),(x.l.get (Int.toNat (aR (x.i+(1:Int))))),(x.l.get (Int.toNat (aR (x.i+(2:Int)))))⟩:az)),x.l,(aR (x.i+(1:Int))),x.p⟩:cr)) .fail) .fail) .fail) .fail) .fail) (cond (x.p.kind==(1:Int)) (cond ((Int.tmod x.i (2:Int))==(0:Int)) (cond ((decide ((0:Int)<=x.i))&&(decide (x.i < ((x.l.n:Nat):Int)))) (cond ((decide ((0:Int)<=(aR (x.i+(1:Int)))))&&(decide ((aR (x.i+(1:Int))) < ((x.l.n:Nat):Int)))) (cond ((decide ((0:Int)<=(aR (x.i+(2:Int)))))&&(decide ((aR (x.i+(2:Int))) < ((x.l.n:Nat):Int)))) (cond ((bz x.out.n x.out.n)&&(kD 24 x.out.n 1)) (cond (bz (x.out.n+1) (x.out.n+1)) (.next (⟨x.t2,x.t3,(x.out.push (⟨(x.l.get (Int.toNat x.i)),(x.l.get (Int.toNat (aR (x.i+(1:Int))))),(x.l.get (Int.toNat (aR (x.i+(2:Int)))))⟩:az)),x.l,(aR (x.i+(1:Int))),x.p⟩:cr)) .fail) .fail) .fail) .fail) .fail) (cond (x.p.kind==(1:Int)) (cond ((decide ((0:Int)<=(aR (x.i+(1:Int)))))&&(decide ((aR (x.i+(1:Int))) < ((x.l.n:Nat):Int)))) (cond ((decide ((0:Int)<=x.i))&&(decide (x.i < ((x.l.n:Nat):Int)))) (cond ((decide ((0:Int)<=(aR (x.i+(2:Int)))))&&(decide ((aR (x.i+(2:Int))) < ((x.l.n:Nat):Int)))) (cond ((bz x.out.n x.out.n)&&(kD 24 x.out.n 1)) (cond (bz (x.out.n+1) (x.out.n+1)) (.next (⟨x.t2,x.t3,(x.out.push (⟨(x.l.get (Int.toNat (aR (x.i+(1:Int))))),(x.l.get (Int.toNat x.i)),(x.l.get (Int.toNat (aR (x.i+(2:Int)))))⟩:az)),x.l,(aR (x.i+(1:Int))),x.p⟩:cr)) .fail) .fail) .fail) .fail) .fail) (cond (x.p.kind==(2:Int)) (cond (decide ((0:Int) < ((x.l.n:Nat):Int))) (cond ((decide ((0:Int)<=(aR (x.i+(1:Int)))))&&(decide ((aR (x.i+(1:Int))) < ((x.l.n:Nat):Int)))) (cond ((decide ((0:Int)<=(aR (x.i+(2:Int)))))&&(decide ((aR (x.i+(2:Int))) < ((x.l.n:Nat):Int)))) (cond ((bz x.out.n x.out.n)&&(kD 24 x.out.n 1)) (cond (bz (x.out.n+1) (x.out.n+1)) (.next (⟨x.t2,x.t3,(x.out.push (⟨(x.l.get 0),(x.l.get (Int.toNat (aR (x.i+(1:Int))))),(x.l.get (Int.toNat (aR (x.i+(2:Int)))))⟩:az)),x.l,(aR (x.i+(1:Int))),x.p⟩:cr)) .fail) .fail) .fail) .fail) .fail) (cond (bz x.out.n x.out.n) (.next (⟨x.t2,x.t3,x.out,x.l,(aR (x.i+(1:Int))),x.p⟩:cr)) .fail)))) (cond (x.p.kind==(1:Int)) (cond ((decide ((0:Int)<=(aR (x.i+(1:Int)))))&&(decide ((aR (x.i+(1:Int))) < ((x.l.n:Nat):Int)))) (cond ((decide ((0:Int)<=x.i))&&(decide (x.i < ((x.l.n:Nat):Int)))) (cond ((decide ((0:Int)<=(aR (x.i+(2:Int)))))&&(decide ((aR (x.i+(2:Int))) < ((x.l.n:Nat):Int)))) (cond ((bz x.out.n x.out.n)&&(kD 24 x.out.n 1)) (cond (bz (x.out.n+1) (x.out.n+1)) (.next (⟨x.t2,x.t3,(x.out.push (⟨(x.l.get (Int.toNat (aR (x.i+(1:Int))))),(x.l.get (Int.toNat x.i)),(x.l.get (Int.toNat (aR (x.i+(2:Int)))))⟩:az)),x.l,(aR (x.i+(1:Int))),x.p⟩:cr)) .fail) .fail) .fail) .fail) .fail) (cond (x.p.kind==(2:Int)) (cond (decide ((0:Int) < ((x.l.n:Nat):Int))) (cond ((decide ((0:Int)<=(aR (x.i+(1:Int)))))&&(decide ((aR (x.i+(1:Int))) < ((x.l.n:Nat):Int)))) (cond ((decide ((0:Int)<=(aR (x.i+(2:Int)))))&&(decide ((aR (x.i+(2:Int))) < ((x.l.n:Nat):Int)))) (cond ((bz x.out.n x.out.n)&&(kD 24 x.out.n 1)) (cond (bz (x.out.n+1) (x.out.n+1)) (.next (⟨x.t2,x.t3,(x.out.push (⟨(x.l.get 0),(x.l.get (Int.toNat (aR (x.i+(1:Int))))),(x.l.get (Int.toNat (aR (x.i+(2:Int)))))⟩:az)),x.l,(aR (x.i+(1:Int))),x.p⟩:cr)) .fail) .fail) .fail) .fail) .fail) (cond (bz x.out.n x.out.n) (.next (⟨x.t2,x.t3,x.out,x.l,(aR (x.i+(1:Int))),x.p⟩:cr)) .fail))))) (cond (x.p.kind==(1:Int)) (cond ((Int.tmod x.i (2:Int))==(0:Int)) (cond ((decide ((0:Int)<=x.i))&&(decide (x.i < ((x.l.n:Nat):Int)))) (cond ((decide ((0:Int)<=(aR (x.i+(1:Int)))))&&(decide ((aR (x.i+(1:Int))) < ((x.l.n:Nat):Int)))) (cond ((decide ((0:Int)<=(aR (x.i+(2:Int)))))&&(decide ((aR (x.i+(2:Int))) < ((x.l.n:Nat):Int)))) (cond ((bz x.out.n x.out.n)&&(kD 24 x.out.n 1)) (cond (bz (x.out.n+1) (x.out.n+1)) (.next (⟨x.t2,x.t3,(x.out.push (⟨(x.l.get (Int.toNat x.i)),(x.l.get (Int.toNat (aR (x.i+(1:Int))))),(x.l.get (Int.toNat (aR (x.i+(2:Int)))))⟩:az)),x.l,(aR (x.i+(1:Int))),x.p⟩:cr)) .fail) .fail) .fail) .fail) .fail) (cond (x.p.kind==(1:Int)) (cond ((decide ((0:Int)<=(aR (x.i+(1:Int)))))&&(decide ((aR (x.i+(1:Int))) < ((x.l.n:Nat):Int)))) (cond ((decide ((0:Int)<=x.i))&&(decide (x.i < ((x.l.n:Nat):Int)))) (cond ((decide ((0:Int)<=(aR (x.i+(2:Int)))))&&(decide ((aR (x.i+(2:Int))) < ((x.l.n:Nat):Int)))) (cond ((bz x.out.n x.out.n)&&(kD 24 x.out.n 1)) (cond (bz (x.out.n+1) (x.out.n+1)) (.next (⟨x.t2,x.t3,(x.out.push (⟨(x.l.get (Int.toNat (aR (x.i+(1:Int))))),(x.l.get (Int.toNat x.i)),(x.l.get (Int.toNat (aR (x.i+(2:Int)))))⟩:az)),x.l,(aR (x.i+(1:Int))),x.p⟩:cr)) .fail) .fail) .fail) .fail) .fail) (cond (x.p.kind==(2:Int)) (cond (decide ((0:Int) < ((x.l.n:Nat):Int))) (cond ((decide ((0:Int)<=(aR (x.i+(1:Int)))))&&(decide ((aR (x.i+(1:Int))) < ((x.l.n:Nat):Int)))) (cond ((decide ((0:Int)<=(aR (x.i+(2:Int)))))&&(decide ((aR (x.i+(2:Int))) < ((x.l.n:Nat):Int)))) (cond ((bz x.out.n x.out.n)&&(kD 24 x.out.n 1)) (cond (bz (x.out.n+1) (x.out.n+1)) (.next (⟨x.t2,x.t3,(x.out.push (⟨(x.l.get 0),(x.l.get (Int.toNat (aR (x.i+(1:Int))))),(x.l.get (Int.toNat (aR (x.i+(2:Int)))))⟩:az)),x.l,(aR (x.i+(1:Int))),x.p⟩:cr)) .fail) .fail) .fail) .fail) .fail) (cond (bz x.out.n x.out.n) (.next (⟨x.t2,x.t3,x.out,x.l,(aR (x.i+(1:Int))),x.p⟩:cr)) .fail)))) (cond (x.p.kind==(1:Int)) (cond ((decide ((0:Int)<=(aR (x.i+(1:Int)))))&&(decide ((aR (x.i+(1:Int))) < ((x.l.n:Nat):Int)))) (cond ((decide ((0:Int)<=x.i))&&(decide (x.i < ((x.l.n:Nat):Int)))) (cond ((decide ((0:Int)<=(aR (x.i+(2:Int)))))&&(decide ((aR (x.i+(2:Int))) < ((x.l.n:Nat):Int)))) (cond ((bz x.out.n x.out.n)&&(kD 24 x.out.n 1)) (cond (bz (x.out.n+1) (x.out.n+1)) (.next (⟨x.t2,x.t3,(x.out.push (⟨(x.l.get (Int.toNat (aR (x.i+(1:Int))))),(x.l.get (Int.toNat x.i)),(x.l.get (Int.toNat (aR (x.i+(2:Int)))))⟩:az)),x.l,(aR (x.i+(1:Int))),x.p⟩:cr)) .fail) .fail) .fail) .fail) .fail) (cond (x.p.kind==(2:Int)) (cond (decide ((0:Int) < ((x.l.n:Nat):Int))) (cond ((decide ((0:Int)<=(aR (x.i+(1:Int)))))&&(decide ((aR (x.i+(1:Int))) < ((x.l.n:Nat):Int)))) (cond ((decide ((0:Int)<=(aR (x.i+(2:Int)))))&&(decide ((aR (x.i+(2:Int))) < ((x.l.n:Nat):Int)))) (cond ((bz x.out.n x.out.n)&&(kD 24 x.out.n 1)) (cond (bz (x.out.n+1) (x.out.n+1)) (.next (⟨x.t2,x.t3,(x.out.push (⟨(x.l.get 0),(x.l.get (Int.toNat (aR (x.i+(1:Int))))),(x.l.get (Int.toNat (aR (x.i+(2:Int)))))⟩:az)),x.l,(aR (x.i+(1:Int))),x.p⟩:cr)) .fail) .fail) .fail) .fail) .fail) (cond (bz x.out.n x.out.n) (.next (⟨x.t2,x.t3,x.out,x.l,(aR (x.i+(1:Int))),x.p⟩:cr)) .fail))))) (cond (bz x.out.n x.out.n) (.out (aB.ae.exit 1) x) .fail))
theorem TJ (x:cr):Zp (yh x) (yi x)=aW.enc yh yi (kY x):=by
 unfold kY
 try simp only [aW.cf,jN]
 kernel_rfl
def zY:Lp:=⟨171,250,M8,fun vs rs=>dC yh yi (goN kY (KC vs rs)) [aB.ae.exit 1],false⟩
theorem Zq:zY.Ok Tryz.prog:=b8 funcs mixed (ah.cons PH ah.nil) au.nil (L:=9) (n:=9) (step:=kY) (ev:=yh) (er:=yi) (pa:=KC) rfl (fun wv wr=>⟨by kernel_rfl,by kernel_rfl⟩) TJ
theorem RL:bZ Tryz.prog zY.f zY.p=true:=by kernel_rfl
def UR:List (Nat×(List KV->KR KV)):=[(209,OS)]
def UT:List Lp:=[zY]
theorem ad6:ah Tryz.prog UR:=(ah.cons PH ah.nil)
theorem ad7:au Tryz.prog UT:=(au.cons Zq RL au.nil)
def Jj (p:Prim):(Option Bool):=(zX p)
def Jk (p:Prim):(aW cr):=(goN kY (⟨(⟨0,(fun i=>(⟨(0:Int),(0:Int),(0:Int)⟩:az))⟩:Sl _),(0:Int),(⟨0,(fun i=>(⟨(0:Int),(0:Int),(0:Int)⟩:az))⟩:Sl _),p.index,(0:Int),p⟩:cr))
def zZ (p:Prim):Option ((Sl az)×Int):=(cond (decide (p.kind > (2:Int))) (some ((⟨0,(fun i=>(⟨(0:Int),(0:Int),(0:Int)⟩:az))⟩:Sl _),(2:Int))) (cond (decide (((p.index.n:Nat):Int) > (200:Int))) (some ((⟨0,(fun i=>(⟨(0:Int),(0:Int),(0:Int)⟩:az))⟩:Sl _),(4:Int))) (cond (Jj p).isSome (cond (!((Jj p).getD default)) (some ((⟨0,(fun i=>(⟨(0:Int),(0:Int),(0:Int)⟩:az))⟩:Sl _),(40:Int))) (cond ((Jk p).by (aB.ae.exit 1)) (some ((Jk p).st.out,(0:Int))) none)) none)))
theorem ahH (p:Prim):cD Tryz.prog (bp Tryz.prog UR UT (fun q=>Nat.beq q 3)) 9 9 171 [rv p] = (zZ p).map (fun (r:(Sl az)×Int)=>KV.nb [(eA 40 df) r.1,(kI .i64) r.2]):=by
 unfold zZ
 try simp only [bq]
 kernel_rfl
def HH:List KV->KR KV:=bI Tryz.prog 171 (bL (fun (r:(Sl az)×Int)=>KV.nb [(eA 40 df) r.1,(kI .i64) r.2]) fun vs=>zZ (lM (vs.getD 0 .ao)))
theorem ad8 (w:Nat->KV):ck Tryz.prog [172] w 0 = [rv (lM (ax Tryz.prog (ai Tryz.prog aj) 172 (w 0)))]:=by kernel_rfl
theorem GM:bH Tryz.prog 171 HH:=aL funcs mixed ad6 ad7 (L:=9) (n:=9) fun w=>by
 have e:aG Tryz.prog 171 = [172]:=by kernel_rfl
 rw [e,ad8]
 exact (ahH (lM (ax Tryz.prog (ai Tryz.prog aj) 172 (w 0)))).trans (by kernel_rfl)
structure fh where
 t2:(Sl az)
 t3:Bool
 out:(Sl az)
 t12:(Sl Prim)
 t13:Int
 t14:Int
 m:iU
instance:Inhabited fh:=⟨by constructor<;>exact default⟩
def z6 (x:fh):List KV:=[eA 40 df x.t2,.bool x.t3,eA 40 df x.out,eA 172 rv x.t12,.int .i64 x.t13,.int .i64 x.t14]
def z7 (x:fh):List (List KV):=[Wi x.m]
def M9 (vs:List KV) (rs:List (List KV)):fh:=⟨dP dv (vs.getD 0 .ao),dj (vs.getD 1 .ao),dP dv (vs.getD 2 .ao),dP lM (vs.getD 3 .ao),ay (vs.getD 4 .ao),ay (vs.getD 5 .ao),Wj (fun k=>(rs.getD 0 []).getD k .ao)⟩
def PI:aV:=⟨[(2,⟨false,[.k (.slice 40)]⟩),(3,⟨false,[.k .bool]⟩),(4,⟨false,[.bA 40]⟩),(12,⟨false,[.k (.slice 172)]⟩),(13,⟨false,[.k (.int .i64)]⟩),(14,⟨false,[.k (.int .i64)]⟩)],[(1,[.k (.slice 43),.k (.slice 185),.k (.slice 172)],1)],[(1,0,0)]⟩
structure eC where
 t2:(Sl az)
 t3:Bool
 out:(Sl az)
 t12:(Sl Prim)
 t13:Int
 t14:Int
 t34:(Sl Int)
 t35:Int
 t36:Int
 m:iU
instance:Inhabited eC:=⟨by constructor<;>exact default⟩
def tV (x:eC):List KV:=[eA 40 df x.t2,.bool x.t3,eA 40 df x.out,eA 172 rv x.t12,.int .i64 x.t13,.int .i64 x.t14,eA 3 (kI .i64) x.t34,.int .i64 x.t35,.int .i64 x.t36]
def tW (x:eC):List (List KV):=[Wi x.m]
def Gb (vs:List KV) (rs:List (List KV)):eC:=⟨dP dv (vs.getD 0 .ao),dj (vs.getD 1 .ao),dP dv (vs.getD 2 .ao),dP lM (vs.getD 3 .ao),ay (vs.getD 4 .ao),ay (vs.getD 5 .ao),dP ay (vs.getD 6 .ao),ay (vs.getD 7 .ao),ay (vs.getD 8 .ao),Wj (fun k=>(rs.getD 0 []).getD k .ao)⟩
def G6:aV:=⟨[(2,⟨false,[.k (.slice 40)]⟩),(3,⟨false,[.k .bool]⟩),(4,⟨false,[.bA 40]⟩),(12,⟨false,[.k (.slice 172)]⟩),(13,⟨false,[.k (.int .i64)]⟩),(14,⟨false,[.k (.int .i64)]⟩),(34,⟨false,[.k (.slice 3)]⟩),(35,⟨false,[.k (.int .i64)]⟩),(36,⟨false,[.k (.int .i64)]⟩)],[(1,[.k (.slice 43),.k (.slice 185),.k (.slice 172)],1)],[(1,0,0)]⟩
def RM:=dB Tryz.prog (bp Tryz.prog [(171,HH)] [] (fun q=>Nat.beq q 3)) 9 9 118 119614 (dF Tryz.prog 118 119614) G6
def fV (x:eC):aW eC:=(cond (decide (x.t36 < x.t35)) (cond ((decide ((0:Int)<=x.t36))&&(decide (x.t36 < ((x.t34.n:Nat):Int)))) (cond (decide ((x.t34.get (Int.toNat x.t36)) < (0:Int))) (cond (bz x.out.n x.out.n) (.out aB.ae.ret (⟨(⟨0,(fun i=>(⟨(0:Int),(0:Int),(0:Int)⟩:az))⟩:Sl _),false,x.out,x.t12,x.t13,x.t14,x.t34,x.t35,x.t36,x.m⟩:eC)) .fail) (cond (decide ((x.t34.get (Int.toNat x.t36)) >= ((x.m.gh.n:Nat):Int))) (cond (bz x.out.n x.out.n) (.out aB.ae.ret (⟨(⟨0,(fun i=>(⟨(0:Int),(0:Int),(0:Int)⟩:az))⟩:Sl _),false,x.out,x.t12,x.t13,x.t14,x.t34,x.t35,x.t36,x.m⟩:eC)) .fail) (cond (bz x.out.n x.out.n) (.next (⟨x.t2,x.t3,x.out,x.t12,x.t13,x.t14,x.t34,x.t35,(aR (x.t36+(1:Int))),x.m⟩:eC)) .fail))) .fail) (cond (bz x.out.n x.out.n) (.out (aB.ae.exit 2) x) .fail))
theorem OT (x:eC):RM (tV x) (tW x)=aW.enc tV tW (fV x):=by
 unfold fV
 try simp only [aW.cf]
 kernel_rfl
def qZ:Lp:=⟨118,119614,G6,fun vs rs=>dC tV tW (goN fV (Gb vs rs)) [aB.ae.exit 2,aB.ae.ret],false⟩
theorem Gc:qZ.Ok Tryz.prog:=b8 funcs mixed (ah.cons GM ah.nil) au.nil (L:=9) (n:=9) (step:=fV) (ev:=tV) (er:=tW) (pa:=Gb) rfl (fun wv wr=>⟨by kernel_rfl,by kernel_rfl⟩) OT
theorem Cx:bZ Tryz.prog qZ.f qZ.p=true:=by kernel_rfl
def abw:=dB Tryz.prog (bp Tryz.prog [(171,HH)] [qZ] (fun q=>Nat.beq q 3)) 9 9 118 58 (dF Tryz.prog 118 58) PI
def fJ (x:fh):(Option (Prod (Sl az) Int)):=(zZ (x.t12.get (Int.toNat x.t14)))
def cI (x:fh):(aW eC):=(goN fV (⟨x.t2,x.t3,(x.out.join ((fJ x).getD default).fst),x.t12,x.t13,x.t14,(x.t12.get (Int.toNat x.t14)).index,(((x.t12.get (Int.toNat x.t14)).index.n:Nat):Int),(0:Int),x.m⟩:eC))
def ni (x:fh):aW fh:=(cond (decide (x.t14 < x.t13)) (cond ((decide ((0:Int)<=x.t14))&&(decide (x.t14 < ((x.t12.n:Nat):Int)))) (cond (fJ x).isSome (cond ((bz x.out.n x.out.n)&&(kD 24 x.out.n ((fJ x).getD default).fst.n)) (cond (((fJ x).getD default).snd != (0:Int)) (cond (bz (x.out.n+((fJ x).getD default).fst.n) (x.out.n+((fJ x).getD default).fst.n)) (.out aB.ae.ret (⟨(⟨0,(fun i=>(⟨(0:Int),(0:Int),(0:Int)⟩:az))⟩:Sl _),false,(x.out.join ((fJ x).getD default).fst),x.t12,x.t13,x.t14,x.m⟩:fh)) .fail) (cond (decide ((((x.out.n+((fJ x).getD default).fst.n):Nat):Int) > (64:Int))) (cond (bz (x.out.n+((fJ x).getD default).fst.n) (x.out.n+((fJ x).getD default).fst.n)) (.out aB.ae.ret (⟨(⟨0,(fun i=>(⟨(0:Int),(0:Int),(0:Int)⟩:az))⟩:Sl _),false,(x.out.join ((fJ x).getD default).fst),x.t12,x.t13,x.t14,x.m⟩:fh)) .fail) (cond (bz (x.out.n+((fJ x).getD default).fst.n) (x.out.n+((fJ x).getD default).fst.n)) (cond ((cI x).by (aB.ae.exit 2)) (cond (bz (cI x).st.out.n (cI x).st.out.n) (.next (⟨(cI x).st.t2,(cI x).st.t3,(cI x).st.out,(cI x).st.t12,(cI x).st.t13,(aR ((cI x).st.t14+(1:Int))),(cI x).st.m⟩:fh)) .fail) (cond ((cI x).by aB.ae.ret) (cond (bz (cI x).st.out.n (cI x).st.out.n) (.out aB.ae.ret (⟨(cI x).st.t2,(cI x).st.t3,(cI x).st.out,(cI x).st.t12,(cI x).st.t13,(cI x).st.t14,(cI x).st.m⟩:fh)) .fail) .fail)) .fail))) .fail) .fail) .fail) (cond (bz x.out.n x.out.n) (.out (aB.ae.exit 0) x) .fail))
theorem WI (x:fh):abw (z6 x) (z7 x)=aW.enc z6 z7 (ni x):=by
 unfold ni
 try simp only [aW.cf,cI,ll]
 kernel_rfl
def Bz:Lp:=⟨118,58,PI,fun vs rs=>dC z6 z7 (goN ni (M9 vs rs)) [aB.ae.exit 0,aB.ae.ret],false⟩
theorem abx:Bz.Ok Tryz.prog:=b8 funcs mixed (ah.cons GM ah.nil) (au.cons Gc Cx au.nil) (L:=9) (n:=9) (step:=ni) (ev:=z6) (er:=z7) (pa:=M9) rfl (fun wv wr=>⟨by kernel_rfl,by kernel_rfl⟩) WI
theorem TK:bZ Tryz.prog Bz.f Bz.p=true:=by kernel_rfl
def UU:List (Nat×(List KV->KR KV)):=[(171,HH)]
def UW:List Lp:=[qZ,Bz]
theorem ad9:ah Tryz.prog UU:=(ah.cons GM ah.nil)
theorem aea:au Tryz.prog UW:=(au.cons Gc Cx (au.cons abx TK au.nil))
def vx (m:iU):(aW fh):=(goN ni (⟨(⟨0,(fun i=>(⟨(0:Int),(0:Int),(0:Int)⟩:az))⟩:Sl _),false,(⟨0,(fun i=>(⟨(0:Int),(0:Int),(0:Int)⟩:az))⟩:Sl _),m.cG,((m.cG.n:Nat):Int),(0:Int),m⟩:fh))
def z8 (m:iU):Option ((Sl az)×Bool):=(cond ((vx m).by (aB.ae.exit 0)) (some ((vx m).st.out,true)) (cond ((vx m).by aB.ae.ret) (some ((vx m).st.t2,(vx m).st.t3)) none))
theorem ahI (m:iU):cD Tryz.prog (bp Tryz.prog UU UW (fun q=>Nat.beq q 3)) 9 9 118 [n5 m] = (z8 m).map (fun (r:(Sl az)×Bool)=>KV.nb [(eA 40 df) r.1,kB r.2]):=by
 unfold z8
 try simp only [bq]
 kernel_rfl
def HI:List KV->KR KV:=bI Tryz.prog 118 (bL (fun (r:(Sl az)×Bool)=>KV.nb [(eA 40 df) r.1,kB r.2]) fun vs=>z8 (jJ (vs.getD 0 .ao)))
theorem aeb (w:Nat->KV):ck Tryz.prog [88] w 0 = [n5 (jJ (ax Tryz.prog (ai Tryz.prog aj) 88 (w 0)))]:=by kernel_rfl
theorem GN:bH Tryz.prog 118 HI:=aL funcs mixed ad9 aea (L:=9) (n:=9) fun w=>by
 have e:aG Tryz.prog 118 = [88]:=by kernel_rfl
 rw [e,aeb]
 exact (ahI (jJ (ax Tryz.prog (ai Tryz.prog aj) 88 (w 0)))).trans (by kernel_rfl)
structure aO where
 s:(Sl fO)
 t4:Int
 t7:Int
 t8:Int
instance:Inhabited aO:=⟨⟨default,default,default,default⟩⟩
def iv (x:aO):List KV:=[eA 43 mu x.s,.fn (.func 113) [] [],.int .i64 x.t4,.int .i64 x.t7,.int .i64 x.t8]
def iw (x:aO):List (List KV):=[]
def oS (vs:List KV) (rs:List (List KV)):aO:=⟨dP kM (vs.getD 0 .ao),ay (vs.getD 2 .ao),ay (vs.getD 3 .ao),ay (vs.getD 4 .ao)⟩
def po:aV:=⟨[(0,⟨false,[.k (.slice 43)]⟩),(1,⟨false,[.lit (.fn (.func 113) [] [])]⟩),(4,⟨false,[.k (.int .i64)]⟩),(7,⟨false,[.k (.int .i64)]⟩),(8,⟨false,[.k (.int .i64)]⟩)],[],[]⟩
def w7:=dB Tryz.prog (bp Tryz.prog [(118,HI),(115,zW),(113,zV)] [] (fun q=>Nat.beq q 3)) 9 9 169 26 (dF Tryz.prog 169 26) po
def bS (x:aO):aW aO:=(cond (decide (x.t8 < x.t7)) (cond ((decide ((0:Int)<=x.t8))&&(decide (x.t8 < ((x.s.n:Nat):Int)))) (cond (decide ((x.s.get (Int.toNat x.t8)).x >= (-(1024:Int)))) (cond (!(decide ((x.s.get (Int.toNat x.t8)).x<=(1024:Int)))) (.out aB.ae.ret (⟨x.s,x.t8,x.t7,x.t8⟩:aO)) (cond (decide ((x.s.get (Int.toNat x.t8)).y >= (-(1024:Int)))) (cond (!(decide ((x.s.get (Int.toNat x.t8)).y<=(1024:Int)))) (.out aB.ae.ret (⟨x.s,x.t8,x.t7,x.t8⟩:aO)) (cond (decide ((x.s.get (Int.toNat x.t8)).z >= (-(1024:Int)))) (cond (!(decide ((x.s.get (Int.toNat x.t8)).z<=(1024:Int)))) (.out aB.ae.ret (⟨x.s,x.t8,x.t7,x.t8⟩:aO)) (.next (⟨x.s,x.t4,x.t7,(aR (x.t8+(1:Int)))⟩:aO))) (.out aB.ae.ret (⟨x.s,x.t8,x.t7,x.t8⟩:aO)))) (.out aB.ae.ret (⟨x.s,x.t8,x.t7,x.t8⟩:aO)))) (.out aB.ae.ret (⟨x.s,x.t8,x.t7,x.t8⟩:aO))) .fail) (.out (aB.ae.exit 0) x))
theorem vE (x:aO):w7 (iv x) (iw x)=aW.enc iv iw (bS x):=by
 unfold bS
 try simp only [aW.cf]
 kernel_rfl
def fC:Lp:=⟨169,26,po,fun vs rs=>dC iv iw (goN bS (oS vs rs)) [aB.ae.exit 0,aB.ae.ret],false⟩
theorem oT:fC.Ok Tryz.prog:=b8 funcs mixed (ah.cons GN (ah.cons AG (ah.cons AE ah.nil))) au.nil (L:=9) (n:=9) (step:=bS) (ev:=iv) (er:=iw) (pa:=oS) rfl (fun wv wr=>⟨by kernel_rfl,by kernel_rfl⟩) vE
theorem nz:bZ Tryz.prog fC.f fC.p=true:=by kernel_rfl
structure aZ where
 s:(Sl ru)
 t4:Int
 t7:Int
 t8:Int
instance:Inhabited aZ:=⟨⟨default,default,default,default⟩⟩
def iy (x:aZ):List KV:=[eA 185 nZ x.s,.fn (.func 115) [] [],.int .i64 x.t4,.int .i64 x.t7,.int .i64 x.t8]
def iz (x:aZ):List (List KV):=[]
def oU (vs:List KV) (rs:List (List KV)):aZ:=⟨dP jX (vs.getD 0 .ao),ay (vs.getD 2 .ao),ay (vs.getD 3 .ao),ay (vs.getD 4 .ao)⟩
def pq:aV:=⟨[(0,⟨false,[.k (.slice 185)]⟩),(1,⟨false,[.lit (.fn (.func 115) [] [])]⟩),(4,⟨false,[.k (.int .i64)]⟩),(7,⟨false,[.k (.int .i64)]⟩),(8,⟨false,[.k (.int .i64)]⟩)],[],[]⟩
def w8:=dB Tryz.prog (bp Tryz.prog [(118,HI),(115,zW),(113,zV)] [fC] (fun q=>Nat.beq q 3)) 9 9 170 26 (dF Tryz.prog 170 26) pq
def bT (x:aZ):aW aZ:=(cond (decide (x.t8 < x.t7)) (cond ((decide ((0:Int)<=x.t8))&&(decide (x.t8 < ((x.s.n:Nat):Int)))) (cond (decide ((x.s.get (Int.toNat x.t8)).e0 < (0:Int))) (.out aB.ae.ret (⟨x.s,x.t8,x.t7,x.t8⟩:aZ)) (cond (decide ((x.s.get (Int.toNat x.t8)).e0 > (255:Int))) (.out aB.ae.ret (⟨x.s,x.t8,x.t7,x.t8⟩:aZ)) (cond (decide ((x.s.get (Int.toNat x.t8)).e1 < (0:Int))) (.out aB.ae.ret (⟨x.s,x.t8,x.t7,x.t8⟩:aZ)) (cond (decide ((x.s.get (Int.toNat x.t8)).e1 > (255:Int))) (.out aB.ae.ret (⟨x.s,x.t8,x.t7,x.t8⟩:aZ)) (.next (⟨x.s,x.t4,x.t7,(aR (x.t8+(1:Int)))⟩:aZ)))))) .fail) (.out (aB.ae.exit 0) x))
theorem vF (x:aZ):w8 (iy x) (iz x)=aW.enc iy iz (bT x):=by
 unfold bT
 try simp only [aW.cf]
 kernel_rfl
def iQ:Lp:=⟨170,26,pq,fun vs rs=>dC iy iz (goN bT (oU vs rs)) [aB.ae.exit 0,aB.ae.ret],false⟩
theorem w9:iQ.Ok Tryz.prog:=b8 funcs mixed (ah.cons GN (ah.cons AG (ah.cons AE ah.nil))) (au.cons oT nz au.nil) (L:=9) (n:=9) (step:=bT) (ev:=iy) (er:=iz) (pa:=oU) rfl (fun wv wr=>⟨by kernel_rfl,by kernel_rfl⟩) vF
theorem vy:bZ Tryz.prog iQ.f iQ.p=true:=by kernel_rfl
def RN:List (Nat×(List KV->KR KV)):=[(118,HI),(115,zW),(113,zV)]
def RO:List Lp:=[fC,iQ]
theorem aby:ah Tryz.prog RN:=(ah.cons GN (ah.cons AG (ah.cons AE ah.nil)))
theorem abz:au Tryz.prog RO:=(au.cons oT nz (au.cons w9 vy au.nil))
def BA (m:iU):(aW aO):=(goN bS (⟨m.gh,(0:Int),((m.gh.n:Nat):Int),(0:Int)⟩:aO))
def qP (m:iU):(aW aZ):=(goN bT (⟨m.uV,(0:Int),((m.uV.n:Nat):Int),(0:Int)⟩:aZ))
def mU (m:iU):(Option (Prod (Sl az) Bool)):=(z8 m)
def xx (m:iU):Option (Int):=(cond (decide (((m.gh.n:Nat):Int) > (64:Int))) (some ((4:Int))) (cond (decide (((m.uV.n:Nat):Int) > (64:Int))) (some ((4:Int))) (cond (decide (((m.cG.n:Nat):Int) > (16:Int))) (some ((4:Int))) (cond (((m.uV.n:Nat):Int) != ((m.gh.n:Nat):Int)) (some ((40:Int))) (cond ((BA m).by (aB.ae.exit 0)) (cond ((qP m).by (aB.ae.exit 0)) (cond (mU m).isSome (cond (!((mU m).getD default).snd) (some ((40:Int))) (some ((0:Int)))) none) (cond ((qP m).by aB.ae.ret) (cond (decide ((qP m).st.t4 >= (0:Int))) (some ((40:Int))) (cond (mU m).isSome (cond (!((mU m).getD default).snd) (some ((40:Int))) (some ((0:Int)))) none)) none)) (cond ((BA m).by aB.ae.ret) (cond (decide ((BA m).st.t4 >= (0:Int))) (some ((40:Int))) (cond ((qP m).by (aB.ae.exit 0)) (cond (mU m).isSome (cond (!((mU m).getD default).snd) (some ((40:Int))) (some ((0:Int)))) none) (cond ((qP m).by aB.ae.ret) (cond (decide ((qP m).st.t4 >= (0:Int))) (some ((40:Int))) (cond (mU m).isSome (cond (!((mU m).getD default).snd) (some ((40:Int))) (some ((0:Int)))) none)) none))) none))))))
theorem aec (m:iU):cD Tryz.prog (bp Tryz.prog RN RO (fun q=>Nat.beq q 3)) 9 9 70 [n5 m] = (xx m).map (kI .i64):=by
 unfold xx
 try simp only [bq]
 kernel_rfl
def Bh:List KV->KR KV:=bI Tryz.prog 70 (bL (kI .i64) fun vs=>xx (jJ (vs.getD 0 .ao)))
theorem abA (w:Nat->KV):ck Tryz.prog [88] w 0 = [n5 (jJ (ax Tryz.prog (ai Tryz.prog aj) 88 (w 0)))]:=by kernel_rfl
theorem Aa:bH Tryz.prog 70 Bh:=aL funcs mixed aby abz (L:=9) (n:=9) fun w=>by
 have e:aG Tryz.prog 70 = [88]:=by kernel_rfl
 rw [e,abA]
 exact (aec (jJ (ax Tryz.prog (ai Tryz.prog aj) 88 (w 0)))).trans (by kernel_rfl)
def Na:List (Nat×(List KV->KR KV)):=[]
def Nb:List Lp:=[]
theorem WJ:ah Tryz.prog Na:=ah.nil
theorem WK:au Tryz.prog Nb:=au.nil
def qQ (n:Int):Option (Bool):=(cond (decide (n > (0:Int))) (some ((decide (n<=(16:Int))))) (some (false)))
theorem Zr (n:Int):cD Tryz.prog (bp Tryz.prog Na Nb (fun q=>Nat.beq q 3)) 9 9 119 [(kI .i64) n] = (qQ n).map kB:=by
 unfold qQ
 try simp only [bq]
 kernel_rfl
def PJ:List KV->KR KV:=bI Tryz.prog 119 (bL kB fun vs=>qQ (ay (vs.getD 0 .ao)))
theorem WL (w:Nat->KV):ck Tryz.prog [3] w 0 = [(kI .i64) (ay (ax Tryz.prog (ai Tryz.prog aj) 3 (w 0)))]:=by kernel_rfl
theorem WM:bH Tryz.prog 119 PJ:=aL funcs mixed WJ WK (L:=9) (n:=9) fun w=>by
 have e:aG Tryz.prog 119 = [3]:=by kernel_rfl
 rw [e,WL]
 exact (Zr (ay (ax Tryz.prog (ai Tryz.prog aj) 3 (w 0)))).trans (by kernel_rfl)
def KD:List (Nat×(List KV->KR KV)):=[(119,PJ)]
def KF:List Lp:=[]
theorem TL:ah Tryz.prog KD:=(ah.cons WM ah.nil)
theorem TM:au Tryz.prog KF:=au.nil
def Cc (t:jf):(Option Bool):=(qQ t.w)
def Cd (t:jf):(Option Bool):=(qQ t.h)
def rU (t:jf):Option (Int):=(cond (Cc t).isSome (cond (!((Cc t).getD default)) (some ((8:Int))) (cond (Cd t).isSome (cond (!((Cd t).getD default)) (some ((8:Int))) (cond (((t.S3.n:Nat):Int) != (aR (t.w * t.h))) (some ((8:Int))) (some ((0:Int))))) none)) none)
theorem WN (t:jf):cD Tryz.prog (bp Tryz.prog KD KF (fun q=>Nat.beq q 3)) 9 9 72 [jF t] = (rU t).map (kI .i64):=by
 unfold rU
 try simp only [bq]
 kernel_rfl
def vz:List KV->KR KV:=bI Tryz.prog 72 (bL (kI .i64) fun vs=>rU (eM (vs.getD 0 .ao)))
theorem TN (w:Nat->KV):ck Tryz.prog [91] w 0 = [jF (eM (ax Tryz.prog (ai Tryz.prog aj) 91 (w 0)))]:=by kernel_rfl
theorem uL:bH Tryz.prog 72 vz:=aL funcs mixed TL TM (L:=9) (n:=9) fun w=>by
 have e:aG Tryz.prog 72 = [91]:=by kernel_rfl
 rw [e,TN]
 exact (WN (eM (ax Tryz.prog (ai Tryz.prog aj) 91 (w 0)))).trans (by kernel_rfl)
structure ln where
 cA:Int
 t4:Bool
 t7:(Sl Int)
 t8:Int
 t9:Int
instance:Inhabited ln:=⟨⟨default,default,default,default,default⟩⟩
def FC (x:ln):List KV:=[.int .i64 x.cA,.bool x.t4,eA 3 (kI .i64) x.t7,.int .i64 x.t8,.int .i64 x.t9]
def FD (x:ln):List (List KV):=[]
def UX (vs:List KV) (rs:List (List KV)):ln:=⟨ay (vs.getD 0 .ao),dj (vs.getD 1 .ao),dP ay (vs.getD 2 .ao),ay (vs.getD 3 .ao),ay (vs.getD 4 .ao)⟩
def Zs:aV:=⟨[(0,⟨false,[.k (.int .i64)]⟩),(4,⟨false,[.k .bool]⟩),(7,⟨false,[.k (.slice 3)]⟩),(8,⟨false,[.k (.int .i64)]⟩),(9,⟨false,[.k (.int .i64)]⟩)],[],[]⟩
def ajG:=dB Tryz.prog (bp Tryz.prog [] [] (fun q=>Nat.beq q 3)) 9 9 182 26 (dF Tryz.prog 182 26) Zs
def qR (x:ln):aW ln:=(cond (decide (x.t9 < x.t8)) (cond ((decide ((0:Int)<=x.t9))&&(decide (x.t9 < ((x.t7.n:Nat):Int)))) (cond (decide ((x.t7.get (Int.toNat x.t9)) < (aR ((0:Int) - x.cA)))) (.out aB.ae.ret (⟨x.cA,false,x.t7,x.t8,x.t9⟩:ln)) (cond (decide ((x.t7.get (Int.toNat x.t9)) > x.cA)) (.out aB.ae.ret (⟨x.cA,false,x.t7,x.t8,x.t9⟩:ln)) (.next (⟨x.cA,x.t4,x.t7,x.t8,(aR (x.t9+(1:Int)))⟩:ln)))) .fail) (.out (aB.ae.exit 0) x))
theorem aed (x:ln):ajG (FC x) (FD x)=aW.enc FC FD (qR x):=by
 unfold qR
 try simp only [aW.cf]
 kernel_rfl
def HJ:Lp:=⟨182,26,Zs,fun vs rs=>dC FC FD (goN qR (UX vs rs)) [aB.ae.exit 0,aB.ae.ret],false⟩
theorem ajH:HJ.Ok Tryz.prog:=b8 funcs mixed ah.nil au.nil (L:=9) (n:=9) (step:=qR) (ev:=FC) (er:=FD) (pa:=UX) rfl (fun wv wr=>⟨by kernel_rfl,by kernel_rfl⟩) aed
theorem abB:bZ Tryz.prog HJ.f HJ.p=true:=by kernel_rfl
def ahJ:List (Nat×(List KV->KR KV)):=[]
def ahK:List Lp:=[HJ]
theorem amm:ah Tryz.prog ahJ:=ah.nil
theorem amn:au Tryz.prog ahK:=(au.cons ajH abB au.nil)
def KG (cA:Int) (l:(Sl Int)):(aW ln):=(goN qR (⟨cA,false,l,((l.n:Nat):Int),(0:Int)⟩:ln))
def H7 (cA:Int) (l:(Sl Int)):Option (Bool):=(cond ((KG cA l).by (aB.ae.exit 0)) (some (true)) (cond ((KG cA l).by aB.ae.ret) (some ((KG cA l).st.t4)) none))
theorem aoy (cA:Int) (l:(Sl Int)):cD Tryz.prog (bp Tryz.prog ahJ ahK (fun q=>Nat.beq q 3)) 9 9 182 [(kI .i64) cA,(eA 3 (kI .i64)) l] = (H7 cA l).map kB:=by
 unfold H7
 try simp only [bq]
 kernel_rfl
def ak1:List KV->KR KV:=bI Tryz.prog 182 (bL kB fun vs=>H7 (ay (vs.getD 0 .ao)) ((dP ay) (vs.getD 1 .ao)))
theorem amo (w:Nat->KV):ck Tryz.prog [3,36] w 0 = [(kI .i64) (ay (ax Tryz.prog (ai Tryz.prog aj) 3 (w 0))),(eA 3 (kI .i64)) ((dP ay) (ax Tryz.prog (ai Tryz.prog aj) 36 (w 1)))]:=by kernel_rfl
theorem amp:bH Tryz.prog 182 ak1:=aL funcs mixed amm amn (L:=9) (n:=9) fun w=>by
 have e:aG Tryz.prog 182 = [3,36]:=by kernel_rfl
 rw [e,amo]
 exact (aoy (ay (ax Tryz.prog (ai Tryz.prog aj) 3 (w 0))) ((dP ay) (ax Tryz.prog (ai Tryz.prog aj) 36 (w 1)))).trans (by kernel_rfl)
def Zt:List (Nat×(List KV->KR KV)):=[]
def Zu:List Lp:=[]
theorem ahL:ah Tryz.prog Zt:=ah.nil
theorem ahM:au Tryz.prog Zu:=au.nil
def Cy (m:bw):Option (Bool):=(cond (decide (m.e0.e0 < (-(1024:Int)))) (some (false)) (cond (decide (m.e0.e0 > (1024:Int))) (some (false)) (cond (decide (m.e0.e1 < (-(1024:Int)))) (some (false)) (cond (decide (m.e0.e1 > (1024:Int))) (some (false)) (cond (decide (m.e0.e2 < (-(1024:Int)))) (some (false)) (cond (decide (m.e0.e2 > (1024:Int))) (some (false)) (cond (decide (m.e1.e0 < (-(1024:Int)))) (some (false)) (cond (decide (m.e1.e0 > (1024:Int))) (some (false)) (cond (decide (m.e1.e1 < (-(1024:Int)))) (some (false)) (cond (decide (m.e1.e1 > (1024:Int))) (some (false)) (cond (decide (m.e1.e2 < (-(1024:Int)))) (some (false)) (cond (decide (m.e1.e2 > (1024:Int))) (some (false)) (cond (decide (m.e2.e0 < (-(1024:Int)))) (some (false)) (cond (decide (m.e2.e0 > (1024:Int))) (some (false)) (cond (decide (m.e2.e1 < (-(1024:Int)))) (some (false)) (cond (decide (m.e2.e1 > (1024:Int))) (some (false)) (cond (decide (m.e2.e2 < (-(1024:Int)))) (some (false)) (cond (decide (m.e2.e2 > (1024:Int))) (some (false)) (some (true))))))))))))))))))))
theorem ajI (m:bw):cD Tryz.prog (bp Tryz.prog Zt Zu (fun q=>Nat.beq q 3)) 9 9 181 [gb m] = (Cy m).map kB:=by
 unfold Cy
 try simp only [bq]
 kernel_rfl
def adg:List KV->KR KV:=bI Tryz.prog 181 (bL kB fun vs=>Cy (cV (vs.getD 0 .ao)))
theorem ahN (w:Nat->KV):ck Tryz.prog [41] w 0 = [gb (cV (ax Tryz.prog (ai Tryz.prog aj) 41 (w 0)))]:=by kernel_rfl
theorem ahO:bH Tryz.prog 181 adg:=aL funcs mixed ahL ahM (L:=9) (n:=9) fun w=>by
 have e:aG Tryz.prog 181 = [41]:=by kernel_rfl
 rw [e,ahN]
 exact (ajI (cV (ax Tryz.prog (ai Tryz.prog aj) 41 (w 0)))).trans (by kernel_rfl)
def UY:List (Nat×(List KV->KR KV)):=[(182,ak1)]
def UZ:List Lp:=[]
theorem aee:ah Tryz.prog UY:=(ah.cons amp ah.nil)
theorem aef:au Tryz.prog UZ:=au.nil
def DE (v:fO):(Option Bool):=(H7 (4096:Int) (Sl.lit [v.x,v.y,v.z]))
def wy (v:fO):Option (Int):=(cond (DE v).isSome (cond (!((DE v).getD default)) (some ((20:Int))) (some ((0:Int)))) none)
theorem ahP (v:fO):cD Tryz.prog (bp Tryz.prog UY UZ (fun q=>Nat.beq q 3)) 9 9 134 [mu v] = (wy v).map (kI .i64):=by
 unfold wy
 try simp only [bq,DE,iK]
 kernel_rfl
def OU:List KV->KR KV:=bI Tryz.prog 134 (bL (kI .i64) fun vs=>wy (kM (vs.getD 0 .ao)))
theorem aeg (w:Nat->KV):ck Tryz.prog [43] w 0 = [mu (kM (ax Tryz.prog (ai Tryz.prog aj) 43 (w 0)))]:=by kernel_rfl
theorem PK:bH Tryz.prog 134 OU:=aL funcs mixed aee aef (L:=9) (n:=9) fun w=>by
 have e:aG Tryz.prog 134 = [43]:=by kernel_rfl
 rw [e,aeg]
 exact (ahP (kM (ax Tryz.prog (ai Tryz.prog aj) 43 (w 0)))).trans (by kernel_rfl)
def Nc:List (Nat×(List KV->KR KV)):=[(134,OU),(181,adg)]
def Nd:List Lp:=[]
theorem WO:ah Tryz.prog Nc:=(ah.cons PK (ah.cons ahO ah.nil))
theorem WQ:au Tryz.prog Nd:=au.nil
def DF (m:dm):(Option Bool):=(Cy m.m)
def DG (m:dm):(Option Int):=(wy m.t)
def mV (m:dm):Option (Int):=(cond (DF m).isSome (cond (!((DF m).getD default)) (some ((20:Int))) (cond (DG m).isSome (some (((DG m).getD default))) none)) none)
theorem Zv (m:dm):cD Tryz.prog (bp Tryz.prog Nc Nd (fun q=>Nat.beq q 3)) 9 9 133 [mv m] = (mV m).map (kI .i64):=by
 unfold mV
 try simp only [bq]
 kernel_rfl
def GP:List KV->KR KV:=bI Tryz.prog 133 (bL (kI .i64) fun vs=>mV (mw (vs.getD 0 .ao)))
theorem WR (w:Nat->KV):ck Tryz.prog [45] w 0 = [mv (mw (ax Tryz.prog (ai Tryz.prog aj) 45 (w 0)))]:=by kernel_rfl
theorem Jl:bH Tryz.prog 133 GP:=aL funcs mixed WO WQ (L:=9) (n:=9) fun w=>by
 have e:aG Tryz.prog 133 = [45]:=by kernel_rfl
 rw [e,WR]
 exact (Zv (mw (ax Tryz.prog (ai Tryz.prog aj) 45 (w 0)))).trans (by kernel_rfl)
structure jY where
 l:(Sl Int)
 t2:Bool
 last:Int
 t6:(Sl Int)
 t7:Int
 t8:Int
instance:Inhabited jY:=⟨by constructor<;>exact default⟩
def BB (x:jY):List KV:=[eA 3 (kI .i64) x.l,.bool x.t2,.int .i64 x.last,eA 3 (kI .i64) x.t6,.int .i64 x.t7,.int .i64 x.t8]
def BC (x:jY):List (List KV):=[]
def PL (vs:List KV) (rs:List (List KV)):jY:=⟨dP ay (vs.getD 0 .ao),dj (vs.getD 1 .ao),ay (vs.getD 2 .ao),dP ay (vs.getD 3 .ao),ay (vs.getD 4 .ao),ay (vs.getD 5 .ao)⟩
def RP:aV:=⟨[(0,⟨false,[.k (.slice 3)]⟩),(2,⟨false,[.k .bool]⟩),(3,⟨false,[.k (.int .i64)]⟩),(6,⟨false,[.k (.slice 3)]⟩),(7,⟨false,[.k (.int .i64)]⟩),(8,⟨false,[.k (.int .i64)]⟩)],[],[]⟩
def aeh:=dB Tryz.prog (bp Tryz.prog [] [] (fun q=>Nat.beq q 3)) 9 9 135 58 (dF Tryz.prog 135 58) RP
def j5 (x:jY):aW jY:=(cond (decide (x.t8 < x.t7)) (cond ((decide ((0:Int)<=x.t8))&&(decide (x.t8 < ((x.t6.n:Nat):Int)))) (cond (decide ((x.t6.get (Int.toNat x.t8)) < x.last)) (.out aB.ae.ret (⟨x.l,false,x.last,x.t6,x.t7,x.t8⟩:jY)) (cond (decide ((x.t6.get (Int.toNat x.t8)) > (8192:Int))) (.out aB.ae.ret (⟨x.l,false,x.last,x.t6,x.t7,x.t8⟩:jY)) (.next (⟨x.l,x.t2,(x.t6.get (Int.toNat x.t8)),x.t6,x.t7,(aR (x.t8+(1:Int)))⟩:jY)))) .fail) (.out (aB.ae.exit 0) x))
theorem Zw (x:jY):aeh (BB x) (BC x)=aW.enc BB BC (j5 x):=by
 unfold j5
 try simp only [aW.cf]
 kernel_rfl
def DH:Lp:=⟨135,58,RP,fun vs rs=>dC BB BC (goN j5 (PL vs rs)) [aB.ae.exit 0,aB.ae.ret],false⟩
theorem aei:DH.Ok Tryz.prog:=b8 funcs mixed ah.nil au.nil (L:=9) (n:=9) (step:=j5) (ev:=BB) (er:=BC) (pa:=PL) rfl (fun wv wr=>⟨by kernel_rfl,by kernel_rfl⟩) Zw
theorem WS:bZ Tryz.prog DH.f DH.p=true:=by kernel_rfl
def Zx:List (Nat×(List KV->KR KV)):=[]
def Zy:List Lp:=[DH]
theorem ahQ:ah Tryz.prog Zx:=ah.nil
theorem ahR:au Tryz.prog Zy:=(au.cons aei WS au.nil)
def Bi (l:(Sl Int)):(aW jY):=(goN j5 (⟨l,false,(0:Int),l,((l.n:Nat):Int),(0:Int)⟩:jY))
def Cz (l:(Sl Int)):Option (Bool):=(cond ((Bi l).by (aB.ae.exit 0)) (some ((decide ((((Bi l).st.l.n:Nat):Int)<=(16:Int))))) (cond ((Bi l).by aB.ae.ret) (some ((Bi l).st.t2)) none))
theorem ajJ (l:(Sl Int)):cD Tryz.prog (bp Tryz.prog Zx Zy (fun q=>Nat.beq q 3)) 9 9 135 [(eA 3 (kI .i64)) l] = (Cz l).map kB:=by
 unfold Cz
 try simp only [bq]
 kernel_rfl
def adh:List KV->KR KV:=bI Tryz.prog 135 (bL kB fun vs=>Cz ((dP ay) (vs.getD 0 .ao)))
theorem ahS (w:Nat->KV):ck Tryz.prog [36] w 0 = [(eA 3 (kI .i64)) ((dP ay) (ax Tryz.prog (ai Tryz.prog aj) 36 (w 0)))]:=by kernel_rfl
theorem ahT:bH Tryz.prog 135 adh:=aL funcs mixed ahQ ahR (L:=9) (n:=9) fun w=>by
 have e:aG Tryz.prog 135 = [36]:=by kernel_rfl
 rw [e,ahS]
 exact (ajJ ((dP ay) (ax Tryz.prog (ai Tryz.prog aj) 36 (w 0)))).trans (by kernel_rfl)
def RQ:List (Nat×(List KV->KR KV)):=[(135,adh),(134,OU),(133,GP)]
def RR:List Lp:=[]
theorem abC:ah Tryz.prog RQ:=(ah.cons ahT (ah.cons PK (ah.cons Jl ah.nil)))
theorem abD:au Tryz.prog RR:=au.nil
def GQ (n:Node):(Option Int):=(mV n.gd)
def GS (n:Node):(Option Int):=(wy n.cl)
def GU (n:Node):(Option Bool):=(Cz n.nc)
def xy (n:Node):Option (Node×Bool):=(cond (n.kind==(1:Int)) (some ((⟨n.kind,(⟨(⟨(⟨(0:Int),(0:Int),(0:Int)⟩:az),(⟨(0:Int),(0:Int),(0:Int)⟩:az),(⟨(0:Int),(0:Int),(0:Int)⟩:az)⟩:bw),(⟨(0:Int),(0:Int),(0:Int)⟩:fO)⟩:dm),(0:Int),(⟨(0:Int),(0:Int),(0:Int)⟩:fO),(⟨0,(fun i=>(0:Int))⟩:Sl _),(0:Int),n.b7⟩:Node),true)) (cond (n.kind==(2:Int)) (cond (GQ n).isSome (some ((⟨n.kind,n.gd,(0:Int),(⟨(0:Int),(0:Int),(0:Int)⟩:fO),(⟨0,(fun i=>(0:Int))⟩:Sl _),(0:Int),n.b7⟩:Node),(((GQ n).getD default)==(0:Int)))) none) (cond (n.kind==(3:Int)) (some ((⟨n.kind,(⟨(⟨(⟨(0:Int),(0:Int),(0:Int)⟩:az),(⟨(0:Int),(0:Int),(0:Int)⟩:az),(⟨(0:Int),(0:Int),(0:Int)⟩:az)⟩:bw),(⟨(0:Int),(0:Int),(0:Int)⟩:fO)⟩:dm),n.uB,(⟨(0:Int),(0:Int),(0:Int)⟩:fO),(⟨0,(fun i=>(0:Int))⟩:Sl _),(0:Int),n.b7⟩:Node),true)) (cond (n.kind==(4:Int)) (cond (GS n).isSome (cond (((GS n).getD default)==(0:Int)) (cond (GU n).isSome (some ((⟨n.kind,(⟨(⟨(⟨(0:Int),(0:Int),(0:Int)⟩:az),(⟨(0:Int),(0:Int),(0:Int)⟩:az),(⟨(0:Int),(0:Int),(0:Int)⟩:az)⟩:bw),(⟨(0:Int),(0:Int),(0:Int)⟩:fO)⟩:dm),(0:Int),n.cl,n.nc,(0:Int),n.b7⟩:Node),((GU n).getD default))) none) (some ((⟨n.kind,(⟨(⟨(⟨(0:Int),(0:Int),(0:Int)⟩:az),(⟨(0:Int),(0:Int),(0:Int)⟩:az),(⟨(0:Int),(0:Int),(0:Int)⟩:az)⟩:bw),(⟨(0:Int),(0:Int),(0:Int)⟩:fO)⟩:dm),(0:Int),n.cl,n.nc,(0:Int),n.b7⟩:Node),false))) none) (cond (n.kind==(5:Int)) (some ((⟨n.kind,(⟨(⟨(⟨(0:Int),(0:Int),(0:Int)⟩:az),(⟨(0:Int),(0:Int),(0:Int)⟩:az),(⟨(0:Int),(0:Int),(0:Int)⟩:az)⟩:bw),(⟨(0:Int),(0:Int),(0:Int)⟩:fO)⟩:dm),(0:Int),(⟨(0:Int),(0:Int),(0:Int)⟩:fO),(⟨0,(fun i=>(0:Int))⟩:Sl _),n.cJ,n.b7⟩:Node),true)) (some ((⟨n.kind,(⟨(⟨(⟨(0:Int),(0:Int),(0:Int)⟩:az),(⟨(0:Int),(0:Int),(0:Int)⟩:az),(⟨(0:Int),(0:Int),(0:Int)⟩:az)⟩:bw),(⟨(0:Int),(0:Int),(0:Int)⟩:fO)⟩:dm),(0:Int),(⟨(0:Int),(0:Int),(0:Int)⟩:fO),(⟨0,(fun i=>(0:Int))⟩:Sl _),(0:Int),n.b7⟩:Node),false)))))))
theorem aej (n:Node):cD Tryz.prog (bp Tryz.prog RQ RR (fun q=>Nat.beq q 3)) 9 9 79 [lE n] = (xy n).map (fun (r:Node×Bool)=>KV.nb [lE r.1,kB r.2]):=by
 unfold xy
 try simp only [bq]
 kernel_rfl
def U0:List KV->KR KV:=bI Tryz.prog 79 (bL (fun (r:Node×Bool)=>KV.nb [lE r.1,kB r.2]) fun vs=>xy (ie (vs.getD 0 .ao)))
theorem abE (w:Nat->KV):ck Tryz.prog [77] w 0 = [lE (ie (ax Tryz.prog (ai Tryz.prog aj) 77 (w 0)))]:=by kernel_rfl
theorem abF:bH Tryz.prog 79 U0:=aL funcs mixed abC abD (L:=9) (n:=9) fun w=>by
 have e:aG Tryz.prog 79 = [77]:=by kernel_rfl
 rw [e,abE]
 exact (aej (ie (ax Tryz.prog (ai Tryz.prog aj) 77 (w 0)))).trans (by kernel_rfl)
structure eh where
 s1:(Sl Int)
 s2:(Sl Int)
 t4:Bool
 t12:Int
 t13:Int
instance:Inhabited eh:=⟨⟨default,default,default,default,default⟩⟩
def pW (x:eh):List KV:=[eA 3 (kI .i64) x.s1,eA 3 (kI .i64) x.s2,.bool x.t4,.int .i64 x.t12,.int .i64 x.t13]
def pX (x:eh):List (List KV):=[]
def CA (vs:List KV) (rs:List (List KV)):eh:=⟨dP ay (vs.getD 0 .ao),dP ay (vs.getD 1 .ao),dj (vs.getD 2 .ao),ay (vs.getD 3 .ao),ay (vs.getD 4 .ao)⟩
def DI:aV:=⟨[(0,⟨false,[.k (.slice 3)]⟩),(1,⟨false,[.k (.slice 3)]⟩),(4,⟨false,[.k .bool]⟩),(12,⟨false,[.k (.int .i64)]⟩),(13,⟨false,[.k (.int .i64)]⟩)],[],[]⟩
def Nf:=dB Tryz.prog (bp Tryz.prog [] [] (fun q=>Nat.beq q 3)) 9 9 127 58 (dF Tryz.prog 127 58) DI
def eE (x:eh):aW eh:=(cond (decide (x.t13 < x.t12)) (cond ((decide ((0:Int)<=x.t13))&&(decide (x.t13 < ((x.s1.n:Nat):Int)))) (cond ((decide ((0:Int)<=x.t13))&&(decide (x.t13 < ((x.s2.n:Nat):Int)))) (cond ((x.s1.get (Int.toNat x.t13)) != (x.s2.get (Int.toNat x.t13))) (.out aB.ae.ret (⟨x.s1,x.s2,false,x.t12,x.t13⟩:eh)) (.next (⟨x.s1,x.s2,x.t4,x.t12,(aR (x.t13+(1:Int)))⟩:eh))) .fail) .fail) (.out (aB.ae.exit 0) x))
theorem JJ (x:eh):Nf (pW x) (pX x)=aW.enc pW pX (eE x):=by
 unfold eE
 try simp only [aW.cf]
 kernel_rfl
def rz:Lp:=⟨127,58,DI,fun vs rs=>dC pW pX (goN eE (CA vs rs)) [aB.ae.exit 0,aB.ae.ret],false⟩
theorem Ng:rz.Ok Tryz.prog:=b8 funcs mixed ah.nil au.nil (L:=9) (n:=9) (step:=eE) (ev:=pW) (er:=pX) (pa:=CA) rfl (fun wv wr=>⟨by kernel_rfl,by kernel_rfl⟩) JJ
theorem Jm:bZ Tryz.prog rz.f rz.p=true:=by kernel_rfl
def Gd:List (Nat×(List KV->KR KV)):=[]
def Ge:List Lp:=[rz]
theorem OV:ah Tryz.prog Gd:=ah.nil
theorem OW:au Tryz.prog Ge:=(au.cons Ng Jm au.nil)
def sk (s1:(Sl Int)) (s2:(Sl Int)):(aW eh):=(goN eE (⟨s1,s2,false,((s1.n:Nat):Int),(0:Int)⟩:eh))
def oe (s1:(Sl Int)) (s2:(Sl Int)):Option (Bool):=(cond (((s1.n:Nat):Int) != ((s2.n:Nat):Int)) (some (false)) (cond ((sk s1 s2).by (aB.ae.exit 0)) (some (true)) (cond ((sk s1 s2).by aB.ae.ret) (some ((sk s1 s2).st.t4)) none)))
theorem P7 (s1:(Sl Int)) (s2:(Sl Int)):cD Tryz.prog (bp Tryz.prog Gd Ge (fun q=>Nat.beq q 3)) 9 9 127 [(eA 3 (kI .i64)) s1,(eA 3 (kI .i64)) s2] = (oe s1 s2).map kB:=by
 unfold oe
 try simp only [bq]
 kernel_rfl
def G7:List KV->KR KV:=bI Tryz.prog 127 (bL kB fun vs=>oe ((dP ay) (vs.getD 0 .ao)) ((dP ay) (vs.getD 1 .ao)))
theorem OX (w:Nat->KV):ck Tryz.prog [36,36] w 0 = [(eA 3 (kI .i64)) ((dP ay) (ax Tryz.prog (ai Tryz.prog aj) 36 (w 0))),(eA 3 (kI .i64)) ((dP ay) (ax Tryz.prog (ai Tryz.prog aj) 36 (w 1)))]:=by kernel_rfl
theorem OY:bH Tryz.prog 127 G7:=aL funcs mixed OV OW (L:=9) (n:=9) fun w=>by
 have e:aG Tryz.prog 127 = [36,36]:=by kernel_rfl
 rw [e,OX]
 exact (P7 ((dP ay) (ax Tryz.prog (ai Tryz.prog aj) 36 (w 0))) ((dP ay) (ax Tryz.prog (ai Tryz.prog aj) 36 (w 1)))).trans (by kernel_rfl)
def U1:List (Nat×(List KV->KR KV)):=[(127,G7)]
def U2:List Lp:=[]
theorem aek:ah Tryz.prog U1:=(ah.cons OY ah.nil)
theorem ael:au Tryz.prog U2:=au.nil
def Jn (a:Node) (b:Node):(Option Bool):=(oe a.nc b.nc)
def wz (a:Node) (b:Node):Option (Bool):=(cond (a.kind==b.kind) (cond ((a.gd.m.e0.e0==b.gd.m.e0.e0)&&((a.gd.m.e0.e1==b.gd.m.e0.e1)&&((a.gd.m.e0.e2==b.gd.m.e0.e2)&&((a.gd.m.e1.e0==b.gd.m.e1.e0)&&((a.gd.m.e1.e1==b.gd.m.e1.e1)&&((a.gd.m.e1.e2==b.gd.m.e1.e2)&&((a.gd.m.e2.e0==b.gd.m.e2.e0)&&((a.gd.m.e2.e1==b.gd.m.e2.e1)&&((a.gd.m.e2.e2==b.gd.m.e2.e2)&&((a.gd.t.x==b.gd.t.x)&&((a.gd.t.y==b.gd.t.y)&&((a.gd.t.z==b.gd.t.z)&&true)))))))))))) (cond (a.uB==b.uB) (cond ((a.cl.x==b.cl.x)&&((a.cl.y==b.cl.y)&&((a.cl.z==b.cl.z)&&true))) (cond (Jn a b).isSome (cond ((Jn a b).getD default) (cond (a.cJ==b.cJ) (some (((a.b7.bN.e0==b.b7.bN.e0)&&((a.b7.bN.e1==b.b7.bN.e1)&&((a.b7.bN.e2==b.b7.bN.e2)&&((a.b7.bN.e3==b.b7.bN.e3)&&((a.b7.bN.e4==b.b7.bN.e4)&&((a.b7.look.color.e0==b.b7.look.color.e0)&&((a.b7.look.color.e1==b.b7.look.color.e1)&&((a.b7.look.color.e2==b.b7.look.color.e2)&&((a.b7.look.color.e3==b.b7.look.color.e3)&&((a.b7.look.cN==b.b7.look.cN)&&((a.b7.look.lz==b.b7.look.lz)&&((a.b7.look.jW==b.b7.look.jW)&&((a.b7.look.ff==b.b7.look.ff)&&((a.b7.look.bin==b.b7.look.bin)&&true)))))))))))))))) (some (false))) (some (false))) none) (some (false))) (some (false))) (some (false))) (some (false)))
theorem ahU (a:Node) (b:Node):cD Tryz.prog (bp Tryz.prog U1 U2 (fun q=>Nat.beq q 3)) 9 9 76 [lE a,lE b] = (wz a b).map kB:=by
 unfold wz
 try simp only [bq]
 kernel_rfl
def Ab:List KV->KR KV:=bI Tryz.prog 76 (bL kB fun vs=>wz (ie (vs.getD 0 .ao)) (ie (vs.getD 1 .ao)))
theorem aem (w:Nat->KV):ck Tryz.prog [77,77] w 0 = [lE (ie (ax Tryz.prog (ai Tryz.prog aj) 77 (w 0))),lE (ie (ax Tryz.prog (ai Tryz.prog aj) 77 (w 1)))]:=by kernel_rfl
theorem xa:bH Tryz.prog 76 Ab:=aL funcs mixed aek ael (L:=9) (n:=9) fun w=>by
 have e:aG Tryz.prog 76 = [77,77]:=by kernel_rfl
 rw [e,aem]
 exact (ahU (ie (ax Tryz.prog (ai Tryz.prog aj) 77 (w 0))) (ie (ax Tryz.prog (ai Tryz.prog aj) 77 (w 1)))).trans (by kernel_rfl)
def Jo:List (Nat×(List KV->KR KV)):=[(80,Px),(76,Ab),(79,U0)]
def Jp:List Lp:=[]
theorem RS:ah Tryz.prog Jo:=(ah.cons Wr (ah.cons xa (ah.cons abF ah.nil)))
theorem RT:au Tryz.prog Jp:=au.nil
def uM (s:aP) (n:Node):(Option (Prod Node Bool)):=(xy n)
def AH (s:aP) (n:Node):(Option Bool):=(wz ((uM s n).getD default).fst n)
def AI (s:aP) (n:Node):(Option Int):=(tu n.b7)
def pY (s:aP) (n:Node):Option (Int):=(cond (uM s n).isSome (cond (!((uM s n).getD default).snd) (some ((8:Int))) (cond (AH s n).isSome (cond (!((AH s n).getD default)) (some ((8:Int))) (cond (AI s n).isSome (cond (((AI s n).getD default) != (0:Int)) (some ((8:Int))) (cond (n.kind==(5:Int)) (cond (decide (n.cJ < (0:Int))) (some ((8:Int))) (cond (decide (n.cJ >= ((s.bX.n:Nat):Int))) (some ((8:Int))) (cond (n.b7.bN.e1 != (0:Int)) (cond (decide (n.b7.look.cN >= ((s.dD.n:Nat):Int))) (some ((8:Int))) (some ((0:Int)))) (some ((0:Int)))))) (cond (n.b7.bN.e1 != (0:Int)) (cond (decide (n.b7.look.cN >= ((s.dD.n:Nat):Int))) (some ((8:Int))) (some ((0:Int)))) (some ((0:Int)))))) none)) none)) none)
theorem TP (s:aP) (n:Node):cD Tryz.prog (bp Tryz.prog Jo Jp (fun q=>Nat.beq q 3)) 9 9 27 [dx s,lE n] = (pY s n).map (kI .i64):=by
 unfold pY
 try simp only [bq]
 kernel_rfl
def tX:List KV->KR KV:=bI Tryz.prog 27 (bL (kI .i64) fun vs=>pY (b6 (vs.getD 0 .ao)) (ie (vs.getD 1 .ao)))
theorem RU (w:Nat->KV):ck Tryz.prog [34,77] w 0 = [dx (b6 (ax Tryz.prog (ai Tryz.prog aj) 34 (w 0))),lE (ie (ax Tryz.prog (ai Tryz.prog aj) 77 (w 1)))]:=by kernel_rfl
theorem tY:bH Tryz.prog 27 tX:=aL funcs mixed RS RT (L:=9) (n:=9) fun w=>by
 have e:aG Tryz.prog 27 = [34,77]:=by kernel_rfl
 rw [e,RU]
 exact (TP (b6 (ax Tryz.prog (ai Tryz.prog aj) 34 (w 0))) (ie (ax Tryz.prog (ai Tryz.prog aj) 77 (w 1)))).trans (by kernel_rfl)
structure bn where
 s:(Sl iU)
 t4:Int
 t7:Int
 t8:Int
instance:Inhabited bn:=⟨⟨default,default,default,default⟩⟩
def iA (x:bn):List KV:=[eA 88 n5 x.s,.fn (.func 69) [] [],.int .i64 x.t4,.int .i64 x.t7,.int .i64 x.t8]
def iB (x:bn):List (List KV):=[]
def oV (vs:List KV) (rs:List (List KV)):bn:=⟨dP jJ (vs.getD 0 .ao),ay (vs.getD 2 .ao),ay (vs.getD 3 .ao),ay (vs.getD 4 .ao)⟩
def pr:aV:=⟨[(0,⟨false,[.k (.slice 88)]⟩),(1,⟨false,[.lit (.fn (.func 69) [] [])]⟩),(4,⟨false,[.k (.int .i64)]⟩),(7,⟨false,[.k (.int .i64)]⟩),(8,⟨false,[.k (.int .i64)]⟩)],[],[]⟩
def xb:=dB Tryz.prog (bp Tryz.prog [(77,yO),(27,tX),(76,Ab),(73,yR),(72,vz),(70,Bh)] [] (fun q=>Nat.beq q 3)) 9 9 125 26 (dF Tryz.prog 125 26) pr
def ky (x:bn):(Option Int):=(xx (x.s.get (Int.toNat x.t8)))
def bU (x:bn):aW bn:=(cond (decide (x.t8 < x.t7)) (cond ((decide ((0:Int)<=x.t8))&&(decide (x.t8 < ((x.s.n:Nat):Int)))) (cond (ky x).isSome (cond (((ky x).getD default) != (0:Int)) (.out aB.ae.ret (⟨x.s,x.t8,x.t7,x.t8⟩:bn)) (.next (⟨x.s,x.t4,x.t7,(aR (x.t8+(1:Int)))⟩:bn))) .fail) .fail) (.out (aB.ae.exit 0) x))
theorem vG (x:bn):xb (iA x) (iB x)=aW.enc iA iB (bU x):=by
 unfold bU
 try simp only [aW.cf]
 kernel_rfl
def dQ:Lp:=⟨125,26,pr,fun vs rs=>dC iA iB (goN bU (oV vs rs)) [aB.ae.exit 0,aB.ae.ret],false⟩
theorem kO:dQ.Ok Tryz.prog:=b8 funcs mixed (ah.cons tN (ah.cons tY (ah.cons xa (ah.cons yg (ah.cons uL (ah.cons Aa ah.nil)))))) au.nil (L:=9) (n:=9) (step:=bU) (ev:=iA) (er:=iB) (pa:=oV) rfl (fun wv wr=>⟨by kernel_rfl,by kernel_rfl⟩) vG
theorem jZ:bZ Tryz.prog dQ.f dQ.p=true:=by kernel_rfl
structure bo where
 s:(Sl jf)
 t4:Int
 t7:Int
 t8:Int
instance:Inhabited bo:=⟨⟨default,default,default,default⟩⟩
def iC (x:bo):List KV:=[eA 91 jF x.s,.fn (.func 71) [] [],.int .i64 x.t4,.int .i64 x.t7,.int .i64 x.t8]
def iD (x:bo):List (List KV):=[]
def oW (vs:List KV) (rs:List (List KV)):bo:=⟨dP eM (vs.getD 0 .ao),ay (vs.getD 2 .ao),ay (vs.getD 3 .ao),ay (vs.getD 4 .ao)⟩
def pt:aV:=⟨[(0,⟨false,[.k (.slice 91)]⟩),(1,⟨false,[.lit (.fn (.func 71) [] [])]⟩),(4,⟨false,[.k (.int .i64)]⟩),(7,⟨false,[.k (.int .i64)]⟩),(8,⟨false,[.k (.int .i64)]⟩)],[],[]⟩
def xc:=dB Tryz.prog (bp Tryz.prog [(77,yO),(27,tX),(76,Ab),(73,yR),(72,vz),(70,Bh)] [dQ] (fun q=>Nat.beq q 3)) 9 9 126 26 (dF Tryz.prog 126 26) pt
def kz (x:bo):(Option Int):=(rU (x.s.get (Int.toNat x.t8)))
def bV (x:bo):aW bo:=(cond (decide (x.t8 < x.t7)) (cond ((decide ((0:Int)<=x.t8))&&(decide (x.t8 < ((x.s.n:Nat):Int)))) (cond (kz x).isSome (cond (((kz x).getD default) != (0:Int)) (.out aB.ae.ret (⟨x.s,x.t8,x.t7,x.t8⟩:bo)) (.next (⟨x.s,x.t4,x.t7,(aR (x.t8+(1:Int)))⟩:bo))) .fail) .fail) (.out (aB.ae.exit 0) x))
theorem vH (x:bo):xc (iC x) (iD x)=aW.enc iC iD (bV x):=by
 unfold bV
 try simp only [aW.cf]
 kernel_rfl
def fD:Lp:=⟨126,26,pt,fun vs rs=>dC iC iD (goN bV (oW vs rs)) [aB.ae.exit 0,aB.ae.ret],false⟩
theorem oX:fD.Ok Tryz.prog:=b8 funcs mixed (ah.cons tN (ah.cons tY (ah.cons xa (ah.cons yg (ah.cons uL (ah.cons Aa ah.nil)))))) (au.cons kO jZ au.nil) (L:=9) (n:=9) (step:=bV) (ev:=iC) (er:=iD) (pa:=oW) rfl (fun wv wr=>⟨by kernel_rfl,by kernel_rfl⟩) vH
theorem nA:bZ Tryz.prog fD.f fD.p=true:=by kernel_rfl
structure ct where
 t2:Int
 t46:(Sl Node)
 t47:Int
 t48:Int
 s:aP
instance:Inhabited ct:=⟨⟨default,default,default,default,default⟩⟩
def wA (x:ct):List KV:=[.int .i64 x.t2,eA 77 lE x.t46,.int .i64 x.t47,.int .i64 x.t48]
def wB (x:ct):List (List KV):=[uG x.s]
def Jq (vs:List KV) (rs:List (List KV)):ct:=⟨ay (vs.getD 0 .ao),dP ie (vs.getD 1 .ao),ay (vs.getD 2 .ao),ay (vs.getD 3 .ao),uH (fun k=>(rs.getD 0 []).getD k .ao)⟩
def KH:aV:=⟨[(2,⟨false,[.k (.int .i64)]⟩),(46,⟨false,[.k (.slice 77)]⟩),(47,⟨false,[.k (.int .i64)]⟩),(48,⟨false,[.k (.int .i64)]⟩)],[(1,[.k (.slice 111),.k (.slice 35),.k (.slice 77),.k (.slice 88),.k (.slice 91),.k (.int .i64),.k (.int .i64)],1)],[(1,0,0)]⟩
def WT:=dB Tryz.prog (bp Tryz.prog [(77,yO),(27,tX),(76,Ab),(73,yR),(72,vz),(70,Bh)] [dQ,fD] (fun q=>Nat.beq q 3)) 9 9 25 250 (dF Tryz.prog 25 250) KH
def AJ (x:ct):(Option Bool):=(wz (x.t46.get (Int.toNat x.t48)) (⟨(0:Int),(⟨(⟨(⟨(0:Int),(0:Int),(0:Int)⟩:az),(⟨(0:Int),(0:Int),(0:Int)⟩:az),(⟨(0:Int),(0:Int),(0:Int)⟩:az)⟩:bw),(⟨(0:Int),(0:Int),(0:Int)⟩:fO)⟩:dm),(0:Int),(⟨(0:Int),(0:Int),(0:Int)⟩:fO),(⟨0,(fun i=>(0:Int))⟩:Sl _),(0:Int),(⟨(⟨(0:Int),(0:Int),(0:Int),(0:Int),(0:Int)⟩:AB),(⟨(⟨(0:Int),(0:Int),(0:Int),(0:Int)⟩:Color),(0:Int),(0:Int),(0:Int),false,(0:Int)⟩:ir)⟩:gN)⟩:Node))
def ra (x:ct):(Option Int):=(pY x.s (x.t46.get (Int.toNat x.t48)))
def hY (x:ct):aW ct:=(cond (decide (x.t48 < x.t47)) (cond ((decide ((0:Int)<=x.t48))&&(decide (x.t48 < ((x.t46.n:Nat):Int)))) (cond ((decide ((0:Int)<=x.t48))&&(decide (x.t48 < ((x.s.graph.ca.bJ.n:Nat):Int)))) (cond (!(x.s.graph.ca.bJ.get (Int.toNat x.t48)).live) (cond (AJ x).isSome (cond (!((AJ x).getD default)) (.out aB.ae.ret (⟨(8:Int),x.t46,x.t47,x.t48,x.s⟩:ct)) (cond ((decide ((0:Int)<=x.t48))&&(decide (x.t48 < ((x.s.graph.ca.bJ.n:Nat):Int)))) (cond (x.s.graph.ca.bJ.get (Int.toNat x.t48)).live (cond (ra x).isSome (cond (((ra x).getD default) != (0:Int)) (.out aB.ae.ret (⟨(8:Int),x.t46,x.t47,x.t48,x.s⟩:ct)) (cond ((x.t46.get (Int.toNat x.t48)).kind==(5:Int)) (cond ((decide ((0:Int)<=x.t48))&&(decide (x.t48 < ((x.s.graph.kids.n:Nat):Int)))) (cond (decide ((((x.s.graph.kids.get (Int.toNat x.t48)).n:Nat):Int) > (0:Int))) (.out aB.ae.ret (⟨(8:Int),x.t46,x.t47,x.t48,x.s⟩:ct)) (.next (⟨x.t2,x.t46,x.t47,(aR (x.t48+(1:Int))),x.s⟩:ct))) .fail) (.next (⟨x.t2,x.t46,x.t47,(aR (x.t48+(1:Int))),x.s⟩:ct)))) .fail) (.next (⟨x.t2,x.t46,x.t47,(aR (x.t48+(1:Int))),x.s⟩:ct))) .fail)) .fail) (cond ((decide ((0:Int)<=x.t48))&&(decide (x.t48 < ((x.s.graph.ca.bJ.n:Nat):Int)))) (cond (x.s.graph.ca.bJ.get (Int.toNat x.t48)).live (cond (ra x).isSome (cond (((ra x).getD default) != (0:Int)) (.out aB.ae.ret (⟨(8:Int),x.t46,x.t47,x.t48,x.s⟩:ct)) (cond ((x.t46.get (Int.toNat x.t48)).kind==(5:Int)) (cond ((decide ((0:Int)<=x.t48))&&(decide (x.t48 < ((x.s.graph.kids.n:Nat):Int)))) (cond (decide ((((x.s.graph.kids.get (Int.toNat x.t48)).n:Nat):Int) > (0:Int))) (.out aB.ae.ret (⟨(8:Int),x.t46,x.t47,x.t48,x.s⟩:ct)) (.next (⟨x.t2,x.t46,x.t47,(aR (x.t48+(1:Int))),x.s⟩:ct))) .fail) (.next (⟨x.t2,x.t46,x.t47,(aR (x.t48+(1:Int))),x.s⟩:ct)))) .fail) (.next (⟨x.t2,x.t46,x.t47,(aR (x.t48+(1:Int))),x.s⟩:ct))) .fail)) .fail) .fail) (.out (aB.ae.exit 0) x))
theorem RV (x:ct):WT (wA x) (wB x)=aW.enc wA wB (hY x):=by
 unfold hY
 try simp only [aW.cf]
 kernel_rfl
def yj:Lp:=⟨25,250,KH,fun vs rs=>dC wA wB (goN hY (Jq vs rs)) [aB.ae.exit 0,aB.ae.ret],false⟩
theorem WU:yj.Ok Tryz.prog:=b8 funcs mixed (ah.cons tN (ah.cons tY (ah.cons xa (ah.cons yg (ah.cons uL (ah.cons Aa ah.nil)))))) (au.cons kO jZ (au.cons oX nA au.nil)) (L:=9) (n:=9) (step:=hY) (ev:=wA) (er:=wB) (pa:=Jq) rfl (fun wv wr=>⟨by kernel_rfl,by kernel_rfl⟩) RV
theorem P8:bZ Tryz.prog yj.f yj.p=true:=by kernel_rfl
def RW:List (Nat×(List KV->KR KV)):=[(77,yO),(27,tX),(76,Ab),(73,yR),(72,vz),(70,Bh)]
def RX:List Lp:=[yj,dQ,fD]
theorem abG:ah Tryz.prog RW:=(ah.cons tN (ah.cons tY (ah.cons xa (ah.cons yg (ah.cons uL (ah.cons Aa ah.nil))))))
theorem abH:au Tryz.prog RX:=(au.cons WU P8 (au.cons kO jZ (au.cons oX nA au.nil)))
def GV (s:aP):(Option Int):=(Jf s.graph)
def BD (s:aP):(aW bn):=(goN bU (⟨s.bX,(0:Int),((s.bX.n:Nat):Int),(0:Int)⟩:bn))
def qS (s:aP):(aW bo):=(goN bV (⟨s.dD,(0:Int),((s.dD.n:Nat):Int),(0:Int)⟩:bo))
def cZ (s:aP):(aW ct):=(goN hY (⟨(0:Int),s.nodes,((s.nodes.n:Nat):Int),(0:Int),s⟩:ct))
def mW (s:aP):(Option Bool):=(eG (cZ s).st.s.graph.ca (cZ s).st.s.root)
def xz (s:aP):Option (Int):=(cond (GV s).isSome (cond (((GV s).getD default) != (0:Int)) (some ((8:Int))) (cond (((s.nodes.n:Nat):Int) != ((s.graph.kids.n:Nat):Int)) (some ((8:Int))) (cond (decide (((s.bX.n:Nat):Int) > (32:Int))) (some ((8:Int))) (cond ((BD s).by (aB.ae.exit 0)) (cond (decide (((s.dD.n:Nat):Int) > (16:Int))) (some ((8:Int))) (cond ((qS s).by (aB.ae.exit 0)) (cond ((cZ s).by (aB.ae.exit 0)) (cond (!(((cZ s).st.s.root.slot==(0:Int))&&(((cZ s).st.s.root.gen==(0:Int))&&true))) (cond (mW s).isSome (cond (!((mW s).getD default)) (some ((8:Int))) (some ((0:Int)))) none) (some ((0:Int)))) (cond ((cZ s).by aB.ae.ret) (some ((cZ s).st.t2)) none)) (cond ((qS s).by aB.ae.ret) (cond (decide ((qS s).st.t4 >= (0:Int))) (some ((8:Int))) (cond ((cZ s).by (aB.ae.exit 0)) (cond (!(((cZ s).st.s.root.slot==(0:Int))&&(((cZ s).st.s.root.gen==(0:Int))&&true))) (cond (mW s).isSome (cond (!((mW s).getD default)) (some ((8:Int))) (some ((0:Int)))) none) (some ((0:Int)))) (cond ((cZ s).by aB.ae.ret) (some ((cZ s).st.t2)) none))) none))) (cond ((BD s).by aB.ae.ret) (cond (decide ((BD s).st.t4 >= (0:Int))) (some ((8:Int))) (cond (decide (((s.dD.n:Nat):Int) > (16:Int))) (some ((8:Int))) (cond ((qS s).by (aB.ae.exit 0)) (cond ((cZ s).by (aB.ae.exit 0)) (cond (!(((cZ s).st.s.root.slot==(0:Int))&&(((cZ s).st.s.root.gen==(0:Int))&&true))) (cond (mW s).isSome (cond (!((mW s).getD default)) (some ((8:Int))) (some ((0:Int)))) none) (some ((0:Int)))) (cond ((cZ s).by aB.ae.ret) (some ((cZ s).st.t2)) none)) (cond ((qS s).by aB.ae.ret) (cond (decide ((qS s).st.t4 >= (0:Int))) (some ((8:Int))) (cond ((cZ s).by (aB.ae.exit 0)) (cond (!(((cZ s).st.s.root.slot==(0:Int))&&(((cZ s).st.s.root.gen==(0:Int))&&true))) (cond (mW s).isSome (cond (!((mW s).getD default)) (some ((8:Int))) (some ((0:Int)))) none) (some ((0:Int)))) (cond ((cZ s).by aB.ae.ret) (some ((cZ s).st.t2)) none))) none)))) none))))) none)
theorem aen (s:aP):cD Tryz.prog (bp Tryz.prog RW RX (fun q=>Nat.beq q 3)) 9 9 25 [dx s] = (xz s).map (kI .i64):=by
 unfold xz
 try simp only [bq]
 kernel_rfl
def U3:List KV->KR KV:=bI Tryz.prog 25 (bL (kI .i64) fun vs=>xz (b6 (vs.getD 0 .ao)))
theorem abI (w:Nat->KV):ck Tryz.prog [34] w 0 = [dx (b6 (ax Tryz.prog (ai Tryz.prog aj) 34 (w 0)))]:=by kernel_rfl
theorem abJ:bH Tryz.prog 25 U3:=aL funcs mixed abG abH (L:=9) (n:=9) fun w=>by
 have e:aG Tryz.prog 25 = [34]:=by kernel_rfl
 rw [e,abI]
 exact (aen (b6 (ax Tryz.prog (ai Tryz.prog aj) 34 (w 0)))).trans (by kernel_rfl)
def KI:List (Nat×(List KV->KR KV)):=[]
def KK:List Lp:=[]
theorem TQ:ah Tryz.prog KI:=ah.nil
theorem TR:au Tryz.prog KK:=au.nil
def EV (s:(Sl Int)):Option ((Sl Int)):=(cond (Nat.blt 0 s.n) (cond ((Nat.blt 0 s.n)&&(kD 8 0 s.n)) (some (((Sl.lit []).join s))) none) none)
theorem WV (s:(Sl Int)):cD Tryz.prog (bp Tryz.prog KI KK (fun _=>false)) 9 9 98 [(eA 3 (kI .i64)) s] = (EV s).map (eA 3 (kI .i64)):=by
 unfold EV
 try simp only [bq,fY,iK,je]
 kernel_rfl
def abK:List KV->KR KV:=bI Tryz.prog 98 (bL (eA 3 (kI .i64)) fun vs=>EV ((dP ay) (vs.getD 0 .ao)))
theorem G8 (w:Nat->KV):ck Tryz.prog [36] w 0 = [(eA 3 (kI .i64)) ((dP ay) (ax Tryz.prog (ai Tryz.prog aj) 36 (w 0)))]:=by kernel_rfl
theorem TS:bH Tryz.prog 98 abK:=aL funcs mixed TQ TR (L:=9) (n:=9) fun w=>by
 have e:aG Tryz.prog 98 = [36]:=by kernel_rfl
 rw [e,G8]
 exact (WV ((dP ay) (ax Tryz.prog (ai Tryz.prog aj) 36 (w 0)))).trans (by kernel_rfl)
end
end Go.Proofs.YtckbdndhmcoihaaGreat.b
end
section
namespace Go.K
open Go Go.aB
variable {P:Program} {E:Env}
theorem asv {t e:TypeId} {i:TypeInfo} (h:P.underlying t=some (.slice e)) (hi:P.info? e=some i) (b:Addr) (a:Option Addr) (c:Nat) (w:World):(Builtin.append_ #[t,t] t #[.slice (some b) 0 0,.slice a 0 c]).run P w = .ok (.slice (some b) 0 0) w:=by
 cases a <;> simp [Builtin.append_,aB.bP h,sizeOf,typeInfo,hi,Builtin.lenOf,Builtin.firstCells,loadCells,loadCellsFrom,storeCells]
structure ak2 (P:Program) (g:FuncId) (e:TypeId):Prop where
 nil:∀ c w,Calls P g #[.slice none 0 c] w fun r w'=>r = .returned (.slice none 0 0)/\w' = w
 some:∀ a c w,Calls P g #[.slice (some a) 0 c] w fun r w'=>r = .returned (.slice (some ⟨w.heap.size,0,none⟩) 0 0)/\w' = w.alloc (.cells #[] e)
def Gf {α:Type} (b:Nat) (s:Sl α):Option (Sl α):=cond (kD b 0 s.n) (some s) none
theorem Sl.asw {α:Type} [Inhabited α] (s:Sl α):(Sl.lit []).join s=s:=by
 cases s with
 | mk n f=>
  unfold Sl.join Sl.lit;simp only [List.length_nil,bM];congr 1
theorem VK.aua {T:TypeId} {a:Option Addr} {acc:Nat->KV} (h:XO E (bD P T) a 0 []):VK P E (.ts T .any 0 [] acc) (.slice a 0 0):=by
 simp only [VK];exact ⟨⟨rfl,fun i hi=>absurd hi (o8 _),rfl⟩,[],.nil,a,0,rfl,aU _,h,trivial⟩
theorem aoz {g:FuncId} {T t:TypeId} {b:Nat} {α:Type} {k:α->KV} {p:KV->α} {f1:Sl α->Option (Sl α)} [Inhabited α] (hn:ak2 P g T) (ht:aG P g = [t]) (hf:∀ s,f1 s=cond (Nat.blt 0 s.n) (cond (Nat.blt 0 s.n&&kD b 0 s.n) (some ((Sl.lit []).join s)) none) none)
  (avT:∀ w,ck P [t] w 0 = [eA T k (dP p (ax P (ai P aj) t (w 0)))]) (h1:bH P g (bI P g (bL (eA T k) fun vs=>f1 (dP p (vs.getD 0 .ao))))) (hc:Cn P g) :
  bH P g (bI P g (bL (eA T k) fun vs=>Gf b (dP p (vs.getD 0 .ao)))):=by
 intro args v hF hlen;refine ⟨hc,?_⟩;have hF0:=hF;unfold bI at hF;obtain ⟨hb,hF⟩:=bf.cond hF;obtain ⟨ww,hw⟩:=Ov 0 hb;rw [ht] at hw;rw [avT] at hw;rw [ht,hw] at hF;unfold bL at hF;obtain ⟨h2,h3⟩:=bf.lQ hF;have es:(([eA T k (dP p (ax P (ai P aj) t (ww 0)))] : List KV).getD 0 .ao)=eA T k (dP p (ax P (ai P aj) t (ww 0))):=rfl;have h2:(Gf b (dP p (([eA T k (dP p (ax P (ai P aj) t (ww 0)))] : List KV).getD 0 .ao))).isSome=true:=h2;have h3:eA T k ((Gf b (dP p (([eA T k (dP p (ax P (ai P aj) t (ww 0)))] : List KV).getD 0 .ao))).getD default)=v:=h3;rw [es] at h2 h3;generalize hs:dP p (eA T k (dP p (ax P (ai P aj) t (ww 0))))=s at h2 h3;cases hq:Nat.blt 0 s.n with
 | true=>
  have:bf (bI P g (bL (eA T k) fun vs=>f1 (dP p (vs.getD 0 .ao))) (normArgs P (aG P g) args)) v:=by
   unfold bI;rw [hb,ak,ht,hw];show bf (KR.lQ (f1 (dP p (([eA T k (dP p (ax P (ai P aj) t (ww 0)))] : List KV).getD 0 .ao))).isSome (eA T k ((f1 (dP p (([eA T k (dP p (ax P (ai P aj) t (ww 0)))] : List KV).getD 0 .ao))).getD default))) v;rw [es,hs,hf,hq];unfold Gf at h2 h3;cases ha:kD b 0 s.n with
   | false=>rw [ha] at h2; simp at h2
   | true=>
    rw [ha] at h3;simp only [dk,ak,Sl.asw];exact ⟨rfl,h3⟩
  exact (h1 args v this hlen).2
 | false=>
  have hz:s.n=0:=by
   apply Classical.byContradiction;intro hk;have:Nat.blt 0 s.n=true:=by rw [cq]; omega
   rw [hq] at this;simp at this
  have hv0:v = .ts T .any 0 [] fun i=>k (s.get i):=by
   have ha:kD b 0 s.n=true:=by
    unfold Gf at h2;cases ha:kD b 0 s.n with
    | true=>rfl
    | false=>rw [ha] at h2; simp at h2
   rw [<- h3];unfold Gf;rw [ha];show eA T k s=_;unfold eA;rw [hz];rfl
  intro E A B ρ base w ib hv hj;have Ij:ui P E ρ (normArgs P (aG P g) args) ib:=by
   obtain ⟨m,h1,h2⟩:=hv;exact ⟨m,bC.Q1 (.of rfl) h1 hlen,h2⟩
  rw [ht,hw] at Ij;obtain ⟨u,us,rfl,hu,Qr⟩:=Ij.Zk;obtain rfl:=Qr.amk;have hn0:(dP p (ax P (ai P aj) t (ww 0))).n=0:=(congrArg Sl.n hs).trans hz;unfold eA at hu;rw [hn0] at hu;obtain ⟨u',hk,hr⟩:=hu;obtain ⟨_,bK,_,a,cap,rfl,_,_,_⟩:=hk.mD;subst hv0;cases a with
  | none=>
   rw [hr.jr];refine (hn.nil cap w).mono ?_;rintro r w' ⟨rfl,rfl⟩;exact ⟨_,E,B,ρ,rfl,⟨.slice none 0 0,VK.aua (.inl ⟨rfl,rfl⟩),by simp [VR]⟩,.refl hj.k hj.s⟩
  | some a=>
   obtain ⟨_,_,_,a',c',_,_,_,_,rfl⟩:=hr.na;refine (hn.some a' c' w).mono ?_;rintro r w' ⟨rfl,rfl⟩;have g:=TW (cs:=[]) (c:=#[]) (cg:=bD P T) T hj.s (by unfold eo; rfl) (fun v hv=>by simp at hv);refine ⟨_,E.il B.next ⟨[],bD P T,true,none⟩,B.new (.row [] (bD P T) true none),ρ.set B.next ⟨w.heap.size,0,0,bD P T⟩,rfl,⟨.slice (some ⟨B.next,0,none⟩) 0 0,VK.aua (.inr ⟨B.next,0,⟨[],bD P T,true,none⟩,rfl,by simp [Env.il],rfl,fun i x hi=>by simp at hi⟩),?_⟩,(dR.ano hj.k).ev g⟩;simp only [VR];exact ⟨trivial,aU _,⟨w.heap.size,0,0,bD P T⟩,⟨w.heap.size,0,none⟩,0,by simp [Ren.set],aU _,fun h=>absurd rfl h,by simp,rfl⟩
end Go.K
end
section
set_option maxRecDepth 20000
namespace Go.Proofs.YtckbdndhmcoihaaGreat.b
open Go Go.RowKit Go.Lib Go.Shelf Go.K
noncomputable section
set_option maxHeartbeats 4000000 in
theorem ajK:ak2 Tryz.prog 98 3:=by
 have mixed:=nodes.HG;have t36:=Tryz.underlying36; have a36:=Tryz.isAgg36; have z36:=Tryz.sizeOf36; have v36:=Tryz.zeroValue36; have u36:=run_underlying Tryz.underlying36;have t3:=Tryz.underlying3; have a3:=Tryz.isAgg3; have z3:=Tryz.sizeOf3; have v3:=Tryz.zeroValue3; have u3:=run_underlying Tryz.underlying3;have h1:=fun (a:Option Addr) (n c:Nat) (w:World)=>Lib.run_eql_slice_nil (P:=Tryz.prog) w 36 3 a n c 0 0 Tryz.underlying36;have h2:=fun b=>asv Tryz.underlying36 (show Tryz.prog.info? 3=some _ from rfl) b;refine ⟨fun c w=>?_,fun a c w=>?_⟩
 ·go_enter Tryz.func98,Tryz.ntmps98
  go_wp2
  go_ret
  exact ⟨rfl,rfl⟩
 ·go_enter Tryz.func98,Tryz.ntmps98
  go_wp2
  go_ret
  exact ⟨rfl,rfl⟩
def wC (s:(Sl Int)):Option (Sl Int):=Gf 8 s
def Ce:List KV->KR KV:=bI Tryz.prog 98 (bL (eA 3 (kI .i64)) fun vs=>wC ((dP ay) (vs.getD 0 .ao)))
theorem D9:bH Tryz.prog 98 Ce:=aoz (b:=8) ajK (by kernel_rfl) (fun _=>rfl) G8 TS ⟨by kernel_rfl,_,Tryz.func98,rfl,by kernel_rfl⟩
set_option maxHeartbeats 4000000 in
set_option maxHeartbeats 4000000 in
set_option maxHeartbeats 4000000 in
set_option maxHeartbeats 4000000 in
end
end Go.Proofs.YtckbdndhmcoihaaGreat.b
end
section
namespace Go.Proofs.YtckbdndhmcoihaaGreat.b
open Go.K
noncomputable section
structure Path where
 nodes:(Sl Handle)
 kids:(Sl Int)
instance:Inhabited Path:=⟨⟨default,default⟩⟩
def RY (x:Path):List KV:=[eA 32 dL x.nodes,eA 3 (kI .i64) x.kids]
def sD (x:Path):KV:=.agg (RY x)
def RZ (c:Nat->KV):Path:=⟨dP cM (c 0),dP ay (c 1)⟩
def qT (v:KV):Path:=RZ fun k=>v.cells.getD k .ao
structure fP where
 t5:Bool
 t19:(Sl Int)
 t20:Int
 t21:Int
 s:aP
 t4:Path
 p:Path
 h:Handle
instance:Inhabited fP:=⟨by constructor<;>exact default⟩
def tZ (x:fP):List KV:=[.bool x.t5,eA 3 (kI .i64) x.t19,.int .i64 x.t20,.int .i64 x.t21]
def ua (x:fP):List (List KV):=[uG x.s,RY x.t4,RY x.p,agM x.h]
def Gg (vs:List KV) (rs:List (List KV)):fP:=⟨dj (vs.getD 0 .ao),dP ay (vs.getD 1 .ao),ay (vs.getD 2 .ao),ay (vs.getD 3 .ao),uH (fun k=>(rs.getD 0 []).getD k .ao),RZ (fun k=>(rs.getD 1 []).getD k .ao),RZ (fun k=>(rs.getD 2 []).getD k .ao),agN (fun k=>(rs.getD 3 []).getD k .ao)⟩
def G9:aV:=⟨[(5,⟨false,[.k .bool]⟩),(19,⟨false,[.k (.slice 3)]⟩),(20,⟨false,[.k (.int .i64)]⟩),(21,⟨false,[.k (.int .i64)]⟩)],[(2,[.k (.slice 111),.k (.slice 35),.k (.slice 77),.k (.slice 88),.k (.slice 91),.k (.int .i64),.k (.int .i64)],1),(4,[.bA 32,.k (.slice 3)],1),(6,[.bA 32,.k (.slice 3)],1),(7,[.k (.int .i64),.k (.int .i64)],1)],[(2,0,0),(4,1,0),(6,2,0),(7,3,0)]⟩
def R0:=dB Tryz.prog (bp Tryz.prog [(98,Ce)] [] (fun q=>Nat.beq q 3)) 9 9 51 122 (dF Tryz.prog 51 122) G9
def kA (x:fP):aW fP:=(cond (decide (x.t21 < x.t20)) (cond ((decide ((0:Int)<=x.t21))&&(decide (x.t21 < ((x.t19.n:Nat):Int)))) (cond ((decide ((0:Int)<=x.h.slot))&&(decide (x.h.slot < ((x.s.graph.kids.n:Nat):Int)))) (cond (decide ((x.t19.get (Int.toNat x.t21)) < (0:Int))) (cond (cond (bz x.p.nodes.n x.p.nodes.n) true false) (.out aB.ae.ret (⟨false,x.t19,x.t20,x.t21,x.s,(⟨(⟨0,(fun i=>(⟨(0:Int),(0:Int)⟩:Handle))⟩:Sl _),(⟨0,(fun i=>(0:Int))⟩:Sl _)⟩:Path),x.p,x.h⟩:fP)) .fail) (cond (decide ((x.t19.get (Int.toNat x.t21)) >= (((x.s.graph.kids.get (Int.toNat x.h.slot)).n:Nat):Int))) (cond (cond (bz x.p.nodes.n x.p.nodes.n) true false) (.out aB.ae.ret (⟨false,x.t19,x.t20,x.t21,x.s,(⟨(⟨0,(fun i=>(⟨(0:Int),(0:Int)⟩:Handle))⟩:Sl _),(⟨0,(fun i=>(0:Int))⟩:Sl _)⟩:Path),x.p,x.h⟩:fP)) .fail) (cond ((decide ((0:Int)<=(x.t19.get (Int.toNat x.t21))))&&(decide ((x.t19.get (Int.toNat x.t21)) < (((x.s.graph.kids.get (Int.toNat x.h.slot)).n:Nat):Int)))) (cond ((bz x.p.nodes.n x.p.nodes.n)&&(kD 16 x.p.nodes.n 1)) (cond (cond (bz (x.p.nodes.n+1) (x.p.nodes.n+1)) (bz x.t4.nodes.n x.t4.nodes.n) false) (.next (⟨x.t5,x.t19,x.t20,(aR (x.t21+(1:Int))),x.s,x.t4,(⟨(x.p.nodes.push ((x.s.graph.kids.get (Int.toNat x.h.slot)).get (Int.toNat (x.t19.get (Int.toNat x.t21))))),x.p.kids⟩:Path),((x.s.graph.kids.get (Int.toNat x.h.slot)).get (Int.toNat (x.t19.get (Int.toNat x.t21))))⟩:fP)) .fail) .fail) .fail))) .fail) .fail) (cond (cond (bz x.p.nodes.n x.p.nodes.n) (bz x.t4.nodes.n x.t4.nodes.n) false) (.out (aB.ae.exit 0) x) .fail))
theorem OZ (x:fP):R0 (tZ x) (ua x)=aW.enc tZ ua (kA x):=by
 unfold kA
 try simp only [aW.cf,db]
 kernel_rfl
def uN:Lp:=⟨51,122,G9,fun vs rs=>dC tZ ua (goN kA (Gg vs rs)) [aB.ae.exit 0,aB.ae.ret],false⟩
theorem R1:uN.Ok Tryz.prog:=b8 funcs mixed (ah.cons D9 ah.nil) au.nil (L:=9) (n:=9) (step:=kA) (ev:=tZ) (er:=ua) (pa:=Gg) rfl (fun wv wr=>⟨by kernel_rfl,by kernel_rfl⟩) OZ
theorem Nh:bZ Tryz.prog uN.f uN.p=true:=by kernel_rfl
def Ni:List (Nat×(List KV->KR KV)):=[(98,Ce)]
def Nj:List Lp:=[uN]
theorem WW:ah Tryz.prog Ni:=(ah.cons D9 ah.nil)
theorem WX:au Tryz.prog Nj:=(au.cons R1 Nh au.nil)
def yk (s:aP) (kids:(Sl Int)):(Option (Sl Int)):=(wC kids)
def n9 (s:aP) (kids:(Sl Int)):(aW fP):=(goN kA (⟨false,kids,((kids.n:Nat):Int),(1:Int),s,(⟨(⟨0,(fun i=>(⟨(0:Int),(0:Int)⟩:Handle))⟩:Sl _),(⟨0,(fun i=>(0:Int))⟩:Sl _)⟩:Path),(⟨((Sl.lit [s.root]).push ((s.graph.kids.get (Int.toNat s.root.slot)).get (Int.toNat (kids.get 0)))),((yk s kids).getD default)⟩:Path),((s.graph.kids.get (Int.toNat s.root.slot)).get (Int.toNat (kids.get 0)))⟩:fP))
def tv (s:aP) (kids:(Sl Int)):Option (Path×Bool):=(cond (yk s kids).isSome (cond (decide ((0:Int) < ((kids.n:Nat):Int))) (cond (decide ((0:Int) < ((kids.n:Nat):Int))) (cond ((decide ((0:Int)<=s.root.slot))&&(decide (s.root.slot < ((s.graph.kids.n:Nat):Int)))) (cond (decide ((kids.get 0) < (0:Int))) (some ((⟨(⟨0,(fun i=>(⟨(0:Int),(0:Int)⟩:Handle))⟩:Sl _),(⟨0,(fun i=>(0:Int))⟩:Sl _)⟩:Path),false)) (cond (decide ((kids.get 0) >= (((s.graph.kids.get (Int.toNat s.root.slot)).n:Nat):Int))) (some ((⟨(⟨0,(fun i=>(⟨(0:Int),(0:Int)⟩:Handle))⟩:Sl _),(⟨0,(fun i=>(0:Int))⟩:Sl _)⟩:Path),false)) (cond ((decide ((0:Int)<=(kids.get 0)))&&(decide ((kids.get 0) < (((s.graph.kids.get (Int.toNat s.root.slot)).n:Nat):Int)))) (cond ((n9 s kids).by (aB.ae.exit 0)) (some ((n9 s kids).st.p,true)) (cond ((n9 s kids).by aB.ae.ret) (some ((n9 s kids).st.t4,(n9 s kids).st.t5)) none)) none))) none) none) (some ((⟨(Sl.lit [s.root]),((yk s kids).getD default)⟩:Path),true))) none)
theorem Zz (s:aP) (kids:(Sl Int)):cD Tryz.prog (bp Tryz.prog Ni Nj (fun q=>Nat.beq q 3)) 9 9 51 [dx s,(eA 3 (kI .i64)) kids] = (tv s kids).map (fun (r:Path×Bool)=>KV.nb [sD r.1,kB r.2]):=by
 unfold tv
 try simp only [bq,n9,db,dY,dZ]
 kernel_rfl
def PM:List KV->KR KV:=bI Tryz.prog 51 (bL (fun (r:Path×Bool)=>KV.nb [sD r.1,kB r.2]) fun vs=>tv (b6 (vs.getD 0 .ao)) ((dP ay) (vs.getD 1 .ao)))
theorem WY (w:Nat->KV):ck Tryz.prog [34,36] w 0 = [dx (b6 (ax Tryz.prog (ai Tryz.prog aj) 34 (w 0))),(eA 3 (kI .i64)) ((dP ay) (ax Tryz.prog (ai Tryz.prog aj) 36 (w 1)))]:=by kernel_rfl
theorem WZ:bH Tryz.prog 51 PM:=aL funcs mixed WW WX (L:=9) (n:=9) fun w=>by
 have e:aG Tryz.prog 51 = [34,36]:=by kernel_rfl
 rw [e,WY]
 exact (Zz (b6 (ax Tryz.prog (ai Tryz.prog aj) 34 (w 0))) ((dP ay) (ax Tryz.prog (ai Tryz.prog aj) 36 (w 1)))).trans (by kernel_rfl)
structure eK where
 s1:(Sl Handle)
 s2:(Sl Handle)
 t4:Bool
 t12:Int
 t13:Int
instance:Inhabited eK:=⟨⟨default,default,default,default,default⟩⟩
def rA (x:eK):List KV:=[eA 32 dL x.s1,eA 32 dL x.s2,.bool x.t4,.int .i64 x.t12,.int .i64 x.t13]
def rB (x:eK):List (List KV):=[]
def DJ (vs:List KV) (rs:List (List KV)):eK:=⟨dP cM (vs.getD 0 .ao),dP cM (vs.getD 1 .ao),dj (vs.getD 2 .ao),ay (vs.getD 3 .ao),ay (vs.getD 4 .ao)⟩
def Ea:aV:=⟨[(0,⟨false,[.k (.slice 32)]⟩),(1,⟨false,[.k (.slice 32)]⟩),(4,⟨false,[.k .bool]⟩),(12,⟨false,[.k (.int .i64)]⟩),(13,⟨false,[.k (.int .i64)]⟩)],[],[]⟩
def O0:=dB Tryz.prog (bp Tryz.prog [] [] (fun q=>Nat.beq q 3)) 9 9 99 58 (dF Tryz.prog 99 58) Ea
def eT (x:eK):aW eK:=(cond (decide (x.t13 < x.t12)) (cond ((decide ((0:Int)<=x.t13))&&(decide (x.t13 < ((x.s1.n:Nat):Int)))) (cond ((decide ((0:Int)<=x.t13))&&(decide (x.t13 < ((x.s2.n:Nat):Int)))) (cond (!(((x.s1.get (Int.toNat x.t13)).slot==(x.s2.get (Int.toNat x.t13)).slot)&&(((x.s1.get (Int.toNat x.t13)).gen==(x.s2.get (Int.toNat x.t13)).gen)&&true))) (.out aB.ae.ret (⟨x.s1,x.s2,false,x.t12,x.t13⟩:eK)) (.next (⟨x.s1,x.s2,x.t4,x.t12,(aR (x.t13+(1:Int)))⟩:eK))) .fail) .fail) (.out (aB.ae.exit 0) x))
theorem LI (x:eK):O0 (rA x) (rB x)=aW.enc rA rB (eT x):=by
 unfold eT
 try simp only [aW.cf]
 kernel_rfl
def sm:Lp:=⟨99,58,Ea,fun vs rs=>dC rA rB (goN eT (DJ vs rs)) [aB.ae.exit 0,aB.ae.ret],false⟩
theorem O1:sm.Ok Tryz.prog:=b8 funcs mixed ah.nil au.nil (L:=9) (n:=9) (step:=eT) (ev:=rA) (er:=rB) (pa:=DJ) rfl (fun wv wr=>⟨by kernel_rfl,by kernel_rfl⟩) LI
theorem JK:bZ Tryz.prog sm.f sm.p=true:=by kernel_rfl
def Ha:List (Nat×(List KV->KR KV)):=[]
def Hb:List Lp:=[sm]
theorem P9:ah Tryz.prog Ha:=ah.nil
theorem Qa:au Tryz.prog Hb:=(au.cons O1 JK au.nil)
def ub (s1:(Sl Handle)) (s2:(Sl Handle)):(aW eK):=(goN eT (⟨s1,s2,false,((s1.n:Nat):Int),(0:Int)⟩:eK))
def pD (s1:(Sl Handle)) (s2:(Sl Handle)):Option (Bool):=(cond (((s1.n:Nat):Int) != ((s2.n:Nat):Int)) (some (false)) (cond ((ub s1 s2).by (aB.ae.exit 0)) (some (true)) (cond ((ub s1 s2).by aB.ae.ret) (some ((ub s1 s2).st.t4)) none)))
theorem R2 (s1:(Sl Handle)) (s2:(Sl Handle)):cD Tryz.prog (bp Tryz.prog Ha Hb (fun q=>Nat.beq q 3)) 9 9 99 [(eA 32 dL) s1,(eA 32 dL) s2] = (pD s1 s2).map kB:=by
 unfold pD
 try simp only [bq]
 kernel_rfl
def Jr:List KV->KR KV:=bI Tryz.prog 99 (bL kB fun vs=>pD ((dP cM) (vs.getD 0 .ao)) ((dP cM) (vs.getD 1 .ao)))
theorem Qb (w:Nat->KV):ck Tryz.prog [35,35] w 0 = [(eA 32 dL) ((dP cM) (ax Tryz.prog (ai Tryz.prog aj) 35 (w 0))),(eA 32 dL) ((dP cM) (ax Tryz.prog (ai Tryz.prog aj) 35 (w 1)))]:=by kernel_rfl
theorem Qc:bH Tryz.prog 99 Jr:=aL funcs mixed P9 Qa (L:=9) (n:=9) fun w=>by
 have e:aG Tryz.prog 99 = [35,35]:=by kernel_rfl
 rw [e,Qb]
 exact (R2 ((dP cM) (ax Tryz.prog (ai Tryz.prog aj) 35 (w 0))) ((dP cM) (ax Tryz.prog (ai Tryz.prog aj) 35 (w 1)))).trans (by kernel_rfl)
def PN:List (Nat×(List KV->KR KV)):=[(99,Jr),(51,PM),(25,U3)]
def PO:List Lp:=[]
theorem ZA:ah Tryz.prog PN:=(ah.cons Qc (ah.cons WZ (ah.cons abJ ah.nil)))
theorem ZB:au Tryz.prog PO:=au.nil
def Ac (s:aP) (p:Path):(Option Int):=(xz s)
def Ad (s:aP) (p:Path):(Option (Prod Path Bool)):=(tv s p.kids)
def EW (s:aP) (p:Path):(Option Bool):=(pD ((Ad s p).getD default).fst.nodes p.nodes)
def vA (s:aP) (p:Path):Option (Int):=(cond (Ac s p).isSome (cond (((Ac s p).getD default) != (0:Int)) (some (((Ac s p).getD default))) (cond ((s.root.slot==(0:Int))&&((s.root.gen==(0:Int))&&true)) (some ((8:Int))) (cond (Ad s p).isSome (cond (!((Ad s p).getD default).snd) (some ((8:Int))) (cond (EW s p).isSome (cond (!((EW s p).getD default)) (some ((8:Int))) (some ((0:Int)))) none)) none))) none)
theorem abL (s:aP) (p:Path):cD Tryz.prog (bp Tryz.prog PN PO (fun q=>Nat.beq q 3)) 9 9 54 [dx s,sD p] = (vA s p).map (kI .i64):=by
 unfold vA
 try simp only [bq]
 kernel_rfl
def Js:List KV->KR KV:=bI Tryz.prog 54 (bL (kI .i64) fun vs=>vA (b6 (vs.getD 0 .ao)) (qT (vs.getD 1 .ao)))
theorem ZC (w:Nat->KV):ck Tryz.prog [34,38] w 0 = [dx (b6 (ax Tryz.prog (ai Tryz.prog aj) 34 (w 0))),sD (qT (ax Tryz.prog (ai Tryz.prog aj) 38 (w 1)))]:=by kernel_rfl
theorem KL:bH Tryz.prog 54 Js:=aL funcs mixed ZA ZB (L:=9) (n:=9) fun w=>by
 have e:aG Tryz.prog 54 = [34,38]:=by kernel_rfl
 rw [e,ZC]
 exact (abL (b6 (ax Tryz.prog (ai Tryz.prog aj) 34 (w 0))) (qT (ax Tryz.prog (ai Tryz.prog aj) 38 (w 1)))).trans (by kernel_rfl)
structure j2 where
 t4:Bool
 t5:Int
 t17:(Sl Int)
 t18:Int
 t19:Int
 s:aP
 p:Path
instance:Inhabited j2:=⟨by constructor<;>exact default⟩
def BF (x:j2):List KV:=[.bool x.t4,.int .i64 x.t5,eA 3 (kI .i64) x.t17,.int .i64 x.t18,.int .i64 x.t19]
def BG (x:j2):List (List KV):=[uG x.s,RY x.p]
def PQ (vs:List KV) (rs:List (List KV)):j2:=⟨dj (vs.getD 0 .ao),ay (vs.getD 1 .ao),dP ay (vs.getD 2 .ao),ay (vs.getD 3 .ao),ay (vs.getD 4 .ao),uH (fun k=>(rs.getD 0 []).getD k .ao),RZ (fun k=>(rs.getD 1 []).getD k .ao)⟩
def R3:aV:=⟨[(4,⟨false,[.k .bool]⟩),(5,⟨false,[.k (.int .i64)]⟩),(17,⟨false,[.k (.slice 3)]⟩),(18,⟨false,[.k (.int .i64)]⟩),(19,⟨false,[.k (.int .i64)]⟩)],[(2,[.k (.slice 111),.k (.slice 35),.k (.slice 77),.k (.slice 88),.k (.slice 91),.k (.int .i64),.k (.int .i64)],1),(3,[.k (.slice 32),.k (.slice 3)],1)],[(2,0,0),(3,1,0)]⟩
def aeo:=dB Tryz.prog (bp Tryz.prog [(54,Js)] [] (fun q=>Nat.beq q 3)) 9 9 20 58 (dF Tryz.prog 20 58) R3
def j6 (x:j2):aW j2:=(cond (decide (x.t19 < x.t18)) (cond ((decide ((0:Int)<=x.t19))&&(decide (x.t19 < ((x.t17.n:Nat):Int)))) (cond ((decide ((0:Int)<=x.t19))&&(decide (x.t19 < ((x.p.nodes.n:Nat):Int)))) (cond ((decide ((0:Int)<=(x.p.nodes.get (Int.toNat x.t19)).slot))&&(decide ((x.p.nodes.get (Int.toNat x.t19)).slot < ((x.s.nodes.n:Nat):Int)))) (cond ((x.s.nodes.get (Int.toNat (x.p.nodes.get (Int.toNat x.t19)).slot)).kind==(3:Int)) (cond (!(decide ((x.t17.get (Int.toNat x.t19)) < (0:Int)))) (cond ((w16 (((akm IntKind.u16 (Int.fdiv (x.s.nodes.get (Int.toNat (x.p.nodes.get (Int.toNat x.t19)).slot)).uB ((2:Int) ^ (min (Int.toNat (x.t17.get (Int.toNat x.t19))) 16))) (1:Int)):Nat):Int))==(0:Int)) (.out aB.ae.ret (⟨false,(0:Int),x.t17,x.t18,x.t19,x.s,x.p⟩:j2)) (.next (⟨x.t4,x.t5,x.t17,x.t18,(aR (x.t19+(1:Int))),x.s,x.p⟩:j2))) .fail) (.next (⟨x.t4,x.t5,x.t17,x.t18,(aR (x.t19+(1:Int))),x.s,x.p⟩:j2))) .fail) .fail) .fail) (.out (aB.ae.exit 0) x))
theorem ZD (x:j2):aeo (BF x) (BG x)=aW.enc BF BG (j6 x):=by
 unfold j6
 try simp only [aW.cf]
 kernel_rfl
def DK:Lp:=⟨20,58,R3,fun vs rs=>dC BF BG (goN j6 (PQ vs rs)) [aB.ae.exit 0,aB.ae.ret],false⟩
theorem aep:DK.Ok Tryz.prog:=b8 funcs mixed (ah.cons KL ah.nil) au.nil (L:=9) (n:=9) (step:=j6) (ev:=BF) (er:=BG) (pa:=PQ) rfl (fun wv wr=>⟨by kernel_rfl,by kernel_rfl⟩) ZD
theorem W0:bZ Tryz.prog DK.f DK.p=true:=by kernel_rfl
def ZE:List (Nat×(List KV->KR KV)):=[(54,Js)]
def ZF:List Lp:=[DK]
theorem ahV:ah Tryz.prog ZE:=(ah.cons KL ah.nil)
theorem ahW:au Tryz.prog ZF:=(au.cons aep W0 au.nil)
def FE (s:aP) (p:Path):(Option Int):=(vA s p)
def Bj (s:aP) (p:Path):(aW j2):=(goN j6 (⟨false,(0:Int),p.kids,((p.kids.n:Nat):Int),(0:Int),s,p⟩:j2))
def CB (s:aP) (p:Path):Option (Bool×Int):=(cond (FE s p).isSome (cond (((FE s p).getD default) != (0:Int)) (some (false,((FE s p).getD default))) (cond ((Bj s p).by (aB.ae.exit 0)) (some (true,(0:Int))) (cond ((Bj s p).by aB.ae.ret) (some ((Bj s p).st.t4,(Bj s p).st.t5)) none))) none)
theorem ajL (s:aP) (p:Path):cD Tryz.prog (bp Tryz.prog ZE ZF (fun q=>Nat.beq q 3)) 9 9 20 [dx s,sD p] = (CB s p).map (fun (r:Bool×Int)=>KV.nb [kB r.1,(kI .i64) r.2]):=by
 unfold CB
 try simp only [bq]
 kernel_rfl
def R4:List KV->KR KV:=bI Tryz.prog 20 (bL (fun (r:Bool×Int)=>KV.nb [kB r.1,(kI .i64) r.2]) fun vs=>CB (b6 (vs.getD 0 .ao)) (qT (vs.getD 1 .ao)))
theorem ahX (w:Nat->KV):ck Tryz.prog [34,38] w 0 = [dx (b6 (ax Tryz.prog (ai Tryz.prog aj) 34 (w 0))),sD (qT (ax Tryz.prog (ai Tryz.prog aj) 38 (w 1)))]:=by kernel_rfl
theorem R5:bH Tryz.prog 20 R4:=aL funcs mixed ahV ahW (L:=9) (n:=9) fun w=>by
 have e:aG Tryz.prog 20 = [34,38]:=by kernel_rfl
 rw [e,ahX]
 exact (ajL (b6 (ax Tryz.prog (ai Tryz.prog aj) 34 (w 0))) (qT (ax Tryz.prog (ai Tryz.prog aj) 38 (w 1)))).trans (by kernel_rfl)
def ZG:List (Nat×(List KV->KR KV)):=[]
def ZH:List Lp:=[]
theorem ahY:ah Tryz.prog ZG:=ah.nil
theorem ahZ:au Tryz.prog ZH:=au.nil
def Gh  : Option (dm):=(some ((⟨(⟨(⟨(256:Int),(0:Int),(0:Int)⟩:az),(⟨(0:Int),(256:Int),(0:Int)⟩:az),(⟨(0:Int),(0:Int),(256:Int)⟩:az)⟩:bw),(⟨(0:Int),(0:Int),(0:Int)⟩:fO)⟩:dm)))
theorem ajM  : cD Tryz.prog (bp Tryz.prog ZG ZH (fun q=>Nat.beq q 3)) 9 9 44 [] = (Gh ).map mv:=by
 unfold Gh
 kernel_rfl
def R6:List KV->KR KV:=bI Tryz.prog 44 (bL mv fun vs=>Gh )
theorem ah0 (w:Nat->KV):ck Tryz.prog [] w 0 = []:=by kernel_rfl
theorem R7:bH Tryz.prog 44 R6:=aL funcs mixed ahY ahZ (L:=9) (n:=9) fun w=>by
 have e:aG Tryz.prog 44 = []:=by kernel_rfl
 rw [e,ah0]
 exact (ajM ).trans (by kernel_rfl)
def ZI:List (Nat×(List KV->KR KV)):=[]
def ZJ:List Lp:=[]
theorem ah1:ah Tryz.prog ZI:=ah.nil
theorem ah2:au Tryz.prog ZJ:=au.nil
def Gi (v:fO):Option (az):=(some ((⟨v.x,v.y,v.z⟩:az)))
theorem ajN (v:fO):cD Tryz.prog (bp Tryz.prog ZI ZJ (fun q=>Nat.beq q 3)) 9 9 206 [mu v] = (Gi v).map df:=by
 unfold Gi
 kernel_rfl
def adi:List KV->KR KV:=bI Tryz.prog 206 (bL df fun vs=>Gi (kM (vs.getD 0 .ao)))
theorem ah3 (w:Nat->KV):ck Tryz.prog [43] w 0 = [mu (kM (ax Tryz.prog (ai Tryz.prog aj) 43 (w 0)))]:=by kernel_rfl
theorem ah4:bH Tryz.prog 206 adi:=aL funcs mixed ah1 ah2 (L:=9) (n:=9) fun w=>by
 have e:aG Tryz.prog 206 = [43]:=by kernel_rfl
 rw [e,ah3]
 exact (ajN (kM (ax Tryz.prog (ai Tryz.prog aj) 43 (w 0)))).trans (by kernel_rfl)
def PR:List (Nat×(List KV->KR KV)):=[]
def PS:List Lp:=[]
theorem ZK:ah Tryz.prog PR:=ah.nil
theorem ZL:au Tryz.prog PS:=au.nil
def oa (a:Int) (b:Int):Option (Int×Int):=(cond (decide (b < (1:Int))) (some ((0:Int),(2:Int))) (cond (!(decide (b=(0:Int)))) (cond (!(decide (b=(0:Int)))) (cond (decide ((Int.tmod a b) < (0:Int))) (some ((aR ((aR (Int.tdiv a b)) - (1:Int))),(0:Int))) (some ((aR (Int.tdiv a b)),(0:Int)))) none) none))
theorem abM (a:Int) (b:Int):cD Tryz.prog (bp Tryz.prog PR PS (fun q=>Nat.beq q 3)) 9 9 207 [(kI .i64) a,(kI .i64) b] = (oa a b).map (fun (r:Int×Int)=>KV.nb [(kI .i64) r.1,(kI .i64) r.2]):=by
 unfold oa
 try simp only [bq]
 kernel_rfl
def R8:List KV->KR KV:=bI Tryz.prog 207 (bL (fun (r:Int×Int)=>KV.nb [(kI .i64) r.1,(kI .i64) r.2]) fun vs=>oa (ay (vs.getD 0 .ao)) (ay (vs.getD 1 .ao)))
theorem ZM (w:Nat->KV):ck Tryz.prog [3,3] w 0 = [(kI .i64) (ay (ax Tryz.prog (ai Tryz.prog aj) 3 (w 0))),(kI .i64) (ay (ax Tryz.prog (ai Tryz.prog aj) 3 (w 1)))]:=by kernel_rfl
theorem ZN:bH Tryz.prog 207 R8:=aL funcs mixed ZK ZL (L:=9) (n:=9) fun w=>by
 have e:aG Tryz.prog 207 = [3,3]:=by kernel_rfl
 rw [e,ZM]
 exact (abM (ay (ax Tryz.prog (ai Tryz.prog aj) 3 (w 0))) (ay (ax Tryz.prog (ai Tryz.prog aj) 3 (w 1)))).trans (by kernel_rfl)
def ZO:List (Nat×(List KV->KR KV)):=[(207,R8)]
def ZP:List Lp:=[]
theorem ah5:ah Tryz.prog ZO:=(ah.cons ZN ah.nil)
theorem ah6:au Tryz.prog ZP:=au.nil
def LJ (m:bw) (v:az):(Option (Prod Int Int)):=(oa (aR ((aR ((aR ((0:Int)+(aR (m.e0.e0 * v.e0))))+(aR (m.e0.e1 * v.e1))))+(aR (m.e0.e2 * v.e2)))) (256:Int))
def LK (m:bw) (v:az):(Option (Prod Int Int)):=(oa (aR ((aR ((aR ((0:Int)+(aR (m.e1.e0 * v.e0))))+(aR (m.e1.e1 * v.e1))))+(aR (m.e1.e2 * v.e2)))) (256:Int))
def LL (m:bw) (v:az):(Option (Prod Int Int)):=(oa (aR ((aR ((aR ((0:Int)+(aR (m.e2.e0 * v.e0))))+(aR (m.e2.e1 * v.e1))))+(aR (m.e2.e2 * v.e2)))) (256:Int))
def uc (m:bw) (v:az):Option (az):=(cond (LJ m v).isSome (cond (LK m v).isSome (cond (LL m v).isSome (some ((⟨((LJ m v).getD default).fst,((LK m v).getD default).fst,((LL m v).getD default).fst⟩:az))) none) none) none)
theorem ajO (m:bw) (v:az):cD Tryz.prog (bp Tryz.prog ZO ZP (fun q=>Nat.beq q 3)) 9 9 164 [gb m,df v] = (uc m v).map df:=by
 unfold uc
 try simp only [bq]
 kernel_rfl
def R9:List KV->KR KV:=bI Tryz.prog 164 (bL df fun vs=>uc (cV (vs.getD 0 .ao)) (dv (vs.getD 1 .ao)))
theorem ah7 (w:Nat->KV):ck Tryz.prog [41,40] w 0 = [gb (cV (ax Tryz.prog (ai Tryz.prog aj) 41 (w 0))),df (dv (ax Tryz.prog (ai Tryz.prog aj) 40 (w 1)))]:=by kernel_rfl
theorem Sa:bH Tryz.prog 164 R9:=aL funcs mixed ah5 ah6 (L:=9) (n:=9) fun w=>by
 have e:aG Tryz.prog 164 = [41,40]:=by kernel_rfl
 rw [e,ah7]
 exact (ajO (cV (ax Tryz.prog (ai Tryz.prog aj) 41 (w 0))) (dv (ax Tryz.prog (ai Tryz.prog aj) 40 (w 1)))).trans (by kernel_rfl)
def U4:List (Nat×(List KV->KR KV)):=[]
def U5:List Lp:=[]
theorem aeq:ah Tryz.prog U4:=ah.nil
theorem aer:au Tryz.prog U5:=au.nil
def DL (l:az):Option (fO):=(some ((⟨l.e0,l.e1,l.e2⟩:fO)))
theorem ah8 (l:az):cD Tryz.prog (bp Tryz.prog U4 U5 (fun q=>Nat.beq q 3)) 9 9 205 [df l] = (DL l).map mu:=by
 unfold DL
 kernel_rfl
def ZQ:List KV->KR KV:=bI Tryz.prog 205 (bL mu fun vs=>DL (dv (vs.getD 0 .ao)))
theorem aes (w:Nat->KV):ck Tryz.prog [40] w 0 = [df (dv (ax Tryz.prog (ai Tryz.prog aj) 40 (w 0)))]:=by kernel_rfl
theorem aet:bH Tryz.prog 205 ZQ:=aL funcs mixed aeq aer (L:=9) (n:=9) fun w=>by
 have e:aG Tryz.prog 205 = [40]:=by kernel_rfl
 rw [e,aes]
 exact (ah8 (dv (ax Tryz.prog (ai Tryz.prog aj) 40 (w 0)))).trans (by kernel_rfl)
def U6:List (Nat×(List KV->KR KV)):=[(205,ZQ),(164,R9),(206,adi)]
def U7:List Lp:=[]
theorem aeu:ah Tryz.prog U6:=(ah.cons aet (ah.cons Sa (ah.cons ah4 ah.nil)))
theorem aev:au Tryz.prog U7:=au.nil
def Jt (m:dm) (v:fO):(Option az):=(Gi v)
def Ju (m:dm) (v:fO):(Option az):=(uc m.m ((Jt m v).getD default))
def yS (m:dm) (v:fO):(Option fO):=(DL ((Ju m v).getD default))
def Ae (m:dm) (v:fO):Option (fO):=(cond (Jt m v).isSome (cond (Ju m v).isSome (cond (yS m v).isSome (some ((⟨(aR (((yS m v).getD default).x+m.t.x)),(aR (((yS m v).getD default).y+m.t.y)),(aR (((yS m v).getD default).z+m.t.z))⟩:fO))) none) none) none)
theorem ah9 (m:dm) (v:fO):cD Tryz.prog (bp Tryz.prog U6 U7 (fun q=>Nat.beq q 3)) 9 9 163 [mv m,mu v] = (Ae m v).map mu:=by
 unfold Ae
 try simp only [bq]
 kernel_rfl
def ZR:List KV->KR KV:=bI Tryz.prog 163 (bL mu fun vs=>Ae (mw (vs.getD 0 .ao)) (kM (vs.getD 1 .ao)))
theorem aew (w:Nat->KV):ck Tryz.prog [45,43] w 0 = [mv (mw (ax Tryz.prog (ai Tryz.prog aj) 45 (w 0))),mu (kM (ax Tryz.prog (ai Tryz.prog aj) 43 (w 1)))]:=by kernel_rfl
theorem aex:bH Tryz.prog 163 ZR:=aL funcs mixed aeu aev (L:=9) (n:=9) fun w=>by
 have e:aG Tryz.prog 163 = [45,43]:=by kernel_rfl
 rw [e,aew]
 exact (ah9 (mw (ax Tryz.prog (ai Tryz.prog aj) 45 (w 0))) (kM (ax Tryz.prog (ai Tryz.prog aj) 43 (w 1)))).trans (by kernel_rfl)
def adj:List (Nat×(List KV->KR KV)):=[(164,R9),(163,ZR),(133,GP)]
def adk:List Lp:=[]
theorem ajP:ah Tryz.prog adj:=(ah.cons Sa (ah.cons aex (ah.cons Jl ah.nil)))
theorem ajQ:au Tryz.prog adk:=au.nil
def O2 (a:dm) (b:dm):(Option Int):=(mV a)
def O3 (a:dm) (b:dm):(Option Int):=(mV b)
def DM (a:dm) (b:dm):(Option fO):=(Ae a b.t)
def rC (a:dm) (b:dm):(Option az):=(uc a.m (⟨b.m.e0.e0,b.m.e1.e0,b.m.e2.e0⟩:az))
def rD (a:dm) (b:dm):(Option az):=(uc a.m (⟨b.m.e0.e1,b.m.e1.e1,b.m.e2.e1⟩:az))
def rE (a:dm) (b:dm):(Option az):=(uc a.m (⟨b.m.e0.e2,b.m.e1.e2,b.m.e2.e2⟩:az))
def HK (a:dm) (b:dm):(Option Int):=(mV (⟨(⟨(⟨((rC a b).getD default).e0,((rD a b).getD default).e0,((rE a b).getD default).e0⟩:az),(⟨((rC a b).getD default).e1,((rD a b).getD default).e1,((rE a b).getD default).e1⟩:az),(⟨((rC a b).getD default).e2,((rD a b).getD default).e2,((rE a b).getD default).e2⟩:az)⟩:bw),((DM a b).getD default)⟩:dm))
def EX (a:dm) (b:dm):Option (dm×Int):=(cond (O2 a b).isSome (cond (((O2 a b).getD default) != (0:Int)) (some ((⟨(⟨(⟨(0:Int),(0:Int),(0:Int)⟩:az),(⟨(0:Int),(0:Int),(0:Int)⟩:az),(⟨(0:Int),(0:Int),(0:Int)⟩:az)⟩:bw),(⟨(0:Int),(0:Int),(0:Int)⟩:fO)⟩:dm),(20:Int))) (cond (O3 a b).isSome (cond (((O3 a b).getD default) != (0:Int)) (some ((⟨(⟨(⟨(0:Int),(0:Int),(0:Int)⟩:az),(⟨(0:Int),(0:Int),(0:Int)⟩:az),(⟨(0:Int),(0:Int),(0:Int)⟩:az)⟩:bw),(⟨(0:Int),(0:Int),(0:Int)⟩:fO)⟩:dm),(20:Int))) (cond (DM a b).isSome (cond (rC a b).isSome (cond (rD a b).isSome (cond (rE a b).isSome (cond (HK a b).isSome (cond (((HK a b).getD default) != (0:Int)) (some ((⟨(⟨(⟨(0:Int),(0:Int),(0:Int)⟩:az),(⟨(0:Int),(0:Int),(0:Int)⟩:az),(⟨(0:Int),(0:Int),(0:Int)⟩:az)⟩:bw),(⟨(0:Int),(0:Int),(0:Int)⟩:fO)⟩:dm),((HK a b).getD default))) (some ((⟨(⟨(⟨((rC a b).getD default).e0,((rD a b).getD default).e0,((rE a b).getD default).e0⟩:az),(⟨((rC a b).getD default).e1,((rD a b).getD default).e1,((rE a b).getD default).e1⟩:az),(⟨((rC a b).getD default).e2,((rD a b).getD default).e2,((rE a b).getD default).e2⟩:az)⟩:bw),((DM a b).getD default)⟩:dm),(0:Int)))) none) none) none) none) none)) none)) none)
theorem amq (a:dm) (b:dm):cD Tryz.prog (bp Tryz.prog adj adk (fun q=>Nat.beq q 3)) 9 9 94 [mv a,mv b] = (EX a b).map (fun (r:dm×Int)=>KV.nb [mv r.1,(kI .i64) r.2]):=by
 unfold EX
 try simp only [bq]
 kernel_rfl
def W6:List KV->KR KV:=bI Tryz.prog 94 (bL (fun (r:dm×Int)=>KV.nb [mv r.1,(kI .i64) r.2]) fun vs=>EX (mw (vs.getD 0 .ao)) (mw (vs.getD 1 .ao)))
theorem ajR (w:Nat->KV):ck Tryz.prog [45,45] w 0 = [mv (mw (ax Tryz.prog (ai Tryz.prog aj) 45 (w 0))),mv (mw (ax Tryz.prog (ai Tryz.prog aj) 45 (w 1)))]:=by kernel_rfl
theorem U8:bH Tryz.prog 94 W6:=aL funcs mixed ajP ajQ (L:=9) (n:=9) fun w=>by
 have e:aG Tryz.prog 94 = [45,45]:=by kernel_rfl
 rw [e,ajR]
 exact (amq (mw (ax Tryz.prog (ai Tryz.prog aj) 45 (w 0))) (mw (ax Tryz.prog (ai Tryz.prog aj) 45 (w 1)))).trans (by kernel_rfl)
structure xA where
 m:dm
 e:Int
instance:Inhabited xA:=⟨⟨default,default⟩⟩
def aia (x:xA):List KV:=[.int .i64 x.m.m.e0.e0,.int .i64 x.m.m.e0.e1,.int .i64 x.m.m.e0.e2,.int .i64 x.m.m.e1.e0,.int .i64 x.m.m.e1.e1,.int .i64 x.m.m.e1.e2,.int .i64 x.m.m.e2.e0,.int .i64 x.m.m.e2.e1,.int .i64 x.m.m.e2.e2,.int .i64 x.m.t.x,.int .i64 x.m.t.y,.int .i64 x.m.t.z,.int .i64 x.e]
def aib (c:Nat->KV):xA:=⟨⟨⟨⟨ay (c 0),ay (c 1),ay (c 2)⟩,⟨ay (c 3),ay (c 4),ay (c 5)⟩,⟨ay (c 6),ay (c 7),ay (c 8)⟩⟩,⟨ay (c 9),ay (c 10),ay (c 11)⟩⟩,ay (c 12)⟩
structure gJ where
 t5:Int
 t25:(Sl Handle)
 t26:Int
 t27:Int
 s:aP
 t4:dm
 w:xA
instance:Inhabited gJ:=⟨by constructor<;>exact default⟩
def yl (x:gJ):List KV:=[.int .i64 x.t5,eA 32 dL x.t25,.int .i64 x.t26,.int .i64 x.t27]
def ym (x:gJ):List (List KV):=[uG x.s,arC x.t4,aia x.w]
def KM (vs:List KV) (rs:List (List KV)):gJ:=⟨ay (vs.getD 0 .ao),dP cM (vs.getD 1 .ao),ay (vs.getD 2 .ao),ay (vs.getD 3 .ao),uH (fun k=>(rs.getD 0 []).getD k .ao),arD (fun k=>(rs.getD 1 []).getD k .ao),aib (fun k=>(rs.getD 2 []).getD k .ao)⟩
def Nk:aV:=⟨[(5,⟨false,[.k (.int .i64)]⟩),(25,⟨false,[.k (.slice 32)]⟩),(26,⟨false,[.k (.int .i64)]⟩),(27,⟨false,[.k (.int .i64)]⟩)],[(2,[.k (.slice 111),.k (.slice 35),.k (.slice 77),.k (.slice 88),.k (.slice 91),.k (.int .i64),.k (.int .i64)],1),(4,[.k (.int .i64),.k (.int .i64),.k (.int .i64),.k (.int .i64),.k (.int .i64),.k (.int .i64),.k (.int .i64),.k (.int .i64),.k (.int .i64),.k (.int .i64),.k (.int .i64),.k (.int .i64)],1),(8,[.k (.int .i64),.k (.int .i64),.k (.int .i64),.k (.int .i64),.k (.int .i64),.k (.int .i64),.k (.int .i64),.k (.int .i64),.k (.int .i64),.k (.int .i64),.k (.int .i64),.k (.int .i64),.k (.int .i64)],1)],[(2,0,0),(4,1,0),(8,2,0)]⟩
def ZS:=dB Tryz.prog (bp Tryz.prog [(94,W6),(44,R6),(20,R4)] [] (fun q=>Nat.beq q 3)) 9 9 13 122 (dF Tryz.prog 13 122) Nk
def wD (x:gJ):(Option (Prod dm Int)):=(EX x.w.m (x.s.nodes.get (Int.toNat (x.t25.get (Int.toNat x.t27)).slot)).gd)
def kZ (x:gJ):aW gJ:=(cond (decide (x.t27 < x.t26)) (cond ((decide ((0:Int)<=x.t27))&&(decide (x.t27 < ((x.t25.n:Nat):Int)))) (cond ((decide ((0:Int)<=(x.t25.get (Int.toNat x.t27)).slot))&&(decide ((x.t25.get (Int.toNat x.t27)).slot < ((x.s.nodes.n:Nat):Int)))) (cond ((x.s.nodes.get (Int.toNat (x.t25.get (Int.toNat x.t27)).slot)).kind==(2:Int)) (cond (x.w.e==(0:Int)) (cond (wD x).isSome (.next (⟨x.t5,x.t25,x.t26,(aR (x.t27+(1:Int))),x.s,x.t4,(⟨((wD x).getD default).fst,((wD x).getD default).snd⟩:xA)⟩:gJ)) .fail) (.next (⟨x.t5,x.t25,x.t26,(aR (x.t27+(1:Int))),x.s,x.t4,x.w⟩:gJ))) (.next (⟨x.t5,x.t25,x.t26,(aR (x.t27+(1:Int))),x.s,x.t4,x.w⟩:gJ))) .fail) .fail) (.out (aB.ae.exit 0) x))
theorem TT (x:gJ):ZS (yl x) (ym x)=aW.enc yl ym (kZ x):=by
 unfold kZ
 try simp only [aW.cf]
 kernel_rfl
def Af:Lp:=⟨13,122,Nk,fun vs rs=>dC yl ym (goN kZ (KM vs rs)) [aB.ae.exit 0],false⟩
theorem ZT:Af.Ok Tryz.prog:=b8 funcs mixed (ah.cons U8 (ah.cons R7 (ah.cons R5 ah.nil))) au.nil (L:=9) (n:=9) (step:=kZ) (ev:=yl) (er:=ym) (pa:=KM) rfl (fun wv wr=>⟨by kernel_rfl,by kernel_rfl⟩) TT
theorem Sb:bZ Tryz.prog Af.f Af.p=true:=by kernel_rfl
def U9:List (Nat×(List KV->KR KV)):=[(94,W6),(44,R6),(20,R4)]
def Va:List Lp:=[Af]
theorem aey:ah Tryz.prog U9:=(ah.cons U8 (ah.cons R7 (ah.cons R5 ah.nil)))
theorem aez:au Tryz.prog Va:=(au.cons ZT Sb au.nil)
def DN (s:aP) (p:Path):(Option (Prod Bool Int)):=(CB s p)
def Jv (s:aP) (p:Path):(Option dm):=Gh
def yT (s:aP) (p:Path):(aW gJ):=(goN kZ (⟨(0:Int),p.nodes,((p.nodes.n:Nat):Int),(0:Int),s,(⟨(⟨(⟨(0:Int),(0:Int),(0:Int)⟩:az),(⟨(0:Int),(0:Int),(0:Int)⟩:az),(⟨(0:Int),(0:Int),(0:Int)⟩:az)⟩:bw),(⟨(0:Int),(0:Int),(0:Int)⟩:fO)⟩:dm),(⟨((Jv s p).getD default),(0:Int)⟩:xA)⟩:gJ))
def Ag (s:aP) (p:Path):Option (dm×Int):=(cond (DN s p).isSome (cond (((DN s p).getD default).snd != (0:Int)) (some ((⟨(⟨(⟨(0:Int),(0:Int),(0:Int)⟩:az),(⟨(0:Int),(0:Int),(0:Int)⟩:az),(⟨(0:Int),(0:Int),(0:Int)⟩:az)⟩:bw),(⟨(0:Int),(0:Int),(0:Int)⟩:fO)⟩:dm),((DN s p).getD default).snd)) (cond (Jv s p).isSome (cond ((yT s p).by (aB.ae.exit 0)) (cond ((yT s p).st.w.e != (0:Int)) (some ((⟨(⟨(⟨(0:Int),(0:Int),(0:Int)⟩:az),(⟨(0:Int),(0:Int),(0:Int)⟩:az),(⟨(0:Int),(0:Int),(0:Int)⟩:az)⟩:bw),(⟨(0:Int),(0:Int),(0:Int)⟩:fO)⟩:dm),(yT s p).st.w.e)) (some ((yT s p).st.w.m,(0:Int)))) none) none)) none)
theorem aic (s:aP) (p:Path):cD Tryz.prog (bp Tryz.prog U9 Va (fun q=>Nat.beq q 3)) 9 9 13 [dx s,sD p] = (Ag s p).map (fun (r:dm×Int)=>KV.nb [mv r.1,(kI .i64) r.2]):=by
 unfold Ag
 try simp only [bq]
 kernel_rfl
def ZU:List KV->KR KV:=bI Tryz.prog 13 (bL (fun (r:dm×Int)=>KV.nb [mv r.1,(kI .i64) r.2]) fun vs=>Ag (b6 (vs.getD 0 .ao)) (qT (vs.getD 1 .ao)))
theorem aeA (w:Nat->KV):ck Tryz.prog [34,38] w 0 = [dx (b6 (ax Tryz.prog (ai Tryz.prog aj) 34 (w 0))),sD (qT (ax Tryz.prog (ai Tryz.prog aj) 38 (w 1)))]:=by kernel_rfl
theorem aeB:bH Tryz.prog 13 ZU:=aL funcs mixed aey aez (L:=9) (n:=9) fun w=>by
 have e:aG Tryz.prog 13 = [34,38]:=by kernel_rfl
 rw [e,aeA]
 exact (aic (b6 (ax Tryz.prog (ai Tryz.prog aj) 34 (w 0))) (qT (ax Tryz.prog (ai Tryz.prog aj) 38 (w 1)))).trans (by kernel_rfl)
end
end Go.Proofs.YtckbdndhmcoihaaGreat.b
end
