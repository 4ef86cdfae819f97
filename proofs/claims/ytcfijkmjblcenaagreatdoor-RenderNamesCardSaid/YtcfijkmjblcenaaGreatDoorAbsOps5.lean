/-
  The abstract machine's operations do what the model's do: texts.
-/
import Derived.Test.YtcfijkmjblcenaaGreatDoorAbsOps4
import Derived.Laws.IdiomStrings
namespace Go.Abs
open Go
section
variable {P : Program} {o : Oper}

theorem bytesA_spec {l : List UInt8} : ∀ {cs : List Value}, bytesA cs = some l → cs = byteVals l := by
  intro cs
  induction cs generalizing l with
  | nil => intro h; simp [bytesA] at h; subst h; rfl
  | cons c cs ih =>
    intro h
    cases c with
    | int k n =>
      cases k <;> cases n <;> simp only [bytesA] at h <;> try (simp at h; done)
      rename_i m
      cases hb : Nat.blt m 256 with
      | false => rw [hb] at h; simp at h
      | true =>
        rw [hb, cond_true] at h
        obtain ⟨r, hr, rfl⟩ := Option.map_eq_some_iff.1 h
        rw [Nat.blt_eq] at hb
        rw [ih hr]
        simp only [byteVals, List.map_cons, List.cons.injEq, and_true]
        have : (UInt8.ofNat m).toNat = m := by simp; omega
        rw [this]
        rfl
    | _ => simp [bytesA] at h
theorem byteVals_rel {ρ : Ren} (l : List UInt8) : VRL ρ (byteVals l) (byteVals l) := by
  induction l with
  | nil => exact .nil
  | cons x l ih => exact .cons (by simp [VR]) ih
theorem byteVals_flat : ∀ (l : List UInt8), flatL (byteVals l) = true
  | [] => rfl
  | x :: l => by show (true && flatL (byteVals l)) = true; rw [byteVals_flat l]; rfl

theorem isByte_eq {e : TypeId} (h : isByte P e = true) : P.underlying e = some (.int .u8) := by
  unfold isByte at h
  split at h
  · rename_i h'; exact h'
  · simp at h

/-- a new row that goes on behind what is known of it, and bears a mark behind its end -/
theorem growMark_sound {ρ : Ren} {A : St} {base : Nat} {w : World} {cs cs' : List Value} {c : Array Value} {n fam f : Nat} {fr : Nat × Nat} (T : TypeId) (hn1 : n = 1) (hs : Sim ρ A base w) (hc : VRL ρ cs cs') (h1 : ∀ v ∈ cs, scalar v = true)
    (hpre : ∀ (j : Nat) (v : Value), cs'[j]? = some v → c[j]? = some v) (hsz : cs.length ≤ c.size) (hfr : c.size ≤ fr.1) :
    Goes base ρ A w (ρ.set A.next ⟨w.heap.size, 0, c.size, n⟩) (A.grow fam f cs n) (w.alloc (.cells c T fr)) := by
  refine new_sound (o := .row cs n true (some (fam, f))) hs (fun x => grow_get _ _ _ _ _ _) (fun g x h => ?_) (fun g f' h => ?_) (by simp [St.grow]) (by simp [St.grow]) (fun x hx _ => by rw [grow_get, if_neg (by omega)]) rfl ?_
  · rw [grow_members]; split
    · rename_i e; subst e; simp [h]
    · exact h
  · simp [AObj.kin?] at h; rw [grow_members, h.1]; simp
  · refine ⟨fun i v hi => ?_, fun h => by simp at h, fun _ => hs.size, fun _ j hj => ?_, by simpa using hsz, fun _ h => by simp at h, rfl, by simp, fun _ h => absurd hn1 h⟩
    · obtain ⟨v', h2, h3⟩ := hc.get hi
      refine ⟨v', ?_, h3.mono (hs.le_set _), h1 v (List.mem_of_getElem? hi)⟩
      rw [Nat.zero_add, World.cell?_alloc_mark]
      exact hpre i v' h2
    · simp only at hj ⊢
      rw [World.cell?_alloc_mark]
      refine ⟨?_, ?_⟩
      · rw [Array.getElem?_eq_getElem (by omega)]
        rfl
      · have : (w.alloc (.cells c T fr)).heap[w.heap.size]? = some (.cells c T fr) := by
          show (w.heap.push (.cells c T fr))[w.heap.size]? = _
          simp
        simp only [World.frozen?, this]
        have hj' : ¬ (fr.1 ≤ j) := by omega
        simp [hj']

theorem fBytesStr_sound {ρ : Ren} {A : St} {base : Nat} {w : World} {src dst e : TypeId} {x x' v : Value} (hs : Rel ρ A.get A.members base w) (h1 : P.underlying src = some (.slice e)) (h2 : P.underlying dst = some .string) (he : P.underlying e = some (.int .u8))
    (hx : VR ρ x x') (h : fBytesStr A [x] = some v) : VR ρ v v ∧ (convert src dst x').run P w = .ok v w := by
  unfold fBytesStr at h
  split at h
  · rename_i n c e1
    simp at e1; subst e1
    simp at h; subst h
    have := hx.slice_nil_inv
    subst this
    refine ⟨VR.of_flat rfl, ?_⟩
    rw [run_convert_bytes_string w src dst e none n c h1 he h2]
    rfl
  · rename_i a n c e1
    simp at e1; subst e1
    obtain ⟨l, hl, rfl⟩ := Option.map_eq_some_iff.1 h
    obtain ⟨cs, hcs, hb⟩ := Option.bind_eq_some_iff.1 hl
    have := bytesA_spec hb
    subst this
    obtain ⟨hsp, hlc, lc, a', c', hρ, hcc, ha', hfit, rfl⟩ := hx.slice_inv
    obtain ⟨cs', q1, q2, q3, q4⟩ := loadN_sound (P := P) hs hcs hρ
    have hcs' : cs' = byteVals l := q1.flat_eq (byteVals_flat l)
    subst hcs'
    have hlen : l.length = n := by simpa [byteVals] using q2
    refine ⟨VR.of_flat rfl, ?_⟩
    rw [run_convert_bytes_string w src dst e (some a') n c' h1 he h2]
    have hload : (loadCells a' n).run P w = .ok (byteVals l).toArray w := by
      by_cases hc : c' = 0
      · have hn0 : n = 0 := by omega
        subst hn0
        have : l = [] := List.eq_nil_of_length_eq_zero hlen
        subst this
        exact run_loadCells_list w a' [] (by simp)
      · rw [ha' hc]; exact q4
    have hb2 : byteVals l = (l.map (fun b => (b.toNat : Int))).map (Value.int .u8) := by simp [byteVals]
    rw [hb2] at hload
    rw [run_bytesToString w a' n c' _ hload, foldl_push_byteCells]
    have he0 : ByteArray.empty.data = #[] := rfl
    rw [he0]
    simp
  · simp at h

theorem fStrBytes_sound {ρ : Ren} {A B : St} {base : Nat} {w : World} {src dst e : TypeId} {x x' v : Value} (hs : Sim ρ A base w) (h1 : P.underlying src = some .string) (h2 : P.underlying dst = some (.slice e)) (he : P.underlying e = some (.int .u8))
    (hx : VR ρ x x') (h : fStrBytes A [x] = some (v, B)) : ∃ ρ' v' w', (convert src dst x').run P w = .ok v' w' ∧ VR ρ' v v' ∧ Goes base ρ A w ρ' B w' := by
  unfold fStrBytes at h
  split at h
  · rename_i s e1
    simp at e1; subst e1
    simp at h
    obtain ⟨rfl, rfl⟩ := h
    have := hx.string_inv
    subst this
    have hr := run_bytes_of_string (P := P) w src dst e s h1 h2 he
    have hge := grownCap_ge w s.size 0 e
    have hds : s.data.size = s.size := rfl
    have hsize : (bytesRow s (grownCap w s.size 0 e)).size = grownCap w s.size 0 e := by
      unfold bytesRow
      simp [hds]
      omega
    have hdr := Goes.drew (w := w) hs
    have hgo := growMark_sound (w := w.drew) (n := 1) (fam := A.next) (f := 0) (c := bytesRow s (grownCap w s.size 0 e)) (fr := ((bytesRow s (grownCap w s.size 0 e)).size, (bytesRow s (grownCap w s.size 0 e)).size + 1)) e rfl hdr.sim
      (byteVals_rel s.data.toList) (fun v hv => by
        obtain ⟨b, _, rfl⟩ := List.mem_map.1 hv
        rfl) (fun j v hj => by
        unfold bytesRow
        have hlt : j < s.data.size := by
          have := (List.getElem?_eq_some_iff.1 hj).1
          simpa [byteVals] using this
        rw [Array.getElem?_append_left (by simpa using hlt)]
        simpa [byteVals] using hj) (by rw [hsize]; simp [byteVals, hds]; exact hge) (Nat.le_refl _)
    refine ⟨_, _, _, hr, ?_, hdr.trans hgo⟩
    simp only [VR]
    refine ⟨trivial, Nat.le_refl _, _, ⟨w.heap.size, 0, none⟩, grownCap w s.size 0 e, Ren.set_same _ _ _, hge, fun _ => rfl, ?_, rfl⟩
    rw [hsize]
    show 0 + 0 + grownCap w s.size 0 e * 1 ≤ grownCap w s.size 0 e
    omega
  · simp at h

theorem ok_conv {src dst : TypeId} {x : Operand} (ho : o.op = .convert src dst x) : InsOk P o (insConvert P src dst x) := by
  unfold insConvert
  split
  · rename_i e h1 h2
    cases hb : isByte P e with
    | false => exact True.intro
    | true =>
      rw [cond_true]
      intro ρ A base w ev ev' v hs he hf
      obtain ⟨h3, h4⟩ := fBytesStr_sound hs h1 h2 (isByte_eq hb) (he x (by simp)) hf
      exact ⟨v, h3, by simp [execOp, ho, h4]⟩
  · rename_i e h1 h2
    cases hb : isByte P e with
    | false => exact True.intro
    | true =>
      rw [cond_true]
      intro ρ A B base w ev ev' v hs he hf
      obtain ⟨ρ', v', w', h3, h4, h5⟩ := fStrBytes_sound hs h1 h2 (isByte_eq hb) (he x (by simp)) hf
      exact ⟨ρ', v', .value v', w', by simp [execOp, ho, h3], rfl, h4, h5⟩
  · rename_i h1 h2
    intro ρ ev ev' v he hf
    simp only [List.map] at hf
    unfold fStrStr at hf
    split at hf
    · rename_i s e
      simp at e hf
      subst hf
      have hx := he x (by simp)
      rw [e] at hx
      refine ⟨_, VR.of_flat rfl, fun w => ?_⟩
      simp [execOp, ho, convert, run_under h1, run_under h2, hx.string_inv]
    · simp at hf
  · exact ok_convert ho

/-- an iterator's owner may turn it -/
theorem putIter_goes {ρ : Ren} {A : St} {base : Nat} {w : World} {r : Nat} {s : List UInt8} {pos pos2 : Nat} {l : Loc} (hs : Sim ρ A base w) (hg : A.get r = some (.iter s pos)) (hρ : ρ r = some l) :
    Goes base ρ A w ρ (A.put r (.iter s pos2)) { w with heap := w.heap.setIfInBounds l.cb (.stringIter ⟨⟨s⟩⟩ pos2) } := by
  obtain ⟨l', hl', ok⟩ := hs.rel.iter _ _ _ hg
  rw [hρ] at hl'; simp at hl'; subst hl'
  obtain ⟨hoff, hheap⟩ := ok.lies
  have hlt : l.cb < w.heap.size := (Array.getElem?_eq_some_iff.1 hheap).1
  have hmine : AObj.mine (.iter s pos) = true := rfl
  have hold : ∀ k, k ≠ l.cb → (w.heap.setIfInBounds l.cb (.stringIter ⟨⟨s⟩⟩ pos2))[k]? = w.heap[k]? := fun k hk => by
    rw [Array.getElem?_setIfInBounds_ne (Ne.symm hk)]
  have hsz : (w.heap.setIfInBounds l.cb (.stringIter ⟨⟨s⟩⟩ pos2)).size = w.heap.size := by simp
  have hB : ∀ x, (A.put r (.iter s pos2)).get x = if x = r then some (.iter s pos2) else A.get x := fun x => St.get_put _ _ _ _
  have hmd : ∀ o : AObj, o.mine = true → o ≠ .dead := by intro o h e; subst e; simp [AObj.mine] at h
  have hfar : ∀ x o l2, x ≠ r → A.get x = some o → o ≠ .dead → ρ x = some l2 → ObjOk ρ base w l2 o → l2.cb ≠ l.cb := by
    intro x o l2 hx hgx hd hr2 ok2 e
    cases hmo : o.mine with
    | true =>
      obtain ⟨_, _, _, _, e1, _⟩ := hs.rel.apart x r o _ l2 l hx hgx hg hmo hmine hr2 hρ e
      simp [AObj.kin?] at e1
    | false =>
      cases o with
      | row cs esz own kin =>
        have ok2 : RowOk ρ base w l2 cs esz own kin := ok2
        have h1 : own = false := hmo
        have := ok2.foreign h1
        have := ok.mine
        omega
      | map _ => simp [AObj.mine] at hmo
      | iter _ _ => simp [AObj.mine] at hmo
      | dead => exact hd rfl
      | loop _ _ _ _ _ _ => simp [AObj.mine] at hmo
  refine ⟨⟨.of_obj ?_ ?_ ?_, fun b l2 h => hs.dom b l2 h, by simpa using hs.size, hs.glob⟩, fun _ _ => rfl, ⟨rfl, rfl, rfl, Nat.le_of_eq hsz.symm, fun k hk hn => hold k (fun e => hn ⟨r, _, l, hg, hmine, hρ, e.symm⟩)⟩, Nat.le_refl _, Nat.min_le_left _ _, fun x hx hxl => ?_, ?_⟩
  · intro x o hgx hd
    rw [hB] at hgx
    split at hgx
    · rename_i e; subst e; simp at hgx; subst hgx
      refine ⟨l, hρ, ok.mine, hoff, ?_⟩
      show (w.heap.setIfInBounds l.cb (.stringIter ⟨⟨s⟩⟩ pos2))[l.cb]? = _
      rw [Array.getElem?_setIfInBounds_self_of_lt hlt]
    · rename_i e
      obtain ⟨l2, hr2, ok2⟩ := hs.rel.obj hgx hd
      exact ⟨l2, hr2, ok2.keep (Ren.le_refl _) (hold _ (hfar x o l2 e hgx hd hr2 ok2)) (Nat.le_of_eq hsz.symm)⟩
  · have hto : ∀ x o, (A.put r (.iter s pos2)).get x = some o → o.mine = true → ∃ o', A.get x = some o' ∧ o'.mine = true ∧ o'.kin? = o.kin? := by
      intro x o hx hm
      rw [hB] at hx
      split at hx
      · rename_i e; subst e; simp at hx; subst hx; exact ⟨_, hg, rfl, rfl⟩
      · exact ⟨o, hx, hm, rfl⟩
    intro b1 b2 o1 o2 l1 l2 hne g1 g2 m1 m2 r1 r2 hcb
    obtain ⟨p1, q1, n1, k1⟩ := hto _ _ g1 m1
    obtain ⟨p2, q2, n2, k2⟩ := hto _ _ g2 m2
    rw [← k1, ← k2]
    exact hs.rel.apart b1 b2 p1 p2 l1 l2 hne q1 q2 n1 n2 r1 r2 hcb
  · intro x o fam f hgx hk
    rw [hB] at hgx
    split at hgx
    · rename_i e; subst e; simp at hgx; subst hgx; simp [AObj.kin?] at hk
    · exact hs.rel.listed x o fam f hgx hk
  · rw [St.low_put] at hxl
    have : Nat.min A.low r ≤ r := Nat.min_le_right _ _
    rw [hB, if_neg (by omega)]
  · rintro k hk ⟨x, o, l2, hgx, hm, hr2, rfl⟩
    rw [hB] at hgx
    split at hgx
    · rename_i e; subst e
      rw [hρ] at hr2; simp at hr2; subst hr2
      exact ⟨x, _, l, hg, hmine, hρ, rfl⟩
    · exact ⟨x, o, l2, hgx, hm, hr2, rfl⟩

theorem ok_range {t : TypeId} {x : Operand} (ho : o.op = .range t x) : InsOk P o (insRange P t x) := by
  unfold insRange
  split
  · rename_i hu
    intro ρ ev ev' obj mk he hf
    simp only [List.map] at hf
    unfold fRange at hf
    split at hf
    · rename_i s e
      simp at e
      have hx := he x (by simp)
      rw [e] at hx
      have hx := hx.string_inv
      simp at hf
      obtain ⟨rfl, rfl⟩ := hf
      refine ⟨.stringIter s 0, fun n => .pointer (some ⟨n, 0, none⟩), ?_, fun w => ?_, fun ρ' n cb h => VR.mkPtr (a := ⟨n, 0, none⟩) rfl h⟩
      · show Obj.stringIter s 0 = .stringIter ⟨⟨s.data.toList⟩⟩ 0
        rfl
      · simp [execOp, ho, Instr.range, run_under hu, hx]
    · simp at hf
  · trivial
theorem run_getObj_iter {w : World} {r : Nat} {s : ByteArray} {pos : Nat} (hb : w.heap[r]? = some (.stringIter s pos)) : (getObj r).run P w = .ok (.stringIter s pos) w := by
  simp [getObj, Sem.run, hb]
theorem run_setObj_iter {w : World} {r : Nat} {s : ByteArray} {pos : Nat} (o : Obj) (hb : w.heap[r]? = some (.stringIter s pos)) : (setObj r o).run P w = .ok () { w with heap := w.heap.setIfInBounds r o } := by
  simp [setObj, Sem.run, hb]
theorem ok_next {it : Operand} {b : Bool} (ho : o.op = .next it b) : InsOk P o (cond b (.act fNext [it]) .bad) := by
  cases b with
  | false => trivial
  | true =>
    rw [cond_true]
    intro ρ A B base w ev ev' v hs he hf
    simp only [List.map] at hf
    unfold fNext at hf
    split at hf
    · rename_i a e
      simp at e
      have hx := he it (by simp)
      rw [e] at hx
      obtain ⟨hsp, l, hl, hx⟩ := hx.ptr_inv
      cases ha0 : Nat.beq a.off 0 with
      | false => rw [ha0] at hf; simp at hf
      | true =>
        rw [ha0, cond_true] at hf
        have ha0 := Nat.eq_of_beq_eq_true ha0
        split at hf
        · rename_i s pos hg
          obtain ⟨l2, hl2, ok⟩ := hs.rel.iter _ _ _ hg
          rw [hl] at hl2; simp at hl2; subst hl2
          obtain ⟨hoff, hheap⟩ := ok.lies
          have hsz : (⟨⟨s⟩⟩ : ByteArray).size = s.length := rfl
          rw [hoff, ha0] at hx
          cases hlt : Nat.blt pos s.length with
          | true =>
            rw [hlt, cond_true] at hf
            rw [Nat.blt_eq] at hlt
            split at hf
            rename_i c width hdec
            simp at hf
            obtain ⟨rfl, rfl⟩ := hf
            refine ⟨ρ, .tuple #[.bool true, .int .i64 (Int.ofNat pos), .int .i32 c], .value _, _, ?_, rfl, VR.of_flat rfl, putIter_goes (pos2 := pos + width) hs hg hl⟩
            simp [execOp, ho, Instr.next, hx, run_getObj_iter hheap, hsz, hlt, hdec, run_setObj_iter _ hheap, goInt]
          | false =>
            rw [hlt, cond_false] at hf
            have hge : ¬ pos < s.length := fun h => by rw [← Nat.blt_eq] at h; rw [h] at hlt; simp at hlt
            simp at hf
            obtain ⟨rfl, rfl⟩ := hf
            refine ⟨ρ, .tuple #[.bool false], .value _, w, ?_, rfl, VR.of_flat rfl, .refl hs⟩
            simp [execOp, ho, Instr.next, hx, run_getObj_iter hheap, hsz, hge]
        · simp at hf
    · simp at hf

theorem compile_ok (P : Program) (o : Oper) : InsOk P o (compile P o.op) := by
  cases ho : o.op with
  | move x => exact ok_move ho
  | assign x => exact ok_assign ho
  | pick c a b => exact ok_pick ho
  | alloc t => exact ok_alloc ho
  | box t x => exact ok_box ho
  | build t parts => exact ok_build ho
  | buildSlice t len parts => exact ok_buildSlice ho
  | load t a => exact ok_load ho
  | store t a x => exact ok_store ho
  | nilCheck x => exact ok_nilCheck ho
  | binOp op t x y yt => exact ok_bin ho
  | unOp op t x => exact ok_un ho
  | convert src dst x => exact ok_conv ho
  | makeFunc fn first cap => exact ok_makeFunc ho
  | fieldAddr s x f => exact ok_fieldAddr ho
  | field t x f => exact ok_field ho
  | indexAddr t x ix => exact ok_indexAddr ho
  | index t x ix => exact ok_index ho
  | extract t i => exact ok_extract ho
  | slice t x lo hi mx => exact ok_slice ho
  | makeSlice t l c => exact ok_makeSlice ho
  | makeInterface t x => exact ok_iface ho
  | range t x => exact ok_range ho
  | next it b => exact ok_next ho
  | makeMap t r => exact ok_makeMap ho
  | lookup t x ix ok => exact ok_lookup ho
  | mapUpdate t m k x => exact ok_mapUpdate (.inl ho)
  | insert t m k x => exact ok_mapUpdate (.inr ho)
  | call c =>
    show InsOk P o (insCall P c)
    unfold insCall
    split
    · rename_i f hf; exact ok_call ho hf
    · rename_i b hb
      obtain ⟨callee, args, argTypes⟩ := c
      simp only at hb
      subst hb
      unfold insBuiltin
      split
      · exact ok_len ho
      · exact ok_min ho
      · exact ok_max ho
      · exact ok_append ho
      · exact ok_copy ho
      · exact ok_delete ho
      · exact ok_clear ho
      · trivial
    · trivial
  | _ => trivial
end
end Go.Abs
