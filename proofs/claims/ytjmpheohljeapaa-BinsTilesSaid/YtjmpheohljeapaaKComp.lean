/-
  All of the machine K's operations.
-/
import Derived.Test.YtjmpheohljeapaaKAppend
namespace Go.K
open Go Go.Abs
variable {P : Program}

theorem kok_bad {o : Oper} : KOk P o .bad := trivial
theorem kcomp_ok (P : Program) (cfg : Cfg) (o : Oper) : KOk P o (kcomp P cfg o.op) := by
  cases ho : o.op with
  | move x => exact lift_pure (by rw [ho]; rfl) simMove
  | assign x => exact lift_pure (by rw [ho]; rfl) simMove
  | pick c a b => exact lift_pure (by rw [ho]; rfl) simPick
  | alloc t =>
    show KOk P o (insAlloc P t)
    unfold insAlloc
    split
    · rename_i z hz
      cases hc : (flat z && z.cells.toList.all scalar && oneAll (ofV z).cells) with
      | false => exact kok_bad
      | true =>
        simp only [Bool.and_eq_true] at hc
        exact lift_make (by rw [ho]; rfl) (simAlloc hz hc.1.1 hc.1.2 hc.2)
    · exact kok_bad
  | box t x => exact lift_make (by rw [ho]; rfl) simBox
  | build t parts =>
    show KOk P o (kinsBuild P t (parts.toList.map (·.1)) (parts.toList.map (·.2)))
    have hcomp : compile P o.op = insBuild P t (parts.toList.map (·.1)) (parts.toList.map (·.2)) := by rw [ho]; rfl
    unfold kinsBuild
    unfold insBuild at hcomp
    split
    · rename_i z fields hz hu
      rw [hz, hu] at hcomp
      simp only at hcomp
      split
      · rename_i l hl
        rw [hl] at hcomp
        cases hc : (flat z && oneAll (ofV z).cells) with
        | false => exact kok_bad
        | true =>
          simp only [Bool.and_eq_true] at hc
          exact lift_pure hcomp (simBuild hc.1 hc.2)
      · exact kok_bad
    · rename_i z len e hz hu
      rw [hz, hu] at hcomp
      simp only at hcomp
      split
      · rename_i n hn
        rw [hn] at hcomp
        cases hc : (flat z && oneAll (ofV z).cells) with
        | false => exact kok_bad
        | true =>
          simp only [Bool.and_eq_true] at hc
          exact lift_pure hcomp (simBuild hc.1 hc.2)
      · exact kok_bad
    · exact kok_bad
  | buildSlice t len parts =>
    show KOk P o (kinsBuildSlice P t len (parts.toList.map (·.1)) (parts.toList.map (·.2)))
    have hcomp : compile P o.op = insBuildSlice P t len (parts.toList.map (·.1)) (parts.toList.map (·.2)) := by rw [ho]; rfl
    unfold kinsBuildSlice
    unfold insBuildSlice at hcomp
    split
    · rename_i e hu
      rw [hu] at hcomp
      simp only at hcomp
      split
      · rename_i i z hi hz
        have hsz : size? P e = some i.size := by simp [size?, hi]
        rw [hsz, hz] at hcomp
        simp only at hcomp
        cases hc : (Nat.ble (len * i.size) 16777216 && Nat.beq z.cells.size i.size && Nat.ble 1 i.size && flat z && Nat.beq (layF P e).ks.length i.size && allBelow len (parts.toList.map (·.1))) with
        | false => exact kok_bad
        | true =>
          simp only [Bool.and_eq_true] at hc
          obtain ⟨⟨⟨⟨⟨h1, h2⟩, h3⟩, h4⟩, h5⟩, h6⟩ := hc
          rw [h1, h2, h3, h4] at hcomp
          exact lift_new hcomp (simBuildTree (Nat.eq_of_beq_eq_true h5) (Nat.le_of_ble_eq_true h3) (Nat.eq_of_beq_eq_true h2) h6)
      · exact kok_bad
    · exact kok_bad
  | load t a => exact lift_read (by rw [ho]; rfl) simLoad
  | store t a x => exact lift_act (by rw [ho]; rfl) simStore
  | nilCheck x => exact lift_pure (by rw [ho]; rfl) simNil
  | binOp op t x y yt => exact lift_pure (by rw [ho]; rfl) simBin
  | unOp op t x => exact lift_pure (by rw [ho]; rfl) simUn
  | convert src dst x =>
    show KOk P o (kinsConvert P src dst x)
    have hcomp : compile P o.op = insConvert P src dst x := by rw [ho]; rfl
    unfold kinsConvert
    unfold insConvert at hcomp
    split
    · rename_i k k' hs hd
      rw [hs, hd] at hcomp
      exact lift_pure hcomp (simConvI hd hs)
    · rename_i hs hd
      rw [hs, hd] at hcomp
      exact lift_pure hcomp simStrId
    · rename_i e hs hd
      rw [hs, hd] at hcomp
      simp only at hcomp
      cases hb : isByte P e with
      | false => exact kok_bad
      | true => rw [hb] at hcomp; exact lift_read hcomp simBytesStr
    · rename_i e hs hd
      rw [hs, hd] at hcomp
      simp only at hcomp
      cases hb : isByte P e with
      | false => exact kok_bad
      | true => rw [hb] at hcomp; exact lift_look hcomp (simStrBytes hb)
    · exact kok_bad
  | makeFunc fn first cap =>
    show KOk P o (cond (isYield fn) .bad (.pure (kMakeFunc fn first.size) (first.toList ++ cap.toList)))
    cases isYield fn with
    | true => exact kok_bad
    | false => exact lift_pure (by rw [ho]; rfl) simMakeFunc
  | fieldAddr s x f =>
    show KOk P o (kinsFieldAddr P s x f)
    have hcomp : compile P o.op = insFieldAddr P s x f := by rw [ho]; rfl
    unfold kinsFieldAddr
    unfold insFieldAddr at hcomp
    split
    · rename_i fd hf
      rw [hf] at hcomp
      simp only at hcomp
      split
      · rename_i m hm
        rw [hm] at hcomp
        exact lift_pure hcomp (simFieldAddr rfl)
      · exact kok_bad
    · exact kok_bad
  | field t x f =>
    show KOk P o (kinsField P t x f)
    have hcomp : compile P o.op = insField P t x f := by rw [ho]; rfl
    unfold kinsField
    unfold insField at hcomp
    split
    · rename_i fd hf
      rw [hf] at hcomp
      exact lift_pure hcomp simField
    · exact kok_bad
  | indexAddr t x ix =>
    show KOk P o (kinsIndexAddr P t x ix)
    have hcomp : compile P o.op = insIndexAddr P t x ix := by rw [ho]; rfl
    unfold kinsIndexAddr
    unfold insIndexAddr at hcomp
    split
    · rename_i len e hu
      rw [hu] at hcomp
      simp only at hcomp
      split
      · rename_i n hn
        rw [hn] at hcomp
        exact lift_pure hcomp simIndexArr
      · exact kok_bad
    · rename_i e hu
      rw [hu] at hcomp
      simp only at hcomp
      split
      · rename_i n hn
        rw [hn] at hcomp
        exact lift_pure hcomp (simIndexSl rfl)
      · exact kok_bad
    · exact kok_bad
  | index t x ix =>
    show KOk P o (kinsIndex P t x ix)
    have hcomp : compile P o.op = insIndex P t x ix := by rw [ho]; rfl
    unfold kinsIndex
    unfold insIndex at hcomp
    split
    · rename_i len e hu
      rw [hu] at hcomp
      simp only at hcomp
      split
      · rename_i n hn
        rw [hn] at hcomp
        exact lift_pure hcomp simIndexAgg
      · exact kok_bad
    · rename_i hu
      rw [hu] at hcomp
      exact lift_pure hcomp simIndexStr
    · exact kok_bad
  | extract t i => exact lift_pure (by rw [ho]; rfl) simExtract
  | slice t x lo hi mx =>
    show KOk P o (kinsSlice P t x lo hi mx)
    have hcomp : compile P o.op = insSlice P t x lo hi mx := by rw [ho]; rfl
    unfold kinsSlice
    unfold insSlice at hcomp
    split
    · rename_i e hu
      rw [hu] at hcomp
      simp only at hcomp
      split
      · rename_i n hn
        rw [hn] at hcomp
        simp only at hcomp
        cases hc : (Nat.ble 1 n && mx.isNone) with
        | false => exact kok_bad
        | true =>
          simp only [Bool.and_eq_true] at hc
          rw [hc.1] at hcomp
          have hmx : mx = none := Option.isNone_iff_eq_none.1 hc.2
          subst hmx
          simp only [cond_true, optL, List.append_nil, Option.isSome_none] at hcomp
          exact lift_read hcomp (simSliceSl (Nat.le_of_ble_eq_true hc.1))
      · exact kok_bad
    · rename_i hu
      rw [hu] at hcomp
      simp only at hcomp
      cases hc : mx.isNone with
      | false => exact kok_bad
      | true => rw [hc] at hcomp; exact lift_pure hcomp simSliceStr
    · exact kok_bad
  | makeSlice t l c =>
    show KOk P o (kinsMakeSlice P t l c)
    have hcomp : compile P o.op = insMakeSlice P t l c := by rw [ho]; rfl
    unfold kinsMakeSlice
    unfold insMakeSlice at hcomp
    split
    · rename_i e hu
      rw [hu] at hcomp
      simp only at hcomp
      split
      · rename_i i hi
        rw [hi] at hcomp
        simp only at hcomp
        split
        · rename_i z hz
          rw [hz] at hcomp
          simp only at hcomp
          cases hc : (Nat.ble 1 i.size && Nat.ble 1 i.bytes && Nat.beq z.cells.size i.size && flat z && z.cells.toList.all scalar && oneAll (ofV z).cells) with
          | false => exact kok_bad
          | true =>
            simp only [Bool.and_eq_true] at hc
            obtain ⟨⟨⟨⟨⟨h1, h2⟩, h3⟩, h4⟩, h5⟩, h6⟩ := hc
            rw [h1, h2, h3, h4, h5] at hcomp
            exact lift_make hcomp (simMakeSlice h6)
        · exact kok_bad
      · exact kok_bad
    · exact kok_bad
  | call c =>
    show KOk P o (kinsCall P cfg c)
    unfold kinsCall
    split
    · split <;> trivial
    · trivial
    · rename_i b hb
      obtain ⟨callee, args, argTypes⟩ := c
      simp only at hb
      subst hb
      have hcomp : compile P o.op = insBuiltin P b argTypes.toList args.toList := by rw [ho]; rfl
      unfold kinsBuiltin
      unfold insBuiltin at hcomp
      split
      · -- len
        simp only at hcomp
        unfold kinsLen
        unfold insLen at hcomp
        split
        · rename_i t ht
          rw [ht] at hcomp
          simp only at hcomp
          split
          · rename_i e hu
            rw [hu] at hcomp
            exact lift_pure hcomp simLenSl
          · rename_i hu
            rw [hu] at hcomp
            exact lift_pure hcomp simLenStr
          · exact kok_bad
        · exact kok_bad
      · simp only at hcomp
        exact lift_pure (f := kMinMax false) hcomp simMinMax
      · simp only at hcomp
        exact lift_pure (f := kMinMax true) hcomp simMinMax
      · -- append
        simp only at hcomp
        unfold kinsAppend
        unfold insAppend at hcomp
        split
        · rename_i t u ht
          rw [ht] at hcomp
          simp only at hcomp
          split
          · rename_i e eu hu huu
            rw [hu] at hcomp
            simp only at hcomp
            split
            · rename_i i hi
              rw [hi] at hcomp
              simp only at hcomp
              split
              · rename_i z hz
                rw [hz] at hcomp
                simp only at hcomp
                cases hc : (Nat.ble 1 i.size && Nat.beq z.cells.size i.size && Nat.beq (layF P e).ks.length i.size) with
                | false => exact kok_bad
                | true =>
                  simp only [Bool.and_eq_true] at hc
                  have hsrc : isSrc P u = true := by unfold isSrc; rw [huu]
                  rw [hc.1.1, hc.1.2, hsrc] at hcomp
                  exact lift_act hcomp (simAppend (Nat.eq_of_beq_eq_true hc.2) (Nat.le_of_ble_eq_true hc.1.1))
              · exact kok_bad
            · exact kok_bad
          · exact kok_bad
        · exact kok_bad
      · trivial
    · trivial
  | _ => trivial
end Go.K
