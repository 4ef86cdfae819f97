/-
  Chapter 07: the loops over a style's things, whole; the small functions.
-/
import Derived.Test.YtadjalkkhkkdiaaStatesA
namespace Go.Proofs.Ytadjalkkhkkdiaa.st
open Go.K
noncomputable section
theorem funcs : Try.prog.funcs.toList.all Abs.funcOk = true := by kernel_rfl
theorem mixed : Try.prog.follows .mixedOrders = true := by kernel_rfl

def okAll (s : Style) : Bool := cond (okSay s.s0) (cond (okSay s.s1) (cond (okSay s.s2) (cond (okSay s.s3) (okSay s.s4) false) false) false) false
def upto1 (s : Style) (l : Look) : Look := said0 s l
def upto2 (s : Style) (l : Look) : Look := said1 s (upto1 s l)
def upto3 (s : Style) (l : Look) : Look := said2 s (upto2 s l)
def upto4 (s : Style) (l : Look) : Look := said3 s (upto3 s l)
def said (s : Style) (l : Look) : Look := said4 s (upto4 s l)
def stop (s : Style) (l : Look) : Int × Look := cond (okSay s.s0) (cond (okSay s.s1) (cond (okSay s.s2) (cond (okSay s.s3) (4, upto4 s l) (3, upto3 s l)) (2, upto2 s l)) (1, upto1 s l)) (0, l)
def badAny (s : Style) : Bool := cond (badSay s.s0) true (cond (badSay s.s1) true (cond (badSay s.s2) true (cond (badSay s.s3) true (badSay s.s4))))
def stopR (s : Style) : Int := cond (badSay s.s0) 0 (cond (badSay s.s1) 1 (cond (badSay s.s2) 2 (cond (badSay s.s3) 3 4)))
def underAll (s : Style) (i : Inherit) : Inherit := under4 s (under3 s (under2 s (under1 s (under0 s i))))
def madeAll (s : Style) (i : Inherit) : Inherit := made4 s (made3 s (made2 s (made1 s (made0 s i))))
def G10 (s : Style) (l : Look) : LTell := .br (okAll s) (.out (.exit 0) [.int .i64 0, .int .i64 5, vCopies] [cStyle s, cLook (said s l)]) (.out .ret [.int .i64 8, .int .i64 (stop s l).1, vCopies] [cStyle s, cLook (stop s l).2])
def F10 : LFn := fun vs rs => fI (vs.getD 0 .unk) (fun a => fI (vs.getD 1 .unk) (fun b => withStyle (rs.getD 0 []) (fun s => withLook (rs.getD 1 []) (fun l => .br (decide (a = 0)) (.br (decide (b = 0)) (G10 s l) .no) .no) .no) .no) .no) .no
def F23 : LFn := fun vs rs => fI (vs.getD 0 .unk) (fun a => withInherit (rs.getD 0 []) (fun i => withStyle (rs.getD 1 []) (fun s => withInherit (rs.getD 2 []) (fun z => .br (decide (a = 0)) (.out (.exit 0) [.int .i64 5, vCopies] [cInherit (underAll s i), cStyle s, cInherit z]) .no) .no) .no) .no) .no
def G25 (s : Style) : LTell := .br (badAny s) (.out .ret [.bool false, .int .i64 (stopR s)] [cStyle s]) (.out (.exit 0) [.bool false, .int .i64 5] [cStyle s])
def F25 : LFn := fun vs rs => fB (vs.getD 0 .unk) (fun a => fI (vs.getD 1 .unk) (fun b => withStyle (rs.getD 0 []) (fun s => .br a .no (.br (decide (b = 0)) (G25 s) .no)) .no) .no) .no
def F26 : LFn := fun vs rs => fI (vs.getD 0 .unk) (fun a => withInherit (rs.getD 0 []) (fun i => withStyle (rs.getD 1 []) (fun s => withInherit (rs.getD 2 []) (fun z => .br (decide (a = 0)) (.out (.exit 0) [.int .i64 5] [cInherit (madeAll s i), cStyle s, cInherit z]) .no) .no) .no) .no) .no

/-! ## What is handed on -/
theorem list_two {α : Type} {l : List α} (h : l.length = 2) : ∃ a b, l = [a, b] := by
  match l, h with
  | [a, b], _ => exact ⟨a, b, rfl⟩
theorem list_one {α : Type} {l : List α} (h : l.length = 1) : ∃ a, l = [a] := by
  match l, h with
  | [a], _ => exact ⟨a, rfl⟩
theorem list_three {α : Type} {l : List α} (h : l.length = 3) : ∃ a b c, l = [a, b, c] := by
  match l, h with
  | [a, b, c], _ => exact ⟨a, b, c, rfl⟩
theorem st10 {vs : List KV} {rs : List (List KV)} (h : StOk Try.prog S10 vs rs) : ∃ a b s l, vs = [.int .i64 a, .int .i64 b, vCopies] ∧ rs = [cStyle s, cLook l] := by
  obtain ⟨r0, r1, rfl⟩ := list_two h.lenr
  obtain ⟨v0, v1, v2, rfl⟩ := list_three (goodVDs_length h.v)
  have hv := h.v
  simp only [S10, goodVDs, Bool.and_eq_true] at hv
  obtain ⟨q0, h0, g0⟩ := h.r 0 _ rfl
  obtain ⟨q1, h1, g1⟩ := h.r 1 _ rfl
  simp at h0 h1
  subst h0 h1
  refine ⟨intOf v0, intOf v1, styleOf r0, lookOf r1, ?_, ?_⟩
  · rw [← i64_good hv.1, ← i64_good hv.2.1, ← copies_good hv.2.2.1]
  · rw [style_of (ckK_good g0), look_of (ckK_good g1)]
theorem st23 {vs : List KV} {rs : List (List KV)} (h : StOk Try.prog S23 vs rs) : ∃ a s i z, vs = [.int .i64 a, vCopies] ∧ rs = [cInherit i, cStyle s, cInherit z] := by
  obtain ⟨r0, r1, r2, rfl⟩ := list_three h.lenr
  obtain ⟨v0, v1, rfl⟩ := list_two (goodVDs_length h.v)
  have hv := h.v
  simp only [S23, goodVDs, Bool.and_eq_true] at hv
  obtain ⟨q0, h0, g0⟩ := h.r 0 _ rfl
  obtain ⟨q1, h1, g1⟩ := h.r 1 _ rfl
  obtain ⟨q2, h2, g2⟩ := h.r 2 _ rfl
  simp at h0 h1 h2
  subst h0 h1 h2
  refine ⟨intOf v0, styleOf r1, inheritOf r0, inheritOf r2, ?_, ?_⟩
  · rw [← i64_good hv.1, ← copies_good hv.2.1]
  · rw [inherit_of (ckK_good g0), style_of (ckK_good g1), inherit_of (ckK_good g2)]
theorem st25 {vs : List KV} {rs : List (List KV)} (h : StOk Try.prog S25 vs rs) : ∃ a b s, vs = [.bool a, .int .i64 b] ∧ rs = [cStyle s] := by
  obtain ⟨r0, rfl⟩ := list_one h.lenr
  obtain ⟨v0, v1, rfl⟩ := list_two (goodVDs_length h.v)
  have hv := h.v
  simp only [S25, goodVDs, Bool.and_eq_true] at hv
  obtain ⟨q0, h0, g0⟩ := h.r 0 _ rfl
  simp at h0
  subst h0
  refine ⟨boolOf v0, intOf v1, styleOf r0, ?_, ?_⟩
  · rw [← bool_good hv.1, ← i64_good hv.2.1]
  · rw [style_of (ckK_good g0)]
theorem st26 {vs : List KV} {rs : List (List KV)} (h : StOk Try.prog S26 vs rs) : ∃ a s i z, vs = [.int .i64 a] ∧ rs = [cInherit i, cStyle s, cInherit z] := by
  obtain ⟨r0, r1, r2, rfl⟩ := list_three h.lenr
  obtain ⟨v0, rfl⟩ := list_one (goodVDs_length h.v)
  have hv := h.v
  simp only [S26, goodVDs, Bool.and_eq_true] at hv
  obtain ⟨q0, h0, g0⟩ := h.r 0 _ rfl
  obtain ⟨q1, h1, g1⟩ := h.r 1 _ rfl
  obtain ⟨q2, h2, g2⟩ := h.r 2 _ rfl
  simp at h0 h1 h2
  subst h0 h1 h2
  refine ⟨intOf v0, styleOf r1, inheritOf r0, inheritOf r2, ?_, ?_⟩
  · rw [← i64_good hv.1]
  · rw [inherit_of (ckK_good g0), style_of (ckK_good g1), inherit_of (ckK_good g2)]

/-! ## The loops -/
theorem loop10 (s : Style) (l : Look) {e : Abs.AExit} {vs' : List KV} {rs' : List (List KV)} (h : (G10 s l).ev = some (e, vs', rs')) : ∃ m, iterK rd10 m [.int .i64 0, .int .i64 0, vCopies] [cStyle s, cLook l] = some (e, vs', rs') := by
  have r0 := round10_0 s l
  have r1 := round10_1 s (upto1 s l)
  have r2 := round10_2 s (upto2 s l)
  have r3 := round10_3 s (upto3 s l)
  have r4 := round10_4 s (upto4 s l)
  have r5 := round10_5 s (said s l)
  simp only [G10, LTell.ev, okAll, stop] at h
  cases h0 : okSay s.s0 with
  | false =>
    rw [h0] at r0
    simp only [h0, cond_false] at h
    refine ⟨1, ?_⟩
    exact (it_o r0 rfl).trans h
  | true =>
    rw [h0] at r0
    cases h1 : okSay s.s1 with
    | false =>
      rw [h1] at r1
      simp only [h0, h1, cond_true, cond_false] at h
      refine ⟨2, ?_⟩
      exact (it_n r0).trans ((it_o r1 rfl).trans h)
    | true =>
      rw [h1] at r1
      cases h2 : okSay s.s2 with
      | false =>
        rw [h2] at r2
        simp only [h0, h1, h2, cond_true, cond_false] at h
        refine ⟨3, ?_⟩
        exact (it_n r0).trans ((it_n r1).trans ((it_o r2 rfl).trans h))
      | true =>
        rw [h2] at r2
        cases h3 : okSay s.s3 with
        | false =>
          rw [h3] at r3
          simp only [h0, h1, h2, h3, cond_true, cond_false] at h
          refine ⟨4, ?_⟩
          exact (it_n r0).trans ((it_n r1).trans ((it_n r2).trans ((it_o r3 rfl).trans h)))
        | true =>
          rw [h3] at r3
          cases h4 : okSay s.s4 with
          | false =>
            rw [h4] at r4
            simp only [h0, h1, h2, h3, h4, cond_true, cond_false] at h
            refine ⟨5, ?_⟩
            exact (it_n r0).trans ((it_n r1).trans ((it_n r2).trans ((it_n r3).trans ((it_o r4 rfl).trans h))))
          | true =>
            rw [h4] at r4
            simp only [h0, h1, h2, h3, h4, cond_true] at h
            refine ⟨6, ?_⟩
            exact (it_n r0).trans ((it_n r1).trans ((it_n r2).trans ((it_n r3).trans ((it_n r4).trans ((it_o r5 rfl).trans h)))))
theorem loop25 (s : Style) {e : Abs.AExit} {vs' : List KV} {rs' : List (List KV)} (h : (G25 s).ev = some (e, vs', rs')) : ∃ m, iterK rd25 m [.bool false, .int .i64 0] [cStyle s] = some (e, vs', rs') := by
  have r0 := round25_0 s
  have r1 := round25_1 s
  have r2 := round25_2 s
  have r3 := round25_3 s
  have r4 := round25_4 s
  have r5 := round25_5 s
  simp only [G25, LTell.ev, badAny, stopR] at h
  cases h0 : badSay s.s0 with
  | true =>
    rw [h0] at r0
    simp only [h0, cond_true] at h
    refine ⟨1, ?_⟩
    exact (it_o r0 rfl).trans h
  | false =>
    rw [h0] at r0
    cases h1 : badSay s.s1 with
    | true =>
      rw [h1] at r1
      simp only [h0, h1, cond_true, cond_false] at h
      refine ⟨2, ?_⟩
      exact (it_n r0).trans ((it_o r1 rfl).trans h)
    | false =>
      rw [h1] at r1
      cases h2 : badSay s.s2 with
      | true =>
        rw [h2] at r2
        simp only [h0, h1, h2, cond_true, cond_false] at h
        refine ⟨3, ?_⟩
        exact (it_n r0).trans ((it_n r1).trans ((it_o r2 rfl).trans h))
      | false =>
        rw [h2] at r2
        cases h3 : badSay s.s3 with
        | true =>
          rw [h3] at r3
          simp only [h0, h1, h2, h3, cond_true, cond_false] at h
          refine ⟨4, ?_⟩
          exact (it_n r0).trans ((it_n r1).trans ((it_n r2).trans ((it_o r3 rfl).trans h)))
        | false =>
          rw [h3] at r3
          cases h4 : badSay s.s4 with
          | true =>
            rw [h4] at r4
            simp only [h0, h1, h2, h3, h4, cond_true, cond_false] at h
            refine ⟨5, ?_⟩
            exact (it_n r0).trans ((it_n r1).trans ((it_n r2).trans ((it_n r3).trans ((it_o r4 rfl).trans h))))
          | false =>
            rw [h4] at r4
            simp only [h0, h1, h2, h3, h4, cond_false] at h
            refine ⟨6, ?_⟩
            exact (it_n r0).trans ((it_n r1).trans ((it_n r2).trans ((it_n r3).trans ((it_n r4).trans ((it_o r5 rfl).trans h)))))
theorem loop23 (s : Style) (z i : Inherit) : iterK rd23 6 [.int .i64 0, vCopies] [cInherit i, cStyle s, cInherit z] = some (.exit 0, [.int .i64 5, vCopies], [cInherit (underAll s i), cStyle s, cInherit z]) := by
  rw [it_n (round23_0 s z i), it_n (round23_1 s z _), it_n (round23_2 s z _), it_n (round23_3 s z _), it_n (round23_4 s z _)]
  exact it_o (round23_5 s z _) rfl
theorem loop26 (s : Style) (z i : Inherit) : iterK rd26 6 [.int .i64 0] [cInherit i, cStyle s, cInherit z] = some (.exit 0, [.int .i64 5], [cInherit (madeAll s i), cStyle s, cInherit z]) := by
  rw [it_n (round26_0 s z i), it_n (round26_1 s z _), it_n (round26_2 s z _), it_n (round26_3 s z _), it_n (round26_4 s z _)]
  exact it_o (round26_5 s z _) rfl
def L10 : Lp := ⟨10, 58, S10, F10⟩
def L23 : Lp := ⟨23, 58, S23, F23⟩
def L25 : Lp := ⟨25, 26, S25, F25⟩
def L26 : Lp := ⟨26, 26, S26, F26⟩
theorem ok10 : L10.Ok Try.prog := ⟨Cfg.none, 9, 9, pc_none, lp_none, fun vs rs e vs' rs' hok hev => by
  obtain ⟨a, b, s, l, rfl, rfl⟩ := st10 hok
  have hev : (LTell.br (decide (a = 0)) (.br (decide (b = 0)) (G10 s l) .no) .no).ev = some (e, vs', rs') := hev
  by_cases ha : a = 0
  · by_cases hb : b = 0
    · subst ha hb
      exact loop10 s l hev
    · simp [LTell.ev, hb] at hev
  · simp [LTell.ev, ha] at hev⟩
theorem ok25 : L25.Ok Try.prog := ⟨Cfg.none, 9, 9, pc_none, lp_none, fun vs rs e vs' rs' hok hev => by
  obtain ⟨a, b, s, rfl, rfl⟩ := st25 hok
  have hev : (LTell.br a .no (.br (decide (b = 0)) (G25 s) .no)).ev = some (e, vs', rs') := hev
  cases a with
  | true => simp [LTell.ev] at hev
  | false =>
    by_cases hb : b = 0
    · subst hb
      exact loop25 s hev
    · simp [LTell.ev, hb] at hev⟩
theorem ok23 : L23.Ok Try.prog := ⟨Cfg.none, 9, 9, pc_none, lp_none, fun vs rs e vs' rs' hok hev => by
  obtain ⟨a, s, i, z, rfl, rfl⟩ := st23 hok
  have hev : (LTell.br (decide (a = 0)) (.out (.exit 0) [.int .i64 5, vCopies] [cInherit (underAll s i), cStyle s, cInherit z]) .no).ev = some (e, vs', rs') := hev
  by_cases ha : a = 0
  · subst ha
    exact ⟨6, (loop23 s z i).trans hev⟩
  · simp [LTell.ev, ha] at hev⟩
theorem ok26 : L26.Ok Try.prog := ⟨Cfg.none, 9, 9, pc_none, lp_none, fun vs rs e vs' rs' hok hev => by
  obtain ⟨a, s, i, z, rfl, rfl⟩ := st26 hok
  have hev : (LTell.br (decide (a = 0)) (.out (.exit 0) [.int .i64 5] [cInherit (madeAll s i), cStyle s, cInherit z]) .no).ev = some (e, vs', rs') := hev
  by_cases ha : a = 0
  · subst ha
    exact ⟨6, (loop26 s z i).trans hev⟩
  · simp [LTell.ev, ha] at hev⟩

/-! ## Small functions -/
def lookBad (l : Look) : Bool := cond (decide (l.tex < -1)) true (cond (decide (l.tex ≥ 16)) true (cond (decide (l.cull > 2)) true (cond (decide (l.bias < -1024)) true (cond (decide (l.bias > 1024)) true (cond (decide (l.bin < 0)) true (decide (l.bin > 15)))))))
def checkLook (l : Look) : Int := cond (lookBad l) 8 0
def mayLook (l : Look) : Bool := cond (decide (l.tex ≥ -1)) (cond (decide (l.tex < 16)) (cond (decide (l.cull ≤ 2)) (cond (decide (l.bias ≥ -1024)) (cond (decide (l.bias ≤ 1024)) (cond (decide (l.bin ≥ 0)) (decide (l.bin ≤ 15)) false) false) false) false) false) false
def begin : Inherit := ⟨⟨255, 255, 255, 255, -1, 0, 0, false, 0⟩, false, false, false, false, false⟩
theorem tree12 (l : Look) : pureK Try.prog Cfg.none 9 9 12 [.agg (cLook l)] = cond (decide (l.tex < -1)) (some (.int .i64 8)) (cond (decide (l.tex ≥ 16)) (some (.int .i64 8)) (cond (decide (l.cull > 2)) (some (.int .i64 8)) (cond (decide (l.bias < -1024)) (some (.int .i64 8)) (cond (decide (l.bias > 1024)) (some (.int .i64 8)) (cond (decide (l.bin < 0)) (some (.int .i64 8)) (cond (decide (l.bin > 15)) (some (.int .i64 8)) (some (.int .i64 0)))))))) := by kernel_rfl
theorem run12 (l : Look) : pureK Try.prog Cfg.none 9 9 12 [.agg (cLook l)] = some (.int .i64 (checkLook l)) := by
  rw [tree12, checkLook, lookBad]
  cases decide (l.tex < -1) <;> cases decide (l.tex ≥ 16) <;> cases decide (l.cull > 2) <;> cases decide (l.bias < -1024) <;> cases decide (l.bias > 1024) <;> cases decide (l.bin < 0) <;> cases decide (l.bin > 15) <;> rfl
theorem tree24 (l : Look) : pureK Try.prog Cfg.none 9 9 24 [.agg (cLook l)] = cond (decide (l.tex ≥ -1)) (cond (decide (l.tex < 16)) (cond (decide (l.cull ≤ 2)) (cond (decide (l.bias ≥ -1024)) (cond (decide (l.bias ≤ 1024)) (cond (decide (l.bin ≥ 0)) (some (.bool (decide (l.bin ≤ 15)))) (some (.bool false))) (some (.bool false))) (some (.bool false))) (some (.bool false))) (some (.bool false))) (some (.bool false)) := by kernel_rfl
theorem run24 (l : Look) : pureK Try.prog Cfg.none 9 9 24 [.agg (cLook l)] = some (.bool (mayLook l)) := by
  rw [tree24, mayLook]
  cases decide (l.tex ≥ -1) <;> cases decide (l.tex < 16) <;> cases decide (l.cull ≤ 2) <;> cases decide (l.bias ≥ -1024) <;> cases decide (l.bias ≤ 1024) <;> cases decide (l.bin ≥ 0) <;> rfl
theorem run14 : pureK Try.prog Cfg.none 9 9 14 [] = some (.agg (cInherit begin)) := by kernel_rfl
theorem run15 : pureK Try.prog Cfg.none 9 9 15 [] = some (.agg (cInherit begin)) := by kernel_rfl
def onL (v : KV) (k : Look → Option KV) : Option KV := withLook v.cells k none
def onS (v : KV) (k : Style → Option KV) : Option KV := withStyle v.cells k none
def onI (v : KV) (k : Inherit → Option KV) : Option KV := withInherit v.cells k none
def q12 : List KV → Option KV := guardF Try.prog 12 fun xs => onL (xs.getD 0 .unk) fun l => some (.int .i64 (checkLook l))
def q24 : List KV → Option KV := guardF Try.prog 24 fun xs => onL (xs.getD 0 .unk) fun l => some (.bool (mayLook l))
def q14 : List KV → Option KV := guardF Try.prog 14 fun _ => some (.agg (cInherit begin))
def q15 : List KV → Option KV := guardF Try.prog 15 fun _ => some (.agg (cInherit begin))
theorem lay25 : layF Try.prog 25 = ⟨true, kLook⟩ := by kernel_rfl
theorem lay28 : layF Try.prog 28 = ⟨true, kInherit⟩ := by kernel_rfl
theorem lay31 : layF Try.prog 31 = ⟨true, kStyle⟩ := by kernel_rfl
theorem argL {ts : List TypeId} {xs : List KV} (h : argsOk Try.prog (25 :: ts) xs = true) : ∃ l vs, xs = .agg (cLook l) :: vs ∧ argsOk Try.prog ts vs = true := by
  obtain ⟨v, vs, rfl, h1, h2⟩ := args_cons h
  rw [lay25] at h1
  obtain ⟨cs, rfl, h3⟩ := elem_agg h1
  exact ⟨lookOf cs, vs, by rw [look_of h3], h2⟩
theorem argS {ts : List TypeId} {xs : List KV} (h : argsOk Try.prog (31 :: ts) xs = true) : ∃ s vs, xs = .agg (cStyle s) :: vs ∧ argsOk Try.prog ts vs = true := by
  obtain ⟨v, vs, rfl, h1, h2⟩ := args_cons h
  rw [lay31] at h1
  obtain ⟨cs, rfl, h3⟩ := elem_agg h1
  exact ⟨styleOf cs, vs, by rw [style_of h3], h2⟩
theorem argI {ts : List TypeId} {xs : List KV} (h : argsOk Try.prog (28 :: ts) xs = true) : ∃ i vs, xs = .agg (cInherit i) :: vs ∧ argsOk Try.prog ts vs = true := by
  obtain ⟨v, vs, rfl, h1, h2⟩ := args_cons h
  rw [lay28] at h1
  obtain ⟨cs, rfl, h3⟩ := elem_agg h1
  exact ⟨inheritOf cs, vs, by rw [inherit_of h3], h2⟩
theorem par12 : paramsOf Try.prog 12 = [25] := by kernel_rfl
theorem par24 : paramsOf Try.prog 24 = [25] := by kernel_rfl
theorem par14 : paramsOf Try.prog 14 = [] := by kernel_rfl
theorem par15 : paramsOf Try.prog 15 = [] := by kernel_rfl
theorem pure12 : PureOk Try.prog 12 q12 := pure_of funcs mixed pc_none lp_none (L := 9) (n := 9) fun xs v h hv => by
  rw [par12] at h
  obtain ⟨l, vs, rfl, h⟩ := argL h
  cases args0 h
  rw [← hv]; exact run12 l
theorem pure24 : PureOk Try.prog 24 q24 := pure_of funcs mixed pc_none lp_none (L := 9) (n := 9) fun xs v h hv => by
  rw [par24] at h
  obtain ⟨l, vs, rfl, h⟩ := argL h
  cases args0 h
  rw [← hv]; exact run24 l
theorem pure14 : PureOk Try.prog 14 q14 := pure_of funcs mixed pc_none lp_none (L := 9) (n := 9) fun xs v h hv => by
  rw [par14] at h
  cases args0 h
  rw [← hv]; exact run14
theorem pure15 : PureOk Try.prog 15 q15 := pure_of funcs mixed pc_none lp_none (L := 9) (n := 9) fun xs v h hv => by
  rw [par15] at h
  cases args0 h
  rw [← hv]; exact run15
def lps : List Lp := [L10, L23, L25, L26]
theorem there : lps.all (fun l => loopThere Try.prog l.f l.p) = true := by kernel_rfl
theorem lps_ok {pc : FuncId → Option (List KV → Option KV)} : LpAll Try.prog ⟨pc, lpOf lps⟩ := lp_all funcs mixed fun l hl => ⟨by
  simp only [lps, List.mem_cons, List.not_mem_nil, or_false] at hl
  rcases hl with rfl | rfl | rfl | rfl
  · exact ok10
  · exact ok23
  · exact ok25
  · exact ok26, List.all_eq_true.1 there l hl⟩
def pcs1 : List (Nat × (List KV → Option KV)) := [(12, q12), (24, q24), (14, q14), (15, q15)]
def cfg1 : Cfg := ⟨pcOf pcs1, lpOf lps⟩
theorem pcs1_ok : PcOk Try.prog cfg1.pc := pc_all fun p hp => by
  simp only [pcs1, List.mem_cons, List.not_mem_nil, or_false] at hp
  rcases hp with rfl | rfl | rfl | rfl
  · exact pure12
  · exact pure24
  · exact pure14
  · exact pure15
end
end Go.Proofs.Ytadjalkkhkkdiaa.st
