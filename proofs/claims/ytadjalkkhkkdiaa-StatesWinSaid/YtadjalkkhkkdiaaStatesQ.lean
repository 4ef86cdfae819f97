/-
  Chapter 07: who says nothing changes nothing: the loop of the law, its run, and the plain data.
-/
import Derived.Test.YtadjalkkhkkdiaaStatesE
namespace Go.Proofs.Ytadjalkkhkkdiaa.st
open Go.K
/-- a thing of a look, as numbers -/
structure Th where
  (a b c d e f : Int)
def cTh (t : Th) : List KV := [.int .i64 t.a, .int .i64 t.b, .int .i64 t.c, .int .i64 t.d, .int .i64 t.e, .int .i64 t.f]
def thing (l : Look) (k : Int) : Th := cond (k == 0) ⟨IntKind.i64.wrap l.c0, IntKind.i64.wrap l.c1, IntKind.i64.wrap l.c2, IntKind.i64.wrap l.c3, 0, 0⟩ (cond (k == 1) ⟨l.tex, 0, 0, 0, 0, 0⟩ (cond (k == 2) ⟨IntKind.i64.wrap l.cull, 0, 0, 0, 0, 0⟩ (cond (k == 3) ⟨l.bias, 0, 0, 0, 0, 0⟩ (cond l.blend ⟨1, l.bin, 0, 0, 0, 0⟩ ⟨0, l.bin, 0, 0, 0, 0⟩))))
def sameTh (x y : Th) : Bool := x.a == y.a && (x.b == y.b && (x.c == y.c && (x.d == y.d && (x.e == y.e && (x.f == y.f && true)))))
def S7 : LSpec := ⟨[(4, dBool), (10, dI64)], [(2, ckK kInherit, 1), (3, ckK kStyle, 1), (8, ckK kInherit, 1)], [(2, 0, 0), (3, 1, 0), (8, 2, 0)]⟩
noncomputable section
def thV (t : Th) : Option KV := some (.agg (cTh t))
theorem tree22 (l : Look) (k : Int) : pureK Try.prog Cfg.none 9 9 22 [.agg (cLook l), .int .i64 k] = cond (k == 0) (thV ⟨IntKind.i64.wrap l.c0, IntKind.i64.wrap l.c1, IntKind.i64.wrap l.c2, IntKind.i64.wrap l.c3, 0, 0⟩) (cond (k == 1) (thV ⟨l.tex, 0, 0, 0, 0, 0⟩) (cond (k == 2) (thV ⟨IntKind.i64.wrap l.cull, 0, 0, 0, 0, 0⟩) (cond (k == 3) (thV ⟨l.bias, 0, 0, 0, 0, 0⟩) (cond l.blend (thV ⟨1, l.bin, 0, 0, 0, 0⟩) (thV ⟨0, l.bin, 0, 0, 0, 0⟩))))) := by kernel_rfl
theorem run22 (l : Look) (k : Int) : pureK Try.prog Cfg.none 9 9 22 [.agg (cLook l), .int .i64 k] = thV (thing l k) := by
  rw [tree22, thing]
  cases k == 0 <;> cases k == 1 <;> cases k == 2 <;> cases k == 3 <;> cases l.blend <;> rfl
theorem par22 : paramsOf Try.prog 22 = [25, 3] := by kernel_rfl
theorem par19 : paramsOf Try.prog 19 = [] := by kernel_rfl
theorem lay3 : layF Try.prog 3 = ⟨false, [.int .i64]⟩ := by kernel_rfl
theorem argN {ts : List TypeId} {xs : List KV} (h : argsOk Try.prog (3 :: ts) xs = true) : ∃ n vs, xs = .int .i64 n :: vs ∧ argsOk Try.prog ts vs = true := by
  obtain ⟨v, vs, rfl, h1, h2⟩ := args_cons h
  rw [lay3] at h1
  exact ⟨intOf v, vs, by rw [show v = .int .i64 (intOf v) from (kindOk_leaf (elem_one h1)).symm]; rfl, h2⟩
theorem run19 : pureK Try.prog cfg3 9 9 19 [] = some (.bool true) := by kernel_rfl
def q22 : List KV → Option KV := guardF Try.prog 22 fun xs => onL (xs.getD 0 .unk) fun l => fI (xs.getD 1 .unk) (fun k => thV (thing l k)) none
def q19 : List KV → Option KV := guardF Try.prog 19 fun _ => some (.bool true)
theorem pure22 : PureOk Try.prog 22 q22 := pure_of funcs mixed pc_none lp_none (L := 9) (n := 9) fun xs v h hv => by
  rw [par22] at h
  obtain ⟨l, vs, rfl, h⟩ := argL h
  obtain ⟨k, vs, rfl, h⟩ := argN h
  cases args0 h
  rw [← hv]; exact run22 l k
theorem pure19 : PureOk Try.prog 19 q19 := pure_of funcs mixed pcs3_ok lps_ok (L := 9) (n := 9) fun xs v h hv => by
  rw [par19] at h
  cases args0 h
  rw [← hv]; exact run19
def cfgT : Cfg := ⟨pcOf [(22, q22)], lpOf []⟩
theorem cfgT_pc : PcOk Try.prog cfgT.pc := pc_all fun p hp => by
  simp only [List.mem_cons, List.not_mem_nil, or_false] at hp
  subst hp
  exact pure22
theorem cfgT_lp : LpAll Try.prog cfgT := lp_all funcs mixed (ls := []) fun l hl => by simp at hl
def rd7 : List KV → List (List KV) → Option (Abs.AExit × List KV × List (List KV)) := roundK Try.prog cfgT 9 9 7 2042 (bodyOf Try.prog 7 2042) S7
def n7 (k : Int) (i : Inherit) (s : Style) (y : Inherit) : Option (Abs.AExit × List KV × List (List KV)) := some (.normal, [.bool false, .int .i64 k], [cInherit i, cStyle s, cInherit y])
def b7 (k : Int) (i : Inherit) (s : Style) (y : Inherit) : Option (Abs.AExit × List KV × List (List KV)) := some (.ret, [.bool false, .int .i64 k], [cInherit i, cStyle s, cInherit y])

def rest0 {α : Type} (bad : α) (i : Inherit) (s : Style) (y : Inherit) (next : α) : α := cond (s.s0 == 0) (cond (!sameTh (thing y.look 0) (thing i.look 0)) bad (cond (!(y.k0 == i.k0)) bad next)) next
def try0 {α : Type} (bad : α) (i : Inherit) (s : Style) (y : Inherit) (next : α) : α := cond (!i.k0) (cond (decide (s.s0 > 0)) (cond (!sameTh (thing y.look 0) (thing s.look 0)) bad (rest0 bad i s y next)) (rest0 bad i s y next)) (rest0 bad i s y next)
theorem tree7_0 (i : Inherit) (s : Style) (y : Inherit) : rd7 [.bool false, .int .i64 0] [cInherit i, cStyle s, cInherit y] = try0 (b7 0 i s y) i s y (n7 1 i s y) := by kernel_rfl
def bad0 (i : Inherit) (s : Style) (y : Inherit) : Bool := try0 true i s y false
theorem round7_0 (i : Inherit) (s : Style) (y : Inherit) : rd7 [.bool false, .int .i64 0] [cInherit i, cStyle s, cInherit y] = cond (bad0 i s y) (b7 0 i s y) (n7 1 i s y) := by
  rw [tree7_0, bad0]
  unfold try0 rest0
  cases i.k0 <;> cases decide (s.s0 > 0) <;> cases s.s0 == 0 <;> cases sameTh (thing y.look 0) (thing s.look 0) <;> cases sameTh (thing y.look 0) (thing i.look 0) <;> cases y.k0 <;> rfl
def rest1 {α : Type} (bad : α) (i : Inherit) (s : Style) (y : Inherit) (next : α) : α := cond (s.s1 == 0) (cond (!sameTh (thing y.look 1) (thing i.look 1)) bad (cond (!(y.k1 == i.k1)) bad next)) next
def try1 {α : Type} (bad : α) (i : Inherit) (s : Style) (y : Inherit) (next : α) : α := cond (!i.k1) (cond (decide (s.s1 > 0)) (cond (!sameTh (thing y.look 1) (thing s.look 1)) bad (rest1 bad i s y next)) (rest1 bad i s y next)) (rest1 bad i s y next)
theorem tree7_1 (i : Inherit) (s : Style) (y : Inherit) : rd7 [.bool false, .int .i64 1] [cInherit i, cStyle s, cInherit y] = try1 (b7 1 i s y) i s y (n7 2 i s y) := by kernel_rfl
def bad1 (i : Inherit) (s : Style) (y : Inherit) : Bool := try1 true i s y false
theorem round7_1 (i : Inherit) (s : Style) (y : Inherit) : rd7 [.bool false, .int .i64 1] [cInherit i, cStyle s, cInherit y] = cond (bad1 i s y) (b7 1 i s y) (n7 2 i s y) := by
  rw [tree7_1, bad1]
  unfold try1 rest1
  cases i.k1 <;> cases decide (s.s1 > 0) <;> cases s.s1 == 0 <;> cases sameTh (thing y.look 1) (thing s.look 1) <;> cases sameTh (thing y.look 1) (thing i.look 1) <;> cases y.k1 <;> rfl
def rest2 {α : Type} (bad : α) (i : Inherit) (s : Style) (y : Inherit) (next : α) : α := cond (s.s2 == 0) (cond (!sameTh (thing y.look 2) (thing i.look 2)) bad (cond (!(y.k2 == i.k2)) bad next)) next
def try2 {α : Type} (bad : α) (i : Inherit) (s : Style) (y : Inherit) (next : α) : α := cond (!i.k2) (cond (decide (s.s2 > 0)) (cond (!sameTh (thing y.look 2) (thing s.look 2)) bad (rest2 bad i s y next)) (rest2 bad i s y next)) (rest2 bad i s y next)
theorem tree7_2 (i : Inherit) (s : Style) (y : Inherit) : rd7 [.bool false, .int .i64 2] [cInherit i, cStyle s, cInherit y] = try2 (b7 2 i s y) i s y (n7 3 i s y) := by kernel_rfl
def bad2 (i : Inherit) (s : Style) (y : Inherit) : Bool := try2 true i s y false
theorem round7_2 (i : Inherit) (s : Style) (y : Inherit) : rd7 [.bool false, .int .i64 2] [cInherit i, cStyle s, cInherit y] = cond (bad2 i s y) (b7 2 i s y) (n7 3 i s y) := by
  rw [tree7_2, bad2]
  unfold try2 rest2
  cases i.k2 <;> cases decide (s.s2 > 0) <;> cases s.s2 == 0 <;> cases sameTh (thing y.look 2) (thing s.look 2) <;> cases sameTh (thing y.look 2) (thing i.look 2) <;> cases y.k2 <;> rfl
def rest3 {α : Type} (bad : α) (i : Inherit) (s : Style) (y : Inherit) (next : α) : α := cond (s.s3 == 0) (cond (!sameTh (thing y.look 3) (thing i.look 3)) bad (cond (!(y.k3 == i.k3)) bad next)) next
def try3 {α : Type} (bad : α) (i : Inherit) (s : Style) (y : Inherit) (next : α) : α := cond (!i.k3) (cond (decide (s.s3 > 0)) (cond (!sameTh (thing y.look 3) (thing s.look 3)) bad (rest3 bad i s y next)) (rest3 bad i s y next)) (rest3 bad i s y next)
theorem tree7_3 (i : Inherit) (s : Style) (y : Inherit) : rd7 [.bool false, .int .i64 3] [cInherit i, cStyle s, cInherit y] = try3 (b7 3 i s y) i s y (n7 4 i s y) := by kernel_rfl
def bad3 (i : Inherit) (s : Style) (y : Inherit) : Bool := try3 true i s y false
theorem round7_3 (i : Inherit) (s : Style) (y : Inherit) : rd7 [.bool false, .int .i64 3] [cInherit i, cStyle s, cInherit y] = cond (bad3 i s y) (b7 3 i s y) (n7 4 i s y) := by
  rw [tree7_3, bad3]
  unfold try3 rest3
  cases i.k3 <;> cases decide (s.s3 > 0) <;> cases s.s3 == 0 <;> cases sameTh (thing y.look 3) (thing s.look 3) <;> cases sameTh (thing y.look 3) (thing i.look 3) <;> cases y.k3 <;> rfl
def rest4 {α : Type} (bad : α) (i : Inherit) (s : Style) (y : Inherit) (next : α) : α := cond (s.s4 == 0) (cond (!sameTh (thing y.look 4) (thing i.look 4)) bad (cond (!(y.k4 == i.k4)) bad next)) next
def try4 {α : Type} (bad : α) (i : Inherit) (s : Style) (y : Inherit) (next : α) : α := cond (!i.k4) (cond (decide (s.s4 > 0)) (cond (!sameTh (thing y.look 4) (thing s.look 4)) bad (rest4 bad i s y next)) (rest4 bad i s y next)) (rest4 bad i s y next)
theorem tree7_4 (i : Inherit) (s : Style) (y : Inherit) : rd7 [.bool false, .int .i64 4] [cInherit i, cStyle s, cInherit y] = try4 (b7 4 i s y) i s y (n7 5 i s y) := by kernel_rfl
def bad4 (i : Inherit) (s : Style) (y : Inherit) : Bool := try4 true i s y false
theorem round7_4 (i : Inherit) (s : Style) (y : Inherit) : rd7 [.bool false, .int .i64 4] [cInherit i, cStyle s, cInherit y] = cond (bad4 i s y) (b7 4 i s y) (n7 5 i s y) := by
  rw [tree7_4, bad4]
  unfold try4 rest4
  cases i.k4 <;> cases decide (s.s4 > 0) <;> cases s.s4 == 0 <;> cases sameTh (thing y.look 4) (thing s.look 4) <;> cases sameTh (thing y.look 4) (thing i.look 4) <;> cases y.k4 <;> rfl
theorem round7_5 (i : Inherit) (s : Style) (y : Inherit) : rd7 [.bool false, .int .i64 5] [cInherit i, cStyle s, cInherit y] = some (.exit 0, [.bool false, .int .i64 5], [cInherit i, cStyle s, cInherit y]) := by kernel_rfl
def badQ (i : Inherit) (s : Style) (y : Inherit) : Bool := cond (bad0 i s y) true (cond (bad1 i s y) true (cond (bad2 i s y) true (cond (bad3 i s y) true (bad4 i s y))))
def stopQ (i : Inherit) (s : Style) (y : Inherit) : Int := cond (bad0 i s y) 0 (cond (bad1 i s y) 1 (cond (bad2 i s y) 2 (cond (bad3 i s y) 3 4)))
def G7 (i : Inherit) (s : Style) (y : Inherit) : LTell := .br (badQ i s y) (.out .ret [.bool false, .int .i64 (stopQ i s y)] [cInherit i, cStyle s, cInherit y]) (.out (.exit 0) [.bool false, .int .i64 5] [cInherit i, cStyle s, cInherit y])
def F7 : LFn := fun vs rs => fB (vs.getD 0 .unk) (fun a => fI (vs.getD 1 .unk) (fun b => withInherit (rs.getD 0 []) (fun i => withStyle (rs.getD 1 []) (fun s => withInherit (rs.getD 2 []) (fun y => .br a .no (.br (decide (b = 0)) (G7 i s y) .no)) .no) .no) .no) .no) .no
theorem st7 {vs : List KV} {rs : List (List KV)} (h : StOk Try.prog S7 vs rs) : ∃ a b i s y, vs = [.bool a, .int .i64 b] ∧ rs = [cInherit i, cStyle s, cInherit y] := by
  obtain ⟨r0, r1, r2, rfl⟩ := list_three h.lenr
  obtain ⟨v0, v1, rfl⟩ := list_two (goodVDs_length h.v)
  have hv := h.v
  simp only [S7, goodVDs, Bool.and_eq_true] at hv
  obtain ⟨q0, h0, g0⟩ := h.r 0 _ rfl
  obtain ⟨q1, h1, g1⟩ := h.r 1 _ rfl
  obtain ⟨q2, h2, g2⟩ := h.r 2 _ rfl
  simp at h0 h1 h2
  subst h0 h1 h2
  refine ⟨boolOf v0, intOf v1, inheritOf r0, styleOf r1, inheritOf r2, ?_, ?_⟩
  · rw [← bool_good hv.1, ← i64_good hv.2.1]
  · rw [inherit_of (ckK_good g0), style_of (ckK_good g1), inherit_of (ckK_good g2)]
theorem loop7 (i : Inherit) (s : Style) (y : Inherit) {e : Abs.AExit} {vs' : List KV} {rs' : List (List KV)} (h : (G7 i s y).ev = some (e, vs', rs')) : ∃ m, iterK rd7 m [.bool false, .int .i64 0] [cInherit i, cStyle s, cInherit y] = some (e, vs', rs') := by
  have r0 := round7_0 i s y
  have r1 := round7_1 i s y
  have r2 := round7_2 i s y
  have r3 := round7_3 i s y
  have r4 := round7_4 i s y
  have r5 := round7_5 i s y
  simp only [G7, LTell.ev, badQ, stopQ] at h
  cases h0 : bad0 i s y with
  | true =>
    rw [h0] at r0
    simp only [h0, cond_true] at h
    refine ⟨1, ?_⟩
    exact (it_o r0 rfl).trans h
  | false =>
    rw [h0] at r0
    cases h1 : bad1 i s y with
    | true =>
      rw [h1] at r1
      simp only [h0, h1, cond_true, cond_false] at h
      refine ⟨2, ?_⟩
      exact (it_n r0).trans ((it_o r1 rfl).trans h)
    | false =>
      rw [h1] at r1
      cases h2 : bad2 i s y with
      | true =>
        rw [h2] at r2
        simp only [h0, h1, h2, cond_true, cond_false] at h
        refine ⟨3, ?_⟩
        exact (it_n r0).trans ((it_n r1).trans ((it_o r2 rfl).trans h))
      | false =>
        rw [h2] at r2
        cases h3 : bad3 i s y with
        | true =>
          rw [h3] at r3
          simp only [h0, h1, h2, h3, cond_true, cond_false] at h
          refine ⟨4, ?_⟩
          exact (it_n r0).trans ((it_n r1).trans ((it_n r2).trans ((it_o r3 rfl).trans h)))
        | false =>
          rw [h3] at r3
          cases h4 : bad4 i s y with
          | true =>
            rw [h4] at r4
            simp only [h0, h1, h2, h3, h4, cond_true, cond_false] at h
            refine ⟨5, ?_⟩
            exact (it_n r0).trans ((it_n r1).trans ((it_n r2).trans ((it_n r3).trans ((it_o r4 rfl).trans h))))
          | false =>
            rw [h4] at r4
            simp only [h0, h1, h2, h3, h4, cond_false] at h
            refine ⟨6, ?_⟩
            exact (it_n r0).trans ((it_n r1).trans ((it_n r2).trans ((it_n r3).trans ((it_n r4).trans ((it_o r5 rfl).trans h)))))
def L7 : Lp := ⟨7, 2042, S7, F7⟩
theorem ok7 : L7.Ok Try.prog := ⟨cfgT, 9, 9, cfgT_pc, cfgT_lp, fun vs rs e vs' rs' hok hev => by
  obtain ⟨a, b, i, s, y, rfl, rfl⟩ := st7 hok
  have hev : (LTell.br a .no (.br (decide (b = 0)) (G7 i s y) .no)).ev = some (e, vs', rs') := hev
  cases a with
  | true => simp [LTell.ev] at hev
  | false =>
    by_cases hb : b = 0
    · subst hb
      exact loop7 i s y hev
    · simp [LTell.ev, hb] at hev⟩
theorem there7 : loopThere Try.prog 7 2042 = true := by kernel_rfl
def cfg7 : Cfg := ⟨pcOf ((19, q19) :: pcs3), lpOf [L7]⟩
theorem cfg7_pc : PcOk Try.prog cfg7.pc := pc_all fun p hp => by
  rcases List.mem_cons.1 hp with rfl | hp
  · exact pure19
  · simp only [pcs3, List.mem_cons, List.not_mem_nil, or_false] at hp
    rcases hp with rfl | rfl | rfl | rfl | rfl | rfl | rfl | rfl | rfl | rfl | rfl | rfl
    · exact pure8
    · exact pure9
    · exact pure11
    · exact pure13
    · exact pure10
    · exact pure25
    · exact pure23
    · exact pure26
    · exact pure12
    · exact pure24
    · exact pure14
    · exact pure15
theorem cfg7_lp : LpAll Try.prog cfg7 := lp_all funcs mixed fun l hl => by
  simp only [List.mem_cons, List.not_mem_nil, or_false] at hl
  subst hl
  exact ⟨ok7, there7⟩
def zeroStyle : Style := ⟨0, 0, 0, 0, 0, zeroLook⟩
theorem tree7 (i : Inherit) (s : Style) : pureK Try.prog cfg7 9 9 7 [.agg (cInherit i), .agg (cStyle s)] =
    cond (uE i zeroStyle != 0) (cond (uE i s != 0) (some (.bool (sameInherit (uV i s) zeroInherit))) (some (.bool false)))
      (cond (uE i s != 0) (cond (uE i s != 0) (some (.bool (sameInherit (uV i s) zeroInherit))) (some (.bool false)))
        (cond (!sameInherit (uV i zeroStyle) i) (some (.bool false)) (cond (badQ i s (uV i s)) (some (.bool false)) (some (.bool true))))) := by kernel_rfl
end

/-! ## The plain law -/
theorem sameTh_refl (a : Th) : sameTh a a = true := by simp [sameTh]
theorem check_zero : check zeroStyle = 0 := by
  rw [check_same ⟨by decide, by decide, by decide, by decide, by decide⟩]
  decide
theorem under_zero (i : Inherit) : underAll zeroStyle i = i := rfl

theorem under_c0 (s : Style) (i : Inherit) : (underAll s i).look.c0 = cond (left s.s0 i.k0) i.look.c0 s.look.c0 := by
  unfold underAll under0 under1 under2 under3 under4
  cases h0 : left s.s0 i.k0 <;> cases h1 : left s.s1 i.k1 <;> cases h2 : left s.s2 i.k2 <;> cases h3 : left s.s3 i.k3 <;> cases h4 : left s.s4 i.k4 <;> simp only [cond_true, cond_false, h1, h2, h3, h4] <;> rfl
theorem under_c1 (s : Style) (i : Inherit) : (underAll s i).look.c1 = cond (left s.s0 i.k0) i.look.c1 s.look.c1 := by
  unfold underAll under0 under1 under2 under3 under4
  cases h0 : left s.s0 i.k0 <;> cases h1 : left s.s1 i.k1 <;> cases h2 : left s.s2 i.k2 <;> cases h3 : left s.s3 i.k3 <;> cases h4 : left s.s4 i.k4 <;> simp only [cond_true, cond_false, h1, h2, h3, h4] <;> rfl
theorem under_c2 (s : Style) (i : Inherit) : (underAll s i).look.c2 = cond (left s.s0 i.k0) i.look.c2 s.look.c2 := by
  unfold underAll under0 under1 under2 under3 under4
  cases h0 : left s.s0 i.k0 <;> cases h1 : left s.s1 i.k1 <;> cases h2 : left s.s2 i.k2 <;> cases h3 : left s.s3 i.k3 <;> cases h4 : left s.s4 i.k4 <;> simp only [cond_true, cond_false, h1, h2, h3, h4] <;> rfl
theorem under_c3 (s : Style) (i : Inherit) : (underAll s i).look.c3 = cond (left s.s0 i.k0) i.look.c3 s.look.c3 := by
  unfold underAll under0 under1 under2 under3 under4
  cases h0 : left s.s0 i.k0 <;> cases h1 : left s.s1 i.k1 <;> cases h2 : left s.s2 i.k2 <;> cases h3 : left s.s3 i.k3 <;> cases h4 : left s.s4 i.k4 <;> simp only [cond_true, cond_false, h1, h2, h3, h4] <;> rfl
theorem under_k0 (s : Style) (i : Inherit) : (underAll s i).k0 = cond (left s.s0 i.k0) i.k0 (over s.s0) := by
  unfold underAll under0 under1 under2 under3 under4
  cases h0 : left s.s0 i.k0 <;> cases h1 : left s.s1 i.k1 <;> cases h2 : left s.s2 i.k2 <;> cases h3 : left s.s3 i.k3 <;> cases h4 : left s.s4 i.k4 <;> simp only [cond_true, cond_false, h1, h2, h3, h4] <;> rfl
theorem under_tex (s : Style) (i : Inherit) : (underAll s i).look.tex = cond (left s.s1 i.k1) i.look.tex s.look.tex := by
  unfold underAll under0 under1 under2 under3 under4
  cases h0 : left s.s0 i.k0 <;> cases h1 : left s.s1 i.k1 <;> cases h2 : left s.s2 i.k2 <;> cases h3 : left s.s3 i.k3 <;> cases h4 : left s.s4 i.k4 <;> simp only [cond_true, cond_false, h1, h2, h3, h4] <;> rfl
theorem under_k1 (s : Style) (i : Inherit) : (underAll s i).k1 = cond (left s.s1 i.k1) i.k1 (over s.s1) := by
  unfold underAll under0 under1 under2 under3 under4
  cases h0 : left s.s0 i.k0 <;> cases h1 : left s.s1 i.k1 <;> cases h2 : left s.s2 i.k2 <;> cases h3 : left s.s3 i.k3 <;> cases h4 : left s.s4 i.k4 <;> simp only [cond_true, cond_false, h1, h2, h3, h4] <;> rfl
theorem under_cull (s : Style) (i : Inherit) : (underAll s i).look.cull = cond (left s.s2 i.k2) i.look.cull s.look.cull := by
  unfold underAll under0 under1 under2 under3 under4
  cases h0 : left s.s0 i.k0 <;> cases h1 : left s.s1 i.k1 <;> cases h2 : left s.s2 i.k2 <;> cases h3 : left s.s3 i.k3 <;> cases h4 : left s.s4 i.k4 <;> simp only [cond_true, cond_false, h1, h2, h3, h4] <;> rfl
theorem under_k2 (s : Style) (i : Inherit) : (underAll s i).k2 = cond (left s.s2 i.k2) i.k2 (over s.s2) := by
  unfold underAll under0 under1 under2 under3 under4
  cases h0 : left s.s0 i.k0 <;> cases h1 : left s.s1 i.k1 <;> cases h2 : left s.s2 i.k2 <;> cases h3 : left s.s3 i.k3 <;> cases h4 : left s.s4 i.k4 <;> simp only [cond_true, cond_false, h1, h2, h3, h4] <;> rfl
theorem under_bias (s : Style) (i : Inherit) : (underAll s i).look.bias = cond (left s.s3 i.k3) i.look.bias s.look.bias := by
  unfold underAll under0 under1 under2 under3 under4
  cases h0 : left s.s0 i.k0 <;> cases h1 : left s.s1 i.k1 <;> cases h2 : left s.s2 i.k2 <;> cases h3 : left s.s3 i.k3 <;> cases h4 : left s.s4 i.k4 <;> simp only [cond_true, cond_false, h1, h2, h3, h4] <;> rfl
theorem under_k3 (s : Style) (i : Inherit) : (underAll s i).k3 = cond (left s.s3 i.k3) i.k3 (over s.s3) := by
  unfold underAll under0 under1 under2 under3 under4
  cases h0 : left s.s0 i.k0 <;> cases h1 : left s.s1 i.k1 <;> cases h2 : left s.s2 i.k2 <;> cases h3 : left s.s3 i.k3 <;> cases h4 : left s.s4 i.k4 <;> simp only [cond_true, cond_false, h1, h2, h3, h4] <;> rfl
theorem under_blend (s : Style) (i : Inherit) : (underAll s i).look.blend = cond (left s.s4 i.k4) i.look.blend s.look.blend := by
  unfold underAll under0 under1 under2 under3 under4
  cases h0 : left s.s0 i.k0 <;> cases h1 : left s.s1 i.k1 <;> cases h2 : left s.s2 i.k2 <;> cases h3 : left s.s3 i.k3 <;> cases h4 : left s.s4 i.k4 <;> simp only [cond_true, cond_false, h1, h2, h3, h4] <;> rfl
theorem under_bin (s : Style) (i : Inherit) : (underAll s i).look.bin = cond (left s.s4 i.k4) i.look.bin s.look.bin := by
  unfold underAll under0 under1 under2 under3 under4
  cases h0 : left s.s0 i.k0 <;> cases h1 : left s.s1 i.k1 <;> cases h2 : left s.s2 i.k2 <;> cases h3 : left s.s3 i.k3 <;> cases h4 : left s.s4 i.k4 <;> simp only [cond_true, cond_false, h1, h2, h3, h4] <;> rfl
theorem under_k4 (s : Style) (i : Inherit) : (underAll s i).k4 = cond (left s.s4 i.k4) i.k4 (over s.s4) := by
  unfold underAll under0 under1 under2 under3 under4
  cases h0 : left s.s0 i.k0 <;> cases h1 : left s.s1 i.k1 <;> cases h2 : left s.s2 i.k2 <;> cases h3 : left s.s3 i.k3 <;> cases h4 : left s.s4 i.k4 <;> simp only [cond_true, cond_false, h1, h2, h3, h4] <;> rfl
theorem thing_0 (s : Style) (i : Inherit) : thing (underAll s i).look 0 = cond (left s.s0 i.k0) (thing i.look 0) (thing s.look 0) := by
  have e : ∀ a b : Look, a.c0 = b.c0 → a.c1 = b.c1 → a.c2 = b.c2 → a.c3 = b.c3 → thing a 0 = thing b 0 := by
    intro a b hc0 hc1 hc2 hc3
    simp [thing, hc0, hc1, hc2, hc3]
  cases h : left s.s0 i.k0 with
  | true => exact e _ _ (by rw [under_c0, h]; rfl) (by rw [under_c1, h]; rfl) (by rw [under_c2, h]; rfl) (by rw [under_c3, h]; rfl)
  | false => exact e _ _ (by rw [under_c0, h]; rfl) (by rw [under_c1, h]; rfl) (by rw [under_c2, h]; rfl) (by rw [under_c3, h]; rfl)
theorem good_0 (i : Inherit) (s : Style) : bad0 i s (underAll s i) = false := by
  have hr : rest0 true i s (underAll s i) false = false := by
    unfold rest0
    cases h : s.s0 == 0 with
    | false => rfl
    | true =>
      have hl : left s.s0 i.k0 = true := by rw [left, h]; rfl
      rw [thing_0, under_k0, hl]
      simp [sameTh_refl]
  unfold bad0 try0
  rw [hr]
  cases hk : i.k0 with
  | true => rfl
  | false =>
    by_cases hs : s.s0 > 0
    · have h0 : (s.s0 == 0) = false := by rw [beq_eq_false_iff_ne]; omega
      have hl : left s.s0 i.k0 = false := by rw [left, h0, hk]; rfl
      rw [thing_0, hl]
      simp [sameTh_refl]
    · simp [hs]
theorem thing_1 (s : Style) (i : Inherit) : thing (underAll s i).look 1 = cond (left s.s1 i.k1) (thing i.look 1) (thing s.look 1) := by
  have e : ∀ a b : Look, a.tex = b.tex → thing a 1 = thing b 1 := by
    intro a b htex
    simp [thing, htex]
  cases h : left s.s1 i.k1 with
  | true => exact e _ _ (by rw [under_tex, h]; rfl)
  | false => exact e _ _ (by rw [under_tex, h]; rfl)
theorem good_1 (i : Inherit) (s : Style) : bad1 i s (underAll s i) = false := by
  have hr : rest1 true i s (underAll s i) false = false := by
    unfold rest1
    cases h : s.s1 == 0 with
    | false => rfl
    | true =>
      have hl : left s.s1 i.k1 = true := by rw [left, h]; rfl
      rw [thing_1, under_k1, hl]
      simp [sameTh_refl]
  unfold bad1 try1
  rw [hr]
  cases hk : i.k1 with
  | true => rfl
  | false =>
    by_cases hs : s.s1 > 0
    · have h0 : (s.s1 == 0) = false := by rw [beq_eq_false_iff_ne]; omega
      have hl : left s.s1 i.k1 = false := by rw [left, h0, hk]; rfl
      rw [thing_1, hl]
      simp [sameTh_refl]
    · simp [hs]
theorem thing_2 (s : Style) (i : Inherit) : thing (underAll s i).look 2 = cond (left s.s2 i.k2) (thing i.look 2) (thing s.look 2) := by
  have e : ∀ a b : Look, a.cull = b.cull → thing a 2 = thing b 2 := by
    intro a b hcull
    simp [thing, hcull]
  cases h : left s.s2 i.k2 with
  | true => exact e _ _ (by rw [under_cull, h]; rfl)
  | false => exact e _ _ (by rw [under_cull, h]; rfl)
theorem good_2 (i : Inherit) (s : Style) : bad2 i s (underAll s i) = false := by
  have hr : rest2 true i s (underAll s i) false = false := by
    unfold rest2
    cases h : s.s2 == 0 with
    | false => rfl
    | true =>
      have hl : left s.s2 i.k2 = true := by rw [left, h]; rfl
      rw [thing_2, under_k2, hl]
      simp [sameTh_refl]
  unfold bad2 try2
  rw [hr]
  cases hk : i.k2 with
  | true => rfl
  | false =>
    by_cases hs : s.s2 > 0
    · have h0 : (s.s2 == 0) = false := by rw [beq_eq_false_iff_ne]; omega
      have hl : left s.s2 i.k2 = false := by rw [left, h0, hk]; rfl
      rw [thing_2, hl]
      simp [sameTh_refl]
    · simp [hs]
theorem thing_3 (s : Style) (i : Inherit) : thing (underAll s i).look 3 = cond (left s.s3 i.k3) (thing i.look 3) (thing s.look 3) := by
  have e : ∀ a b : Look, a.bias = b.bias → thing a 3 = thing b 3 := by
    intro a b hbias
    simp [thing, hbias]
  cases h : left s.s3 i.k3 with
  | true => exact e _ _ (by rw [under_bias, h]; rfl)
  | false => exact e _ _ (by rw [under_bias, h]; rfl)
theorem good_3 (i : Inherit) (s : Style) : bad3 i s (underAll s i) = false := by
  have hr : rest3 true i s (underAll s i) false = false := by
    unfold rest3
    cases h : s.s3 == 0 with
    | false => rfl
    | true =>
      have hl : left s.s3 i.k3 = true := by rw [left, h]; rfl
      rw [thing_3, under_k3, hl]
      simp [sameTh_refl]
  unfold bad3 try3
  rw [hr]
  cases hk : i.k3 with
  | true => rfl
  | false =>
    by_cases hs : s.s3 > 0
    · have h0 : (s.s3 == 0) = false := by rw [beq_eq_false_iff_ne]; omega
      have hl : left s.s3 i.k3 = false := by rw [left, h0, hk]; rfl
      rw [thing_3, hl]
      simp [sameTh_refl]
    · simp [hs]
theorem thing_4 (s : Style) (i : Inherit) : thing (underAll s i).look 4 = cond (left s.s4 i.k4) (thing i.look 4) (thing s.look 4) := by
  have e : ∀ a b : Look, a.blend = b.blend → a.bin = b.bin → thing a 4 = thing b 4 := by
    intro a b hblend hbin
    simp [thing, hblend, hbin]
  cases h : left s.s4 i.k4 with
  | true => exact e _ _ (by rw [under_blend, h]; rfl) (by rw [under_bin, h]; rfl)
  | false => exact e _ _ (by rw [under_blend, h]; rfl) (by rw [under_bin, h]; rfl)
theorem good_4 (i : Inherit) (s : Style) : bad4 i s (underAll s i) = false := by
  have hr : rest4 true i s (underAll s i) false = false := by
    unfold rest4
    cases h : s.s4 == 0 with
    | false => rfl
    | true =>
      have hl : left s.s4 i.k4 = true := by rw [left, h]; rfl
      rw [thing_4, under_k4, hl]
      simp [sameTh_refl]
  unfold bad4 try4
  rw [hr]
  cases hk : i.k4 with
  | true => rfl
  | false =>
    by_cases hs : s.s4 > 0
    · have h0 : (s.s4 == 0) = false := by rw [beq_eq_false_iff_ne]; omega
      have hl : left s.s4 i.k4 = false := by rw [left, h0, hk]; rfl
      rw [thing_4, hl]
      simp [sameTh_refl]
    · simp [hs]
theorem run7 (i : Inherit) {s : Style} (h : Bytes s) : pureK Try.prog cfg7 9 9 7 [.agg (cInherit i), .agg (cStyle s)] = some (.bool true) := by
  have hc : (checkLook i.look != 0) = !mayLook i.look := by
    rw [checkLook, look_same]; cases mayLook i.look <;> rfl
  have hk : checkLook i.look = cond (!mayLook i.look) 8 0 := by rw [checkLook, look_same]
  have hs : (check s != 0) = !may s := by
    rw [check_same h, refCheck]; cases may s <;> rfl
  have hs' : check s = cond (!may s) 8 0 := check_same h
  rw [tree7]
  unfold uE uV
  rw [hc, hk, hs, hs', check_zero]
  cases hl : mayLook i.look with
  | false => simp [sameInherit_refl]
  | true =>
    cases hm : may s with
    | false => simp [sameInherit_refl]
    | true =>
      simp only [Bool.not_true, cond_false, bne_self_eq_false, under_zero, sameInherit_refl, under_all, badQ, good_0, good_1, good_2, good_3, good_4]
theorem law7 (xs : List KV) (h : argsOk Try.prog [28, 31] xs = true) (hw : wfKs xs) (_ : deepKs Try.prog xs) : pureK Try.prog cfg7 9 9 7 xs = some (.bool true) := by
  obtain ⟨i, vs, rfl, h⟩ := argI h
  obtain ⟨s, vs, rfl, h⟩ := argS h
  cases args0 h
  exact run7 i (bytes_of (l := [.agg (cInherit i)]) hw)
end Go.Proofs.Ytadjalkkhkkdiaa.st
