/-
  Chapter 07: whose value each thing has: the law's run.
-/
import Derived.Test.YtadjalkkhkkdiaaStatesX
namespace Go.Proofs.Ytadjalkkhkkdiaa.st
open Go.K
noncomputable section
def badAnyW (n : Nat) (acc : Nat → KV) (x : Look) : Bool := cond (badW0 n acc x) true (cond (badW1 n acc x) true (cond (badW2 n acc x) true (cond (badW3 n acc x) true (badW4 n acc x))))
def stopW (n : Nat) (acc : Nat → KV) (x : Look) : Int := cond (badW0 n acc x) 0 (cond (badW1 n acc x) 1 (cond (badW2 n acc x) 2 (cond (badW3 n acc x) 3 4)))
def G6 (n : Nat) (es : List KV) (acc : Nat → KV) (x : Look) : LTell := .br (badAnyW n acc x) (.out .ret [.ts 31 .any n es acc, .bool false, .int .i64 (stopW n acc x)] [cLook x]) (.out (.exit 0) [.ts 31 .any n es acc, .bool false, .int .i64 5] [cLook x])
def F6 : LFn := fun vs rs => fT (vs.getD 0 .unk) (fun n es acc => fB (vs.getD 1 .unk) (fun a => fI (vs.getD 2 .unk) (fun b => withLook (rs.getD 0 []) (fun x => .br a .no (.br (decide (b = 0)) (.br (Nat.ble n 128) (G6 n es acc x) .no) .no)) .no) .no) .no) .no
theorem sh6 {vs : List KV} {rs : List (List KV)} (h : StOk Try.prog S6 vs rs) : ∃ n es acc a b x, vs = [.ts 31 .any n es acc, .bool a, .int .i64 b] ∧ rs = [cLook x] := by
  obtain ⟨r0, rfl⟩ := list_one h.lenr
  obtain ⟨v0, v1, v2, rfl⟩ := list_three (goodVDs_length h.v)
  have hv := h.v
  simp only [S6, goodVDs, Bool.and_eq_true] at hv
  obtain ⟨q0, h0, g0⟩ := h.r 0 _ rfl
  simp at h0
  subst h0
  obtain ⟨n, es, acc, rfl⟩ := styles_good hv.1
  refine ⟨n, es, acc, boolOf v1, intOf v2, lookOf r0, ?_, ?_⟩
  · rw [← bool_good hv.2.1, ← i64_good hv.2.2.1]
  · rw [look_of (ckK_good g0)]
theorem loop6 (n : Nat) (es : List KV) (acc : Nat → KV) (x : Look) (hn : n ≤ 128) {e : Abs.AExit} {vs' : List KV} {rs' : List (List KV)} (h : (G6 n es acc x).ev = some (e, vs', rs')) : ∃ m, iterK rd6 m [.ts 31 .any n es acc, .bool false, .int .i64 0] [cLook x] = some (e, vs', rs') := by
  have r0 := round6_0 n es acc x hn
  have r1 := round6_1 n es acc x hn
  have r2 := round6_2 n es acc x hn
  have r3 := round6_3 n es acc x hn
  have r4 := round6_4 n es acc x hn
  have r5 := tree6_5 n es acc x
  simp only [G6, LTell.ev, badAnyW, stopW] at h
  cases h0 : badW0 n acc x with
  | true =>
    rw [h0] at r0
    simp only [h0, cond_true] at h
    refine ⟨1, ?_⟩
    exact (it_o r0 rfl).trans h
  | false =>
    rw [h0] at r0
    cases h1 : badW1 n acc x with
    | true =>
      rw [h1] at r1
      simp only [h0, h1, cond_true, cond_false] at h
      refine ⟨2, ?_⟩
      exact (it_n r0).trans ((it_o r1 rfl).trans h)
    | false =>
      rw [h1] at r1
      cases h2 : badW2 n acc x with
      | true =>
        rw [h2] at r2
        simp only [h0, h1, h2, cond_true, cond_false] at h
        refine ⟨3, ?_⟩
        exact (it_n r0).trans ((it_n r1).trans ((it_o r2 rfl).trans h))
      | false =>
        rw [h2] at r2
        cases h3 : badW3 n acc x with
        | true =>
          rw [h3] at r3
          simp only [h0, h1, h2, h3, cond_true, cond_false] at h
          refine ⟨4, ?_⟩
          exact (it_n r0).trans ((it_n r1).trans ((it_n r2).trans ((it_o r3 rfl).trans h)))
        | false =>
          rw [h3] at r3
          cases h4 : badW4 n acc x with
          | true =>
            rw [h4] at r4
            simp only [h0, h1, h2, h3, h4, cond_true, cond_false] at h
            refine ⟨5, ?_⟩
            exact (it_n r0).trans ((it_n r1).trans ((it_n r2).trans ((it_n r3).trans ((it_o r4 rfl).trans h))))
          | false =>
            rw [h4] at r4
            simp only [h0, h1, h2, h3, h4, cond_false] at h
            refine ⟨6, ?_⟩
            exact (it_n r0).trans ((it_n r1).trans ((it_n r2).trans ((it_n r3).trans ((it_n r4).trans ((it_o r5 rfl).trans h)))))
def L6 : Lp := ⟨6, 506, S6, F6⟩
theorem ok6 : L6.Ok Try.prog := ⟨cfg6, 9, 9, cfg6_pc, cfg6_lp, fun vs rs e vs' rs' hok hev => by
  obtain ⟨n, es, acc, a, b, x, rfl, rfl⟩ := sh6 hok
  have hev : (LTell.br a .no (.br (decide (b = 0)) (.br (Nat.ble n 128) (G6 n es acc x) .no) .no)).ev = some (e, vs', rs') := hev
  cases a with
  | true => simp [LTell.ev] at hev
  | false =>
    by_cases hb : b = 0
    · cases hn : Nat.ble n 128 with
      | true =>
        subst hb
        simp only [LTell.ev, hn, decide_true, cond_true, cond_false] at hev
        exact loop6 n es acc x (Nat.le_of_ble_eq_true hn) hev
      | false => simp [LTell.ev, hn] at hev
    · simp [LTell.ev, hb] at hev⟩
theorem there6 : loopThere Try.prog 6 506 = true := by kernel_rfl
def pcsZ : List (Nat × (List KV → Option KV)) := [(19, q19), (16, q16), (22, q22), (14, q14), (12, q12)]
def cfgZ : Cfg := ⟨pcOf pcsZ, lpOf [L6]⟩
theorem cfgZ_pc : PcOk Try.prog cfgZ.pc := pc_all fun q hq => by
  simp only [pcsZ, List.mem_cons, List.not_mem_nil, or_false] at hq
  rcases hq with rfl | rfl | rfl | rfl | rfl
  · exact pure19
  · exact pure16
  · exact pure22
  · exact pure14
  · exact pure12
theorem cfgZ_lp : LpAll Try.prog cfgZ := lp_all funcs mixed fun l hl => by
  simp only [List.mem_cons, List.not_mem_nil, or_false] at hl
  subst hl
  exact ⟨ok6, there6⟩
theorem tree6f (n : Nat) (es : List KV) (acc : Nat → KV) : pureK Try.prog cfgZ 9 9 6 [.ts 31 .any n es acc] =
    cond (decide ((n : Int) > 128)) (some (.bool true)) (cond (errA n (goA acc n 0 begin) != 0) (some (.bool (sameLook (lookA n (goA acc n 0 begin)) zeroLook)))
      (cond (Nat.ble n 128) (cond (badAnyW n acc (lookA n (goA acc n 0 begin))) (some (.bool false)) (some (.bool (checkLook (lookA n (goA acc n 0 begin)) == 0)))) none)) := by kernel_rfl
end
end Go.Proofs.Ytadjalkkhkkdiaa.st
