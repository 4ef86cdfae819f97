/-
  Chapter 28: each pixel is in just one tile: the plain law.
-/
import Derived.Test.YtjmpheohljeapaaBinsTilesF
import Derived.Test.YtjmpheohljeapaaKPlain
namespace Go.Proofs.Ytjmpheohljeapaa.b
open Go.K
/-- the k-th tile, a in a row -/
def tileAt (w h : Int) (a : Nat) (k : Nat) : Rect :=
  ⟨w64 (Int.tmod k a * 8), w64 (w64 (Int.tdiv k a) * 8), w64 (min (w64 (w64 (Int.tmod k a * 8) + 8)) w - 1), w64 (min (w64 (w64 (w64 (Int.tdiv k a) * 8) + 8)) h - 1)⟩
theorem tileAt_eq {w h : Int} {a b i j : Nat} (hw : w ≤ 64) (hh : h ≤ 64) (hw1 : 1 ≤ w) (hh1 : 1 ≤ h) (hi : i < a) (hj : j < b) (ha : a ≤ 8) (hb : b ≤ 8) : tileAt w h a (j * a + i) = ⟨8 * (i : Int), 8 * (j : Int), min (8 * (i : Int) + 8) w - 1, min (8 * (j : Int) + 8) h - 1⟩ := by
  have e1 : Int.tmod ((j * a + i : Nat) : Int) (a : Int) = (i : Int) := by
    show Int.tmod (Int.ofNat _) (Int.ofNat _) = _
    show Int.ofNat ((j * a + i) % a) = _
    rw [Nat.mul_comm, Nat.mul_add_mod, Nat.mod_eq_of_lt hi]; rfl
  have e2 : Int.tdiv ((j * a + i : Nat) : Int) (a : Int) = (j : Int) := by
    show Int.ofNat ((j * a + i) / a) = _
    rw [Nat.mul_comm, Nat.mul_add_div (by omega), Nat.div_eq_of_lt hi, Nat.add_zero]; rfl
  unfold tileAt
  rw [e1, e2]
  have p1 : w64 ((i : Int) * 8) = (i : Int) * 8 := w64_id (by omega) (by omega)
  have p2 : w64 (j : Int) = (j : Int) := w64_id (by omega) (by omega)
  have p3 : w64 ((j : Int) * 8) = (j : Int) * 8 := w64_id (by omega) (by omega)
  have p4 : w64 ((i : Int) * 8 + 8) = (i : Int) * 8 + 8 := w64_id (by omega) (by omega)
  have p5 : w64 ((j : Int) * 8 + 8) = (j : Int) * 8 + 8 := w64_id (by omega) (by omega)
  rw [p2, p1, p3, p4, p5, w64_id (n := min ((i : Int) * 8 + 8) w - 1) (by omega) (by omega), w64_id (n := min ((j : Int) * 8 + 8) h - 1) (by omega) (by omega)]
  rw [Int.mul_comm (i : Int) 8, Int.mul_comm (j : Int) 8]
theorem tiles_spec {w h : Int} (hw1 : 1 ≤ w) (hw : w ≤ 64) (hh1 : 1 ≤ h) (hh : h ≤ 64) : ∃ (l : Sl Rect) (a b : Nat), f_bins_Tiles w h = some (l, 0) ∧ a ≤ 8 ∧ b ≤ 8 ∧ 8 * ((a : Int) - 1) < w ∧ w ≤ 8 * a ∧ 8 * ((b : Int) - 1) < h ∧ h ≤ 8 * b ∧ l.n = a * b ∧ ∀ k, k < a * b → l.get k = tileAt w h a k := by
  obtain ⟨a, ha⟩ : ∃ a : Nat, (a : Int) = (w + 7) / 8 := ⟨((w + 7) / 8).toNat, by omega⟩
  obtain ⟨b, hb⟩ : ∃ b : Nat, (b : Int) = (h + 7) / 8 := ⟨((h + 7) / 8).toNat, by omega⟩
  have qa : w64 (Int.tdiv (w64 (w64 (w + 8) - 1)) 8) = (a : Int) := by
    rw [w64_id (n := w + 8) (by omega) (by omega), w64_id (n := w + 8 - 1) (by omega) (by omega), Int.tdiv_eq_ediv_of_nonneg (by omega), w64_id (by omega) (by omega)]
    omega
  have qb : w64 (Int.tdiv (w64 (w64 (h + 8) - 1)) 8) = (b : Int) := by
    rw [w64_id (n := h + 8) (by omega) (by omega), w64_id (n := h + 8 - 1) (by omega) (by omega), Int.tdiv_eq_ediv_of_nonneg (by omega), w64_id (by omega) (by omega)]
    omega
  have ha8 : a ≤ 8 := by omega
  have hb8 : b ≤ 8 := by omega
  have hab : a * b ≤ 64 := Nat.mul_le_mul ha8 hb8
  have qn : w64 ((a : Int) * (b : Int)) = ((a * b : Nat) : Int) := by
    rw [← Int.natCast_mul]
    exact w64_id (by omega) (by omega)
  have hloop : ∃ e x', h_bins_Tiles_0 w h = .out e x' ∧ (e = .exit 0 ∧ x'.l.n = a * b ∧ ∀ k, k < a * b → x'.l.get k = tileAt w h a k) := by
    unfold h_bins_Tiles_0
    rw [qa, qb, qn]
    refine goN_rule (fun k (x : X_bins_Tiles_122) => x.w = w ∧ x.h = h ∧ x.across = a ∧ x.t31 = ((a * b : Nat) : Int) ∧ x.t32 = (k : Int) ∧ x.l.n = k ∧ ∀ m, m < k → x.l.get m = tileAt w h a m) _ (a * b) (by unfold bigN; omega) ?_ ⟨rfl, rfl, rfl, rfl, rfl, rfl, fun m hm => by omega⟩
    rintro k ⟨w', h', l, ac, n, i⟩ hk ⟨e1, e2, e3, e4, e5, e6, e7⟩
    simp only at e1 e2 e3 e4 e5 e6 e7
    subst e1 e2 e3 e4 e5
    by_cases hlt : k < a * b
    · left
      refine ⟨⟨w', h', l.push (tileAt w' h' a k), a, ((a * b : Nat) : Int), ((k + 1 : Nat) : Int)⟩, ?_, hlt, rfl, rfl, rfl, rfl, rfl, by rw [Sl.push_n, e6], fun m hm => ?_⟩
      · have d1 : decide ((k : Int) < ((a * b : Nat) : Int)) = true := by simp only [decide_eq_true_eq]; omega
        have ha0 : a ≠ 0 := by intro e; subst e; omega
        have d2 : decide ((a : Int) = 0) = false := by simp only [decide_eq_false_iff_not]; omega
        have d3 : appOk 32 l.n 1 = true := appOk_small (by omega) (by omega) (by omega) (.inl (by omega))
        simp only [step_bins_Tiles_122, d1, d2, d3, topOk_self, Bool.not_false, Bool.and_self, cond_true]
        rw [w64_id (n := (k : Int) + 1) (by omega) (by omega)]
        rfl
      · by_cases hm' : m < k
        · rw [Sl.push_old (by omega)]; exact e7 m hm'
        · have : m = l.n := by omega
          subst this
          rw [Sl.push_new, e6]
    · right
      have hk' : k = a * b := by omega
      refine ⟨.exit 0, ⟨w', h', l, a, ((a * b : Nat) : Int), (k : Int)⟩, ?_, rfl, rfl, by rw [e6, hk'], fun m hm => e7 m (by omega)⟩
      have d1 : decide ((k : Int) < ((a * b : Nat) : Int)) = false := by simp only [decide_eq_false_iff_not]; omega
      simp only [step_bins_Tiles_122, d1, topOk_self, cond_true, cond_false]
  obtain ⟨e, x', h1, rfl, h2, h3⟩ := hloop
  refine ⟨x'.l, a, b, ?_, ha8, hb8, by omega, by omega, by omega, by omega, h2, h3⟩
  have d1 : decide (min w h < 1) = false := by simp only [decide_eq_false_iff_not]; omega
  have d2 : decide (max w h > 64) = false := by simp only [decide_eq_false_iff_not]; omega
  simp only [f_bins_Tiles, d1, d2, h1, Stp.by_out, Stp.st_out, cond_false]
  rfl
/-- the area of k tiles, i of them in the last row, j rows ahead of it -/
theorem bins_law (w h x y : Int) : f_l28_BinsTiles w h x y = some true := by
  by_cases hs : 1 ≤ w ∧ w ≤ 64 ∧ 1 ≤ h ∧ h ≤ 64
  · obtain ⟨hw1, hw, hh1, hh⟩ := hs
    obtain ⟨l, a, b, hf, ha8, hb8, ha1, ha2, hb1, hb2, hn, hget⟩ := tiles_spec hw1 hw hh1 hh
    have hab : a * b ≤ 64 := Nat.mul_le_mul ha8 hb8
    have ha0 : 0 < a := by omega
    have e0 : h_l28_BinsTiles_0 w h x y = some (l, 0) := hf
    let inside : Prop := 0 ≤ x ∧ x < w ∧ 0 ≤ y ∧ y < h
    have hloop : ∃ e x', h_l28_BinsTiles_1 w h x y = .out e x' ∧ (e = .exit 0 ∧ x'.w = w ∧ x'.h = h ∧ x'.x = x ∧ x'.y = y ∧ x'.ok = true ∧ x'.all = w * h ∧ ((inside ∧ x'.in_ = 1) ∨ (¬ inside ∧ x'.in_ = 0))) := by
      unfold h_l28_BinsTiles_1
      rw [e0]
      refine goN_rule (fun k (s : X_l28_BinsTiles_506) => s.w = w ∧ s.h = h ∧ s.x = x ∧ s.y = y ∧ s.ok = true ∧ s.l = l ∧ s.i = (k : Int) ∧ ∃ i j : Nat, k = j * a + i ∧ i < a ∧ (j < b ∨ (j = b ∧ i = 0)) ∧
        s.all = w * min (8 * (j : Int)) h + 8 * (i : Int) * (min (8 * (j : Int) + 8) h - min (8 * (j : Int)) h) ∧ (((inside ∧ (y / 8 < j ∨ (y / 8 = j ∧ x / 8 < i))) ∧ s.in_ = 1) ∨ (¬ (inside ∧ (y / 8 < j ∨ (y / 8 = j ∧ x / 8 < i))) ∧ s.in_ = 0))) _ (a * b) (by unfold bigN; omega) ?_ ?_
      · rintro k ⟨w', h', x', y', t8, ok, l', in_, all, i'⟩ hk ⟨e1, e2, e3, e4, e5, e6, e7, i, j, hkij, hi, hj, hall, hin⟩
        simp only at e1 e2 e3 e4 e5 e6 e7 hall hin
        subst e1 e2 e3 e4 e5 e6 e7
        by_cases hlt : k < a * b
        · left
          have hjb : j < b := by
            rcases hj with hj | ⟨rfl, rfl⟩
            · exact hj
            · rw [hkij, Nat.mul_comm] at hlt; omega
          have ht : l'.get (Int.toNat (k : Int)) = ⟨8 * (i : Int), 8 * (j : Int), min (8 * (i : Int) + 8) w' - 1, min (8 * (j : Int) + 8) h' - 1⟩ := by
            rw [Int.toNat_natCast, hget k hlt, hkij]
            exact tileAt_eq hw hh hw1 hh1 hi hjb ha8 hb8
          have hi8 : 8 * (i : Int) < w' := by omega
          have hj8 : 8 * (j : Int) < h' := by omega
          have m1 : min (8 * (j : Int)) h' = 8 * j := by omega
          rw [m1] at hall
          -- the width and the height of this tile
          obtain ⟨dw, hdw⟩ : ∃ dw : Int, dw = min (8 * (i : Int) + 8) w' - 8 * i := ⟨_, rfl⟩
          obtain ⟨dh, hdh⟩ : ∃ dh : Int, dh = min (8 * (j : Int) + 8) h' - 8 * j := ⟨_, rfl⟩
          rw [← hdh] at hall
          have b1 : 1 ≤ dw ∧ dw ≤ 8 := by omega
          have b2 : 1 ≤ dh ∧ dh ≤ 8 := by omega
          have area : dw * dh ≤ 64 ∧ 0 ≤ dw * dh := ⟨by
            calc dw * dh ≤ 8 * 8 := Int.mul_le_mul b1.2 b2.2 (by omega) (by omega)
              _ = 64 := rfl, Int.mul_nonneg (by omega) (by omega)⟩
          have ball : 0 ≤ all ∧ all ≤ 8192 := by
            have c1 : w' * (8 * j) ≤ 64 * 64 := Int.mul_le_mul hw (by omega) (by omega) (by omega)
            have c2 : 0 ≤ w' * (8 * j) := Int.mul_nonneg (by omega) (by omega)
            have c3 : 8 * (i : Int) * dh ≤ 64 * 8 := Int.mul_le_mul (by omega) (by omega) (by omega) (by omega)
            have c4 : 0 ≤ 8 * (i : Int) * dh := Int.mul_nonneg (by omega) (by omega)
            omega
          have bin : 0 ≤ in_ ∧ in_ ≤ 1 := by rcases hin with ⟨_, e⟩ | ⟨_, e⟩ <;> rw [e] <;> omega
          have wdw : w64 (dw - 1 + 1) = dw := by rw [w64_id (by omega) (by omega)]; omega
          have wdh : w64 (dh - 1 + 1) = dh := by rw [w64_id (by omega) (by omega)]; omega
          have wall : w64 (all + w64 (dw * dh)) = all + dw * dh := by
            rw [w64_id (n := dw * dh) (by omega) (by omega), w64_id (by omega) (by omega)]
          have win : w64 (in_ + 1) = in_ + 1 := w64_id (by omega) (by omega)
          have wk : w64 ((k : Int) + 1) = ((k + 1 : Nat) : Int) := by rw [w64_id (by omega) (by omega)]; omega
          have wx : w64 (min (8 * (i : Int) + 8) w' - 1 - 8 * i) = dw - 1 := by rw [w64_id (by omega) (by omega)]; omega
          have wy : w64 (min (8 * (j : Int) + 8) h' - 1 - 8 * j) = dh - 1 := by rw [w64_id (by omega) (by omega)]; omega
          have d1 : decide ((k : Int) < ((l'.n : Nat) : Int)) = true := by rw [hn]; simp only [decide_eq_true_eq]; omega
          have d2 : decide ((0 : Int) ≤ (k : Int)) = true := by simp only [decide_eq_true_eq]; omega
          have d3 : decide (8 * (i : Int) < 0) = false := by simp only [decide_eq_false_iff_not]; omega
          have d4 : decide (8 * (i : Int) > min (8 * (i : Int) + 8) w' - 1) = false := by simp only [decide_eq_false_iff_not]; omega
          have d5 : decide (min (8 * (i : Int) + 8) w' - 1 ≥ w') = false := by simp only [decide_eq_false_iff_not]; omega
          have d6 : decide (dw - 1 > 7) = false := by simp only [decide_eq_false_iff_not]; omega
          have d7 : decide (8 * (j : Int) < 0) = false := by simp only [decide_eq_false_iff_not]; omega
          have d8 : decide (8 * (j : Int) > min (8 * (j : Int) + 8) h' - 1) = false := by simp only [decide_eq_false_iff_not]; omega
          have d9 : decide (min (8 * (j : Int) + 8) h' - 1 ≥ h') = false := by simp only [decide_eq_false_iff_not]; omega
          have d10 : decide (dh - 1 > 7) = false := by simp only [decide_eq_false_iff_not]; omega
          -- how the next one counts
          let hit : Prop := x' ≥ 8 * (i : Int) ∧ x' ≤ min (8 * (i : Int) + 8) w' - 1 ∧ y' ≥ 8 * (j : Int) ∧ y' ≤ min (8 * (j : Int) + 8) h' - 1
          have hhit : hit ↔ (inside ∧ y' / 8 = j ∧ x' / 8 = i) := by
            simp only [hit, inside]
            omega
          refine ⟨⟨w', h', x', y', t8, true, l', if hit then in_ + 1 else in_, all + dw * dh, ((k + 1 : Nat) : Int)⟩, ?_, hlt, rfl, rfl, rfl, rfl, rfl, rfl, rfl, ?_⟩
          · simp only [step_l28_BinsTiles_506, ht, d1, d2, wdw, wdh, wall, win, wk, wx, wy, d3, d4, d5, d6, d7, d8, d9, d10, Bool.and_self, cond_true, cond_false]
            by_cases g1 : x' ≥ 8 * (i : Int)
            · by_cases g2 : x' ≤ min (8 * (i : Int) + 8) w' - 1
              · by_cases g3 : y' ≥ 8 * (j : Int)
                · by_cases g4 : y' ≤ min (8 * (j : Int) + 8) h' - 1
                  · have : hit := ⟨g1, g2, g3, g4⟩
                    simp only [g1, g2, g3, g4, decide_true, cond_true, if_pos this]
                  · have : ¬ hit := fun q => g4 q.2.2.2
                    simp only [g1, g2, g3, g4, decide_true, decide_false, cond_true, cond_false, if_neg this]
                · have : ¬ hit := fun q => g3 q.2.2.1
                  simp only [g1, g2, g3, decide_true, decide_false, cond_true, cond_false, if_neg this]
              · have : ¬ hit := fun q => g2 q.2.1
                simp only [g1, g2, decide_true, decide_false, cond_true, cond_false, if_neg this]
            · have : ¬ hit := fun q => g1 q.1
              simp only [g1, decide_false, cond_false, if_neg this]
          · by_cases hia : i + 1 < a
            · refine ⟨i + 1, j, by omega, hia, .inl hjb, ?_, ?_⟩
              · show all + dw * dh = w' * min (8 * (j : Int)) h' + 8 * ((i + 1 : Nat) : Int) * (min (8 * (j : Int) + 8) h' - min (8 * (j : Int)) h')
                have : dw = 8 := by omega
                rw [m1, ← hdh, hall, this]
                have e : (8 * ((i + 1 : Nat) : Int)) * dh = 8 * (i : Int) * dh + 8 * dh := by
                  rw [← Int.add_mul]; congr 1
                rw [e]; omega
              · show (_ ∧ (if hit then in_ + 1 else in_) = 1) ∨ (_ ∧ (if hit then in_ + 1 else in_) = 0)
                by_cases g : hit
                · rw [if_pos g]
                  have g' := hhit.1 g
                  rcases hin with ⟨q, _⟩ | ⟨_, e⟩
                  · omega
                  · exact .inl ⟨⟨g'.1, by omega⟩, by omega⟩
                · rw [if_neg g]
                  have g' : ¬ (inside ∧ y' / 8 = j ∧ x' / 8 = i) := fun q => g (hhit.2 q)
                  rcases hin with ⟨⟨q1, q2⟩, e⟩ | ⟨q, e⟩
                  · exact .inl ⟨⟨q1, by omega⟩, e⟩
                  · refine .inr ⟨fun ⟨q1, q2⟩ => ?_, e⟩
                    by_cases q3 : y' / 8 < j ∨ (y' / 8 = j ∧ x' / 8 < i)
                    · exact q ⟨q1, q3⟩
                    · exact g' ⟨q1, by omega, by omega⟩
            · have hi' : i + 1 = a := by omega
              refine ⟨0, j + 1, ?_, ha0, ?_, ?_, ?_⟩
              · rw [hkij, Nat.add_mul]; omega
              · omega
              · show all + dw * dh = w' * min (8 * ((j + 1 : Nat) : Int)) h' + 8 * ((0 : Nat) : Int) * _
                have c1 : 8 * (i : Int) + dw = w' := by omega
                have c2 : min (8 * ((j + 1 : Nat) : Int)) h' = 8 * j + dh := by omega
                have c3 : (8 * ((0 : Nat) : Int)) * (min (8 * ((j + 1 : Nat) : Int) + 8) h' - min (8 * ((j + 1 : Nat) : Int)) h') = 0 := by simp
                rw [c3, c2, hall, Int.mul_add]
                have c4 : w' * dh = 8 * (i : Int) * dh + dw * dh := by rw [← Int.add_mul, c1]
                rw [c4]; omega
              · show (_ ∧ (if hit then in_ + 1 else in_) = 1) ∨ (_ ∧ (if hit then in_ + 1 else in_) = 0)
                have hxi : inside → x' / 8 ≤ i := fun q => by have := q.2.1; omega
                by_cases g : hit
                · rw [if_pos g]
                  have g' := hhit.1 g
                  rcases hin with ⟨q, _⟩ | ⟨_, e⟩
                  · omega
                  · exact .inl ⟨⟨g'.1, by omega⟩, by omega⟩
                · rw [if_neg g]
                  have g' : ¬ (inside ∧ y' / 8 = j ∧ x' / 8 = i) := fun q => g (hhit.2 q)
                  rcases hin with ⟨⟨q1, q2⟩, e⟩ | ⟨q, e⟩
                  · exact .inl ⟨⟨q1, by omega⟩, e⟩
                  · refine .inr ⟨fun ⟨q1, q2⟩ => ?_, e⟩
                    have := hxi q1
                    by_cases q3 : y' / 8 < j ∨ (y' / 8 = j ∧ x' / 8 < i)
                    · exact q ⟨q1, q3⟩
                    · exact g' ⟨q1, by omega, by omega⟩
        · right
          have hk' : k = a * b := by omega
          have hjb : j = b ∧ i = 0 := by
            rcases hj with hj | hj
            · exfalso
              have : (j + 1) * a ≤ b * a := Nat.mul_le_mul_right a hj
              rw [Nat.add_mul, Nat.mul_comm b a] at this
              omega
            · exact hj
          obtain ⟨rfl, rfl⟩ := hjb
          refine ⟨.exit 0, ⟨w', h', x', y', t8, true, l', in_, all, (k : Int)⟩, ?_, rfl, rfl, rfl, rfl, rfl, rfl, rfl, ?_, ?_⟩
          · have d1 : decide ((k : Int) < ((l'.n : Nat) : Int)) = false := by rw [hn]; simp only [decide_eq_false_iff_not]; omega
            simp only [step_l28_BinsTiles_506, d1, cond_false]
          · show all = w' * h'
            rw [hall, show min (8 * (j : Int)) h' = h' by omega]
            simp
          · have hyj : inside → y' / 8 < j := fun q => by have := q.2.2.2; omega
            rcases hin with ⟨⟨q1, _⟩, e⟩ | ⟨q, e⟩
            · exact .inl ⟨q1, e⟩
            · exact .inr ⟨fun q1 => q ⟨q1, .inl (hyj q1)⟩, e⟩
      · refine ⟨rfl, rfl, rfl, rfl, rfl, rfl, rfl, 0, 0, by simp, ha0, .inl (by omega), ?_, .inr ⟨fun ⟨q1, q2⟩ => ?_, rfl⟩⟩
        · show (0 : Int) = w * min (8 * ((0 : Nat) : Int)) h + 8 * ((0 : Nat) : Int) * _
          have : min (8 * ((0 : Nat) : Int)) h = 0 := by omega
          rw [this]; simp
        · have := q1.1; have := q1.2.2.1; omega
    obtain ⟨e, s, h1, rfl, r1, r2, r3, r4, r5, r6, r7⟩ := hloop
    have hwh : w64 (w * h) = w * h := by
      have c1 : w * h ≤ 64 * 64 := Int.mul_le_mul hw hh (by omega) (by omega)
      have c2 : 0 ≤ w * h := Int.mul_nonneg (by omega) (by omega)
      exact w64_id (by omega) (by omega)
    have hq : (w * h == w * h) = true := by simp
    unfold f_l28_BinsTiles
    simp only [e0, h1, Stp.by_out, Stp.st_out, r1, r2, r3, r4, r5, r6, hwh, hq, Option.isSome_some, Option.getD_some, cond_true]
    have s0 : sameExit (Abs.AExit.exit 0) (Abs.AExit.exit 0) = true := rfl
    have n0 : ((0 : Int) != 0) = false := rfl
    simp only [s0, n0, cond_true, cond_false]
    rcases r7 with ⟨q, e⟩ | ⟨q, e⟩
    · obtain ⟨q1, q2, q3, q4⟩ := q
      simp [e, q1, q2, q3, q4]
    · rw [e]
      by_cases g1 : x ≥ 0
      · by_cases g2 : x < w
        · by_cases g3 : y ≥ 0
          · have g4 : ¬ y < h := fun g4 => q ⟨g1, g2, g3, g4⟩
            simp [g1, g2, g3, g4]
          · simp [g1, g2, g3]
        · simp [g1, g2]
      · simp [g1]
  · have e0 : ∃ l : Sl Rect, l.n = 0 ∧ h_l28_BinsTiles_0 w h x y = some (l, 2) := by
      unfold h_l28_BinsTiles_0 f_bins_Tiles
      refine ⟨⟨0, fun _ => ⟨0, 0, 0, 0⟩⟩, rfl, ?_⟩
      by_cases g : min w h < 1
      · rw [decide_eq_true g]; rfl
      · have g2 : max w h > 64 := by omega
        rw [decide_eq_false g, decide_eq_true g2]; rfl
    obtain ⟨l, hl, e0⟩ := e0
    unfold f_l28_BinsTiles
    simp [e0, hl]
end Go.Proofs.Ytjmpheohljeapaa.b
