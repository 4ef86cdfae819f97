/-
  The text of a path (cache.key) of this program, told whole: its run. No conditions beyond the ones it states.
-/
import Derived.Test.YtcfijkmjblcenaaGreatDoorProg
import Derived.Test.YtcfijkmjblcenaaGreatDoorShelf
import Derived.Test.YtcfijkmjblcenaaGreatDoorAbsKey
import Derived.Shelf.Strings.Builder1
import Derived.Shelf.Strconv.Itoa3
import Derived.Shelf.RegionOpenPlain
import Derived.Deep.RegionWith
import Derived.WalkKit
import Derived.Lib.Strings
import Derived.Lib.Slices
import Derived.Lib.Walk
import Derived.Lib.Builder
import Derived.Lib.AppendStr
import Derived.Lib.UnsafeStr
import Derived.Laws.Externs
set_option linter.unusedVariables false
namespace Go.Proofs.YtcfijkmjblcenaaGreatDoor.key
open Go Go.RowKit Go.Shelf
open Go.Abs (dd piece upto)

theorem bsize : (Tryz.prog.info? 328).map (·.size) = some 2 := by kernel_rfl
theorem blies : liesAt Tryz.prog Tryz.prog.depth 328 (2 / Tryz.prog.cellsOf 328) 0 328 1 = true := by kernel_rfl
theorem binfo : (Tryz.prog.info? 5).map (fun i => (i.zero, i.size, i.bytes)) = some (some (.int .u8 0), 1, 1) := by kernel_rfl
theorem mixed0 : Tryz.prog.follows .mixedOrders = true := by kernel_rfl

set_option maxHeartbeats 2000000 in
set_option maxRecDepth 100000 in
theorem copyCheck_used (b : Nat) (w : World) (h0 : w.cell? ⟨b, 0, none⟩ = some (.pointer (some ⟨b, 0, none⟩))) :
    Calls Tryz.prog 257 #[.pointer (some ⟨b, 0, none⟩)] w fun e w' => e = .returned (.tuple #[]) ∧ w' = w := by
  obtain ⟨j, hj, _⟩ := Option.map_eq_some_iff.1 bsize
  have mixed := mixed0
  have t72 := Tryz.underlying328; have a72 := Tryz.isAgg328; have z72 := Tryz.sizeOf328; have v72 := Tryz.zeroValue328; have u72 := run_underlying Tryz.underlying328
  have t70 := Tryz.underlying325; have a70 := Tryz.isAgg325; have z70 := Tryz.sizeOf325; have v70 := Tryz.zeroValue325; have u70 := run_underlying Tryz.underlying325
  have t9 := Tryz.underlying9; have a9 := Tryz.isAgg9; have z9 := Tryz.sizeOf9; have v9 := Tryz.zeroValue9; have u9 := run_underlying Tryz.underlying9
  have t4 := Tryz.underlying4; have a4 := Tryz.isAgg4; have z4 := Tryz.sizeOf4; have v4 := Tryz.zeroValue4; have u4 := run_underlying Tryz.underlying4
  have t164 := Tryz.underlying459; have a164 := Tryz.isAgg459; have z164 := Tryz.sizeOf459; have v164 := Tryz.zeroValue459; have u164 := run_underlying Tryz.underlying459
  go_enter Tryz.func257, Tryz.ntmps257
  go_wp2
  rw [Lib.run_neq_ptr_same w _ Tryz.underlying325 hj]
  go_wp2
  go_end0
  exact ⟨rfl, rfl⟩

set_option maxHeartbeats 2000000 in
set_option maxRecDepth 100000 in
theorem copyCheck_fresh (b : Nat) (w : World) (h0 : w.cell? ⟨b, 0, none⟩ = some (.pointer none)) (hsh : w.shape? b = some (328, 2)) (hfz : w.frozen? ⟨b, 0, none⟩ = false) :
    Calls Tryz.prog 257 #[.pointer (some ⟨b, 0, none⟩)] w fun e w' => e = .returned (.tuple #[]) ∧ w' = w.setCell ⟨b, 0, none⟩ (.pointer (some ⟨b, 0, none⟩)) := by
  obtain ⟨j, hj, hjs⟩ := Option.map_eq_some_iff.1 bsize
  have mixed := mixed0
  have t72 := Tryz.underlying328; have a72 := Tryz.isAgg328; have z72 := Tryz.sizeOf328; have v72 := Tryz.zeroValue328; have u72 := run_underlying Tryz.underlying328
  have t70 := Tryz.underlying325; have a70 := Tryz.isAgg325; have z70 := Tryz.sizeOf325; have v70 := Tryz.zeroValue325; have u70 := run_underlying Tryz.underlying325
  have t9 := Tryz.underlying9; have a9 := Tryz.isAgg9; have z9 := Tryz.sizeOf9; have v9 := Tryz.zeroValue9; have u9 := run_underlying Tryz.underlying9
  have t4 := Tryz.underlying4; have a4 := Tryz.isAgg4; have z4 := Tryz.sizeOf4; have v4 := Tryz.zeroValue4; have u4 := run_underlying Tryz.underlying4
  have t164 := Tryz.underlying459; have a164 := Tryz.isAgg459; have z164 := Tryz.sizeOf459; have v164 := Tryz.zeroValue459; have u164 := run_underlying Tryz.underlying459
  go_enter Tryz.func257, Tryz.ntmps257
  go_wp2
  rw [Lib.run_to_unsafe w ⟨b, 0, none⟩ Tryz.underlying325 Tryz.underlying459 hj (by rw [hjs]; decide) hsh (Nat.zero_lt_succ 1)]
  simp only [Result.andThen]
  rw [Oper.upon_value]
  go_wp2
  rw [run_callFunc_extern Tryz.func336 (by kernel_rfl) (by kernel_rfl) (by kernel_rfl) (e := Extern.AbiNoEscape.same) (by kernel_rfl)]
  rw [Lib.run_noEscape]
  simp only [Result.andThen]
  rw [Oper.upon_value]
  go_wp2
  rw [Lib.run_from_unsafe w ⟨b, 0, none⟩ Tryz.underlying459 Tryz.underlying325 hj hsh blies]
  simp only [Result.andThen]
  rw [Oper.upon_value]
  go_wp2
  go_end0
  exact ⟨rfl, rfl⟩

set_option maxHeartbeats 2000000 in
set_option maxRecDepth 100000 in
theorem copyCheck (B b : Nat) (bs : List Value) (w : World) (h : Lib.IsBuilder 328 5 B b bs w) :
    Calls Tryz.prog 257 #[.pointer (some ⟨b, 0, none⟩)] w fun e w' => e = .returned (.tuple #[]) ∧ (Lib.BuilderAt 328 5 B b (.pointer (some ⟨b, 0, none⟩)) bs w' ∧ Below B w w') := by
  rcases h with h | h
  · refine (copyCheck_fresh b w h.cell0 h.shape h.frozen0).mono ?_
    rintro e w' ⟨rfl, rfl⟩
    exact ⟨rfl, h.used _, (Below.refl B w).setCell (p := ⟨b, 0, none⟩) h.1 _⟩
  · refine (copyCheck_used b w h.cell0).mono ?_
    rintro e w' ⟨rfl, rfl⟩
    exact ⟨rfl, h, Below.refl B _⟩

set_option maxHeartbeats 2000000 in
set_option maxRecDepth 100000 in
theorem writeString (B b : Nat) (bs : List Value) (s : ByteArray) (w : World) (h : Lib.IsBuilder 328 5 B b bs w) (hlen : bs.length + s.size ≤ 140737488355328) (hBw : B ≤ w.heap.size) :
    Calls Tryz.prog 159 #[.pointer (some ⟨b, 0, none⟩), .string s] w fun e w' => e = .returned (.tuple #[.int .i64 s.size, .nilIface]) ∧ (Lib.BuilderAt 328 5 B b (.pointer (some ⟨b, 0, none⟩)) (bs ++ Lib.strCells s) w' ∧ Below B w w') := by
  obtain ⟨i0, hi, hz0, hz1, hz2⟩ := info_parts binfo
  have mixed := mixed0
  have t72 := Tryz.underlying328; have a72 := Tryz.isAgg328; have z72 := Tryz.sizeOf328; have v72 := Tryz.zeroValue328; have u72 := run_underlying Tryz.underlying328
  have t70 := Tryz.underlying325; have a70 := Tryz.isAgg325; have z70 := Tryz.sizeOf325; have v70 := Tryz.zeroValue325; have u70 := run_underlying Tryz.underlying325
  have t37 := Tryz.underlying326; have a37 := Tryz.isAgg326; have z37 := Tryz.sizeOf326; have v37 := Tryz.zeroValue326; have u37 := run_underlying Tryz.underlying326
  have t3 := Tryz.underlying3; have a3 := Tryz.isAgg3; have z3 := Tryz.sizeOf3; have v3 := Tryz.zeroValue3; have u3 := run_underlying Tryz.underlying3
  have t9 := Tryz.underlying9; have a9 := Tryz.isAgg9; have z9 := Tryz.sizeOf9; have v9 := Tryz.zeroValue9; have u9 := run_underlying Tryz.underlying9
  have t4 := Tryz.underlying4; have a4 := Tryz.isAgg4; have z4 := Tryz.sizeOf4; have v4 := Tryz.zeroValue4; have u4 := run_underlying Tryz.underlying4
  have t164 := Tryz.underlying459; have a164 := Tryz.isAgg459; have z164 := Tryz.sizeOf459; have v164 := Tryz.zeroValue459; have u164 := run_underlying Tryz.underlying459
  have t5 := Tryz.underlying5; have a5 := Tryz.isAgg5; have z5 := Tryz.sizeOf5; have v5 := Tryz.zeroValue5; have u5 := run_underlying Tryz.underlying5
  have e240 : ∀ args w, (callFunc 257 args).run Tryz.prog w = .ok (.enter 257 args) w := enters_of Tryz.func257 (by kernel_rfl) rfl
  go_enter Tryz.func159, Tryz.ntmps159
  go_wp2_with (go_at_fn 257; refine (copyCheck B b bs _ h).mono ?_)
  rintro e w1 ⟨rfl, h1, hb1⟩
  obtain ⟨hB, v, hbk, hown, hne⟩ := h1
  have c0 : w1.cell? ⟨b, 0, none⟩ = some (.pointer (some ⟨b, 0, none⟩)) := by rw [Lib.cell_of_heap hbk]; rfl
  have c1 : w1.cell? ⟨b, 1, none⟩ = some v := by rw [Lib.cell_of_heap hbk]; rfl
  go_wp2_with (at_builtin; refine Lib.wpList_append_own_string _ rfl _ _ 326 9 rfl B 5 i0 Tryz.underlying326 Tryz.underlying9 hi hz0 hz1 hz2 _ _ _ rfl hown s rfl ?c3 ?c4 ?c5 ?_)
  case c3 => unfold maxLen; omega
  case c4 => omega
  case c5 => have := hb1.size; omega
  intro v' w2 hown' hgrow _
  have hlt : b < w1.heap.size := by
    rcases Nat.lt_or_ge b w1.heap.size with h' | h'
    · exact h'
    · simp [Array.getElem?_eq_none h'] at hbk
  have hb2 : w2.heap[b]? = some (.cells #[.pointer (some ⟨b, 0, none⟩), v] 328 (0, 0)) := by
    rw [hgrow.block b hlt (fun e => hne e.symm)]
    exact hbk
  have d0 : w2.cell? ⟨b, 0, none⟩ = some (.pointer (some ⟨b, 0, none⟩)) := by rw [Lib.cell_of_heap hb2]; rfl
  have d1 : w2.cell? ⟨b, 1, none⟩ = some v := by rw [Lib.cell_of_heap hb2]; rfl
  have f1 : w2.frozen? ⟨b, 1, none⟩ = false := Lib.frozen_of_heap hb2 1
  obtain ⟨ao, n', cap, rfl⟩ : ∃ ao n' cap, v' = .slice ao n' cap := by
    rcases hown'.2 with ⟨hv, _⟩ | ⟨g, cap, cur, hv, _⟩
    · exact ⟨_, _, _, hv⟩
    · exact ⟨_, _, _, hv⟩
  go_wp2
  go_ret2
  refine ⟨rfl, ?_, ?_⟩
  · exact Lib.BuilderAt.put (T := 328) (e := 5) hB hb2 (bs' := bs ++ Lib.strCells s) (by simpa [Lib.strCells_length] using hown') (by decide)
  · exact (hb1.grown hgrow (by have := hb1.size; omega) (fun k hk => (hown.lt k hk).1)).setCell (p := ⟨b, 1, none⟩) hB _

theorem at_alloc {T e : TypeId} {B b : Nat} {p : Value} {bs : List Value} {w : World} (h : Lib.BuilderAt T e B b p bs w) (o : Obj) : Lib.BuilderAt T e B b p bs (w.alloc o) := by
  have hlt := h.lt
  obtain ⟨hB, v, hb, hown, hne⟩ := h
  exact ⟨hB, v, (Below.heap_alloc w o b hlt).trans hb, hown.alloc o, hne⟩
theorem is_alloc {T e : TypeId} {B b : Nat} {bs : List Value} {w : World} (h : Lib.IsBuilder T e B b bs w) (o : Obj) : Lib.IsBuilder T e B b bs (w.alloc o) :=
  h.imp (fun x => at_alloc x o) (fun x => at_alloc x o)
theorem is_drew {T e : TypeId} {B b : Nat} {bs : List Value} {w : World} (h : Lib.IsBuilder T e B b bs w) : Lib.IsBuilder T e B b bs w.drew := h

/-! ## The text -/
theorem dec_dd {i : Nat} (h : i < 100) : Lib.decDigits i = dd i := by
  unfold dd
  by_cases h1 : i < 10
  · rw [if_pos h1, Lib.decDigits_one h1]
  · rw [if_neg h1, Lib.decDigits_two h1 h]
theorem dec_le : ∀ i, i < 100 → (dd i).length ≤ 2 := by
  intro i _
  unfold dd
  split <;> simp
theorem itoa_run {i : Nat} (h : i < 100) (w : World) : Calls Tryz.prog 160 #[.int .i64 i] w fun e w' => e = .returned (.string ⟨(dd i).toArray⟩) ∧ w = w' :=
  (Go.Proofs.Tryz.strconv_Itoa_small i h w).mono fun e w' q => by rw [← dec_dd h]; exact ⟨q.1, q.2.symm⟩
theorem piece_le {s g : Nat} {k : Option Nat} (h1 : s < 100) (h2 : g < 100) (h3 : ∀ i, k = some i → i < 100) : (piece s g k).length ≤ 9 := by
  have a := dec_le s h1
  have b := dec_le g h2
  unfold piece
  cases k with
  | none => simp; omega
  | some i => have c := dec_le i (h3 i rfl); simp; omega
theorem upto_le {S G : Nat → Nat} {K : Nat → Option Nat} : ∀ n, (∀ i, i < n → S i < 100 ∧ G i < 100 ∧ ∀ k, K i = some k → k < 100) → (upto S G K n).length ≤ 9 * n
  | 0, _ => by simp [upto]
  | n + 1, h => by
    have := upto_le n (fun i hi => h i (by omega))
    obtain ⟨a, b, c⟩ := h n (by omega)
    have := piece_le a b c
    simp only [upto, List.length_append]
    omega

theorem cells_piece (a b : List UInt8) : Lib.strCells ((⟨a.toArray⟩ : ByteArray) ++ ⟨#[46]⟩ ++ ⟨b.toArray⟩ ++ ⟨#[32]⟩) = Lib.byteCells (a ++ [46] ++ b ++ [32]) := by
  rw [Lib.strCells_eq]
  simp [ByteArray.data_append]
theorem cells_kid (a : List UInt8) : Lib.strCells ((⟨a.toArray⟩ : ByteArray) ++ ⟨#[32]⟩) = Lib.byteCells (a ++ [32]) := by
  rw [Lib.strCells_eq]
  simp [ByteArray.data_append]

set_option maxHeartbeats 4000000 in
set_option maxRecDepth 100000 in
theorem run (bn on n cn : Nat) (ak : Option Addr) (k ck : Nat) (S G K : Nat → Nat) (w : World) (hn : n ≤ 1000) (hlt : bn < w.heap.size)
    (hS : ∀ i, i < n → w.cell? ⟨bn, on + i * 2, none⟩ = some (.int .i64 (S i))) (hG : ∀ i, i < n → w.cell? ⟨bn, on + i * 2 + 1, none⟩ = some (.int .i64 (G i)))
    (hK : ∀ i, i < k → ∃ bk ok, ak = some ⟨bk, ok, none⟩ ∧ bk < w.heap.size ∧ w.cell? ⟨bk, ok + i, none⟩ = some (.int .i64 (K i)))
    (hs : ∀ i, i < n → S i < 100 ∧ G i < 100) (hk : ∀ i, i < k → K i < 100) :
    Calls Tryz.prog 101 #[.agg #[.slice (some ⟨bn, on, none⟩) n cn, .slice ak k ck]] w fun e w' => e = .returned (.string ⟨(upto S G (fun i => if i < k then some (K i) else none) n).toArray⟩) ∧ Below w.heap.size w w' := by
  obtain ⟨T, hT⟩ : ∃ T, T = upto S G (fun i => if i < k then some (K i) else none) := ⟨_, rfl⟩
  rw [← hT]
  obtain ⟨w0, hw0⟩ : ∃ w0, w0 = w.alloc (.cells #[.slice (some ⟨bn, on, none⟩) n cn, .slice ak k ck] 82) := ⟨_, rfl⟩
  have hz0 : w0.heap.size = w.heap.size + 1 := by rw [hw0]; simp
  have h0 : Lib.IsBuilder 328 5 (w.heap.size + 1) (w.heap.size + 1) (Lib.byteCells (T 0)) (w0.alloc (.cells #[.pointer none, .slice none 0 0] 328)) := by
    have := Lib.fresh_isBuilder 328 5 w0
    rw [hz0] at this
    rw [hT]
    exact this
  have b0 : Below (w.heap.size + 1) w0 (w0.alloc (.cells #[.pointer none, .slice none 0 0] 328)) := (Below.refl _ w0).alloc (by omega) _
  have c0 : w0.cell? ⟨w.heap.size, 0, none⟩ = some (.slice (some ⟨bn, on, none⟩) n cn) := by rw [hw0, World.cell?_alloc_new]; rfl
  have c1 : w0.cell? ⟨w.heap.size, 1, none⟩ = some (.slice ak k ck) := by rw [hw0, World.cell?_alloc_new]; rfl
  have cold : ∀ p : Addr, p.block < w.heap.size → w0.cell? p = w.cell? p := fun p hp => by rw [hw0, World.cell?_alloc_lt _ _ _ hp]
  have bw : Below w.heap.size w w0 := by rw [hw0]; exact (Below.refl _ w).alloc (Nat.le_refl _) _
  have mixed := mixed0
  have hTlen : ∀ c, c ≤ n → (T c).length ≤ 9 * c := fun c hc => by
    rw [hT]
    exact upto_le c (fun i hi => ⟨(hs i (by omega)).1, (hs i (by omega)).2, fun q hq => by
      by_cases hik : i < k
      · simp only [if_pos hik] at hq
        cases hq
        exact hk i hik
      · simp [if_neg hik] at hq⟩)
  go_enter Tryz.func101, Tryz.ntmps101
  go_wp2
  rw [← hw0]
  go_loopw [9] (fun i wr => ∃ c : Nat, i = .int .i64 c ∧ c ≤ n ∧ Lib.IsBuilder 328 5 (w.heap.size + 1) (w.heap.size + 1) (Lib.byteCells (T c)) wr ∧ Below (w.heap.size + 1) w0 wr)
    (fun i _ => n - (intOf i).toNat)
  case atStart => exact ⟨0, rfl, Nat.zero_le _, h0, b0⟩
  case round =>
    obtain ⟨c, rfl, hcn, hI, hb⟩ := hrel
    have hsz := hb.size
    by_cases hc : c < n
    · have x0 : wr.cell? ⟨w.heap.size, 0, none⟩ = some (.slice (some ⟨bn, on, none⟩) n cn) := (hb.cell (p := ⟨w.heap.size, 0, none⟩) (Nat.lt_succ_self _)).trans c0
      have x1 : wr.cell? ⟨w.heap.size, 1, none⟩ = some (.slice ak k ck) := (hb.cell (p := ⟨w.heap.size, 1, none⟩) (Nat.lt_succ_self _)).trans c1
      have gS : wr.cell? ⟨bn, on + c * 2, none⟩ = some (.int .i64 (S c)) := ((hb.cell (p := ⟨bn, on + c * 2, none⟩) (Nat.lt_succ_of_lt hlt)).trans (cold ⟨bn, on + c * 2, none⟩ hlt)).trans (hS c hc)
      have gG : wr.cell? ⟨bn, on + c * 2 + 1, none⟩ = some (.int .i64 (G c)) := ((hb.cell (p := ⟨bn, on + c * 2 + 1, none⟩) (Nat.lt_succ_of_lt hlt)).trans (cold ⟨bn, on + c * 2 + 1, none⟩ hlt)).trans (hG c hc)
      have iS := fun W => itoa_run (hs c hc).1 W
      have iG := fun W => itoa_run (hs c hc).2 W
      have hI1 : ∀ o, Lib.IsBuilder 328 5 (w.heap.size + 1) (w.heap.size + 1) (Lib.byteCells (T c)) (wr.alloc o) := fun o => is_alloc hI o
      have hb1 : ∀ o, Below (w.heap.size + 1) w0 (wr.alloc o) := fun o => hb.alloc (by omega) o
      have hl0 := hTlen c hcn
      have d1 := dec_le _ (hs c hc).1
      have d2 := dec_le _ (hs c hc).2
      have n1 : ¬ (9223372036854775807 < (dd (S c)).length + 1) := by omega
      have n2 : ¬ (9223372036854775807 < (dd (S c)).length + 1 + (dd (G c)).length) := by omega
      have n3 : ¬ (9223372036854775807 < (dd (S c)).length + 1 + (dd (G c)).length + 1) := by omega
      go_wp2
      go_region_with (first
        | (go_at_call 160; first | (refine (iS _).mono ?_; rintro e w' ⟨rfl, rfl⟩) | (refine (iG _).mono ?_; rintro e w' ⟨rfl, rfl⟩))
        | (go_at_call 159; refine (writeString (w.heap.size + 1) (w.heap.size + 1) _ _ _ (is_drew (hI1 _)) (by simp [Lib.byteCells_length, ByteArray.size]; omega) (by simp; omega)).mono ?_; rintro e W1 ⟨rfl, h1, b1⟩))
      all_goals
        have hW1 : Below (w.heap.size + 1) w0 W1 := (hb1 _).drew.trans b1
        have y1 : W1.cell? ⟨w.heap.size, 1, none⟩ = some (.slice ak k ck) := (hW1.cell (p := ⟨w.heap.size, 1, none⟩) (Nat.lt_succ_self _)).trans c1
        have hsz1 := hW1.size
        have h1' : Lib.IsBuilder 328 5 (w.heap.size + 1) (w.heap.size + 1) (Lib.byteCells (T c ++ (dd (S c) ++ [46] ++ dd (G c) ++ [32]))) W1 := by
          have := h1
          rw [cells_piece, ← Lib.byteCells_append] at this
          exact Or.inr this
        clear h1 b1 hI hb hI1 hb1 iS iG x0 x1 gS gG n1 n2 n3
        by_cases hck : c < k
        · obtain ⟨bk, ok, rfl, hbk, gK0⟩ := hK c hck
          have gK : W1.cell? ⟨bk, ok + c, none⟩ = some (.int .i64 (K c)) := ((hW1.cell (p := ⟨bk, ok + c, none⟩) (Nat.lt_succ_of_lt hbk)).trans (cold ⟨bk, ok + c, none⟩ hbk)).trans gK0
          have iK := fun W => itoa_run (hk c hck) W
          have d3 := dec_le _ (hk c hck)
          have n4 : ¬ (9223372036854775807 < (dd (K c)).length + 1) := by omega
          go_wp2_with (first
            | (go_at_call 160; refine (iK _).mono ?_; rintro e w' ⟨rfl, rfl⟩)
            | (go_at_call 159; refine (writeString (w.heap.size + 1) (w.heap.size + 1) _ _ _ h1' (by simp [Lib.byteCells_length, ByteArray.size]; omega) (by omega)).mono ?_; rintro e W2 ⟨rfl, h2, b2⟩))
          have h2' : Lib.IsBuilder 328 5 (w.heap.size + 1) (w.heap.size + 1) (Lib.byteCells (T (c + 1))) W2 := by
            have := h2
            rw [cells_kid, ← Lib.byteCells_append] at this
            rw [hT]
            simp only [upto, piece, if_pos hck]
            rw [hT] at this
            refine Or.inr ?_
            simpa [List.append_assoc] using this
          go_roundw
          case rel => exact ⟨c + 1, by go_num, by omega, h2', hW1.trans b2⟩
          case measure => simp [intOf]; omega
        · have h2' : Lib.IsBuilder 328 5 (w.heap.size + 1) (w.heap.size + 1) (Lib.byteCells (T (c + 1))) W1 := by
            have := h1'
            rw [hT]
            simp only [upto, piece, if_neg hck]
            rw [hT] at this
            simpa [List.append_assoc] using this
          go_wp2
          go_roundw
          case rel => exact ⟨c + 1, by go_num, by omega, h2', hW1⟩
          case measure => simp [intOf]; omega
    · obtain rfl : c = n := by omega
      have hl0 := hTlen c hcn
      go_wp2_with (go_at_call 161; refine (Go.Proofs.Tryz.Builder_String_any (w.heap.size + 1) (w.heap.size + 1) _ _ hI (by omega)).mono ?_; rintro e W1 ⟨rfl, b1⟩)
      go_ret
      exact ⟨by first | rfl | (subst hT; rfl) | (simp only [hT]; rfl), bw.trans ((hb.trans b1).mono (by omega))⟩
theorem runs : Abs.KeyRuns Tryz.prog 101 := ⟨⟨_, Tryz.func101, by kernel_rfl, by kernel_rfl⟩, run⟩
theorem told {S : Abs.Told} (h : Abs.ToldOk Tryz.prog S) : Abs.ToldOk Tryz.prog (Abs.keyTold 101 S) := Abs.key_told runs h
end Go.Proofs.YtcfijkmjblcenaaGreatDoor.key
