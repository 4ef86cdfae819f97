/-
  Plain models of the program's functions, shown by the machine K: l28_BinsTiles. No conditions.
-/
import Derived.Test.YtjmpheohljeapaaTiles
import Derived.Test.YtjmpheohljeapaaAlive28
namespace Go.Proofs.Ytjmpheohljeapaa.b
open Go.K
set_option linter.unusedVariables false
set_option linter.unusedSimpArgs false
noncomputable section
structure X_l28_BinsTiles_506 where
  w : Int
  h : Int
  x : Int
  y : Int
  t8 : Bool
  ok : Bool
  l : (Sl Rect)
  in_ : Int
  all : Int
  i : Int
instance : Inhabited X_l28_BinsTiles_506 := ⟨⟨default, default, default, default, default, default, default, default, default, default⟩⟩
def ev_l28_BinsTiles_506 (x : X_l28_BinsTiles_506) : List KV := [.int .i64 x.w, .int .i64 x.h, .int .i64 x.x, .int .i64 x.y, .bool x.t8, .bool x.ok, kSl 60 kRect x.l, .int .i64 x.in_, .int .i64 x.all, .int .i64 x.i]
def er_l28_BinsTiles_506 (x : X_l28_BinsTiles_506) : List (List KV) := []
def pa_l28_BinsTiles_506 (vs : List KV) (rs : List (List KV)) : X_l28_BinsTiles_506 := ⟨intOf (vs.getD 0 .unk), intOf (vs.getD 1 .unk), intOf (vs.getD 2 .unk), intOf (vs.getD 3 .unk), boolOf (vs.getD 4 .unk), boolOf (vs.getD 5 .unk), pSl pRect (vs.getD 6 .unk), intOf (vs.getD 7 .unk), intOf (vs.getD 8 .unk), intOf (vs.getD 9 .unk)⟩
def S_l28_BinsTiles_506 : LSpec := ⟨[(0, ⟨false, [.k (.int .i64)]⟩), (1, ⟨false, [.k (.int .i64)]⟩), (2, ⟨false, [.k (.int .i64)]⟩), (3, ⟨false, [.k (.int .i64)]⟩), (8, ⟨false, [.k .bool]⟩), (9, ⟨false, [.k .bool]⟩), (10, ⟨false, [.k (.slice 60)]⟩), (12, ⟨false, [.k (.int .i64)]⟩), (13, ⟨false, [.k (.int .i64)]⟩), (14, ⟨false, [.k (.int .i64)]⟩)], [], []⟩
def rd_l28_BinsTiles_506 := roundK Try.prog (cfgOf Try.prog [(21, F_bins_Tiles), (20, F_l28_alive)] [L_bins_Tiles_122]) 9 9 4 506 (bodyOf Try.prog 4 506) S_l28_BinsTiles_506
def step_l28_BinsTiles_506 (x : X_l28_BinsTiles_506) : Stp X_l28_BinsTiles_506 :=
  (cond (decide (x.i < ((x.l.n : Nat) : Int)))
   (cond ((decide ((0 : Int) ≤ x.i)) && (decide (x.i < ((x.l.n : Nat) : Int))))
    (cond (decide ((x.l.get (Int.toNat x.i)).x0 < (0 : Int)))
     (.out Abs.AExit.ret (⟨x.w, x.h, x.x, x.y, false, x.ok, x.l, x.in_, x.all, x.i⟩ : X_l28_BinsTiles_506))
     (cond (decide ((x.l.get (Int.toNat x.i)).x0 > (x.l.get (Int.toNat x.i)).x1))
      (.out Abs.AExit.ret (⟨x.w, x.h, x.x, x.y, false, x.ok, x.l, x.in_, x.all, x.i⟩ : X_l28_BinsTiles_506))
      (cond (decide ((x.l.get (Int.toNat x.i)).x1 ≥ x.w))
       (.out Abs.AExit.ret (⟨x.w, x.h, x.x, x.y, false, x.ok, x.l, x.in_, x.all, x.i⟩ : X_l28_BinsTiles_506))
       (cond (decide ((w64 ((x.l.get (Int.toNat x.i)).x1 - (x.l.get (Int.toNat x.i)).x0)) > (7 : Int)))
        (.out Abs.AExit.ret (⟨x.w, x.h, x.x, x.y, false, x.ok, x.l, x.in_, x.all, x.i⟩ : X_l28_BinsTiles_506))
        (cond (decide ((x.l.get (Int.toNat x.i)).y0 < (0 : Int)))
         (.out Abs.AExit.ret (⟨x.w, x.h, x.x, x.y, false, x.ok, x.l, x.in_, x.all, x.i⟩ : X_l28_BinsTiles_506))
         (cond (decide ((x.l.get (Int.toNat x.i)).y0 > (x.l.get (Int.toNat x.i)).y1))
          (.out Abs.AExit.ret (⟨x.w, x.h, x.x, x.y, false, x.ok, x.l, x.in_, x.all, x.i⟩ : X_l28_BinsTiles_506))
          (cond (decide ((x.l.get (Int.toNat x.i)).y1 ≥ x.h))
           (.out Abs.AExit.ret (⟨x.w, x.h, x.x, x.y, false, x.ok, x.l, x.in_, x.all, x.i⟩ : X_l28_BinsTiles_506))
           (cond (decide ((w64 ((x.l.get (Int.toNat x.i)).y1 - (x.l.get (Int.toNat x.i)).y0)) > (7 : Int)))
            (.out Abs.AExit.ret (⟨x.w, x.h, x.x, x.y, false, x.ok, x.l, x.in_, x.all, x.i⟩ : X_l28_BinsTiles_506))
            (cond (decide (x.x ≥ (x.l.get (Int.toNat x.i)).x0))
             (cond (decide (x.x ≤ (x.l.get (Int.toNat x.i)).x1))
              (cond (decide (x.y ≥ (x.l.get (Int.toNat x.i)).y0))
               (cond (decide (x.y ≤ (x.l.get (Int.toNat x.i)).y1))
                (.next (⟨x.w, x.h, x.x, x.y, x.t8, x.ok, x.l, (w64 (x.in_ + (1 : Int))), (w64 (x.all + (w64 ((w64 ((w64 ((x.l.get (Int.toNat x.i)).x1 - (x.l.get (Int.toNat x.i)).x0)) + (1 : Int))) * (w64 ((w64 ((x.l.get (Int.toNat x.i)).y1 - (x.l.get (Int.toNat x.i)).y0)) + (1 : Int))))))), (w64 (x.i + (1 : Int)))⟩ : X_l28_BinsTiles_506))
                (.next (⟨x.w, x.h, x.x, x.y, x.t8, x.ok, x.l, x.in_, (w64 (x.all + (w64 ((w64 ((w64 ((x.l.get (Int.toNat x.i)).x1 - (x.l.get (Int.toNat x.i)).x0)) + (1 : Int))) * (w64 ((w64 ((x.l.get (Int.toNat x.i)).y1 - (x.l.get (Int.toNat x.i)).y0)) + (1 : Int))))))), (w64 (x.i + (1 : Int)))⟩ : X_l28_BinsTiles_506)))
               (.next (⟨x.w, x.h, x.x, x.y, x.t8, x.ok, x.l, x.in_, (w64 (x.all + (w64 ((w64 ((w64 ((x.l.get (Int.toNat x.i)).x1 - (x.l.get (Int.toNat x.i)).x0)) + (1 : Int))) * (w64 ((w64 ((x.l.get (Int.toNat x.i)).y1 - (x.l.get (Int.toNat x.i)).y0)) + (1 : Int))))))), (w64 (x.i + (1 : Int)))⟩ : X_l28_BinsTiles_506)))
              (.next (⟨x.w, x.h, x.x, x.y, x.t8, x.ok, x.l, x.in_, (w64 (x.all + (w64 ((w64 ((w64 ((x.l.get (Int.toNat x.i)).x1 - (x.l.get (Int.toNat x.i)).x0)) + (1 : Int))) * (w64 ((w64 ((x.l.get (Int.toNat x.i)).y1 - (x.l.get (Int.toNat x.i)).y0)) + (1 : Int))))))), (w64 (x.i + (1 : Int)))⟩ : X_l28_BinsTiles_506)))
             (.next (⟨x.w, x.h, x.x, x.y, x.t8, x.ok, x.l, x.in_, (w64 (x.all + (w64 ((w64 ((w64 ((x.l.get (Int.toNat x.i)).x1 - (x.l.get (Int.toNat x.i)).x0)) + (1 : Int))) * (w64 ((w64 ((x.l.get (Int.toNat x.i)).y1 - (x.l.get (Int.toNat x.i)).y0)) + (1 : Int))))))), (w64 (x.i + (1 : Int)))⟩ : X_l28_BinsTiles_506)))))))))))
    .fail)
   (.out (Abs.AExit.exit 0) x))
theorem tree_l28_BinsTiles_506 (x : X_l28_BinsTiles_506) : rd_l28_BinsTiles_506 (ev_l28_BinsTiles_506 x) (er_l28_BinsTiles_506 x) = Stp.enc ev_l28_BinsTiles_506 er_l28_BinsTiles_506 (step_l28_BinsTiles_506 x) := by
  unfold step_l28_BinsTiles_506
  try simp only [Stp.enc_cond, push_Rect, join_Rect, push_Int, join_Int, push_Bool, join_Bool]
  kernel_rfl
def L_l28_BinsTiles_506 : Lp := ⟨4, 506, S_l28_BinsTiles_506, fun vs rs => tellBy ev_l28_BinsTiles_506 er_l28_BinsTiles_506 (goN step_l28_BinsTiles_506 (pa_l28_BinsTiles_506 vs rs)) [Abs.AExit.exit 0, Abs.AExit.ret]⟩
theorem ok_l28_BinsTiles_506 : L_l28_BinsTiles_506.Ok Try.prog := loop_typed funcs mixed (PcsOk.cons pure_bins_Tiles (PcsOk.cons pure_l28_alive PcsOk.nil)) (LpsOk.cons ok_bins_Tiles_122 there_bins_Tiles_122 LpsOk.nil) (L := 9) (n := 9) (step := step_l28_BinsTiles_506) (ev := ev_l28_BinsTiles_506) (er := er_l28_BinsTiles_506) (pa := pa_l28_BinsTiles_506) rfl (fun wv wr => ⟨by kernel_rfl, by kernel_rfl⟩) tree_l28_BinsTiles_506
theorem there_l28_BinsTiles_506 : loopThere Try.prog L_l28_BinsTiles_506.f L_l28_BinsTiles_506.p = true := by kernel_rfl
def ps_l28_BinsTiles : List (Nat × (List KV → KR KV)) := [(21, F_bins_Tiles), (20, F_l28_alive)]
def ls_l28_BinsTiles : List Lp := [L_l28_BinsTiles_506]
theorem psok_l28_BinsTiles : PcsOk Try.prog ps_l28_BinsTiles := (PcsOk.cons pure_bins_Tiles (PcsOk.cons pure_l28_alive PcsOk.nil))
theorem lsok_l28_BinsTiles : LpsOk Try.prog ls_l28_BinsTiles := (LpsOk.cons ok_l28_BinsTiles_506 there_l28_BinsTiles_506 LpsOk.nil)
def h_l28_BinsTiles_0 (w : Int) (h : Int) (x : Int) (y : Int) : (Option (Prod (Sl Rect) Int)) := (f_bins_Tiles w h)
def h_l28_BinsTiles_1 (w : Int) (h : Int) (x : Int) (y : Int) : (Stp X_l28_BinsTiles_506) := (goN step_l28_BinsTiles_506 (⟨w, h, x, y, false, true, ((h_l28_BinsTiles_0 w h x y).getD default).fst, (0 : Int), (0 : Int), (0 : Int)⟩ : X_l28_BinsTiles_506))
def f_l28_BinsTiles (w : Int) (h : Int) (x : Int) (y : Int) : Option (Bool) :=
  (cond (h_l28_BinsTiles_0 w h x y).isSome
   (cond (((h_l28_BinsTiles_0 w h x y).getD default).snd != (0 : Int))
    (some ((((((h_l28_BinsTiles_0 w h x y).getD default).fst.n : Nat) : Int) == (0 : Int))))
    (cond ((h_l28_BinsTiles_1 w h x y).by (Abs.AExit.exit 0))
     (cond (decide ((h_l28_BinsTiles_1 w h x y).st.x ≥ (0 : Int)))
      (cond (decide ((h_l28_BinsTiles_1 w h x y).st.x < (h_l28_BinsTiles_1 w h x y).st.w))
       (cond (decide ((h_l28_BinsTiles_1 w h x y).st.y ≥ (0 : Int)))
        (cond (h_l28_BinsTiles_1 w h x y).st.ok
         (cond ((h_l28_BinsTiles_1 w h x y).st.all == (w64 ((h_l28_BinsTiles_1 w h x y).st.w * (h_l28_BinsTiles_1 w h x y).st.h)))
          (cond (((h_l28_BinsTiles_1 w h x y).st.in_ == (1 : Int)) == (decide ((h_l28_BinsTiles_1 w h x y).st.y < (h_l28_BinsTiles_1 w h x y).st.h)))
           (some ((decide ((h_l28_BinsTiles_1 w h x y).st.in_ ≤ (1 : Int)))))
           (some (false)))
          (some (false)))
         (some (false)))
        (cond (h_l28_BinsTiles_1 w h x y).st.ok
         (cond ((h_l28_BinsTiles_1 w h x y).st.all == (w64 ((h_l28_BinsTiles_1 w h x y).st.w * (h_l28_BinsTiles_1 w h x y).st.h)))
          (cond (((h_l28_BinsTiles_1 w h x y).st.in_ == (1 : Int)) == false)
           (some ((decide ((h_l28_BinsTiles_1 w h x y).st.in_ ≤ (1 : Int)))))
           (some (false)))
          (some (false)))
         (some (false))))
       (cond (h_l28_BinsTiles_1 w h x y).st.ok
        (cond ((h_l28_BinsTiles_1 w h x y).st.all == (w64 ((h_l28_BinsTiles_1 w h x y).st.w * (h_l28_BinsTiles_1 w h x y).st.h)))
         (cond (((h_l28_BinsTiles_1 w h x y).st.in_ == (1 : Int)) == false)
          (some ((decide ((h_l28_BinsTiles_1 w h x y).st.in_ ≤ (1 : Int)))))
          (some (false)))
         (some (false)))
        (some (false))))
      (cond (h_l28_BinsTiles_1 w h x y).st.ok
       (cond ((h_l28_BinsTiles_1 w h x y).st.all == (w64 ((h_l28_BinsTiles_1 w h x y).st.w * (h_l28_BinsTiles_1 w h x y).st.h)))
        (cond (((h_l28_BinsTiles_1 w h x y).st.in_ == (1 : Int)) == false)
         (some ((decide ((h_l28_BinsTiles_1 w h x y).st.in_ ≤ (1 : Int)))))
         (some (false)))
        (some (false)))
       (some (false))))
     (cond ((h_l28_BinsTiles_1 w h x y).by Abs.AExit.ret)
      (some ((h_l28_BinsTiles_1 w h x y).st.t8))
      none)))
   none)
theorem run_l28_BinsTiles (w : Int) (h : Int) (x : Int) (y : Int) : pureK Try.prog (cfgOf Try.prog ps_l28_BinsTiles ls_l28_BinsTiles) 9 9 4 [(kI .i64) w, (kI .i64) h, (kI .i64) x, (kI .i64) y] = (f_l28_BinsTiles w h x y).map kB := by
  unfold f_l28_BinsTiles
  try simp only [map_cond, push_Rect, join_Rect, push_Int, join_Int, push_Bool, join_Bool]
  kernel_rfl
def F_l28_BinsTiles : List KV → KR KV := guardF Try.prog 4 (typedF kB fun vs => f_l28_BinsTiles (intOf (vs.getD 0 .unk)) (intOf (vs.getD 1 .unk)) (intOf (vs.getD 2 .unk)) (intOf (vs.getD 3 .unk)))
theorem form_l28_BinsTiles (w : Nat → KV) : formA Try.prog [3, 3, 3, 3] w 0 = [(kI .i64) (intOf (elemC Try.prog (canonC Try.prog canonD) 3 (w 0))), (kI .i64) (intOf (elemC Try.prog (canonC Try.prog canonD) 3 (w 1))), (kI .i64) (intOf (elemC Try.prog (canonC Try.prog canonD) 3 (w 2))), (kI .i64) (intOf (elemC Try.prog (canonC Try.prog canonD) 3 (w 3)))] := by kernel_rfl
theorem pure_l28_BinsTiles : PureOk Try.prog 4 F_l28_BinsTiles := pure_typed funcs mixed psok_l28_BinsTiles lsok_l28_BinsTiles (L := 9) (n := 9) fun w => by
  have e : paramsOf Try.prog 4 = [3, 3, 3, 3] := by kernel_rfl
  rw [e, form_l28_BinsTiles]
  exact (run_l28_BinsTiles (intOf (elemC Try.prog (canonC Try.prog canonD) 3 (w 0))) (intOf (elemC Try.prog (canonC Try.prog canonD) 3 (w 1))) (intOf (elemC Try.prog (canonC Try.prog canonD) 3 (w 2))) (intOf (elemC Try.prog (canonC Try.prog canonD) 3 (w 3)))).trans (by kernel_rfl)
end
end Go.Proofs.Ytjmpheohljeapaa.b
