/-
  Plain models of the program's functions, shown by the machine K: bins_Tiles. No conditions.
-/
import Derived.Test.YtjmpheohljeapaaBase
namespace Go.Proofs.Ytjmpheohljeapaa.b
open Go.K
set_option linter.unusedVariables false
set_option linter.unusedSimpArgs false
noncomputable section
structure Rect where
  x0 : Int
  y0 : Int
  x1 : Int
  y1 : Int
instance : Inhabited Rect := ⟨⟨default, default, default, default⟩⟩
def cRect (x : Rect) : List KV := [.int .i64 x.x0, .int .i64 x.y0, .int .i64 x.x1, .int .i64 x.y1]
def kRect (x : Rect) : KV := .agg (cRect x)
def rRect (c : Nat → KV) : Rect := ⟨intOf (c 0), intOf (c 1), intOf (c 2), intOf (c 3)⟩
def pRect (v : KV) : Rect := rRect fun k => v.cells.getD k .unk
theorem kp_Rect (x : Rect) : pRect (kRect x) = x := rfl
theorem pd_Rect : pRect .unk = default := rfl
theorem push_Rect (s : Sl Rect) (v : Rect) : s.push v = slK pRect (s.n + 1) (joinAcc s.n (fun i => kRect (s.get i)) (defAcc [kRect v])) := (slK_push kp_Rect pd_Rect s v).symm
theorem join_Rect (s t : Sl Rect) : s.join t = slK pRect (s.n + t.n) (joinAcc s.n (fun i => kRect (s.get i)) (fun i => kRect (t.get i))) := (slK_join kp_Rect s t).symm
structure X_bins_Tiles_122 where
  w : Int
  h : Int
  l : (Sl Rect)
  across : Int
  t31 : Int
  t32 : Int
instance : Inhabited X_bins_Tiles_122 := ⟨⟨default, default, default, default, default, default⟩⟩
def ev_bins_Tiles_122 (x : X_bins_Tiles_122) : List KV := [.int .i64 x.w, .int .i64 x.h, kSl 60 kRect x.l, .int .i64 x.across, .int .i64 x.t31, .int .i64 x.t32]
def er_bins_Tiles_122 (x : X_bins_Tiles_122) : List (List KV) := []
def pa_bins_Tiles_122 (vs : List KV) (rs : List (List KV)) : X_bins_Tiles_122 := ⟨intOf (vs.getD 0 .unk), intOf (vs.getD 1 .unk), pSl pRect (vs.getD 2 .unk), intOf (vs.getD 3 .unk), intOf (vs.getD 4 .unk), intOf (vs.getD 5 .unk)⟩
def S_bins_Tiles_122 : LSpec := ⟨[(0, ⟨false, [.k (.int .i64)]⟩), (1, ⟨false, [.k (.int .i64)]⟩), (4, ⟨false, [.fam 60]⟩), (6, ⟨false, [.k (.int .i64)]⟩), (31, ⟨false, [.k (.int .i64)]⟩), (32, ⟨false, [.k (.int .i64)]⟩)], [], []⟩
def rd_bins_Tiles_122 := roundK Try.prog (cfgOf Try.prog [] []) 9 9 21 122 (bodyOf Try.prog 21 122) S_bins_Tiles_122
def step_bins_Tiles_122 (x : X_bins_Tiles_122) : Stp X_bins_Tiles_122 :=
  (cond (decide (x.t32 < x.t31))
   (cond (!(decide (x.across = (0 : Int))))
    (cond (!(decide (x.across = (0 : Int))))
     (cond ((topOk x.l.n x.l.n) && (appOk 32 x.l.n 1))
      (cond (topOk (x.l.n + 1) (x.l.n + 1))
       (.next (⟨x.w, x.h, (x.l.push (⟨(w64 ((Int.tmod x.t32 x.across) * (8 : Int))), (w64 ((w64 (Int.tdiv x.t32 x.across)) * (8 : Int))), (w64 ((min (w64 ((w64 ((Int.tmod x.t32 x.across) * (8 : Int))) + (8 : Int))) x.w) - (1 : Int))), (w64 ((min (w64 ((w64 ((w64 (Int.tdiv x.t32 x.across)) * (8 : Int))) + (8 : Int))) x.h) - (1 : Int)))⟩ : Rect)), x.across, x.t31, (w64 (x.t32 + (1 : Int)))⟩ : X_bins_Tiles_122))
       .fail)
      .fail)
     .fail)
    .fail)
   (cond (topOk x.l.n x.l.n)
    (.out (Abs.AExit.exit 0) x)
    .fail))
theorem tree_bins_Tiles_122 (x : X_bins_Tiles_122) : rd_bins_Tiles_122 (ev_bins_Tiles_122 x) (er_bins_Tiles_122 x) = Stp.enc ev_bins_Tiles_122 er_bins_Tiles_122 (step_bins_Tiles_122 x) := by
  unfold step_bins_Tiles_122
  try simp only [Stp.enc_cond, push_Rect, join_Rect, push_Int, join_Int, push_Bool, join_Bool]
  kernel_rfl
def L_bins_Tiles_122 : Lp := ⟨21, 122, S_bins_Tiles_122, fun vs rs => tellBy ev_bins_Tiles_122 er_bins_Tiles_122 (goN step_bins_Tiles_122 (pa_bins_Tiles_122 vs rs)) [Abs.AExit.exit 0]⟩
theorem ok_bins_Tiles_122 : L_bins_Tiles_122.Ok Try.prog := loop_typed funcs mixed PcsOk.nil LpsOk.nil (L := 9) (n := 9) (step := step_bins_Tiles_122) (ev := ev_bins_Tiles_122) (er := er_bins_Tiles_122) (pa := pa_bins_Tiles_122) rfl (fun wv wr => ⟨by kernel_rfl, by kernel_rfl⟩) tree_bins_Tiles_122
theorem there_bins_Tiles_122 : loopThere Try.prog L_bins_Tiles_122.f L_bins_Tiles_122.p = true := by kernel_rfl
def ps_bins_Tiles : List (Nat × (List KV → KR KV)) := []
def ls_bins_Tiles : List Lp := [L_bins_Tiles_122]
theorem psok_bins_Tiles : PcsOk Try.prog ps_bins_Tiles := PcsOk.nil
theorem lsok_bins_Tiles : LpsOk Try.prog ls_bins_Tiles := (LpsOk.cons ok_bins_Tiles_122 there_bins_Tiles_122 LpsOk.nil)
def h_bins_Tiles_0 (w : Int) (h : Int) : (Stp X_bins_Tiles_122) := (goN step_bins_Tiles_122 (⟨w, h, (⟨0, (fun i => (⟨(0 : Int), (0 : Int), (0 : Int), (0 : Int)⟩ : Rect))⟩ : Sl _), (w64 (Int.tdiv (w64 ((w64 (w + (8 : Int))) - (1 : Int))) (8 : Int))), (w64 ((w64 (Int.tdiv (w64 ((w64 (w + (8 : Int))) - (1 : Int))) (8 : Int))) * (w64 (Int.tdiv (w64 ((w64 (h + (8 : Int))) - (1 : Int))) (8 : Int))))), (0 : Int)⟩ : X_bins_Tiles_122))
def f_bins_Tiles (w : Int) (h : Int) : Option ((Sl Rect) × Int) :=
  (cond (decide ((min w h) < (1 : Int)))
   (some ((⟨0, (fun i => (⟨(0 : Int), (0 : Int), (0 : Int), (0 : Int)⟩ : Rect))⟩ : Sl _), (2 : Int)))
   (cond (decide ((max w h) > (64 : Int)))
    (some ((⟨0, (fun i => (⟨(0 : Int), (0 : Int), (0 : Int), (0 : Int)⟩ : Rect))⟩ : Sl _), (2 : Int)))
    (cond ((h_bins_Tiles_0 w h).by (Abs.AExit.exit 0))
     (some ((h_bins_Tiles_0 w h).st.l, (0 : Int)))
     none)))
theorem run_bins_Tiles (w : Int) (h : Int) : pureK Try.prog (cfgOf Try.prog ps_bins_Tiles ls_bins_Tiles) 9 9 21 [(kI .i64) w, (kI .i64) h] = (f_bins_Tiles w h).map (fun (r : (Sl Rect) × Int) => KV.tup [(kSl 60 kRect) r.1, (kI .i64) r.2]) := by
  unfold f_bins_Tiles
  try simp only [map_cond, push_Rect, join_Rect, push_Int, join_Int, push_Bool, join_Bool]
  kernel_rfl
def F_bins_Tiles : List KV → KR KV := guardF Try.prog 21 (typedF (fun (r : (Sl Rect) × Int) => KV.tup [(kSl 60 kRect) r.1, (kI .i64) r.2]) fun vs => f_bins_Tiles (intOf (vs.getD 0 .unk)) (intOf (vs.getD 1 .unk)))
theorem form_bins_Tiles (w : Nat → KV) : formA Try.prog [3, 3] w 0 = [(kI .i64) (intOf (elemC Try.prog (canonC Try.prog canonD) 3 (w 0))), (kI .i64) (intOf (elemC Try.prog (canonC Try.prog canonD) 3 (w 1)))] := by kernel_rfl
theorem pure_bins_Tiles : PureOk Try.prog 21 F_bins_Tiles := pure_typed funcs mixed psok_bins_Tiles lsok_bins_Tiles (L := 9) (n := 9) fun w => by
  have e : paramsOf Try.prog 21 = [3, 3] := by kernel_rfl
  rw [e, form_bins_Tiles]
  exact (run_bins_Tiles (intOf (elemC Try.prog (canonC Try.prog canonD) 3 (w 0))) (intOf (elemC Try.prog (canonC Try.prog canonD) 3 (w 1)))).trans (by kernel_rfl)
end
end Go.Proofs.Ytjmpheohljeapaa.b
