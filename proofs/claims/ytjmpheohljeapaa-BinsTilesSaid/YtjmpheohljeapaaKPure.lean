/-
  Calls that the machine K enters, and functions that it tells whole.
-/
import Derived.Test.YtjmpheohljeapaaKRun
namespace Go.K
open Go Go.Abs
variable {P : Program} {E : Env}

def LpAll (P : Program) (cfg : Cfg) : Prop := ∀ f fn c, P.funcs[f]? = some fn → fn.body = some c → LpOk P cfg f c
theorem body_cases {R : Type} {cfg : Cfg} {icall : ICall R} {L : Nat} {f : FuncId} {args : List KV} {A : KSt} {k : List KV → KSt → Option R} {r : R} (hP : P.funcs.toList.all funcOk = true) (h : bodyK P cfg icall L f args A k = some r) :
    ∃ fn c, P.funcs[f]? = some fn ∧ fn.body = some c ∧ codeOk fn.ntmps c = true ∧ (fn.name == "runtime.NumGoroutine") = false ∧ codeK P cfg icall L f c 1 (endK P fn k) (argsK args 0 .leaf) A = some r := by
  unfold bodyK at h
  split at h
  · rename_i fn hf
    split at h
    · rename_i c hc
      have hf' : P.funcs[f]? = some fn := by simpa using hf
      have hok := List.all_eq_true.1 hP fn (List.mem_of_getElem? hf)
      unfold funcOk at hok
      rw [hc] at hok
      simp only [Bool.and_eq_true, Bool.not_eq_true'] at hok
      exact ⟨fn, c, hf', hc, hok.1, hok.2, h⟩
    · simp at h
  · simp at h
theorem icall_soundK {R : Type} {cfg : Cfg} (hP : P.funcs.toList.all funcOk = true) (hm : P.follows .mixedOrders = true) (hpc : PcOk P cfg.pc) (hlp : LpAll P cfg) (L : Nat) : ∀ n, ICallOk (R := R) P (icallK P cfg L n)
  | 0 => fun f args A k r h => absurd h (by simp [icallK])
  | n + 1 => fun f args A k r h => by
    have h : bodyK P cfg (icallK P cfg L n) L f args A (fun vs B => k (packK vs) B) = some r := h
    obtain ⟨fn, c, hf, hc, hok, hnm, h⟩ := body_cases hP h
    refine ⟨⟨fn, hf, by simp [hc], hnm⟩, fun E B ρ base w args' hv hj => ?_⟩
    refine (body_soundK hpc (icall_soundK hP hm hpc hlp L n) hm L hf hc hok (hlp f fn c hf hc) h hv hj).mono ?_
    rintro e w' ⟨vs, vs', E', A', B', ρ', rfl, h1, h2, h3⟩
    exact ⟨packK vs, _, E', A', B', ρ', rfl, pack_sound h1, h2, h3⟩

/-! ## Values that name nothing of the store -/
mutual
theorem VK.zK {E0 : Env} (hz : E0.z = E.z) : ∀ {v : KV} {u : Value} {c : CK}, VK P E v u → kindOk c v = true → VK P E0 v u
  | .int k n, u, c, h, _ => h
  | .bool b, u, c, h, _ => h
  | .str s, u, c, h, _ => h
  | .ts T m n es acc, u, c, h, hk => by
    cases c <;> simp [kindOk] at hk
    rename_i t
    cases m <;> simp at hk
    obtain ⟨ht, es', h1, a, cap, rfl, h2, h3, h4⟩ := h.ts_inv
    simp only [VK]
    refine ⟨ht, es', VKL.zEs hz h1 ht.typed, a, cap, rfl, h2, ?_, trivial⟩
    refine h3.imp id ?_
    rintro ⟨b, off, r, e1, e2, e3⟩
    exact ⟨b, off, r, e1, by rw [hz]; exact e2, e3⟩
  | .agg cs, u, c, h, hk => by cases c <;> simp [kindOk] at hk
  | .tup cs, u, c, h, hk => by cases c <;> simp [kindOk] at hk
  | .tp T Tc i k es acc, u, c, h, hk => by cases c <;> simp [kindOk] at hk
  | .ptr b off, u, c, h, hk => by cases c <;> simp [kindOk] at hk
  | .sl b off n cap, u, c, h, hk => by cases c <;> simp [kindOk] at hk
  | .nilp, u, c, h, hk => by cases c <;> simp [kindOk] at hk
  | .nilsl, u, c, h, hk => by cases c <;> simp [kindOk] at hk
  | .nilmap, u, c, h, hk => by cases c <;> simp [kindOk] at hk
  | .map b, u, c, h, hk => by cases c <;> simp [kindOk] at hk
  | .fn f a b, u, c, h, hk => by cases c <;> simp [kindOk] at hk
  | .nilfn, u, c, h, hk => by cases c <;> simp [kindOk] at hk
  | .iface t x, u, c, h, hk => by cases c <;> simp [kindOk] at hk
  | .nilif, u, c, h, hk => by cases c <;> simp [kindOk] at hk
  | .unk, u, c, h, hk => by cases c <;> simp [kindOk] at hk
theorem VK.zE {E0 : Env} (hz : E0.z = E.z) : ∀ {v : KV} {u : Value} {l : Lay}, VK P E v u → elemOk l v = true → VK P E0 v u
  | .int k n, u, l, h, _ => h
  | .bool b, u, l, h, _ => h
  | .str s, u, l, h, _ => h
  | .agg cs, u, l, h, hk => by
    simp only [elemOk, Bool.and_eq_true] at hk
    obtain ⟨m, rfl, h1⟩ := h.agg_inv
    exact .mkAgg (VKL.zKs hz h1 hk.2)
  | .ts T m n es acc, u, l, h, hk => by
    have hk' : ∃ c, kindOk c (.ts T m n es acc) = true := by
      simp only [elemOk, Bool.and_eq_true] at hk
      cases hks : l.ks with
      | nil => rw [hks] at hk; simp [kindsOk] at hk
      | cons c cs => rw [hks] at hk; simp only [kindsOk, Bool.and_eq_true] at hk; exact ⟨c, hk.2.1⟩
    obtain ⟨c, hk⟩ := hk'
    cases c <;> simp [kindOk] at hk
    rename_i t
    cases m <;> simp at hk
    obtain ⟨ht, es', h1, a, cap, rfl, h2, h3, h4⟩ := h.ts_inv
    simp only [VK]
    refine ⟨ht, es', VKL.zEs hz h1 ht.typed, a, cap, rfl, h2, ?_, trivial⟩
    refine h3.imp id ?_
    rintro ⟨b, off, r, e1, e2, e3⟩
    exact ⟨b, off, r, e1, by rw [hz]; exact e2, e3⟩
  | .tup cs, u, l, h, hk => by simp [elemOk] at hk
  | .tp T Tc i k es acc, u, l, h, hk => by
    obtain ⟨h1, _⟩ := elemOk_kinds hk
    cases hks : l.ks with
    | nil => rw [hks] at h1; simp [KV.cells, kindsOk] at h1
    | cons c cs => rw [hks] at h1; cases c <;> simp [KV.cells, kindsOk, kindOk] at h1
  | .ptr b off, u, l, h, hk => by
    obtain ⟨h1, _⟩ := elemOk_kinds hk
    cases hks : l.ks with
    | nil => rw [hks] at h1; simp [KV.cells, kindsOk] at h1
    | cons c cs => rw [hks] at h1; cases c <;> simp [KV.cells, kindsOk, kindOk] at h1
  | .sl b off n cap, u, l, h, hk => by
    obtain ⟨h1, _⟩ := elemOk_kinds hk
    cases hks : l.ks with
    | nil => rw [hks] at h1; simp [KV.cells, kindsOk] at h1
    | cons c cs => rw [hks] at h1; cases c <;> simp [KV.cells, kindsOk, kindOk] at h1
  | .nilp, u, l, h, hk => h
  | .nilsl, u, l, h, hk => h
  | .nilmap, u, l, h, hk => h
  | .map b, u, l, h, hk => by
    obtain ⟨h1, _⟩ := elemOk_kinds hk
    cases hks : l.ks with
    | nil => rw [hks] at h1; simp [KV.cells, kindsOk] at h1
    | cons c cs => rw [hks] at h1; cases c <;> simp [KV.cells, kindsOk, kindOk] at h1
  | .fn f a b, u, l, h, hk => by
    obtain ⟨h1, _⟩ := elemOk_kinds hk
    cases hks : l.ks with
    | nil => rw [hks] at h1; simp [KV.cells, kindsOk] at h1
    | cons c cs => rw [hks] at h1; cases c <;> simp [KV.cells, kindsOk, kindOk] at h1
  | .nilfn, u, l, h, hk => h
  | .iface t x, u, l, h, hk => by
    obtain ⟨h1, _⟩ := elemOk_kinds hk
    cases hks : l.ks with
    | nil => rw [hks] at h1; simp [KV.cells, kindsOk] at h1
    | cons c cs => rw [hks] at h1; cases c <;> simp [KV.cells, kindsOk, kindOk] at h1
  | .nilif, u, l, h, hk => h
  | .unk, u, l, h, hk => h
theorem VKL.zKs {E0 : Env} (hz : E0.z = E.z) : ∀ {vs : List KV} {us : List Value} {ks : List CK}, VKL P E vs us → kindsOk ks vs = true → VKL P E0 vs us
  | [], us, ks, h, _ => by rw [h.nil_inv]; exact .nil
  | v :: vs, us, [], h, hk => by simp [kindsOk] at hk
  | v :: vs, us, c :: ks, h, hk => by
    simp only [kindsOk, Bool.and_eq_true] at hk
    simp only [VKL] at h ⊢
    obtain ⟨y, ys, e, h1, h2⟩ := h
    exact ⟨y, ys, e, VK.zK hz h1 hk.1, VKL.zKs hz h2 hk.2⟩
theorem VKL.zEs {E0 : Env} (hz : E0.z = E.z) : ∀ {vs : List KV} {us : List Value} {l : Lay}, VKL P E vs us → elemsOk l vs = true → VKL P E0 vs us
  | [], us, l, h, _ => by rw [h.nil_inv]; exact .nil
  | v :: vs, us, l, h, hk => by
    simp only [elemsOk, Bool.and_eq_true] at hk
    simp only [VKL] at h ⊢
    obtain ⟨y, ys, e, h1, h2⟩ := h
    exact ⟨y, ys, e, VK.zE hz h1 hk.1, VKL.zEs hz h2 hk.2⟩
end
theorem VK.zNorm {E0 : Env} (hz : E0.z = E.z) {c : CK} {v : KV} {u : Value} (h : VK P E v u) : VK P E0 (K.normC c v) u := by
  have hn := h.normC (c := c)
  cases hk : kindOk c (K.normC c v) with
  | true => exact hn.zK hz hk
  | false =>
    have : K.normC c v = .unk := by
      revert hk
      unfold K.normC
      split
      · intro hk; simp [kindOk] at hk
      · rename_i t t' m n es acc
        cases hb : Nat.beq t t' with
        | false => intro _; rfl
        | true => intro hk; simp [kindOk] at hk
      · cases hb : kindOk c v with
        | false => intro _; rfl
        | true => intro hk; rw [cond_true, hb] at hk; simp at hk
    rw [this]
    exact .mkUnk
theorem VKL.zNormCs {E0 : Env} (hz : E0.z = E.z) : ∀ {ks : List CK} {cs : List KV} {l : List Value}, VKL P E cs l → cs.length = ks.length → VKL P E0 (K.normCs ks cs) l
  | [], [], l, h, _ => by rw [h.nil_inv]; exact .nil
  | [], _ :: _, _, _, e => by simp at e
  | _ :: _, [], _, _, e => by simp at e
  | c :: ks, v :: cs, l, h, e => by
    obtain ⟨y, ys, rfl, h1, h2⟩ := h.cons_inv
    exact .cons (h1.zNorm hz) (VKL.zNormCs hz h2 (by simpa using e))
theorem VK.zNormV {E0 : Env} (hz : E0.z = E.z) {l : Lay} {v : KV} {u : Value} (h : VK P E v u) : VK P E0 (K.normV l v) u := by
  unfold K.normV
  split
  · rename_i cs
    obtain ⟨m, rfl, h1⟩ := h.agg_inv
    cases hb : (l.agg && Nat.beq cs.length l.ks.length) with
    | false => exact .mkUnk
    | true =>
      simp only [Bool.and_eq_true] at hb
      exact .mkAgg (h1.zNormCs hz (Nat.eq_of_beq_eq_true hb.2))
  · cases l.agg with
    | true => exact .mkUnk
    | false =>
      rw [cond_false]
      split
      · exact h.zNorm hz
      · exact .mkUnk
theorem VK.zCanT {E0 : Env} (hz : E0.z = E.z) {t : TypeId} {v : KV} {u : Value} (h : VK P E v u) : VK P E0 (K.canT P t v) u := by
  unfold K.canT
  cases hb : elemOk (layF P t) (K.normV (layF P t) v) with
  | false => exact .mkUnk
  | true => exact VK.elemC _ hb (h.zNormV hz)
theorem VKL.zArgs {E0 : Env} (hz : E0.z = E.z) : ∀ {ts : List TypeId} {vs : List KV} {us : List Value}, VKL P E vs us → vs.length = ts.length → VKL P E0 (normArgs P ts vs) us
  | [], [], us, h, _ => by rw [h.nil_inv]; exact .nil
  | [], _ :: _, _, _, e => by simp at e
  | _ :: _, [], _, _, e => by simp at e
  | t :: ts, v :: vs, us, h, e => by
    obtain ⟨y, ys, rfl, h1, h2⟩ := h.cons_inv
    exact .cons (h1.zCanT hz) (VKL.zArgs hz h2 (by simpa using e))
theorem typedAll_args : ∀ (ts : List TypeId) (vs : List KV), typedAll P ts vs = normArgs P ts vs
  | [], vs => by cases vs <;> rfl
  | t :: ts, [] => rfl
  | t :: ts, v :: vs => by simp [typedAll, normArgs, typedAll_args ts vs]
theorem normArgs_length : ∀ {ts : List TypeId} {vs : List KV}, vs.length = ts.length → (normArgs P ts vs).length = ts.length
  | [], [], _ => rfl
  | [], _ :: _, e => by simp at e
  | _ :: _, [], e => by simp at e
  | t :: ts, v :: vs, e => by simp [normArgs, normArgs_length (ts := ts) (vs := vs) (by simpa using e)]

/-- what is left of the names in a call of its own -/
def Env.bare (E : Env) : Env := { E with κ := fun _ => none, φ := fun _ => none }
theorem KSim.bare {A : KSt} {B : St} (h : KSim P E A B) : KSim P E.bare .empty B where
  row b cs esz hb := by simp [KSt.empty, KSt.get] at hb
  fam b top sz hb := by simp [KSt.empty, KSt.get] at hb
  z := h.z
  apart b x e := by simp [Env.bare] at e
  inj b c x e := by simp [Env.bare] at e
  famInj b c g _ _ _ _ _ _ e := by simp [Env.bare] at e
  dom b x e := by simp [Env.bare] at e
  domφ b g e := by simp [Env.bare] at e
  live b o hb := by simp [KSt.empty, KSt.get] at hb
  old b x e := by simp [Env.bare] at e
  oldz := h.oldz
  oldφ b g e := by simp [Env.bare] at e
  fresh := h.fresh
  mem := h.mem
/-- behind a call of its own: the caller's names, and the trees that it brought -/
theorem Ev.bare {base : Nat} {A A1 : KSt} {B B1 : St} {ρ ρ1 : Ren} {w w1 : World} {E1 : Env} (h : KSim P E A B) (hev : Ev P base E.bare .empty B ρ w E1 A1 B1 ρ1 w1) : Ev P base E A B ρ w { E with z := E1.z } A B1 ρ1 w1 := by
  have hle : E.le { E with z := E1.z } := ⟨fun _ _ e => e, hev.le.z, fun _ _ e => e⟩
  have hkeep : ∀ x, x < B.next → B1.get x = B.get x := fun x hx => hev.keep x hx fun b e => by simp [Env.bare] at e
  have hmem : ∀ g, g < B.next → B1.members g = B.members g := fun g hg => hev.keepF g hg fun b e => by simp [Env.bare] at e
  have hnext := hev.goes.next
  refine ⟨⟨?_, ?_, hev.sim.z, ?_, h.inj, h.famInj, h.dom, h.domφ, h.live, ?_, hev.sim.oldz, ?_, hev.sim.fresh, hev.sim.mem⟩, hev.goes, hle, Nat.le_refl _, fun x hx _ => hkeep x hx, fun _ _ e => .inl e, ?_, fun _ _ e => .inl ⟨_, e⟩, fun g hg _ => hmem g hg⟩
  · intro b cs esz hb
    obtain ⟨x, c, h1, h2, h3⟩ := h.row b cs esz hb
    exact ⟨x, c, h1, by rw [hkeep x (h.old b x h1)]; exact h2, h3.mono hle⟩
  · intro b top sz hb
    rcases h.fam b top sz hb with h1 | ⟨g, h1, h2, h3⟩
    · exact .inl h1
    · have hg := h.oldφ b g h1
      refine .inr ⟨g, h1, h2, fun x hx cs e own f k hr => ?_⟩
      rw [hmem g hg] at hx
      rw [hkeep x (h.mem g x hx)] at hr
      exact h3 x hx cs e own f k hr
  · intro b x hb
    have hx := h.old b x hb
    cases hz : E1.z x with
    | none => rfl
    | some r =>
      rcases hev.newZ x r hz with e | e
      · have e : E.z x = some r := e
        rw [h.apart b x hb] at e; simp at e
      · omega
  · intro b x hb; have := h.old b x hb; omega
  · intro b g hb; have := h.oldφ b g hb; omega
  · intro b r hb
    rcases hev.newZ b r hb with e | e
    · exact .inl e
    · exact .inr e
theorem pure_ok {g : FuncId} {F : List KV → KR KV} (hP : P.funcs.toList.all funcOk = true) (hm : P.follows .mixedOrders = true)
    (h : ∀ args0 v, args0.length = (paramsOf P g).length → Gives (F (normArgs P (paramsOf P g) args0)) v → ∃ cfg L n, PcOk P cfg.pc ∧ LpAll P cfg ∧ pureK P cfg L n g (normArgs P (paramsOf P g) args0) = some v) : PureOk P g F := by
  intro args v hF hlen
  obtain ⟨cfg, L, n, hpc, hlp, hrun⟩ := h _ v hlen hF
  have hic := icall_soundK (R := KV) hP hm hpc hlp L n
  obtain ⟨fn, c, hf, hc, hok, hnm, hrun⟩ := body_cases hP hrun
  refine ⟨⟨fn, hf, by simp [hc], hnm⟩, fun E A B ρ base w args' hv hj => ?_⟩
  obtain ⟨margs, hv1, hv2⟩ := hv
  have hv0 : VCL P E.bare ρ (normArgs P (paramsOf P g) args) args' := ⟨margs, VKL.zArgs (E := E) (E0 := E.bare) rfl hv1 hlen, hv2⟩
  refine (body_soundK hpc hic hm L hf hc hok (hlp g fn c hf hc) hrun hv0 ⟨hj.k.bare, hj.s⟩).mono ?_
  rintro e w' ⟨vs, vs', E1, A1, B1, ρ1, rfl, ⟨m, h1, h1'⟩, h2, h3⟩
  have hev := Ev.bare hj.k h2
  have h3 : Bool.rec (motive := fun _ => Option KV) none (some (packK (typedAll P (resTypes P g) vs))) (Nat.beq vs.length (resTypes P g).length) = some v := h3
  cases hb : Nat.beq vs.length (resTypes P g).length with
  | false => rw [hb] at h3; exact absurd h3 (by simp)
  | true =>
    rw [hb] at h3
    have h3 : some (packK (typedAll P (resTypes P g) vs)) = some v := h3
    simp only [Option.some.injEq] at h3
    subst h3
    refine ⟨_, _, B1, ρ1, rfl, pack_sound ⟨m, ?_, h1'⟩, hev⟩
    rw [typedAll_args]
    exact VKL.zArgs (E := E1) (E0 := { E with z := E1.z }) rfl h1 (Nat.eq_of_beq_eq_true hb)
end Go.K
